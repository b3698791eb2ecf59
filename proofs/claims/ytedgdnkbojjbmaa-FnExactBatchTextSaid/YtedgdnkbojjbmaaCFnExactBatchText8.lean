/- Proved: the law FnExactBatchText of the given program returns true for every input of its Go types and leaves each argument as it was; no condition. (Part 9 of 9.) -/
import Derived.Test.YtedgdnkbojjbmaaRows
import Derived.Test.YtedgdnkbojjbmaaCFnExactBatchText5
import Derived.Test.YtedgdnkbojjbmaaCFnExactBatchText6
import Derived.Test.YtedgdnkbojjbmaaCFnExactBatchText7
import Derived.WalkKit
import Derived.ProofKit
import Derived.OpenShut
import Derived.ShutString
import Derived.ChangeOld
import Derived.Below
import Derived.SizedLaws
section
namespace Go.Proofs.Ytedgdnkbojjbmaa.fnExactBatchText
open Go.ChangeShapes Go.WideShapes Go.ChangeAt Go.RowKit
open Go.ChangeMaps (open_string shut_string)
open Go.Proofs.Ytedgdnkbojjbmaa.P
open Go.Proofs.YtedgdnkbojjbmaaW.PrintWords Go.Proofs.YtedgdnkbojjbmaaW.PrintLast Go.Proofs.YtedgdnkbojjbmaaW.PrintMore
set_option linter.unusedVariables false
set_option linter.unusedSimpArgs false
theorem len3 {α : Type} {l : List α} (h : l.length = 3) : ∃ a0 a1 a2, l = [a0, a1, a2] := by
  match l, h with
  | [a0, a1, a2], _ => exact ⟨a0, a1, a2, rfl⟩
theorem len2 {α : Type} {l : List α} (h : l.length = 2) : ∃ a0 a1, l = [a0, a1] := by
  match l, h with
  | [a0, a1], _ => exact ⟨a0, a1, rfl⟩
set_option maxRecDepth 100000 in
theorem opens134 : Opens Try.prog k134 134 (fun x => wf_Op x) := by
  intro H enc w fuel cs x h
  obtain ⟨xs, n, _, _, hl, hx, hq⟩ := DataW.trod_struct Try.underlying134 h
  have e0 := hq 0 _ rfl
  rw [List.getElem?_eq_getElem (show 0 < xs.length by rw [hx]; decide)] at e0
  obtain ⟨a0, ha0, hw0⟩ := (opens_i64 Try.underlying2) enc w n _ _ e0
  have e1 := hq 1 _ rfl
  rw [List.getElem?_eq_getElem (show 1 < xs.length by rw [hx]; decide)] at e1
  obtain ⟨a1, ha1, hw1⟩ := (opens_str Try.underlying9) enc w n _ _ e1
  have e2 := hq 2 _ rfl
  rw [List.getElem?_eq_getElem (show 2 < xs.length by rw [hx]; decide)] at e2
  obtain ⟨a2, ha2, hw2⟩ := (opens_str Try.underlying9) enc w n _ _ e2
  have hl : cs.length = 3 := hl.trans (by kernel_rfl)
  refine ⟨⟨a0, a1, a2⟩, ?_, ?_⟩
  · obtain ⟨c0, c1, c2, rfl⟩ := len3 hl
    exact ⟨[c0], [c1, c2], rfl, ha0, ⟨[c1], [c2], rfl, ha1, ha2⟩⟩
  · unfold wf_Op
    simp only [] at *
    exact ⟨hw0.1, hw0.2, hw1, hw2⟩
theorem own : ownKnob Try.prog.godebug = none := by kernel_rfl
theorem laidOut : laidOutB Try.prog = true := by kernel_rfl
set_option maxRecDepth 100000 in
theorem lifted (os : Os) (started : os.Started) (H : Type) (enc : TypeId × Value → H) :
    ReturnsInHanded {} Try.checked os 10 .any (Rows.fnExactBatchTextSpec.pre6 enc Try.prog Try.f10 Rows.fnExactBatchTextRow.domain false) (Rows.fnExactBatchTextSpec.post enc Try.prog Try.f10 false true false false) := by
  refine returnsInHanded_of_change_sized (C := Try.checked) own started (by kernel_rfl) Try.func10
    (ChangeSpec.witness6 (enc := enc) (C := Try.checked) false ⟨#[], #[.agg #[.int .i64 0, .slice none 0 0]], []⟩ 8 (by kernel_rfl) (by kernel_rfl) (by kernel_rfl) (by kernel_rfl)) ?_
  intro W base args ds gs before hval0 hW hcnd hsz0 _
  have hval : ∀ (j : Nat) t v, Try.f10.params[j]? = some t → args[j]? = some v → Value.okWide Try.prog W .any base t v := hval0
  have hW' := hW
  obtain ⟨p, q, hA0, hV, rfl, hfz, hnd⟩ := hW
  have hA : DataW.TrodAll enc Try.prog W 0 (fun _ => true) true Try.f10.params.toList args.toList ds p := hA0
  rw [Try.params10] at hA hval
  obtain ⟨v0, vs0, d0, ds0, p0, q0, hargs, rfl, rfl, h0, r0⟩ := trodAll_cons hA
  obtain ⟨rfl, rfl, rfl⟩ := trodAll_nil r0
  obtain rfl : args = #[v0] := by cases args; simp_all
  obtain ⟨rfl, rfl⟩ := trodVars_none hV
  have k0 := h0
  have lt0 : ∀ x ∈ p0, x.block < W.heap.size := by obtain ⟨m, hm⟩ := k0; exact DataW.trod_lt m _ _ _ hm
  obtain ⟨cs0, rfl, _⟩ := okWide_struct Try.underlying65 (hval 0 65 v0 rfl rfl)
  obtain ⟨fuel0, hf0⟩ := h0
  obtain ⟨xs0, n0, _, _, hl0, hx0, hq0⟩ := DataW.trod_struct Try.underlying65 hf0
  obtain ⟨z0_0, z0_1, hcs0⟩ := len2 (hl0.trans (by kernel_rfl) : (Value.agg cs0).cells.toList.length = 2)
  rw [hcs0] at hq0
  have e0_0 := hq0 0 _ rfl
  rw [List.getElem?_eq_getElem (show 0 < xs0.length by rw [hx0]; decide)] at e0_0
  obtain ⟨b0_0, hb0_0, hw0_0⟩ := (opens_i64 Try.underlying2) enc W n0 _ _ e0_0
  replace hb0_0 : (Kd.int .i64).K W b0_0 [z0_0] := hb0_0
  obtain rfl := List.head_eq_of_cons_eq hb0_0
  have e0_1 := hq0 1 _ rfl
  rw [List.getElem?_eq_getElem (show 1 < xs0.length by rw [hx0]; decide)] at e0_1
  obtain ⟨b0_1, hb0_1, hw0_1⟩ := (opens_slice Try.underlying63 (by kernel_rfl) opens134) enc W n0 _ _ e0_1
  replace hb0_1 : (Kd.slice 134 k134).K W b0_1 [z0_1] := hb0_1
  obtain ⟨A0_1, c0_1, hz0_1, hl0_1, hr0_1⟩ := hb0_1
  obtain rfl := List.head_eq_of_cons_eq hz0_1
  obtain rfl : cs0 = #[.int .i64 b0_0, .slice A0_1 b0_1.length c0_1] := Array.toList_inj.1 hcs0
  clear hA0 hval0 hsz0
  have hP := Pure.FnExactBatchText b0_0 b0_1 hw0_0 hw0_1
  obtain ⟨k, hk⟩ := Ev.rounds hP
  refine (laws_FnExactBatchText.calls k b0_0 A0_1 c0_1 b0_1 true W hr0_1 hl0_1 hk).mono fun e W' hE => ?_
  obtain ⟨rfl, bel0⟩ := hE
  have bel : Below W.heap.size W W' := by first | exact bel0 | exact bel0.below
  exact ⟨_, rfl, _, _, _, [], _, [], hW', trodAll_mk1 (shut_bool Try.underlying4 _), (trodAll_cons_mk (Below.trod laidOut (by kernel_rfl) (of_decide_eq_true (by kernel_rfl)) k0 bel lt0) trodAll_mk0), rfl, bel.frame _, fun h => by cases h⟩
theorem over : Rows.fnExactBatchTextRow.holds Try.pinned (OpenSpec.ofChange Rows.fnExactBatchTextSpec) :=
  OpenClaim.holds_of_wide 10 Try.f10 rfl rfl rfl rfl rfl rfl rfl ⟨rfl, rfl, rfl, rfl, rfl⟩ rfl rfl rfl rfl rfl (by kernel_rfl) Try.func10 (by kernel_rfl)
    (of_decide_eq_true (by kernel_rfl)) (by unfold Func.isWrapper; first | (rw [if_pos (by decide +kernel)]; kernel_rfl) | (rw [if_neg (by decide +kernel)]; exact ⟨rfl, rfl⟩))
    (fun os started H enc _ => lifted os started H enc)
theorem proved : Rows.FnExactBatchTextSaid := over
#print axioms proved
end Go.Proofs.Ytedgdnkbojjbmaa.fnExactBatchText
namespace Go.Proofs.Ytedgdnkbojjbmaa
theorem fnExactBatchText_holds : Rows.FnExactBatchTextSaid := fnExactBatchText.proved
end Go.Proofs.Ytedgdnkbojjbmaa
end
