/- Proved: the law FnExactMemPut of the given program returns true for every input of its Go types and leaves each argument as it was; no condition. (Part 12 of 12.) -/
import Derived.Test.YtbojfnijgmppbaaRows
import Derived.Test.YtbojfnijgmppbaaCFnExactMemPut9
import Derived.Test.YtbojfnijgmppbaaCFnExactMemPut10
import Derived.WalkKit
import Derived.ProofKit
import Derived.OpenShut
import Derived.ShutString
import Derived.ChangeOld
import Derived.Below
import Derived.SizedLaws
section
namespace Go.Proofs.Ytbojfnijgmppbaa.fnExactMemPut
open Go.ChangeShapes Go.WideShapes Go.ChangeAt Go.RowKit
open Go.ChangeMaps (open_string shut_string)
open Go.Proofs.Ytbojfnijgmppbaa.P
open Go.Proofs.YtbojfnijgmppbaaW.PrintWords Go.Proofs.YtbojfnijgmppbaaW.PrintLast Go.Proofs.YtbojfnijgmppbaaW.PrintMore
set_option linter.unusedVariables false
set_option linter.unusedSimpArgs false
theorem len3 {α : Type} {l : List α} (h : l.length = 3) : ∃ a0 a1 a2, l = [a0, a1, a2] := by
  match l, h with
  | [a0, a1, a2], _ => exact ⟨a0, a1, a2, rfl⟩
theorem len4 {α : Type} {l : List α} (h : l.length = 4) : ∃ a0 a1 a2 a3, l = [a0, a1, a2, a3] := by
  match l, h with
  | [a0, a1, a2, a3], _ => exact ⟨a0, a1, a2, a3, rfl⟩
set_option maxRecDepth 100000 in
theorem opens54 : Opens Try.prog k54 54 (fun x => wf_Key x) := by
  intro H enc w fuel cs x h
  obtain ⟨xs, n, _, _, hl, hx, hq⟩ := DataW.trod_struct Try.underlying54 h
  have e0 := hq 0 _ rfl
  rw [List.getElem?_eq_getElem (show 0 < xs.length by rw [hx]; decide)] at e0
  obtain ⟨a0, ha0, hw0⟩ := (opens_str Try.underlying9) enc w n _ _ e0
  have e1 := hq 1 _ rfl
  rw [List.getElem?_eq_getElem (show 1 < xs.length by rw [hx]; decide)] at e1
  obtain ⟨a1, ha1, hw1⟩ := (opens_i64 Try.underlying2) enc w n _ _ e1
  have e2 := hq 2 _ rfl
  rw [List.getElem?_eq_getElem (show 2 < xs.length by rw [hx]; decide)] at e2
  obtain ⟨a2, ha2, hw2⟩ := (opens_i64 Try.underlying2) enc w n _ _ e2
  have hl : cs.length = 3 := hl.trans (by kernel_rfl)
  refine ⟨⟨a0, a1, a2⟩, ?_, ?_⟩
  · obtain ⟨c0, c1, c2, rfl⟩ := len3 hl
    exact ⟨[c0], [c1, c2], rfl, ha0, ⟨[c1], [c2], rfl, ha1, ha2⟩⟩
  · unfold wf_Key
    simp only [] at *
    exact ⟨hw0, hw1.1, hw1.2, hw2.1, hw2.2⟩
set_option maxRecDepth 100000 in
theorem opens56 : Opens Try.prog k56 56 (fun x => wf_Entry x) := by
  intro H enc w fuel cs x h
  obtain ⟨xs, n, _, _, hl, hx, hq⟩ := DataW.trod_struct Try.underlying56 h
  have e0 := hq 0 _ rfl
  rw [List.getElem?_eq_getElem (show 0 < xs.length by rw [hx]; decide)] at e0
  obtain ⟨a0, ha0, hw0⟩ := opens54 enc w n _ _ e0
  have e1 := hq 1 _ rfl
  rw [List.getElem?_eq_getElem (show 1 < xs.length by rw [hx]; decide)] at e1
  obtain ⟨a1, ha1, hw1⟩ := (opens_str Try.underlying9) enc w n _ _ e1
  have hl : cs.length = 4 := hl.trans (by kernel_rfl)
  refine ⟨⟨a0, a1⟩, ?_, ?_⟩
  · obtain ⟨c0, c1, c2, c3, rfl⟩ := len4 hl
    exact ⟨[c0, c1, c2], [c3], rfl, ha0, ha1⟩
  · unfold wf_Entry
    unfold wf_Key at hw0
    simp_all only [and_self, and_assoc, true_and]
theorem own : ownKnob Try.prog.godebug = none := by kernel_rfl
theorem laidOut : laidOutB Try.prog = true := by kernel_rfl
set_option maxHeartbeats 4000000 in
set_option maxRecDepth 100000 in
theorem lifted (os : Os) (started : os.Started) (H : Type) (enc : TypeId × Value → H) :
    ReturnsInHanded {} Try.checked os 7 .any (Rows.fnExactMemPutSpec.pre6 enc Try.prog Try.f7 Rows.fnExactMemPutRow.domain false) (Rows.fnExactMemPutSpec.post enc Try.prog Try.f7 false true false false) := by
  refine returnsInHanded_of_change_sized (C := Try.checked) own started (by kernel_rfl) Try.func7
    (ChangeSpec.witness6 (enc := enc) (C := Try.checked) false ⟨#[], #[.slice none 0 0, .agg #[.string ByteArray.empty, .int .i64 0, .int .i64 0, .string ByteArray.empty]], []⟩ 8 (by kernel_rfl) (by kernel_rfl) (by kernel_rfl) (by kernel_rfl)) ?_
  intro W base args ds gs before hval0 hW hcnd hsz0 _
  have hval : ∀ (j : Nat) t v, Try.f7.params[j]? = some t → args[j]? = some v → Value.okWide Try.prog W .any base t v := hval0
  have hW' := hW
  obtain ⟨p, q, hA0, hV, rfl, hfz, hnd⟩ := hW
  have hA : DataW.TrodAll enc Try.prog W 0 (fun _ => true) true Try.f7.params.toList args.toList ds p := hA0
  rw [Try.params7] at hA hval
  obtain ⟨v0, vs0, d0, ds0, p0, q0, hargs, rfl, rfl, h0, r0⟩ := trodAll_cons hA
  obtain ⟨v1, vs1, d1, ds1, p1, q1, rfl, rfl, rfl, h1, r1⟩ := trodAll_cons r0
  obtain ⟨rfl, rfl, rfl⟩ := trodAll_nil r1
  obtain rfl : args = #[v0, v1] := by cases args; simp_all
  obtain ⟨rfl, rfl⟩ := trodVars_none hV
  have k0 := h0
  have lt0 : ∀ x ∈ p0, x.block < W.heap.size := by obtain ⟨m, hm⟩ := k0; exact DataW.trod_lt m _ _ _ hm
  obtain ⟨w0, m0, e0, rfl⟩ := okWide_slice Try.underlying29 (hval 0 29 v0 rfl rfl)
  obtain ⟨fuel0, hf0⟩ := h0
  obtain ⟨b0, hx0, hw0⟩ := (opens_slice Try.underlying29 (by kernel_rfl) opens56) enc W fuel0 _ _ hf0
  obtain ⟨A0, c0, hcs0, hl0, hr0⟩ := hx0
  have hcs0 := List.head_eq_of_cons_eq (show [Value.slice w0 m0 e0] = [_] from hcs0)
  injection hcs0 with f1 f2 f3
  subst f1 f2 f3
  have k1 := h1
  have lt1 : ∀ x ∈ p1, x.block < W.heap.size := by obtain ⟨m, hm⟩ := k1; exact DataW.trod_lt m _ _ _ hm
  obtain ⟨cs1, rfl, _⟩ := okWide_struct Try.underlying56 (hval 1 56 v1 rfl rfl)
  obtain ⟨fuel1, hf1⟩ := h1
  obtain ⟨xs1, n1, _, _, hl1, hx1, hq1⟩ := DataW.trod_struct Try.underlying56 hf1
  obtain ⟨z1_0, z1_1, z1_2, z1_3, hcs1⟩ := len4 (hl1.trans (by kernel_rfl) : (Value.agg cs1).cells.toList.length = 4)
  rw [hcs1] at hq1
  have e1_0 := hq1 0 _ rfl
  rw [List.getElem?_eq_getElem (show 0 < xs1.length by rw [hx1]; decide)] at e1_0
  obtain ⟨b1_0, hb1_0, hw1_0⟩ := opens54 enc W n1 _ _ e1_0
  replace hb1_0 : k54.K W b1_0 [z1_0, z1_1, z1_2] := hb1_0
  have hz1_0 := k54_open hb1_0
  injection hz1_0 with y0 ys0
  injection ys0 with y1 ys1
  injection ys1 with y2 ys2
  subst y0 y1 y2
  unfold wf_Key at hw1_0
  have e1_1 := hq1 1 _ rfl
  rw [List.getElem?_eq_getElem (show 1 < xs1.length by rw [hx1]; decide)] at e1_1
  obtain ⟨b1_3, hb1_3, hw1_3⟩ := (opens_str Try.underlying9) enc W n1 _ _ e1_1
  replace hb1_3 : Kd.string.K W b1_3 [z1_3] := hb1_3
  obtain rfl := List.head_eq_of_cons_eq hb1_3
  obtain rfl : cs1 = #[.string b1_0.f0, .int .i64 b1_0.f1, .int .i64 b1_0.f2, .string b1_3] := Array.toList_inj.1 hcs1
  clear hA0 hval0 hsz0
  have hP := Pure.FnExactMemPut b0 b1_0.f0 b1_0.f1 b1_0.f2 b1_3 hw0 hw1_0.1 ⟨hw1_0.2.1, hw1_0.2.2.1⟩ ⟨hw1_0.2.2.2.1, hw1_0.2.2.2.2⟩ hw1_3
  obtain ⟨k, hk⟩ := Ev.rounds hP
  refine (laws_FnExactMemPut.calls k w0 e0 b0 b1_0.f0 b1_0.f1 b1_0.f2 b1_3 true W hr0 hl0 hk).mono fun e W' hE => ?_
  obtain ⟨rfl, bel0⟩ := hE
  have bel : Below W.heap.size W W' := by first | exact bel0 | exact bel0.below
  exact ⟨_, rfl, _, _, _, [], _, [], hW', trodAll_mk1 (shut_bool Try.underlying4 _), (trodAll_cons_mk (Below.trod laidOut (by kernel_rfl) (of_decide_eq_true (by kernel_rfl)) k0 bel lt0) (trodAll_cons_mk (Below.trod laidOut (by kernel_rfl) (of_decide_eq_true (by kernel_rfl)) k1 bel lt1) trodAll_mk0)), rfl, bel.frame _, fun h => by cases h⟩
theorem over : Rows.fnExactMemPutRow.holds Try.pinned (OpenSpec.ofChange Rows.fnExactMemPutSpec) :=
  OpenClaim.holds_of_wide 7 Try.f7 rfl rfl rfl rfl rfl rfl rfl ⟨rfl, rfl, rfl, rfl, rfl⟩ rfl rfl rfl rfl rfl (by kernel_rfl) Try.func7 (by kernel_rfl)
    (of_decide_eq_true (by kernel_rfl)) (by unfold Func.isWrapper; first | (rw [if_pos (by decide +kernel)]; kernel_rfl) | (rw [if_neg (by decide +kernel)]; exact ⟨rfl, rfl⟩))
    (fun os started H enc _ => lifted os started H enc)
theorem proved : Rows.FnExactMemPutSaid := over
#print axioms proved
end Go.Proofs.Ytbojfnijgmppbaa.fnExactMemPut
namespace Go.Proofs.Ytbojfnijgmppbaa
theorem fnExactMemPut_holds : Rows.FnExactMemPutSaid := fnExactMemPut.proved
end Go.Proofs.Ytbojfnijgmppbaa
end
