/- Proved: the law FnExactMergeRuns of the given program returns true for every input of its Go types and leaves each argument as it was; no condition. (Part 13 of 13.) -/
import Derived.Test.YtidjdkodgddfcaaRows
import Derived.Test.YtidjdkodgddfcaaCFnExactMergeRuns10
import Derived.Test.YtidjdkodgddfcaaCFnExactMergeRuns11
import Derived.WalkKit
import Derived.ProofKit
import Derived.OpenShut
import Derived.ShutString
import Derived.ChangeOld
import Derived.Below
import Derived.SizedLaws
section
namespace Go.Proofs.Ytidjdkodgddfcaa.fnExactMergeRuns
open Go.ChangeShapes Go.WideShapes Go.ChangeAt Go.RowKit
open Go.ChangeMaps (open_string shut_string)
open Go.Proofs.Ytidjdkodgddfcaa.P
open Go.Proofs.YtidjdkodgddfcaaW.PrintWords Go.Proofs.YtidjdkodgddfcaaW.PrintLast Go.Proofs.YtidjdkodgddfcaaW.PrintMore
set_option linter.unusedVariables false
set_option linter.unusedSimpArgs false
theorem len3 {α : Type} {l : List α} (h : l.length = 3) : ∃ a0 a1 a2, l = [a0, a1, a2] := by
  match l, h with
  | [a0, a1, a2], _ => exact ⟨a0, a1, a2, rfl⟩
theorem len4 {α : Type} {l : List α} (h : l.length = 4) : ∃ a0 a1 a2 a3, l = [a0, a1, a2, a3] := by
  match l, h with
  | [a0, a1, a2, a3], _ => exact ⟨a0, a1, a2, a3, rfl⟩
theorem len1 {α : Type} {l : List α} (h : l.length = 1) : ∃ a0, l = [a0] := by
  match l, h with
  | [a0], _ => exact ⟨a0, rfl⟩
set_option maxRecDepth 100000 in
theorem opens31 : Opens Try.prog k31 31 (fun x => wf_Key x) := by
  intro H enc w fuel cs x h
  obtain ⟨xs, n, _, _, hl, hx, hq⟩ := DataW.trod_struct Try.underlying31 h
  have e0 := hq 0 _ rfl
  rw [List.getElem?_eq_getElem (show 0 < xs.length by rw [hx]; decide)] at e0
  obtain ⟨a0, ha0, hw0⟩ := (opens_str Try.underlying9) enc w n _ _ e0
  have e1 := hq 1 _ rfl
  rw [List.getElem?_eq_getElem (show 1 < xs.length by rw [hx]; decide)] at e1
  obtain ⟨a1, ha1, hw1⟩ := (opens_i64 Try.underlying2) enc w n _ _ e1
  have e2 := hq 2 _ rfl
  rw [List.getElem?_eq_getElem (show 2 < xs.length by rw [hx]; decide)] at e2
  obtain ⟨a2, ha2, hw2⟩ := (opens_i64 Try.underlying2) enc w n _ _ e2
  have hl : cs.length = 3 := hl.trans (by kernel_rfl)
  refine ⟨⟨a0, a1, a2⟩, ?_, ?_⟩
  · obtain ⟨c0, c1, c2, rfl⟩ := len3 hl
    exact ⟨[c0], [c1, c2], rfl, ha0, ⟨[c1], [c2], rfl, ha1, ha2⟩⟩
  · unfold wf_Key
    simp only [] at *
    exact ⟨hw0, hw1.1, hw1.2, hw2.1, hw2.2⟩
set_option maxRecDepth 100000 in
theorem opens101 : Opens Try.prog k101 101 (fun x => wf_Entry x) := by
  intro H enc w fuel cs x h
  obtain ⟨xs, n, _, _, hl, hx, hq⟩ := DataW.trod_struct Try.underlying101 h
  have e0 := hq 0 _ rfl
  rw [List.getElem?_eq_getElem (show 0 < xs.length by rw [hx]; decide)] at e0
  obtain ⟨a0, ha0, hw0⟩ := opens31 enc w n _ _ e0
  have e1 := hq 1 _ rfl
  rw [List.getElem?_eq_getElem (show 1 < xs.length by rw [hx]; decide)] at e1
  obtain ⟨a1, ha1, hw1⟩ := (opens_str Try.underlying9) enc w n _ _ e1
  have hl : cs.length = 4 := hl.trans (by kernel_rfl)
  refine ⟨⟨a0, a1⟩, ?_, ?_⟩
  · obtain ⟨c0, c1, c2, c3, rfl⟩ := len4 hl
    exact ⟨[c0, c1, c2], [c3], rfl, ha0, ha1⟩
  · unfold wf_Entry
    unfold wf_Key at hw0
    simp_all only [and_self, and_assoc, true_and]
def wfS137 (x : S137) : Prop := (x.f0.length ≤ 9223372036854775807 ∧ ∀ y ∈ x.f0, wf_Entry y)
set_option maxRecDepth 100000 in
theorem opens137 : Opens Try.prog k137 137 (fun x => wfS137 x) := by
  intro H enc w fuel cs x h
  obtain ⟨xs, n, _, _, hl, hx, hq⟩ := DataW.trod_struct Try.underlying137 h
  have e0 := hq 0 _ rfl
  rw [List.getElem?_eq_getElem (show 0 < xs.length by rw [hx]; decide)] at e0
  obtain ⟨a0, ha0, hw0⟩ := (opens_slice Try.underlying22 (by kernel_rfl) opens101) enc w n _ _ e0
  have hl : cs.length = 1 := hl.trans (by kernel_rfl)
  refine ⟨⟨a0⟩, ?_, ?_⟩
  · obtain ⟨c0, rfl⟩ := len1 hl
    exact ha0
  · unfold wfS137
    simp only [] at *
    exact hw0
theorem own : ownKnob Try.prog.godebug = none := by kernel_rfl
theorem laidOut : laidOutB Try.prog = true := by kernel_rfl
set_option maxHeartbeats 4000000 in
set_option maxRecDepth 100000 in
theorem lifted (os : Os) (started : os.Started) (H : Type) (enc : TypeId × Value → H) :
    ReturnsInHanded {} Try.checked os 9 .any (Rows.fnExactMergeRunsSpec.pre6 enc Try.prog Try.f9 Rows.fnExactMergeRunsRow.domain false) (Rows.fnExactMergeRunsSpec.post enc Try.prog Try.f9 false true false false) := by
  refine returnsInHanded_of_change_sized (C := Try.checked) own started (by kernel_rfl) Try.func9
    (ChangeSpec.witness6 (enc := enc) (C := Try.checked) false ⟨#[], #[.slice none 0 0], []⟩ 8 (by kernel_rfl) (by kernel_rfl) (by kernel_rfl) (by kernel_rfl)) ?_
  intro W base args ds gs before hval0 hW hcnd hsz0 _
  have hval : ∀ (j : Nat) t v, Try.f9.params[j]? = some t → args[j]? = some v → Value.okWide Try.prog W .any base t v := hval0
  have hW' := hW
  obtain ⟨p, q, hA0, hV, rfl, hfz, hnd⟩ := hW
  have hA : DataW.TrodAll enc Try.prog W 0 (fun _ => true) true Try.f9.params.toList args.toList ds p := hA0
  rw [Try.params9] at hA hval
  obtain ⟨v0, vs0, d0, ds0, p0, q0, hargs, rfl, rfl, h0, r0⟩ := trodAll_cons hA
  obtain ⟨rfl, rfl, rfl⟩ := trodAll_nil r0
  obtain rfl : args = #[v0] := by cases args; simp_all
  obtain ⟨rfl, rfl⟩ := trodVars_none hV
  have k0 := h0
  have lt0 : ∀ x ∈ p0, x.block < W.heap.size := by obtain ⟨m, hm⟩ := k0; exact DataW.trod_lt m _ _ _ hm
  obtain ⟨w0, m0, e0, rfl⟩ := okWide_slice Try.underlying51 (hval 0 51 v0 rfl rfl)
  obtain ⟨fuel0, hf0⟩ := h0
  obtain ⟨b0, hx0, hw0⟩ := (opens_slice Try.underlying51 (by kernel_rfl) opens137) enc W fuel0 _ _ hf0
  obtain ⟨A0, c0, hcs0, hl0, hr0⟩ := hx0
  have hcs0 := List.head_eq_of_cons_eq (show [Value.slice w0 m0 e0] = [_] from hcs0)
  injection hcs0 with f1 f2 f3
  subst f1 f2 f3
  clear hA0 hval0 hsz0
  have hP := Pure.FnExactMergeRuns b0 hw0
  obtain ⟨k, hk⟩ := Ev.rounds hP
  refine (laws_FnExactMergeRuns.calls k w0 e0 b0 true W hr0 hl0 hk).mono fun e W' hE => ?_
  obtain ⟨rfl, bel0⟩ := hE
  have bel : Below W.heap.size W W' := by first | exact bel0 | exact bel0.below
  exact ⟨_, rfl, _, _, _, [], _, [], hW', trodAll_mk1 (shut_bool Try.underlying4 _), (trodAll_cons_mk (Below.trod laidOut (by kernel_rfl) (of_decide_eq_true (by kernel_rfl)) k0 bel lt0) trodAll_mk0), rfl, bel.frame _, fun h => by cases h⟩
theorem over : Rows.fnExactMergeRunsRow.holds Try.pinned (OpenSpec.ofChange Rows.fnExactMergeRunsSpec) :=
  OpenClaim.holds_of_wide 9 Try.f9 rfl rfl rfl rfl rfl rfl rfl ⟨rfl, rfl, rfl, rfl, rfl⟩ rfl rfl rfl rfl rfl (by kernel_rfl) Try.func9 (by kernel_rfl)
    (of_decide_eq_true (by kernel_rfl)) (by unfold Func.isWrapper; first | (rw [if_pos (by decide +kernel)]; kernel_rfl) | (rw [if_neg (by decide +kernel)]; exact ⟨rfl, rfl⟩))
    (fun os started H enc _ => lifted os started H enc)
theorem proved : Rows.FnExactMergeRunsSaid := over
#print axioms proved
end Go.Proofs.Ytidjdkodgddfcaa.fnExactMergeRuns
namespace Go.Proofs.Ytidjdkodgddfcaa
theorem fnExactMergeRuns_holds : Rows.FnExactMergeRunsSaid := fnExactMergeRuns.proved
end Go.Proofs.Ytidjdkodgddfcaa
end
