/- Proved: the law FnExactBlockSeek of the given program returns true for every input of its Go types and leaves each argument as it was; no condition. (Part 13 of 13.) -/
import Derived.Test.YtidjdkodgddfcaaRows
import Derived.Test.YtidjdkodgddfcaaCFnExactBlockSeek9
import Derived.Test.YtidjdkodgddfcaaCFnExactBlockSeek10
import Derived.Test.YtidjdkodgddfcaaCFnExactBlockSeek4
import Derived.Test.YtidjdkodgddfcaaCFnExactBlockSeek6
import Derived.Test.YtidjdkodgddfcaaCFnExactBlockSeek7
import Derived.Test.YtidjdkodgddfcaaCFnExactBlockSeek11
import Derived.WalkKit
import Derived.ProofKit
import Derived.OpenShut
import Derived.ShutString
import Derived.ChangeOld
import Derived.Below
import Derived.SizedLaws
section
namespace Go.Proofs.Ytidjdkodgddfcaa.fnExactBlockSeek
open Go.ChangeShapes Go.WideShapes Go.ChangeAt Go.RowKit
open Go.ChangeMaps (open_string shut_string)
open Go.Proofs.Ytidjdkodgddfcaa.P
open Go.Proofs.YtidjdkodgddfcaaW.PrintWords Go.Proofs.YtidjdkodgddfcaaW.PrintLast Go.Proofs.YtidjdkodgddfcaaW.PrintMore
set_option linter.unusedVariables false
set_option linter.unusedSimpArgs false
theorem len3 {α : Type} {l : List α} (h : l.length = 3) : ∃ a0 a1 a2, l = [a0, a1, a2] := by
  match l, h with
  | [a0, a1, a2], _ => exact ⟨a0, a1, a2, rfl⟩
theorem own : ownKnob Try.prog.godebug = none := by kernel_rfl
theorem laidOut : laidOutB Try.prog = true := by kernel_rfl
set_option maxHeartbeats 4000000 in
set_option maxRecDepth 100000 in
theorem lifted (os : Os) (started : os.Started) (H : Type) (enc : TypeId × Value → H) :
    ReturnsInHanded {} Try.checked os 4 .any (Rows.fnExactBlockSeekSpec.pre6 enc Try.prog Try.f4 Rows.fnExactBlockSeekRow.domain false) (Rows.fnExactBlockSeekSpec.post enc Try.prog Try.f4 false true false false) := by
  refine returnsInHanded_of_change_sized (C := Try.checked) own started (by kernel_rfl) Try.func4
    (ChangeSpec.witness6 (enc := enc) (C := Try.checked) false ⟨#[], #[.string ByteArray.empty, .agg #[.string ByteArray.empty, .int .i64 0, .int .i64 0]], []⟩ 8 (by kernel_rfl) (by kernel_rfl) (by kernel_rfl) (by kernel_rfl)) ?_
  intro W base args ds gs before hval0 hW hcnd hsz0 _
  have hval : ∀ (j : Nat) t v, Try.f4.params[j]? = some t → args[j]? = some v → Value.okWide Try.prog W .any base t v := hval0
  have hW' := hW
  obtain ⟨p, q, hA0, hV, rfl, hfz, hnd⟩ := hW
  have hA : DataW.TrodAll enc Try.prog W 0 (fun _ => true) true Try.f4.params.toList args.toList ds p := hA0
  rw [Try.params4] at hA hval
  obtain ⟨v0, vs0, d0, ds0, p0, q0, hargs, rfl, rfl, h0, r0⟩ := trodAll_cons hA
  obtain ⟨v1, vs1, d1, ds1, p1, q1, rfl, rfl, rfl, h1, r1⟩ := trodAll_cons r0
  obtain ⟨rfl, rfl, rfl⟩ := trodAll_nil r1
  obtain rfl : args = #[v0, v1] := by cases args; simp_all
  obtain ⟨rfl, rfl⟩ := trodVars_none hV
  obtain ⟨b0, rfl, rfl, rfl, y0⟩ := open_string Try.underlying9 (hval 0 9 v0 rfl rfl) h0
  have hw0 : b0.size ≤ 9223372036854775807 := by simpa [Go.maxLen] using y0
  have k1 := h1
  have lt1 : ∀ x ∈ p1, x.block < W.heap.size := by obtain ⟨m, hm⟩ := k1; exact DataW.trod_lt m _ _ _ hm
  obtain ⟨cs1, rfl, _⟩ := okWide_struct Try.underlying31 (hval 1 31 v1 rfl rfl)
  obtain ⟨fuel1, hf1⟩ := h1
  obtain ⟨xs1, n1, _, _, hl1, hx1, hq1⟩ := DataW.trod_struct Try.underlying31 hf1
  obtain ⟨z1_0, z1_1, z1_2, hcs1⟩ := len3 (hl1.trans (by kernel_rfl) : (Value.agg cs1).cells.toList.length = 3)
  rw [hcs1] at hq1
  have e1_0 := hq1 0 _ rfl
  rw [List.getElem?_eq_getElem (show 0 < xs1.length by rw [hx1]; decide)] at e1_0
  obtain ⟨b1_0, hb1_0, hw1_0⟩ := (opens_str Try.underlying9) enc W n1 _ _ e1_0
  replace hb1_0 : Kd.string.K W b1_0 [z1_0] := hb1_0
  obtain rfl := List.head_eq_of_cons_eq hb1_0
  have e1_1 := hq1 1 _ rfl
  rw [List.getElem?_eq_getElem (show 1 < xs1.length by rw [hx1]; decide)] at e1_1
  obtain ⟨b1_1, hb1_1, hw1_1⟩ := (opens_i64 Try.underlying2) enc W n1 _ _ e1_1
  replace hb1_1 : (Kd.int .i64).K W b1_1 [z1_1] := hb1_1
  obtain rfl := List.head_eq_of_cons_eq hb1_1
  have e1_2 := hq1 2 _ rfl
  rw [List.getElem?_eq_getElem (show 2 < xs1.length by rw [hx1]; decide)] at e1_2
  obtain ⟨b1_2, hb1_2, hw1_2⟩ := (opens_i64 Try.underlying2) enc W n1 _ _ e1_2
  replace hb1_2 : (Kd.int .i64).K W b1_2 [z1_2] := hb1_2
  obtain rfl := List.head_eq_of_cons_eq hb1_2
  obtain rfl : cs1 = #[.string b1_0, .int .i64 b1_1, .int .i64 b1_2] := Array.toList_inj.1 hcs1
  clear hA0 hval0 hsz0
  have hP := Pure.FnExactBlockSeek b0 b1_0 b1_1 b1_2 hw0 hw1_0 hw1_1 hw1_2
  obtain ⟨k, hk⟩ := Ev.rounds hP
  refine (laws_FnExactBlockSeek.calls k b0 b1_0 b1_1 b1_2 true W  hk).mono fun e W' hE => ?_
  obtain ⟨rfl, bel0⟩ := hE
  have bel : Below W.heap.size W W' := by first | exact bel0 | exact bel0.below
  exact ⟨_, rfl, _, _, _, [], _, [], hW', trodAll_mk1 (shut_bool Try.underlying4 _), (trodAll_cons_mk (shut_string Try.underlying9 y0) (trodAll_cons_mk (Below.trod laidOut (by kernel_rfl) (of_decide_eq_true (by kernel_rfl)) k1 bel lt1) trodAll_mk0)), rfl, bel.frame _, fun h => by cases h⟩
theorem over : Rows.fnExactBlockSeekRow.holds Try.pinned (OpenSpec.ofChange Rows.fnExactBlockSeekSpec) :=
  OpenClaim.holds_of_wide 4 Try.f4 rfl rfl rfl rfl rfl rfl rfl ⟨rfl, rfl, rfl, rfl, rfl⟩ rfl rfl rfl rfl rfl (by kernel_rfl) Try.func4 (by kernel_rfl)
    (of_decide_eq_true (by kernel_rfl)) (by unfold Func.isWrapper; first | (rw [if_pos (by decide +kernel)]; kernel_rfl) | (rw [if_neg (by decide +kernel)]; exact ⟨rfl, rfl⟩))
    (fun os started H enc _ => lifted os started H enc)
theorem proved : Rows.FnExactBlockSeekSaid := over
#print axioms proved
end Go.Proofs.Ytidjdkodgddfcaa.fnExactBlockSeek
namespace Go.Proofs.Ytidjdkodgddfcaa
theorem fnExactBlockSeek_holds : Rows.FnExactBlockSeekSaid := fnExactBlockSeek.proved
end Go.Proofs.Ytidjdkodgddfcaa
end
