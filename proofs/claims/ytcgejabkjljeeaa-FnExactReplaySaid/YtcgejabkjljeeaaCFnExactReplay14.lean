/- Proved: the law FnExactReplay of the given program returns true for every input of its Go types and leaves each argument as it was; no condition. (Part 15 of 15.) -/
import Derived.Test.YtcgejabkjljeeaaRows
import Derived.Test.YtcgejabkjljeeaaCFnExactReplay11
import Derived.Test.YtcgejabkjljeeaaCFnExactReplay12
import Derived.Test.YtcgejabkjljeeaaCFnExactReplay13
import Derived.WalkKit
import Derived.ProofKit
import Derived.OpenShut
import Derived.ShutString
import Derived.ChangeOld
import Derived.Below
import Derived.SizedLaws
section
namespace Go.Proofs.Ytcgejabkjljeeaa.fnExactReplay
open Go.ChangeShapes Go.WideShapes Go.ChangeAt Go.RowKit
open Go.ChangeMaps (open_string shut_string)
open Go.Proofs.Ytcgejabkjljeeaa.P
open Go.Proofs.YtcgejabkjljeeaaW.PrintWords Go.Proofs.YtcgejabkjljeeaaW.PrintLast Go.Proofs.YtcgejabkjljeeaaW.PrintMore
set_option linter.unusedVariables false
set_option linter.unusedSimpArgs false
theorem len5 {α : Type} {l : List α} (h : l.length = 5) : ∃ a0 a1 a2 a3 a4, l = [a0, a1, a2, a3, a4] := by
 match l, h with
 | [a0, a1, a2, a3, a4], _ => exact ⟨a0, a1, a2, a3, a4, rfl⟩
theorem len4 {α : Type} {l : List α} (h : l.length = 4) : ∃ a0 a1 a2 a3, l = [a0, a1, a2, a3] := by
 match l, h with
 | [a0, a1, a2, a3], _ => exact ⟨a0, a1, a2, a3, rfl⟩
set_option maxRecDepth 100000 in
theorem opens114 : Opens Try.prog k114 114 (fun x => wf_Meta x) := by
 intro H enc w fuel cs x h
 obtain ⟨xs, n, _, _, hl, hx, hq⟩ := DataW.trod_struct Try.underlying114 h
 have e0 := hq 0 _ rfl
 rw [List.getElem?_eq_getElem (show 0 < xs.length by rw [hx]; decide)] at e0
 obtain ⟨a0, ha0, hw0⟩ := (opens_i64 Try.underlying2) enc w n _ _ e0
 have e1 := hq 1 _ rfl
 rw [List.getElem?_eq_getElem (show 1 < xs.length by rw [hx]; decide)] at e1
 obtain ⟨a1, ha1, hw1⟩ := (opens_i64 Try.underlying2) enc w n _ _ e1
 have e2 := hq 2 _ rfl
 rw [List.getElem?_eq_getElem (show 2 < xs.length by rw [hx]; decide)] at e2
 obtain ⟨a2, ha2, hw2⟩ := (opens_str Try.underlying9) enc w n _ _ e2
 have e3 := hq 3 _ rfl
 rw [List.getElem?_eq_getElem (show 3 < xs.length by rw [hx]; decide)] at e3
 obtain ⟨a3, ha3, hw3⟩ := (opens_str Try.underlying9) enc w n _ _ e3
 have e4 := hq 4 _ rfl
 rw [List.getElem?_eq_getElem (show 4 < xs.length by rw [hx]; decide)] at e4
 obtain ⟨a4, ha4, hw4⟩ := (opens_i64 Try.underlying2) enc w n _ _ e4
 have hl : cs.length = 5 := hl.trans (by kernel_rfl)
 refine ⟨⟨a0, a1, a2, a3, a4⟩, ?_, ?_⟩
 ·obtain ⟨c0, c1, c2, c3, c4, rfl⟩ := len5 hl
  exact ⟨[c0], [c1, c2, c3, c4], rfl, ha0, ⟨[c1], [c2, c3, c4], rfl, ha1, ⟨[c2], [c3, c4], rfl, ha2, ⟨[c3], [c4], rfl, ha3, ha4⟩⟩⟩⟩
 ·unfold wf_Meta
  simp only [] at *
  exact ⟨hw0.1, hw0.2, hw1.1, hw1.2, hw2, hw3, hw4.1, hw4.2⟩
def wfS27 (x : S27) : Prop := (x.f0.length ≤ 9223372036854775807 ∧ ∀ y ∈ x.f0, wf_Meta y) ∧ (x.f1.length ≤ 9223372036854775807 ∧ ∀ y ∈ x.f1, (-9223372036854775808 ≤ y ∧ y ≤ 9223372036854775807)) ∧ (-9223372036854775808 ≤ x.f2 ∧ x.f2 ≤ 9223372036854775807) ∧ (-9223372036854775808 ≤ x.f3 ∧ x.f3 ≤ 9223372036854775807) ∧ (-9223372036854775808 ≤ x.f4 ∧ x.f4 ≤ 9223372036854775807)
set_option maxRecDepth 100000 in
theorem opens27 : Opens Try.prog k27 27 (fun x => wfS27 x) := by
 intro H enc w fuel cs x h
 obtain ⟨xs, n, _, _, hl, hx, hq⟩ := DataW.trod_struct Try.underlying27 h
 have e0 := hq 0 _ rfl
 rw [List.getElem?_eq_getElem (show 0 < xs.length by rw [hx]; decide)] at e0
 obtain ⟨a0, ha0, hw0⟩ := (opens_slice Try.underlying22 (by kernel_rfl) opens114) enc w n _ _ e0
 have e1 := hq 1 _ rfl
 rw [List.getElem?_eq_getElem (show 1 < xs.length by rw [hx]; decide)] at e1
 obtain ⟨a1, ha1, hw1⟩ := (opens_slice Try.underlying25 (by kernel_rfl) (opens_i64 Try.underlying2)) enc w n _ _ e1
 have e2 := hq 2 _ rfl
 rw [List.getElem?_eq_getElem (show 2 < xs.length by rw [hx]; decide)] at e2
 obtain ⟨a2, ha2, hw2⟩ := (opens_i64 Try.underlying2) enc w n _ _ e2
 have e3 := hq 3 _ rfl
 rw [List.getElem?_eq_getElem (show 3 < xs.length by rw [hx]; decide)] at e3
 obtain ⟨a3, ha3, hw3⟩ := (opens_i64 Try.underlying2) enc w n _ _ e3
 have e4 := hq 4 _ rfl
 rw [List.getElem?_eq_getElem (show 4 < xs.length by rw [hx]; decide)] at e4
 obtain ⟨a4, ha4, hw4⟩ := (opens_i64 Try.underlying2) enc w n _ _ e4
 have hl : cs.length = 5 := hl.trans (by kernel_rfl)
 refine ⟨⟨a0, a1, a2, a3, a4⟩, ?_, ?_⟩
 ·obtain ⟨c0, c1, c2, c3, c4, rfl⟩ := len5 hl
  exact ⟨[c0], [c1, c2, c3, c4], rfl, ha0, ⟨[c1], [c2, c3, c4], rfl, ha1, ⟨[c2], [c3, c4], rfl, ha2, ⟨[c3], [c4], rfl, ha3, ha4⟩⟩⟩⟩
 ·unfold wfS27
  simp only [] at *
  exact ⟨hw0, hw1, hw2, hw3, hw4⟩
theorem own : ownKnob Try.prog.godebug = none := by kernel_rfl
theorem laidOut : laidOutB Try.prog = true := by kernel_rfl
set_option maxHeartbeats 4000000 in
set_option maxRecDepth 100000 in
theorem lifted (os : Os) (started : os.Started) (H : Type) (enc : TypeId × Value → H) :
  ReturnsInHanded {} Try.checked os 5 .any (Rows.fnExactReplaySpec.pre6 enc Try.prog Try.f5 Rows.fnExactReplayRow.domain false) (Rows.fnExactReplaySpec.post enc Try.prog Try.f5 false true false false) := by
 refine returnsInHanded_of_change_sized (C := Try.checked) own started (by kernel_rfl) Try.func5
  (ChangeSpec.witness6 (enc := enc) (C := Try.checked) false ⟨#[], #[.agg #[.slice none 0 0, .int .i64 0, .int .i64 0, .int .i64 0], .slice none 0 0], []⟩ 8 (by kernel_rfl) (by kernel_rfl) (by kernel_rfl) (by kernel_rfl)) ?_
 intro W base args ds gs before hval0 hW hcnd hsz0 _
 have hval : ∀ (j : Nat) t v, Try.f5.params[j]? = some t → args[j]? = some v → Value.okWide Try.prog W .any base t v := hval0
 have hW' := hW
 obtain ⟨p, q, hA0, hV, rfl, hfz, hnd⟩ := hW
 have hA : DataW.TrodAll enc Try.prog W 0 (fun _ => true) true Try.f5.params.toList args.toList ds p := hA0
 rw [Try.params5] at hA hval
 obtain ⟨v0, vs0, d0, ds0, p0, q0, hargs, rfl, rfl, h0, r0⟩ := trodAll_cons hA
 obtain ⟨v1, vs1, d1, ds1, p1, q1, rfl, rfl, rfl, h1, r1⟩ := trodAll_cons r0
 obtain ⟨rfl, rfl, rfl⟩ := trodAll_nil r1
 obtain rfl : args = #[v0, v1] := by cases args; simp_all
 obtain ⟨rfl, rfl⟩ := trodVars_none hV
 have k0 := h0
 have lt0 : ∀ x ∈ p0, x.block < W.heap.size := by obtain ⟨m, hm⟩ := k0; exact DataW.trod_lt m _ _ _ hm
 obtain ⟨cs0, rfl, _⟩ := okWide_struct Try.underlying24 (hval 0 24 v0 rfl rfl)
 obtain ⟨fuel0, hf0⟩ := h0
 obtain ⟨xs0, n0, _, _, hl0, hx0, hq0⟩ := DataW.trod_struct Try.underlying24 hf0
 obtain ⟨z0_0, z0_1, z0_2, z0_3, hcs0⟩ := len4 (hl0.trans (by kernel_rfl) : (Value.agg cs0).cells.toList.length = 4)
 rw [hcs0] at hq0
 have e0_0 := hq0 0 _ rfl
 rw [List.getElem?_eq_getElem (show 0 < xs0.length by rw [hx0]; decide)] at e0_0
 obtain ⟨b0_0, hb0_0, hw0_0⟩ := (opens_slice Try.underlying22 (by kernel_rfl) opens114) enc W n0 _ _ e0_0
 replace hb0_0 : (Kd.slice 114 k114).K W b0_0 [z0_0] := hb0_0
 obtain ⟨A0_0, c0_0, hz0_0, hl0_0, hr0_0⟩ := hb0_0
 obtain rfl := List.head_eq_of_cons_eq hz0_0
 have e0_1 := hq0 1 _ rfl
 rw [List.getElem?_eq_getElem (show 1 < xs0.length by rw [hx0]; decide)] at e0_1
 obtain ⟨b0_1, hb0_1, hw0_1⟩ := (opens_i64 Try.underlying2) enc W n0 _ _ e0_1
 replace hb0_1 : (Kd.int .i64).K W b0_1 [z0_1] := hb0_1
 obtain rfl := List.head_eq_of_cons_eq hb0_1
 have e0_2 := hq0 2 _ rfl
 rw [List.getElem?_eq_getElem (show 2 < xs0.length by rw [hx0]; decide)] at e0_2
 obtain ⟨b0_2, hb0_2, hw0_2⟩ := (opens_i64 Try.underlying2) enc W n0 _ _ e0_2
 replace hb0_2 : (Kd.int .i64).K W b0_2 [z0_2] := hb0_2
 obtain rfl := List.head_eq_of_cons_eq hb0_2
 have e0_3 := hq0 3 _ rfl
 rw [List.getElem?_eq_getElem (show 3 < xs0.length by rw [hx0]; decide)] at e0_3
 obtain ⟨b0_3, hb0_3, hw0_3⟩ := (opens_i64 Try.underlying2) enc W n0 _ _ e0_3
 replace hb0_3 : (Kd.int .i64).K W b0_3 [z0_3] := hb0_3
 obtain rfl := List.head_eq_of_cons_eq hb0_3
 obtain rfl : cs0 = #[.slice A0_0 b0_0.length c0_0, .int .i64 b0_1, .int .i64 b0_2, .int .i64 b0_3] := Array.toList_inj.1 hcs0
 have k1 := h1
 have lt1 : ∀ x ∈ p1, x.block < W.heap.size := by obtain ⟨m, hm⟩ := k1; exact DataW.trod_lt m _ _ _ hm
 obtain ⟨w1, m1, e1, rfl⟩ := okWide_slice Try.underlying46 (hval 1 46 v1 rfl rfl)
 obtain ⟨fuel1, hf1⟩ := h1
 obtain ⟨b1, hx1, hw1⟩ := (opens_slice Try.underlying46 (by kernel_rfl) opens27) enc W fuel1 _ _ hf1
 obtain ⟨A1, c1, hcs1, hl1, hr1⟩ := hx1
 have hcs1 := List.head_eq_of_cons_eq (show [Value.slice w1 m1 e1] = [_] from hcs1)
 injection hcs1 with f1 f2 f3
 subst f1 f2 f3
 clear hA0 hval0 hsz0
 have hP := Pure.FnExactReplay b0_0 b0_1 b0_2 b0_3 b1 hw0_0 hw0_1 hw0_2 hw0_3 hw1
 obtain ⟨k, hk⟩ := Ev.rounds hP
 refine (laws_FnExactReplay.calls k A0_0 c0_0 b0_0 b0_1 b0_2 b0_3 w1 e1 b1 true W hr0_0 hl0_0 hr1 hl1 hk).mono fun e W' hE => ?_
 obtain ⟨rfl, bel0⟩ := hE
 have bel : Below W.heap.size W W' := by first | exact bel0 | exact bel0.below
 exact ⟨_, rfl, _, _, _, [], _, [], hW', trodAll_mk1 (shut_bool Try.underlying4 _), (trodAll_cons_mk (Below.trod laidOut (by kernel_rfl) (of_decide_eq_true (by kernel_rfl)) k0 bel lt0) (trodAll_cons_mk (Below.trod laidOut (by kernel_rfl) (of_decide_eq_true (by kernel_rfl)) k1 bel lt1) trodAll_mk0)), rfl, bel.frame _, fun h => by cases h⟩
theorem over : Rows.fnExactReplayRow.holds Try.pinned (OpenSpec.ofChange Rows.fnExactReplaySpec) :=
 OpenClaim.holds_of_wide 5 Try.f5 rfl rfl rfl rfl rfl rfl rfl ⟨rfl, rfl, rfl, rfl, rfl⟩ rfl rfl rfl rfl rfl (by kernel_rfl) Try.func5 (by kernel_rfl)
  (of_decide_eq_true (by kernel_rfl)) (by unfold Func.isWrapper; first | (rw [if_pos (by decide +kernel)]; kernel_rfl) | (rw [if_neg (by decide +kernel)]; exact ⟨rfl, rfl⟩))
  (fun os started H enc _ => lifted os started H enc)
theorem proved : Rows.FnExactReplaySaid := over
#print axioms proved
end Go.Proofs.Ytcgejabkjljeeaa.fnExactReplay
namespace Go.Proofs.Ytcgejabkjljeeaa
theorem fnExactReplay_holds : Rows.FnExactReplaySaid := fnExactReplay.proved
end Go.Proofs.Ytcgejabkjljeeaa
end
