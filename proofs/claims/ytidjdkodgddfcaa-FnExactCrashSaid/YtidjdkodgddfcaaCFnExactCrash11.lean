/- Proved: the law FnExactCrash of the given program returns true for every input of its Go types and leaves each argument as it was; no condition. (Part 12 of 12.) -/
import Derived.Test.YtidjdkodgddfcaaRows
import Derived.Test.YtidjdkodgddfcaaCFnExactCrash9
import Derived.Test.YtidjdkodgddfcaaCFnExactCrash10
import Derived.WalkKit
import Derived.ProofKit
import Derived.OpenShut
import Derived.ShutString
import Derived.ChangeOld
import Derived.Below
import Derived.SizedLaws
section
namespace Go.Proofs.Ytidjdkodgddfcaa.fnExactCrash
open Go.ChangeShapes Go.WideShapes Go.ChangeAt Go.RowKit
open Go.ChangeMaps (open_string shut_string)
open Go.Proofs.Ytidjdkodgddfcaa.P
open Go.Proofs.YtidjdkodgddfcaaW.PrintWords Go.Proofs.YtidjdkodgddfcaaW.PrintLast Go.Proofs.YtidjdkodgddfcaaW.PrintMore
set_option linter.unusedVariables false
set_option linter.unusedSimpArgs false
theorem len2 {α : Type} {l : List α} (h : l.length = 2) : ∃ a0 a1, l = [a0, a1] := by
 match l, h with
 | [a0, a1], _ => exact ⟨a0, a1, rfl⟩
theorem len4 {α : Type} {l : List α} (h : l.length = 4) : ∃ a0 a1 a2 a3, l = [a0, a1, a2, a3] := by
 match l, h with
 | [a0, a1, a2, a3], _ => exact ⟨a0, a1, a2, a3, rfl⟩
theorem len3 {α : Type} {l : List α} (h : l.length = 3) : ∃ a0 a1 a2, l = [a0, a1, a2] := by
 match l, h with
 | [a0, a1, a2], _ => exact ⟨a0, a1, a2, rfl⟩
set_option maxRecDepth 100000 in
theorem opens193 : Opens Try.prog k193 193 (fun x => wf_File x) := by
 intro H enc w fuel cs x h
 obtain ⟨xs, n, _, _, hl, hx, hq⟩ := DataW.trod_struct Try.underlying193 h
 have e0 := hq 0 _ rfl
 rw [List.getElem?_eq_getElem (show 0 < xs.length by rw [hx]; decide)] at e0
 obtain ⟨a0, ha0, hw0⟩ := (opens_str Try.underlying9) enc w n _ _ e0
 have e1 := hq 1 _ rfl
 rw [List.getElem?_eq_getElem (show 1 < xs.length by rw [hx]; decide)] at e1
 obtain ⟨a1, ha1, hw1⟩ := (opens_str Try.underlying9) enc w n _ _ e1
 have hl : cs.length = 2 := hl.trans (by kernel_rfl)
 refine ⟨⟨a0, a1⟩, ?_, ?_⟩
 ·obtain ⟨c0, c1, rfl⟩ := len2 hl
  exact ⟨[c0], [c1], rfl, ha0, ha1⟩
 ·unfold wf_File
  simp only [] at *
  exact ⟨hw0, hw1⟩
set_option maxRecDepth 100000 in
theorem opens195 : Opens Try.prog k195 195 (fun x => wf_DOp x) := by
 intro H enc w fuel cs x h
 obtain ⟨xs, n, _, _, hl, hx, hq⟩ := DataW.trod_struct Try.underlying195 h
 have e0 := hq 0 _ rfl
 rw [List.getElem?_eq_getElem (show 0 < xs.length by rw [hx]; decide)] at e0
 obtain ⟨a0, ha0, hw0⟩ := (opens_i64 Try.underlying2) enc w n _ _ e0
 have e1 := hq 1 _ rfl
 rw [List.getElem?_eq_getElem (show 1 < xs.length by rw [hx]; decide)] at e1
 obtain ⟨a1, ha1, hw1⟩ := (opens_str Try.underlying9) enc w n _ _ e1
 have e2 := hq 2 _ rfl
 rw [List.getElem?_eq_getElem (show 2 < xs.length by rw [hx]; decide)] at e2
 obtain ⟨a2, ha2, hw2⟩ := (opens_str Try.underlying9) enc w n _ _ e2
 have e3 := hq 3 _ rfl
 rw [List.getElem?_eq_getElem (show 3 < xs.length by rw [hx]; decide)] at e3
 obtain ⟨a3, ha3, hw3⟩ := (opens_str Try.underlying9) enc w n _ _ e3
 have hl : cs.length = 4 := hl.trans (by kernel_rfl)
 refine ⟨⟨a0, a1, a2, a3⟩, ?_, ?_⟩
 ·obtain ⟨c0, c1, c2, c3, rfl⟩ := len4 hl
  exact ⟨[c0], [c1, c2, c3], rfl, ha0, ⟨[c1], [c2, c3], rfl, ha1, ⟨[c2], [c3], rfl, ha2, ha3⟩⟩⟩
 ·unfold wf_DOp
  simp only [] at *
  exact ⟨hw0.1, hw0.2, hw1, hw2, hw3⟩
theorem own : ownKnob Try.prog.godebug = none := by kernel_rfl
theorem laidOut : laidOutB Try.prog = true := by kernel_rfl
set_option maxHeartbeats 4000000 in
set_option maxRecDepth 100000 in
theorem lifted (os : Os) (started : os.Started) (H : Type) (enc : TypeId × Value → H) :
  ReturnsInHanded {} Try.checked os 12 .any (Rows.fnExactCrashSpec.pre6 enc Try.prog Try.f12 Rows.fnExactCrashRow.domain false) (Rows.fnExactCrashSpec.post enc Try.prog Try.f12 false true false false) := by
 refine returnsInHanded_of_change_sized (C := Try.checked) own started (by kernel_rfl) Try.func12
  (ChangeSpec.witness6 (enc := enc) (C := Try.checked) false ⟨#[], #[.agg #[.slice none 0 0, .slice none 0 0, .slice none 0 0], .slice none 0 0, .int .i64 0], []⟩ 8 (by kernel_rfl) (by kernel_rfl) (by kernel_rfl) (by kernel_rfl)) ?_
 intro W base args ds gs before hval0 hW hcnd hsz0 _
 have hval : ∀ (j : Nat) t v, Try.f12.params[j]? = some t → args[j]? = some v → Value.okWide Try.prog W .any base t v := hval0
 have hW' := hW
 obtain ⟨p, q, hA0, hV, rfl, hfz, hnd⟩ := hW
 have hA : DataW.TrodAll enc Try.prog W 0 (fun _ => true) true Try.f12.params.toList args.toList ds p := hA0
 rw [Try.params12] at hA hval
 obtain ⟨v0, vs0, d0, ds0, p0, q0, hargs, rfl, rfl, h0, r0⟩ := trodAll_cons hA
 obtain ⟨v1, vs1, d1, ds1, p1, q1, rfl, rfl, rfl, h1, r1⟩ := trodAll_cons r0
 obtain ⟨v2, vs2, d2, ds2, p2, q2, rfl, rfl, rfl, h2, r2⟩ := trodAll_cons r1
 obtain ⟨rfl, rfl, rfl⟩ := trodAll_nil r2
 obtain rfl : args = #[v0, v1, v2] := by cases args; simp_all
 obtain ⟨rfl, rfl⟩ := trodVars_none hV
 have k0 := h0
 have lt0 : ∀ x ∈ p0, x.block < W.heap.size := by obtain ⟨m, hm⟩ := k0; exact DataW.trod_lt m _ _ _ hm
 obtain ⟨cs0, rfl, _⟩ := okWide_struct Try.underlying79 (hval 0 79 v0 rfl rfl)
 obtain ⟨fuel0, hf0⟩ := h0
 obtain ⟨xs0, n0, _, _, hl0, hx0, hq0⟩ := DataW.trod_struct Try.underlying79 hf0
 obtain ⟨z0_0, z0_1, z0_2, hcs0⟩ := len3 (hl0.trans (by kernel_rfl) : (Value.agg cs0).cells.toList.length = 3)
 rw [hcs0] at hq0
 have e0_0 := hq0 0 _ rfl
 rw [List.getElem?_eq_getElem (show 0 < xs0.length by rw [hx0]; decide)] at e0_0
 obtain ⟨b0_0, hb0_0, hw0_0⟩ := (opens_slice Try.underlying76 (by kernel_rfl) opens193) enc W n0 _ _ e0_0
 replace hb0_0 : (Kd.slice 193 k193).K W b0_0 [z0_0] := hb0_0
 obtain ⟨A0_0, c0_0, hz0_0, hl0_0, hr0_0⟩ := hb0_0
 obtain rfl := List.head_eq_of_cons_eq hz0_0
 have e0_1 := hq0 1 _ rfl
 rw [List.getElem?_eq_getElem (show 1 < xs0.length by rw [hx0]; decide)] at e0_1
 obtain ⟨b0_1, hb0_1, hw0_1⟩ := (opens_slice Try.underlying76 (by kernel_rfl) opens193) enc W n0 _ _ e0_1
 replace hb0_1 : (Kd.slice 193 k193).K W b0_1 [z0_1] := hb0_1
 obtain ⟨A0_1, c0_1, hz0_1, hl0_1, hr0_1⟩ := hb0_1
 obtain rfl := List.head_eq_of_cons_eq hz0_1
 have e0_2 := hq0 2 _ rfl
 rw [List.getElem?_eq_getElem (show 2 < xs0.length by rw [hx0]; decide)] at e0_2
 obtain ⟨b0_2, hb0_2, hw0_2⟩ := (opens_slice Try.underlying77 (by kernel_rfl) opens195) enc W n0 _ _ e0_2
 replace hb0_2 : (Kd.slice 195 k195).K W b0_2 [z0_2] := hb0_2
 obtain ⟨A0_2, c0_2, hz0_2, hl0_2, hr0_2⟩ := hb0_2
 obtain rfl := List.head_eq_of_cons_eq hz0_2
 obtain rfl : cs0 = #[.slice A0_0 b0_0.length c0_0, .slice A0_1 b0_1.length c0_1, .slice A0_2 b0_2.length c0_2] := Array.toList_inj.1 hcs0
 have k1 := h1
 have lt1 : ∀ x ∈ p1, x.block < W.heap.size := by obtain ⟨m, hm⟩ := k1; exact DataW.trod_lt m _ _ _ hm
 obtain ⟨w1, m1, e1, rfl⟩ := okWide_slice Try.underlying80 (hval 1 80 v1 rfl rfl)
 obtain ⟨fuel1, hf1⟩ := h1
 obtain ⟨b1, hx1, hw1⟩ := (opens_slice Try.underlying80 (by kernel_rfl) (opens_i64 Try.underlying2)) enc W fuel1 _ _ hf1
 obtain ⟨A1, c1, hcs1, hl1, hr1⟩ := hx1
 have hcs1 := List.head_eq_of_cons_eq (show [Value.slice w1 m1 e1] = [_] from hcs1)
 injection hcs1 with f1 f2 f3
 subst f1 f2 f3
 obtain ⟨b2, rfl, rfl, rfl, y2⟩ := open_int Try.underlying2 (hval 2 2 v2 rfl rfl) h2
 have hw2 : -9223372036854775808 ≤ b2 ∧ b2 ≤ 9223372036854775807 := by simpa [Lit.wf, IntKind.min, IntKind.max, IntKind.signed, IntKind.bits] using y2
 clear hA0 hval0 hsz0
 have hP := Pure.FnExactCrash b0_0 b0_1 b0_2 b1 b2 hw0_0 hw0_1 hw0_2 hw1 hw2
 obtain ⟨k, hk⟩ := Ev.rounds hP
 refine (laws_FnExactCrash.calls k A0_0 c0_0 b0_0 A0_1 c0_1 b0_1 A0_2 c0_2 b0_2 w1 e1 b1 b2 true W hr0_0 hl0_0 hr0_1 hl0_1 hr0_2 hl0_2 hr1 hl1 hk).mono fun e W' hE => ?_
 obtain ⟨rfl, bel0⟩ := hE
 have bel : Below W.heap.size W W' := by first | exact bel0 | exact bel0.below
 exact ⟨_, rfl, _, _, _, [], _, [], hW', trodAll_mk1 (shut_bool Try.underlying4 _), (trodAll_cons_mk (Below.trod laidOut (by kernel_rfl) (of_decide_eq_true (by kernel_rfl)) k0 bel lt0) (trodAll_cons_mk (Below.trod laidOut (by kernel_rfl) (of_decide_eq_true (by kernel_rfl)) k1 bel lt1) (trodAll_cons_mk (shut_int Try.underlying2 y2) trodAll_mk0))), rfl, bel.frame _, fun h => by cases h⟩
theorem over : Rows.fnExactCrashRow.holds Try.pinned (OpenSpec.ofChange Rows.fnExactCrashSpec) :=
 OpenClaim.holds_of_wide 12 Try.f12 rfl rfl rfl rfl rfl rfl rfl ⟨rfl, rfl, rfl, rfl, rfl⟩ rfl rfl rfl rfl rfl (by kernel_rfl) Try.func12 (by kernel_rfl)
  (of_decide_eq_true (by kernel_rfl)) (by unfold Func.isWrapper; first | (rw [if_pos (by decide +kernel)]; kernel_rfl) | (rw [if_neg (by decide +kernel)]; exact ⟨rfl, rfl⟩))
  (fun os started H enc _ => lifted os started H enc)
theorem proved : Rows.FnExactCrashSaid := over
#print axioms proved
end Go.Proofs.Ytidjdkodgddfcaa.fnExactCrash
namespace Go.Proofs.Ytidjdkodgddfcaa
theorem fnExactCrash_holds : Rows.FnExactCrashSaid := fnExactCrash.proved
end Go.Proofs.Ytidjdkodgddfcaa
end
