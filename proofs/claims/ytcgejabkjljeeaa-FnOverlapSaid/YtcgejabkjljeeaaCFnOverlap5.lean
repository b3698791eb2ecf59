/- Proved: the law FnOverlap of the given program returns true for every input of its Go types and leaves each argument as it was; no condition. (Part 6 of 14.) -/
import Derived.Test.YtcgejabkjljeeaaCFnOverlap4
section
namespace Go.Proofs.Ytcgejabkjljeeaa.P
open Go.RowKit Go.Proofs.YtcgejabkjljeeaaW.PrintWords Go.Proofs.YtcgejabkjljeeaaW.PrintLast Go.Proofs.YtcgejabkjljeeaaW.PrintMore
attribute [local go_sem] str_gtr str_leq str_geq max2_int min2_int max_two min_two max_three min_three max_four min_four
set_option linter.unusedVariables false
set_option linter.unusedSimpArgs false
theorem yq19 {P : Prop} (h : P := by first | (with_reducible assumption) | assumption) : P := h
theorem yq20 {P : Prop} (h : P := by repeat (first | (with_reducible first | exact HB.out | apply qi | apply qd | apply qh | refine qg ?_ GE101.out) | exact HB.out)) : P := h
theorem yq21 {P : Prop} (h : P := by first | rfl | (simp; done) | (simp [*]; done)) : P := h
theorem yq22 {P : Prop} (h : P := by (with_reducible repeat (first | refine qc ?_ _ | refine qf ?_ | refine qa ?_ _)); exact BK101.out) : P := h
theorem yq23 {P : Prop} (h : P := by (try simp only [List.map_toArray, List.map_cons, List.map_nil]); first | done | rfl) : P := h
mutual
def spec_VersionOk.j0 : Nat → Bool → List (S66) → Int → Int → Int → Option (Bool)
 | 0, _, _, _, _, _ => none
 | k + 1, x29, x102000, x102001, x102002, x102003 => if x29 = true then (some false) else (spec_VersionOk.l0 k 0 x102000 x102001 x102002 x102003)
def spec_VersionOk.l0 : Nat → Int → List (S66) → Int → Int → Int → Option (Bool)
 | 0, _, _, _, _, _ => none
 | k + 1, x3, x102000, x102001, x102002, x102003 => if x3 < (x102000.length : Int) then (if 0 ≤ x3 then ((spec_l12Meta.f ((qk x102000 x3).f0) ((qk x102000 x3).f1) ((qk x102000 x3).f2) ((qk x102000 x3).f3) ((qk x102000 x3).f4)).bind fun t106 => (if t106 = true then (if ((qk x102000 x3).f0) ≥ x102001 then (spec_VersionOk.j2 k x3 true x102000 x102001 x102002 x102003) else (if x3 > 0 then (if 0 ≤ (wrap64 (x3 - 1)) then (if (wrap64 (x3 - 1)) < (x102000.length : Int) then ((spec_l12Ahead.f ((qk x102000 (wrap64 (x3 - 1))).f0) ((qk x102000 (wrap64 (x3 - 1))).f1) ((qk x102000 (wrap64 (x3 - 1))).f2) ((qk x102000 (wrap64 (x3 - 1))).f3) ((qk x102000 (wrap64 (x3 - 1))).f4) ((qk x102000 x3).f0) ((qk x102000 x3).f1) ((qk x102000 x3).f2) ((qk x102000 x3).f3) ((qk x102000 x3).f4)).bind fun t110 => (spec_VersionOk.j2 k x3 (!t110) x102000 x102001 x102002 x102003)) else (none)) else (none)) else (spec_VersionOk.j2 k x3 false x102000 x102001 x102002 x102003))) else (spec_VersionOk.j2 k x3 true x102000 x102001 x102002 x102003))) else (none)) else (some true)
def spec_VersionOk.j2 : Nat → Int → Bool → List (S66) → Int → Int → Int → Option (Bool)
 | 0, _, _, _, _, _, _ => none
 | k + 1, x3, x73, x102000, x102001, x102002, x102003 => if x73 = true then (some false) else (spec_VersionOk.l1 k x3 0 x102000 x102001 x102002 x102003)
def spec_VersionOk.l1 : Nat → Int → Int → List (S66) → Int → Int → Int → Option (Bool)
 | 0, _, _, _, _, _, _ => none
 | k + 1, x3, x4, x102000, x102001, x102002, x102003 => if x4 < x3 then (if 0 ≤ x4 then (if x4 < (x102000.length : Int) then (if 0 ≤ x3 then (if x3 < (x102000.length : Int) then (if ((qk x102000 x4).f0) = ((qk x102000 x3).f0) then (some false) else (spec_VersionOk.l1 k x3 (wrap64 (x4 + 1)) x102000 x102001 x102002 x102003)) else (none)) else (none)) else (none)) else (none)) else (spec_VersionOk.l0 k (wrap64 (x3 + 1)) x102000 x102001 x102002 x102003)
end
def spec_VersionOk.f (k : Nat) (l0_0 : List (S66)) (a0_1 : Int) (a0_2 : Int) (a0_3 : Int) : Option (Bool) := if (l0_0.length : Int) > 30 then (spec_VersionOk.j0 k true l0_0 a0_1 a0_2 a0_3) else ((spec_l1In.f a0_1 1 1000000).bind fun t102 => (if t102 = true then ((spec_l1In.f a0_2 0 1000000000000).bind fun t103 => (if t103 = true then ((spec_l1In.f a0_3 0 (wrap64 (a0_1 - 1))).bind fun t104 => (spec_VersionOk.j0 k (!t104) l0_0 a0_1 a0_2 a0_3)) else (spec_VersionOk.j0 k true l0_0 a0_1 a0_2 a0_3))) else (spec_VersionOk.j0 k true l0_0 a0_1 a0_2 a0_3)))
def spec_VersionOk.T6 : Bool × List (List Nat × List Nat) := (true, [([], []), ([0], [0]), ([], []), ([1, 2], [1, 2]), ([3], [3]), ([4], [4]), ([5], [5]), ([6, 5], [6]), ([7], [7]), ([8, 7], [7, 8]), ([7], [7]), ([9, 10, 7], [7, 9, 10]), ([11, 7], [7, 11]), ([12, 7], [7, 12]), ([7], [7]), ([14, 7], [7, 14]), ([13, 15, 7], [7, 13, 15]), ([7, 16], [7, 16]), ([17, 7], [17]), ([18], [18]), ([19, 18], [18, 19]), ([20, 18, 18], [18, 20]), ([21], [21]), ([22, 21], [21, 22]), ([21], [21]), ([24, 21], [21, 24]), ([23, 25, 21], [21, 23, 25]), ([26, 21], [21, 26]), ([21], [21]), ([28, 21], [21, 28]), ([21], [21]), ([29, 30, 21], [21, 29, 30]), ([31, 21], [21, 31]), ([27, 32, 21, 21], [21, 27, 32]), ([33, 21], [21, 33]), ([21, 34, 18], [18, 21, 34]), ([18, 35], [18, 35])])
def spec_VersionOk.B6 : List Nat := [0, 1, 0, 7, 15, 31, 63, 127, 255, 511, 255, 2047, 4095, 8191, 255, 16639, 65535, 131071, 262143, 524287, 1048575, 2097151, 4194303, 8388607, 4194303, 20971519, 67108863, 134217727, 4194303, 272629759, 4194303, 1883242495, 4030726143, 8589934591, 17179869183, 34359738367, 68719476735]
theorem spec_VersionOk.tab6 : rtab .any (opsOf Try.f26 6) = spec_VersionOk.T6 := by kernel_rfl
theorem spec_VersionOk.bits6 : waitsOk spec_VersionOk.T6.2 spec_VersionOk.B6 = true := by kernel_rfl
def spec_VersionOk.T11 : Bool × List (List Nat × List Nat) := (true, [([], []), ([0], [0]), ([], []), ([1, 2], [1, 2]), ([3], [3]), ([4], [4]), ([], []), ([6], [6]), ([], []), ([7, 8], [7, 8]), ([9], [9]), ([10], [10]), ([5, 11], [5, 11])])
def spec_VersionOk.B11 : List Nat := [0, 1, 0, 7, 15, 31, 0, 64, 0, 448, 960, 1984, 4095]
theorem spec_VersionOk.tab11 : rtab .any (opsOf Try.f26 11) = spec_VersionOk.T11 := by kernel_rfl
theorem spec_VersionOk.bits11 : waitsOk spec_VersionOk.T11.2 spec_VersionOk.B11 = true := by kernel_rfl
set_option maxHeartbeats 8000000 in
set_option maxRecDepth 100000 in
theorem spec_VersionOk.calls (k : Nat) (A0_0 : Option Addr) (c0_0 : Nat) (l0_0 : List (S66)) (a0_1 : Int) (a0_2 : Int) (a0_3 : Int) (r : Bool) (w : World) (hr0_0 : Kd.C k66 w A0_0 l0_0.length l0_0) (hc0_0 : l0_0.length ≤ c0_0) (h : spec_VersionOk.f k l0_0 a0_1 a0_2 a0_3 = some r) :
  Calls Try.prog 26 #[.agg #[.slice A0_0 l0_0.length c0_0, .int .i64 a0_1, .int .i64 a0_2, .int .i64 a0_3]] w fun e w' => e = .returned (.bool r) ∧ Below w.heap.size w w' := by
 have hu32 := Try.underlying32
 have hu66 := Try.underlying66
 have HR0_0 := Qz.mk hr0_0
 have HC0_0 := Qz.mk hc0_0
 clear hr0_0 hc0_0
 have HB := Qz.mk (Below.refl w.heap.size w)
 have H : (if (l0_0.length : Int) > 30 then (spec_VersionOk.j0 k true l0_0 a0_1 a0_2 a0_3) else ((spec_l1In.f a0_1 1 1000000).bind fun t102 => (if t102 = true then ((spec_l1In.f a0_2 0 1000000000000).bind fun t103 => (if t103 = true then ((spec_l1In.f a0_3 0 (wrap64 (a0_1 - 1))).bind fun t104 => (spec_VersionOk.j0 k (!t104) l0_0 a0_1 a0_2 a0_3)) else (spec_VersionOk.j0 k true l0_0 a0_1 a0_2 a0_3))) else (spec_VersionOk.j0 k true l0_0 a0_1 a0_2 a0_3)))) = some r := h
 clear h
 have HC2 := Qz.mk H
 clear H
 go_enter Try.func26, Try.ntmps26
 go_upto_region 1 with (first | ((with_reducible refine qf1 (N := 1) rfl ?_); refine qe1 ?hg (N := 1) ?hd (cs := #[.slice A0_0 l0_0.length c0_0, .int .i64 a0_1, .int .i64 a0_2, .int .i64 a0_3]) (t := 32) ?hr ?_; (case hd => rfl); (case hg => rfl); (case hr => first | (go_simp; done) | (go_simp; rfl)); intro gb101 hg w3 hbox hb; have BK101 := Qz.mk (hbox); have GW101 := Qz.mk ((by rw [hg]; exact (qt (by repeat (first | (with_reducible first | exact HB.out | apply qi | apply qd | apply qh) | exact HB.out))) : w.heap.size ≤ gb101)); have GE101 := GW101; replace HB := Qz.mk (qn (by repeat (first | (with_reducible first | exact HB.out | apply qi | apply qd | apply qh) | exact HB.out)) hb); clear hb hbox hg))
 (try simp only [Act.put, sq1, sq2, sq3])
 go_cut [29] (fun v29 wc => ∃ (kq : Nat) (x29_1 : Bool), v29 = .bool x29_1 ∧ Qz (spec_VersionOk.j0 kq x29_1 l0_0 a0_1 a0_2 a0_3 = some r) ∧ Qz (kq ≤ k) ∧ Qz (wc.heap[gb101]? = some (.cells #[(.slice A0_0 l0_0.length c0_0), .int .i64 a0_1, .int .i64 a0_2, .int .i64 a0_3] 32 (0, 0))) ∧ Qz (Below w.heap.size w wc))
 case first =>
  have H := HC2.out
  clear HC2
  by_cases c4 : (l0_0.length : Int) > 30
  ·rw [if_pos c4] at H
   have c4b0 : decide (30 < (l0_0.length : Int)) = true := decide_eq_true c4
   have c4b1 : decide (30 < l0_0.length) = true := decide_eq_true (by omega)
   clear c4
   (first | rw [c4b0] | (simp only [i64_w, i32_w]; rw [c4b0]) | skip)
   have H' := Qz.mk H
   clear H
   have hcz5_0 : w3.cell? ⟨gb101, 0, none⟩ = some (.slice A0_0 l0_0.length c0_0) := (qb BK101.out 0).trans rfl
   have hcz5_1 : w3.cell? ⟨gb101, 1, none⟩ = some (.int .i64 a0_1) := (qb BK101.out 1).trans rfl
   have hcz5_2 : w3.cell? ⟨gb101, 2, none⟩ = some (.int .i64 a0_2) := (qb BK101.out 2).trans rfl
   have hcz5_3 : w3.cell? ⟨gb101, 3, none⟩ = some (.int .i64 a0_3) := (qb BK101.out 3).trans rfl
   have hfz5_0 := qe BK101.out 0
   have hfz5_1 := qe BK101.out 1
   have hfz5_2 := qe BK101.out 2
   have hfz5_3 := qe BK101.out 3
   go_wp2
   go_meet
   case rel => exact ⟨_, (true), yq21, H', ⟨by first | omega | exact Nat.le_refl _⟩, ⟨by (with_reducible repeat (first | refine qc ?_ _ | refine qf ?_ | refine qa ?_ _)); exact BK101.out⟩, ⟨by repeat (first | (with_reducible first | exact HB.out | apply qi | apply qd | apply qh | refine qg ?_ GE101.out) | exact HB.out)⟩⟩
  ·rw [if_neg c4] at H
   have c4b0 : decide (30 < (l0_0.length : Int)) = false := decide_eq_false c4
   have c4b1 : decide (30 < l0_0.length) = false := decide_eq_false (by omega)
   clear c4
   (first | rw [c4b0] | (simp only [i64_w, i32_w]; rw [c4b0]) | skip)
   replace H := Option.bind_eq_some_iff.mp H
   obtain ⟨t102, A60, H⟩ := H
   replace H : (if t102 = true then ((spec_l1In.f a0_2 0 1000000000000).bind fun t103 => (if t103 = true then ((spec_l1In.f a0_3 0 (wrap64 (a0_1 - 1))).bind fun t104 => (spec_VersionOk.j0 k (!t104) l0_0 a0_1 a0_2 a0_3)) else (spec_VersionOk.j0 k true l0_0 a0_1 a0_2 a0_3))) else (spec_VersionOk.j0 k true l0_0 a0_1 a0_2 a0_3)) = some r := H
   have A6 := Qz.mk A60
   clear A60
   by_cases c7 : t102 = true
   ·subst c7
    have H1 : ((spec_l1In.f a0_2 0 1000000000000).bind fun t103 => (if t103 = true then ((spec_l1In.f a0_3 0 (wrap64 (a0_1 - 1))).bind fun t104 => (spec_VersionOk.j0 k (!t104) l0_0 a0_1 a0_2 a0_3)) else (spec_VersionOk.j0 k true l0_0 a0_1 a0_2 a0_3))) = some r := by rw [if_pos rfl] at H; exact H
    clear H
    have H := H1
    clear H1
    replace H := Option.bind_eq_some_iff.mp H
    obtain ⟨t103, A80, H⟩ := H
    replace H : (if t103 = true then ((spec_l1In.f a0_3 0 (wrap64 (a0_1 - 1))).bind fun t104 => (spec_VersionOk.j0 k (!t104) l0_0 a0_1 a0_2 a0_3)) else (spec_VersionOk.j0 k true l0_0 a0_1 a0_2 a0_3)) = some r := H
    have A8 := Qz.mk A80
    clear A80
    by_cases c9 : t103 = true
    ·subst c9
     have H1 : ((spec_l1In.f a0_3 0 (wrap64 (a0_1 - 1))).bind fun t104 => (spec_VersionOk.j0 k (!t104) l0_0 a0_1 a0_2 a0_3)) = some r := by rw [if_pos rfl] at H; exact H
     clear H
     have H := H1
     clear H1
     replace H := Option.bind_eq_some_iff.mp H
     obtain ⟨t104, A100, H⟩ := H
     replace H : (spec_VersionOk.j0 k (!t104) l0_0 a0_1 a0_2 a0_3) = some r := H
     have A10 := Qz.mk A100
     clear A100
     have H' := Qz.mk H
     clear H
     have hcz11_0 : w3.cell? ⟨gb101, 0, none⟩ = some (.slice A0_0 l0_0.length c0_0) := (qb BK101.out 0).trans rfl
     have hcz11_1 : w3.cell? ⟨gb101, 1, none⟩ = some (.int .i64 a0_1) := (qb BK101.out 1).trans rfl
     have hcz11_2 : w3.cell? ⟨gb101, 2, none⟩ = some (.int .i64 a0_2) := (qb BK101.out 2).trans rfl
     have hcz11_3 : w3.cell? ⟨gb101, 3, none⟩ = some (.int .i64 a0_3) := (qb BK101.out 3).trans rfl
     have hfz11_0 := qe BK101.out 0
     have hfz11_1 := qe BK101.out 1
     have hfz11_2 := qe BK101.out 2
     have hfz11_3 := qe BK101.out 3
     go_wp2_with (first | (go_at_call 63; (with_reducible refine (spec_l1In.calls a0_1 1 1000000 true _ A6.out).mono ?_); rintro e w' ⟨rfl, ⟨nd, rfl⟩⟩) | (go_at_call 63; (with_reducible refine (spec_l1In.calls a0_2 0 1000000000000 true _ A8.out).mono ?_); rintro e w' ⟨rfl, ⟨nd, rfl⟩⟩) | (go_at_call 63; (with_reducible refine (spec_l1In.calls a0_3 0 (wrap64 (a0_1 - 1)) t104 _ A10.out).mono ?_); rintro e w' ⟨rfl, ⟨nd, rfl⟩⟩))
     go_meet
     case rel => exact ⟨_, (!t104), yq21, H', ⟨by first | omega | exact Nat.le_refl _⟩, ⟨by (with_reducible repeat (first | refine qc ?_ _ | refine qf ?_ | refine qa ?_ _)); exact BK101.out⟩, ⟨by repeat (first | (with_reducible first | exact HB.out | apply qi | apply qd | apply qh | refine qg ?_ GE101.out) | exact HB.out)⟩⟩
    ·replace c9 := Bool.eq_false_iff.mpr c9
     subst c9
     have H1 : (spec_VersionOk.j0 k true l0_0 a0_1 a0_2 a0_3) = some r := by rw [if_neg (show ¬ (false = true) by decide)] at H; exact H
     clear H
     have H := H1
     clear H1
     have H' := Qz.mk H
     clear H
     have hcz12_0 : w3.cell? ⟨gb101, 0, none⟩ = some (.slice A0_0 l0_0.length c0_0) := (qb BK101.out 0).trans rfl
     have hcz12_1 : w3.cell? ⟨gb101, 1, none⟩ = some (.int .i64 a0_1) := (qb BK101.out 1).trans rfl
     have hcz12_2 : w3.cell? ⟨gb101, 2, none⟩ = some (.int .i64 a0_2) := (qb BK101.out 2).trans rfl
     have hcz12_3 : w3.cell? ⟨gb101, 3, none⟩ = some (.int .i64 a0_3) := (qb BK101.out 3).trans rfl
     have hfz12_0 := qe BK101.out 0
     have hfz12_1 := qe BK101.out 1
     have hfz12_2 := qe BK101.out 2
     have hfz12_3 := qe BK101.out 3
     go_wp2_with (first | (go_at_call 63; (with_reducible refine (spec_l1In.calls a0_1 1 1000000 true _ A6.out).mono ?_); rintro e w' ⟨rfl, ⟨nd, rfl⟩⟩) | (go_at_call 63; (with_reducible refine (spec_l1In.calls a0_2 0 1000000000000 false _ A8.out).mono ?_); rintro e w' ⟨rfl, ⟨nd, rfl⟩⟩))
     go_meet
     case rel => exact ⟨_, (true), yq21, H', ⟨by first | omega | exact Nat.le_refl _⟩, ⟨by (with_reducible repeat (first | refine qc ?_ _ | refine qf ?_ | refine qa ?_ _)); exact BK101.out⟩, ⟨by repeat (first | (with_reducible first | exact HB.out | apply qi | apply qd | apply qh | refine qg ?_ GE101.out) | exact HB.out)⟩⟩
   ·replace c7 := Bool.eq_false_iff.mpr c7
    subst c7
    have H1 : (spec_VersionOk.j0 k true l0_0 a0_1 a0_2 a0_3) = some r := by rw [if_neg (show ¬ (false = true) by decide)] at H; exact H
    clear H
    have H := H1
    clear H1
    have H' := Qz.mk H
    clear H
    have hcz13_0 : w3.cell? ⟨gb101, 0, none⟩ = some (.slice A0_0 l0_0.length c0_0) := (qb BK101.out 0).trans rfl
    have hcz13_1 : w3.cell? ⟨gb101, 1, none⟩ = some (.int .i64 a0_1) := (qb BK101.out 1).trans rfl
    have hcz13_2 : w3.cell? ⟨gb101, 2, none⟩ = some (.int .i64 a0_2) := (qb BK101.out 2).trans rfl
    have hcz13_3 : w3.cell? ⟨gb101, 3, none⟩ = some (.int .i64 a0_3) := (qb BK101.out 3).trans rfl
    have hfz13_0 := qe BK101.out 0
    have hfz13_1 := qe BK101.out 1
    have hfz13_2 := qe BK101.out 2
    have hfz13_3 := qe BK101.out 3
    go_wp2_with (first | (go_at_call 63; (with_reducible refine (spec_l1In.calls a0_1 1 1000000 false _ A6.out).mono ?_); rintro e w' ⟨rfl, ⟨nd, rfl⟩⟩))
    go_meet
    case rel => exact ⟨_, (true), yq21, H', ⟨by first | omega | exact Nat.le_refl _⟩, ⟨by (with_reducible repeat (first | refine qc ?_ _ | refine qf ?_ | refine qa ?_ _)); exact BK101.out⟩, ⟨by repeat (first | (with_reducible first | exact HB.out | apply qi | apply qd | apply qh | refine qg ?_ GE101.out) | exact HB.out)⟩⟩
 case rest =>
  clear HC2
  try clear c2
  try clear p2
  try clear c4
  try clear c4b0
  try clear c4b1
  try clear p6
  try clear c7
  try clear c9
  try clear hcz11_0
  try clear hcz11_1
  try clear hcz11_2
  try clear hcz11_3
  try clear hcz12_0
  try clear hcz12_1
  try clear hcz12_2
  try clear hcz12_3
  try clear hcz13_0
  try clear hcz13_1
  try clear hcz13_2
  try clear hcz13_3
  try clear hcz5_0
  try clear hcz5_1
  try clear hcz5_2
  try clear hcz5_3
  try clear hfz11_0
  try clear hfz11_1
  try clear hfz11_2
  try clear hfz11_3
  try clear hfz12_0
  try clear hfz12_1
  try clear hfz12_2
  try clear hfz12_3
  try clear hfz13_0
  try clear hfz13_1
  try clear hfz13_2
  try clear hfz13_3
  try clear hfz5_0
  try clear hfz5_1
  try clear hfz5_2
  try clear hfz5_3
  obtain ⟨kq, x29_1, rfl, HA, HJ1, BK101, HB⟩ := hcut
  cases kq with
  | zero => exact absurd HA.out (by simp [spec_VersionOk.j0])
  | succ kj1 =>
   have H := HA.out
   clear HA
   simp only [spec_VersionOk.j0] at H
   by_cases c14 : x29_1 = true
   ·subst c14
    have H1 : (some false) = some r := by rw [if_pos rfl] at H; exact H
    clear H
    have H := H1
    clear H1
    obtain rfl := Option.some.inj H
    go_wp2
    go_ret
    exact ⟨by first | rfl | (simp [qw, qv] <;> rfl) | (simp [*, qw, qv] <;> rfl), by repeat (first | (with_reducible first | exact HB.out | apply qi | apply qd | apply qh | refine qg ?_ GE101.out) | exact HB.out)⟩
   ·replace c14 := Bool.eq_false_iff.mpr c14
    subst c14
    have H1 : (spec_VersionOk.l0 kj1 0 l0_0 a0_1 a0_2 a0_3) = some r := by rw [if_neg (show ¬ (false = true) by decide)] at H; exact H
    clear H
    have H := H1
    clear H1
    have H' := Qz.mk H
    clear H
    go_wp2
    go_loopg [3] kj1 (fun kq v3 w' => ∃ (x3_2 : Int), v3 = .int .i64 x3_2 ∧ Qz (spec_VersionOk.l0 kq x3_2 l0_0 a0_1 a0_2 a0_3 = some r) ∧ Qz (kq ≤ kj1) ∧ Qz (w'.heap[gb101]? = some (.cells #[(.slice A0_0 l0_0.length c0_0), .int .i64 a0_1, .int .i64 a0_2, .int .i64 a0_3] 32 (0, 0))) ∧ Qz (Below w.heap.size w w'))
    case atStart => exact ⟨(0), yq21, H', ⟨Nat.le_refl _⟩, ⟨by (with_reducible repeat (first | refine qc ?_ _ | refine qf ?_ | refine qa ?_ _)); exact BK101.out⟩, ⟨by repeat (first | (with_reducible first | exact HB.out | apply qi | apply qd | apply qh | refine qg ?_ GE101.out) | exact HB.out)⟩⟩
    case round =>
     clear H'
     try clear c1
     try clear c2
     try clear p2
     try clear c4
     try clear c4b0
     try clear c4b1
     try clear p6
     try clear c7
     try clear c9
     try clear c14
     try clear hcz11_0
     try clear hcz11_1
     try clear hcz11_2
     try clear hcz11_3
     try clear hcz12_0
     try clear hcz12_1
     try clear hcz12_2
     try clear hcz12_3
     try clear hcz13_0
     try clear hcz13_1
     try clear hcz13_2
     try clear hcz13_3
     try clear hcz5_0
     try clear hcz5_1
     try clear hcz5_2
     try clear hcz5_3
     try clear hfz11_0
     try clear hfz11_1
     try clear hfz11_2
     try clear hfz11_3
     try clear hfz12_0
     try clear hfz12_1
     try clear hfz12_2
     try clear hfz12_3
     try clear hfz13_0
     try clear hfz13_1
     try clear hfz13_2
     try clear hfz13_3
     try clear hfz5_0
     try clear hfz5_1
     try clear hfz5_2
     try clear hfz5_3
     try clear p2
     try clear p6
     obtain ⟨x3_2, rfl, HA, HK2, BK101, HB⟩ := hrel
     cases gk with
     | zero => exact absurd HA.out (by simp [spec_VersionOk.l0])
     | succ k2 =>
      have H := HA.out
      clear HA
      simp only [spec_VersionOk.l0] at H
      by_cases c15 : x3_2 < (l0_0.length : Int)
      ·rw [if_pos c15] at H
       have c15b0 : decide (x3_2 < (l0_0.length : Int)) = true := decide_eq_true c15
       clear c15
       have HC16 := Qz.mk H
       clear H
       have hcz17_0 : wr.cell? ⟨gb101, 0, none⟩ = some (.slice A0_0 l0_0.length c0_0) := (qb BK101.out 0).trans rfl
       have hcz17_1 : wr.cell? ⟨gb101, 1, none⟩ = some (.int .i64 a0_1) := (qb BK101.out 1).trans rfl
       have hcz17_2 : wr.cell? ⟨gb101, 2, none⟩ = some (.int .i64 a0_2) := (qb BK101.out 2).trans rfl
       have hcz17_3 : wr.cell? ⟨gb101, 3, none⟩ = some (.int .i64 a0_3) := (qb BK101.out 3).trans rfl
       have hfz17_0 := qe BK101.out 0
       have hfz17_1 := qe BK101.out 1
       have hfz17_2 := qe BK101.out 2
       have hfz17_3 := qe BK101.out 3
       go_upto_region 6 with (fail)
       go_cut [73] (fun v73 wc => ∃ (kq : Nat) (x73_15 : Bool), v73 = .bool x73_15 ∧ Qz (spec_VersionOk.j2 kq x3_2 x73_15 l0_0 a0_1 a0_2 a0_3 = some r) ∧ Qz (kq ≤ k2) ∧ Qz (wc.heap[gb101]? = some (.cells #[(.slice A0_0 l0_0.length c0_0), .int .i64 a0_1, .int .i64 a0_2, .int .i64 a0_3] 32 (0, 0))) ∧ Qz (Below w.heap.size w wc))
       case first =>
        have H := HC16.out
        clear HC16
        by_cases c18 : 0 ≤ x3_2
        ·rw [if_pos c18] at H
         have c18b0 : decide (0 ≤ x3_2) = true := decide_eq_true c18
         clear c18
         (first | rw [c18b0] | (simp only [i64_w, i32_w]; rw [c18b0]) | skip)
         replace H := Option.bind_eq_some_iff.mp H
         obtain ⟨t106, A190, H⟩ := H
         replace H : (if t106 = true then (if ((qk l0_0 x3_2).f0) ≥ a0_1 then (spec_VersionOk.j2 k2 x3_2 true l0_0 a0_1 a0_2 a0_3) else (if x3_2 > 0 then (if 0 ≤ (wrap64 (x3_2 - 1)) then (if (wrap64 (x3_2 - 1)) < (l0_0.length : Int) then ((spec_l12Ahead.f ((qk l0_0 (wrap64 (x3_2 - 1))).f0) ((qk l0_0 (wrap64 (x3_2 - 1))).f1) ((qk l0_0 (wrap64 (x3_2 - 1))).f2) ((qk l0_0 (wrap64 (x3_2 - 1))).f3) ((qk l0_0 (wrap64 (x3_2 - 1))).f4) ((qk l0_0 x3_2).f0) ((qk l0_0 x3_2).f1) ((qk l0_0 x3_2).f2) ((qk l0_0 x3_2).f3) ((qk l0_0 x3_2).f4)).bind fun t110 => (spec_VersionOk.j2 k2 x3_2 (!t110) l0_0 a0_1 a0_2 a0_3)) else (none)) else (none)) else (spec_VersionOk.j2 k2 x3_2 false l0_0 a0_1 a0_2 a0_3))) else (spec_VersionOk.j2 k2 x3_2 true l0_0 a0_1 a0_2 a0_3)) = some r := H
         have A19 := Qz.mk A190
         clear A190
         by_cases c20 : t106 = true
         ·subst c20
          have H1 : (if ((qk l0_0 x3_2).f0) ≥ a0_1 then (spec_VersionOk.j2 k2 x3_2 true l0_0 a0_1 a0_2 a0_3) else (if x3_2 > 0 then (if 0 ≤ (wrap64 (x3_2 - 1)) then (if (wrap64 (x3_2 - 1)) < (l0_0.length : Int) then ((spec_l12Ahead.f ((qk l0_0 (wrap64 (x3_2 - 1))).f0) ((qk l0_0 (wrap64 (x3_2 - 1))).f1) ((qk l0_0 (wrap64 (x3_2 - 1))).f2) ((qk l0_0 (wrap64 (x3_2 - 1))).f3) ((qk l0_0 (wrap64 (x3_2 - 1))).f4) ((qk l0_0 x3_2).f0) ((qk l0_0 x3_2).f1) ((qk l0_0 x3_2).f2) ((qk l0_0 x3_2).f3) ((qk l0_0 x3_2).f4)).bind fun t110 => (spec_VersionOk.j2 k2 x3_2 (!t110) l0_0 a0_1 a0_2 a0_3)) else (none)) else (none)) else (spec_VersionOk.j2 k2 x3_2 false l0_0 a0_1 a0_2 a0_3))) = some r := by rw [if_pos rfl] at H; exact H
          clear H
          have H := H1
          clear H1
          by_cases c21 : ((qk l0_0 x3_2).f0) ≥ a0_1
          ·rw [if_pos c21] at H
           have c21b0 : decide (a0_1 ≤ ((qk l0_0 x3_2).f0)) = true := decide_eq_true c21
           clear c21
           have H' := Qz.mk H
           clear H
           try go_wp2
           replace BK101 := Qz.mk (qf BK101.out)
           replace HB := Qz.mk (qh HB.out)
           have p105 : 0 ≤ (x3_2 : Int) := of_decide_eq_true yq19
           have q105 : x3_2 < (l0_0.length : Int) := of_decide_eq_true yq19
           obtain ⟨ad105, e105, hx105_0, hx105_1, hx105_2, hx105_3, hx105_4⟩ := at_T66 HR0_0.out x3_2 p105 q105
           have hw105_4 := hx105_4
           have hw105_3 := hx105_3
           have hw105_2 := hx105_2
           have hw105_1 := hx105_1
           have hw105_0 := hx105_0
           cases e105
           replace hx105_0 := (HB.out.cell (World.block_lt_of_cell? w _ hx105_0)).trans hx105_0
           replace hx105_1 := (HB.out.cell (World.block_lt_of_cell? w _ hx105_1)).trans hx105_1
           replace hx105_2 := (HB.out.cell (World.block_lt_of_cell? w _ hx105_2)).trans hx105_2
           replace hx105_3 := (HB.out.cell (World.block_lt_of_cell? w _ hx105_3)).trans hx105_3
           replace hx105_4 := (HB.out.cell (World.block_lt_of_cell? w _ hx105_4)).trans hx105_4
           replace p105 := eq_true p105
           replace q105 := eq_true q105
           have p107 : 0 ≤ (x3_2 : Int) := of_decide_eq_true yq19
           have q107 : x3_2 < (l0_0.length : Int) := of_decide_eq_true yq19
           obtain ⟨ad107, e107, hx107_0, hx107_1, hx107_2, hx107_3, hx107_4⟩ := at_T66 HR0_0.out x3_2 p107 q107
           have hw107_4 := hx107_4
           have hw107_3 := hx107_3
           have hw107_2 := hx107_2
           have hw107_1 := hx107_1
           have hw107_0 := hx107_0
           obtain rfl : ad105 = ad107 := (by injection e107)
           replace hx107_0 := (HB.out.cell (World.block_lt_of_cell? w _ hx107_0)).trans hx107_0
           replace hx107_1 := (HB.out.cell (World.block_lt_of_cell? w _ hx107_1)).trans hx107_1
           replace hx107_2 := (HB.out.cell (World.block_lt_of_cell? w _ hx107_2)).trans hx107_2
           replace hx107_3 := (HB.out.cell (World.block_lt_of_cell? w _ hx107_3)).trans hx107_3
           replace hx107_4 := (HB.out.cell (World.block_lt_of_cell? w _ hx107_4)).trans hx107_4
           replace p107 := eq_true p107
           replace q107 := eq_true q107
           refine start_ (n := 37) (S := fun w' => w'.cell? ⟨gb101, 0, none⟩ = some (.slice (some ad105) l0_0.length c0_0) ∧ w'.cell? ⟨gb101, 1, none⟩ = some (.int .i64 a0_1) ∧ w'.cell? ⟨gb101, 2, none⟩ = some (.int .i64 a0_2) ∧ w'.cell? ⟨gb101, 3, none⟩ = some (.int .i64 a0_3) ∧ w'.cell? (ad105.add ((x3_2).toNat * 5)) = some (.int .i64 ((qk l0_0 x3_2).f0)) ∧ w'.cell? ⟨(ad105.add ((x3_2).toNat * 5)).block, (ad105.add ((x3_2).toNat * 5)).off + 1, none⟩ = some (.int .i64 ((qk l0_0 x3_2).f1)) ∧ w'.cell? ⟨(ad105.add ((x3_2).toNat * 5)).block, (ad105.add ((x3_2).toNat * 5)).off + 2, none⟩ = some (.string ((qk l0_0 x3_2).f2)) ∧ w'.cell? ⟨(ad105.add ((x3_2).toNat * 5)).block, (ad105.add ((x3_2).toNat * 5)).off + 3, none⟩ = some (.string ((qk l0_0 x3_2).f3)) ∧ w'.cell? ⟨(ad105.add ((x3_2).toNat * 5)).block, (ad105.add ((x3_2).toNat * 5)).off + 4, none⟩ = some (.int .i64 ((qk l0_0 x3_2).f4)) ∧ w'.cell? (ad105.add ((x3_2).toNat * 5)) = some (.int .i64 ((qk l0_0 x3_2).f0)) ∧ w'.cell? ⟨(ad105.add ((x3_2).toNat * 5)).block, (ad105.add ((x3_2).toNat * 5)).off + 1, none⟩ = some (.int .i64 ((qk l0_0 x3_2).f1)) ∧ w'.cell? ⟨(ad105.add ((x3_2).toNat * 5)).block, (ad105.add ((x3_2).toNat * 5)).off + 2, none⟩ = some (.string ((qk l0_0 x3_2).f2)) ∧ w'.cell? ⟨(ad105.add ((x3_2).toNat * 5)).block, (ad105.add ((x3_2).toNat * 5)).off + 3, none⟩ = some (.string ((qk l0_0 x3_2).f3)) ∧ w'.cell? ⟨(ad105.add ((x3_2).toNat * 5)).block, (ad105.add ((x3_2).toNat * 5)).off + 4, none⟩ = some (.int .i64 ((qk l0_0 x3_2).f4))) (ds := []) bq0 (by kernel_rfl) rfl rfl ⟨(qb BK101.out 0).trans rfl, (qb BK101.out 1).trans rfl, (qb BK101.out 2).trans rfl, (qb BK101.out 3).trans rfl, ((HB.out.cell (World.block_lt_of_cell? w _ hw105_0)).trans hw105_0), ((HB.out.cell (World.block_lt_of_cell? w _ hw105_1)).trans hw105_1), ((HB.out.cell (World.block_lt_of_cell? w _ hw105_2)).trans hw105_2), ((HB.out.cell (World.block_lt_of_cell? w _ hw105_3)).trans hw105_3), ((HB.out.cell (World.block_lt_of_cell? w _ hw105_4)).trans hw105_4), ((HB.out.cell (World.block_lt_of_cell? w _ hw107_0)).trans hw107_0), ((HB.out.cell (World.block_lt_of_cell? w _ hw107_1)).trans hw107_1), ((HB.out.cell (World.block_lt_of_cell? w _ hw107_2)).trans hw107_2), ((HB.out.cell (World.block_lt_of_cell? w _ hw107_3)).trans hw107_3), ((HB.out.cell (World.block_lt_of_cell? w _ hw107_4)).trans hw107_4)⟩ (fun hHeld => ?_); refine with_tabW spec_VersionOk.tab6 spec_VersionOk.bits6 (fun HT_ HW_ => ?_)
           generalize wr.drew = w22 at BK101 HB hx105_0 hx105_1 hx105_2 hx105_3 hx105_4 hx107_0 hx107_1 hx107_2 hx107_3 hx107_4 hHeld ⊢
           refine pure_ (i := 0) (N := some 37) (v := ?_) (a' := ?_) bq7 rfl rfl (qr HT_.out (by kernel_rfl)) (fun _ _ _ h => h) (Or.inl ⟨by rfl, ?_⟩) ?_ ?_
           rotate_left
           ·intro w'
            go_simp
            with_reducible rfl
           rotate_left
           ·simp only [Act.put, sq1, sq2, sq3, i64_w, i32_w]
            rfl
           refine pure_ (i := 2) (N := some 39) (v := ?_) (a' := ?_) bq12 rfl rfl (qr HT_.out (by kernel_rfl)) (fun _ _ _ h => h) (Or.inl ⟨by rfl, ?_⟩) ?_ ?_
           rotate_left
           ·intro w'
            go_simp
            with_reducible rfl
           rotate_left
           ·simp only [Act.put, sq1, sq2, sq3, i64_w, i32_w]
            rfl
           refine take_ (i := 1) (N := some 38) (v := ?_) (a' := ?_) bq20 rfl rfl (qb1 HT_.out HW_.out (by kernel_rfl)) (fun _ _ _ h => h) (Or.inl ⟨by rfl, ?_⟩) hHeld ?_ ?_
           rotate_left
           ·rintro w' ⟨s0, s1, s2, s3, s4, s5, s6, s7, s8, s9, s10, s11, s12, s13⟩
            go_simp
            with_reducible rfl
           rotate_left
           ·simp only [Act.put, sq1, sq2, sq3, i64_w, i32_w]
            rfl
           refine pure_ (i := 3) (N := some 40) (v := ?_) (a' := ?_) bq27 rfl rfl (qr HT_.out (by kernel_rfl)) (fun _ _ _ h => h) (Or.inl ⟨by rfl, ?_⟩) ?_ ?_
           rotate_left
           ·intro w'
            go_simp
            with_reducible rfl
           rotate_left
           ·simp only [Act.put, sq1, sq2, sq3, i64_w, i32_w]
            rfl
           refine take_ (i := 4) (N := some 41) (v := ?_) (a' := ?_) bq33 rfl rfl (qb1 HT_.out HW_.out (by kernel_rfl)) (fun _ _ _ h => h) (Or.inl ⟨by rfl, ?_⟩) hHeld ?_ ?_
           rotate_left
           ·rintro w' ⟨s0, s1, s2, s3, s4, s5, s6, s7, s8, s9, s10, s11, s12, s13⟩
            go_simp
            with_reducible rfl
           rotate_left
           ·simp only [Act.put, sq1, sq2, sq3, i64_w, i32_w]
            rfl
           refine one_ (i := 5) (N := some 42) bq39 rfl rfl (one_of HT_.out (by kernel_rfl)) (by decide) (fun K hK => ?_)
           refine goes_ Try.func64 (by kernel_rfl) rfl #[.agg #[.int .i64 ((qk l0_0 x3_2).f0), .int .i64 ((qk l0_0 x3_2).f1), .string ((qk l0_0 x3_2).f2), .string ((qk l0_0 x3_2).f3), .int .i64 ((qk l0_0 x3_2).f4)]] (by rfl) rfl rfl yq23 ?_
           with_reducible refine (spec_l12Meta.calls ((qk l0_0 x3_2).f0) ((qk l0_0 x3_2).f1) ((qk l0_0 x3_2).f2) ((qk l0_0 x3_2).f3) ((qk l0_0 x3_2).f4) true _ A19.out).mono ?_
           rintro e w23 ⟨rfl, hb⟩
           refine ⟨_, rfl, ?_⟩
           replace BK101 := Qz.mk (qq (g := gb101) (o := .cells #[.slice (some ad105) l0_0.length c0_0, .int .i64 a0_1, .int .i64 a0_2, .int .i64 a0_3] 32 (0, 0)) yq22 hb)
           replace HB := Qz.mk (qn yq20 hb)
           (try clear hb)
           refine hK.out _ _ ⟨(qb BK101.out 0).trans rfl, (qb BK101.out 1).trans rfl, (qb BK101.out 2).trans rfl, (qb BK101.out 3).trans rfl, ((HB.out.cell (World.block_lt_of_cell? w _ hw105_0)).trans hw105_0), ((HB.out.cell (World.block_lt_of_cell? w _ hw105_1)).trans hw105_1), ((HB.out.cell (World.block_lt_of_cell? w _ hw105_2)).trans hw105_2), ((HB.out.cell (World.block_lt_of_cell? w _ hw105_3)).trans hw105_3), ((HB.out.cell (World.block_lt_of_cell? w _ hw105_4)).trans hw105_4), ((HB.out.cell (World.block_lt_of_cell? w _ hw107_0)).trans hw107_0), ((HB.out.cell (World.block_lt_of_cell? w _ hw107_1)).trans hw107_1), ((HB.out.cell (World.block_lt_of_cell? w _ hw107_2)).trans hw107_2), ((HB.out.cell (World.block_lt_of_cell? w _ hw107_3)).trans hw107_3), ((HB.out.cell (World.block_lt_of_cell? w _ hw107_4)).trans hw107_4)⟩ (fun hHeld => ?_)
           clear hK K
           refine norm_ (a' := ?_) ?_ ?_
           rotate_left
           ·show Act.put _ (some 42) _ = _
            simp only [Act.put, sq1, sq2, sq3, i64_w, i32_w]
            rfl
           refine pure_ (i := 6) (N := some 43) (v := ?_) (a' := ?_) bq45 rfl rfl (qr HT_.out (by kernel_rfl)) (fun _ _ _ h => h) (Or.inl ⟨by rfl, ?_⟩) ?_ ?_
           rotate_left
           ·intro w'
            go_simp
            with_reducible rfl
           rotate_left
           ·simp only [Act.put, sq1, sq2, sq3, i64_w, i32_w]
            rfl
           refine pure_ (i := 7) (N := some 44) (v := ?_) (a' := ?_) bq55 rfl rfl (qr HT_.out (by kernel_rfl)) (fun _ _ _ h => h) (Or.inl ⟨by rfl, ?_⟩) ?_ ?_
           rotate_left
           ·intro w'
            go_simp
            with_reducible rfl
           rotate_left
           ·simp only [Act.put, sq1, sq2, sq3, i64_w, i32_w]
            rfl
           refine pure_ (i := 8) (N := some 45) (v := ?_) (a' := ?_) bq59 rfl rfl (qr HT_.out (by kernel_rfl)) (fun _ _ _ h => h) (Or.inl ⟨by rfl, ?_⟩) ?_ ?_
           rotate_left
           ·intro w'
            go_simp
            with_reducible rfl
           rotate_left
           ·simp only [Act.put, sq1, sq2, sq3, i64_w, i32_w]
            rfl
           refine pure_ (i := 10) (N := some 47) (v := ?_) (a' := ?_) bq64 rfl rfl (qr HT_.out (by kernel_rfl)) (fun _ _ _ h => h) (Or.inl ⟨by rfl, ?_⟩) ?_ ?_
           rotate_left
           ·intro w'
            go_simp
            with_reducible rfl
           rotate_left
           ·simp only [Act.put, sq1, sq2, sq3, i64_w, i32_w]
            rfl
           refine pure_ (i := 14) (N := some 51) (v := ?_) (a' := ?_) bq65 rfl rfl (qr HT_.out (by kernel_rfl)) (fun _ _ _ h => h) (Or.inl ⟨by rfl, ?_⟩) ?_ ?_
           rotate_left
           ·intro w'
            go_simp
            with_reducible rfl
           rotate_left
           ·simp only [Act.put, sq1, sq2, sq3, i64_w, i32_w]
            rfl
           refine take_ (i := 9) (N := some 46) (v := ?_) (a' := ?_) bq72 rfl rfl (qb1 HT_.out HW_.out (by kernel_rfl)) (fun _ _ _ h => h) (Or.inl ⟨by rfl, ?_⟩) hHeld ?_ ?_
           rotate_left
           ·rintro w' ⟨s0, s1, s2, s3, s4, s5, s6, s7, s8, s9, s10, s11, s12, s13⟩
            go_simp
            with_reducible rfl
           rotate_left
           ·simp only [Act.put, sq1, sq2, sq3, i64_w, i32_w]
            rfl
           refine pure_ (i := 11) (N := some 48) (v := ?_) (a' := ?_) bq75 rfl rfl (qr HT_.out (by kernel_rfl)) (fun _ _ _ h => h) (Or.inl ⟨by rfl, ?_⟩) ?_ ?_
           rotate_left
           ·intro w'
            go_simp
            with_reducible rfl
           rotate_left
           ·simp only [Act.put, sq1, sq2, sq3, i64_w, i32_w]
            rfl
           refine pure_ (i := 12) (N := some 49) (v := ?_) (a' := ?_) bq80 rfl rfl (qr HT_.out (by kernel_rfl)) (fun _ _ _ h => h) (Or.inl ⟨by rfl, ?_⟩) ?_ ?_
           rotate_left
           ·intro w'
            go_simp
            with_reducible rfl
           rotate_left
           ·simp only [Act.put, sq1, sq2, sq3, i64_w, i32_w]
            rfl
           refine take_ (i := 13) (N := some 50) (v := ?_) (a' := ?_) bq84 rfl rfl (qb1 HT_.out HW_.out (by kernel_rfl)) (fun _ _ _ h => h) (Or.inl ⟨by rfl, ?_⟩) hHeld ?_ ?_
           rotate_left
           ·rintro w' ⟨s0, s1, s2, s3, s4, s5, s6, s7, s8, s9, s10, s11, s12, s13⟩
            go_simp
            with_reducible rfl
           rotate_left
           ·simp only [Act.put, sq1, sq2, sq3, i64_w, i32_w]
            rfl
           refine take_ (i := 15) (N := some 52) (v := ?_) (a' := ?_) bq87 rfl rfl (qb1 HT_.out HW_.out (by kernel_rfl)) (fun _ _ _ h => h) (Or.inl ⟨by rfl, ?_⟩) hHeld ?_ ?_
           rotate_left
           ·rintro w' ⟨s0, s1, s2, s3, s4, s5, s6, s7, s8, s9, s10, s11, s12, s13⟩
            go_simp
            with_reducible rfl
           rotate_left
           ·simp only [Act.put, sq1, sq2, sq3, i64_w, i32_w]
            rfl
           refine pure_ (i := 16) (N := some 53) (v := ?_) (a' := ?_) bq89 rfl rfl (qr HT_.out (by kernel_rfl)) (fun _ _ _ h => h) (Or.inl ⟨by rfl, ?_⟩) ?_ ?_
           rotate_left
           ·intro w'
            go_simp
            with_reducible rfl
           rotate_left
           ·simp only [Act.put, sq1, sq2, sq3, i64_w, i32_w]
            rfl
           refine pure_ (i := 17) (N := some 54) (v := ?_) (a' := ?_) bq91 rfl rfl (qr HT_.out (by kernel_rfl)) (fun _ _ _ h => h) (Or.inl ⟨by rfl, ?_⟩) ?_ ?_
           rotate_left
           ·intro w'
            go_simp
            with_reducible rfl
           rotate_left
           ·simp only [Act.put, sq1, sq2, sq3, i64_w, i32_w]
            rfl
           refine pure_ (i := 18) (N := some 55) (v := ?_) (a' := ?_) bq92 rfl rfl (qr HT_.out (by kernel_rfl)) (fun _ _ _ h => h) (Or.inl ⟨by rfl, ?_⟩) ?_ ?_
           rotate_left
           ·intro w'
            go_simp
            with_reducible rfl
           rotate_left
           ·simp only [Act.put, sq1, sq2, sq3, i64_w, i32_w]
            rfl
           refine pure_ (i := 19) (N := some 56) (v := undef) (a' := ?_) bq93 rfl rfl (qr HT_.out (by kernel_rfl)) (fun _ _ _ h => h) (Or.inr ⟨by rfl, rfl⟩) ?_ ?_
           rotate_left
           ·simp only [Act.put, sq1, sq2, sq3, i64_w, i32_w]
            rfl
           refine pure_ (i := 20) (N := some 57) (v := undef) (a' := ?_) bq94 rfl rfl (qr HT_.out (by kernel_rfl)) (fun _ _ _ h => h) (Or.inr ⟨by rfl, rfl⟩) ?_ ?_
           rotate_left
           ·simp only [Act.put, sq1, sq2, sq3, i64_w, i32_w]
            rfl
           refine pure_ (i := 21) (N := some 58) (v := undef) (a' := ?_) bq95 rfl rfl (qr HT_.out (by kernel_rfl)) (fun _ _ _ h => h) (Or.inr ⟨by rfl, rfl⟩) ?_ ?_
           rotate_left
           ·simp only [Act.put, sq1, sq2, sq3, i64_w, i32_w]
            rfl
           refine pure_ (i := 22) (N := some 59) (v := undef) (a' := ?_) bq96 rfl rfl (qr HT_.out (by kernel_rfl)) (fun _ _ _ h => h) (Or.inr ⟨by rfl, rfl⟩) ?_ ?_
           rotate_left
           ·simp only [Act.put, sq1, sq2, sq3, i64_w, i32_w]
            rfl
           refine pure_ (i := 23) (N := some 60) (v := undef) (a' := ?_) bq97 rfl rfl (qr HT_.out (by kernel_rfl)) (fun _ _ _ h => h) (Or.inr ⟨by rfl, rfl⟩) ?_ ?_
           rotate_left
           ·simp only [Act.put, sq1, sq2, sq3, i64_w, i32_w]
            rfl
           refine pure_ (i := 24) (N := some 61) (v := undef) (a' := ?_) bq98 rfl rfl (qr HT_.out (by kernel_rfl)) (fun _ _ _ h => h) (Or.inr ⟨by rfl, rfl⟩) ?_ ?_
           rotate_left
           ·simp only [Act.put, sq1, sq2, sq3, i64_w, i32_w]
            rfl
           refine pure_ (i := 25) (N := some 62) (v := undef) (a' := ?_) bq99 rfl rfl (qr HT_.out (by kernel_rfl)) (fun _ _ _ h => h) (Or.inr ⟨by rfl, rfl⟩) ?_ ?_
           rotate_left
           ·simp only [Act.put, sq1, sq2, sq3, i64_w, i32_w]
            rfl
           refine pure_ (i := 26) (N := some 63) (v := undef) (a' := ?_) bq100 rfl rfl (qr HT_.out (by kernel_rfl)) (fun _ _ _ h => h) (Or.inr ⟨by rfl, rfl⟩) ?_ ?_
           rotate_left
           ·simp only [Act.put, sq1, sq2, sq3, i64_w, i32_w]
            rfl
           refine pure_ (i := 27) (N := some 64) (v := undef) (a' := ?_) bq101 rfl rfl (qr HT_.out (by kernel_rfl)) (fun _ _ _ h => h) (Or.inr ⟨by rfl, rfl⟩) ?_ ?_
           rotate_left
           ·simp only [Act.put, sq1, sq2, sq3, i64_w, i32_w]
            rfl
           refine pure_ (i := 28) (N := some 65) (v := undef) (a' := ?_) bq102 rfl rfl (qr HT_.out (by kernel_rfl)) (fun _ _ _ h => h) (Or.inr ⟨by rfl, rfl⟩) ?_ ?_
           rotate_left
           ·simp only [Act.put, sq1, sq2, sq3, i64_w, i32_w]
            rfl
           refine pure_ (i := 29) (N := some 66) (v := undef) (a' := ?_) bq103 rfl rfl (qr HT_.out (by kernel_rfl)) (fun _ _ _ h => h) (Or.inr ⟨by rfl, rfl⟩) ?_ ?_
           rotate_left
           ·simp only [Act.put, sq1, sq2, sq3, i64_w, i32_w]
            rfl
           refine pure_ (i := 30) (N := some 67) (v := undef) (a' := ?_) bq104 rfl rfl (qr HT_.out (by kernel_rfl)) (fun _ _ _ h => h) (Or.inr ⟨by rfl, rfl⟩) ?_ ?_
           rotate_left
           ·simp only [Act.put, sq1, sq2, sq3, i64_w, i32_w]
            rfl
           refine pure_ (i := 31) (N := some 68) (v := undef) (a' := ?_) bq105 rfl rfl (qr HT_.out (by kernel_rfl)) (fun _ _ _ h => h) (Or.inr ⟨by rfl, rfl⟩) ?_ ?_
           rotate_left
           ·simp only [Act.put, sq1, sq2, sq3, i64_w, i32_w]
            rfl
           refine pure_ (i := 32) (N := some 69) (v := undef) (a' := ?_) bq106 rfl rfl (qr HT_.out (by kernel_rfl)) (fun _ _ _ h => h) (Or.inr ⟨by rfl, rfl⟩) ?_ ?_
           rotate_left
           ·simp only [Act.put, sq1, sq2, sq3, i64_w, i32_w]
            rfl
           refine pure_ (i := 33) (N := some 70) (v := undef) (a' := ?_) bq107 rfl rfl (qr HT_.out (by kernel_rfl)) (fun _ _ _ h => h) (Or.inr ⟨by rfl, rfl⟩) ?_ ?_
           rotate_left
           ·simp only [Act.put, sq1, sq2, sq3, i64_w, i32_w]
            rfl
           refine pure_ (i := 34) (N := some 71) (v := undef) (a' := ?_) bq108 rfl rfl (qr HT_.out (by kernel_rfl)) (fun _ _ _ h => h) (Or.inr ⟨by rfl, rfl⟩) ?_ ?_
           rotate_left
           ·simp only [Act.put, sq1, sq2, sq3, i64_w, i32_w]
            rfl
           refine pure_ (i := 35) (N := some 72) (v := undef) (a' := ?_) bq109 rfl rfl (qr HT_.out (by kernel_rfl)) (fun _ _ _ h => h) (Or.inr ⟨by rfl, rfl⟩) ?_ ?_
           rotate_left
           ·simp only [Act.put, sq1, sq2, sq3, i64_w, i32_w]
            rfl
           refine pure_ (i := 36) (N := some 73) (v := ?_) (a' := ?_) bq110 rfl rfl (qr HT_.out (by kernel_rfl)) (fun _ _ _ h => h) (Or.inl ⟨by rfl, ?_⟩) ?_ ?_
           rotate_left
           ·intro w'
            go_simp
            with_reducible rfl
           rotate_left
           ·simp only [Act.put, sq1, sq2, sq3, i64_w, i32_w]
            rfl
           refine done_ (done_of HT_.out (by kernel_rfl)) ?_
           try go_wp2
           go_meet
           case rel => exact ⟨_, (true), yq21, H', ⟨by have := HJ1.out; have := HK2.out; first | omega | exact Nat.le_refl _⟩, ⟨by (with_reducible repeat (first | refine qc ?_ _ | refine qf ?_ | refine qa ?_ _)); exact BK101.out⟩, ⟨by repeat (first | (with_reducible first | exact HB.out | apply qi | apply qd | apply qh | refine qg ?_ GE101.out) | exact HB.out)⟩⟩
          ·rw [if_neg c21] at H
           have c21b0 : decide (a0_1 ≤ ((qk l0_0 x3_2).f0)) = false := decide_eq_false c21
           clear c21
           by_cases c24 : x3_2 > 0
           ·rw [if_pos c24] at H
            have c24b0 : decide (0 < x3_2) = true := decide_eq_true c24
            clear c24
            obtain ⟨ji25, hji25⟩ : ∃ j_ : Int, (wrap64 (x3_2 - 1)) = j_ := ⟨_, rfl⟩
            replace H : (if 0 ≤ (ji25) then (if (ji25) < (l0_0.length : Int) then ((spec_l12Ahead.f ((qk l0_0 (ji25)).f0) ((qk l0_0 (ji25)).f1) ((qk l0_0 (ji25)).f2) ((qk l0_0 (ji25)).f3) ((qk l0_0 (ji25)).f4) ((qk l0_0 x3_2).f0) ((qk l0_0 x3_2).f1) ((qk l0_0 x3_2).f2) ((qk l0_0 x3_2).f3) ((qk l0_0 x3_2).f4)).bind fun t110 => (spec_VersionOk.j2 k2 x3_2 (!t110) l0_0 a0_1 a0_2 a0_3)) else (none)) else (none)) = some r := by first | (rw [hji25] at H; exact H) | (simp only [hji25] at H ⊢; exact H)
            (try rw [hji25] at A19)
            have hji25w : (IntKind.i64.wrap (x3_2 - 1)) = ji25 := (i64_w _).trans hji25
            by_cases c26 : 0 ≤ (ji25)
            ·rw [if_pos c26] at H
             have c26b0 : decide (0 ≤ (ji25)) = true := decide_eq_true c26
             clear c26
             by_cases c27 : (ji25) < (l0_0.length : Int)
             ·rw [if_pos c27] at H
              have c27b0 : decide ((ji25) < (l0_0.length : Int)) = true := decide_eq_true c27
              clear c27
              replace H := Option.bind_eq_some_iff.mp H
              obtain ⟨t110, A280, H⟩ := H
              replace H : (spec_VersionOk.j2 k2 x3_2 (!t110) l0_0 a0_1 a0_2 a0_3) = some r := H
              have A28 := Qz.mk A280
              clear A280
              have H' := Qz.mk H
              clear H
              try go_wp2
              replace BK101 := Qz.mk (qf BK101.out)
              replace HB := Qz.mk (qh HB.out)
              have p105 : 0 ≤ (x3_2 : Int) := of_decide_eq_true yq19
              have q105 : x3_2 < (l0_0.length : Int) := of_decide_eq_true yq19
              obtain ⟨ad105, e105, hx105_0, hx105_1, hx105_2, hx105_3, hx105_4⟩ := at_T66 HR0_0.out x3_2 p105 q105
              have hw105_4 := hx105_4
              have hw105_3 := hx105_3
              have hw105_2 := hx105_2
              have hw105_1 := hx105_1
              have hw105_0 := hx105_0
              cases e105
              replace hx105_0 := (HB.out.cell (World.block_lt_of_cell? w _ hx105_0)).trans hx105_0
              replace hx105_1 := (HB.out.cell (World.block_lt_of_cell? w _ hx105_1)).trans hx105_1
              replace hx105_2 := (HB.out.cell (World.block_lt_of_cell? w _ hx105_2)).trans hx105_2
              replace hx105_3 := (HB.out.cell (World.block_lt_of_cell? w _ hx105_3)).trans hx105_3
              replace hx105_4 := (HB.out.cell (World.block_lt_of_cell? w _ hx105_4)).trans hx105_4
              replace p105 := eq_true p105
              replace q105 := eq_true q105
              have p107 : 0 ≤ (x3_2 : Int) := of_decide_eq_true yq19
              have q107 : x3_2 < (l0_0.length : Int) := of_decide_eq_true yq19
              obtain ⟨ad107, e107, hx107_0, hx107_1, hx107_2, hx107_3, hx107_4⟩ := at_T66 HR0_0.out x3_2 p107 q107
              have hw107_4 := hx107_4
              have hw107_3 := hx107_3
              have hw107_2 := hx107_2
              have hw107_1 := hx107_1
              have hw107_0 := hx107_0
              obtain rfl : ad105 = ad107 := (by injection e107)
              replace hx107_0 := (HB.out.cell (World.block_lt_of_cell? w _ hx107_0)).trans hx107_0
              replace hx107_1 := (HB.out.cell (World.block_lt_of_cell? w _ hx107_1)).trans hx107_1
              replace hx107_2 := (HB.out.cell (World.block_lt_of_cell? w _ hx107_2)).trans hx107_2
              replace hx107_3 := (HB.out.cell (World.block_lt_of_cell? w _ hx107_3)).trans hx107_3
              replace hx107_4 := (HB.out.cell (World.block_lt_of_cell? w _ hx107_4)).trans hx107_4
              replace p107 := eq_true p107
              replace q107 := eq_true q107
              have p108 : 0 ≤ ((ji25) : Int) := of_decide_eq_true yq19
              have q108 : (ji25) < (l0_0.length : Int) := of_decide_eq_true yq19
              obtain ⟨ad108, e108, hx108_0, hx108_1, hx108_2, hx108_3, hx108_4⟩ := at_T66 HR0_0.out (ji25) p108 q108
              have hw108_4 := hx108_4
              have hw108_3 := hx108_3
              have hw108_2 := hx108_2
              have hw108_1 := hx108_1
              have hw108_0 := hx108_0
              obtain rfl : ad105 = ad108 := (by injection e108)
              replace hx108_0 := (HB.out.cell (World.block_lt_of_cell? w _ hx108_0)).trans hx108_0
              replace hx108_1 := (HB.out.cell (World.block_lt_of_cell? w _ hx108_1)).trans hx108_1
              replace hx108_2 := (HB.out.cell (World.block_lt_of_cell? w _ hx108_2)).trans hx108_2
              replace hx108_3 := (HB.out.cell (World.block_lt_of_cell? w _ hx108_3)).trans hx108_3
              replace hx108_4 := (HB.out.cell (World.block_lt_of_cell? w _ hx108_4)).trans hx108_4
              replace p108 := eq_true p108
              replace q108 := eq_true q108
              have p109 : 0 ≤ (x3_2 : Int) := of_decide_eq_true yq19
              have q109 : x3_2 < (l0_0.length : Int) := of_decide_eq_true yq19
              obtain ⟨ad109, e109, hx109_0, hx109_1, hx109_2, hx109_3, hx109_4⟩ := at_T66 HR0_0.out x3_2 p109 q109
              have hw109_4 := hx109_4
              have hw109_3 := hx109_3
              have hw109_2 := hx109_2
              have hw109_1 := hx109_1
              have hw109_0 := hx109_0
              obtain rfl : ad105 = ad109 := (by injection e109)
              replace hx109_0 := (HB.out.cell (World.block_lt_of_cell? w _ hx109_0)).trans hx109_0
              replace hx109_1 := (HB.out.cell (World.block_lt_of_cell? w _ hx109_1)).trans hx109_1
              replace hx109_2 := (HB.out.cell (World.block_lt_of_cell? w _ hx109_2)).trans hx109_2
              replace hx109_3 := (HB.out.cell (World.block_lt_of_cell? w _ hx109_3)).trans hx109_3
              replace hx109_4 := (HB.out.cell (World.block_lt_of_cell? w _ hx109_4)).trans hx109_4
              replace p109 := eq_true p109
              replace q109 := eq_true q109
              refine start_ (n := 37) (S := fun w' => w'.cell? ⟨gb101, 0, none⟩ = some (.slice (some ad105) l0_0.length c0_0) ∧ w'.cell? ⟨gb101, 1, none⟩ = some (.int .i64 a0_1) ∧ w'.cell? ⟨gb101, 2, none⟩ = some (.int .i64 a0_2) ∧ w'.cell? ⟨gb101, 3, none⟩ = some (.int .i64 a0_3) ∧ w'.cell? (ad105.add ((x3_2).toNat * 5)) = some (.int .i64 ((qk l0_0 x3_2).f0)) ∧ w'.cell? ⟨(ad105.add ((x3_2).toNat * 5)).block, (ad105.add ((x3_2).toNat * 5)).off + 1, none⟩ = some (.int .i64 ((qk l0_0 x3_2).f1)) ∧ w'.cell? ⟨(ad105.add ((x3_2).toNat * 5)).block, (ad105.add ((x3_2).toNat * 5)).off + 2, none⟩ = some (.string ((qk l0_0 x3_2).f2)) ∧ w'.cell? ⟨(ad105.add ((x3_2).toNat * 5)).block, (ad105.add ((x3_2).toNat * 5)).off + 3, none⟩ = some (.string ((qk l0_0 x3_2).f3)) ∧ w'.cell? ⟨(ad105.add ((x3_2).toNat * 5)).block, (ad105.add ((x3_2).toNat * 5)).off + 4, none⟩ = some (.int .i64 ((qk l0_0 x3_2).f4)) ∧ w'.cell? (ad105.add ((x3_2).toNat * 5)) = some (.int .i64 ((qk l0_0 x3_2).f0)) ∧ w'.cell? ⟨(ad105.add ((x3_2).toNat * 5)).block, (ad105.add ((x3_2).toNat * 5)).off + 1, none⟩ = some (.int .i64 ((qk l0_0 x3_2).f1)) ∧ w'.cell? ⟨(ad105.add ((x3_2).toNat * 5)).block, (ad105.add ((x3_2).toNat * 5)).off + 2, none⟩ = some (.string ((qk l0_0 x3_2).f2)) ∧ w'.cell? ⟨(ad105.add ((x3_2).toNat * 5)).block, (ad105.add ((x3_2).toNat * 5)).off + 3, none⟩ = some (.string ((qk l0_0 x3_2).f3)) ∧ w'.cell? ⟨(ad105.add ((x3_2).toNat * 5)).block, (ad105.add ((x3_2).toNat * 5)).off + 4, none⟩ = some (.int .i64 ((qk l0_0 x3_2).f4)) ∧ w'.cell? (ad105.add (((ji25)).toNat * 5)) = some (.int .i64 ((qk l0_0 (ji25)).f0)) ∧ w'.cell? ⟨(ad105.add (((ji25)).toNat * 5)).block, (ad105.add (((ji25)).toNat * 5)).off + 1, none⟩ = some (.int .i64 ((qk l0_0 (ji25)).f1)) ∧ w'.cell? ⟨(ad105.add (((ji25)).toNat * 5)).block, (ad105.add (((ji25)).toNat * 5)).off + 2, none⟩ = some (.string ((qk l0_0 (ji25)).f2)) ∧ w'.cell? ⟨(ad105.add (((ji25)).toNat * 5)).block, (ad105.add (((ji25)).toNat * 5)).off + 3, none⟩ = some (.string ((qk l0_0 (ji25)).f3)) ∧ w'.cell? ⟨(ad105.add (((ji25)).toNat * 5)).block, (ad105.add (((ji25)).toNat * 5)).off + 4, none⟩ = some (.int .i64 ((qk l0_0 (ji25)).f4)) ∧ w'.cell? (ad105.add ((x3_2).toNat * 5)) = some (.int .i64 ((qk l0_0 x3_2).f0)) ∧ w'.cell? ⟨(ad105.add ((x3_2).toNat * 5)).block, (ad105.add ((x3_2).toNat * 5)).off + 1, none⟩ = some (.int .i64 ((qk l0_0 x3_2).f1)) ∧ w'.cell? ⟨(ad105.add ((x3_2).toNat * 5)).block, (ad105.add ((x3_2).toNat * 5)).off + 2, none⟩ = some (.string ((qk l0_0 x3_2).f2)) ∧ w'.cell? ⟨(ad105.add ((x3_2).toNat * 5)).block, (ad105.add ((x3_2).toNat * 5)).off + 3, none⟩ = some (.string ((qk l0_0 x3_2).f3)) ∧ w'.cell? ⟨(ad105.add ((x3_2).toNat * 5)).block, (ad105.add ((x3_2).toNat * 5)).off + 4, none⟩ = some (.int .i64 ((qk l0_0 x3_2).f4))) (ds := []) bq0 (by kernel_rfl) rfl rfl ⟨(qb BK101.out 0).trans rfl, (qb BK101.out 1).trans rfl, (qb BK101.out 2).trans rfl, (qb BK101.out 3).trans rfl, ((HB.out.cell (World.block_lt_of_cell? w _ hw105_0)).trans hw105_0), ((HB.out.cell (World.block_lt_of_cell? w _ hw105_1)).trans hw105_1), ((HB.out.cell (World.block_lt_of_cell? w _ hw105_2)).trans hw105_2), ((HB.out.cell (World.block_lt_of_cell? w _ hw105_3)).trans hw105_3), ((HB.out.cell (World.block_lt_of_cell? w _ hw105_4)).trans hw105_4), ((HB.out.cell (World.block_lt_of_cell? w _ hw107_0)).trans hw107_0), ((HB.out.cell (World.block_lt_of_cell? w _ hw107_1)).trans hw107_1), ((HB.out.cell (World.block_lt_of_cell? w _ hw107_2)).trans hw107_2), ((HB.out.cell (World.block_lt_of_cell? w _ hw107_3)).trans hw107_3), ((HB.out.cell (World.block_lt_of_cell? w _ hw107_4)).trans hw107_4), ((HB.out.cell (World.block_lt_of_cell? w _ hw108_0)).trans hw108_0), ((HB.out.cell (World.block_lt_of_cell? w _ hw108_1)).trans hw108_1), ((HB.out.cell (World.block_lt_of_cell? w _ hw108_2)).trans hw108_2), ((HB.out.cell (World.block_lt_of_cell? w _ hw108_3)).trans hw108_3), ((HB.out.cell (World.block_lt_of_cell? w _ hw108_4)).trans hw108_4), ((HB.out.cell (World.block_lt_of_cell? w _ hw109_0)).trans hw109_0), ((HB.out.cell (World.block_lt_of_cell? w _ hw109_1)).trans hw109_1), ((HB.out.cell (World.block_lt_of_cell? w _ hw109_2)).trans hw109_2), ((HB.out.cell (World.block_lt_of_cell? w _ hw109_3)).trans hw109_3), ((HB.out.cell (World.block_lt_of_cell? w _ hw109_4)).trans hw109_4)⟩ (fun hHeld => ?_); refine with_tabW spec_VersionOk.tab6 spec_VersionOk.bits6 (fun HT_ HW_ => ?_)
              generalize wr.drew = w29 at BK101 HB hx105_0 hx105_1 hx105_2 hx105_3 hx105_4 hx107_0 hx107_1 hx107_2 hx107_3 hx107_4 hx108_0 hx108_1 hx108_2 hx108_3 hx108_4 hx109_0 hx109_1 hx109_2 hx109_3 hx109_4 hHeld ⊢
              refine pure_ (i := 0) (N := some 37) (v := ?_) (a' := ?_) bq7 rfl rfl (qr HT_.out (by kernel_rfl)) (fun _ _ _ h => h) (Or.inl ⟨by rfl, ?_⟩) ?_ ?_
              rotate_left
              ·intro w'
               go_simp
               with_reducible rfl
              rotate_left
              ·simp only [Act.put, sq1, sq2, sq3, i64_w, i32_w]
               rfl
              refine pure_ (i := 2) (N := some 39) (v := ?_) (a' := ?_) bq12 rfl rfl (qr HT_.out (by kernel_rfl)) (fun _ _ _ h => h) (Or.inl ⟨by rfl, ?_⟩) ?_ ?_
              rotate_left
              ·intro w'
               go_simp
               with_reducible rfl
              rotate_left
              ·simp only [Act.put, sq1, sq2, sq3, i64_w, i32_w]
               rfl
              refine take_ (i := 1) (N := some 38) (v := ?_) (a' := ?_) bq20 rfl rfl (qb1 HT_.out HW_.out (by kernel_rfl)) (fun _ _ _ h => h) (Or.inl ⟨by rfl, ?_⟩) hHeld ?_ ?_
              rotate_left
              ·rintro w' ⟨s0, s1, s2, s3, s4, s5, s6, s7, s8, s9, s10, s11, s12, s13, s14, s15, s16, s17, s18, s19, s20, s21, s22, s23⟩
               go_simp
               with_reducible rfl
              rotate_left
              ·simp only [Act.put, sq1, sq2, sq3, i64_w, i32_w]
               rfl
              refine pure_ (i := 3) (N := some 40) (v := ?_) (a' := ?_) bq27 rfl rfl (qr HT_.out (by kernel_rfl)) (fun _ _ _ h => h) (Or.inl ⟨by rfl, ?_⟩) ?_ ?_
              rotate_left
              ·intro w'
               go_simp
               with_reducible rfl
              rotate_left
              ·simp only [Act.put, sq1, sq2, sq3, i64_w, i32_w]
               rfl
              refine take_ (i := 4) (N := some 41) (v := ?_) (a' := ?_) bq33 rfl rfl (qb1 HT_.out HW_.out (by kernel_rfl)) (fun _ _ _ h => h) (Or.inl ⟨by rfl, ?_⟩) hHeld ?_ ?_
              rotate_left
              ·rintro w' ⟨s0, s1, s2, s3, s4, s5, s6, s7, s8, s9, s10, s11, s12, s13, s14, s15, s16, s17, s18, s19, s20, s21, s22, s23⟩
               go_simp
               with_reducible rfl
              rotate_left
              ·simp only [Act.put, sq1, sq2, sq3, i64_w, i32_w]
               rfl
              refine one_ (i := 5) (N := some 42) bq39 rfl rfl (one_of HT_.out (by kernel_rfl)) (by decide) (fun K hK => ?_)
              refine goes_ Try.func64 (by kernel_rfl) rfl #[.agg #[.int .i64 ((qk l0_0 x3_2).f0), .int .i64 ((qk l0_0 x3_2).f1), .string ((qk l0_0 x3_2).f2), .string ((qk l0_0 x3_2).f3), .int .i64 ((qk l0_0 x3_2).f4)]] (by rfl) rfl rfl yq23 ?_
              with_reducible refine (spec_l12Meta.calls ((qk l0_0 x3_2).f0) ((qk l0_0 x3_2).f1) ((qk l0_0 x3_2).f2) ((qk l0_0 x3_2).f3) ((qk l0_0 x3_2).f4) true _ A19.out).mono ?_
              rintro e w30 ⟨rfl, hb⟩
              refine ⟨_, rfl, ?_⟩
              replace BK101 := Qz.mk (qq (g := gb101) (o := .cells #[.slice (some ad105) l0_0.length c0_0, .int .i64 a0_1, .int .i64 a0_2, .int .i64 a0_3] 32 (0, 0)) yq22 hb)
              replace HB := Qz.mk (qn yq20 hb)
              (try clear hb)
              refine hK.out _ _ ⟨(qb BK101.out 0).trans rfl, (qb BK101.out 1).trans rfl, (qb BK101.out 2).trans rfl, (qb BK101.out 3).trans rfl, ((HB.out.cell (World.block_lt_of_cell? w _ hw105_0)).trans hw105_0), ((HB.out.cell (World.block_lt_of_cell? w _ hw105_1)).trans hw105_1), ((HB.out.cell (World.block_lt_of_cell? w _ hw105_2)).trans hw105_2), ((HB.out.cell (World.block_lt_of_cell? w _ hw105_3)).trans hw105_3), ((HB.out.cell (World.block_lt_of_cell? w _ hw105_4)).trans hw105_4), ((HB.out.cell (World.block_lt_of_cell? w _ hw107_0)).trans hw107_0), ((HB.out.cell (World.block_lt_of_cell? w _ hw107_1)).trans hw107_1), ((HB.out.cell (World.block_lt_of_cell? w _ hw107_2)).trans hw107_2), ((HB.out.cell (World.block_lt_of_cell? w _ hw107_3)).trans hw107_3), ((HB.out.cell (World.block_lt_of_cell? w _ hw107_4)).trans hw107_4), ((HB.out.cell (World.block_lt_of_cell? w _ hw108_0)).trans hw108_0), ((HB.out.cell (World.block_lt_of_cell? w _ hw108_1)).trans hw108_1), ((HB.out.cell (World.block_lt_of_cell? w _ hw108_2)).trans hw108_2), ((HB.out.cell (World.block_lt_of_cell? w _ hw108_3)).trans hw108_3), ((HB.out.cell (World.block_lt_of_cell? w _ hw108_4)).trans hw108_4), ((HB.out.cell (World.block_lt_of_cell? w _ hw109_0)).trans hw109_0), ((HB.out.cell (World.block_lt_of_cell? w _ hw109_1)).trans hw109_1), ((HB.out.cell (World.block_lt_of_cell? w _ hw109_2)).trans hw109_2), ((HB.out.cell (World.block_lt_of_cell? w _ hw109_3)).trans hw109_3), ((HB.out.cell (World.block_lt_of_cell? w _ hw109_4)).trans hw109_4)⟩ (fun hHeld => ?_)
              clear hK K
              refine norm_ (a' := ?_) ?_ ?_
              rotate_left
              ·show Act.put _ (some 42) _ = _
               simp only [Act.put, sq1, sq2, sq3, i64_w, i32_w]
               rfl
              refine pure_ (i := 6) (N := some 43) (v := ?_) (a' := ?_) bq45 rfl rfl (qr HT_.out (by kernel_rfl)) (fun _ _ _ h => h) (Or.inl ⟨by rfl, ?_⟩) ?_ ?_
              rotate_left
              ·intro w'
               go_simp
               with_reducible rfl
              rotate_left
              ·simp only [Act.put, sq1, sq2, sq3, i64_w, i32_w]
               rfl
              refine pure_ (i := 7) (N := some 44) (v := ?_) (a' := ?_) bq55 rfl rfl (qr HT_.out (by kernel_rfl)) (fun _ _ _ h => h) (Or.inl ⟨by rfl, ?_⟩) ?_ ?_
              rotate_left
              ·intro w'
               go_simp
               with_reducible rfl
              rotate_left
              ·simp only [Act.put, sq1, sq2, sq3, i64_w, i32_w]
               rfl
              refine pure_ (i := 8) (N := some 45) (v := ?_) (a' := ?_) bq59 rfl rfl (qr HT_.out (by kernel_rfl)) (fun _ _ _ h => h) (Or.inl ⟨by rfl, ?_⟩) ?_ ?_
              rotate_left
              ·intro w'
               go_simp
               with_reducible rfl
              rotate_left
              ·simp only [Act.put, sq1, sq2, sq3, i64_w, i32_w]
               rfl
              refine pure_ (i := 10) (N := some 47) (v := ?_) (a' := ?_) bq64 rfl rfl (qr HT_.out (by kernel_rfl)) (fun _ _ _ h => h) (Or.inl ⟨by rfl, ?_⟩) ?_ ?_
              rotate_left
              ·intro w'
               go_simp
               with_reducible rfl
              rotate_left
              ·simp only [Act.put, sq1, sq2, sq3, i64_w, i32_w]
               rfl
              refine pure_ (i := 14) (N := some 51) (v := ?_) (a' := ?_) bq65 rfl rfl (qr HT_.out (by kernel_rfl)) (fun _ _ _ h => h) (Or.inl ⟨by rfl, ?_⟩) ?_ ?_
              rotate_left
              ·intro w'
               go_simp
               with_reducible rfl
              rotate_left
              ·simp only [Act.put, sq1, sq2, sq3, i64_w, i32_w]
               rfl
              refine take_ (i := 9) (N := some 46) (v := ?_) (a' := ?_) bq72 rfl rfl (qb1 HT_.out HW_.out (by kernel_rfl)) (fun _ _ _ h => h) (Or.inl ⟨by rfl, ?_⟩) hHeld ?_ ?_
              rotate_left
              ·rintro w' ⟨s0, s1, s2, s3, s4, s5, s6, s7, s8, s9, s10, s11, s12, s13, s14, s15, s16, s17, s18, s19, s20, s21, s22, s23⟩
               go_simp
               with_reducible rfl
              rotate_left
              ·simp only [Act.put, sq1, sq2, sq3, i64_w, i32_w]
               rfl
              refine pure_ (i := 11) (N := some 48) (v := ?_) (a' := ?_) bq75 rfl rfl (qr HT_.out (by kernel_rfl)) (fun _ _ _ h => h) (Or.inl ⟨by rfl, ?_⟩) ?_ ?_
              rotate_left
              ·intro w'
               go_simp
               with_reducible rfl
              rotate_left
              ·simp only [Act.put, sq1, sq2, sq3, i64_w, i32_w]
               rfl
              refine pure_ (i := 12) (N := some 49) (v := ?_) (a' := ?_) bq80 rfl rfl (qr HT_.out (by kernel_rfl)) (fun _ _ _ h => h) (Or.inl ⟨by rfl, ?_⟩) ?_ ?_
              rotate_left
              ·intro w'
               go_simp
               with_reducible rfl
              rotate_left
              ·simp only [Act.put, sq1, sq2, sq3, i64_w, i32_w]
               rfl
              refine take_ (i := 13) (N := some 50) (v := ?_) (a' := ?_) bq84 rfl rfl (qb1 HT_.out HW_.out (by kernel_rfl)) (fun _ _ _ h => h) (Or.inl ⟨by rfl, ?_⟩) hHeld ?_ ?_
              rotate_left
              ·rintro w' ⟨s0, s1, s2, s3, s4, s5, s6, s7, s8, s9, s10, s11, s12, s13, s14, s15, s16, s17, s18, s19, s20, s21, s22, s23⟩
               go_simp
               with_reducible rfl
              rotate_left
              ·simp only [Act.put, sq1, sq2, sq3, i64_w, i32_w]
               rfl
              refine take_ (i := 15) (N := some 52) (v := ?_) (a' := ?_) bq87 rfl rfl (qb1 HT_.out HW_.out (by kernel_rfl)) (fun _ _ _ h => h) (Or.inl ⟨by rfl, ?_⟩) hHeld ?_ ?_
              rotate_left
              ·rintro w' ⟨s0, s1, s2, s3, s4, s5, s6, s7, s8, s9, s10, s11, s12, s13, s14, s15, s16, s17, s18, s19, s20, s21, s22, s23⟩
               go_simp
               with_reducible rfl
              rotate_left
              ·simp only [Act.put, sq1, sq2, sq3, i64_w, i32_w]
               rfl
              refine pure_ (i := 16) (N := some 53) (v := ?_) (a' := ?_) bq89 rfl rfl (qr HT_.out (by kernel_rfl)) (fun _ _ _ h => h) (Or.inl ⟨by rfl, ?_⟩) ?_ ?_
              rotate_left
              ·intro w'
               go_simp
               with_reducible rfl
              rotate_left
              ·simp only [Act.put, sq1, sq2, sq3, i64_w, i32_w]
               rfl
              refine pure_ (i := 17) (N := some 54) (v := ?_) (a' := ?_) bq91 rfl rfl (qr HT_.out (by kernel_rfl)) (fun _ _ _ h => h) (Or.inl ⟨by rfl, ?_⟩) ?_ ?_
              rotate_left
              ·intro w'
               go_simp
               with_reducible rfl
              rotate_left
              ·simp only [Act.put, sq1, sq2, sq3, i64_w, i32_w]
               rfl
              refine pure_ (i := 18) (N := some 55) (v := ?_) (a' := ?_) bq92 rfl rfl (qr HT_.out (by kernel_rfl)) (fun _ _ _ h => h) (Or.inl ⟨by rfl, ?_⟩) ?_ ?_
              rotate_left
              ·intro w'
               go_simp
               with_reducible rfl
              rotate_left
              ·simp only [Act.put, sq1, sq2, sq3, i64_w, i32_w]
               rfl
              refine pure_ (i := 19) (N := some 56) (v := ?_) (a' := ?_) bq93 rfl rfl (qr HT_.out (by kernel_rfl)) (fun _ _ _ h => h) (Or.inl ⟨by rfl, ?_⟩) ?_ ?_
              rotate_left
              ·intro w'
               go_simp
               with_reducible rfl
              rotate_left
              ·simp only [Act.put, sq1, sq2, sq3, i64_w, i32_w]
               rfl
              refine pure_ (i := 20) (N := some 57) (v := ?_) (a' := ?_) bq94 rfl rfl (qr HT_.out (by kernel_rfl)) (fun _ _ _ h => h) (Or.inl ⟨by rfl, ?_⟩) ?_ ?_
              rotate_left
              ·intro w'
               go_simp
               with_reducible rfl
              rotate_left
              ·simp only [Act.put, sq1, sq2, sq3, i64_w, i32_w]
               rfl
              refine pure_ (i := 21) (N := some 58) (v := ?_) (a' := ?_) bq95 rfl rfl (qr HT_.out (by kernel_rfl)) (fun _ _ _ h => h) (Or.inl ⟨by rfl, ?_⟩) ?_ ?_
              rotate_left
              ·intro w'
               go_simp
               with_reducible rfl
              rotate_left
              ·simp only [Act.put, sq1, sq2, sq3, i64_w, i32_w]
               rfl
              refine pure_ (i := 22) (N := some 59) (v := ?_) (a' := ?_) bq96 rfl rfl (qr HT_.out (by kernel_rfl)) (fun _ _ _ h => h) (Or.inl ⟨by rfl, ?_⟩) ?_ ?_
              rotate_left
              ·intro w'
               go_simp
               with_reducible rfl
              rotate_left
              ·simp only [Act.put, sq1, sq2, sq3, i64_w, i32_w]
               rfl
              refine pure_ (i := 24) (N := some 61) (v := ?_) (a' := ?_) #[true, true, true, true, true, true, true, true, true, true, true, true, true, true, true, true, true, true, true, true, true, true, true, false, true, false, false, false, false, false, false, false, false, false, false, false, false] rfl rfl (qr HT_.out (by kernel_rfl)) (fun _ _ _ h => h) (Or.inl ⟨by rfl, ?_⟩) ?_ ?_
              rotate_left
              ·intro w'
               go_simp
               with_reducible rfl
              rotate_left
              ·simp only [Act.put, sq1, sq2, sq3, i64_w, i32_w]
               rfl
              refine pure_ (i := 25) (N := some 62) (v := ?_) (a' := ?_) #[true, true, true, true, true, true, true, true, true, true, true, true, true, true, true, true, true, true, true, true, true, true, true, false, true, true, false, false, false, false, false, false, false, false, false, false, false] rfl rfl (qr HT_.out (by kernel_rfl)) (fun _ _ _ h => h) (Or.inl ⟨by rfl, ?_⟩) ?_ ?_
              rotate_left
              ·intro w'
               go_simp
               with_reducible rfl
              rotate_left
              ·simp only [Act.put, sq1, sq2, sq3, i64_w, i32_w]
               rfl
              refine pure_ (i := 28) (N := some 65) (v := ?_) (a' := ?_) #[true, true, true, true, true, true, true, true, true, true, true, true, true, true, true, true, true, true, true, true, true, true, true, false, true, true, false, false, true, false, false, false, false, false, false, false, false] rfl rfl (qr HT_.out (by kernel_rfl)) (fun _ _ _ h => h) (Or.inl ⟨by rfl, ?_⟩) ?_ ?_
              rotate_left
              ·intro w'
               go_simp
               with_reducible rfl
              rotate_left
              ·simp only [Act.put, sq1, sq2, sq3, i64_w, i32_w]
               rfl
              refine pure_ (i := 30) (N := some 67) (v := ?_) (a' := ?_) #[true, true, true, true, true, true, true, true, true, true, true, true, true, true, true, true, true, true, true, true, true, true, true, false, true, true, false, false, true, false, true, false, false, false, false, false, false] rfl rfl (qr HT_.out (by kernel_rfl)) (fun _ _ _ h => h) (Or.inl ⟨by rfl, ?_⟩) ?_ ?_
              rotate_left
              ·intro w'
               go_simp
               with_reducible rfl
              rotate_left
              ·simp only [Act.put, sq1, sq2, sq3, i64_w, i32_w]
               rfl
              refine take_ (i := 23) (N := some 60) (v := ?_) (a' := ?_) #[true, true, true, true, true, true, true, true, true, true, true, true, true, true, true, true, true, true, true, true, true, true, true, true, true, true, false, false, true, false, true, false, false, false, false, false, false] rfl rfl (qb1 HT_.out HW_.out (by kernel_rfl)) (fun _ _ _ h => h) (Or.inl ⟨by rfl, ?_⟩) hHeld ?_ ?_
              rotate_left
              ·rintro w' ⟨s0, s1, s2, s3, s4, s5, s6, s7, s8, s9, s10, s11, s12, s13, s14, s15, s16, s17, s18, s19, s20, s21, s22, s23⟩
               go_simp
               with_reducible rfl
              rotate_left
              ·simp only [Act.put, sq1, sq2, sq3, i64_w, i32_w]
               rfl
              refine pure_ (i := 26) (N := some 63) (v := ?_) (a' := ?_) #[true, true, true, true, true, true, true, true, true, true, true, true, true, true, true, true, true, true, true, true, true, true, true, true, true, true, true, false, true, false, true, false, false, false, false, false, false] rfl rfl (qr HT_.out (by kernel_rfl)) (fun _ _ _ h => h) (Or.inl ⟨by rfl, ?_⟩) ?_ ?_
              rotate_left
              ·intro w'
               go_simp
               with_reducible rfl
              rotate_left
              ·simp only [Act.put, sq1, sq2, sq3, i64_w, i32_w]
               rfl
              refine take_ (i := 27) (N := some 64) (v := ?_) (a' := ?_) #[true, true, true, true, true, true, true, true, true, true, true, true, true, true, true, true, true, true, true, true, true, true, true, true, true, true, true, true, true, false, true, false, false, false, false, false, false] rfl rfl (qb1 HT_.out HW_.out (by kernel_rfl)) (fun _ _ _ h => h) (Or.inl ⟨by rfl, ?_⟩) hHeld ?_ ?_
              rotate_left
              ·rintro w' ⟨s0, s1, s2, s3, s4, s5, s6, s7, s8, s9, s10, s11, s12, s13, s14, s15, s16, s17, s18, s19, s20, s21, s22, s23⟩
               go_simp
               with_reducible rfl
              rotate_left
              ·simp only [Act.put, sq1, sq2, sq3, i64_w, i32_w]
               rfl
              refine take_ (i := 29) (N := some 66) (v := ?_) (a' := ?_) bq104 rfl rfl (qb1 HT_.out HW_.out (by kernel_rfl)) (fun _ _ _ h => h) (Or.inl ⟨by rfl, ?_⟩) hHeld ?_ ?_
              rotate_left
              ·rintro w' ⟨s0, s1, s2, s3, s4, s5, s6, s7, s8, s9, s10, s11, s12, s13, s14, s15, s16, s17, s18, s19, s20, s21, s22, s23⟩
               go_simp
               with_reducible rfl
              rotate_left
              ·simp only [Act.put, sq1, sq2, sq3, i64_w, i32_w]
               rfl
              refine pure_ (i := 31) (N := some 68) (v := ?_) (a' := ?_) bq105 rfl rfl (qr HT_.out (by kernel_rfl)) (fun _ _ _ h => h) (Or.inl ⟨by rfl, ?_⟩) ?_ ?_
              rotate_left
              ·intro w'
               go_simp
               with_reducible rfl
              rotate_left
              ·simp only [Act.put, sq1, sq2, sq3, i64_w, i32_w]
               rfl
              refine take_ (i := 32) (N := some 69) (v := ?_) (a' := ?_) bq106 rfl rfl (qb1 HT_.out HW_.out (by kernel_rfl)) (fun _ _ _ h => h) (Or.inl ⟨by rfl, ?_⟩) hHeld ?_ ?_
              rotate_left
              ·rintro w' ⟨s0, s1, s2, s3, s4, s5, s6, s7, s8, s9, s10, s11, s12, s13, s14, s15, s16, s17, s18, s19, s20, s21, s22, s23⟩
               go_simp
               with_reducible rfl
              rotate_left
              ·simp only [Act.put, sq1, sq2, sq3, i64_w, i32_w]
               rfl
              refine one_ (i := 33) (N := some 70) bq107 rfl rfl (one_of HT_.out (by kernel_rfl)) (by decide) (fun K hK => ?_)
              refine goes_ Try.func56 (by kernel_rfl) rfl #[.agg #[.int .i64 ((qk l0_0 (ji25)).f0), .int .i64 ((qk l0_0 (ji25)).f1), .string ((qk l0_0 (ji25)).f2), .string ((qk l0_0 (ji25)).f3), .int .i64 ((qk l0_0 (ji25)).f4)], .agg #[.int .i64 ((qk l0_0 x3_2).f0), .int .i64 ((qk l0_0 x3_2).f1), .string ((qk l0_0 x3_2).f2), .string ((qk l0_0 x3_2).f3), .int .i64 ((qk l0_0 x3_2).f4)]] (by rfl) rfl rfl (by (try simp only [List.map_toArray, List.map_cons, List.map_nil]); first | done | (simp only [hji25]; rfl) | rfl | (simp only [List.length_drop, List.length_take]; rfl) | (rw [IntWalk.u64_in _ (by omega)] <;> rfl)) ?_
              with_reducible refine (spec_l12Ahead.calls ((qk l0_0 (ji25)).f0) ((qk l0_0 (ji25)).f1) ((qk l0_0 (ji25)).f2) ((qk l0_0 (ji25)).f3) ((qk l0_0 (ji25)).f4) ((qk l0_0 x3_2).f0) ((qk l0_0 x3_2).f1) ((qk l0_0 x3_2).f2) ((qk l0_0 x3_2).f3) ((qk l0_0 x3_2).f4) t110 _ A28.out).mono ?_
              rintro e w31 ⟨rfl, hb⟩
              refine ⟨_, rfl, ?_⟩
              replace BK101 := Qz.mk (qq (g := gb101) (o := .cells #[.slice (some ad105) l0_0.length c0_0, .int .i64 a0_1, .int .i64 a0_2, .int .i64 a0_3] 32 (0, 0)) yq22 hb)
              replace HB := Qz.mk (qn yq20 hb)
              (try clear hb)
              refine hK.out _ _ ⟨(qb BK101.out 0).trans rfl, (qb BK101.out 1).trans rfl, (qb BK101.out 2).trans rfl, (qb BK101.out 3).trans rfl, ((HB.out.cell (World.block_lt_of_cell? w _ hw105_0)).trans hw105_0), ((HB.out.cell (World.block_lt_of_cell? w _ hw105_1)).trans hw105_1), ((HB.out.cell (World.block_lt_of_cell? w _ hw105_2)).trans hw105_2), ((HB.out.cell (World.block_lt_of_cell? w _ hw105_3)).trans hw105_3), ((HB.out.cell (World.block_lt_of_cell? w _ hw105_4)).trans hw105_4), ((HB.out.cell (World.block_lt_of_cell? w _ hw107_0)).trans hw107_0), ((HB.out.cell (World.block_lt_of_cell? w _ hw107_1)).trans hw107_1), ((HB.out.cell (World.block_lt_of_cell? w _ hw107_2)).trans hw107_2), ((HB.out.cell (World.block_lt_of_cell? w _ hw107_3)).trans hw107_3), ((HB.out.cell (World.block_lt_of_cell? w _ hw107_4)).trans hw107_4), ((HB.out.cell (World.block_lt_of_cell? w _ hw108_0)).trans hw108_0), ((HB.out.cell (World.block_lt_of_cell? w _ hw108_1)).trans hw108_1), ((HB.out.cell (World.block_lt_of_cell? w _ hw108_2)).trans hw108_2), ((HB.out.cell (World.block_lt_of_cell? w _ hw108_3)).trans hw108_3), ((HB.out.cell (World.block_lt_of_cell? w _ hw108_4)).trans hw108_4), ((HB.out.cell (World.block_lt_of_cell? w _ hw109_0)).trans hw109_0), ((HB.out.cell (World.block_lt_of_cell? w _ hw109_1)).trans hw109_1), ((HB.out.cell (World.block_lt_of_cell? w _ hw109_2)).trans hw109_2), ((HB.out.cell (World.block_lt_of_cell? w _ hw109_3)).trans hw109_3), ((HB.out.cell (World.block_lt_of_cell? w _ hw109_4)).trans hw109_4)⟩ (fun hHeld => ?_)
              clear hK K
              refine norm_ (a' := ?_) ?_ ?_
              rotate_left
              ·show Act.put _ (some 70) _ = _
               simp only [Act.put, sq1, sq2, sq3, i64_w, i32_w]
               rfl
              refine pure_ (i := 34) (N := some 71) (v := ?_) (a' := ?_) bq108 rfl rfl (qr HT_.out (by kernel_rfl)) (fun _ _ _ h => h) (Or.inl ⟨by rfl, ?_⟩) ?_ ?_
              rotate_left
              ·intro w'
               go_simp
               with_reducible rfl
              rotate_left
              ·simp only [Act.put, sq1, sq2, sq3, i64_w, i32_w]
               rfl
              refine pure_ (i := 35) (N := some 72) (v := ?_) (a' := ?_) bq109 rfl rfl (qr HT_.out (by kernel_rfl)) (fun _ _ _ h => h) (Or.inl ⟨by rfl, ?_⟩) ?_ ?_
              rotate_left
              ·intro w'
               go_simp
               with_reducible rfl
              rotate_left
              ·simp only [Act.put, sq1, sq2, sq3, i64_w, i32_w]
               rfl
              refine pure_ (i := 36) (N := some 73) (v := ?_) (a' := ?_) bq110 rfl rfl (qr HT_.out (by kernel_rfl)) (fun _ _ _ h => h) (Or.inl ⟨by rfl, ?_⟩) ?_ ?_
              rotate_left
              ·intro w'
               go_simp
               with_reducible rfl
              rotate_left
              ·simp only [Act.put, sq1, sq2, sq3, i64_w, i32_w]
               rfl
              refine done_ (done_of HT_.out (by kernel_rfl)) ?_
              try go_wp2
              go_meet
              case rel => exact ⟨_, (!t110), yq21, H', ⟨by have := HJ1.out; have := HK2.out; first | omega | exact Nat.le_refl _⟩, ⟨by (with_reducible repeat (first | refine qc ?_ _ | refine qf ?_ | refine qa ?_ _)); exact BK101.out⟩, ⟨by repeat (first | (with_reducible first | exact HB.out | apply qi | apply qd | apply qh | refine qg ?_ GE101.out) | exact HB.out)⟩⟩
             ·rw [if_neg c27] at H
              exact absurd H (by simp)
            ·rw [if_neg c26] at H
             exact absurd H (by simp)
           ·rw [if_neg c24] at H
            have c24b0 : decide (0 < x3_2) = false := decide_eq_false c24
            clear c24
            have H' := Qz.mk H
            clear H
            try go_wp2
            replace BK101 := Qz.mk (qf BK101.out)
            replace HB := Qz.mk (qh HB.out)
            have p105 : 0 ≤ (x3_2 : Int) := of_decide_eq_true yq19
            have q105 : x3_2 < (l0_0.length : Int) := of_decide_eq_true yq19
            obtain ⟨ad105, e105, hx105_0, hx105_1, hx105_2, hx105_3, hx105_4⟩ := at_T66 HR0_0.out x3_2 p105 q105
            have hw105_4 := hx105_4
            have hw105_3 := hx105_3
            have hw105_2 := hx105_2
            have hw105_1 := hx105_1
            have hw105_0 := hx105_0
            cases e105
            replace hx105_0 := (HB.out.cell (World.block_lt_of_cell? w _ hx105_0)).trans hx105_0
            replace hx105_1 := (HB.out.cell (World.block_lt_of_cell? w _ hx105_1)).trans hx105_1
            replace hx105_2 := (HB.out.cell (World.block_lt_of_cell? w _ hx105_2)).trans hx105_2
            replace hx105_3 := (HB.out.cell (World.block_lt_of_cell? w _ hx105_3)).trans hx105_3
            replace hx105_4 := (HB.out.cell (World.block_lt_of_cell? w _ hx105_4)).trans hx105_4
            replace p105 := eq_true p105
            replace q105 := eq_true q105
            have p107 : 0 ≤ (x3_2 : Int) := of_decide_eq_true yq19
            have q107 : x3_2 < (l0_0.length : Int) := of_decide_eq_true yq19
            obtain ⟨ad107, e107, hx107_0, hx107_1, hx107_2, hx107_3, hx107_4⟩ := at_T66 HR0_0.out x3_2 p107 q107
            have hw107_4 := hx107_4
            have hw107_3 := hx107_3
            have hw107_2 := hx107_2
            have hw107_1 := hx107_1
            have hw107_0 := hx107_0
            obtain rfl : ad105 = ad107 := (by injection e107)
            replace hx107_0 := (HB.out.cell (World.block_lt_of_cell? w _ hx107_0)).trans hx107_0
            replace hx107_1 := (HB.out.cell (World.block_lt_of_cell? w _ hx107_1)).trans hx107_1
            replace hx107_2 := (HB.out.cell (World.block_lt_of_cell? w _ hx107_2)).trans hx107_2
            replace hx107_3 := (HB.out.cell (World.block_lt_of_cell? w _ hx107_3)).trans hx107_3
            replace hx107_4 := (HB.out.cell (World.block_lt_of_cell? w _ hx107_4)).trans hx107_4
            replace p107 := eq_true p107
            replace q107 := eq_true q107
            refine start_ (n := 37) (S := fun w' => w'.cell? ⟨gb101, 0, none⟩ = some (.slice (some ad105) l0_0.length c0_0) ∧ w'.cell? ⟨gb101, 1, none⟩ = some (.int .i64 a0_1) ∧ w'.cell? ⟨gb101, 2, none⟩ = some (.int .i64 a0_2) ∧ w'.cell? ⟨gb101, 3, none⟩ = some (.int .i64 a0_3) ∧ w'.cell? (ad105.add ((x3_2).toNat * 5)) = some (.int .i64 ((qk l0_0 x3_2).f0)) ∧ w'.cell? ⟨(ad105.add ((x3_2).toNat * 5)).block, (ad105.add ((x3_2).toNat * 5)).off + 1, none⟩ = some (.int .i64 ((qk l0_0 x3_2).f1)) ∧ w'.cell? ⟨(ad105.add ((x3_2).toNat * 5)).block, (ad105.add ((x3_2).toNat * 5)).off + 2, none⟩ = some (.string ((qk l0_0 x3_2).f2)) ∧ w'.cell? ⟨(ad105.add ((x3_2).toNat * 5)).block, (ad105.add ((x3_2).toNat * 5)).off + 3, none⟩ = some (.string ((qk l0_0 x3_2).f3)) ∧ w'.cell? ⟨(ad105.add ((x3_2).toNat * 5)).block, (ad105.add ((x3_2).toNat * 5)).off + 4, none⟩ = some (.int .i64 ((qk l0_0 x3_2).f4)) ∧ w'.cell? (ad105.add ((x3_2).toNat * 5)) = some (.int .i64 ((qk l0_0 x3_2).f0)) ∧ w'.cell? ⟨(ad105.add ((x3_2).toNat * 5)).block, (ad105.add ((x3_2).toNat * 5)).off + 1, none⟩ = some (.int .i64 ((qk l0_0 x3_2).f1)) ∧ w'.cell? ⟨(ad105.add ((x3_2).toNat * 5)).block, (ad105.add ((x3_2).toNat * 5)).off + 2, none⟩ = some (.string ((qk l0_0 x3_2).f2)) ∧ w'.cell? ⟨(ad105.add ((x3_2).toNat * 5)).block, (ad105.add ((x3_2).toNat * 5)).off + 3, none⟩ = some (.string ((qk l0_0 x3_2).f3)) ∧ w'.cell? ⟨(ad105.add ((x3_2).toNat * 5)).block, (ad105.add ((x3_2).toNat * 5)).off + 4, none⟩ = some (.int .i64 ((qk l0_0 x3_2).f4))) (ds := []) bq0 (by kernel_rfl) rfl rfl ⟨(qb BK101.out 0).trans rfl, (qb BK101.out 1).trans rfl, (qb BK101.out 2).trans rfl, (qb BK101.out 3).trans rfl, ((HB.out.cell (World.block_lt_of_cell? w _ hw105_0)).trans hw105_0), ((HB.out.cell (World.block_lt_of_cell? w _ hw105_1)).trans hw105_1), ((HB.out.cell (World.block_lt_of_cell? w _ hw105_2)).trans hw105_2), ((HB.out.cell (World.block_lt_of_cell? w _ hw105_3)).trans hw105_3), ((HB.out.cell (World.block_lt_of_cell? w _ hw105_4)).trans hw105_4), ((HB.out.cell (World.block_lt_of_cell? w _ hw107_0)).trans hw107_0), ((HB.out.cell (World.block_lt_of_cell? w _ hw107_1)).trans hw107_1), ((HB.out.cell (World.block_lt_of_cell? w _ hw107_2)).trans hw107_2), ((HB.out.cell (World.block_lt_of_cell? w _ hw107_3)).trans hw107_3), ((HB.out.cell (World.block_lt_of_cell? w _ hw107_4)).trans hw107_4)⟩ (fun hHeld => ?_); refine with_tabW spec_VersionOk.tab6 spec_VersionOk.bits6 (fun HT_ HW_ => ?_)
            generalize wr.drew = w32 at BK101 HB hx105_0 hx105_1 hx105_2 hx105_3 hx105_4 hx107_0 hx107_1 hx107_2 hx107_3 hx107_4 hHeld ⊢
            refine pure_ (i := 0) (N := some 37) (v := ?_) (a' := ?_) bq7 rfl rfl (qr HT_.out (by kernel_rfl)) (fun _ _ _ h => h) (Or.inl ⟨by rfl, ?_⟩) ?_ ?_
            rotate_left
            ·intro w'
             go_simp
             with_reducible rfl
            rotate_left
            ·simp only [Act.put, sq1, sq2, sq3, i64_w, i32_w]
             rfl
            refine pure_ (i := 2) (N := some 39) (v := ?_) (a' := ?_) bq12 rfl rfl (qr HT_.out (by kernel_rfl)) (fun _ _ _ h => h) (Or.inl ⟨by rfl, ?_⟩) ?_ ?_
            rotate_left
            ·intro w'
             go_simp
             with_reducible rfl
            rotate_left
            ·simp only [Act.put, sq1, sq2, sq3, i64_w, i32_w]
             rfl
            refine take_ (i := 1) (N := some 38) (v := ?_) (a' := ?_) bq20 rfl rfl (qb1 HT_.out HW_.out (by kernel_rfl)) (fun _ _ _ h => h) (Or.inl ⟨by rfl, ?_⟩) hHeld ?_ ?_
            rotate_left
            ·rintro w' ⟨s0, s1, s2, s3, s4, s5, s6, s7, s8, s9, s10, s11, s12, s13⟩
             go_simp
             with_reducible rfl
            rotate_left
            ·simp only [Act.put, sq1, sq2, sq3, i64_w, i32_w]
             rfl
            refine pure_ (i := 3) (N := some 40) (v := ?_) (a' := ?_) bq27 rfl rfl (qr HT_.out (by kernel_rfl)) (fun _ _ _ h => h) (Or.inl ⟨by rfl, ?_⟩) ?_ ?_
            rotate_left
            ·intro w'
             go_simp
             with_reducible rfl
            rotate_left
            ·simp only [Act.put, sq1, sq2, sq3, i64_w, i32_w]
             rfl
            refine take_ (i := 4) (N := some 41) (v := ?_) (a' := ?_) bq33 rfl rfl (qb1 HT_.out HW_.out (by kernel_rfl)) (fun _ _ _ h => h) (Or.inl ⟨by rfl, ?_⟩) hHeld ?_ ?_
            rotate_left
            ·rintro w' ⟨s0, s1, s2, s3, s4, s5, s6, s7, s8, s9, s10, s11, s12, s13⟩
             go_simp
             with_reducible rfl
            rotate_left
            ·simp only [Act.put, sq1, sq2, sq3, i64_w, i32_w]
             rfl
            refine one_ (i := 5) (N := some 42) bq39 rfl rfl (one_of HT_.out (by kernel_rfl)) (by decide) (fun K hK => ?_)
            refine goes_ Try.func64 (by kernel_rfl) rfl #[.agg #[.int .i64 ((qk l0_0 x3_2).f0), .int .i64 ((qk l0_0 x3_2).f1), .string ((qk l0_0 x3_2).f2), .string ((qk l0_0 x3_2).f3), .int .i64 ((qk l0_0 x3_2).f4)]] (by rfl) rfl rfl yq23 ?_
            with_reducible refine (spec_l12Meta.calls ((qk l0_0 x3_2).f0) ((qk l0_0 x3_2).f1) ((qk l0_0 x3_2).f2) ((qk l0_0 x3_2).f3) ((qk l0_0 x3_2).f4) true _ A19.out).mono ?_
            rintro e w33 ⟨rfl, hb⟩
            refine ⟨_, rfl, ?_⟩
            replace BK101 := Qz.mk (qq (g := gb101) (o := .cells #[.slice (some ad105) l0_0.length c0_0, .int .i64 a0_1, .int .i64 a0_2, .int .i64 a0_3] 32 (0, 0)) yq22 hb)
            replace HB := Qz.mk (qn yq20 hb)
            (try clear hb)
            refine hK.out _ _ ⟨(qb BK101.out 0).trans rfl, (qb BK101.out 1).trans rfl, (qb BK101.out 2).trans rfl, (qb BK101.out 3).trans rfl, ((HB.out.cell (World.block_lt_of_cell? w _ hw105_0)).trans hw105_0), ((HB.out.cell (World.block_lt_of_cell? w _ hw105_1)).trans hw105_1), ((HB.out.cell (World.block_lt_of_cell? w _ hw105_2)).trans hw105_2), ((HB.out.cell (World.block_lt_of_cell? w _ hw105_3)).trans hw105_3), ((HB.out.cell (World.block_lt_of_cell? w _ hw105_4)).trans hw105_4), ((HB.out.cell (World.block_lt_of_cell? w _ hw107_0)).trans hw107_0), ((HB.out.cell (World.block_lt_of_cell? w _ hw107_1)).trans hw107_1), ((HB.out.cell (World.block_lt_of_cell? w _ hw107_2)).trans hw107_2), ((HB.out.cell (World.block_lt_of_cell? w _ hw107_3)).trans hw107_3), ((HB.out.cell (World.block_lt_of_cell? w _ hw107_4)).trans hw107_4)⟩ (fun hHeld => ?_)
            clear hK K
            refine norm_ (a' := ?_) ?_ ?_
            rotate_left
            ·show Act.put _ (some 42) _ = _
             simp only [Act.put, sq1, sq2, sq3, i64_w, i32_w]
             rfl
            refine pure_ (i := 6) (N := some 43) (v := ?_) (a' := ?_) bq45 rfl rfl (qr HT_.out (by kernel_rfl)) (fun _ _ _ h => h) (Or.inl ⟨by rfl, ?_⟩) ?_ ?_
            rotate_left
            ·intro w'
             go_simp
             with_reducible rfl
            rotate_left
            ·simp only [Act.put, sq1, sq2, sq3, i64_w, i32_w]
             rfl
            refine pure_ (i := 7) (N := some 44) (v := ?_) (a' := ?_) bq55 rfl rfl (qr HT_.out (by kernel_rfl)) (fun _ _ _ h => h) (Or.inl ⟨by rfl, ?_⟩) ?_ ?_
            rotate_left
            ·intro w'
             go_simp
             with_reducible rfl
            rotate_left
            ·simp only [Act.put, sq1, sq2, sq3, i64_w, i32_w]
             rfl
            refine pure_ (i := 8) (N := some 45) (v := ?_) (a' := ?_) bq59 rfl rfl (qr HT_.out (by kernel_rfl)) (fun _ _ _ h => h) (Or.inl ⟨by rfl, ?_⟩) ?_ ?_
            rotate_left
            ·intro w'
             go_simp
             with_reducible rfl
            rotate_left
            ·simp only [Act.put, sq1, sq2, sq3, i64_w, i32_w]
             rfl
            refine pure_ (i := 10) (N := some 47) (v := ?_) (a' := ?_) bq64 rfl rfl (qr HT_.out (by kernel_rfl)) (fun _ _ _ h => h) (Or.inl ⟨by rfl, ?_⟩) ?_ ?_
            rotate_left
            ·intro w'
             go_simp
             with_reducible rfl
            rotate_left
            ·simp only [Act.put, sq1, sq2, sq3, i64_w, i32_w]
             rfl
            refine pure_ (i := 14) (N := some 51) (v := ?_) (a' := ?_) bq65 rfl rfl (qr HT_.out (by kernel_rfl)) (fun _ _ _ h => h) (Or.inl ⟨by rfl, ?_⟩) ?_ ?_
            rotate_left
            ·intro w'
             go_simp
             with_reducible rfl
            rotate_left
            ·simp only [Act.put, sq1, sq2, sq3, i64_w, i32_w]
             rfl
            refine take_ (i := 9) (N := some 46) (v := ?_) (a' := ?_) bq72 rfl rfl (qb1 HT_.out HW_.out (by kernel_rfl)) (fun _ _ _ h => h) (Or.inl ⟨by rfl, ?_⟩) hHeld ?_ ?_
            rotate_left
            ·rintro w' ⟨s0, s1, s2, s3, s4, s5, s6, s7, s8, s9, s10, s11, s12, s13⟩
             go_simp
             with_reducible rfl
            rotate_left
            ·simp only [Act.put, sq1, sq2, sq3, i64_w, i32_w]
             rfl
            refine pure_ (i := 11) (N := some 48) (v := ?_) (a' := ?_) bq75 rfl rfl (qr HT_.out (by kernel_rfl)) (fun _ _ _ h => h) (Or.inl ⟨by rfl, ?_⟩) ?_ ?_
            rotate_left
            ·intro w'
             go_simp
             with_reducible rfl
            rotate_left
            ·simp only [Act.put, sq1, sq2, sq3, i64_w, i32_w]
             rfl
            refine pure_ (i := 12) (N := some 49) (v := ?_) (a' := ?_) bq80 rfl rfl (qr HT_.out (by kernel_rfl)) (fun _ _ _ h => h) (Or.inl ⟨by rfl, ?_⟩) ?_ ?_
            rotate_left
            ·intro w'
             go_simp
             with_reducible rfl
            rotate_left
            ·simp only [Act.put, sq1, sq2, sq3, i64_w, i32_w]
             rfl
            refine take_ (i := 13) (N := some 50) (v := ?_) (a' := ?_) bq84 rfl rfl (qb1 HT_.out HW_.out (by kernel_rfl)) (fun _ _ _ h => h) (Or.inl ⟨by rfl, ?_⟩) hHeld ?_ ?_
            rotate_left
            ·rintro w' ⟨s0, s1, s2, s3, s4, s5, s6, s7, s8, s9, s10, s11, s12, s13⟩
             go_simp
             with_reducible rfl
            rotate_left
            ·simp only [Act.put, sq1, sq2, sq3, i64_w, i32_w]
             rfl
            refine take_ (i := 15) (N := some 52) (v := ?_) (a' := ?_) bq87 rfl rfl (qb1 HT_.out HW_.out (by kernel_rfl)) (fun _ _ _ h => h) (Or.inl ⟨by rfl, ?_⟩) hHeld ?_ ?_
            rotate_left
            ·rintro w' ⟨s0, s1, s2, s3, s4, s5, s6, s7, s8, s9, s10, s11, s12, s13⟩
             go_simp
             with_reducible rfl
            rotate_left
            ·simp only [Act.put, sq1, sq2, sq3, i64_w, i32_w]
             rfl
            refine pure_ (i := 16) (N := some 53) (v := ?_) (a' := ?_) bq89 rfl rfl (qr HT_.out (by kernel_rfl)) (fun _ _ _ h => h) (Or.inl ⟨by rfl, ?_⟩) ?_ ?_
            rotate_left
            ·intro w'
             go_simp
             with_reducible rfl
            rotate_left
            ·simp only [Act.put, sq1, sq2, sq3, i64_w, i32_w]
             rfl
            refine pure_ (i := 17) (N := some 54) (v := ?_) (a' := ?_) bq91 rfl rfl (qr HT_.out (by kernel_rfl)) (fun _ _ _ h => h) (Or.inl ⟨by rfl, ?_⟩) ?_ ?_
            rotate_left
            ·intro w'
             go_simp
             with_reducible rfl
            rotate_left
            ·simp only [Act.put, sq1, sq2, sq3, i64_w, i32_w]
             rfl
            refine pure_ (i := 18) (N := some 55) (v := ?_) (a' := ?_) bq92 rfl rfl (qr HT_.out (by kernel_rfl)) (fun _ _ _ h => h) (Or.inl ⟨by rfl, ?_⟩) ?_ ?_
            rotate_left
            ·intro w'
             go_simp
             with_reducible rfl
            rotate_left
            ·simp only [Act.put, sq1, sq2, sq3, i64_w, i32_w]
             rfl
            refine pure_ (i := 19) (N := some 56) (v := ?_) (a' := ?_) bq93 rfl rfl (qr HT_.out (by kernel_rfl)) (fun _ _ _ h => h) (Or.inl ⟨by rfl, ?_⟩) ?_ ?_
            rotate_left
            ·intro w'
             go_simp
             with_reducible rfl
            rotate_left
            ·simp only [Act.put, sq1, sq2, sq3, i64_w, i32_w]
             rfl
            refine pure_ (i := 20) (N := some 57) (v := ?_) (a' := ?_) bq94 rfl rfl (qr HT_.out (by kernel_rfl)) (fun _ _ _ h => h) (Or.inl ⟨by rfl, ?_⟩) ?_ ?_
            rotate_left
            ·intro w'
             go_simp
             with_reducible rfl
            rotate_left
            ·simp only [Act.put, sq1, sq2, sq3, i64_w, i32_w]
             rfl
            refine pure_ (i := 21) (N := some 58) (v := ?_) (a' := ?_) bq95 rfl rfl (qr HT_.out (by kernel_rfl)) (fun _ _ _ h => h) (Or.inl ⟨by rfl, ?_⟩) ?_ ?_
            rotate_left
            ·intro w'
             go_simp
             with_reducible rfl
            rotate_left
            ·simp only [Act.put, sq1, sq2, sq3, i64_w, i32_w]
             rfl
            refine pure_ (i := 22) (N := some 59) (v := undef) (a' := ?_) bq96 rfl rfl (qr HT_.out (by kernel_rfl)) (fun _ _ _ h => h) (Or.inr ⟨by rfl, rfl⟩) ?_ ?_
            rotate_left
            ·simp only [Act.put, sq1, sq2, sq3, i64_w, i32_w]
             rfl
            refine pure_ (i := 23) (N := some 60) (v := undef) (a' := ?_) bq97 rfl rfl (qr HT_.out (by kernel_rfl)) (fun _ _ _ h => h) (Or.inr ⟨by rfl, rfl⟩) ?_ ?_
            rotate_left
            ·simp only [Act.put, sq1, sq2, sq3, i64_w, i32_w]
             rfl
            refine pure_ (i := 24) (N := some 61) (v := undef) (a' := ?_) bq98 rfl rfl (qr HT_.out (by kernel_rfl)) (fun _ _ _ h => h) (Or.inr ⟨by rfl, rfl⟩) ?_ ?_
            rotate_left
            ·simp only [Act.put, sq1, sq2, sq3, i64_w, i32_w]
             rfl
            refine pure_ (i := 25) (N := some 62) (v := undef) (a' := ?_) bq99 rfl rfl (qr HT_.out (by kernel_rfl)) (fun _ _ _ h => h) (Or.inr ⟨by rfl, rfl⟩) ?_ ?_
            rotate_left
            ·simp only [Act.put, sq1, sq2, sq3, i64_w, i32_w]
             rfl
            refine pure_ (i := 26) (N := some 63) (v := undef) (a' := ?_) bq100 rfl rfl (qr HT_.out (by kernel_rfl)) (fun _ _ _ h => h) (Or.inr ⟨by rfl, rfl⟩) ?_ ?_
            rotate_left
            ·simp only [Act.put, sq1, sq2, sq3, i64_w, i32_w]
             rfl
            refine pure_ (i := 27) (N := some 64) (v := undef) (a' := ?_) bq101 rfl rfl (qr HT_.out (by kernel_rfl)) (fun _ _ _ h => h) (Or.inr ⟨by rfl, rfl⟩) ?_ ?_
            rotate_left
            ·simp only [Act.put, sq1, sq2, sq3, i64_w, i32_w]
             rfl
            refine pure_ (i := 28) (N := some 65) (v := undef) (a' := ?_) bq102 rfl rfl (qr HT_.out (by kernel_rfl)) (fun _ _ _ h => h) (Or.inr ⟨by rfl, rfl⟩) ?_ ?_
            rotate_left
            ·simp only [Act.put, sq1, sq2, sq3, i64_w, i32_w]
             rfl
            refine pure_ (i := 29) (N := some 66) (v := undef) (a' := ?_) bq103 rfl rfl (qr HT_.out (by kernel_rfl)) (fun _ _ _ h => h) (Or.inr ⟨by rfl, rfl⟩) ?_ ?_
            rotate_left
            ·simp only [Act.put, sq1, sq2, sq3, i64_w, i32_w]
             rfl
            refine pure_ (i := 30) (N := some 67) (v := undef) (a' := ?_) bq104 rfl rfl (qr HT_.out (by kernel_rfl)) (fun _ _ _ h => h) (Or.inr ⟨by rfl, rfl⟩) ?_ ?_
            rotate_left
            ·simp only [Act.put, sq1, sq2, sq3, i64_w, i32_w]
             rfl
            refine pure_ (i := 31) (N := some 68) (v := undef) (a' := ?_) bq105 rfl rfl (qr HT_.out (by kernel_rfl)) (fun _ _ _ h => h) (Or.inr ⟨by rfl, rfl⟩) ?_ ?_
            rotate_left
            ·simp only [Act.put, sq1, sq2, sq3, i64_w, i32_w]
             rfl
            refine pure_ (i := 32) (N := some 69) (v := undef) (a' := ?_) bq106 rfl rfl (qr HT_.out (by kernel_rfl)) (fun _ _ _ h => h) (Or.inr ⟨by rfl, rfl⟩) ?_ ?_
            rotate_left
            ·simp only [Act.put, sq1, sq2, sq3, i64_w, i32_w]
             rfl
            refine pure_ (i := 33) (N := some 70) (v := undef) (a' := ?_) bq107 rfl rfl (qr HT_.out (by kernel_rfl)) (fun _ _ _ h => h) (Or.inr ⟨by rfl, rfl⟩) ?_ ?_
            rotate_left
            ·simp only [Act.put, sq1, sq2, sq3, i64_w, i32_w]
             rfl
            refine pure_ (i := 34) (N := some 71) (v := undef) (a' := ?_) bq108 rfl rfl (qr HT_.out (by kernel_rfl)) (fun _ _ _ h => h) (Or.inr ⟨by rfl, rfl⟩) ?_ ?_
            rotate_left
            ·simp only [Act.put, sq1, sq2, sq3, i64_w, i32_w]
             rfl
            refine pure_ (i := 35) (N := some 72) (v := ?_) (a' := ?_) bq109 rfl rfl (qr HT_.out (by kernel_rfl)) (fun _ _ _ h => h) (Or.inl ⟨by rfl, ?_⟩) ?_ ?_
            rotate_left
            ·intro w'
             go_simp
             with_reducible rfl
            rotate_left
            ·simp only [Act.put, sq1, sq2, sq3, i64_w, i32_w]
             rfl
            refine pure_ (i := 36) (N := some 73) (v := ?_) (a' := ?_) bq110 rfl rfl (qr HT_.out (by kernel_rfl)) (fun _ _ _ h => h) (Or.inl ⟨by rfl, ?_⟩) ?_ ?_
            rotate_left
            ·intro w'
             go_simp
             with_reducible rfl
            rotate_left
            ·simp only [Act.put, sq1, sq2, sq3, i64_w, i32_w]
             rfl
            refine done_ (done_of HT_.out (by kernel_rfl)) ?_
            try go_wp2
            go_meet
            case rel => exact ⟨_, (false), yq21, H', ⟨by have := HJ1.out; have := HK2.out; first | omega | exact Nat.le_refl _⟩, ⟨by (with_reducible repeat (first | refine qc ?_ _ | refine qf ?_ | refine qa ?_ _)); exact BK101.out⟩, ⟨by repeat (first | (with_reducible first | exact HB.out | apply qi | apply qd | apply qh | refine qg ?_ GE101.out) | exact HB.out)⟩⟩
         ·replace c20 := Bool.eq_false_iff.mpr c20
          subst c20
          have H1 : (spec_VersionOk.j2 k2 x3_2 true l0_0 a0_1 a0_2 a0_3) = some r := by rw [if_neg (show ¬ (false = true) by decide)] at H; exact H
          clear H
          have H := H1
          clear H1
          have H' := Qz.mk H
          clear H
          try go_wp2
          replace BK101 := Qz.mk (qf BK101.out)
          replace HB := Qz.mk (qh HB.out)
          have p105 : 0 ≤ (x3_2 : Int) := of_decide_eq_true yq19
          have q105 : x3_2 < (l0_0.length : Int) := of_decide_eq_true yq19
          obtain ⟨ad105, e105, hx105_0, hx105_1, hx105_2, hx105_3, hx105_4⟩ := at_T66 HR0_0.out x3_2 p105 q105
          have hw105_4 := hx105_4
          have hw105_3 := hx105_3
          have hw105_2 := hx105_2
          have hw105_1 := hx105_1
          have hw105_0 := hx105_0
          cases e105
          replace hx105_0 := (HB.out.cell (World.block_lt_of_cell? w _ hx105_0)).trans hx105_0
          replace hx105_1 := (HB.out.cell (World.block_lt_of_cell? w _ hx105_1)).trans hx105_1
          replace hx105_2 := (HB.out.cell (World.block_lt_of_cell? w _ hx105_2)).trans hx105_2
          replace hx105_3 := (HB.out.cell (World.block_lt_of_cell? w _ hx105_3)).trans hx105_3
          replace hx105_4 := (HB.out.cell (World.block_lt_of_cell? w _ hx105_4)).trans hx105_4
          replace p105 := eq_true p105
          replace q105 := eq_true q105
          refine start_ (n := 37) (S := fun w' => w'.cell? ⟨gb101, 0, none⟩ = some (.slice (some ad105) l0_0.length c0_0) ∧ w'.cell? ⟨gb101, 1, none⟩ = some (.int .i64 a0_1) ∧ w'.cell? ⟨gb101, 2, none⟩ = some (.int .i64 a0_2) ∧ w'.cell? ⟨gb101, 3, none⟩ = some (.int .i64 a0_3) ∧ w'.cell? (ad105.add ((x3_2).toNat * 5)) = some (.int .i64 ((qk l0_0 x3_2).f0)) ∧ w'.cell? ⟨(ad105.add ((x3_2).toNat * 5)).block, (ad105.add ((x3_2).toNat * 5)).off + 1, none⟩ = some (.int .i64 ((qk l0_0 x3_2).f1)) ∧ w'.cell? ⟨(ad105.add ((x3_2).toNat * 5)).block, (ad105.add ((x3_2).toNat * 5)).off + 2, none⟩ = some (.string ((qk l0_0 x3_2).f2)) ∧ w'.cell? ⟨(ad105.add ((x3_2).toNat * 5)).block, (ad105.add ((x3_2).toNat * 5)).off + 3, none⟩ = some (.string ((qk l0_0 x3_2).f3)) ∧ w'.cell? ⟨(ad105.add ((x3_2).toNat * 5)).block, (ad105.add ((x3_2).toNat * 5)).off + 4, none⟩ = some (.int .i64 ((qk l0_0 x3_2).f4))) (ds := []) bq0 (by kernel_rfl) rfl rfl ⟨(qb BK101.out 0).trans rfl, (qb BK101.out 1).trans rfl, (qb BK101.out 2).trans rfl, (qb BK101.out 3).trans rfl, ((HB.out.cell (World.block_lt_of_cell? w _ hw105_0)).trans hw105_0), ((HB.out.cell (World.block_lt_of_cell? w _ hw105_1)).trans hw105_1), ((HB.out.cell (World.block_lt_of_cell? w _ hw105_2)).trans hw105_2), ((HB.out.cell (World.block_lt_of_cell? w _ hw105_3)).trans hw105_3), ((HB.out.cell (World.block_lt_of_cell? w _ hw105_4)).trans hw105_4)⟩ (fun hHeld => ?_); refine with_tabW spec_VersionOk.tab6 spec_VersionOk.bits6 (fun HT_ HW_ => ?_)
          generalize wr.drew = w34 at BK101 HB hx105_0 hx105_1 hx105_2 hx105_3 hx105_4 hHeld ⊢
          refine pure_ (i := 0) (N := some 37) (v := ?_) (a' := ?_) bq7 rfl rfl (qr HT_.out (by kernel_rfl)) (fun _ _ _ h => h) (Or.inl ⟨by rfl, ?_⟩) ?_ ?_
          rotate_left
          ·intro w'
           go_simp
           with_reducible rfl
          rotate_left
          ·simp only [Act.put, sq1, sq2, sq3, i64_w, i32_w]
           rfl
          refine pure_ (i := 2) (N := some 39) (v := ?_) (a' := ?_) bq12 rfl rfl (qr HT_.out (by kernel_rfl)) (fun _ _ _ h => h) (Or.inl ⟨by rfl, ?_⟩) ?_ ?_
          rotate_left
          ·intro w'
           go_simp
           with_reducible rfl
          rotate_left
          ·simp only [Act.put, sq1, sq2, sq3, i64_w, i32_w]
           rfl
          refine take_ (i := 1) (N := some 38) (v := ?_) (a' := ?_) bq20 rfl rfl (qb1 HT_.out HW_.out (by kernel_rfl)) (fun _ _ _ h => h) (Or.inl ⟨by rfl, ?_⟩) hHeld ?_ ?_
          rotate_left
          ·rintro w' ⟨s0, s1, s2, s3, s4, s5, s6, s7, s8⟩
           go_simp
           with_reducible rfl
          rotate_left
          ·simp only [Act.put, sq1, sq2, sq3, i64_w, i32_w]
           rfl
          refine pure_ (i := 3) (N := some 40) (v := ?_) (a' := ?_) bq27 rfl rfl (qr HT_.out (by kernel_rfl)) (fun _ _ _ h => h) (Or.inl ⟨by rfl, ?_⟩) ?_ ?_
          rotate_left
          ·intro w'
           go_simp
           with_reducible rfl
          rotate_left
          ·simp only [Act.put, sq1, sq2, sq3, i64_w, i32_w]
           rfl
          refine take_ (i := 4) (N := some 41) (v := ?_) (a' := ?_) bq33 rfl rfl (qb1 HT_.out HW_.out (by kernel_rfl)) (fun _ _ _ h => h) (Or.inl ⟨by rfl, ?_⟩) hHeld ?_ ?_
          rotate_left
          ·rintro w' ⟨s0, s1, s2, s3, s4, s5, s6, s7, s8⟩
           go_simp
           with_reducible rfl
          rotate_left
          ·simp only [Act.put, sq1, sq2, sq3, i64_w, i32_w]
           rfl
          refine one_ (i := 5) (N := some 42) bq39 rfl rfl (one_of HT_.out (by kernel_rfl)) (by decide) (fun K hK => ?_)
          refine goes_ Try.func64 (by kernel_rfl) rfl #[.agg #[.int .i64 ((qk l0_0 x3_2).f0), .int .i64 ((qk l0_0 x3_2).f1), .string ((qk l0_0 x3_2).f2), .string ((qk l0_0 x3_2).f3), .int .i64 ((qk l0_0 x3_2).f4)]] (by rfl) rfl rfl yq23 ?_
          with_reducible refine (spec_l12Meta.calls ((qk l0_0 x3_2).f0) ((qk l0_0 x3_2).f1) ((qk l0_0 x3_2).f2) ((qk l0_0 x3_2).f3) ((qk l0_0 x3_2).f4) false _ A19.out).mono ?_
          rintro e w35 ⟨rfl, hb⟩
          refine ⟨_, rfl, ?_⟩
          replace BK101 := Qz.mk (qq (g := gb101) (o := .cells #[.slice (some ad105) l0_0.length c0_0, .int .i64 a0_1, .int .i64 a0_2, .int .i64 a0_3] 32 (0, 0)) yq22 hb)
          replace HB := Qz.mk (qn yq20 hb)
          (try clear hb)
          refine hK.out _ _ ⟨(qb BK101.out 0).trans rfl, (qb BK101.out 1).trans rfl, (qb BK101.out 2).trans rfl, (qb BK101.out 3).trans rfl, ((HB.out.cell (World.block_lt_of_cell? w _ hw105_0)).trans hw105_0), ((HB.out.cell (World.block_lt_of_cell? w _ hw105_1)).trans hw105_1), ((HB.out.cell (World.block_lt_of_cell? w _ hw105_2)).trans hw105_2), ((HB.out.cell (World.block_lt_of_cell? w _ hw105_3)).trans hw105_3), ((HB.out.cell (World.block_lt_of_cell? w _ hw105_4)).trans hw105_4)⟩ (fun hHeld => ?_)
          clear hK K
          refine norm_ (a' := ?_) ?_ ?_
          rotate_left
          ·show Act.put _ (some 42) _ = _
           simp only [Act.put, sq1, sq2, sq3, i64_w, i32_w]
           rfl
          refine pure_ (i := 6) (N := some 43) (v := ?_) (a' := ?_) bq45 rfl rfl (qr HT_.out (by kernel_rfl)) (fun _ _ _ h => h) (Or.inl ⟨by rfl, ?_⟩) ?_ ?_
          rotate_left
          ·intro w'
           go_simp
           with_reducible rfl
          rotate_left
          ·simp only [Act.put, sq1, sq2, sq3, i64_w, i32_w]
           rfl
          refine pure_ (i := 7) (N := some 44) (v := ?_) (a' := ?_) bq55 rfl rfl (qr HT_.out (by kernel_rfl)) (fun _ _ _ h => h) (Or.inl ⟨by rfl, ?_⟩) ?_ ?_
          rotate_left
          ·intro w'
           go_simp
           with_reducible rfl
          rotate_left
          ·simp only [Act.put, sq1, sq2, sq3, i64_w, i32_w]
           rfl
          refine pure_ (i := 8) (N := some 45) (v := undef) (a' := ?_) bq59 rfl rfl (qr HT_.out (by kernel_rfl)) (fun _ _ _ h => h) (Or.inr ⟨by rfl, rfl⟩) ?_ ?_
          rotate_left
          ·simp only [Act.put, sq1, sq2, sq3, i64_w, i32_w]
           rfl
          refine pure_ (i := 9) (N := some 46) (v := undef) (a' := ?_) #[true, true, true, true, true, true, true, true, true, true, false, false, false, false, false, false, false, false, false, false, false, false, false, false, false, false, false, false, false, false, false, false, false, false, false, false, false] rfl rfl (qr HT_.out (by kernel_rfl)) (fun _ _ _ h => h) (Or.inr ⟨by rfl, rfl⟩) ?_ ?_
          rotate_left
          ·simp only [Act.put, sq1, sq2, sq3, i64_w, i32_w]
           rfl
          refine pure_ (i := 10) (N := some 47) (v := undef) (a' := ?_) #[true, true, true, true, true, true, true, true, true, true, true, false, false, false, false, false, false, false, false, false, false, false, false, false, false, false, false, false, false, false, false, false, false, false, false, false, false] rfl rfl (qr HT_.out (by kernel_rfl)) (fun _ _ _ h => h) (Or.inr ⟨by rfl, rfl⟩) ?_ ?_
          rotate_left
          ·simp only [Act.put, sq1, sq2, sq3, i64_w, i32_w]
           rfl
          refine pure_ (i := 11) (N := some 48) (v := undef) (a' := ?_) #[true, true, true, true, true, true, true, true, true, true, true, true, false, false, false, false, false, false, false, false, false, false, false, false, false, false, false, false, false, false, false, false, false, false, false, false, false] rfl rfl (qr HT_.out (by kernel_rfl)) (fun _ _ _ h => h) (Or.inr ⟨by rfl, rfl⟩) ?_ ?_
          rotate_left
          ·simp only [Act.put, sq1, sq2, sq3, i64_w, i32_w]
           rfl
          refine pure_ (i := 12) (N := some 49) (v := undef) (a' := ?_) #[true, true, true, true, true, true, true, true, true, true, true, true, true, false, false, false, false, false, false, false, false, false, false, false, false, false, false, false, false, false, false, false, false, false, false, false, false] rfl rfl (qr HT_.out (by kernel_rfl)) (fun _ _ _ h => h) (Or.inr ⟨by rfl, rfl⟩) ?_ ?_
          rotate_left
          ·simp only [Act.put, sq1, sq2, sq3, i64_w, i32_w]
           rfl
          refine pure_ (i := 13) (N := some 50) (v := undef) (a' := ?_) #[true, true, true, true, true, true, true, true, true, true, true, true, true, true, false, false, false, false, false, false, false, false, false, false, false, false, false, false, false, false, false, false, false, false, false, false, false] rfl rfl (qr HT_.out (by kernel_rfl)) (fun _ _ _ h => h) (Or.inr ⟨by rfl, rfl⟩) ?_ ?_
          rotate_left
          ·simp only [Act.put, sq1, sq2, sq3, i64_w, i32_w]
           rfl
          refine pure_ (i := 14) (N := some 51) (v := undef) (a' := ?_) bq84 rfl rfl (qr HT_.out (by kernel_rfl)) (fun _ _ _ h => h) (Or.inr ⟨by rfl, rfl⟩) ?_ ?_
          rotate_left
          ·simp only [Act.put, sq1, sq2, sq3, i64_w, i32_w]
           rfl
          refine pure_ (i := 15) (N := some 52) (v := undef) (a' := ?_) bq87 rfl rfl (qr HT_.out (by kernel_rfl)) (fun _ _ _ h => h) (Or.inr ⟨by rfl, rfl⟩) ?_ ?_
          rotate_left
          ·simp only [Act.put, sq1, sq2, sq3, i64_w, i32_w]
           rfl
          refine pure_ (i := 16) (N := some 53) (v := undef) (a' := ?_) bq89 rfl rfl (qr HT_.out (by kernel_rfl)) (fun _ _ _ h => h) (Or.inr ⟨by rfl, rfl⟩) ?_ ?_
          rotate_left
          ·simp only [Act.put, sq1, sq2, sq3, i64_w, i32_w]
           rfl
          refine pure_ (i := 17) (N := some 54) (v := ?_) (a' := ?_) bq91 rfl rfl (qr HT_.out (by kernel_rfl)) (fun _ _ _ h => h) (Or.inl ⟨by rfl, ?_⟩) ?_ ?_
          rotate_left
          ·intro w'
           go_simp
           with_reducible rfl
          rotate_left
          ·simp only [Act.put, sq1, sq2, sq3, i64_w, i32_w]
           rfl
          refine pure_ (i := 18) (N := some 55) (v := ?_) (a' := ?_) bq92 rfl rfl (qr HT_.out (by kernel_rfl)) (fun _ _ _ h => h) (Or.inl ⟨by rfl, ?_⟩) ?_ ?_
          rotate_left
          ·intro w'
           go_simp
           with_reducible rfl
          rotate_left
          ·simp only [Act.put, sq1, sq2, sq3, i64_w, i32_w]
           rfl
          refine pure_ (i := 19) (N := some 56) (v := undef) (a' := ?_) bq93 rfl rfl (qr HT_.out (by kernel_rfl)) (fun _ _ _ h => h) (Or.inr ⟨by rfl, rfl⟩) ?_ ?_
          rotate_left
          ·simp only [Act.put, sq1, sq2, sq3, i64_w, i32_w]
           rfl
          refine pure_ (i := 20) (N := some 57) (v := undef) (a' := ?_) bq94 rfl rfl (qr HT_.out (by kernel_rfl)) (fun _ _ _ h => h) (Or.inr ⟨by rfl, rfl⟩) ?_ ?_
          rotate_left
          ·simp only [Act.put, sq1, sq2, sq3, i64_w, i32_w]
           rfl
          refine pure_ (i := 21) (N := some 58) (v := undef) (a' := ?_) bq95 rfl rfl (qr HT_.out (by kernel_rfl)) (fun _ _ _ h => h) (Or.inr ⟨by rfl, rfl⟩) ?_ ?_
          rotate_left
          ·simp only [Act.put, sq1, sq2, sq3, i64_w, i32_w]
           rfl
          refine pure_ (i := 22) (N := some 59) (v := undef) (a' := ?_) bq96 rfl rfl (qr HT_.out (by kernel_rfl)) (fun _ _ _ h => h) (Or.inr ⟨by rfl, rfl⟩) ?_ ?_
          rotate_left
          ·simp only [Act.put, sq1, sq2, sq3, i64_w, i32_w]
           rfl
          refine pure_ (i := 23) (N := some 60) (v := undef) (a' := ?_) bq97 rfl rfl (qr HT_.out (by kernel_rfl)) (fun _ _ _ h => h) (Or.inr ⟨by rfl, rfl⟩) ?_ ?_
          rotate_left
          ·simp only [Act.put, sq1, sq2, sq3, i64_w, i32_w]
           rfl
          refine pure_ (i := 24) (N := some 61) (v := undef) (a' := ?_) bq98 rfl rfl (qr HT_.out (by kernel_rfl)) (fun _ _ _ h => h) (Or.inr ⟨by rfl, rfl⟩) ?_ ?_
          rotate_left
          ·simp only [Act.put, sq1, sq2, sq3, i64_w, i32_w]
           rfl
          refine pure_ (i := 25) (N := some 62) (v := undef) (a' := ?_) bq99 rfl rfl (qr HT_.out (by kernel_rfl)) (fun _ _ _ h => h) (Or.inr ⟨by rfl, rfl⟩) ?_ ?_
          rotate_left
          ·simp only [Act.put, sq1, sq2, sq3, i64_w, i32_w]
           rfl
          refine pure_ (i := 26) (N := some 63) (v := undef) (a' := ?_) bq100 rfl rfl (qr HT_.out (by kernel_rfl)) (fun _ _ _ h => h) (Or.inr ⟨by rfl, rfl⟩) ?_ ?_
          rotate_left
          ·simp only [Act.put, sq1, sq2, sq3, i64_w, i32_w]
           rfl
          refine pure_ (i := 27) (N := some 64) (v := undef) (a' := ?_) bq101 rfl rfl (qr HT_.out (by kernel_rfl)) (fun _ _ _ h => h) (Or.inr ⟨by rfl, rfl⟩) ?_ ?_
          rotate_left
          ·simp only [Act.put, sq1, sq2, sq3, i64_w, i32_w]
           rfl
          refine pure_ (i := 28) (N := some 65) (v := undef) (a' := ?_) bq102 rfl rfl (qr HT_.out (by kernel_rfl)) (fun _ _ _ h => h) (Or.inr ⟨by rfl, rfl⟩) ?_ ?_
          rotate_left
          ·simp only [Act.put, sq1, sq2, sq3, i64_w, i32_w]
           rfl
          refine pure_ (i := 29) (N := some 66) (v := undef) (a' := ?_) bq103 rfl rfl (qr HT_.out (by kernel_rfl)) (fun _ _ _ h => h) (Or.inr ⟨by rfl, rfl⟩) ?_ ?_
          rotate_left
          ·simp only [Act.put, sq1, sq2, sq3, i64_w, i32_w]
           rfl
          refine pure_ (i := 30) (N := some 67) (v := undef) (a' := ?_) bq104 rfl rfl (qr HT_.out (by kernel_rfl)) (fun _ _ _ h => h) (Or.inr ⟨by rfl, rfl⟩) ?_ ?_
          rotate_left
          ·simp only [Act.put, sq1, sq2, sq3, i64_w, i32_w]
           rfl
          refine pure_ (i := 31) (N := some 68) (v := undef) (a' := ?_) bq105 rfl rfl (qr HT_.out (by kernel_rfl)) (fun _ _ _ h => h) (Or.inr ⟨by rfl, rfl⟩) ?_ ?_
          rotate_left
          ·simp only [Act.put, sq1, sq2, sq3, i64_w, i32_w]
           rfl
          refine pure_ (i := 32) (N := some 69) (v := undef) (a' := ?_) bq106 rfl rfl (qr HT_.out (by kernel_rfl)) (fun _ _ _ h => h) (Or.inr ⟨by rfl, rfl⟩) ?_ ?_
          rotate_left
          ·simp only [Act.put, sq1, sq2, sq3, i64_w, i32_w]
           rfl
          refine pure_ (i := 33) (N := some 70) (v := undef) (a' := ?_) bq107 rfl rfl (qr HT_.out (by kernel_rfl)) (fun _ _ _ h => h) (Or.inr ⟨by rfl, rfl⟩) ?_ ?_
          rotate_left
          ·simp only [Act.put, sq1, sq2, sq3, i64_w, i32_w]
           rfl
          refine pure_ (i := 34) (N := some 71) (v := undef) (a' := ?_) bq108 rfl rfl (qr HT_.out (by kernel_rfl)) (fun _ _ _ h => h) (Or.inr ⟨by rfl, rfl⟩) ?_ ?_
          rotate_left
          ·simp only [Act.put, sq1, sq2, sq3, i64_w, i32_w]
           rfl
          refine pure_ (i := 35) (N := some 72) (v := undef) (a' := ?_) bq109 rfl rfl (qr HT_.out (by kernel_rfl)) (fun _ _ _ h => h) (Or.inr ⟨by rfl, rfl⟩) ?_ ?_
          rotate_left
          ·simp only [Act.put, sq1, sq2, sq3, i64_w, i32_w]
           rfl
          refine pure_ (i := 36) (N := some 73) (v := ?_) (a' := ?_) bq110 rfl rfl (qr HT_.out (by kernel_rfl)) (fun _ _ _ h => h) (Or.inl ⟨by rfl, ?_⟩) ?_ ?_
          rotate_left
          ·intro w'
           go_simp
           with_reducible rfl
          rotate_left
          ·simp only [Act.put, sq1, sq2, sq3, i64_w, i32_w]
           rfl
          refine done_ (done_of HT_.out (by kernel_rfl)) ?_
          try go_wp2
          go_meet
          case rel => exact ⟨_, (true), yq21, H', ⟨by have := HJ1.out; have := HK2.out; first | omega | exact Nat.le_refl _⟩, ⟨by (with_reducible repeat (first | refine qc ?_ _ | refine qf ?_ | refine qa ?_ _)); exact BK101.out⟩, ⟨by repeat (first | (with_reducible first | exact HB.out | apply qi | apply qd | apply qh | refine qg ?_ GE101.out) | exact HB.out)⟩⟩
        ·rw [if_neg c18] at H
         exact absurd H (by simp)
       case rest =>
        clear HC16
        try clear c1
        try clear p1
        try clear q1
        try clear hx1
        try clear c2
        try clear p2
        try clear c6
        try clear p10
        try clear q10
        try clear hx10
        try clear c18
        try clear c20
        try clear c24
        try clear c24b0
        try clear c26
        try clear c27
        try clear hx105_0
        try clear hx105_1
        try clear hx105_2
        try clear hx105_3
        try clear hx105_4
        try clear hx107_0
        try clear hx107_1
        try clear hx107_2
        try clear hx107_3
        try clear hx107_4
        try clear p105
        try clear p107
        try clear q105
        try clear q107
        obtain ⟨kq, x73_15, rfl, HA, HJ15, BK101, HB⟩ := hcut
        cases kq with
        | zero => exact absurd HA.out (by simp [spec_VersionOk.j2])
        | succ kj15 =>
         have H := HA.out
         clear HA
         simp only [spec_VersionOk.j2] at H
         by_cases c36 : x73_15 = true
         ·subst c36
          have H1 : (some false) = some r := by rw [if_pos rfl] at H; exact H
          clear H
          have H := H1
          clear H1
          obtain rfl := Option.some.inj H
          go_wp2
          go_ret
          exact ⟨by first | rfl | (simp [qw, qv] <;> rfl) | (simp [*, qw, qv] <;> rfl), by repeat (first | (with_reducible first | exact HB.out | apply qi | apply qd | apply qh | refine qg ?_ GE101.out) | exact HB.out)⟩
         ·replace c36 := Bool.eq_false_iff.mpr c36
          subst c36
          have H1 : (spec_VersionOk.l1 kj15 x3_2 0 l0_0 a0_1 a0_2 a0_3) = some r := by rw [if_neg (show ¬ (false = true) by decide)] at H; exact H
          clear H
          have H := H1
          clear H1
          have H' := Qz.mk H
          clear H
          go_wp2
          go_loopg [4] kj15 (fun kq v4 w' => ∃ (x4_4 : Int), v4 = .int .i64 x4_4 ∧ Qz (spec_VersionOk.l1 kq x3_2 x4_4 l0_0 a0_1 a0_2 a0_3 = some r) ∧ Qz (kq ≤ kj15) ∧ Qz (w'.heap[gb101]? = some (.cells #[(.slice A0_0 l0_0.length c0_0), .int .i64 a0_1, .int .i64 a0_2, .int .i64 a0_3] 32 (0, 0))) ∧ Qz (Below w.heap.size w w'))
          case atStart => exact ⟨(0), yq21, H', ⟨Nat.le_refl _⟩, ⟨by (with_reducible repeat (first | refine qc ?_ _ | refine qf ?_ | refine qa ?_ _)); exact BK101.out⟩, ⟨by repeat (first | (with_reducible first | exact HB.out | apply qi | apply qd | apply qh | refine qg ?_ GE101.out) | exact HB.out)⟩⟩
          case round =>
           clear H'
           try clear c1
           try clear p1
           try clear q1
           try clear hx1
           try clear c2
           try clear p2
           try clear c3
           try clear c6
           try clear p10
           try clear q10
           try clear hx10
           try clear c18
           try clear c20
           try clear c24
           try clear c24b0
           try clear c26
           try clear c27
           try clear c36
           try clear hx105_0
           try clear hx105_1
           try clear hx105_2
           try clear hx105_3
           try clear hx105_4
           try clear hx107_0
           try clear hx107_1
           try clear hx107_2
           try clear hx107_3
           try clear hx107_4
           try clear p1
           try clear p10
           try clear p105
           try clear p107
           try clear p2
           try clear q1
           try clear q10
           try clear q105
           try clear q107
           obtain ⟨x4_4, rfl, HA, HK4, BK101, HB⟩ := hrel
           cases gk with
           | zero => exact absurd HA.out (by simp [spec_VersionOk.l1])
           | succ k4 =>
            have H := HA.out
            clear HA
            simp only [spec_VersionOk.l1] at H
            by_cases c37 : x4_4 < x3_2
            ·rw [if_pos c37] at H
             have c37b0 : decide (x4_4 < x3_2) = true := decide_eq_true c37
             clear c37
             by_cases c38 : 0 ≤ x4_4
             ·rw [if_pos c38] at H
              have c38b0 : decide (0 ≤ x4_4) = true := decide_eq_true c38
              clear c38
              by_cases c39 : x4_4 < (l0_0.length : Int)
              ·rw [if_pos c39] at H
               have c39b0 : decide (x4_4 < (l0_0.length : Int)) = true := decide_eq_true c39
               clear c39
               by_cases c40 : 0 ≤ x3_2
               ·rw [if_pos c40] at H
                have c40b0 : decide (0 ≤ x3_2) = true := decide_eq_true c40
                clear c40
                by_cases c41 : x3_2 < (l0_0.length : Int)
                ·rw [if_pos c41] at H
                 have c41b0 : decide (x3_2 < (l0_0.length : Int)) = true := decide_eq_true c41
                 clear c41
                 by_cases c42 : ((qk l0_0 x4_4).f0) = ((qk l0_0 x3_2).f0)
                 ·rw [if_pos c42] at H
                  have c42b0 : (((qk l0_0 x4_4).f0) == ((qk l0_0 x3_2).f0)) = true := beq_iff_eq.mpr c42
                  have c42b1 : (((qk l0_0 x4_4).f0) != ((qk l0_0 x3_2).f0)) = false := bne_eq_false_iff_eq.mpr c42
                  clear c42
                  obtain rfl := Option.some.inj H
                  try go_wp2
                  replace BK101 := Qz.mk (qf BK101.out)
                  replace HB := Qz.mk (qh HB.out)
                  have p111 : 0 ≤ (x4_4 : Int) := of_decide_eq_true yq19
                  have q111 : x4_4 < (l0_0.length : Int) := of_decide_eq_true yq19
                  obtain ⟨ad111, e111, hx111_0, hx111_1, hx111_2, hx111_3, hx111_4⟩ := at_T66 HR0_0.out x4_4 p111 q111
                  have hw111_4 := hx111_4
                  have hw111_3 := hx111_3
                  have hw111_2 := hx111_2
                  have hw111_1 := hx111_1
                  have hw111_0 := hx111_0
                  cases e111
                  replace hx111_0 := (HB.out.cell (World.block_lt_of_cell? w _ hx111_0)).trans hx111_0
                  replace hx111_1 := (HB.out.cell (World.block_lt_of_cell? w _ hx111_1)).trans hx111_1
                  replace hx111_2 := (HB.out.cell (World.block_lt_of_cell? w _ hx111_2)).trans hx111_2
                  replace hx111_3 := (HB.out.cell (World.block_lt_of_cell? w _ hx111_3)).trans hx111_3
                  replace hx111_4 := (HB.out.cell (World.block_lt_of_cell? w _ hx111_4)).trans hx111_4
                  replace p111 := eq_true p111
                  replace q111 := eq_true q111
                  have p112 : 0 ≤ (x3_2 : Int) := of_decide_eq_true yq19
                  have q112 : x3_2 < (l0_0.length : Int) := of_decide_eq_true yq19
                  obtain ⟨ad112, e112, hx112_0, hx112_1, hx112_2, hx112_3, hx112_4⟩ := at_T66 HR0_0.out x3_2 p112 q112
                  have hw112_4 := hx112_4
                  have hw112_3 := hx112_3
                  have hw112_2 := hx112_2
                  have hw112_1 := hx112_1
                  have hw112_0 := hx112_0
                  obtain rfl : ad111 = ad112 := (by injection e112)
                  replace hx112_0 := (HB.out.cell (World.block_lt_of_cell? w _ hx112_0)).trans hx112_0
                  replace hx112_1 := (HB.out.cell (World.block_lt_of_cell? w _ hx112_1)).trans hx112_1
                  replace hx112_2 := (HB.out.cell (World.block_lt_of_cell? w _ hx112_2)).trans hx112_2
                  replace hx112_3 := (HB.out.cell (World.block_lt_of_cell? w _ hx112_3)).trans hx112_3
                  replace hx112_4 := (HB.out.cell (World.block_lt_of_cell? w _ hx112_4)).trans hx112_4
                  replace p112 := eq_true p112
                  replace q112 := eq_true q112
                  refine start_ (n := 13) (S := fun w' => w'.cell? ⟨gb101, 0, none⟩ = some (.slice (some ad111) l0_0.length c0_0) ∧ w'.cell? ⟨gb101, 1, none⟩ = some (.int .i64 a0_1) ∧ w'.cell? ⟨gb101, 2, none⟩ = some (.int .i64 a0_2) ∧ w'.cell? ⟨gb101, 3, none⟩ = some (.int .i64 a0_3) ∧ w'.cell? (ad111.add ((x4_4).toNat * 5)) = some (.int .i64 ((qk l0_0 x4_4).f0)) ∧ w'.cell? ⟨(ad111.add ((x4_4).toNat * 5)).block, (ad111.add ((x4_4).toNat * 5)).off + 1, none⟩ = some (.int .i64 ((qk l0_0 x4_4).f1)) ∧ w'.cell? ⟨(ad111.add ((x4_4).toNat * 5)).block, (ad111.add ((x4_4).toNat * 5)).off + 2, none⟩ = some (.string ((qk l0_0 x4_4).f2)) ∧ w'.cell? ⟨(ad111.add ((x4_4).toNat * 5)).block, (ad111.add ((x4_4).toNat * 5)).off + 3, none⟩ = some (.string ((qk l0_0 x4_4).f3)) ∧ w'.cell? ⟨(ad111.add ((x4_4).toNat * 5)).block, (ad111.add ((x4_4).toNat * 5)).off + 4, none⟩ = some (.int .i64 ((qk l0_0 x4_4).f4)) ∧ w'.cell? (ad111.add ((x3_2).toNat * 5)) = some (.int .i64 ((qk l0_0 x3_2).f0)) ∧ w'.cell? ⟨(ad111.add ((x3_2).toNat * 5)).block, (ad111.add ((x3_2).toNat * 5)).off + 1, none⟩ = some (.int .i64 ((qk l0_0 x3_2).f1)) ∧ w'.cell? ⟨(ad111.add ((x3_2).toNat * 5)).block, (ad111.add ((x3_2).toNat * 5)).off + 2, none⟩ = some (.string ((qk l0_0 x3_2).f2)) ∧ w'.cell? ⟨(ad111.add ((x3_2).toNat * 5)).block, (ad111.add ((x3_2).toNat * 5)).off + 3, none⟩ = some (.string ((qk l0_0 x3_2).f3)) ∧ w'.cell? ⟨(ad111.add ((x3_2).toNat * 5)).block, (ad111.add ((x3_2).toNat * 5)).off + 4, none⟩ = some (.int .i64 ((qk l0_0 x3_2).f4))) (ds := []) bq3 (by kernel_rfl) rfl rfl ⟨(qb BK101.out 0).trans rfl, (qb BK101.out 1).trans rfl, (qb BK101.out 2).trans rfl, (qb BK101.out 3).trans rfl, ((HB.out.cell (World.block_lt_of_cell? w _ hw111_0)).trans hw111_0), ((HB.out.cell (World.block_lt_of_cell? w _ hw111_1)).trans hw111_1), ((HB.out.cell (World.block_lt_of_cell? w _ hw111_2)).trans hw111_2), ((HB.out.cell (World.block_lt_of_cell? w _ hw111_3)).trans hw111_3), ((HB.out.cell (World.block_lt_of_cell? w _ hw111_4)).trans hw111_4), ((HB.out.cell (World.block_lt_of_cell? w _ hw112_0)).trans hw112_0), ((HB.out.cell (World.block_lt_of_cell? w _ hw112_1)).trans hw112_1), ((HB.out.cell (World.block_lt_of_cell? w _ hw112_2)).trans hw112_2), ((HB.out.cell (World.block_lt_of_cell? w _ hw112_3)).trans hw112_3), ((HB.out.cell (World.block_lt_of_cell? w _ hw112_4)).trans hw112_4)⟩ (fun hHeld => ?_); refine with_tabW spec_VersionOk.tab11 spec_VersionOk.bits11 (fun HT_ HW_ => ?_)
                  generalize wr.drew = w43 at BK101 HB hx111_0 hx111_1 hx111_2 hx111_3 hx111_4 hx112_0 hx112_1 hx112_2 hx112_3 hx112_4 hHeld ⊢
                  refine pure_ (i := 0) (N := some 79) (v := ?_) (a' := ?_) bq10 rfl rfl (qr HT_.out (by kernel_rfl)) (fun _ _ _ h => h) (Or.inl ⟨by rfl, ?_⟩) ?_ ?_
                  rotate_left
                  ·intro w'
                   go_simp
                   with_reducible rfl
                  rotate_left
                  ·simp only [Act.put, sq1, sq2, sq3, i64_w, i32_w]
                   rfl
                  refine pure_ (i := 2) (N := some 81) (v := ?_) (a' := ?_) bq13 rfl rfl (qr HT_.out (by kernel_rfl)) (fun _ _ _ h => h) (Or.inl ⟨by rfl, ?_⟩) ?_ ?_
                  rotate_left
                  ·intro w'
                   go_simp
                   with_reducible rfl
                  rotate_left
                  ·simp only [Act.put, sq1, sq2, sq3, i64_w, i32_w]
                   rfl
                  refine pure_ (i := 6) (N := some 85) (v := ?_) (a' := ?_) bq15 rfl rfl (qr HT_.out (by kernel_rfl)) (fun _ _ _ h => h) (Or.inl ⟨by rfl, ?_⟩) ?_ ?_
                  rotate_left
                  ·intro w'
                   go_simp
                   with_reducible rfl
                  rotate_left
                  ·simp only [Act.put, sq1, sq2, sq3, i64_w, i32_w]
                   rfl
                  refine pure_ (i := 8) (N := some 87) (v := ?_) (a' := ?_) bq16 rfl rfl (qr HT_.out (by kernel_rfl)) (fun _ _ _ h => h) (Or.inl ⟨by rfl, ?_⟩) ?_ ?_
                  rotate_left
                  ·intro w'
                   go_simp
                   with_reducible rfl
                  rotate_left
                  ·simp only [Act.put, sq1, sq2, sq3, i64_w, i32_w]
                   rfl
                  refine take_ (i := 1) (N := some 80) (v := ?_) (a' := ?_) bq26 rfl rfl (qb1 HT_.out HW_.out (by kernel_rfl)) (fun _ _ _ h => h) (Or.inl ⟨by rfl, ?_⟩) hHeld ?_ ?_
                  rotate_left
                  ·rintro w' ⟨s0, s1, s2, s3, s4, s5, s6, s7, s8, s9, s10, s11, s12, s13⟩
                   go_simp
                   with_reducible rfl
                  rotate_left
                  ·simp only [Act.put, sq1, sq2, sq3, i64_w, i32_w]
                   rfl
                  refine pure_ (i := 3) (N := some 82) (v := ?_) (a' := ?_) bq32 rfl rfl (qr HT_.out (by kernel_rfl)) (fun _ _ _ h => h) (Or.inl ⟨by rfl, ?_⟩) ?_ ?_
                  rotate_left
                  ·intro w'
                   go_simp
                   with_reducible rfl
                  rotate_left
                  ·simp only [Act.put, sq1, sq2, sq3, i64_w, i32_w]
                   rfl
                  refine pure_ (i := 4) (N := some 83) (v := ?_) (a' := ?_) bq38 rfl rfl (qr HT_.out (by kernel_rfl)) (fun _ _ _ h => h) (Or.inl ⟨by rfl, ?_⟩) ?_ ?_
                  rotate_left
                  ·intro w'
                   go_simp
                   with_reducible rfl
                  rotate_left
                  ·simp only [Act.put, sq1, sq2, sq3, i64_w, i32_w]
                   rfl
                  refine take_ (i := 5) (N := some 84) (v := ?_) (a' := ?_) bq50 rfl rfl (qb1 HT_.out HW_.out (by kernel_rfl)) (fun _ _ _ h => h) (Or.inl ⟨by rfl, ?_⟩) hHeld ?_ ?_
                  rotate_left
                  ·rintro w' ⟨s0, s1, s2, s3, s4, s5, s6, s7, s8, s9, s10, s11, s12, s13⟩
                   go_simp
                   with_reducible rfl
                  rotate_left
                  ·simp only [Act.put, sq1, sq2, sq3, i64_w, i32_w]
                   rfl
                  refine take_ (i := 7) (N := some 86) (v := ?_) (a' := ?_) bq61 rfl rfl (qb1 HT_.out HW_.out (by kernel_rfl)) (fun _ _ _ h => h) (Or.inl ⟨by rfl, ?_⟩) hHeld ?_ ?_
                  rotate_left
                  ·rintro w' ⟨s0, s1, s2, s3, s4, s5, s6, s7, s8, s9, s10, s11, s12, s13⟩
                   go_simp
                   with_reducible rfl
                  rotate_left
                  ·simp only [Act.put, sq1, sq2, sq3, i64_w, i32_w]
                   rfl
                  refine pure_ (i := 9) (N := some 88) (v := ?_) (a' := ?_) bq68 rfl rfl (qr HT_.out (by kernel_rfl)) (fun _ _ _ h => h) (Or.inl ⟨by rfl, ?_⟩) ?_ ?_
                  rotate_left
                  ·intro w'
                   go_simp
                   with_reducible rfl
                  rotate_left
                  ·simp only [Act.put, sq1, sq2, sq3, i64_w, i32_w]
                   rfl
                  refine pure_ (i := 10) (N := some 89) (v := ?_) (a' := ?_) bq73 rfl rfl (qr HT_.out (by kernel_rfl)) (fun _ _ _ h => h) (Or.inl ⟨by rfl, ?_⟩) ?_ ?_
                  rotate_left
                  ·intro w'
                   go_simp
                   with_reducible rfl
                  rotate_left
                  ·simp only [Act.put, sq1, sq2, sq3, i64_w, i32_w]
                   rfl
                  refine take_ (i := 11) (N := some 90) (v := ?_) (a' := ?_) bq78 rfl rfl (qb1 HT_.out HW_.out (by kernel_rfl)) (fun _ _ _ h => h) (Or.inl ⟨by rfl, ?_⟩) hHeld ?_ ?_
                  rotate_left
                  ·rintro w' ⟨s0, s1, s2, s3, s4, s5, s6, s7, s8, s9, s10, s11, s12, s13⟩
                   go_simp
                   with_reducible rfl
                  rotate_left
                  ·simp only [Act.put, sq1, sq2, sq3, i64_w, i32_w]
                   rfl
                  refine pure_ (i := 12) (N := some 91) (v := ?_) (a' := ?_) bq113 rfl rfl (qr HT_.out (by kernel_rfl)) (fun _ _ _ h => h) (Or.inl ⟨by rfl, ?_⟩) ?_ ?_
                  rotate_left
                  ·intro w'
                   go_simp
                   with_reducible rfl
                  rotate_left
                  ·simp only [Act.put, sq1, sq2, sq3, i64_w, i32_w]
                   rfl
                  refine done_ (done_of HT_.out (by kernel_rfl)) ?_
                  try go_wp2
                  go_ret
                  exact ⟨by first | rfl | (simp [qw, qv] <;> rfl) | (simp [*, qw, qv] <;> rfl), by repeat (first | (with_reducible first | exact HB.out | apply qi | apply qd | apply qh | refine qg ?_ GE101.out) | exact HB.out)⟩
                 ·rw [if_neg c42] at H
                  have c42b0 : (((qk l0_0 x4_4).f0) == ((qk l0_0 x3_2).f0)) = false := beq_eq_false_iff_ne.mpr c42
                  have c42b1 : (((qk l0_0 x4_4).f0) != ((qk l0_0 x3_2).f0)) = true := bne_iff_ne.mpr c42
                  have H' := Qz.mk H
                  clear H
                  try go_wp2
                  replace BK101 := Qz.mk (qf BK101.out)
                  replace HB := Qz.mk (qh HB.out)
                  have p111 : 0 ≤ (x4_4 : Int) := of_decide_eq_true yq19
                  have q111 : x4_4 < (l0_0.length : Int) := of_decide_eq_true yq19
                  obtain ⟨ad111, e111, hx111_0, hx111_1, hx111_2, hx111_3, hx111_4⟩ := at_T66 HR0_0.out x4_4 p111 q111
                  have hw111_4 := hx111_4
                  have hw111_3 := hx111_3
                  have hw111_2 := hx111_2
                  have hw111_1 := hx111_1
                  have hw111_0 := hx111_0
                  cases e111
                  replace hx111_0 := (HB.out.cell (World.block_lt_of_cell? w _ hx111_0)).trans hx111_0
                  replace hx111_1 := (HB.out.cell (World.block_lt_of_cell? w _ hx111_1)).trans hx111_1
                  replace hx111_2 := (HB.out.cell (World.block_lt_of_cell? w _ hx111_2)).trans hx111_2
                  replace hx111_3 := (HB.out.cell (World.block_lt_of_cell? w _ hx111_3)).trans hx111_3
                  replace hx111_4 := (HB.out.cell (World.block_lt_of_cell? w _ hx111_4)).trans hx111_4
                  replace p111 := eq_true p111
                  replace q111 := eq_true q111
                  have p112 : 0 ≤ (x3_2 : Int) := of_decide_eq_true yq19
                  have q112 : x3_2 < (l0_0.length : Int) := of_decide_eq_true yq19
                  obtain ⟨ad112, e112, hx112_0, hx112_1, hx112_2, hx112_3, hx112_4⟩ := at_T66 HR0_0.out x3_2 p112 q112
                  have hw112_4 := hx112_4
                  have hw112_3 := hx112_3
                  have hw112_2 := hx112_2
                  have hw112_1 := hx112_1
                  have hw112_0 := hx112_0
                  obtain rfl : ad111 = ad112 := (by injection e112)
                  replace hx112_0 := (HB.out.cell (World.block_lt_of_cell? w _ hx112_0)).trans hx112_0
                  replace hx112_1 := (HB.out.cell (World.block_lt_of_cell? w _ hx112_1)).trans hx112_1
                  replace hx112_2 := (HB.out.cell (World.block_lt_of_cell? w _ hx112_2)).trans hx112_2
                  replace hx112_3 := (HB.out.cell (World.block_lt_of_cell? w _ hx112_3)).trans hx112_3
                  replace hx112_4 := (HB.out.cell (World.block_lt_of_cell? w _ hx112_4)).trans hx112_4
                  replace p112 := eq_true p112
                  replace q112 := eq_true q112
                  refine start_ (n := 13) (S := fun w' => w'.cell? ⟨gb101, 0, none⟩ = some (.slice (some ad111) l0_0.length c0_0) ∧ w'.cell? ⟨gb101, 1, none⟩ = some (.int .i64 a0_1) ∧ w'.cell? ⟨gb101, 2, none⟩ = some (.int .i64 a0_2) ∧ w'.cell? ⟨gb101, 3, none⟩ = some (.int .i64 a0_3) ∧ w'.cell? (ad111.add ((x4_4).toNat * 5)) = some (.int .i64 ((qk l0_0 x4_4).f0)) ∧ w'.cell? ⟨(ad111.add ((x4_4).toNat * 5)).block, (ad111.add ((x4_4).toNat * 5)).off + 1, none⟩ = some (.int .i64 ((qk l0_0 x4_4).f1)) ∧ w'.cell? ⟨(ad111.add ((x4_4).toNat * 5)).block, (ad111.add ((x4_4).toNat * 5)).off + 2, none⟩ = some (.string ((qk l0_0 x4_4).f2)) ∧ w'.cell? ⟨(ad111.add ((x4_4).toNat * 5)).block, (ad111.add ((x4_4).toNat * 5)).off + 3, none⟩ = some (.string ((qk l0_0 x4_4).f3)) ∧ w'.cell? ⟨(ad111.add ((x4_4).toNat * 5)).block, (ad111.add ((x4_4).toNat * 5)).off + 4, none⟩ = some (.int .i64 ((qk l0_0 x4_4).f4)) ∧ w'.cell? (ad111.add ((x3_2).toNat * 5)) = some (.int .i64 ((qk l0_0 x3_2).f0)) ∧ w'.cell? ⟨(ad111.add ((x3_2).toNat * 5)).block, (ad111.add ((x3_2).toNat * 5)).off + 1, none⟩ = some (.int .i64 ((qk l0_0 x3_2).f1)) ∧ w'.cell? ⟨(ad111.add ((x3_2).toNat * 5)).block, (ad111.add ((x3_2).toNat * 5)).off + 2, none⟩ = some (.string ((qk l0_0 x3_2).f2)) ∧ w'.cell? ⟨(ad111.add ((x3_2).toNat * 5)).block, (ad111.add ((x3_2).toNat * 5)).off + 3, none⟩ = some (.string ((qk l0_0 x3_2).f3)) ∧ w'.cell? ⟨(ad111.add ((x3_2).toNat * 5)).block, (ad111.add ((x3_2).toNat * 5)).off + 4, none⟩ = some (.int .i64 ((qk l0_0 x3_2).f4))) (ds := []) bq3 (by kernel_rfl) rfl rfl ⟨(qb BK101.out 0).trans rfl, (qb BK101.out 1).trans rfl, (qb BK101.out 2).trans rfl, (qb BK101.out 3).trans rfl, ((HB.out.cell (World.block_lt_of_cell? w _ hw111_0)).trans hw111_0), ((HB.out.cell (World.block_lt_of_cell? w _ hw111_1)).trans hw111_1), ((HB.out.cell (World.block_lt_of_cell? w _ hw111_2)).trans hw111_2), ((HB.out.cell (World.block_lt_of_cell? w _ hw111_3)).trans hw111_3), ((HB.out.cell (World.block_lt_of_cell? w _ hw111_4)).trans hw111_4), ((HB.out.cell (World.block_lt_of_cell? w _ hw112_0)).trans hw112_0), ((HB.out.cell (World.block_lt_of_cell? w _ hw112_1)).trans hw112_1), ((HB.out.cell (World.block_lt_of_cell? w _ hw112_2)).trans hw112_2), ((HB.out.cell (World.block_lt_of_cell? w _ hw112_3)).trans hw112_3), ((HB.out.cell (World.block_lt_of_cell? w _ hw112_4)).trans hw112_4)⟩ (fun hHeld => ?_); refine with_tabW spec_VersionOk.tab11 spec_VersionOk.bits11 (fun HT_ HW_ => ?_)
                  generalize wr.drew = w44 at BK101 HB hx111_0 hx111_1 hx111_2 hx111_3 hx111_4 hx112_0 hx112_1 hx112_2 hx112_3 hx112_4 hHeld ⊢
                  refine pure_ (i := 0) (N := some 79) (v := ?_) (a' := ?_) bq10 rfl rfl (qr HT_.out (by kernel_rfl)) (fun _ _ _ h => h) (Or.inl ⟨by rfl, ?_⟩) ?_ ?_
                  rotate_left
                  ·intro w'
                   go_simp
                   with_reducible rfl
                  rotate_left
                  ·simp only [Act.put, sq1, sq2, sq3, i64_w, i32_w]
                   rfl
                  refine pure_ (i := 2) (N := some 81) (v := ?_) (a' := ?_) bq13 rfl rfl (qr HT_.out (by kernel_rfl)) (fun _ _ _ h => h) (Or.inl ⟨by rfl, ?_⟩) ?_ ?_
                  rotate_left
                  ·intro w'
                   go_simp
                   with_reducible rfl
                  rotate_left
                  ·simp only [Act.put, sq1, sq2, sq3, i64_w, i32_w]
                   rfl
                  refine pure_ (i := 6) (N := some 85) (v := ?_) (a' := ?_) bq15 rfl rfl (qr HT_.out (by kernel_rfl)) (fun _ _ _ h => h) (Or.inl ⟨by rfl, ?_⟩) ?_ ?_
                  rotate_left
                  ·intro w'
                   go_simp
                   with_reducible rfl
                  rotate_left
                  ·simp only [Act.put, sq1, sq2, sq3, i64_w, i32_w]
                   rfl
                  refine pure_ (i := 8) (N := some 87) (v := ?_) (a' := ?_) bq16 rfl rfl (qr HT_.out (by kernel_rfl)) (fun _ _ _ h => h) (Or.inl ⟨by rfl, ?_⟩) ?_ ?_
                  rotate_left
                  ·intro w'
                   go_simp
                   with_reducible rfl
                  rotate_left
                  ·simp only [Act.put, sq1, sq2, sq3, i64_w, i32_w]
                   rfl
                  refine take_ (i := 1) (N := some 80) (v := ?_) (a' := ?_) bq26 rfl rfl (qb1 HT_.out HW_.out (by kernel_rfl)) (fun _ _ _ h => h) (Or.inl ⟨by rfl, ?_⟩) hHeld ?_ ?_
                  rotate_left
                  ·rintro w' ⟨s0, s1, s2, s3, s4, s5, s6, s7, s8, s9, s10, s11, s12, s13⟩
                   go_simp
                   with_reducible rfl
                  rotate_left
                  ·simp only [Act.put, sq1, sq2, sq3, i64_w, i32_w]
                   rfl
                  refine pure_ (i := 3) (N := some 82) (v := ?_) (a' := ?_) bq32 rfl rfl (qr HT_.out (by kernel_rfl)) (fun _ _ _ h => h) (Or.inl ⟨by rfl, ?_⟩) ?_ ?_
                  rotate_left
                  ·intro w'
                   go_simp
                   with_reducible rfl
                  rotate_left
                  ·simp only [Act.put, sq1, sq2, sq3, i64_w, i32_w]
                   rfl
                  refine pure_ (i := 4) (N := some 83) (v := ?_) (a' := ?_) bq38 rfl rfl (qr HT_.out (by kernel_rfl)) (fun _ _ _ h => h) (Or.inl ⟨by rfl, ?_⟩) ?_ ?_
                  rotate_left
                  ·intro w'
                   go_simp
                   with_reducible rfl
                  rotate_left
                  ·simp only [Act.put, sq1, sq2, sq3, i64_w, i32_w]
                   rfl
                  refine take_ (i := 5) (N := some 84) (v := ?_) (a' := ?_) bq50 rfl rfl (qb1 HT_.out HW_.out (by kernel_rfl)) (fun _ _ _ h => h) (Or.inl ⟨by rfl, ?_⟩) hHeld ?_ ?_
                  rotate_left
                  ·rintro w' ⟨s0, s1, s2, s3, s4, s5, s6, s7, s8, s9, s10, s11, s12, s13⟩
                   go_simp
                   with_reducible rfl
                  rotate_left
                  ·simp only [Act.put, sq1, sq2, sq3, i64_w, i32_w]
                   rfl
                  refine take_ (i := 7) (N := some 86) (v := ?_) (a' := ?_) bq61 rfl rfl (qb1 HT_.out HW_.out (by kernel_rfl)) (fun _ _ _ h => h) (Or.inl ⟨by rfl, ?_⟩) hHeld ?_ ?_
                  rotate_left
                  ·rintro w' ⟨s0, s1, s2, s3, s4, s5, s6, s7, s8, s9, s10, s11, s12, s13⟩
                   go_simp
                   with_reducible rfl
                  rotate_left
                  ·simp only [Act.put, sq1, sq2, sq3, i64_w, i32_w]
                   rfl
                  refine pure_ (i := 9) (N := some 88) (v := ?_) (a' := ?_) bq68 rfl rfl (qr HT_.out (by kernel_rfl)) (fun _ _ _ h => h) (Or.inl ⟨by rfl, ?_⟩) ?_ ?_
                  rotate_left
                  ·intro w'
                   go_simp
                   with_reducible rfl
                  rotate_left
                  ·simp only [Act.put, sq1, sq2, sq3, i64_w, i32_w]
                   rfl
                  refine pure_ (i := 10) (N := some 89) (v := ?_) (a' := ?_) bq73 rfl rfl (qr HT_.out (by kernel_rfl)) (fun _ _ _ h => h) (Or.inl ⟨by rfl, ?_⟩) ?_ ?_
                  rotate_left
                  ·intro w'
                   go_simp
                   with_reducible rfl
                  rotate_left
                  ·simp only [Act.put, sq1, sq2, sq3, i64_w, i32_w]
                   rfl
                  refine take_ (i := 11) (N := some 90) (v := ?_) (a' := ?_) bq78 rfl rfl (qb1 HT_.out HW_.out (by kernel_rfl)) (fun _ _ _ h => h) (Or.inl ⟨by rfl, ?_⟩) hHeld ?_ ?_
                  rotate_left
                  ·rintro w' ⟨s0, s1, s2, s3, s4, s5, s6, s7, s8, s9, s10, s11, s12, s13⟩
                   go_simp
                   with_reducible rfl
                  rotate_left
                  ·simp only [Act.put, sq1, sq2, sq3, i64_w, i32_w]
                   rfl
                  refine pure_ (i := 12) (N := some 91) (v := ?_) (a' := ?_) bq113 rfl rfl (qr HT_.out (by kernel_rfl)) (fun _ _ _ h => h) (Or.inl ⟨by rfl, ?_⟩) ?_ ?_
                  rotate_left
                  ·intro w'
                   go_simp
                   with_reducible rfl
                  rotate_left
                  ·simp only [Act.put, sq1, sq2, sq3, i64_w, i32_w]
                   rfl
                  refine done_ (done_of HT_.out (by kernel_rfl)) ?_
                  try go_wp2
                  go_roundg k4
                  case measure => have := HJ1.out; have := HK2.out; have := HJ15.out; have := HK4.out; omega
                  case rel => exact ⟨(wrap64 (x4_4 + 1)), yq21, H', ⟨by have := HJ1.out; have := HK2.out; have := HJ15.out; have := HK4.out; omega⟩, ⟨by (with_reducible repeat (first | refine qc ?_ _ | refine qf ?_ | refine qa ?_ _)); exact BK101.out⟩, ⟨by repeat (first | (with_reducible first | exact HB.out | apply qi | apply qd | apply qh | refine qg ?_ GE101.out) | exact HB.out)⟩⟩
                ·rw [if_neg c41] at H
                 exact absurd H (by simp)
               ·rw [if_neg c40] at H
                exact absurd H (by simp)
              ·rw [if_neg c39] at H
               exact absurd H (by simp)
             ·rw [if_neg c38] at H
              exact absurd H (by simp)
            ·rw [if_neg c37] at H
             have c37b0 : decide (x4_4 < x3_2) = false := decide_eq_false c37
             clear c37
             have H' := Qz.mk H
             clear H
             go_wp2
             go_roundg k4
             case measure => have := HJ1.out; have := HK2.out; have := HJ15.out; have := HK4.out; omega
             case rel => exact ⟨(wrap64 (x3_2 + 1)), yq21, H', ⟨by have := HJ1.out; have := HK2.out; have := HJ15.out; have := HK4.out; omega⟩, ⟨by (with_reducible repeat (first | refine qc ?_ _ | refine qf ?_ | refine qa ?_ _)); exact BK101.out⟩, ⟨by repeat (first | (with_reducible first | exact HB.out | apply qi | apply qd | apply qh | refine qg ?_ GE101.out) | exact HB.out)⟩⟩
      ·rw [if_neg c15] at H
       have c15b0 : decide (x3_2 < (l0_0.length : Int)) = false := decide_eq_false c15
       clear c15
       obtain rfl := Option.some.inj H
       have hcz45_0 : wr.cell? ⟨gb101, 0, none⟩ = some (.slice A0_0 l0_0.length c0_0) := (qb BK101.out 0).trans rfl
       have hcz45_1 : wr.cell? ⟨gb101, 1, none⟩ = some (.int .i64 a0_1) := (qb BK101.out 1).trans rfl
       have hcz45_2 : wr.cell? ⟨gb101, 2, none⟩ = some (.int .i64 a0_2) := (qb BK101.out 2).trans rfl
       have hcz45_3 : wr.cell? ⟨gb101, 3, none⟩ = some (.int .i64 a0_3) := (qb BK101.out 3).trans rfl
       have hfz45_0 := qe BK101.out 0
       have hfz45_1 := qe BK101.out 1
       have hfz45_2 := qe BK101.out 2
       have hfz45_3 := qe BK101.out 3
       go_wp2
       go_ret
       exact ⟨by first | rfl | (simp [qw, qv] <;> rfl) | (simp [*, qw, qv] <;> rfl), by repeat (first | (with_reducible first | exact HB.out | apply qi | apply qd | apply qh | refine qg ?_ GE101.out) | exact HB.out)⟩
end Go.Proofs.Ytcgejabkjljeeaa.P
end
