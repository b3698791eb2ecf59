/- Proved: the law FnExactReadVersion of the given program returns true for every input of its Go types and leaves each argument as it was; no condition. (Part 5 of 12.) -/
import Derived.Test.YtcgejabkjljeeaaCFnExactReadVersion3
section
namespace Go.Proofs.Ytcgejabkjljeeaa.P
open Go.RowKit Go.Proofs.YtcgejabkjljeeaaW.PrintWords Go.Proofs.YtcgejabkjljeeaaW.PrintLast Go.Proofs.YtcgejabkjljeeaaW.PrintMore
attribute [local go_sem] str_gtr str_leq str_geq max2_int min2_int max_two min_two qw qv max_four min_four
set_option linter.unusedVariables false
set_option linter.unusedSimpArgs false
mutual
def spec_VersionOk.j0 : Nat → Bool → List (S66) → Int → Int → Int → Option (Bool)
 | 0, _, _, _, _, _ => none
 | k + 1, x29, x102000, x102001, x102002, x102003 => if x29 = true then (some false) else (spec_VersionOk.l0 k 0 x102000 x102001 x102002 x102003)
def spec_VersionOk.l0 : Nat → Int → List (S66) → Int → Int → Int → Option (Bool)
 | 0, _, _, _, _, _ => none
 | k + 1, x3, x102000, x102001, x102002, x102003 => if x3 < (x102000.length : Int) then (if 0 ≤ x3 then ((spec_l12Meta.f ((qk x102000 x3).f0) ((qk x102000 x3).f1) ((qk x102000 x3).f2) ((qk x102000 x3).f3) ((qk x102000 x3).f4)).bind fun t106 => (if t106 = true then (if ((qk x102000 x3).f0) ≥ x102001 then (spec_VersionOk.j2 k x3 true x102000 x102001 x102002 x102003) else (if x3 > 0 then (if 0 ≤ (wrap64 (x3 - 1)) then (if (wrap64 (x3 - 1)) < (x102000.length : Int) then ((spec_l12Ahead.f ((qk x102000 (wrap64 (x3 - 1))).f0) ((qk x102000 (wrap64 (x3 - 1))).f1) ((qk x102000 (wrap64 (x3 - 1))).f2) ((qk x102000 (wrap64 (x3 - 1))).f3) ((qk x102000 (wrap64 (x3 - 1))).f4) ((qk x102000 x3).f0) ((qk x102000 x3).f1) ((qk x102000 x3).f2) ((qk x102000 x3).f3) ((qk x102000 x3).f4)).bind fun t110 => (spec_VersionOk.j2 k x3 (!t110) x102000 x102001 x102002 x102003)) else (none)) else (none)) else (spec_VersionOk.j2 k x3 false x102000 x102001 x102002 x102003))) else (spec_VersionOk.j2 k x3 true x102000 x102001 x102002 x102003))) else (none)) else (some true)
def spec_VersionOk.j2 : Nat → Int → Bool → List (S66) → Int → Int → Int → Option (Bool)
 | 0, _, _, _, _, _, _ => none
 | k + 1, x3, x73, x102000, x102001, x102002, x102003 => if x73 = true then (some false) else (spec_VersionOk.l1 k x3 0 x102000 x102001 x102002 x102003)
def spec_VersionOk.l1 : Nat → Int → Int → List (S66) → Int → Int → Int → Option (Bool)
 | 0, _, _, _, _, _, _ => none
 | k + 1, x3, x4, x102000, x102001, x102002, x102003 => if x4 < x3 then (if 0 ≤ x4 then (if x4 < (x102000.length : Int) then (if 0 ≤ x3 then (if x3 < (x102000.length : Int) then (if ((qk x102000 x4).f0) = ((qk x102000 x3).f0) then (some false) else (spec_VersionOk.l1 k x3 (wrap64 (x4 + 1)) x102000 x102001 x102002 x102003)) else (none)) else (none)) else (none)) else (none)) else (spec_VersionOk.l0 k (wrap64 (x3 + 1)) x102000 x102001 x102002 x102003)
end
def spec_VersionOk.f (k : Nat) (l0_0 : List (S66)) (a0_1 : Int) (a0_2 : Int) (a0_3 : Int) : Option (Bool) := if (l0_0.length : Int) > 30 then (spec_VersionOk.j0 k true l0_0 a0_1 a0_2 a0_3) else ((spec_l1In.f a0_1 1 1000000).bind fun t102 => (if t102 = true then ((spec_l1In.f a0_2 0 1000000000000).bind fun t103 => (if t103 = true then ((spec_l1In.f a0_3 0 (wrap64 (a0_1 - 1))).bind fun t104 => (spec_VersionOk.j0 k (!t104) l0_0 a0_1 a0_2 a0_3)) else (spec_VersionOk.j0 k true l0_0 a0_1 a0_2 a0_3))) else (spec_VersionOk.j0 k true l0_0 a0_1 a0_2 a0_3)))
def spec_VersionOk.T6 : Bool × List (List Nat × List Nat) := (true, [([], []), ([0], [0]), ([], []), ([1, 2], [1, 2]), ([3], [3]), ([4], [4]), ([5], [5]), ([6, 5], [6]), ([7], [7]), ([8, 7], [7, 8]), ([7], [7]), ([9, 10, 7], [7, 9, 10]), ([11, 7], [7, 11]), ([12, 7], [7, 12]), ([7], [7]), ([14, 7], [7, 14]), ([13, 15, 7], [7, 13, 15]), ([7, 16], [7, 16]), ([17, 7], [17]), ([18], [18]), ([19, 18], [18, 19]), ([20, 18, 18], [18, 20]), ([21], [21]), ([22, 21], [21, 22]), ([21], [21]), ([24, 21], [21, 24]), ([23, 25, 21], [21, 23, 25]), ([26, 21], [21, 26]), ([21], [21]), ([28, 21], [21, 28]), ([21], [21]), ([29, 30, 21], [21, 29, 30]), ([31, 21], [21, 31]), ([27, 32, 21, 21], [21, 27, 32]), ([33, 21], [21, 33]), ([21, 34, 18], [18, 21, 34]), ([18, 35], [18, 35])])
def spec_VersionOk.B6 : List Nat := [0, 1, 0, 7, 15, 31, 63, 127, 255, 511, 255, 2047, 4095, 8191, 255, 16639, 65535, 131071, 262143, 524287, 1048575, 2097151, 4194303, 8388607, 4194303, 20971519, 67108863, 134217727, 4194303, 272629759, 4194303, 1883242495, 4030726143, 8589934591, 17179869183, 34359738367, 68719476735]
theorem spec_VersionOk.tab6 : rtab .any (opsOf Try.f26 6) = spec_VersionOk.T6 := by kernel_rfl
theorem spec_VersionOk.bits6 : waitsOk spec_VersionOk.T6.2 spec_VersionOk.B6 = true := by kernel_rfl
def spec_VersionOk.T11 : Bool × List (List Nat × List Nat) := (true, [([], []), ([0], [0]), ([], []), ([1, 2], [1, 2]), ([3], [3]), ([4], [4]), ([], []), ([6], [6]), ([], []), ([7, 8], [7, 8]), ([9], [9]), ([10], [10]), ([5, 11], [5, 11])])
def spec_VersionOk.B11 : List Nat := [0, 1, 0, 7, 15, 31, 0, 64, 0, 448, 960, 1984, 4095]
theorem spec_VersionOk.tab11 : rtab .any (opsOf Try.f26 11) = spec_VersionOk.T11 := by kernel_rfl
theorem spec_VersionOk.bits11 : waitsOk spec_VersionOk.T11.2 spec_VersionOk.B11 = true := by kernel_rfl
set_option maxHeartbeats 8000000 in
set_option maxRecDepth 100000 in
theorem spec_VersionOk.calls (k : Nat) (A0_0 : Option Addr) (c0_0 : Nat) (l0_0 : List (S66)) (a0_1 : Int) (a0_2 : Int) (a0_3 : Int) (r : Bool) (w : World) (hr0_0 : Kd.C k66 w A0_0 l0_0.length l0_0) (hc0_0 : l0_0.length ≤ c0_0) (h : spec_VersionOk.f k l0_0 a0_1 a0_2 a0_3 = some r) :
  Calls Try.prog 26 #[.agg #[.slice A0_0 l0_0.length c0_0, .int .i64 a0_1, .int .i64 a0_2, .int .i64 a0_3]] w fun e w' => e = .returned (.bool r) ∧ Below w.heap.size w w' := by
 have hu32 := Try.underlying32
 have hu66 := Try.underlying66
 have HR0_0 := Qz.mk hr0_0
 have HC0_0 := Qz.mk hc0_0
 clear hr0_0 hc0_0
 have HB := Qz.mk (Below.refl w.heap.size w)
 have H : (if (l0_0.length : Int) > 30 then (spec_VersionOk.j0 k true l0_0 a0_1 a0_2 a0_3) else ((spec_l1In.f a0_1 1 1000000).bind fun t102 => (if t102 = true then ((spec_l1In.f a0_2 0 1000000000000).bind fun t103 => (if t103 = true then ((spec_l1In.f a0_3 0 (wrap64 (a0_1 - 1))).bind fun t104 => (spec_VersionOk.j0 k (!t104) l0_0 a0_1 a0_2 a0_3)) else (spec_VersionOk.j0 k true l0_0 a0_1 a0_2 a0_3))) else (spec_VersionOk.j0 k true l0_0 a0_1 a0_2 a0_3)))) = some r := h
 clear h
 have HC2 := Qz.mk H
 clear H
 go_enter Try.func26, Try.ntmps26
 go_upto_region 1 with (first | ((with_reducible refine gate_dst (N := 1) rfl ?_); refine qx ?hg (N := 1) ?hd (cs := #[.slice A0_0 l0_0.length c0_0, .int .i64 a0_1, .int .i64 a0_2, .int .i64 a0_3]) (t := 32) ?hr ?_; (case hd => rfl); (case hg => rfl); (case hr => first | (go_simp; done) | (go_simp; rfl)); intro gb101 hg w3 hbox hb; have BK101 := Qz.mk (hbox); have GW101 := Qz.mk ((by rw [hg]; exact (qs (by repeat (first | (with_reducible first | exact HB.out | apply qf | apply qa | apply qd) | exact HB.out))) : w.heap.size ≤ gb101)); have GE101 := GW101; replace HB := Qz.mk (qp (by repeat (first | (with_reducible first | exact HB.out | apply qf | apply qa | apply qd) | exact HB.out)) hb); clear hb hbox hg))
 (try simp only [Act.put, sq1, sq2, sq3])
 go_cut [29] (fun v29 wc => ∃ (kq : Nat) (x29_1 : Bool), v29 = .bool x29_1 ∧ Qz (spec_VersionOk.j0 kq x29_1 l0_0 a0_1 a0_2 a0_3 = some r) ∧ Qz (kq ≤ k) ∧ Qz (wc.heap[gb101]? = some (.cells #[(.slice A0_0 l0_0.length c0_0), .int .i64 a0_1, .int .i64 a0_2, .int .i64 a0_3] 32 (0, 0))) ∧ Qz (Below w.heap.size w wc))
 case first =>
  have H := HC2.out
  clear HC2
  by_cases c4 : (l0_0.length : Int) > 30
  ·rw [if_pos c4] at H
   have c4b0 : decide (30 < (l0_0.length : Int)) = true := decide_eq_true c4
   have c4b1 : decide (30 < l0_0.length) = true := decide_eq_true (by omega)
   clear c4
   (first | rw [c4b0] | (simp only [i64_w, i32_w]; rw [c4b0]) | skip)
   have H' := Qz.mk H
   clear H
   have hcz5_0 : w3.cell? ⟨gb101, 0, none⟩ = some (.slice A0_0 l0_0.length c0_0) := (qe BK101.out 0).trans rfl
   have hcz5_1 : w3.cell? ⟨gb101, 1, none⟩ = some (.int .i64 a0_1) := (qe BK101.out 1).trans rfl
   have hcz5_2 : w3.cell? ⟨gb101, 2, none⟩ = some (.int .i64 a0_2) := (qe BK101.out 2).trans rfl
   have hcz5_3 : w3.cell? ⟨gb101, 3, none⟩ = some (.int .i64 a0_3) := (qe BK101.out 3).trans rfl
   have hfz5_0 := qc BK101.out 0
   have hfz5_1 := qc BK101.out 1
   have hfz5_2 := qc BK101.out 2
   have hfz5_3 := qc BK101.out 3
   go_wp2
   go_meet
   case rel => exact ⟨_, (true), (by first | rfl | (simp; done) | (simp [*]; done)), H', ⟨by first | omega | exact Nat.le_refl _⟩, ⟨by (with_reducible repeat (first | refine qh ?_ _ | refine qj ?_ | refine qg ?_ _)); exact BK101.out⟩, ⟨by repeat (first | (with_reducible first | exact HB.out | apply qf | apply qa | apply qd | refine qi ?_ GE101.out) | exact HB.out)⟩⟩
  ·rw [if_neg c4] at H
   have c4b0 : decide (30 < (l0_0.length : Int)) = false := decide_eq_false c4
   have c4b1 : decide (30 < l0_0.length) = false := decide_eq_false (by omega)
   clear c4
   (first | rw [c4b0] | (simp only [i64_w, i32_w]; rw [c4b0]) | skip)
   replace H := Option.bind_eq_some_iff.mp H
   obtain ⟨t102, A60, H⟩ := H
   replace H : (if t102 = true then ((spec_l1In.f a0_2 0 1000000000000).bind fun t103 => (if t103 = true then ((spec_l1In.f a0_3 0 (wrap64 (a0_1 - 1))).bind fun t104 => (spec_VersionOk.j0 k (!t104) l0_0 a0_1 a0_2 a0_3)) else (spec_VersionOk.j0 k true l0_0 a0_1 a0_2 a0_3))) else (spec_VersionOk.j0 k true l0_0 a0_1 a0_2 a0_3)) = some r := H
   have A6 := Qz.mk A60
   clear A60
   by_cases c7 : t102 = true
   ·subst c7
    have H1 : ((spec_l1In.f a0_2 0 1000000000000).bind fun t103 => (if t103 = true then ((spec_l1In.f a0_3 0 (wrap64 (a0_1 - 1))).bind fun t104 => (spec_VersionOk.j0 k (!t104) l0_0 a0_1 a0_2 a0_3)) else (spec_VersionOk.j0 k true l0_0 a0_1 a0_2 a0_3))) = some r := by rw [if_pos rfl] at H; exact H
    clear H
    have H := H1
    clear H1
    replace H := Option.bind_eq_some_iff.mp H
    obtain ⟨t103, A80, H⟩ := H
    replace H : (if t103 = true then ((spec_l1In.f a0_3 0 (wrap64 (a0_1 - 1))).bind fun t104 => (spec_VersionOk.j0 k (!t104) l0_0 a0_1 a0_2 a0_3)) else (spec_VersionOk.j0 k true l0_0 a0_1 a0_2 a0_3)) = some r := H
    have A8 := Qz.mk A80
    clear A80
    by_cases c9 : t103 = true
    ·subst c9
     have H1 : ((spec_l1In.f a0_3 0 (wrap64 (a0_1 - 1))).bind fun t104 => (spec_VersionOk.j0 k (!t104) l0_0 a0_1 a0_2 a0_3)) = some r := by rw [if_pos rfl] at H; exact H
     clear H
     have H := H1
     clear H1
     replace H := Option.bind_eq_some_iff.mp H
     obtain ⟨t104, A100, H⟩ := H
     replace H : (spec_VersionOk.j0 k (!t104) l0_0 a0_1 a0_2 a0_3) = some r := H
     have A10 := Qz.mk A100
     clear A100
     have H' := Qz.mk H
     clear H
     have hcz11_0 : w3.cell? ⟨gb101, 0, none⟩ = some (.slice A0_0 l0_0.length c0_0) := (qe BK101.out 0).trans rfl
     have hcz11_1 : w3.cell? ⟨gb101, 1, none⟩ = some (.int .i64 a0_1) := (qe BK101.out 1).trans rfl
     have hcz11_2 : w3.cell? ⟨gb101, 2, none⟩ = some (.int .i64 a0_2) := (qe BK101.out 2).trans rfl
     have hcz11_3 : w3.cell? ⟨gb101, 3, none⟩ = some (.int .i64 a0_3) := (qe BK101.out 3).trans rfl
     have hfz11_0 := qc BK101.out 0
     have hfz11_1 := qc BK101.out 1
     have hfz11_2 := qc BK101.out 2
     have hfz11_3 := qc BK101.out 3
     go_wp2_with (first | (go_at_call 63; (with_reducible refine (spec_l1In.calls a0_1 1 1000000 true _ A6.out).mono ?_); rintro e w' ⟨rfl, ⟨nd, rfl⟩⟩) | (go_at_call 63; (with_reducible refine (spec_l1In.calls a0_2 0 1000000000000 true _ A8.out).mono ?_); rintro e w' ⟨rfl, ⟨nd, rfl⟩⟩) | (go_at_call 63; (with_reducible refine (spec_l1In.calls a0_3 0 (wrap64 (a0_1 - 1)) t104 _ A10.out).mono ?_); rintro e w' ⟨rfl, ⟨nd, rfl⟩⟩))
     go_meet
     case rel => exact ⟨_, (!t104), (by first | rfl | (simp; done) | (simp [*]; done)), H', ⟨by first | omega | exact Nat.le_refl _⟩, ⟨by (with_reducible repeat (first | refine qh ?_ _ | refine qj ?_ | refine qg ?_ _)); exact BK101.out⟩, ⟨by repeat (first | (with_reducible first | exact HB.out | apply qf | apply qa | apply qd | refine qi ?_ GE101.out) | exact HB.out)⟩⟩
    ·replace c9 := Bool.eq_false_iff.mpr c9
     subst c9
     have H1 : (spec_VersionOk.j0 k true l0_0 a0_1 a0_2 a0_3) = some r := by rw [if_neg (show ¬ (false = true) by decide)] at H; exact H
     clear H
     have H := H1
     clear H1
     have H' := Qz.mk H
     clear H
     have hcz12_0 : w3.cell? ⟨gb101, 0, none⟩ = some (.slice A0_0 l0_0.length c0_0) := (qe BK101.out 0).trans rfl
     have hcz12_1 : w3.cell? ⟨gb101, 1, none⟩ = some (.int .i64 a0_1) := (qe BK101.out 1).trans rfl
     have hcz12_2 : w3.cell? ⟨gb101, 2, none⟩ = some (.int .i64 a0_2) := (qe BK101.out 2).trans rfl
     have hcz12_3 : w3.cell? ⟨gb101, 3, none⟩ = some (.int .i64 a0_3) := (qe BK101.out 3).trans rfl
     have hfz12_0 := qc BK101.out 0
     have hfz12_1 := qc BK101.out 1
     have hfz12_2 := qc BK101.out 2
     have hfz12_3 := qc BK101.out 3
     go_wp2_with (first | (go_at_call 63; (with_reducible refine (spec_l1In.calls a0_1 1 1000000 true _ A6.out).mono ?_); rintro e w' ⟨rfl, ⟨nd, rfl⟩⟩) | (go_at_call 63; (with_reducible refine (spec_l1In.calls a0_2 0 1000000000000 false _ A8.out).mono ?_); rintro e w' ⟨rfl, ⟨nd, rfl⟩⟩))
     go_meet
     case rel => exact ⟨_, (true), (by first | rfl | (simp; done) | (simp [*]; done)), H', ⟨by first | omega | exact Nat.le_refl _⟩, ⟨by (with_reducible repeat (first | refine qh ?_ _ | refine qj ?_ | refine qg ?_ _)); exact BK101.out⟩, ⟨by repeat (first | (with_reducible first | exact HB.out | apply qf | apply qa | apply qd | refine qi ?_ GE101.out) | exact HB.out)⟩⟩
   ·replace c7 := Bool.eq_false_iff.mpr c7
    subst c7
    have H1 : (spec_VersionOk.j0 k true l0_0 a0_1 a0_2 a0_3) = some r := by rw [if_neg (show ¬ (false = true) by decide)] at H; exact H
    clear H
    have H := H1
    clear H1
    have H' := Qz.mk H
    clear H
    have hcz13_0 : w3.cell? ⟨gb101, 0, none⟩ = some (.slice A0_0 l0_0.length c0_0) := (qe BK101.out 0).trans rfl
    have hcz13_1 : w3.cell? ⟨gb101, 1, none⟩ = some (.int .i64 a0_1) := (qe BK101.out 1).trans rfl
    have hcz13_2 : w3.cell? ⟨gb101, 2, none⟩ = some (.int .i64 a0_2) := (qe BK101.out 2).trans rfl
    have hcz13_3 : w3.cell? ⟨gb101, 3, none⟩ = some (.int .i64 a0_3) := (qe BK101.out 3).trans rfl
    have hfz13_0 := qc BK101.out 0
    have hfz13_1 := qc BK101.out 1
    have hfz13_2 := qc BK101.out 2
    have hfz13_3 := qc BK101.out 3
    go_wp2_with (first | (go_at_call 63; (with_reducible refine (spec_l1In.calls a0_1 1 1000000 false _ A6.out).mono ?_); rintro e w' ⟨rfl, ⟨nd, rfl⟩⟩))
    go_meet
    case rel => exact ⟨_, (true), (by first | rfl | (simp; done) | (simp [*]; done)), H', ⟨by first | omega | exact Nat.le_refl _⟩, ⟨by (with_reducible repeat (first | refine qh ?_ _ | refine qj ?_ | refine qg ?_ _)); exact BK101.out⟩, ⟨by repeat (first | (with_reducible first | exact HB.out | apply qf | apply qa | apply qd | refine qi ?_ GE101.out) | exact HB.out)⟩⟩
 case rest =>
  clear HC2
  try clear c2
  try clear p2
  try clear c4
  try clear c4b0
  try clear c4b1
  try clear p6
  try clear c7
  try clear c9
  try clear hcz11_0
  try clear hcz11_1
  try clear hcz11_2
  try clear hcz11_3
  try clear hcz12_0
  try clear hcz12_1
  try clear hcz12_2
  try clear hcz12_3
  try clear hcz13_0
  try clear hcz13_1
  try clear hcz13_2
  try clear hcz13_3
  try clear hcz5_0
  try clear hcz5_1
  try clear hcz5_2
  try clear hcz5_3
  try clear hfz11_0
  try clear hfz11_1
  try clear hfz11_2
  try clear hfz11_3
  try clear hfz12_0
  try clear hfz12_1
  try clear hfz12_2
  try clear hfz12_3
  try clear hfz13_0
  try clear hfz13_1
  try clear hfz13_2
  try clear hfz13_3
  try clear hfz5_0
  try clear hfz5_1
  try clear hfz5_2
  try clear hfz5_3
  obtain ⟨kq, x29_1, rfl, HA, HJ1, BK101, HB⟩ := hcut
  cases kq with
  | zero => exact absurd HA.out (by simp [spec_VersionOk.j0])
  | succ kj1 =>
   have H := HA.out
   clear HA
   simp only [spec_VersionOk.j0] at H
   by_cases c14 : x29_1 = true
   ·subst c14
    have H1 : (some false) = some r := by rw [if_pos rfl] at H; exact H
    clear H
    have H := H1
    clear H1
    obtain rfl := Option.some.inj H
    go_wp2
    go_ret
    exact ⟨by first | rfl | (simp [qo, qn] <;> rfl) | (simp [*, qo, qn] <;> rfl), by repeat (first | (with_reducible first | exact HB.out | apply qf | apply qa | apply qd | refine qi ?_ GE101.out) | exact HB.out)⟩
   ·replace c14 := Bool.eq_false_iff.mpr c14
    subst c14
    have H1 : (spec_VersionOk.l0 kj1 0 l0_0 a0_1 a0_2 a0_3) = some r := by rw [if_neg (show ¬ (false = true) by decide)] at H; exact H
    clear H
    have H := H1
    clear H1
    have H' := Qz.mk H
    clear H
    go_wp2
    go_loopg [3] kj1 (fun kq v3 w' => ∃ (x3_2 : Int), v3 = .int .i64 x3_2 ∧ Qz (spec_VersionOk.l0 kq x3_2 l0_0 a0_1 a0_2 a0_3 = some r) ∧ Qz (kq ≤ kj1) ∧ Qz (w'.heap[gb101]? = some (.cells #[(.slice A0_0 l0_0.length c0_0), .int .i64 a0_1, .int .i64 a0_2, .int .i64 a0_3] 32 (0, 0))) ∧ Qz (Below w.heap.size w w'))
    case atStart => exact ⟨(0), (by first | rfl | (simp; done) | (simp [*]; done)), H', ⟨Nat.le_refl _⟩, ⟨by (with_reducible repeat (first | refine qh ?_ _ | refine qj ?_ | refine qg ?_ _)); exact BK101.out⟩, ⟨by repeat (first | (with_reducible first | exact HB.out | apply qf | apply qa | apply qd | refine qi ?_ GE101.out) | exact HB.out)⟩⟩
    case round =>
     clear H'
     try clear c1
     try clear c2
     try clear p2
     try clear c4
     try clear c4b0
     try clear c4b1
     try clear p6
     try clear c7
     try clear c9
     try clear c14
     try clear hcz11_0
     try clear hcz11_1
     try clear hcz11_2
     try clear hcz11_3
     try clear hcz12_0
     try clear hcz12_1
     try clear hcz12_2
     try clear hcz12_3
     try clear hcz13_0
     try clear hcz13_1
     try clear hcz13_2
     try clear hcz13_3
     try clear hcz5_0
     try clear hcz5_1
     try clear hcz5_2
     try clear hcz5_3
     try clear hfz11_0
     try clear hfz11_1
     try clear hfz11_2
     try clear hfz11_3
     try clear hfz12_0
     try clear hfz12_1
     try clear hfz12_2
     try clear hfz12_3
     try clear hfz13_0
     try clear hfz13_1
     try clear hfz13_2
     try clear hfz13_3
     try clear hfz5_0
     try clear hfz5_1
     try clear hfz5_2
     try clear hfz5_3
     try clear p2
     try clear p6
     obtain ⟨x3_2, rfl, HA, HK2, BK101, HB⟩ := hrel
     cases gk with
     | zero => exact absurd HA.out (by simp [spec_VersionOk.l0])
     | succ k2 =>
      have H := HA.out
      clear HA
      simp only [spec_VersionOk.l0] at H
      by_cases c15 : x3_2 < (l0_0.length : Int)
      ·rw [if_pos c15] at H
       have c15b0 : decide (x3_2 < (l0_0.length : Int)) = true := decide_eq_true c15
       clear c15
       have HC16 := Qz.mk H
       clear H
       have hcz17_0 : wr.cell? ⟨gb101, 0, none⟩ = some (.slice A0_0 l0_0.length c0_0) := (qe BK101.out 0).trans rfl
       have hcz17_1 : wr.cell? ⟨gb101, 1, none⟩ = some (.int .i64 a0_1) := (qe BK101.out 1).trans rfl
       have hcz17_2 : wr.cell? ⟨gb101, 2, none⟩ = some (.int .i64 a0_2) := (qe BK101.out 2).trans rfl
       have hcz17_3 : wr.cell? ⟨gb101, 3, none⟩ = some (.int .i64 a0_3) := (qe BK101.out 3).trans rfl
       have hfz17_0 := qc BK101.out 0
       have hfz17_1 := qc BK101.out 1
       have hfz17_2 := qc BK101.out 2
       have hfz17_3 := qc BK101.out 3
       go_upto_region 6 with (fail)
       go_cut [73] (fun v73 wc => ∃ (kq : Nat) (x73_15 : Bool), v73 = .bool x73_15 ∧ Qz (spec_VersionOk.j2 kq x3_2 x73_15 l0_0 a0_1 a0_2 a0_3 = some r) ∧ Qz (kq ≤ k2) ∧ Qz (wc.heap[gb101]? = some (.cells #[(.slice A0_0 l0_0.length c0_0), .int .i64 a0_1, .int .i64 a0_2, .int .i64 a0_3] 32 (0, 0))) ∧ Qz (Below w.heap.size w wc))
       case first =>
        have H := HC16.out
        clear HC16
        by_cases c18 : 0 ≤ x3_2
        ·rw [if_pos c18] at H
         have c18b0 : decide (0 ≤ x3_2) = true := decide_eq_true c18
         clear c18
         (first | rw [c18b0] | (simp only [i64_w, i32_w]; rw [c18b0]) | skip)
         replace H := Option.bind_eq_some_iff.mp H
         obtain ⟨t106, A190, H⟩ := H
         replace H : (if t106 = true then (if ((qk l0_0 x3_2).f0) ≥ a0_1 then (spec_VersionOk.j2 k2 x3_2 true l0_0 a0_1 a0_2 a0_3) else (if x3_2 > 0 then (if 0 ≤ (wrap64 (x3_2 - 1)) then (if (wrap64 (x3_2 - 1)) < (l0_0.length : Int) then ((spec_l12Ahead.f ((qk l0_0 (wrap64 (x3_2 - 1))).f0) ((qk l0_0 (wrap64 (x3_2 - 1))).f1) ((qk l0_0 (wrap64 (x3_2 - 1))).f2) ((qk l0_0 (wrap64 (x3_2 - 1))).f3) ((qk l0_0 (wrap64 (x3_2 - 1))).f4) ((qk l0_0 x3_2).f0) ((qk l0_0 x3_2).f1) ((qk l0_0 x3_2).f2) ((qk l0_0 x3_2).f3) ((qk l0_0 x3_2).f4)).bind fun t110 => (spec_VersionOk.j2 k2 x3_2 (!t110) l0_0 a0_1 a0_2 a0_3)) else (none)) else (none)) else (spec_VersionOk.j2 k2 x3_2 false l0_0 a0_1 a0_2 a0_3))) else (spec_VersionOk.j2 k2 x3_2 true l0_0 a0_1 a0_2 a0_3)) = some r := H
         have A19 := Qz.mk A190
         clear A190
         by_cases c20 : t106 = true
         ·subst c20
          have H1 : (if ((qk l0_0 x3_2).f0) ≥ a0_1 then (spec_VersionOk.j2 k2 x3_2 true l0_0 a0_1 a0_2 a0_3) else (if x3_2 > 0 then (if 0 ≤ (wrap64 (x3_2 - 1)) then (if (wrap64 (x3_2 - 1)) < (l0_0.length : Int) then ((spec_l12Ahead.f ((qk l0_0 (wrap64 (x3_2 - 1))).f0) ((qk l0_0 (wrap64 (x3_2 - 1))).f1) ((qk l0_0 (wrap64 (x3_2 - 1))).f2) ((qk l0_0 (wrap64 (x3_2 - 1))).f3) ((qk l0_0 (wrap64 (x3_2 - 1))).f4) ((qk l0_0 x3_2).f0) ((qk l0_0 x3_2).f1) ((qk l0_0 x3_2).f2) ((qk l0_0 x3_2).f3) ((qk l0_0 x3_2).f4)).bind fun t110 => (spec_VersionOk.j2 k2 x3_2 (!t110) l0_0 a0_1 a0_2 a0_3)) else (none)) else (none)) else (spec_VersionOk.j2 k2 x3_2 false l0_0 a0_1 a0_2 a0_3))) = some r := by rw [if_pos rfl] at H; exact H
          clear H
          have H := H1
          clear H1
          by_cases c21 : ((qk l0_0 x3_2).f0) ≥ a0_1
          ·rw [if_pos c21] at H
           have c21b0 : decide (a0_1 ≤ ((qk l0_0 x3_2).f0)) = true := decide_eq_true c21
           clear c21
           have H' := Qz.mk H
           clear H
           try go_wp2
           replace BK101 := Qz.mk (qj BK101.out)
           replace HB := Qz.mk (qd HB.out)
           have p105 : 0 ≤ (x3_2 : Int) := of_decide_eq_true (by first | (with_reducible assumption) | assumption)
           have q105 : x3_2 < (l0_0.length : Int) := of_decide_eq_true (by first | (with_reducible assumption) | assumption)
           obtain ⟨ad105, e105, hx105_0, hx105_1, hx105_2, hx105_3, hx105_4⟩ := at_T66 HR0_0.out x3_2 p105 q105
           have hw105_4 := hx105_4
           have hw105_3 := hx105_3
           have hw105_2 := hx105_2
           have hw105_1 := hx105_1
           have hw105_0 := hx105_0
           cases e105
           replace hx105_0 := (HB.out.cell (World.block_lt_of_cell? w _ hx105_0)).trans hx105_0
           replace hx105_1 := (HB.out.cell (World.block_lt_of_cell? w _ hx105_1)).trans hx105_1
           replace hx105_2 := (HB.out.cell (World.block_lt_of_cell? w _ hx105_2)).trans hx105_2
           replace hx105_3 := (HB.out.cell (World.block_lt_of_cell? w _ hx105_3)).trans hx105_3
           replace hx105_4 := (HB.out.cell (World.block_lt_of_cell? w _ hx105_4)).trans hx105_4
           replace p105 := eq_true p105
           replace q105 := eq_true q105
           have p107 : 0 ≤ (x3_2 : Int) := of_decide_eq_true (by first | (with_reducible assumption) | assumption)
           have q107 : x3_2 < (l0_0.length : Int) := of_decide_eq_true (by first | (with_reducible assumption) | assumption)
           obtain ⟨ad107, e107, hx107_0, hx107_1, hx107_2, hx107_3, hx107_4⟩ := at_T66 HR0_0.out x3_2 p107 q107
           have hw107_4 := hx107_4
           have hw107_3 := hx107_3
           have hw107_2 := hx107_2
           have hw107_1 := hx107_1
           have hw107_0 := hx107_0
           obtain rfl : ad105 = ad107 := (by injection e107)
           replace hx107_0 := (HB.out.cell (World.block_lt_of_cell? w _ hx107_0)).trans hx107_0
           replace hx107_1 := (HB.out.cell (World.block_lt_of_cell? w _ hx107_1)).trans hx107_1
           replace hx107_2 := (HB.out.cell (World.block_lt_of_cell? w _ hx107_2)).trans hx107_2
           replace hx107_3 := (HB.out.cell (World.block_lt_of_cell? w _ hx107_3)).trans hx107_3
           replace hx107_4 := (HB.out.cell (World.block_lt_of_cell? w _ hx107_4)).trans hx107_4
           replace p107 := eq_true p107
           replace q107 := eq_true q107
           refine start_ (n := 37) (S := fun w' => w'.cell? ⟨gb101, 0, none⟩ = some (.slice (some ad105) l0_0.length c0_0) ∧ w'.cell? ⟨gb101, 1, none⟩ = some (.int .i64 a0_1) ∧ w'.cell? ⟨gb101, 2, none⟩ = some (.int .i64 a0_2) ∧ w'.cell? ⟨gb101, 3, none⟩ = some (.int .i64 a0_3) ∧ w'.cell? (ad105.add ((x3_2).toNat * 5)) = some (.int .i64 ((qk l0_0 x3_2).f0)) ∧ w'.cell? ⟨(ad105.add ((x3_2).toNat * 5)).block, (ad105.add ((x3_2).toNat * 5)).off + 1, none⟩ = some (.int .i64 ((qk l0_0 x3_2).f1)) ∧ w'.cell? ⟨(ad105.add ((x3_2).toNat * 5)).block, (ad105.add ((x3_2).toNat * 5)).off + 2, none⟩ = some (.string ((qk l0_0 x3_2).f2)) ∧ w'.cell? ⟨(ad105.add ((x3_2).toNat * 5)).block, (ad105.add ((x3_2).toNat * 5)).off + 3, none⟩ = some (.string ((qk l0_0 x3_2).f3)) ∧ w'.cell? ⟨(ad105.add ((x3_2).toNat * 5)).block, (ad105.add ((x3_2).toNat * 5)).off + 4, none⟩ = some (.int .i64 ((qk l0_0 x3_2).f4)) ∧ w'.cell? (ad105.add ((x3_2).toNat * 5)) = some (.int .i64 ((qk l0_0 x3_2).f0)) ∧ w'.cell? ⟨(ad105.add ((x3_2).toNat * 5)).block, (ad105.add ((x3_2).toNat * 5)).off + 1, none⟩ = some (.int .i64 ((qk l0_0 x3_2).f1)) ∧ w'.cell? ⟨(ad105.add ((x3_2).toNat * 5)).block, (ad105.add ((x3_2).toNat * 5)).off + 2, none⟩ = some (.string ((qk l0_0 x3_2).f2)) ∧ w'.cell? ⟨(ad105.add ((x3_2).toNat * 5)).block, (ad105.add ((x3_2).toNat * 5)).off + 3, none⟩ = some (.string ((qk l0_0 x3_2).f3)) ∧ w'.cell? ⟨(ad105.add ((x3_2).toNat * 5)).block, (ad105.add ((x3_2).toNat * 5)).off + 4, none⟩ = some (.int .i64 ((qk l0_0 x3_2).f4))) (ds := []) bq0 (by kernel_rfl) rfl rfl ⟨(qe BK101.out 0).trans rfl, (qe BK101.out 1).trans rfl, (qe BK101.out 2).trans rfl, (qe BK101.out 3).trans rfl, ((HB.out.cell (World.block_lt_of_cell? w _ hw105_0)).trans hw105_0), ((HB.out.cell (World.block_lt_of_cell? w _ hw105_1)).trans hw105_1), ((HB.out.cell (World.block_lt_of_cell? w _ hw105_2)).trans hw105_2), ((HB.out.cell (World.block_lt_of_cell? w _ hw105_3)).trans hw105_3), ((HB.out.cell (World.block_lt_of_cell? w _ hw105_4)).trans hw105_4), ((HB.out.cell (World.block_lt_of_cell? w _ hw107_0)).trans hw107_0), ((HB.out.cell (World.block_lt_of_cell? w _ hw107_1)).trans hw107_1), ((HB.out.cell (World.block_lt_of_cell? w _ hw107_2)).trans hw107_2), ((HB.out.cell (World.block_lt_of_cell? w _ hw107_3)).trans hw107_3), ((HB.out.cell (World.block_lt_of_cell? w _ hw107_4)).trans hw107_4)⟩ (fun hHeld => ?_); refine with_tabW spec_VersionOk.tab6 spec_VersionOk.bits6 (fun HT_ HW_ => ?_)
           generalize wr.drew = w22 at BK101 HB hx105_0 hx105_1 hx105_2 hx105_3 hx105_4 hx107_0 hx107_1 hx107_2 hx107_3 hx107_4 hHeld ⊢
           refine pure_ (i := 0) (N := some 37) (v := ?_) (a' := ?_) bq4 rfl rfl (qq HT_.out (by kernel_rfl)) (fun _ _ _ h => h) (Or.inl ⟨by rfl, ?_⟩) ?_ ?_
           rotate_left
           ·intro w'
            go_simp
            with_reducible rfl
           rotate_left
           ·simp only [Act.put, sq1, sq2, sq3, i64_w, i32_w]
            rfl
           refine pure_ (i := 2) (N := some 39) (v := ?_) (a' := ?_) bq8 rfl rfl (qq HT_.out (by kernel_rfl)) (fun _ _ _ h => h) (Or.inl ⟨by rfl, ?_⟩) ?_ ?_
           rotate_left
           ·intro w'
            go_simp
            with_reducible rfl
           rotate_left
           ·simp only [Act.put, sq1, sq2, sq3, i64_w, i32_w]
            rfl
           refine take_ (i := 1) (N := some 38) (v := ?_) (a' := ?_) bq14 rfl rfl (take_ofW HT_.out HW_.out (by kernel_rfl)) (fun _ _ _ h => h) (Or.inl ⟨by rfl, ?_⟩) hHeld ?_ ?_
           rotate_left
           ·rintro w' ⟨s0, s1, s2, s3, s4, s5, s6, s7, s8, s9, s10, s11, s12, s13⟩
            go_simp
            with_reducible rfl
           rotate_left
           ·simp only [Act.put, sq1, sq2, sq3, i64_w, i32_w]
            rfl
           refine pure_ (i := 3) (N := some 40) (v := ?_) (a' := ?_) bq21 rfl rfl (qq HT_.out (by kernel_rfl)) (fun _ _ _ h => h) (Or.inl ⟨by rfl, ?_⟩) ?_ ?_
           rotate_left
           ·intro w'
            go_simp
            with_reducible rfl
           rotate_left
           ·simp only [Act.put, sq1, sq2, sq3, i64_w, i32_w]
            rfl
           refine take_ (i := 4) (N := some 41) (v := ?_) (a' := ?_) bq25 rfl rfl (take_ofW HT_.out HW_.out (by kernel_rfl)) (fun _ _ _ h => h) (Or.inl ⟨by rfl, ?_⟩) hHeld ?_ ?_
           rotate_left
           ·rintro w' ⟨s0, s1, s2, s3, s4, s5, s6, s7, s8, s9, s10, s11, s12, s13⟩
            go_simp
            with_reducible rfl
           rotate_left
           ·simp only [Act.put, sq1, sq2, sq3, i64_w, i32_w]
            rfl
           refine one_ (i := 5) (N := some 42) bq27 rfl rfl (one_of HT_.out (by kernel_rfl)) (by decide) (fun K hK => ?_)
           refine goes_ Try.func64 (by kernel_rfl) rfl #[.agg #[.int .i64 ((qk l0_0 x3_2).f0), .int .i64 ((qk l0_0 x3_2).f1), .string ((qk l0_0 x3_2).f2), .string ((qk l0_0 x3_2).f3), .int .i64 ((qk l0_0 x3_2).f4)]] (by rfl) rfl rfl (by (try simp only [List.map_toArray, List.map_cons, List.map_nil]); first | done | rfl) ?_
           with_reducible refine (spec_l12Meta.calls ((qk l0_0 x3_2).f0) ((qk l0_0 x3_2).f1) ((qk l0_0 x3_2).f2) ((qk l0_0 x3_2).f3) ((qk l0_0 x3_2).f4) true _ A19.out).mono ?_
           rintro e w23 ⟨rfl, hb⟩
           refine ⟨_, rfl, ?_⟩
           replace BK101 := Qz.mk (qr (g := gb101) (o := .cells #[.slice (some ad105) l0_0.length c0_0, .int .i64 a0_1, .int .i64 a0_2, .int .i64 a0_3] 32 (0, 0)) (by (with_reducible repeat (first | refine qh ?_ _ | refine qj ?_ | refine qg ?_ _)); exact BK101.out) hb)
           replace HB := Qz.mk (qp (by repeat (first | (with_reducible first | exact HB.out | apply qf | apply qa | apply qd | refine qi ?_ GE101.out) | exact HB.out)) hb)
           (try clear hb)
           refine hK.out _ _ ⟨(qe BK101.out 0).trans rfl, (qe BK101.out 1).trans rfl, (qe BK101.out 2).trans rfl, (qe BK101.out 3).trans rfl, ((HB.out.cell (World.block_lt_of_cell? w _ hw105_0)).trans hw105_0), ((HB.out.cell (World.block_lt_of_cell? w _ hw105_1)).trans hw105_1), ((HB.out.cell (World.block_lt_of_cell? w _ hw105_2)).trans hw105_2), ((HB.out.cell (World.block_lt_of_cell? w _ hw105_3)).trans hw105_3), ((HB.out.cell (World.block_lt_of_cell? w _ hw105_4)).trans hw105_4), ((HB.out.cell (World.block_lt_of_cell? w _ hw107_0)).trans hw107_0), ((HB.out.cell (World.block_lt_of_cell? w _ hw107_1)).trans hw107_1), ((HB.out.cell (World.block_lt_of_cell? w _ hw107_2)).trans hw107_2), ((HB.out.cell (World.block_lt_of_cell? w _ hw107_3)).trans hw107_3), ((HB.out.cell (World.block_lt_of_cell? w _ hw107_4)).trans hw107_4)⟩ (fun hHeld => ?_)
           clear hK K
           refine norm_ (a' := ?_) ?_ ?_
           rotate_left
           ·show Act.put _ (some 42) _ = _
            simp only [Act.put, sq1, sq2, sq3, i64_w, i32_w]
            rfl
           refine pure_ (i := 6) (N := some 43) (v := ?_) (a' := ?_) bq29 rfl rfl (qq HT_.out (by kernel_rfl)) (fun _ _ _ h => h) (Or.inl ⟨by rfl, ?_⟩) ?_ ?_
           rotate_left
           ·intro w'
            go_simp
            with_reducible rfl
           rotate_left
           ·simp only [Act.put, sq1, sq2, sq3, i64_w, i32_w]
            rfl
           refine pure_ (i := 7) (N := some 44) (v := ?_) (a' := ?_) bq33 rfl rfl (qq HT_.out (by kernel_rfl)) (fun _ _ _ h => h) (Or.inl ⟨by rfl, ?_⟩) ?_ ?_
           rotate_left
           ·intro w'
            go_simp
            with_reducible rfl
           rotate_left
           ·simp only [Act.put, sq1, sq2, sq3, i64_w, i32_w]
            rfl
           refine pure_ (i := 8) (N := some 45) (v := ?_) (a' := ?_) bq35 rfl rfl (qq HT_.out (by kernel_rfl)) (fun _ _ _ h => h) (Or.inl ⟨by rfl, ?_⟩) ?_ ?_
           rotate_left
           ·intro w'
            go_simp
            with_reducible rfl
           rotate_left
           ·simp only [Act.put, sq1, sq2, sq3, i64_w, i32_w]
            rfl
           refine pure_ (i := 10) (N := some 47) (v := ?_) (a' := ?_) bq37 rfl rfl (qq HT_.out (by kernel_rfl)) (fun _ _ _ h => h) (Or.inl ⟨by rfl, ?_⟩) ?_ ?_
           rotate_left
           ·intro w'
            go_simp
            with_reducible rfl
           rotate_left
           ·simp only [Act.put, sq1, sq2, sq3, i64_w, i32_w]
            rfl
           refine pure_ (i := 14) (N := some 51) (v := ?_) (a' := ?_) bq38 rfl rfl (qq HT_.out (by kernel_rfl)) (fun _ _ _ h => h) (Or.inl ⟨by rfl, ?_⟩) ?_ ?_
           rotate_left
           ·intro w'
            go_simp
            with_reducible rfl
           rotate_left
           ·simp only [Act.put, sq1, sq2, sq3, i64_w, i32_w]
            rfl
           refine take_ (i := 9) (N := some 46) (v := ?_) (a' := ?_) bq41 rfl rfl (take_ofW HT_.out HW_.out (by kernel_rfl)) (fun _ _ _ h => h) (Or.inl ⟨by rfl, ?_⟩) hHeld ?_ ?_
           rotate_left
           ·rintro w' ⟨s0, s1, s2, s3, s4, s5, s6, s7, s8, s9, s10, s11, s12, s13⟩
            go_simp
            with_reducible rfl
           rotate_left
           ·simp only [Act.put, sq1, sq2, sq3, i64_w, i32_w]
            rfl
           refine pure_ (i := 11) (N := some 48) (v := ?_) (a' := ?_) bq43 rfl rfl (qq HT_.out (by kernel_rfl)) (fun _ _ _ h => h) (Or.inl ⟨by rfl, ?_⟩) ?_ ?_
           rotate_left
           ·intro w'
            go_simp
            with_reducible rfl
           rotate_left
           ·simp only [Act.put, sq1, sq2, sq3, i64_w, i32_w]
            rfl
           refine pure_ (i := 12) (N := some 49) (v := ?_) (a' := ?_) bq45 rfl rfl (qq HT_.out (by kernel_rfl)) (fun _ _ _ h => h) (Or.inl ⟨by rfl, ?_⟩) ?_ ?_
           rotate_left
           ·intro w'
            go_simp
            with_reducible rfl
           rotate_left
           ·simp only [Act.put, sq1, sq2, sq3, i64_w, i32_w]
            rfl
           refine take_ (i := 13) (N := some 50) (v := ?_) (a' := ?_) bq46 rfl rfl (take_ofW HT_.out HW_.out (by kernel_rfl)) (fun _ _ _ h => h) (Or.inl ⟨by rfl, ?_⟩) hHeld ?_ ?_
           rotate_left
           ·rintro w' ⟨s0, s1, s2, s3, s4, s5, s6, s7, s8, s9, s10, s11, s12, s13⟩
            go_simp
            with_reducible rfl
           rotate_left
           ·simp only [Act.put, sq1, sq2, sq3, i64_w, i32_w]
            rfl
           refine take_ (i := 15) (N := some 52) (v := ?_) (a' := ?_) bq47 rfl rfl (take_ofW HT_.out HW_.out (by kernel_rfl)) (fun _ _ _ h => h) (Or.inl ⟨by rfl, ?_⟩) hHeld ?_ ?_
           rotate_left
           ·rintro w' ⟨s0, s1, s2, s3, s4, s5, s6, s7, s8, s9, s10, s11, s12, s13⟩
            go_simp
            with_reducible rfl
           rotate_left
           ·simp only [Act.put, sq1, sq2, sq3, i64_w, i32_w]
            rfl
           refine pure_ (i := 16) (N := some 53) (v := ?_) (a' := ?_) bq48 rfl rfl (qq HT_.out (by kernel_rfl)) (fun _ _ _ h => h) (Or.inl ⟨by rfl, ?_⟩) ?_ ?_
           rotate_left
           ·intro w'
            go_simp
            with_reducible rfl
           rotate_left
           ·simp only [Act.put, sq1, sq2, sq3, i64_w, i32_w]
            rfl
           refine pure_ (i := 17) (N := some 54) (v := ?_) (a' := ?_) bq49 rfl rfl (qq HT_.out (by kernel_rfl)) (fun _ _ _ h => h) (Or.inl ⟨by rfl, ?_⟩) ?_ ?_
           rotate_left
           ·intro w'
            go_simp
            with_reducible rfl
           rotate_left
           ·simp only [Act.put, sq1, sq2, sq3, i64_w, i32_w]
            rfl
           refine pure_ (i := 18) (N := some 55) (v := ?_) (a' := ?_) bq50 rfl rfl (qq HT_.out (by kernel_rfl)) (fun _ _ _ h => h) (Or.inl ⟨by rfl, ?_⟩) ?_ ?_
           rotate_left
           ·intro w'
            go_simp
            with_reducible rfl
           rotate_left
           ·simp only [Act.put, sq1, sq2, sq3, i64_w, i32_w]
            rfl
           refine pure_ (i := 19) (N := some 56) (v := undef) (a' := ?_) bq51 rfl rfl (qq HT_.out (by kernel_rfl)) (fun _ _ _ h => h) (Or.inr ⟨by rfl, rfl⟩) ?_ ?_
           rotate_left
           ·simp only [Act.put, sq1, sq2, sq3, i64_w, i32_w]
            rfl
           refine pure_ (i := 20) (N := some 57) (v := undef) (a' := ?_) bq52 rfl rfl (qq HT_.out (by kernel_rfl)) (fun _ _ _ h => h) (Or.inr ⟨by rfl, rfl⟩) ?_ ?_
           rotate_left
           ·simp only [Act.put, sq1, sq2, sq3, i64_w, i32_w]
            rfl
           refine pure_ (i := 21) (N := some 58) (v := undef) (a' := ?_) bq53 rfl rfl (qq HT_.out (by kernel_rfl)) (fun _ _ _ h => h) (Or.inr ⟨by rfl, rfl⟩) ?_ ?_
           rotate_left
           ·simp only [Act.put, sq1, sq2, sq3, i64_w, i32_w]
            rfl
           refine pure_ (i := 22) (N := some 59) (v := undef) (a' := ?_) bq54 rfl rfl (qq HT_.out (by kernel_rfl)) (fun _ _ _ h => h) (Or.inr ⟨by rfl, rfl⟩) ?_ ?_
           rotate_left
           ·simp only [Act.put, sq1, sq2, sq3, i64_w, i32_w]
            rfl
           refine pure_ (i := 23) (N := some 60) (v := undef) (a' := ?_) bq55 rfl rfl (qq HT_.out (by kernel_rfl)) (fun _ _ _ h => h) (Or.inr ⟨by rfl, rfl⟩) ?_ ?_
           rotate_left
           ·simp only [Act.put, sq1, sq2, sq3, i64_w, i32_w]
            rfl
           refine pure_ (i := 24) (N := some 61) (v := undef) (a' := ?_) bq56 rfl rfl (qq HT_.out (by kernel_rfl)) (fun _ _ _ h => h) (Or.inr ⟨by rfl, rfl⟩) ?_ ?_
           rotate_left
           ·simp only [Act.put, sq1, sq2, sq3, i64_w, i32_w]
            rfl
           refine pure_ (i := 25) (N := some 62) (v := undef) (a' := ?_) bq57 rfl rfl (qq HT_.out (by kernel_rfl)) (fun _ _ _ h => h) (Or.inr ⟨by rfl, rfl⟩) ?_ ?_
           rotate_left
           ·simp only [Act.put, sq1, sq2, sq3, i64_w, i32_w]
            rfl
           refine pure_ (i := 26) (N := some 63) (v := undef) (a' := ?_) bq58 rfl rfl (qq HT_.out (by kernel_rfl)) (fun _ _ _ h => h) (Or.inr ⟨by rfl, rfl⟩) ?_ ?_
           rotate_left
           ·simp only [Act.put, sq1, sq2, sq3, i64_w, i32_w]
            rfl
           refine pure_ (i := 27) (N := some 64) (v := undef) (a' := ?_) bq59 rfl rfl (qq HT_.out (by kernel_rfl)) (fun _ _ _ h => h) (Or.inr ⟨by rfl, rfl⟩) ?_ ?_
           rotate_left
           ·simp only [Act.put, sq1, sq2, sq3, i64_w, i32_w]
            rfl
           refine pure_ (i := 28) (N := some 65) (v := undef) (a' := ?_) bq60 rfl rfl (qq HT_.out (by kernel_rfl)) (fun _ _ _ h => h) (Or.inr ⟨by rfl, rfl⟩) ?_ ?_
           rotate_left
           ·simp only [Act.put, sq1, sq2, sq3, i64_w, i32_w]
            rfl
           refine pure_ (i := 29) (N := some 66) (v := undef) (a' := ?_) bq61 rfl rfl (qq HT_.out (by kernel_rfl)) (fun _ _ _ h => h) (Or.inr ⟨by rfl, rfl⟩) ?_ ?_
           rotate_left
           ·simp only [Act.put, sq1, sq2, sq3, i64_w, i32_w]
            rfl
           refine pure_ (i := 30) (N := some 67) (v := undef) (a' := ?_) bq62 rfl rfl (qq HT_.out (by kernel_rfl)) (fun _ _ _ h => h) (Or.inr ⟨by rfl, rfl⟩) ?_ ?_
           rotate_left
           ·simp only [Act.put, sq1, sq2, sq3, i64_w, i32_w]
            rfl
           refine pure_ (i := 31) (N := some 68) (v := undef) (a' := ?_) bq63 rfl rfl (qq HT_.out (by kernel_rfl)) (fun _ _ _ h => h) (Or.inr ⟨by rfl, rfl⟩) ?_ ?_
           rotate_left
           ·simp only [Act.put, sq1, sq2, sq3, i64_w, i32_w]
            rfl
           refine pure_ (i := 32) (N := some 69) (v := undef) (a' := ?_) bq64 rfl rfl (qq HT_.out (by kernel_rfl)) (fun _ _ _ h => h) (Or.inr ⟨by rfl, rfl⟩) ?_ ?_
           rotate_left
           ·simp only [Act.put, sq1, sq2, sq3, i64_w, i32_w]
            rfl
           refine pure_ (i := 33) (N := some 70) (v := undef) (a' := ?_) bq65 rfl rfl (qq HT_.out (by kernel_rfl)) (fun _ _ _ h => h) (Or.inr ⟨by rfl, rfl⟩) ?_ ?_
           rotate_left
           ·simp only [Act.put, sq1, sq2, sq3, i64_w, i32_w]
            rfl
           refine pure_ (i := 34) (N := some 71) (v := undef) (a' := ?_) bq66 rfl rfl (qq HT_.out (by kernel_rfl)) (fun _ _ _ h => h) (Or.inr ⟨by rfl, rfl⟩) ?_ ?_
           rotate_left
           ·simp only [Act.put, sq1, sq2, sq3, i64_w, i32_w]
            rfl
           refine pure_ (i := 35) (N := some 72) (v := undef) (a' := ?_) bq67 rfl rfl (qq HT_.out (by kernel_rfl)) (fun _ _ _ h => h) (Or.inr ⟨by rfl, rfl⟩) ?_ ?_
           rotate_left
           ·simp only [Act.put, sq1, sq2, sq3, i64_w, i32_w]
            rfl
           refine pure_ (i := 36) (N := some 73) (v := ?_) (a' := ?_) bq68 rfl rfl (qq HT_.out (by kernel_rfl)) (fun _ _ _ h => h) (Or.inl ⟨by rfl, ?_⟩) ?_ ?_
           rotate_left
           ·intro w'
            go_simp
            with_reducible rfl
           rotate_left
           ·simp only [Act.put, sq1, sq2, sq3, i64_w, i32_w]
            rfl
           refine done_ (done_of HT_.out (by kernel_rfl)) ?_
           try go_wp2
           go_meet
           case rel => exact ⟨_, (true), (by first | rfl | (simp; done) | (simp [*]; done)), H', ⟨by have := HJ1.out; have := HK2.out; first | omega | exact Nat.le_refl _⟩, ⟨by (with_reducible repeat (first | refine qh ?_ _ | refine qj ?_ | refine qg ?_ _)); exact BK101.out⟩, ⟨by repeat (first | (with_reducible first | exact HB.out | apply qf | apply qa | apply qd | refine qi ?_ GE101.out) | exact HB.out)⟩⟩
          ·rw [if_neg c21] at H
           have c21b0 : decide (a0_1 ≤ ((qk l0_0 x3_2).f0)) = false := decide_eq_false c21
           clear c21
           by_cases c24 : x3_2 > 0
           ·rw [if_pos c24] at H
            have c24b0 : decide (0 < x3_2) = true := decide_eq_true c24
            clear c24
            obtain ⟨ji25, hji25⟩ : ∃ j_ : Int, (wrap64 (x3_2 - 1)) = j_ := ⟨_, rfl⟩
            replace H : (if 0 ≤ (ji25) then (if (ji25) < (l0_0.length : Int) then ((spec_l12Ahead.f ((qk l0_0 (ji25)).f0) ((qk l0_0 (ji25)).f1) ((qk l0_0 (ji25)).f2) ((qk l0_0 (ji25)).f3) ((qk l0_0 (ji25)).f4) ((qk l0_0 x3_2).f0) ((qk l0_0 x3_2).f1) ((qk l0_0 x3_2).f2) ((qk l0_0 x3_2).f3) ((qk l0_0 x3_2).f4)).bind fun t110 => (spec_VersionOk.j2 k2 x3_2 (!t110) l0_0 a0_1 a0_2 a0_3)) else (none)) else (none)) = some r := by first | (rw [hji25] at H; exact H) | (simp only [hji25] at H ⊢; exact H)
            (try rw [hji25] at A19)
            have hji25w : (IntKind.i64.wrap (x3_2 - 1)) = ji25 := (i64_w _).trans hji25
            by_cases c26 : 0 ≤ (ji25)
            ·rw [if_pos c26] at H
             have c26b0 : decide (0 ≤ (ji25)) = true := decide_eq_true c26
             clear c26
             by_cases c27 : (ji25) < (l0_0.length : Int)
             ·rw [if_pos c27] at H
              have c27b0 : decide ((ji25) < (l0_0.length : Int)) = true := decide_eq_true c27
              clear c27
              replace H := Option.bind_eq_some_iff.mp H
              obtain ⟨t110, A280, H⟩ := H
              replace H : (spec_VersionOk.j2 k2 x3_2 (!t110) l0_0 a0_1 a0_2 a0_3) = some r := H
              have A28 := Qz.mk A280
              clear A280
              have H' := Qz.mk H
              clear H
              try go_wp2
              replace BK101 := Qz.mk (qj BK101.out)
              replace HB := Qz.mk (qd HB.out)
              have p105 : 0 ≤ (x3_2 : Int) := of_decide_eq_true (by first | (with_reducible assumption) | assumption)
              have q105 : x3_2 < (l0_0.length : Int) := of_decide_eq_true (by first | (with_reducible assumption) | assumption)
              obtain ⟨ad105, e105, hx105_0, hx105_1, hx105_2, hx105_3, hx105_4⟩ := at_T66 HR0_0.out x3_2 p105 q105
              have hw105_4 := hx105_4
              have hw105_3 := hx105_3
              have hw105_2 := hx105_2
              have hw105_1 := hx105_1
              have hw105_0 := hx105_0
              cases e105
              replace hx105_0 := (HB.out.cell (World.block_lt_of_cell? w _ hx105_0)).trans hx105_0
              replace hx105_1 := (HB.out.cell (World.block_lt_of_cell? w _ hx105_1)).trans hx105_1
              replace hx105_2 := (HB.out.cell (World.block_lt_of_cell? w _ hx105_2)).trans hx105_2
              replace hx105_3 := (HB.out.cell (World.block_lt_of_cell? w _ hx105_3)).trans hx105_3
              replace hx105_4 := (HB.out.cell (World.block_lt_of_cell? w _ hx105_4)).trans hx105_4
              replace p105 := eq_true p105
              replace q105 := eq_true q105
              have p107 : 0 ≤ (x3_2 : Int) := of_decide_eq_true (by first | (with_reducible assumption) | assumption)
              have q107 : x3_2 < (l0_0.length : Int) := of_decide_eq_true (by first | (with_reducible assumption) | assumption)
              obtain ⟨ad107, e107, hx107_0, hx107_1, hx107_2, hx107_3, hx107_4⟩ := at_T66 HR0_0.out x3_2 p107 q107
              have hw107_4 := hx107_4
              have hw107_3 := hx107_3
              have hw107_2 := hx107_2
              have hw107_1 := hx107_1
              have hw107_0 := hx107_0
              obtain rfl : ad105 = ad107 := (by injection e107)
              replace hx107_0 := (HB.out.cell (World.block_lt_of_cell? w _ hx107_0)).trans hx107_0
              replace hx107_1 := (HB.out.cell (World.block_lt_of_cell? w _ hx107_1)).trans hx107_1
              replace hx107_2 := (HB.out.cell (World.block_lt_of_cell? w _ hx107_2)).trans hx107_2
              replace hx107_3 := (HB.out.cell (World.block_lt_of_cell? w _ hx107_3)).trans hx107_3
              replace hx107_4 := (HB.out.cell (World.block_lt_of_cell? w _ hx107_4)).trans hx107_4
              replace p107 := eq_true p107
              replace q107 := eq_true q107
              have p108 : 0 ≤ ((ji25) : Int) := of_decide_eq_true (by first | (with_reducible assumption) | assumption)
              have q108 : (ji25) < (l0_0.length : Int) := of_decide_eq_true (by first | (with_reducible assumption) | assumption)
              obtain ⟨ad108, e108, hx108_0, hx108_1, hx108_2, hx108_3, hx108_4⟩ := at_T66 HR0_0.out (ji25) p108 q108
              have hw108_4 := hx108_4
              have hw108_3 := hx108_3
              have hw108_2 := hx108_2
              have hw108_1 := hx108_1
              have hw108_0 := hx108_0
              obtain rfl : ad105 = ad108 := (by injection e108)
              replace hx108_0 := (HB.out.cell (World.block_lt_of_cell? w _ hx108_0)).trans hx108_0
              replace hx108_1 := (HB.out.cell (World.block_lt_of_cell? w _ hx108_1)).trans hx108_1
              replace hx108_2 := (HB.out.cell (World.block_lt_of_cell? w _ hx108_2)).trans hx108_2
              replace hx108_3 := (HB.out.cell (World.block_lt_of_cell? w _ hx108_3)).trans hx108_3
              replace hx108_4 := (HB.out.cell (World.block_lt_of_cell? w _ hx108_4)).trans hx108_4
              replace p108 := eq_true p108
              replace q108 := eq_true q108
              have p109 : 0 ≤ (x3_2 : Int) := of_decide_eq_true (by first | (with_reducible assumption) | assumption)
              have q109 : x3_2 < (l0_0.length : Int) := of_decide_eq_true (by first | (with_reducible assumption) | assumption)
              obtain ⟨ad109, e109, hx109_0, hx109_1, hx109_2, hx109_3, hx109_4⟩ := at_T66 HR0_0.out x3_2 p109 q109
              have hw109_4 := hx109_4
              have hw109_3 := hx109_3
              have hw109_2 := hx109_2
              have hw109_1 := hx109_1
              have hw109_0 := hx109_0
              obtain rfl : ad105 = ad109 := (by injection e109)
              replace hx109_0 := (HB.out.cell (World.block_lt_of_cell? w _ hx109_0)).trans hx109_0
              replace hx109_1 := (HB.out.cell (World.block_lt_of_cell? w _ hx109_1)).trans hx109_1
              replace hx109_2 := (HB.out.cell (World.block_lt_of_cell? w _ hx109_2)).trans hx109_2
              replace hx109_3 := (HB.out.cell (World.block_lt_of_cell? w _ hx109_3)).trans hx109_3
              replace hx109_4 := (HB.out.cell (World.block_lt_of_cell? w _ hx109_4)).trans hx109_4
              replace p109 := eq_true p109
              replace q109 := eq_true q109
              refine start_ (n := 37) (S := fun w' => w'.cell? ⟨gb101, 0, none⟩ = some (.slice (some ad105) l0_0.length c0_0) ∧ w'.cell? ⟨gb101, 1, none⟩ = some (.int .i64 a0_1) ∧ w'.cell? ⟨gb101, 2, none⟩ = some (.int .i64 a0_2) ∧ w'.cell? ⟨gb101, 3, none⟩ = some (.int .i64 a0_3) ∧ w'.cell? (ad105.add ((x3_2).toNat * 5)) = some (.int .i64 ((qk l0_0 x3_2).f0)) ∧ w'.cell? ⟨(ad105.add ((x3_2).toNat * 5)).block, (ad105.add ((x3_2).toNat * 5)).off + 1, none⟩ = some (.int .i64 ((qk l0_0 x3_2).f1)) ∧ w'.cell? ⟨(ad105.add ((x3_2).toNat * 5)).block, (ad105.add ((x3_2).toNat * 5)).off + 2, none⟩ = some (.string ((qk l0_0 x3_2).f2)) ∧ w'.cell? ⟨(ad105.add ((x3_2).toNat * 5)).block, (ad105.add ((x3_2).toNat * 5)).off + 3, none⟩ = some (.string ((qk l0_0 x3_2).f3)) ∧ w'.cell? ⟨(ad105.add ((x3_2).toNat * 5)).block, (ad105.add ((x3_2).toNat * 5)).off + 4, none⟩ = some (.int .i64 ((qk l0_0 x3_2).f4)) ∧ w'.cell? (ad105.add ((x3_2).toNat * 5)) = some (.int .i64 ((qk l0_0 x3_2).f0)) ∧ w'.cell? ⟨(ad105.add ((x3_2).toNat * 5)).block, (ad105.add ((x3_2).toNat * 5)).off + 1, none⟩ = some (.int .i64 ((qk l0_0 x3_2).f1)) ∧ w'.cell? ⟨(ad105.add ((x3_2).toNat * 5)).block, (ad105.add ((x3_2).toNat * 5)).off + 2, none⟩ = some (.string ((qk l0_0 x3_2).f2)) ∧ w'.cell? ⟨(ad105.add ((x3_2).toNat * 5)).block, (ad105.add ((x3_2).toNat * 5)).off + 3, none⟩ = some (.string ((qk l0_0 x3_2).f3)) ∧ w'.cell? ⟨(ad105.add ((x3_2).toNat * 5)).block, (ad105.add ((x3_2).toNat * 5)).off + 4, none⟩ = some (.int .i64 ((qk l0_0 x3_2).f4)) ∧ w'.cell? (ad105.add (((ji25)).toNat * 5)) = some (.int .i64 ((qk l0_0 (ji25)).f0)) ∧ w'.cell? ⟨(ad105.add (((ji25)).toNat * 5)).block, (ad105.add (((ji25)).toNat * 5)).off + 1, none⟩ = some (.int .i64 ((qk l0_0 (ji25)).f1)) ∧ w'.cell? ⟨(ad105.add (((ji25)).toNat * 5)).block, (ad105.add (((ji25)).toNat * 5)).off + 2, none⟩ = some (.string ((qk l0_0 (ji25)).f2)) ∧ w'.cell? ⟨(ad105.add (((ji25)).toNat * 5)).block, (ad105.add (((ji25)).toNat * 5)).off + 3, none⟩ = some (.string ((qk l0_0 (ji25)).f3)) ∧ w'.cell? ⟨(ad105.add (((ji25)).toNat * 5)).block, (ad105.add (((ji25)).toNat * 5)).off + 4, none⟩ = some (.int .i64 ((qk l0_0 (ji25)).f4)) ∧ w'.cell? (ad105.add ((x3_2).toNat * 5)) = some (.int .i64 ((qk l0_0 x3_2).f0)) ∧ w'.cell? ⟨(ad105.add ((x3_2).toNat * 5)).block, (ad105.add ((x3_2).toNat * 5)).off + 1, none⟩ = some (.int .i64 ((qk l0_0 x3_2).f1)) ∧ w'.cell? ⟨(ad105.add ((x3_2).toNat * 5)).block, (ad105.add ((x3_2).toNat * 5)).off + 2, none⟩ = some (.string ((qk l0_0 x3_2).f2)) ∧ w'.cell? ⟨(ad105.add ((x3_2).toNat * 5)).block, (ad105.add ((x3_2).toNat * 5)).off + 3, none⟩ = some (.string ((qk l0_0 x3_2).f3)) ∧ w'.cell? ⟨(ad105.add ((x3_2).toNat * 5)).block, (ad105.add ((x3_2).toNat * 5)).off + 4, none⟩ = some (.int .i64 ((qk l0_0 x3_2).f4))) (ds := []) bq0 (by kernel_rfl) rfl rfl ⟨(qe BK101.out 0).trans rfl, (qe BK101.out 1).trans rfl, (qe BK101.out 2).trans rfl, (qe BK101.out 3).trans rfl, ((HB.out.cell (World.block_lt_of_cell? w _ hw105_0)).trans hw105_0), ((HB.out.cell (World.block_lt_of_cell? w _ hw105_1)).trans hw105_1), ((HB.out.cell (World.block_lt_of_cell? w _ hw105_2)).trans hw105_2), ((HB.out.cell (World.block_lt_of_cell? w _ hw105_3)).trans hw105_3), ((HB.out.cell (World.block_lt_of_cell? w _ hw105_4)).trans hw105_4), ((HB.out.cell (World.block_lt_of_cell? w _ hw107_0)).trans hw107_0), ((HB.out.cell (World.block_lt_of_cell? w _ hw107_1)).trans hw107_1), ((HB.out.cell (World.block_lt_of_cell? w _ hw107_2)).trans hw107_2), ((HB.out.cell (World.block_lt_of_cell? w _ hw107_3)).trans hw107_3), ((HB.out.cell (World.block_lt_of_cell? w _ hw107_4)).trans hw107_4), ((HB.out.cell (World.block_lt_of_cell? w _ hw108_0)).trans hw108_0), ((HB.out.cell (World.block_lt_of_cell? w _ hw108_1)).trans hw108_1), ((HB.out.cell (World.block_lt_of_cell? w _ hw108_2)).trans hw108_2), ((HB.out.cell (World.block_lt_of_cell? w _ hw108_3)).trans hw108_3), ((HB.out.cell (World.block_lt_of_cell? w _ hw108_4)).trans hw108_4), ((HB.out.cell (World.block_lt_of_cell? w _ hw109_0)).trans hw109_0), ((HB.out.cell (World.block_lt_of_cell? w _ hw109_1)).trans hw109_1), ((HB.out.cell (World.block_lt_of_cell? w _ hw109_2)).trans hw109_2), ((HB.out.cell (World.block_lt_of_cell? w _ hw109_3)).trans hw109_3), ((HB.out.cell (World.block_lt_of_cell? w _ hw109_4)).trans hw109_4)⟩ (fun hHeld => ?_); refine with_tabW spec_VersionOk.tab6 spec_VersionOk.bits6 (fun HT_ HW_ => ?_)
              generalize wr.drew = w29 at BK101 HB hx105_0 hx105_1 hx105_2 hx105_3 hx105_4 hx107_0 hx107_1 hx107_2 hx107_3 hx107_4 hx108_0 hx108_1 hx108_2 hx108_3 hx108_4 hx109_0 hx109_1 hx109_2 hx109_3 hx109_4 hHeld ⊢
              refine pure_ (i := 0) (N := some 37) (v := ?_) (a' := ?_) bq4 rfl rfl (qq HT_.out (by kernel_rfl)) (fun _ _ _ h => h) (Or.inl ⟨by rfl, ?_⟩) ?_ ?_
              rotate_left
              ·intro w'
               go_simp
               with_reducible rfl
              rotate_left
              ·simp only [Act.put, sq1, sq2, sq3, i64_w, i32_w]
               rfl
              refine pure_ (i := 2) (N := some 39) (v := ?_) (a' := ?_) bq8 rfl rfl (qq HT_.out (by kernel_rfl)) (fun _ _ _ h => h) (Or.inl ⟨by rfl, ?_⟩) ?_ ?_
              rotate_left
              ·intro w'
               go_simp
               with_reducible rfl
              rotate_left
              ·simp only [Act.put, sq1, sq2, sq3, i64_w, i32_w]
               rfl
              refine take_ (i := 1) (N := some 38) (v := ?_) (a' := ?_) bq14 rfl rfl (take_ofW HT_.out HW_.out (by kernel_rfl)) (fun _ _ _ h => h) (Or.inl ⟨by rfl, ?_⟩) hHeld ?_ ?_
              rotate_left
              ·rintro w' ⟨s0, s1, s2, s3, s4, s5, s6, s7, s8, s9, s10, s11, s12, s13, s14, s15, s16, s17, s18, s19, s20, s21, s22, s23⟩
               go_simp
               with_reducible rfl
              rotate_left
              ·simp only [Act.put, sq1, sq2, sq3, i64_w, i32_w]
               rfl
              refine pure_ (i := 3) (N := some 40) (v := ?_) (a' := ?_) bq21 rfl rfl (qq HT_.out (by kernel_rfl)) (fun _ _ _ h => h) (Or.inl ⟨by rfl, ?_⟩) ?_ ?_
              rotate_left
              ·intro w'
               go_simp
               with_reducible rfl
              rotate_left
              ·simp only [Act.put, sq1, sq2, sq3, i64_w, i32_w]
               rfl
              refine take_ (i := 4) (N := some 41) (v := ?_) (a' := ?_) bq25 rfl rfl (take_ofW HT_.out HW_.out (by kernel_rfl)) (fun _ _ _ h => h) (Or.inl ⟨by rfl, ?_⟩) hHeld ?_ ?_
              rotate_left
              ·rintro w' ⟨s0, s1, s2, s3, s4, s5, s6, s7, s8, s9, s10, s11, s12, s13, s14, s15, s16, s17, s18, s19, s20, s21, s22, s23⟩
               go_simp
               with_reducible rfl
              rotate_left
              ·simp only [Act.put, sq1, sq2, sq3, i64_w, i32_w]
               rfl
              refine one_ (i := 5) (N := some 42) bq27 rfl rfl (one_of HT_.out (by kernel_rfl)) (by decide) (fun K hK => ?_)
              refine goes_ Try.func64 (by kernel_rfl) rfl #[.agg #[.int .i64 ((qk l0_0 x3_2).f0), .int .i64 ((qk l0_0 x3_2).f1), .string ((qk l0_0 x3_2).f2), .string ((qk l0_0 x3_2).f3), .int .i64 ((qk l0_0 x3_2).f4)]] (by rfl) rfl rfl (by (try simp only [List.map_toArray, List.map_cons, List.map_nil]); first | done | rfl) ?_
              with_reducible refine (spec_l12Meta.calls ((qk l0_0 x3_2).f0) ((qk l0_0 x3_2).f1) ((qk l0_0 x3_2).f2) ((qk l0_0 x3_2).f3) ((qk l0_0 x3_2).f4) true _ A19.out).mono ?_
              rintro e w30 ⟨rfl, hb⟩
              refine ⟨_, rfl, ?_⟩
              replace BK101 := Qz.mk (qr (g := gb101) (o := .cells #[.slice (some ad105) l0_0.length c0_0, .int .i64 a0_1, .int .i64 a0_2, .int .i64 a0_3] 32 (0, 0)) (by (with_reducible repeat (first | refine qh ?_ _ | refine qj ?_ | refine qg ?_ _)); exact BK101.out) hb)
              replace HB := Qz.mk (qp (by repeat (first | (with_reducible first | exact HB.out | apply qf | apply qa | apply qd | refine qi ?_ GE101.out) | exact HB.out)) hb)
              (try clear hb)
              refine hK.out _ _ ⟨(qe BK101.out 0).trans rfl, (qe BK101.out 1).trans rfl, (qe BK101.out 2).trans rfl, (qe BK101.out 3).trans rfl, ((HB.out.cell (World.block_lt_of_cell? w _ hw105_0)).trans hw105_0), ((HB.out.cell (World.block_lt_of_cell? w _ hw105_1)).trans hw105_1), ((HB.out.cell (World.block_lt_of_cell? w _ hw105_2)).trans hw105_2), ((HB.out.cell (World.block_lt_of_cell? w _ hw105_3)).trans hw105_3), ((HB.out.cell (World.block_lt_of_cell? w _ hw105_4)).trans hw105_4), ((HB.out.cell (World.block_lt_of_cell? w _ hw107_0)).trans hw107_0), ((HB.out.cell (World.block_lt_of_cell? w _ hw107_1)).trans hw107_1), ((HB.out.cell (World.block_lt_of_cell? w _ hw107_2)).trans hw107_2), ((HB.out.cell (World.block_lt_of_cell? w _ hw107_3)).trans hw107_3), ((HB.out.cell (World.block_lt_of_cell? w _ hw107_4)).trans hw107_4), ((HB.out.cell (World.block_lt_of_cell? w _ hw108_0)).trans hw108_0), ((HB.out.cell (World.block_lt_of_cell? w _ hw108_1)).trans hw108_1), ((HB.out.cell (World.block_lt_of_cell? w _ hw108_2)).trans hw108_2), ((HB.out.cell (World.block_lt_of_cell? w _ hw108_3)).trans hw108_3), ((HB.out.cell (World.block_lt_of_cell? w _ hw108_4)).trans hw108_4), ((HB.out.cell (World.block_lt_of_cell? w _ hw109_0)).trans hw109_0), ((HB.out.cell (World.block_lt_of_cell? w _ hw109_1)).trans hw109_1), ((HB.out.cell (World.block_lt_of_cell? w _ hw109_2)).trans hw109_2), ((HB.out.cell (World.block_lt_of_cell? w _ hw109_3)).trans hw109_3), ((HB.out.cell (World.block_lt_of_cell? w _ hw109_4)).trans hw109_4)⟩ (fun hHeld => ?_)
              clear hK K
              refine norm_ (a' := ?_) ?_ ?_
              rotate_left
              ·show Act.put _ (some 42) _ = _
               simp only [Act.put, sq1, sq2, sq3, i64_w, i32_w]
               rfl
              refine pure_ (i := 6) (N := some 43) (v := ?_) (a' := ?_) bq29 rfl rfl (qq HT_.out (by kernel_rfl)) (fun _ _ _ h => h) (Or.inl ⟨by rfl, ?_⟩) ?_ ?_
              rotate_left
              ·intro w'
               go_simp
               with_reducible rfl
              rotate_left
              ·simp only [Act.put, sq1, sq2, sq3, i64_w, i32_w]
               rfl
              refine pure_ (i := 7) (N := some 44) (v := ?_) (a' := ?_) bq33 rfl rfl (qq HT_.out (by kernel_rfl)) (fun _ _ _ h => h) (Or.inl ⟨by rfl, ?_⟩) ?_ ?_
              rotate_left
              ·intro w'
               go_simp
               with_reducible rfl
              rotate_left
              ·simp only [Act.put, sq1, sq2, sq3, i64_w, i32_w]
               rfl
              refine pure_ (i := 8) (N := some 45) (v := ?_) (a' := ?_) bq35 rfl rfl (qq HT_.out (by kernel_rfl)) (fun _ _ _ h => h) (Or.inl ⟨by rfl, ?_⟩) ?_ ?_
              rotate_left
              ·intro w'
               go_simp
               with_reducible rfl
              rotate_left
              ·simp only [Act.put, sq1, sq2, sq3, i64_w, i32_w]
               rfl
              refine pure_ (i := 10) (N := some 47) (v := ?_) (a' := ?_) bq37 rfl rfl (qq HT_.out (by kernel_rfl)) (fun _ _ _ h => h) (Or.inl ⟨by rfl, ?_⟩) ?_ ?_
              rotate_left
              ·intro w'
               go_simp
               with_reducible rfl
              rotate_left
              ·simp only [Act.put, sq1, sq2, sq3, i64_w, i32_w]
               rfl
              refine pure_ (i := 14) (N := some 51) (v := ?_) (a' := ?_) bq38 rfl rfl (qq HT_.out (by kernel_rfl)) (fun _ _ _ h => h) (Or.inl ⟨by rfl, ?_⟩) ?_ ?_
              rotate_left
              ·intro w'
               go_simp
               with_reducible rfl
              rotate_left
              ·simp only [Act.put, sq1, sq2, sq3, i64_w, i32_w]
               rfl
              refine take_ (i := 9) (N := some 46) (v := ?_) (a' := ?_) bq41 rfl rfl (take_ofW HT_.out HW_.out (by kernel_rfl)) (fun _ _ _ h => h) (Or.inl ⟨by rfl, ?_⟩) hHeld ?_ ?_
              rotate_left
              ·rintro w' ⟨s0, s1, s2, s3, s4, s5, s6, s7, s8, s9, s10, s11, s12, s13, s14, s15, s16, s17, s18, s19, s20, s21, s22, s23⟩
               go_simp
               with_reducible rfl
              rotate_left
              ·simp only [Act.put, sq1, sq2, sq3, i64_w, i32_w]
               rfl
              refine pure_ (i := 11) (N := some 48) (v := ?_) (a' := ?_) bq43 rfl rfl (qq HT_.out (by kernel_rfl)) (fun _ _ _ h => h) (Or.inl ⟨by rfl, ?_⟩) ?_ ?_
              rotate_left
              ·intro w'
               go_simp
               with_reducible rfl
              rotate_left
              ·simp only [Act.put, sq1, sq2, sq3, i64_w, i32_w]
               rfl
              refine pure_ (i := 12) (N := some 49) (v := ?_) (a' := ?_) bq45 rfl rfl (qq HT_.out (by kernel_rfl)) (fun _ _ _ h => h) (Or.inl ⟨by rfl, ?_⟩) ?_ ?_
              rotate_left
              ·intro w'
               go_simp
               with_reducible rfl
              rotate_left
              ·simp only [Act.put, sq1, sq2, sq3, i64_w, i32_w]
               rfl
              refine take_ (i := 13) (N := some 50) (v := ?_) (a' := ?_) bq46 rfl rfl (take_ofW HT_.out HW_.out (by kernel_rfl)) (fun _ _ _ h => h) (Or.inl ⟨by rfl, ?_⟩) hHeld ?_ ?_
              rotate_left
              ·rintro w' ⟨s0, s1, s2, s3, s4, s5, s6, s7, s8, s9, s10, s11, s12, s13, s14, s15, s16, s17, s18, s19, s20, s21, s22, s23⟩
               go_simp
               with_reducible rfl
              rotate_left
              ·simp only [Act.put, sq1, sq2, sq3, i64_w, i32_w]
               rfl
              refine take_ (i := 15) (N := some 52) (v := ?_) (a' := ?_) bq47 rfl rfl (take_ofW HT_.out HW_.out (by kernel_rfl)) (fun _ _ _ h => h) (Or.inl ⟨by rfl, ?_⟩) hHeld ?_ ?_
              rotate_left
              ·rintro w' ⟨s0, s1, s2, s3, s4, s5, s6, s7, s8, s9, s10, s11, s12, s13, s14, s15, s16, s17, s18, s19, s20, s21, s22, s23⟩
               go_simp
               with_reducible rfl
              rotate_left
              ·simp only [Act.put, sq1, sq2, sq3, i64_w, i32_w]
               rfl
              refine pure_ (i := 16) (N := some 53) (v := ?_) (a' := ?_) bq48 rfl rfl (qq HT_.out (by kernel_rfl)) (fun _ _ _ h => h) (Or.inl ⟨by rfl, ?_⟩) ?_ ?_
              rotate_left
              ·intro w'
               go_simp
               with_reducible rfl
              rotate_left
              ·simp only [Act.put, sq1, sq2, sq3, i64_w, i32_w]
               rfl
              refine pure_ (i := 17) (N := some 54) (v := ?_) (a' := ?_) bq49 rfl rfl (qq HT_.out (by kernel_rfl)) (fun _ _ _ h => h) (Or.inl ⟨by rfl, ?_⟩) ?_ ?_
              rotate_left
              ·intro w'
               go_simp
               with_reducible rfl
              rotate_left
              ·simp only [Act.put, sq1, sq2, sq3, i64_w, i32_w]
               rfl
              refine pure_ (i := 18) (N := some 55) (v := ?_) (a' := ?_) bq50 rfl rfl (qq HT_.out (by kernel_rfl)) (fun _ _ _ h => h) (Or.inl ⟨by rfl, ?_⟩) ?_ ?_
              rotate_left
              ·intro w'
               go_simp
               with_reducible rfl
              rotate_left
              ·simp only [Act.put, sq1, sq2, sq3, i64_w, i32_w]
               rfl
              refine pure_ (i := 19) (N := some 56) (v := ?_) (a' := ?_) bq51 rfl rfl (qq HT_.out (by kernel_rfl)) (fun _ _ _ h => h) (Or.inl ⟨by rfl, ?_⟩) ?_ ?_
              rotate_left
              ·intro w'
               go_simp
               with_reducible rfl
              rotate_left
              ·simp only [Act.put, sq1, sq2, sq3, i64_w, i32_w]
               rfl
              refine pure_ (i := 20) (N := some 57) (v := ?_) (a' := ?_) bq52 rfl rfl (qq HT_.out (by kernel_rfl)) (fun _ _ _ h => h) (Or.inl ⟨by rfl, ?_⟩) ?_ ?_
              rotate_left
              ·intro w'
               go_simp
               with_reducible rfl
              rotate_left
              ·simp only [Act.put, sq1, sq2, sq3, i64_w, i32_w]
               rfl
              refine pure_ (i := 21) (N := some 58) (v := ?_) (a' := ?_) bq53 rfl rfl (qq HT_.out (by kernel_rfl)) (fun _ _ _ h => h) (Or.inl ⟨by rfl, ?_⟩) ?_ ?_
              rotate_left
              ·intro w'
               go_simp
               with_reducible rfl
              rotate_left
              ·simp only [Act.put, sq1, sq2, sq3, i64_w, i32_w]
               rfl
              refine pure_ (i := 22) (N := some 59) (v := ?_) (a' := ?_) bq54 rfl rfl (qq HT_.out (by kernel_rfl)) (fun _ _ _ h => h) (Or.inl ⟨by rfl, ?_⟩) ?_ ?_
              rotate_left
              ·intro w'
               go_simp
               with_reducible rfl
              rotate_left
              ·simp only [Act.put, sq1, sq2, sq3, i64_w, i32_w]
               rfl
              refine pure_ (i := 24) (N := some 61) (v := ?_) (a' := ?_) #[true, true, true, true, true, true, true, true, true, true, true, true, true, true, true, true, true, true, true, true, true, true, true, false, true, false, false, false, false, false, false, false, false, false, false, false, false] rfl rfl (qq HT_.out (by kernel_rfl)) (fun _ _ _ h => h) (Or.inl ⟨by rfl, ?_⟩) ?_ ?_
              rotate_left
              ·intro w'
               go_simp
               with_reducible rfl
              rotate_left
              ·simp only [Act.put, sq1, sq2, sq3, i64_w, i32_w]
               rfl
              refine pure_ (i := 25) (N := some 62) (v := ?_) (a' := ?_) #[true, true, true, true, true, true, true, true, true, true, true, true, true, true, true, true, true, true, true, true, true, true, true, false, true, true, false, false, false, false, false, false, false, false, false, false, false] rfl rfl (qq HT_.out (by kernel_rfl)) (fun _ _ _ h => h) (Or.inl ⟨by rfl, ?_⟩) ?_ ?_
              rotate_left
              ·intro w'
               go_simp
               with_reducible rfl
              rotate_left
              ·simp only [Act.put, sq1, sq2, sq3, i64_w, i32_w]
               rfl
              refine pure_ (i := 28) (N := some 65) (v := ?_) (a' := ?_) #[true, true, true, true, true, true, true, true, true, true, true, true, true, true, true, true, true, true, true, true, true, true, true, false, true, true, false, false, true, false, false, false, false, false, false, false, false] rfl rfl (qq HT_.out (by kernel_rfl)) (fun _ _ _ h => h) (Or.inl ⟨by rfl, ?_⟩) ?_ ?_
              rotate_left
              ·intro w'
               go_simp
               with_reducible rfl
              rotate_left
              ·simp only [Act.put, sq1, sq2, sq3, i64_w, i32_w]
               rfl
              refine pure_ (i := 30) (N := some 67) (v := ?_) (a' := ?_) #[true, true, true, true, true, true, true, true, true, true, true, true, true, true, true, true, true, true, true, true, true, true, true, false, true, true, false, false, true, false, true, false, false, false, false, false, false] rfl rfl (qq HT_.out (by kernel_rfl)) (fun _ _ _ h => h) (Or.inl ⟨by rfl, ?_⟩) ?_ ?_
              rotate_left
              ·intro w'
               go_simp
               with_reducible rfl
              rotate_left
              ·simp only [Act.put, sq1, sq2, sq3, i64_w, i32_w]
               rfl
              refine take_ (i := 23) (N := some 60) (v := ?_) (a' := ?_) #[true, true, true, true, true, true, true, true, true, true, true, true, true, true, true, true, true, true, true, true, true, true, true, true, true, true, false, false, true, false, true, false, false, false, false, false, false] rfl rfl (take_ofW HT_.out HW_.out (by kernel_rfl)) (fun _ _ _ h => h) (Or.inl ⟨by rfl, ?_⟩) hHeld ?_ ?_
              rotate_left
              ·rintro w' ⟨s0, s1, s2, s3, s4, s5, s6, s7, s8, s9, s10, s11, s12, s13, s14, s15, s16, s17, s18, s19, s20, s21, s22, s23⟩
               go_simp
               with_reducible rfl
              rotate_left
              ·simp only [Act.put, sq1, sq2, sq3, i64_w, i32_w]
               rfl
              refine pure_ (i := 26) (N := some 63) (v := ?_) (a' := ?_) #[true, true, true, true, true, true, true, true, true, true, true, true, true, true, true, true, true, true, true, true, true, true, true, true, true, true, true, false, true, false, true, false, false, false, false, false, false] rfl rfl (qq HT_.out (by kernel_rfl)) (fun _ _ _ h => h) (Or.inl ⟨by rfl, ?_⟩) ?_ ?_
              rotate_left
              ·intro w'
               go_simp
               with_reducible rfl
              rotate_left
              ·simp only [Act.put, sq1, sq2, sq3, i64_w, i32_w]
               rfl
              refine take_ (i := 27) (N := some 64) (v := ?_) (a' := ?_) #[true, true, true, true, true, true, true, true, true, true, true, true, true, true, true, true, true, true, true, true, true, true, true, true, true, true, true, true, true, false, true, false, false, false, false, false, false] rfl rfl (take_ofW HT_.out HW_.out (by kernel_rfl)) (fun _ _ _ h => h) (Or.inl ⟨by rfl, ?_⟩) hHeld ?_ ?_
              rotate_left
              ·rintro w' ⟨s0, s1, s2, s3, s4, s5, s6, s7, s8, s9, s10, s11, s12, s13, s14, s15, s16, s17, s18, s19, s20, s21, s22, s23⟩
               go_simp
               with_reducible rfl
              rotate_left
              ·simp only [Act.put, sq1, sq2, sq3, i64_w, i32_w]
               rfl
              refine take_ (i := 29) (N := some 66) (v := ?_) (a' := ?_) bq62 rfl rfl (take_ofW HT_.out HW_.out (by kernel_rfl)) (fun _ _ _ h => h) (Or.inl ⟨by rfl, ?_⟩) hHeld ?_ ?_
              rotate_left
              ·rintro w' ⟨s0, s1, s2, s3, s4, s5, s6, s7, s8, s9, s10, s11, s12, s13, s14, s15, s16, s17, s18, s19, s20, s21, s22, s23⟩
               go_simp
               with_reducible rfl
              rotate_left
              ·simp only [Act.put, sq1, sq2, sq3, i64_w, i32_w]
               rfl
              refine pure_ (i := 31) (N := some 68) (v := ?_) (a' := ?_) bq63 rfl rfl (qq HT_.out (by kernel_rfl)) (fun _ _ _ h => h) (Or.inl ⟨by rfl, ?_⟩) ?_ ?_
              rotate_left
              ·intro w'
               go_simp
               with_reducible rfl
              rotate_left
              ·simp only [Act.put, sq1, sq2, sq3, i64_w, i32_w]
               rfl
              refine take_ (i := 32) (N := some 69) (v := ?_) (a' := ?_) bq64 rfl rfl (take_ofW HT_.out HW_.out (by kernel_rfl)) (fun _ _ _ h => h) (Or.inl ⟨by rfl, ?_⟩) hHeld ?_ ?_
              rotate_left
              ·rintro w' ⟨s0, s1, s2, s3, s4, s5, s6, s7, s8, s9, s10, s11, s12, s13, s14, s15, s16, s17, s18, s19, s20, s21, s22, s23⟩
               go_simp
               with_reducible rfl
              rotate_left
              ·simp only [Act.put, sq1, sq2, sq3, i64_w, i32_w]
               rfl
              refine one_ (i := 33) (N := some 70) bq65 rfl rfl (one_of HT_.out (by kernel_rfl)) (by decide) (fun K hK => ?_)
              refine goes_ Try.func56 (by kernel_rfl) rfl #[.agg #[.int .i64 ((qk l0_0 (ji25)).f0), .int .i64 ((qk l0_0 (ji25)).f1), .string ((qk l0_0 (ji25)).f2), .string ((qk l0_0 (ji25)).f3), .int .i64 ((qk l0_0 (ji25)).f4)], .agg #[.int .i64 ((qk l0_0 x3_2).f0), .int .i64 ((qk l0_0 x3_2).f1), .string ((qk l0_0 x3_2).f2), .string ((qk l0_0 x3_2).f3), .int .i64 ((qk l0_0 x3_2).f4)]] (by rfl) rfl rfl (by (try simp only [List.map_toArray, List.map_cons, List.map_nil]); first | done | (simp only [hji25]; rfl) | rfl | (simp only [List.length_drop, List.length_take]; rfl) | (rw [IntWalk.u64_in _ (by omega)] <;> rfl)) ?_
              with_reducible refine (spec_l12Ahead.calls ((qk l0_0 (ji25)).f0) ((qk l0_0 (ji25)).f1) ((qk l0_0 (ji25)).f2) ((qk l0_0 (ji25)).f3) ((qk l0_0 (ji25)).f4) ((qk l0_0 x3_2).f0) ((qk l0_0 x3_2).f1) ((qk l0_0 x3_2).f2) ((qk l0_0 x3_2).f3) ((qk l0_0 x3_2).f4) t110 _ A28.out).mono ?_
              rintro e w31 ⟨rfl, hb⟩
              refine ⟨_, rfl, ?_⟩
              replace BK101 := Qz.mk (qr (g := gb101) (o := .cells #[.slice (some ad105) l0_0.length c0_0, .int .i64 a0_1, .int .i64 a0_2, .int .i64 a0_3] 32 (0, 0)) (by (with_reducible repeat (first | refine qh ?_ _ | refine qj ?_ | refine qg ?_ _)); exact BK101.out) hb)
              replace HB := Qz.mk (qp (by repeat (first | (with_reducible first | exact HB.out | apply qf | apply qa | apply qd | refine qi ?_ GE101.out) | exact HB.out)) hb)
              (try clear hb)
              refine hK.out _ _ ⟨(qe BK101.out 0).trans rfl, (qe BK101.out 1).trans rfl, (qe BK101.out 2).trans rfl, (qe BK101.out 3).trans rfl, ((HB.out.cell (World.block_lt_of_cell? w _ hw105_0)).trans hw105_0), ((HB.out.cell (World.block_lt_of_cell? w _ hw105_1)).trans hw105_1), ((HB.out.cell (World.block_lt_of_cell? w _ hw105_2)).trans hw105_2), ((HB.out.cell (World.block_lt_of_cell? w _ hw105_3)).trans hw105_3), ((HB.out.cell (World.block_lt_of_cell? w _ hw105_4)).trans hw105_4), ((HB.out.cell (World.block_lt_of_cell? w _ hw107_0)).trans hw107_0), ((HB.out.cell (World.block_lt_of_cell? w _ hw107_1)).trans hw107_1), ((HB.out.cell (World.block_lt_of_cell? w _ hw107_2)).trans hw107_2), ((HB.out.cell (World.block_lt_of_cell? w _ hw107_3)).trans hw107_3), ((HB.out.cell (World.block_lt_of_cell? w _ hw107_4)).trans hw107_4), ((HB.out.cell (World.block_lt_of_cell? w _ hw108_0)).trans hw108_0), ((HB.out.cell (World.block_lt_of_cell? w _ hw108_1)).trans hw108_1), ((HB.out.cell (World.block_lt_of_cell? w _ hw108_2)).trans hw108_2), ((HB.out.cell (World.block_lt_of_cell? w _ hw108_3)).trans hw108_3), ((HB.out.cell (World.block_lt_of_cell? w _ hw108_4)).trans hw108_4), ((HB.out.cell (World.block_lt_of_cell? w _ hw109_0)).trans hw109_0), ((HB.out.cell (World.block_lt_of_cell? w _ hw109_1)).trans hw109_1), ((HB.out.cell (World.block_lt_of_cell? w _ hw109_2)).trans hw109_2), ((HB.out.cell (World.block_lt_of_cell? w _ hw109_3)).trans hw109_3), ((HB.out.cell (World.block_lt_of_cell? w _ hw109_4)).trans hw109_4)⟩ (fun hHeld => ?_)
              clear hK K
              refine norm_ (a' := ?_) ?_ ?_
              rotate_left
              ·show Act.put _ (some 70) _ = _
               simp only [Act.put, sq1, sq2, sq3, i64_w, i32_w]
               rfl
              refine pure_ (i := 34) (N := some 71) (v := ?_) (a' := ?_) bq66 rfl rfl (qq HT_.out (by kernel_rfl)) (fun _ _ _ h => h) (Or.inl ⟨by rfl, ?_⟩) ?_ ?_
              rotate_left
              ·intro w'
               go_simp
               with_reducible rfl
              rotate_left
              ·simp only [Act.put, sq1, sq2, sq3, i64_w, i32_w]
               rfl
              refine pure_ (i := 35) (N := some 72) (v := ?_) (a' := ?_) bq67 rfl rfl (qq HT_.out (by kernel_rfl)) (fun _ _ _ h => h) (Or.inl ⟨by rfl, ?_⟩) ?_ ?_
              rotate_left
              ·intro w'
               go_simp
               with_reducible rfl
              rotate_left
              ·simp only [Act.put, sq1, sq2, sq3, i64_w, i32_w]
               rfl
              refine pure_ (i := 36) (N := some 73) (v := ?_) (a' := ?_) bq68 rfl rfl (qq HT_.out (by kernel_rfl)) (fun _ _ _ h => h) (Or.inl ⟨by rfl, ?_⟩) ?_ ?_
              rotate_left
              ·intro w'
               go_simp
               with_reducible rfl
              rotate_left
              ·simp only [Act.put, sq1, sq2, sq3, i64_w, i32_w]
               rfl
              refine done_ (done_of HT_.out (by kernel_rfl)) ?_
              try go_wp2
              go_meet
              case rel => exact ⟨_, (!t110), (by first | rfl | (simp; done) | (simp [*]; done)), H', ⟨by have := HJ1.out; have := HK2.out; first | omega | exact Nat.le_refl _⟩, ⟨by (with_reducible repeat (first | refine qh ?_ _ | refine qj ?_ | refine qg ?_ _)); exact BK101.out⟩, ⟨by repeat (first | (with_reducible first | exact HB.out | apply qf | apply qa | apply qd | refine qi ?_ GE101.out) | exact HB.out)⟩⟩
             ·rw [if_neg c27] at H
              exact absurd H (by simp)
            ·rw [if_neg c26] at H
             exact absurd H (by simp)
           ·rw [if_neg c24] at H
            have c24b0 : decide (0 < x3_2) = false := decide_eq_false c24
            clear c24
            have H' := Qz.mk H
            clear H
            try go_wp2
            replace BK101 := Qz.mk (qj BK101.out)
            replace HB := Qz.mk (qd HB.out)
            have p105 : 0 ≤ (x3_2 : Int) := of_decide_eq_true (by first | (with_reducible assumption) | assumption)
            have q105 : x3_2 < (l0_0.length : Int) := of_decide_eq_true (by first | (with_reducible assumption) | assumption)
            obtain ⟨ad105, e105, hx105_0, hx105_1, hx105_2, hx105_3, hx105_4⟩ := at_T66 HR0_0.out x3_2 p105 q105
            have hw105_4 := hx105_4
            have hw105_3 := hx105_3
            have hw105_2 := hx105_2
            have hw105_1 := hx105_1
            have hw105_0 := hx105_0
            cases e105
            replace hx105_0 := (HB.out.cell (World.block_lt_of_cell? w _ hx105_0)).trans hx105_0
            replace hx105_1 := (HB.out.cell (World.block_lt_of_cell? w _ hx105_1)).trans hx105_1
            replace hx105_2 := (HB.out.cell (World.block_lt_of_cell? w _ hx105_2)).trans hx105_2
            replace hx105_3 := (HB.out.cell (World.block_lt_of_cell? w _ hx105_3)).trans hx105_3
            replace hx105_4 := (HB.out.cell (World.block_lt_of_cell? w _ hx105_4)).trans hx105_4
            replace p105 := eq_true p105
            replace q105 := eq_true q105
            have p107 : 0 ≤ (x3_2 : Int) := of_decide_eq_true (by first | (with_reducible assumption) | assumption)
            have q107 : x3_2 < (l0_0.length : Int) := of_decide_eq_true (by first | (with_reducible assumption) | assumption)
            obtain ⟨ad107, e107, hx107_0, hx107_1, hx107_2, hx107_3, hx107_4⟩ := at_T66 HR0_0.out x3_2 p107 q107
            have hw107_4 := hx107_4
            have hw107_3 := hx107_3
            have hw107_2 := hx107_2
            have hw107_1 := hx107_1
            have hw107_0 := hx107_0
            obtain rfl : ad105 = ad107 := (by injection e107)
            replace hx107_0 := (HB.out.cell (World.block_lt_of_cell? w _ hx107_0)).trans hx107_0
            replace hx107_1 := (HB.out.cell (World.block_lt_of_cell? w _ hx107_1)).trans hx107_1
            replace hx107_2 := (HB.out.cell (World.block_lt_of_cell? w _ hx107_2)).trans hx107_2
            replace hx107_3 := (HB.out.cell (World.block_lt_of_cell? w _ hx107_3)).trans hx107_3
            replace hx107_4 := (HB.out.cell (World.block_lt_of_cell? w _ hx107_4)).trans hx107_4
            replace p107 := eq_true p107
            replace q107 := eq_true q107
            refine start_ (n := 37) (S := fun w' => w'.cell? ⟨gb101, 0, none⟩ = some (.slice (some ad105) l0_0.length c0_0) ∧ w'.cell? ⟨gb101, 1, none⟩ = some (.int .i64 a0_1) ∧ w'.cell? ⟨gb101, 2, none⟩ = some (.int .i64 a0_2) ∧ w'.cell? ⟨gb101, 3, none⟩ = some (.int .i64 a0_3) ∧ w'.cell? (ad105.add ((x3_2).toNat * 5)) = some (.int .i64 ((qk l0_0 x3_2).f0)) ∧ w'.cell? ⟨(ad105.add ((x3_2).toNat * 5)).block, (ad105.add ((x3_2).toNat * 5)).off + 1, none⟩ = some (.int .i64 ((qk l0_0 x3_2).f1)) ∧ w'.cell? ⟨(ad105.add ((x3_2).toNat * 5)).block, (ad105.add ((x3_2).toNat * 5)).off + 2, none⟩ = some (.string ((qk l0_0 x3_2).f2)) ∧ w'.cell? ⟨(ad105.add ((x3_2).toNat * 5)).block, (ad105.add ((x3_2).toNat * 5)).off + 3, none⟩ = some (.string ((qk l0_0 x3_2).f3)) ∧ w'.cell? ⟨(ad105.add ((x3_2).toNat * 5)).block, (ad105.add ((x3_2).toNat * 5)).off + 4, none⟩ = some (.int .i64 ((qk l0_0 x3_2).f4)) ∧ w'.cell? (ad105.add ((x3_2).toNat * 5)) = some (.int .i64 ((qk l0_0 x3_2).f0)) ∧ w'.cell? ⟨(ad105.add ((x3_2).toNat * 5)).block, (ad105.add ((x3_2).toNat * 5)).off + 1, none⟩ = some (.int .i64 ((qk l0_0 x3_2).f1)) ∧ w'.cell? ⟨(ad105.add ((x3_2).toNat * 5)).block, (ad105.add ((x3_2).toNat * 5)).off + 2, none⟩ = some (.string ((qk l0_0 x3_2).f2)) ∧ w'.cell? ⟨(ad105.add ((x3_2).toNat * 5)).block, (ad105.add ((x3_2).toNat * 5)).off + 3, none⟩ = some (.string ((qk l0_0 x3_2).f3)) ∧ w'.cell? ⟨(ad105.add ((x3_2).toNat * 5)).block, (ad105.add ((x3_2).toNat * 5)).off + 4, none⟩ = some (.int .i64 ((qk l0_0 x3_2).f4))) (ds := []) bq0 (by kernel_rfl) rfl rfl ⟨(qe BK101.out 0).trans rfl, (qe BK101.out 1).trans rfl, (qe BK101.out 2).trans rfl, (qe BK101.out 3).trans rfl, ((HB.out.cell (World.block_lt_of_cell? w _ hw105_0)).trans hw105_0), ((HB.out.cell (World.block_lt_of_cell? w _ hw105_1)).trans hw105_1), ((HB.out.cell (World.block_lt_of_cell? w _ hw105_2)).trans hw105_2), ((HB.out.cell (World.block_lt_of_cell? w _ hw105_3)).trans hw105_3), ((HB.out.cell (World.block_lt_of_cell? w _ hw105_4)).trans hw105_4), ((HB.out.cell (World.block_lt_of_cell? w _ hw107_0)).trans hw107_0), ((HB.out.cell (World.block_lt_of_cell? w _ hw107_1)).trans hw107_1), ((HB.out.cell (World.block_lt_of_cell? w _ hw107_2)).trans hw107_2), ((HB.out.cell (World.block_lt_of_cell? w _ hw107_3)).trans hw107_3), ((HB.out.cell (World.block_lt_of_cell? w _ hw107_4)).trans hw107_4)⟩ (fun hHeld => ?_); refine with_tabW spec_VersionOk.tab6 spec_VersionOk.bits6 (fun HT_ HW_ => ?_)
            generalize wr.drew = w32 at BK101 HB hx105_0 hx105_1 hx105_2 hx105_3 hx105_4 hx107_0 hx107_1 hx107_2 hx107_3 hx107_4 hHeld ⊢
            refine pure_ (i := 0) (N := some 37) (v := ?_) (a' := ?_) bq4 rfl rfl (qq HT_.out (by kernel_rfl)) (fun _ _ _ h => h) (Or.inl ⟨by rfl, ?_⟩) ?_ ?_
            rotate_left
            ·intro w'
             go_simp
             with_reducible rfl
            rotate_left
            ·simp only [Act.put, sq1, sq2, sq3, i64_w, i32_w]
             rfl
            refine pure_ (i := 2) (N := some 39) (v := ?_) (a' := ?_) bq8 rfl rfl (qq HT_.out (by kernel_rfl)) (fun _ _ _ h => h) (Or.inl ⟨by rfl, ?_⟩) ?_ ?_
            rotate_left
            ·intro w'
             go_simp
             with_reducible rfl
            rotate_left
            ·simp only [Act.put, sq1, sq2, sq3, i64_w, i32_w]
             rfl
            refine take_ (i := 1) (N := some 38) (v := ?_) (a' := ?_) bq14 rfl rfl (take_ofW HT_.out HW_.out (by kernel_rfl)) (fun _ _ _ h => h) (Or.inl ⟨by rfl, ?_⟩) hHeld ?_ ?_
            rotate_left
            ·rintro w' ⟨s0, s1, s2, s3, s4, s5, s6, s7, s8, s9, s10, s11, s12, s13⟩
             go_simp
             with_reducible rfl
            rotate_left
            ·simp only [Act.put, sq1, sq2, sq3, i64_w, i32_w]
             rfl
            refine pure_ (i := 3) (N := some 40) (v := ?_) (a' := ?_) bq21 rfl rfl (qq HT_.out (by kernel_rfl)) (fun _ _ _ h => h) (Or.inl ⟨by rfl, ?_⟩) ?_ ?_
            rotate_left
            ·intro w'
             go_simp
             with_reducible rfl
            rotate_left
            ·simp only [Act.put, sq1, sq2, sq3, i64_w, i32_w]
             rfl
            refine take_ (i := 4) (N := some 41) (v := ?_) (a' := ?_) bq25 rfl rfl (take_ofW HT_.out HW_.out (by kernel_rfl)) (fun _ _ _ h => h) (Or.inl ⟨by rfl, ?_⟩) hHeld ?_ ?_
            rotate_left
            ·rintro w' ⟨s0, s1, s2, s3, s4, s5, s6, s7, s8, s9, s10, s11, s12, s13⟩
             go_simp
             with_reducible rfl
            rotate_left
            ·simp only [Act.put, sq1, sq2, sq3, i64_w, i32_w]
             rfl
            refine one_ (i := 5) (N := some 42) bq27 rfl rfl (one_of HT_.out (by kernel_rfl)) (by decide) (fun K hK => ?_)
            refine goes_ Try.func64 (by kernel_rfl) rfl #[.agg #[.int .i64 ((qk l0_0 x3_2).f0), .int .i64 ((qk l0_0 x3_2).f1), .string ((qk l0_0 x3_2).f2), .string ((qk l0_0 x3_2).f3), .int .i64 ((qk l0_0 x3_2).f4)]] (by rfl) rfl rfl (by (try simp only [List.map_toArray, List.map_cons, List.map_nil]); first | done | rfl) ?_
            with_reducible refine (spec_l12Meta.calls ((qk l0_0 x3_2).f0) ((qk l0_0 x3_2).f1) ((qk l0_0 x3_2).f2) ((qk l0_0 x3_2).f3) ((qk l0_0 x3_2).f4) true _ A19.out).mono ?_
            rintro e w33 ⟨rfl, hb⟩
            refine ⟨_, rfl, ?_⟩
            replace BK101 := Qz.mk (qr (g := gb101) (o := .cells #[.slice (some ad105) l0_0.length c0_0, .int .i64 a0_1, .int .i64 a0_2, .int .i64 a0_3] 32 (0, 0)) (by (with_reducible repeat (first | refine qh ?_ _ | refine qj ?_ | refine qg ?_ _)); exact BK101.out) hb)
            replace HB := Qz.mk (qp (by repeat (first | (with_reducible first | exact HB.out | apply qf | apply qa | apply qd | refine qi ?_ GE101.out) | exact HB.out)) hb)
            (try clear hb)
            refine hK.out _ _ ⟨(qe BK101.out 0).trans rfl, (qe BK101.out 1).trans rfl, (qe BK101.out 2).trans rfl, (qe BK101.out 3).trans rfl, ((HB.out.cell (World.block_lt_of_cell? w _ hw105_0)).trans hw105_0), ((HB.out.cell (World.block_lt_of_cell? w _ hw105_1)).trans hw105_1), ((HB.out.cell (World.block_lt_of_cell? w _ hw105_2)).trans hw105_2), ((HB.out.cell (World.block_lt_of_cell? w _ hw105_3)).trans hw105_3), ((HB.out.cell (World.block_lt_of_cell? w _ hw105_4)).trans hw105_4), ((HB.out.cell (World.block_lt_of_cell? w _ hw107_0)).trans hw107_0), ((HB.out.cell (World.block_lt_of_cell? w _ hw107_1)).trans hw107_1), ((HB.out.cell (World.block_lt_of_cell? w _ hw107_2)).trans hw107_2), ((HB.out.cell (World.block_lt_of_cell? w _ hw107_3)).trans hw107_3), ((HB.out.cell (World.block_lt_of_cell? w _ hw107_4)).trans hw107_4)⟩ (fun hHeld => ?_)
            clear hK K
            refine norm_ (a' := ?_) ?_ ?_
            rotate_left
            ·show Act.put _ (some 42) _ = _
             simp only [Act.put, sq1, sq2, sq3, i64_w, i32_w]
             rfl
            refine pure_ (i := 6) (N := some 43) (v := ?_) (a' := ?_) bq29 rfl rfl (qq HT_.out (by kernel_rfl)) (fun _ _ _ h => h) (Or.inl ⟨by rfl, ?_⟩) ?_ ?_
            rotate_left
            ·intro w'
             go_simp
             with_reducible rfl
            rotate_left
            ·simp only [Act.put, sq1, sq2, sq3, i64_w, i32_w]
             rfl
            refine pure_ (i := 7) (N := some 44) (v := ?_) (a' := ?_) bq33 rfl rfl (qq HT_.out (by kernel_rfl)) (fun _ _ _ h => h) (Or.inl ⟨by rfl, ?_⟩) ?_ ?_
            rotate_left
            ·intro w'
             go_simp
             with_reducible rfl
            rotate_left
            ·simp only [Act.put, sq1, sq2, sq3, i64_w, i32_w]
             rfl
            refine pure_ (i := 8) (N := some 45) (v := ?_) (a' := ?_) bq35 rfl rfl (qq HT_.out (by kernel_rfl)) (fun _ _ _ h => h) (Or.inl ⟨by rfl, ?_⟩) ?_ ?_
            rotate_left
            ·intro w'
             go_simp
             with_reducible rfl
            rotate_left
            ·simp only [Act.put, sq1, sq2, sq3, i64_w, i32_w]
             rfl
            refine pure_ (i := 10) (N := some 47) (v := ?_) (a' := ?_) bq37 rfl rfl (qq HT_.out (by kernel_rfl)) (fun _ _ _ h => h) (Or.inl ⟨by rfl, ?_⟩) ?_ ?_
            rotate_left
            ·intro w'
             go_simp
             with_reducible rfl
            rotate_left
            ·simp only [Act.put, sq1, sq2, sq3, i64_w, i32_w]
             rfl
            refine pure_ (i := 14) (N := some 51) (v := ?_) (a' := ?_) bq38 rfl rfl (qq HT_.out (by kernel_rfl)) (fun _ _ _ h => h) (Or.inl ⟨by rfl, ?_⟩) ?_ ?_
            rotate_left
            ·intro w'
             go_simp
             with_reducible rfl
            rotate_left
            ·simp only [Act.put, sq1, sq2, sq3, i64_w, i32_w]
             rfl
            refine take_ (i := 9) (N := some 46) (v := ?_) (a' := ?_) bq41 rfl rfl (take_ofW HT_.out HW_.out (by kernel_rfl)) (fun _ _ _ h => h) (Or.inl ⟨by rfl, ?_⟩) hHeld ?_ ?_
            rotate_left
            ·rintro w' ⟨s0, s1, s2, s3, s4, s5, s6, s7, s8, s9, s10, s11, s12, s13⟩
             go_simp
             with_reducible rfl
            rotate_left
            ·simp only [Act.put, sq1, sq2, sq3, i64_w, i32_w]
             rfl
            refine pure_ (i := 11) (N := some 48) (v := ?_) (a' := ?_) bq43 rfl rfl (qq HT_.out (by kernel_rfl)) (fun _ _ _ h => h) (Or.inl ⟨by rfl, ?_⟩) ?_ ?_
            rotate_left
            ·intro w'
             go_simp
             with_reducible rfl
            rotate_left
            ·simp only [Act.put, sq1, sq2, sq3, i64_w, i32_w]
             rfl
            refine pure_ (i := 12) (N := some 49) (v := ?_) (a' := ?_) bq45 rfl rfl (qq HT_.out (by kernel_rfl)) (fun _ _ _ h => h) (Or.inl ⟨by rfl, ?_⟩) ?_ ?_
            rotate_left
            ·intro w'
             go_simp
             with_reducible rfl
            rotate_left
            ·simp only [Act.put, sq1, sq2, sq3, i64_w, i32_w]
             rfl
            refine take_ (i := 13) (N := some 50) (v := ?_) (a' := ?_) bq46 rfl rfl (take_ofW HT_.out HW_.out (by kernel_rfl)) (fun _ _ _ h => h) (Or.inl ⟨by rfl, ?_⟩) hHeld ?_ ?_
            rotate_left
            ·rintro w' ⟨s0, s1, s2, s3, s4, s5, s6, s7, s8, s9, s10, s11, s12, s13⟩
             go_simp
             with_reducible rfl
            rotate_left
            ·simp only [Act.put, sq1, sq2, sq3, i64_w, i32_w]
             rfl
            refine take_ (i := 15) (N := some 52) (v := ?_) (a' := ?_) bq47 rfl rfl (take_ofW HT_.out HW_.out (by kernel_rfl)) (fun _ _ _ h => h) (Or.inl ⟨by rfl, ?_⟩) hHeld ?_ ?_
            rotate_left
            ·rintro w' ⟨s0, s1, s2, s3, s4, s5, s6, s7, s8, s9, s10, s11, s12, s13⟩
             go_simp
             with_reducible rfl
            rotate_left
            ·simp only [Act.put, sq1, sq2, sq3, i64_w, i32_w]
             rfl
            refine pure_ (i := 16) (N := some 53) (v := ?_) (a' := ?_) bq48 rfl rfl (qq HT_.out (by kernel_rfl)) (fun _ _ _ h => h) (Or.inl ⟨by rfl, ?_⟩) ?_ ?_
            rotate_left
            ·intro w'
             go_simp
             with_reducible rfl
            rotate_left
            ·simp only [Act.put, sq1, sq2, sq3, i64_w, i32_w]
             rfl
            refine pure_ (i := 17) (N := some 54) (v := ?_) (a' := ?_) bq49 rfl rfl (qq HT_.out (by kernel_rfl)) (fun _ _ _ h => h) (Or.inl ⟨by rfl, ?_⟩) ?_ ?_
            rotate_left
            ·intro w'
             go_simp
             with_reducible rfl
            rotate_left
            ·simp only [Act.put, sq1, sq2, sq3, i64_w, i32_w]
             rfl
            refine pure_ (i := 18) (N := some 55) (v := ?_) (a' := ?_) bq50 rfl rfl (qq HT_.out (by kernel_rfl)) (fun _ _ _ h => h) (Or.inl ⟨by rfl, ?_⟩) ?_ ?_
            rotate_left
            ·intro w'
             go_simp
             with_reducible rfl
            rotate_left
            ·simp only [Act.put, sq1, sq2, sq3, i64_w, i32_w]
             rfl
            refine pure_ (i := 19) (N := some 56) (v := ?_) (a' := ?_) bq51 rfl rfl (qq HT_.out (by kernel_rfl)) (fun _ _ _ h => h) (Or.inl ⟨by rfl, ?_⟩) ?_ ?_
            rotate_left
            ·intro w'
             go_simp
             with_reducible rfl
            rotate_left
            ·simp only [Act.put, sq1, sq2, sq3, i64_w, i32_w]
             rfl
            refine pure_ (i := 20) (N := some 57) (v := ?_) (a' := ?_) bq52 rfl rfl (qq HT_.out (by kernel_rfl)) (fun _ _ _ h => h) (Or.inl ⟨by rfl, ?_⟩) ?_ ?_
            rotate_left
            ·intro w'
             go_simp
             with_reducible rfl
            rotate_left
            ·simp only [Act.put, sq1, sq2, sq3, i64_w, i32_w]
             rfl
            refine pure_ (i := 21) (N := some 58) (v := ?_) (a' := ?_) bq53 rfl rfl (qq HT_.out (by kernel_rfl)) (fun _ _ _ h => h) (Or.inl ⟨by rfl, ?_⟩) ?_ ?_
            rotate_left
            ·intro w'
             go_simp
             with_reducible rfl
            rotate_left
            ·simp only [Act.put, sq1, sq2, sq3, i64_w, i32_w]
             rfl
            refine pure_ (i := 22) (N := some 59) (v := undef) (a' := ?_) bq54 rfl rfl (qq HT_.out (by kernel_rfl)) (fun _ _ _ h => h) (Or.inr ⟨by rfl, rfl⟩) ?_ ?_
            rotate_left
            ·simp only [Act.put, sq1, sq2, sq3, i64_w, i32_w]
             rfl
            refine pure_ (i := 23) (N := some 60) (v := undef) (a' := ?_) bq55 rfl rfl (qq HT_.out (by kernel_rfl)) (fun _ _ _ h => h) (Or.inr ⟨by rfl, rfl⟩) ?_ ?_
            rotate_left
            ·simp only [Act.put, sq1, sq2, sq3, i64_w, i32_w]
             rfl
            refine pure_ (i := 24) (N := some 61) (v := undef) (a' := ?_) bq56 rfl rfl (qq HT_.out (by kernel_rfl)) (fun _ _ _ h => h) (Or.inr ⟨by rfl, rfl⟩) ?_ ?_
            rotate_left
            ·simp only [Act.put, sq1, sq2, sq3, i64_w, i32_w]
             rfl
            refine pure_ (i := 25) (N := some 62) (v := undef) (a' := ?_) bq57 rfl rfl (qq HT_.out (by kernel_rfl)) (fun _ _ _ h => h) (Or.inr ⟨by rfl, rfl⟩) ?_ ?_
            rotate_left
            ·simp only [Act.put, sq1, sq2, sq3, i64_w, i32_w]
             rfl
            refine pure_ (i := 26) (N := some 63) (v := undef) (a' := ?_) bq58 rfl rfl (qq HT_.out (by kernel_rfl)) (fun _ _ _ h => h) (Or.inr ⟨by rfl, rfl⟩) ?_ ?_
            rotate_left
            ·simp only [Act.put, sq1, sq2, sq3, i64_w, i32_w]
             rfl
            refine pure_ (i := 27) (N := some 64) (v := undef) (a' := ?_) bq59 rfl rfl (qq HT_.out (by kernel_rfl)) (fun _ _ _ h => h) (Or.inr ⟨by rfl, rfl⟩) ?_ ?_
            rotate_left
            ·simp only [Act.put, sq1, sq2, sq3, i64_w, i32_w]
             rfl
            refine pure_ (i := 28) (N := some 65) (v := undef) (a' := ?_) bq60 rfl rfl (qq HT_.out (by kernel_rfl)) (fun _ _ _ h => h) (Or.inr ⟨by rfl, rfl⟩) ?_ ?_
            rotate_left
            ·simp only [Act.put, sq1, sq2, sq3, i64_w, i32_w]
             rfl
            refine pure_ (i := 29) (N := some 66) (v := undef) (a' := ?_) bq61 rfl rfl (qq HT_.out (by kernel_rfl)) (fun _ _ _ h => h) (Or.inr ⟨by rfl, rfl⟩) ?_ ?_
            rotate_left
            ·simp only [Act.put, sq1, sq2, sq3, i64_w, i32_w]
             rfl
            refine pure_ (i := 30) (N := some 67) (v := undef) (a' := ?_) bq62 rfl rfl (qq HT_.out (by kernel_rfl)) (fun _ _ _ h => h) (Or.inr ⟨by rfl, rfl⟩) ?_ ?_
            rotate_left
            ·simp only [Act.put, sq1, sq2, sq3, i64_w, i32_w]
             rfl
            refine pure_ (i := 31) (N := some 68) (v := undef) (a' := ?_) bq63 rfl rfl (qq HT_.out (by kernel_rfl)) (fun _ _ _ h => h) (Or.inr ⟨by rfl, rfl⟩) ?_ ?_
            rotate_left
            ·simp only [Act.put, sq1, sq2, sq3, i64_w, i32_w]
             rfl
            refine pure_ (i := 32) (N := some 69) (v := undef) (a' := ?_) bq64 rfl rfl (qq HT_.out (by kernel_rfl)) (fun _ _ _ h => h) (Or.inr ⟨by rfl, rfl⟩) ?_ ?_
            rotate_left
            ·simp only [Act.put, sq1, sq2, sq3, i64_w, i32_w]
             rfl
            refine pure_ (i := 33) (N := some 70) (v := undef) (a' := ?_) bq65 rfl rfl (qq HT_.out (by kernel_rfl)) (fun _ _ _ h => h) (Or.inr ⟨by rfl, rfl⟩) ?_ ?_
            rotate_left
            ·simp only [Act.put, sq1, sq2, sq3, i64_w, i32_w]
             rfl
            refine pure_ (i := 34) (N := some 71) (v := undef) (a' := ?_) bq66 rfl rfl (qq HT_.out (by kernel_rfl)) (fun _ _ _ h => h) (Or.inr ⟨by rfl, rfl⟩) ?_ ?_
            rotate_left
            ·simp only [Act.put, sq1, sq2, sq3, i64_w, i32_w]
             rfl
            refine pure_ (i := 35) (N := some 72) (v := ?_) (a' := ?_) bq67 rfl rfl (qq HT_.out (by kernel_rfl)) (fun _ _ _ h => h) (Or.inl ⟨by rfl, ?_⟩) ?_ ?_
            rotate_left
            ·intro w'
             go_simp
             with_reducible rfl
            rotate_left
            ·simp only [Act.put, sq1, sq2, sq3, i64_w, i32_w]
             rfl
            refine pure_ (i := 36) (N := some 73) (v := ?_) (a' := ?_) bq68 rfl rfl (qq HT_.out (by kernel_rfl)) (fun _ _ _ h => h) (Or.inl ⟨by rfl, ?_⟩) ?_ ?_
            rotate_left
            ·intro w'
             go_simp
             with_reducible rfl
            rotate_left
            ·simp only [Act.put, sq1, sq2, sq3, i64_w, i32_w]
             rfl
            refine done_ (done_of HT_.out (by kernel_rfl)) ?_
            try go_wp2
            go_meet
            case rel => exact ⟨_, (false), (by first | rfl | (simp; done) | (simp [*]; done)), H', ⟨by have := HJ1.out; have := HK2.out; first | omega | exact Nat.le_refl _⟩, ⟨by (with_reducible repeat (first | refine qh ?_ _ | refine qj ?_ | refine qg ?_ _)); exact BK101.out⟩, ⟨by repeat (first | (with_reducible first | exact HB.out | apply qf | apply qa | apply qd | refine qi ?_ GE101.out) | exact HB.out)⟩⟩
         ·replace c20 := Bool.eq_false_iff.mpr c20
          subst c20
          have H1 : (spec_VersionOk.j2 k2 x3_2 true l0_0 a0_1 a0_2 a0_3) = some r := by rw [if_neg (show ¬ (false = true) by decide)] at H; exact H
          clear H
          have H := H1
          clear H1
          have H' := Qz.mk H
          clear H
          try go_wp2
          replace BK101 := Qz.mk (qj BK101.out)
          replace HB := Qz.mk (qd HB.out)
          have p105 : 0 ≤ (x3_2 : Int) := of_decide_eq_true (by first | (with_reducible assumption) | assumption)
          have q105 : x3_2 < (l0_0.length : Int) := of_decide_eq_true (by first | (with_reducible assumption) | assumption)
          obtain ⟨ad105, e105, hx105_0, hx105_1, hx105_2, hx105_3, hx105_4⟩ := at_T66 HR0_0.out x3_2 p105 q105
          have hw105_4 := hx105_4
          have hw105_3 := hx105_3
          have hw105_2 := hx105_2
          have hw105_1 := hx105_1
          have hw105_0 := hx105_0
          cases e105
          replace hx105_0 := (HB.out.cell (World.block_lt_of_cell? w _ hx105_0)).trans hx105_0
          replace hx105_1 := (HB.out.cell (World.block_lt_of_cell? w _ hx105_1)).trans hx105_1
          replace hx105_2 := (HB.out.cell (World.block_lt_of_cell? w _ hx105_2)).trans hx105_2
          replace hx105_3 := (HB.out.cell (World.block_lt_of_cell? w _ hx105_3)).trans hx105_3
          replace hx105_4 := (HB.out.cell (World.block_lt_of_cell? w _ hx105_4)).trans hx105_4
          replace p105 := eq_true p105
          replace q105 := eq_true q105
          refine start_ (n := 37) (S := fun w' => w'.cell? ⟨gb101, 0, none⟩ = some (.slice (some ad105) l0_0.length c0_0) ∧ w'.cell? ⟨gb101, 1, none⟩ = some (.int .i64 a0_1) ∧ w'.cell? ⟨gb101, 2, none⟩ = some (.int .i64 a0_2) ∧ w'.cell? ⟨gb101, 3, none⟩ = some (.int .i64 a0_3) ∧ w'.cell? (ad105.add ((x3_2).toNat * 5)) = some (.int .i64 ((qk l0_0 x3_2).f0)) ∧ w'.cell? ⟨(ad105.add ((x3_2).toNat * 5)).block, (ad105.add ((x3_2).toNat * 5)).off + 1, none⟩ = some (.int .i64 ((qk l0_0 x3_2).f1)) ∧ w'.cell? ⟨(ad105.add ((x3_2).toNat * 5)).block, (ad105.add ((x3_2).toNat * 5)).off + 2, none⟩ = some (.string ((qk l0_0 x3_2).f2)) ∧ w'.cell? ⟨(ad105.add ((x3_2).toNat * 5)).block, (ad105.add ((x3_2).toNat * 5)).off + 3, none⟩ = some (.string ((qk l0_0 x3_2).f3)) ∧ w'.cell? ⟨(ad105.add ((x3_2).toNat * 5)).block, (ad105.add ((x3_2).toNat * 5)).off + 4, none⟩ = some (.int .i64 ((qk l0_0 x3_2).f4))) (ds := []) bq0 (by kernel_rfl) rfl rfl ⟨(qe BK101.out 0).trans rfl, (qe BK101.out 1).trans rfl, (qe BK101.out 2).trans rfl, (qe BK101.out 3).trans rfl, ((HB.out.cell (World.block_lt_of_cell? w _ hw105_0)).trans hw105_0), ((HB.out.cell (World.block_lt_of_cell? w _ hw105_1)).trans hw105_1), ((HB.out.cell (World.block_lt_of_cell? w _ hw105_2)).trans hw105_2), ((HB.out.cell (World.block_lt_of_cell? w _ hw105_3)).trans hw105_3), ((HB.out.cell (World.block_lt_of_cell? w _ hw105_4)).trans hw105_4)⟩ (fun hHeld => ?_); refine with_tabW spec_VersionOk.tab6 spec_VersionOk.bits6 (fun HT_ HW_ => ?_)
          generalize wr.drew = w34 at BK101 HB hx105_0 hx105_1 hx105_2 hx105_3 hx105_4 hHeld ⊢
          refine pure_ (i := 0) (N := some 37) (v := ?_) (a' := ?_) bq4 rfl rfl (qq HT_.out (by kernel_rfl)) (fun _ _ _ h => h) (Or.inl ⟨by rfl, ?_⟩) ?_ ?_
          rotate_left
          ·intro w'
           go_simp
           with_reducible rfl
          rotate_left
          ·simp only [Act.put, sq1, sq2, sq3, i64_w, i32_w]
           rfl
          refine pure_ (i := 2) (N := some 39) (v := ?_) (a' := ?_) bq8 rfl rfl (qq HT_.out (by kernel_rfl)) (fun _ _ _ h => h) (Or.inl ⟨by rfl, ?_⟩) ?_ ?_
          rotate_left
          ·intro w'
           go_simp
           with_reducible rfl
          rotate_left
          ·simp only [Act.put, sq1, sq2, sq3, i64_w, i32_w]
           rfl
          refine take_ (i := 1) (N := some 38) (v := ?_) (a' := ?_) bq14 rfl rfl (take_ofW HT_.out HW_.out (by kernel_rfl)) (fun _ _ _ h => h) (Or.inl ⟨by rfl, ?_⟩) hHeld ?_ ?_
          rotate_left
          ·rintro w' ⟨s0, s1, s2, s3, s4, s5, s6, s7, s8⟩
           go_simp
           with_reducible rfl
          rotate_left
          ·simp only [Act.put, sq1, sq2, sq3, i64_w, i32_w]
           rfl
          refine pure_ (i := 3) (N := some 40) (v := ?_) (a' := ?_) bq21 rfl rfl (qq HT_.out (by kernel_rfl)) (fun _ _ _ h => h) (Or.inl ⟨by rfl, ?_⟩) ?_ ?_
          rotate_left
          ·intro w'
           go_simp
           with_reducible rfl
          rotate_left
          ·simp only [Act.put, sq1, sq2, sq3, i64_w, i32_w]
           rfl
          refine take_ (i := 4) (N := some 41) (v := ?_) (a' := ?_) bq25 rfl rfl (take_ofW HT_.out HW_.out (by kernel_rfl)) (fun _ _ _ h => h) (Or.inl ⟨by rfl, ?_⟩) hHeld ?_ ?_
          rotate_left
          ·rintro w' ⟨s0, s1, s2, s3, s4, s5, s6, s7, s8⟩
           go_simp
           with_reducible rfl
          rotate_left
          ·simp only [Act.put, sq1, sq2, sq3, i64_w, i32_w]
           rfl
          refine one_ (i := 5) (N := some 42) bq27 rfl rfl (one_of HT_.out (by kernel_rfl)) (by decide) (fun K hK => ?_)
          refine goes_ Try.func64 (by kernel_rfl) rfl #[.agg #[.int .i64 ((qk l0_0 x3_2).f0), .int .i64 ((qk l0_0 x3_2).f1), .string ((qk l0_0 x3_2).f2), .string ((qk l0_0 x3_2).f3), .int .i64 ((qk l0_0 x3_2).f4)]] (by rfl) rfl rfl (by (try simp only [List.map_toArray, List.map_cons, List.map_nil]); first | done | rfl) ?_
          with_reducible refine (spec_l12Meta.calls ((qk l0_0 x3_2).f0) ((qk l0_0 x3_2).f1) ((qk l0_0 x3_2).f2) ((qk l0_0 x3_2).f3) ((qk l0_0 x3_2).f4) false _ A19.out).mono ?_
          rintro e w35 ⟨rfl, hb⟩
          refine ⟨_, rfl, ?_⟩
          replace BK101 := Qz.mk (qr (g := gb101) (o := .cells #[.slice (some ad105) l0_0.length c0_0, .int .i64 a0_1, .int .i64 a0_2, .int .i64 a0_3] 32 (0, 0)) (by (with_reducible repeat (first | refine qh ?_ _ | refine qj ?_ | refine qg ?_ _)); exact BK101.out) hb)
          replace HB := Qz.mk (qp (by repeat (first | (with_reducible first | exact HB.out | apply qf | apply qa | apply qd | refine qi ?_ GE101.out) | exact HB.out)) hb)
          (try clear hb)
          refine hK.out _ _ ⟨(qe BK101.out 0).trans rfl, (qe BK101.out 1).trans rfl, (qe BK101.out 2).trans rfl, (qe BK101.out 3).trans rfl, ((HB.out.cell (World.block_lt_of_cell? w _ hw105_0)).trans hw105_0), ((HB.out.cell (World.block_lt_of_cell? w _ hw105_1)).trans hw105_1), ((HB.out.cell (World.block_lt_of_cell? w _ hw105_2)).trans hw105_2), ((HB.out.cell (World.block_lt_of_cell? w _ hw105_3)).trans hw105_3), ((HB.out.cell (World.block_lt_of_cell? w _ hw105_4)).trans hw105_4)⟩ (fun hHeld => ?_)
          clear hK K
          refine norm_ (a' := ?_) ?_ ?_
          rotate_left
          ·show Act.put _ (some 42) _ = _
           simp only [Act.put, sq1, sq2, sq3, i64_w, i32_w]
           rfl
          refine pure_ (i := 6) (N := some 43) (v := ?_) (a' := ?_) bq29 rfl rfl (qq HT_.out (by kernel_rfl)) (fun _ _ _ h => h) (Or.inl ⟨by rfl, ?_⟩) ?_ ?_
          rotate_left
          ·intro w'
           go_simp
           with_reducible rfl
          rotate_left
          ·simp only [Act.put, sq1, sq2, sq3, i64_w, i32_w]
           rfl
          refine pure_ (i := 7) (N := some 44) (v := ?_) (a' := ?_) bq33 rfl rfl (qq HT_.out (by kernel_rfl)) (fun _ _ _ h => h) (Or.inl ⟨by rfl, ?_⟩) ?_ ?_
          rotate_left
          ·intro w'
           go_simp
           with_reducible rfl
          rotate_left
          ·simp only [Act.put, sq1, sq2, sq3, i64_w, i32_w]
           rfl
          refine pure_ (i := 8) (N := some 45) (v := undef) (a' := ?_) bq35 rfl rfl (qq HT_.out (by kernel_rfl)) (fun _ _ _ h => h) (Or.inr ⟨by rfl, rfl⟩) ?_ ?_
          rotate_left
          ·simp only [Act.put, sq1, sq2, sq3, i64_w, i32_w]
           rfl
          refine pure_ (i := 9) (N := some 46) (v := undef) (a' := ?_) #[true, true, true, true, true, true, true, true, true, true, false, false, false, false, false, false, false, false, false, false, false, false, false, false, false, false, false, false, false, false, false, false, false, false, false, false, false] rfl rfl (qq HT_.out (by kernel_rfl)) (fun _ _ _ h => h) (Or.inr ⟨by rfl, rfl⟩) ?_ ?_
          rotate_left
          ·simp only [Act.put, sq1, sq2, sq3, i64_w, i32_w]
           rfl
          refine pure_ (i := 10) (N := some 47) (v := undef) (a' := ?_) #[true, true, true, true, true, true, true, true, true, true, true, false, false, false, false, false, false, false, false, false, false, false, false, false, false, false, false, false, false, false, false, false, false, false, false, false, false] rfl rfl (qq HT_.out (by kernel_rfl)) (fun _ _ _ h => h) (Or.inr ⟨by rfl, rfl⟩) ?_ ?_
          rotate_left
          ·simp only [Act.put, sq1, sq2, sq3, i64_w, i32_w]
           rfl
          refine pure_ (i := 11) (N := some 48) (v := undef) (a' := ?_) #[true, true, true, true, true, true, true, true, true, true, true, true, false, false, false, false, false, false, false, false, false, false, false, false, false, false, false, false, false, false, false, false, false, false, false, false, false] rfl rfl (qq HT_.out (by kernel_rfl)) (fun _ _ _ h => h) (Or.inr ⟨by rfl, rfl⟩) ?_ ?_
          rotate_left
          ·simp only [Act.put, sq1, sq2, sq3, i64_w, i32_w]
           rfl
          refine pure_ (i := 12) (N := some 49) (v := undef) (a' := ?_) #[true, true, true, true, true, true, true, true, true, true, true, true, true, false, false, false, false, false, false, false, false, false, false, false, false, false, false, false, false, false, false, false, false, false, false, false, false] rfl rfl (qq HT_.out (by kernel_rfl)) (fun _ _ _ h => h) (Or.inr ⟨by rfl, rfl⟩) ?_ ?_
          rotate_left
          ·simp only [Act.put, sq1, sq2, sq3, i64_w, i32_w]
           rfl
          refine pure_ (i := 13) (N := some 50) (v := undef) (a' := ?_) #[true, true, true, true, true, true, true, true, true, true, true, true, true, true, false, false, false, false, false, false, false, false, false, false, false, false, false, false, false, false, false, false, false, false, false, false, false] rfl rfl (qq HT_.out (by kernel_rfl)) (fun _ _ _ h => h) (Or.inr ⟨by rfl, rfl⟩) ?_ ?_
          rotate_left
          ·simp only [Act.put, sq1, sq2, sq3, i64_w, i32_w]
           rfl
          refine pure_ (i := 14) (N := some 51) (v := undef) (a' := ?_) bq46 rfl rfl (qq HT_.out (by kernel_rfl)) (fun _ _ _ h => h) (Or.inr ⟨by rfl, rfl⟩) ?_ ?_
          rotate_left
          ·simp only [Act.put, sq1, sq2, sq3, i64_w, i32_w]
           rfl
          refine pure_ (i := 15) (N := some 52) (v := undef) (a' := ?_) bq47 rfl rfl (qq HT_.out (by kernel_rfl)) (fun _ _ _ h => h) (Or.inr ⟨by rfl, rfl⟩) ?_ ?_
          rotate_left
          ·simp only [Act.put, sq1, sq2, sq3, i64_w, i32_w]
           rfl
          refine pure_ (i := 16) (N := some 53) (v := undef) (a' := ?_) bq48 rfl rfl (qq HT_.out (by kernel_rfl)) (fun _ _ _ h => h) (Or.inr ⟨by rfl, rfl⟩) ?_ ?_
          rotate_left
          ·simp only [Act.put, sq1, sq2, sq3, i64_w, i32_w]
           rfl
          refine pure_ (i := 17) (N := some 54) (v := ?_) (a' := ?_) bq49 rfl rfl (qq HT_.out (by kernel_rfl)) (fun _ _ _ h => h) (Or.inl ⟨by rfl, ?_⟩) ?_ ?_
          rotate_left
          ·intro w'
           go_simp
           with_reducible rfl
          rotate_left
          ·simp only [Act.put, sq1, sq2, sq3, i64_w, i32_w]
           rfl
          refine pure_ (i := 18) (N := some 55) (v := ?_) (a' := ?_) bq50 rfl rfl (qq HT_.out (by kernel_rfl)) (fun _ _ _ h => h) (Or.inl ⟨by rfl, ?_⟩) ?_ ?_
          rotate_left
          ·intro w'
           go_simp
           with_reducible rfl
          rotate_left
          ·simp only [Act.put, sq1, sq2, sq3, i64_w, i32_w]
           rfl
          refine pure_ (i := 19) (N := some 56) (v := undef) (a' := ?_) bq51 rfl rfl (qq HT_.out (by kernel_rfl)) (fun _ _ _ h => h) (Or.inr ⟨by rfl, rfl⟩) ?_ ?_
          rotate_left
          ·simp only [Act.put, sq1, sq2, sq3, i64_w, i32_w]
           rfl
          refine pure_ (i := 20) (N := some 57) (v := undef) (a' := ?_) bq52 rfl rfl (qq HT_.out (by kernel_rfl)) (fun _ _ _ h => h) (Or.inr ⟨by rfl, rfl⟩) ?_ ?_
          rotate_left
          ·simp only [Act.put, sq1, sq2, sq3, i64_w, i32_w]
           rfl
          refine pure_ (i := 21) (N := some 58) (v := undef) (a' := ?_) bq53 rfl rfl (qq HT_.out (by kernel_rfl)) (fun _ _ _ h => h) (Or.inr ⟨by rfl, rfl⟩) ?_ ?_
          rotate_left
          ·simp only [Act.put, sq1, sq2, sq3, i64_w, i32_w]
           rfl
          refine pure_ (i := 22) (N := some 59) (v := undef) (a' := ?_) bq54 rfl rfl (qq HT_.out (by kernel_rfl)) (fun _ _ _ h => h) (Or.inr ⟨by rfl, rfl⟩) ?_ ?_
          rotate_left
          ·simp only [Act.put, sq1, sq2, sq3, i64_w, i32_w]
           rfl
          refine pure_ (i := 23) (N := some 60) (v := undef) (a' := ?_) bq55 rfl rfl (qq HT_.out (by kernel_rfl)) (fun _ _ _ h => h) (Or.inr ⟨by rfl, rfl⟩) ?_ ?_
          rotate_left
          ·simp only [Act.put, sq1, sq2, sq3, i64_w, i32_w]
           rfl
          refine pure_ (i := 24) (N := some 61) (v := undef) (a' := ?_) bq56 rfl rfl (qq HT_.out (by kernel_rfl)) (fun _ _ _ h => h) (Or.inr ⟨by rfl, rfl⟩) ?_ ?_
          rotate_left
          ·simp only [Act.put, sq1, sq2, sq3, i64_w, i32_w]
           rfl
          refine pure_ (i := 25) (N := some 62) (v := undef) (a' := ?_) bq57 rfl rfl (qq HT_.out (by kernel_rfl)) (fun _ _ _ h => h) (Or.inr ⟨by rfl, rfl⟩) ?_ ?_
          rotate_left
          ·simp only [Act.put, sq1, sq2, sq3, i64_w, i32_w]
           rfl
          refine pure_ (i := 26) (N := some 63) (v := undef) (a' := ?_) bq58 rfl rfl (qq HT_.out (by kernel_rfl)) (fun _ _ _ h => h) (Or.inr ⟨by rfl, rfl⟩) ?_ ?_
          rotate_left
          ·simp only [Act.put, sq1, sq2, sq3, i64_w, i32_w]
           rfl
          refine pure_ (i := 27) (N := some 64) (v := undef) (a' := ?_) bq59 rfl rfl (qq HT_.out (by kernel_rfl)) (fun _ _ _ h => h) (Or.inr ⟨by rfl, rfl⟩) ?_ ?_
          rotate_left
          ·simp only [Act.put, sq1, sq2, sq3, i64_w, i32_w]
           rfl
          refine pure_ (i := 28) (N := some 65) (v := undef) (a' := ?_) bq60 rfl rfl (qq HT_.out (by kernel_rfl)) (fun _ _ _ h => h) (Or.inr ⟨by rfl, rfl⟩) ?_ ?_
          rotate_left
          ·simp only [Act.put, sq1, sq2, sq3, i64_w, i32_w]
           rfl
          refine pure_ (i := 29) (N := some 66) (v := undef) (a' := ?_) bq61 rfl rfl (qq HT_.out (by kernel_rfl)) (fun _ _ _ h => h) (Or.inr ⟨by rfl, rfl⟩) ?_ ?_
          rotate_left
          ·simp only [Act.put, sq1, sq2, sq3, i64_w, i32_w]
           rfl
          refine pure_ (i := 30) (N := some 67) (v := undef) (a' := ?_) bq62 rfl rfl (qq HT_.out (by kernel_rfl)) (fun _ _ _ h => h) (Or.inr ⟨by rfl, rfl⟩) ?_ ?_
          rotate_left
          ·simp only [Act.put, sq1, sq2, sq3, i64_w, i32_w]
           rfl
          refine pure_ (i := 31) (N := some 68) (v := undef) (a' := ?_) bq63 rfl rfl (qq HT_.out (by kernel_rfl)) (fun _ _ _ h => h) (Or.inr ⟨by rfl, rfl⟩) ?_ ?_
          rotate_left
          ·simp only [Act.put, sq1, sq2, sq3, i64_w, i32_w]
           rfl
          refine pure_ (i := 32) (N := some 69) (v := undef) (a' := ?_) bq64 rfl rfl (qq HT_.out (by kernel_rfl)) (fun _ _ _ h => h) (Or.inr ⟨by rfl, rfl⟩) ?_ ?_
          rotate_left
          ·simp only [Act.put, sq1, sq2, sq3, i64_w, i32_w]
           rfl
          refine pure_ (i := 33) (N := some 70) (v := undef) (a' := ?_) bq65 rfl rfl (qq HT_.out (by kernel_rfl)) (fun _ _ _ h => h) (Or.inr ⟨by rfl, rfl⟩) ?_ ?_
          rotate_left
          ·simp only [Act.put, sq1, sq2, sq3, i64_w, i32_w]
           rfl
          refine pure_ (i := 34) (N := some 71) (v := undef) (a' := ?_) bq66 rfl rfl (qq HT_.out (by kernel_rfl)) (fun _ _ _ h => h) (Or.inr ⟨by rfl, rfl⟩) ?_ ?_
          rotate_left
          ·simp only [Act.put, sq1, sq2, sq3, i64_w, i32_w]
           rfl
          refine pure_ (i := 35) (N := some 72) (v := undef) (a' := ?_) bq67 rfl rfl (qq HT_.out (by kernel_rfl)) (fun _ _ _ h => h) (Or.inr ⟨by rfl, rfl⟩) ?_ ?_
          rotate_left
          ·simp only [Act.put, sq1, sq2, sq3, i64_w, i32_w]
           rfl
          refine pure_ (i := 36) (N := some 73) (v := ?_) (a' := ?_) bq68 rfl rfl (qq HT_.out (by kernel_rfl)) (fun _ _ _ h => h) (Or.inl ⟨by rfl, ?_⟩) ?_ ?_
          rotate_left
          ·intro w'
           go_simp
           with_reducible rfl
          rotate_left
          ·simp only [Act.put, sq1, sq2, sq3, i64_w, i32_w]
           rfl
          refine done_ (done_of HT_.out (by kernel_rfl)) ?_
          try go_wp2
          go_meet
          case rel => exact ⟨_, (true), (by first | rfl | (simp; done) | (simp [*]; done)), H', ⟨by have := HJ1.out; have := HK2.out; first | omega | exact Nat.le_refl _⟩, ⟨by (with_reducible repeat (first | refine qh ?_ _ | refine qj ?_ | refine qg ?_ _)); exact BK101.out⟩, ⟨by repeat (first | (with_reducible first | exact HB.out | apply qf | apply qa | apply qd | refine qi ?_ GE101.out) | exact HB.out)⟩⟩
        ·rw [if_neg c18] at H
         exact absurd H (by simp)
       case rest =>
        clear HC16
        try clear c1
        try clear p1
        try clear q1
        try clear hx1
        try clear c2
        try clear p2
        try clear c6
        try clear p10
        try clear q10
        try clear hx10
        try clear c18
        try clear c20
        try clear c24
        try clear c24b0
        try clear c26
        try clear c27
        try clear hx105_0
        try clear hx105_1
        try clear hx105_2
        try clear hx105_3
        try clear hx105_4
        try clear hx107_0
        try clear hx107_1
        try clear hx107_2
        try clear hx107_3
        try clear hx107_4
        try clear p105
        try clear p107
        try clear q105
        try clear q107
        obtain ⟨kq, x73_15, rfl, HA, HJ15, BK101, HB⟩ := hcut
        cases kq with
        | zero => exact absurd HA.out (by simp [spec_VersionOk.j2])
        | succ kj15 =>
         have H := HA.out
         clear HA
         simp only [spec_VersionOk.j2] at H
         by_cases c36 : x73_15 = true
         ·subst c36
          have H1 : (some false) = some r := by rw [if_pos rfl] at H; exact H
          clear H
          have H := H1
          clear H1
          obtain rfl := Option.some.inj H
          go_wp2
          go_ret
          exact ⟨by first | rfl | (simp [qo, qn] <;> rfl) | (simp [*, qo, qn] <;> rfl), by repeat (first | (with_reducible first | exact HB.out | apply qf | apply qa | apply qd | refine qi ?_ GE101.out) | exact HB.out)⟩
         ·replace c36 := Bool.eq_false_iff.mpr c36
          subst c36
          have H1 : (spec_VersionOk.l1 kj15 x3_2 0 l0_0 a0_1 a0_2 a0_3) = some r := by rw [if_neg (show ¬ (false = true) by decide)] at H; exact H
          clear H
          have H := H1
          clear H1
          have H' := Qz.mk H
          clear H
          go_wp2
          go_loopg [4] kj15 (fun kq v4 w' => ∃ (x4_4 : Int), v4 = .int .i64 x4_4 ∧ Qz (spec_VersionOk.l1 kq x3_2 x4_4 l0_0 a0_1 a0_2 a0_3 = some r) ∧ Qz (kq ≤ kj15) ∧ Qz (w'.heap[gb101]? = some (.cells #[(.slice A0_0 l0_0.length c0_0), .int .i64 a0_1, .int .i64 a0_2, .int .i64 a0_3] 32 (0, 0))) ∧ Qz (Below w.heap.size w w'))
          case atStart => exact ⟨(0), (by first | rfl | (simp; done) | (simp [*]; done)), H', ⟨Nat.le_refl _⟩, ⟨by (with_reducible repeat (first | refine qh ?_ _ | refine qj ?_ | refine qg ?_ _)); exact BK101.out⟩, ⟨by repeat (first | (with_reducible first | exact HB.out | apply qf | apply qa | apply qd | refine qi ?_ GE101.out) | exact HB.out)⟩⟩
          case round =>
           clear H'
           try clear c1
           try clear p1
           try clear q1
           try clear hx1
           try clear c2
           try clear p2
           try clear c3
           try clear c6
           try clear p10
           try clear q10
           try clear hx10
           try clear c18
           try clear c20
           try clear c24
           try clear c24b0
           try clear c26
           try clear c27
           try clear c36
           try clear hx105_0
           try clear hx105_1
           try clear hx105_2
           try clear hx105_3
           try clear hx105_4
           try clear hx107_0
           try clear hx107_1
           try clear hx107_2
           try clear hx107_3
           try clear hx107_4
           try clear p1
           try clear p10
           try clear p105
           try clear p107
           try clear p2
           try clear q1
           try clear q10
           try clear q105
           try clear q107
           obtain ⟨x4_4, rfl, HA, HK4, BK101, HB⟩ := hrel
           cases gk with
           | zero => exact absurd HA.out (by simp [spec_VersionOk.l1])
           | succ k4 =>
            have H := HA.out
            clear HA
            simp only [spec_VersionOk.l1] at H
            by_cases c37 : x4_4 < x3_2
            ·rw [if_pos c37] at H
             have c37b0 : decide (x4_4 < x3_2) = true := decide_eq_true c37
             clear c37
             by_cases c38 : 0 ≤ x4_4
             ·rw [if_pos c38] at H
              have c38b0 : decide (0 ≤ x4_4) = true := decide_eq_true c38
              clear c38
              by_cases c39 : x4_4 < (l0_0.length : Int)
              ·rw [if_pos c39] at H
               have c39b0 : decide (x4_4 < (l0_0.length : Int)) = true := decide_eq_true c39
               clear c39
               by_cases c40 : 0 ≤ x3_2
               ·rw [if_pos c40] at H
                have c40b0 : decide (0 ≤ x3_2) = true := decide_eq_true c40
                clear c40
                by_cases c41 : x3_2 < (l0_0.length : Int)
                ·rw [if_pos c41] at H
                 have c41b0 : decide (x3_2 < (l0_0.length : Int)) = true := decide_eq_true c41
                 clear c41
                 by_cases c42 : ((qk l0_0 x4_4).f0) = ((qk l0_0 x3_2).f0)
                 ·rw [if_pos c42] at H
                  have c42b0 : (((qk l0_0 x4_4).f0) == ((qk l0_0 x3_2).f0)) = true := beq_iff_eq.mpr c42
                  have c42b1 : (((qk l0_0 x4_4).f0) != ((qk l0_0 x3_2).f0)) = false := bne_eq_false_iff_eq.mpr c42
                  clear c42
                  obtain rfl := Option.some.inj H
                  try go_wp2
                  replace BK101 := Qz.mk (qj BK101.out)
                  replace HB := Qz.mk (qd HB.out)
                  have p111 : 0 ≤ (x4_4 : Int) := of_decide_eq_true (by first | (with_reducible assumption) | assumption)
                  have q111 : x4_4 < (l0_0.length : Int) := of_decide_eq_true (by first | (with_reducible assumption) | assumption)
                  obtain ⟨ad111, e111, hx111_0, hx111_1, hx111_2, hx111_3, hx111_4⟩ := at_T66 HR0_0.out x4_4 p111 q111
                  have hw111_4 := hx111_4
                  have hw111_3 := hx111_3
                  have hw111_2 := hx111_2
                  have hw111_1 := hx111_1
                  have hw111_0 := hx111_0
                  cases e111
                  replace hx111_0 := (HB.out.cell (World.block_lt_of_cell? w _ hx111_0)).trans hx111_0
                  replace hx111_1 := (HB.out.cell (World.block_lt_of_cell? w _ hx111_1)).trans hx111_1
                  replace hx111_2 := (HB.out.cell (World.block_lt_of_cell? w _ hx111_2)).trans hx111_2
                  replace hx111_3 := (HB.out.cell (World.block_lt_of_cell? w _ hx111_3)).trans hx111_3
                  replace hx111_4 := (HB.out.cell (World.block_lt_of_cell? w _ hx111_4)).trans hx111_4
                  replace p111 := eq_true p111
                  replace q111 := eq_true q111
                  have p112 : 0 ≤ (x3_2 : Int) := of_decide_eq_true (by first | (with_reducible assumption) | assumption)
                  have q112 : x3_2 < (l0_0.length : Int) := of_decide_eq_true (by first | (with_reducible assumption) | assumption)
                  obtain ⟨ad112, e112, hx112_0, hx112_1, hx112_2, hx112_3, hx112_4⟩ := at_T66 HR0_0.out x3_2 p112 q112
                  have hw112_4 := hx112_4
                  have hw112_3 := hx112_3
                  have hw112_2 := hx112_2
                  have hw112_1 := hx112_1
                  have hw112_0 := hx112_0
                  obtain rfl : ad111 = ad112 := (by injection e112)
                  replace hx112_0 := (HB.out.cell (World.block_lt_of_cell? w _ hx112_0)).trans hx112_0
                  replace hx112_1 := (HB.out.cell (World.block_lt_of_cell? w _ hx112_1)).trans hx112_1
                  replace hx112_2 := (HB.out.cell (World.block_lt_of_cell? w _ hx112_2)).trans hx112_2
                  replace hx112_3 := (HB.out.cell (World.block_lt_of_cell? w _ hx112_3)).trans hx112_3
                  replace hx112_4 := (HB.out.cell (World.block_lt_of_cell? w _ hx112_4)).trans hx112_4
                  replace p112 := eq_true p112
                  replace q112 := eq_true q112
                  refine start_ (n := 13) (S := fun w' => w'.cell? ⟨gb101, 0, none⟩ = some (.slice (some ad111) l0_0.length c0_0) ∧ w'.cell? ⟨gb101, 1, none⟩ = some (.int .i64 a0_1) ∧ w'.cell? ⟨gb101, 2, none⟩ = some (.int .i64 a0_2) ∧ w'.cell? ⟨gb101, 3, none⟩ = some (.int .i64 a0_3) ∧ w'.cell? (ad111.add ((x4_4).toNat * 5)) = some (.int .i64 ((qk l0_0 x4_4).f0)) ∧ w'.cell? ⟨(ad111.add ((x4_4).toNat * 5)).block, (ad111.add ((x4_4).toNat * 5)).off + 1, none⟩ = some (.int .i64 ((qk l0_0 x4_4).f1)) ∧ w'.cell? ⟨(ad111.add ((x4_4).toNat * 5)).block, (ad111.add ((x4_4).toNat * 5)).off + 2, none⟩ = some (.string ((qk l0_0 x4_4).f2)) ∧ w'.cell? ⟨(ad111.add ((x4_4).toNat * 5)).block, (ad111.add ((x4_4).toNat * 5)).off + 3, none⟩ = some (.string ((qk l0_0 x4_4).f3)) ∧ w'.cell? ⟨(ad111.add ((x4_4).toNat * 5)).block, (ad111.add ((x4_4).toNat * 5)).off + 4, none⟩ = some (.int .i64 ((qk l0_0 x4_4).f4)) ∧ w'.cell? (ad111.add ((x3_2).toNat * 5)) = some (.int .i64 ((qk l0_0 x3_2).f0)) ∧ w'.cell? ⟨(ad111.add ((x3_2).toNat * 5)).block, (ad111.add ((x3_2).toNat * 5)).off + 1, none⟩ = some (.int .i64 ((qk l0_0 x3_2).f1)) ∧ w'.cell? ⟨(ad111.add ((x3_2).toNat * 5)).block, (ad111.add ((x3_2).toNat * 5)).off + 2, none⟩ = some (.string ((qk l0_0 x3_2).f2)) ∧ w'.cell? ⟨(ad111.add ((x3_2).toNat * 5)).block, (ad111.add ((x3_2).toNat * 5)).off + 3, none⟩ = some (.string ((qk l0_0 x3_2).f3)) ∧ w'.cell? ⟨(ad111.add ((x3_2).toNat * 5)).block, (ad111.add ((x3_2).toNat * 5)).off + 4, none⟩ = some (.int .i64 ((qk l0_0 x3_2).f4))) (ds := []) bq1 (by kernel_rfl) rfl rfl ⟨(qe BK101.out 0).trans rfl, (qe BK101.out 1).trans rfl, (qe BK101.out 2).trans rfl, (qe BK101.out 3).trans rfl, ((HB.out.cell (World.block_lt_of_cell? w _ hw111_0)).trans hw111_0), ((HB.out.cell (World.block_lt_of_cell? w _ hw111_1)).trans hw111_1), ((HB.out.cell (World.block_lt_of_cell? w _ hw111_2)).trans hw111_2), ((HB.out.cell (World.block_lt_of_cell? w _ hw111_3)).trans hw111_3), ((HB.out.cell (World.block_lt_of_cell? w _ hw111_4)).trans hw111_4), ((HB.out.cell (World.block_lt_of_cell? w _ hw112_0)).trans hw112_0), ((HB.out.cell (World.block_lt_of_cell? w _ hw112_1)).trans hw112_1), ((HB.out.cell (World.block_lt_of_cell? w _ hw112_2)).trans hw112_2), ((HB.out.cell (World.block_lt_of_cell? w _ hw112_3)).trans hw112_3), ((HB.out.cell (World.block_lt_of_cell? w _ hw112_4)).trans hw112_4)⟩ (fun hHeld => ?_); refine with_tabW spec_VersionOk.tab11 spec_VersionOk.bits11 (fun HT_ HW_ => ?_)
                  generalize wr.drew = w43 at BK101 HB hx111_0 hx111_1 hx111_2 hx111_3 hx111_4 hx112_0 hx112_1 hx112_2 hx112_3 hx112_4 hHeld ⊢
                  refine pure_ (i := 0) (N := some 79) (v := ?_) (a' := ?_) bq5 rfl rfl (qq HT_.out (by kernel_rfl)) (fun _ _ _ h => h) (Or.inl ⟨by rfl, ?_⟩) ?_ ?_
                  rotate_left
                  ·intro w'
                   go_simp
                   with_reducible rfl
                  rotate_left
                  ·simp only [Act.put, sq1, sq2, sq3, i64_w, i32_w]
                   rfl
                  refine pure_ (i := 2) (N := some 81) (v := ?_) (a' := ?_) bq9 rfl rfl (qq HT_.out (by kernel_rfl)) (fun _ _ _ h => h) (Or.inl ⟨by rfl, ?_⟩) ?_ ?_
                  rotate_left
                  ·intro w'
                   go_simp
                   with_reducible rfl
                  rotate_left
                  ·simp only [Act.put, sq1, sq2, sq3, i64_w, i32_w]
                   rfl
                  refine pure_ (i := 6) (N := some 85) (v := ?_) (a' := ?_) bq10 rfl rfl (qq HT_.out (by kernel_rfl)) (fun _ _ _ h => h) (Or.inl ⟨by rfl, ?_⟩) ?_ ?_
                  rotate_left
                  ·intro w'
                   go_simp
                   with_reducible rfl
                  rotate_left
                  ·simp only [Act.put, sq1, sq2, sq3, i64_w, i32_w]
                   rfl
                  refine pure_ (i := 8) (N := some 87) (v := ?_) (a' := ?_) bq11 rfl rfl (qq HT_.out (by kernel_rfl)) (fun _ _ _ h => h) (Or.inl ⟨by rfl, ?_⟩) ?_ ?_
                  rotate_left
                  ·intro w'
                   go_simp
                   with_reducible rfl
                  rotate_left
                  ·simp only [Act.put, sq1, sq2, sq3, i64_w, i32_w]
                   rfl
                  refine take_ (i := 1) (N := some 80) (v := ?_) (a' := ?_) bq17 rfl rfl (take_ofW HT_.out HW_.out (by kernel_rfl)) (fun _ _ _ h => h) (Or.inl ⟨by rfl, ?_⟩) hHeld ?_ ?_
                  rotate_left
                  ·rintro w' ⟨s0, s1, s2, s3, s4, s5, s6, s7, s8, s9, s10, s11, s12, s13⟩
                   go_simp
                   with_reducible rfl
                  rotate_left
                  ·simp only [Act.put, sq1, sq2, sq3, i64_w, i32_w]
                   rfl
                  refine pure_ (i := 3) (N := some 82) (v := ?_) (a' := ?_) bq23 rfl rfl (qq HT_.out (by kernel_rfl)) (fun _ _ _ h => h) (Or.inl ⟨by rfl, ?_⟩) ?_ ?_
                  rotate_left
                  ·intro w'
                   go_simp
                   with_reducible rfl
                  rotate_left
                  ·simp only [Act.put, sq1, sq2, sq3, i64_w, i32_w]
                   rfl
                  refine pure_ (i := 4) (N := some 83) (v := ?_) (a' := ?_) bq26 rfl rfl (qq HT_.out (by kernel_rfl)) (fun _ _ _ h => h) (Or.inl ⟨by rfl, ?_⟩) ?_ ?_
                  rotate_left
                  ·intro w'
                   go_simp
                   with_reducible rfl
                  rotate_left
                  ·simp only [Act.put, sq1, sq2, sq3, i64_w, i32_w]
                   rfl
                  refine take_ (i := 5) (N := some 84) (v := ?_) (a' := ?_) bq31 rfl rfl (take_ofW HT_.out HW_.out (by kernel_rfl)) (fun _ _ _ h => h) (Or.inl ⟨by rfl, ?_⟩) hHeld ?_ ?_
                  rotate_left
                  ·rintro w' ⟨s0, s1, s2, s3, s4, s5, s6, s7, s8, s9, s10, s11, s12, s13⟩
                   go_simp
                   with_reducible rfl
                  rotate_left
                  ·simp only [Act.put, sq1, sq2, sq3, i64_w, i32_w]
                   rfl
                  refine take_ (i := 7) (N := some 86) (v := ?_) (a' := ?_) bq36 rfl rfl (take_ofW HT_.out HW_.out (by kernel_rfl)) (fun _ _ _ h => h) (Or.inl ⟨by rfl, ?_⟩) hHeld ?_ ?_
                  rotate_left
                  ·rintro w' ⟨s0, s1, s2, s3, s4, s5, s6, s7, s8, s9, s10, s11, s12, s13⟩
                   go_simp
                   with_reducible rfl
                  rotate_left
                  ·simp only [Act.put, sq1, sq2, sq3, i64_w, i32_w]
                   rfl
                  refine pure_ (i := 9) (N := some 88) (v := ?_) (a' := ?_) bq40 rfl rfl (qq HT_.out (by kernel_rfl)) (fun _ _ _ h => h) (Or.inl ⟨by rfl, ?_⟩) ?_ ?_
                  rotate_left
                  ·intro w'
                   go_simp
                   with_reducible rfl
                  rotate_left
                  ·simp only [Act.put, sq1, sq2, sq3, i64_w, i32_w]
                   rfl
                  refine pure_ (i := 10) (N := some 89) (v := ?_) (a' := ?_) bq42 rfl rfl (qq HT_.out (by kernel_rfl)) (fun _ _ _ h => h) (Or.inl ⟨by rfl, ?_⟩) ?_ ?_
                  rotate_left
                  ·intro w'
                   go_simp
                   with_reducible rfl
                  rotate_left
                  ·simp only [Act.put, sq1, sq2, sq3, i64_w, i32_w]
                   rfl
                  refine take_ (i := 11) (N := some 90) (v := ?_) (a' := ?_) bq44 rfl rfl (take_ofW HT_.out HW_.out (by kernel_rfl)) (fun _ _ _ h => h) (Or.inl ⟨by rfl, ?_⟩) hHeld ?_ ?_
                  rotate_left
                  ·rintro w' ⟨s0, s1, s2, s3, s4, s5, s6, s7, s8, s9, s10, s11, s12, s13⟩
                   go_simp
                   with_reducible rfl
                  rotate_left
                  ·simp only [Act.put, sq1, sq2, sq3, i64_w, i32_w]
                   rfl
                  refine pure_ (i := 12) (N := some 91) (v := ?_) (a' := ?_) bq69 rfl rfl (qq HT_.out (by kernel_rfl)) (fun _ _ _ h => h) (Or.inl ⟨by rfl, ?_⟩) ?_ ?_
                  rotate_left
                  ·intro w'
                   go_simp
                   with_reducible rfl
                  rotate_left
                  ·simp only [Act.put, sq1, sq2, sq3, i64_w, i32_w]
                   rfl
                  refine done_ (done_of HT_.out (by kernel_rfl)) ?_
                  try go_wp2
                  go_ret
                  exact ⟨by first | rfl | (simp [qo, qn] <;> rfl) | (simp [*, qo, qn] <;> rfl), by repeat (first | (with_reducible first | exact HB.out | apply qf | apply qa | apply qd | refine qi ?_ GE101.out) | exact HB.out)⟩
                 ·rw [if_neg c42] at H
                  have c42b0 : (((qk l0_0 x4_4).f0) == ((qk l0_0 x3_2).f0)) = false := beq_eq_false_iff_ne.mpr c42
                  have c42b1 : (((qk l0_0 x4_4).f0) != ((qk l0_0 x3_2).f0)) = true := bne_iff_ne.mpr c42
                  have H' := Qz.mk H
                  clear H
                  try go_wp2
                  replace BK101 := Qz.mk (qj BK101.out)
                  replace HB := Qz.mk (qd HB.out)
                  have p111 : 0 ≤ (x4_4 : Int) := of_decide_eq_true (by first | (with_reducible assumption) | assumption)
                  have q111 : x4_4 < (l0_0.length : Int) := of_decide_eq_true (by first | (with_reducible assumption) | assumption)
                  obtain ⟨ad111, e111, hx111_0, hx111_1, hx111_2, hx111_3, hx111_4⟩ := at_T66 HR0_0.out x4_4 p111 q111
                  have hw111_4 := hx111_4
                  have hw111_3 := hx111_3
                  have hw111_2 := hx111_2
                  have hw111_1 := hx111_1
                  have hw111_0 := hx111_0
                  cases e111
                  replace hx111_0 := (HB.out.cell (World.block_lt_of_cell? w _ hx111_0)).trans hx111_0
                  replace hx111_1 := (HB.out.cell (World.block_lt_of_cell? w _ hx111_1)).trans hx111_1
                  replace hx111_2 := (HB.out.cell (World.block_lt_of_cell? w _ hx111_2)).trans hx111_2
                  replace hx111_3 := (HB.out.cell (World.block_lt_of_cell? w _ hx111_3)).trans hx111_3
                  replace hx111_4 := (HB.out.cell (World.block_lt_of_cell? w _ hx111_4)).trans hx111_4
                  replace p111 := eq_true p111
                  replace q111 := eq_true q111
                  have p112 : 0 ≤ (x3_2 : Int) := of_decide_eq_true (by first | (with_reducible assumption) | assumption)
                  have q112 : x3_2 < (l0_0.length : Int) := of_decide_eq_true (by first | (with_reducible assumption) | assumption)
                  obtain ⟨ad112, e112, hx112_0, hx112_1, hx112_2, hx112_3, hx112_4⟩ := at_T66 HR0_0.out x3_2 p112 q112
                  have hw112_4 := hx112_4
                  have hw112_3 := hx112_3
                  have hw112_2 := hx112_2
                  have hw112_1 := hx112_1
                  have hw112_0 := hx112_0
                  obtain rfl : ad111 = ad112 := (by injection e112)
                  replace hx112_0 := (HB.out.cell (World.block_lt_of_cell? w _ hx112_0)).trans hx112_0
                  replace hx112_1 := (HB.out.cell (World.block_lt_of_cell? w _ hx112_1)).trans hx112_1
                  replace hx112_2 := (HB.out.cell (World.block_lt_of_cell? w _ hx112_2)).trans hx112_2
                  replace hx112_3 := (HB.out.cell (World.block_lt_of_cell? w _ hx112_3)).trans hx112_3
                  replace hx112_4 := (HB.out.cell (World.block_lt_of_cell? w _ hx112_4)).trans hx112_4
                  replace p112 := eq_true p112
                  replace q112 := eq_true q112
                  refine start_ (n := 13) (S := fun w' => w'.cell? ⟨gb101, 0, none⟩ = some (.slice (some ad111) l0_0.length c0_0) ∧ w'.cell? ⟨gb101, 1, none⟩ = some (.int .i64 a0_1) ∧ w'.cell? ⟨gb101, 2, none⟩ = some (.int .i64 a0_2) ∧ w'.cell? ⟨gb101, 3, none⟩ = some (.int .i64 a0_3) ∧ w'.cell? (ad111.add ((x4_4).toNat * 5)) = some (.int .i64 ((qk l0_0 x4_4).f0)) ∧ w'.cell? ⟨(ad111.add ((x4_4).toNat * 5)).block, (ad111.add ((x4_4).toNat * 5)).off + 1, none⟩ = some (.int .i64 ((qk l0_0 x4_4).f1)) ∧ w'.cell? ⟨(ad111.add ((x4_4).toNat * 5)).block, (ad111.add ((x4_4).toNat * 5)).off + 2, none⟩ = some (.string ((qk l0_0 x4_4).f2)) ∧ w'.cell? ⟨(ad111.add ((x4_4).toNat * 5)).block, (ad111.add ((x4_4).toNat * 5)).off + 3, none⟩ = some (.string ((qk l0_0 x4_4).f3)) ∧ w'.cell? ⟨(ad111.add ((x4_4).toNat * 5)).block, (ad111.add ((x4_4).toNat * 5)).off + 4, none⟩ = some (.int .i64 ((qk l0_0 x4_4).f4)) ∧ w'.cell? (ad111.add ((x3_2).toNat * 5)) = some (.int .i64 ((qk l0_0 x3_2).f0)) ∧ w'.cell? ⟨(ad111.add ((x3_2).toNat * 5)).block, (ad111.add ((x3_2).toNat * 5)).off + 1, none⟩ = some (.int .i64 ((qk l0_0 x3_2).f1)) ∧ w'.cell? ⟨(ad111.add ((x3_2).toNat * 5)).block, (ad111.add ((x3_2).toNat * 5)).off + 2, none⟩ = some (.string ((qk l0_0 x3_2).f2)) ∧ w'.cell? ⟨(ad111.add ((x3_2).toNat * 5)).block, (ad111.add ((x3_2).toNat * 5)).off + 3, none⟩ = some (.string ((qk l0_0 x3_2).f3)) ∧ w'.cell? ⟨(ad111.add ((x3_2).toNat * 5)).block, (ad111.add ((x3_2).toNat * 5)).off + 4, none⟩ = some (.int .i64 ((qk l0_0 x3_2).f4))) (ds := []) bq1 (by kernel_rfl) rfl rfl ⟨(qe BK101.out 0).trans rfl, (qe BK101.out 1).trans rfl, (qe BK101.out 2).trans rfl, (qe BK101.out 3).trans rfl, ((HB.out.cell (World.block_lt_of_cell? w _ hw111_0)).trans hw111_0), ((HB.out.cell (World.block_lt_of_cell? w _ hw111_1)).trans hw111_1), ((HB.out.cell (World.block_lt_of_cell? w _ hw111_2)).trans hw111_2), ((HB.out.cell (World.block_lt_of_cell? w _ hw111_3)).trans hw111_3), ((HB.out.cell (World.block_lt_of_cell? w _ hw111_4)).trans hw111_4), ((HB.out.cell (World.block_lt_of_cell? w _ hw112_0)).trans hw112_0), ((HB.out.cell (World.block_lt_of_cell? w _ hw112_1)).trans hw112_1), ((HB.out.cell (World.block_lt_of_cell? w _ hw112_2)).trans hw112_2), ((HB.out.cell (World.block_lt_of_cell? w _ hw112_3)).trans hw112_3), ((HB.out.cell (World.block_lt_of_cell? w _ hw112_4)).trans hw112_4)⟩ (fun hHeld => ?_); refine with_tabW spec_VersionOk.tab11 spec_VersionOk.bits11 (fun HT_ HW_ => ?_)
                  generalize wr.drew = w44 at BK101 HB hx111_0 hx111_1 hx111_2 hx111_3 hx111_4 hx112_0 hx112_1 hx112_2 hx112_3 hx112_4 hHeld ⊢
                  refine pure_ (i := 0) (N := some 79) (v := ?_) (a' := ?_) bq5 rfl rfl (qq HT_.out (by kernel_rfl)) (fun _ _ _ h => h) (Or.inl ⟨by rfl, ?_⟩) ?_ ?_
                  rotate_left
                  ·intro w'
                   go_simp
                   with_reducible rfl
                  rotate_left
                  ·simp only [Act.put, sq1, sq2, sq3, i64_w, i32_w]
                   rfl
                  refine pure_ (i := 2) (N := some 81) (v := ?_) (a' := ?_) bq9 rfl rfl (qq HT_.out (by kernel_rfl)) (fun _ _ _ h => h) (Or.inl ⟨by rfl, ?_⟩) ?_ ?_
                  rotate_left
                  ·intro w'
                   go_simp
                   with_reducible rfl
                  rotate_left
                  ·simp only [Act.put, sq1, sq2, sq3, i64_w, i32_w]
                   rfl
                  refine pure_ (i := 6) (N := some 85) (v := ?_) (a' := ?_) bq10 rfl rfl (qq HT_.out (by kernel_rfl)) (fun _ _ _ h => h) (Or.inl ⟨by rfl, ?_⟩) ?_ ?_
                  rotate_left
                  ·intro w'
                   go_simp
                   with_reducible rfl
                  rotate_left
                  ·simp only [Act.put, sq1, sq2, sq3, i64_w, i32_w]
                   rfl
                  refine pure_ (i := 8) (N := some 87) (v := ?_) (a' := ?_) bq11 rfl rfl (qq HT_.out (by kernel_rfl)) (fun _ _ _ h => h) (Or.inl ⟨by rfl, ?_⟩) ?_ ?_
                  rotate_left
                  ·intro w'
                   go_simp
                   with_reducible rfl
                  rotate_left
                  ·simp only [Act.put, sq1, sq2, sq3, i64_w, i32_w]
                   rfl
                  refine take_ (i := 1) (N := some 80) (v := ?_) (a' := ?_) bq17 rfl rfl (take_ofW HT_.out HW_.out (by kernel_rfl)) (fun _ _ _ h => h) (Or.inl ⟨by rfl, ?_⟩) hHeld ?_ ?_
                  rotate_left
                  ·rintro w' ⟨s0, s1, s2, s3, s4, s5, s6, s7, s8, s9, s10, s11, s12, s13⟩
                   go_simp
                   with_reducible rfl
                  rotate_left
                  ·simp only [Act.put, sq1, sq2, sq3, i64_w, i32_w]
                   rfl
                  refine pure_ (i := 3) (N := some 82) (v := ?_) (a' := ?_) bq23 rfl rfl (qq HT_.out (by kernel_rfl)) (fun _ _ _ h => h) (Or.inl ⟨by rfl, ?_⟩) ?_ ?_
                  rotate_left
                  ·intro w'
                   go_simp
                   with_reducible rfl
                  rotate_left
                  ·simp only [Act.put, sq1, sq2, sq3, i64_w, i32_w]
                   rfl
                  refine pure_ (i := 4) (N := some 83) (v := ?_) (a' := ?_) bq26 rfl rfl (qq HT_.out (by kernel_rfl)) (fun _ _ _ h => h) (Or.inl ⟨by rfl, ?_⟩) ?_ ?_
                  rotate_left
                  ·intro w'
                   go_simp
                   with_reducible rfl
                  rotate_left
                  ·simp only [Act.put, sq1, sq2, sq3, i64_w, i32_w]
                   rfl
                  refine take_ (i := 5) (N := some 84) (v := ?_) (a' := ?_) bq31 rfl rfl (take_ofW HT_.out HW_.out (by kernel_rfl)) (fun _ _ _ h => h) (Or.inl ⟨by rfl, ?_⟩) hHeld ?_ ?_
                  rotate_left
                  ·rintro w' ⟨s0, s1, s2, s3, s4, s5, s6, s7, s8, s9, s10, s11, s12, s13⟩
                   go_simp
                   with_reducible rfl
                  rotate_left
                  ·simp only [Act.put, sq1, sq2, sq3, i64_w, i32_w]
                   rfl
                  refine take_ (i := 7) (N := some 86) (v := ?_) (a' := ?_) bq36 rfl rfl (take_ofW HT_.out HW_.out (by kernel_rfl)) (fun _ _ _ h => h) (Or.inl ⟨by rfl, ?_⟩) hHeld ?_ ?_
                  rotate_left
                  ·rintro w' ⟨s0, s1, s2, s3, s4, s5, s6, s7, s8, s9, s10, s11, s12, s13⟩
                   go_simp
                   with_reducible rfl
                  rotate_left
                  ·simp only [Act.put, sq1, sq2, sq3, i64_w, i32_w]
                   rfl
                  refine pure_ (i := 9) (N := some 88) (v := ?_) (a' := ?_) bq40 rfl rfl (qq HT_.out (by kernel_rfl)) (fun _ _ _ h => h) (Or.inl ⟨by rfl, ?_⟩) ?_ ?_
                  rotate_left
                  ·intro w'
                   go_simp
                   with_reducible rfl
                  rotate_left
                  ·simp only [Act.put, sq1, sq2, sq3, i64_w, i32_w]
                   rfl
                  refine pure_ (i := 10) (N := some 89) (v := ?_) (a' := ?_) bq42 rfl rfl (qq HT_.out (by kernel_rfl)) (fun _ _ _ h => h) (Or.inl ⟨by rfl, ?_⟩) ?_ ?_
                  rotate_left
                  ·intro w'
                   go_simp
                   with_reducible rfl
                  rotate_left
                  ·simp only [Act.put, sq1, sq2, sq3, i64_w, i32_w]
                   rfl
                  refine take_ (i := 11) (N := some 90) (v := ?_) (a' := ?_) bq44 rfl rfl (take_ofW HT_.out HW_.out (by kernel_rfl)) (fun _ _ _ h => h) (Or.inl ⟨by rfl, ?_⟩) hHeld ?_ ?_
                  rotate_left
                  ·rintro w' ⟨s0, s1, s2, s3, s4, s5, s6, s7, s8, s9, s10, s11, s12, s13⟩
                   go_simp
                   with_reducible rfl
                  rotate_left
                  ·simp only [Act.put, sq1, sq2, sq3, i64_w, i32_w]
                   rfl
                  refine pure_ (i := 12) (N := some 91) (v := ?_) (a' := ?_) bq69 rfl rfl (qq HT_.out (by kernel_rfl)) (fun _ _ _ h => h) (Or.inl ⟨by rfl, ?_⟩) ?_ ?_
                  rotate_left
                  ·intro w'
                   go_simp
                   with_reducible rfl
                  rotate_left
                  ·simp only [Act.put, sq1, sq2, sq3, i64_w, i32_w]
                   rfl
                  refine done_ (done_of HT_.out (by kernel_rfl)) ?_
                  try go_wp2
                  go_roundg k4
                  case measure => have := HJ1.out; have := HK2.out; have := HJ15.out; have := HK4.out; omega
                  case rel => exact ⟨(wrap64 (x4_4 + 1)), (by first | rfl | (simp; done) | (simp [*]; done)), H', ⟨by have := HJ1.out; have := HK2.out; have := HJ15.out; have := HK4.out; omega⟩, ⟨by (with_reducible repeat (first | refine qh ?_ _ | refine qj ?_ | refine qg ?_ _)); exact BK101.out⟩, ⟨by repeat (first | (with_reducible first | exact HB.out | apply qf | apply qa | apply qd | refine qi ?_ GE101.out) | exact HB.out)⟩⟩
                ·rw [if_neg c41] at H
                 exact absurd H (by simp)
               ·rw [if_neg c40] at H
                exact absurd H (by simp)
              ·rw [if_neg c39] at H
               exact absurd H (by simp)
             ·rw [if_neg c38] at H
              exact absurd H (by simp)
            ·rw [if_neg c37] at H
             have c37b0 : decide (x4_4 < x3_2) = false := decide_eq_false c37
             clear c37
             have H' := Qz.mk H
             clear H
             go_wp2
             go_roundg k4
             case measure => have := HJ1.out; have := HK2.out; have := HJ15.out; have := HK4.out; omega
             case rel => exact ⟨(wrap64 (x3_2 + 1)), (by first | rfl | (simp; done) | (simp [*]; done)), H', ⟨by have := HJ1.out; have := HK2.out; have := HJ15.out; have := HK4.out; omega⟩, ⟨by (with_reducible repeat (first | refine qh ?_ _ | refine qj ?_ | refine qg ?_ _)); exact BK101.out⟩, ⟨by repeat (first | (with_reducible first | exact HB.out | apply qf | apply qa | apply qd | refine qi ?_ GE101.out) | exact HB.out)⟩⟩
      ·rw [if_neg c15] at H
       have c15b0 : decide (x3_2 < (l0_0.length : Int)) = false := decide_eq_false c15
       clear c15
       obtain rfl := Option.some.inj H
       have hcz45_0 : wr.cell? ⟨gb101, 0, none⟩ = some (.slice A0_0 l0_0.length c0_0) := (qe BK101.out 0).trans rfl
       have hcz45_1 : wr.cell? ⟨gb101, 1, none⟩ = some (.int .i64 a0_1) := (qe BK101.out 1).trans rfl
       have hcz45_2 : wr.cell? ⟨gb101, 2, none⟩ = some (.int .i64 a0_2) := (qe BK101.out 2).trans rfl
       have hcz45_3 : wr.cell? ⟨gb101, 3, none⟩ = some (.int .i64 a0_3) := (qe BK101.out 3).trans rfl
       have hfz45_0 := qc BK101.out 0
       have hfz45_1 := qc BK101.out 1
       have hfz45_2 := qc BK101.out 2
       have hfz45_3 := qc BK101.out 3
       go_wp2
       go_ret
       exact ⟨by first | rfl | (simp [qo, qn] <;> rfl) | (simp [*, qo, qn] <;> rfl), by repeat (first | (with_reducible first | exact HB.out | apply qf | apply qa | apply qd | refine qi ?_ GE101.out) | exact HB.out)⟩
def spec_PutFixed.f (a0 : Int) : Option (ByteArray) := some (strOfNums (([(a0) % 256, (a0 / 256) % 256, (a0 / 65536) % 256, (a0 / 16777216) % 256] : List Int)))
set_option maxHeartbeats 8000000 in
set_option maxRecDepth 100000 in
theorem spec_PutFixed.calls (a0 : Int) (r : ByteArray) (w : World) (h : spec_PutFixed.f a0 = some r) :
  Calls Try.prog 104 #[.int .u32 a0] w fun e w' => e = .returned (.string r) ∧ Below w.heap.size w w' := by
 have HB := Qz.mk (Below.refl w.heap.size w)
 have H : (some (strOfNums (([(a0) % 256, (a0 / 256) % 256, (a0 / 65536) % 256, (a0 / 16777216) % 256] : List Int)))) = some r := h
 clear h
 obtain ⟨y101, hy101⟩ : ∃ y_ : List Int, y_ = (([(a0) % 256, (a0 / 256) % 256, (a0 / 65536) % 256, (a0 / 16777216) % 256] : List Int)) := ⟨_, rfl⟩
 replace H : (some (strOfNums y101)) = some r := by first | (rw [hy101]; with_reducible exact H) | (have H2_ := (Option.bind_some _ _).symm.trans H; rw [hy101]; with_reducible exact H2_) | (have H2_ := (Option.bind_some _ _).symm.trans H; with_reducible exact H2_) | with_reducible exact H | (rw [hy101]; exact H) | exact H
 have Ny101 := Qz.mk hy101
 clear hy101
 obtain rfl := Option.some.inj H
 go_enter Try.func104, Try.ntmps104
 go_wp2_with (first | ((with_reducible refine gate_dst (N := 14) rfl ?_); refine Kd.R_lit (Kd.int .u8) _ 5 ?hg (N := 14) ?hd (xs := ([(a0) % 256, (a0 / 256) % 256, (a0 / 65536) % 256, (a0 / 16777216) % 256] : List Int)) (inner := [.int .u8 ((a0) % 256), .int .u8 ((a0 / 256) % 256), .int .u8 ((a0 / 65536) % 256), .int .u8 ((a0 / 16777216) % 256)]) (ok := fun _ => True) (okp := fun _ => True) ?hr ?hp (fun _ hk => hk) trivial (Below.refl _ _) (Nat.le_refl _) (by simp) ?_; (case hd => rfl); (case hg => rfl); (case hr => first | (go_simp; done) | (go_simp; rfl)); (case hp => exact (Reps.one (show Kd.M (Kd.int .u8) _ _ _ ((a0) % 256) [.int .u8 ((a0) % 256)] from rfl) (Reps.one (show Kd.M (Kd.int .u8) _ _ _ ((a0 / 256) % 256) [.int .u8 ((a0 / 256) % 256)] from rfl) (Reps.one (show Kd.M (Kd.int .u8) _ _ _ ((a0 / 65536) % 256) [.int .u8 ((a0 / 65536) % 256)] from rfl) (Reps.one (show Kd.M (Kd.int .u8) _ _ _ ((a0 / 16777216) % 256) [.int .u8 ((a0 / 16777216) % 256)] from rfl) (Reps.none _ _)))))); intro v102 w2 ho3 hb hg_ hnew_; clear hg_ hnew_; (first | rw [← Ny101.out] at ho3 | (simp only [Int.reduceToNat] at ho3; rw [← Ny101.out] at ho3)); have HO103 := Qz.mk (Kd.R_lower ho3 (qs (by repeat (first | (with_reducible first | exact HB.out | apply qf | apply qa | apply qd) | exact HB.out)))); replace HB := Qz.mk (qp (by repeat (first | (with_reducible first | exact HB.out | apply qf | apply qa | apply qd) | exact HB.out)) hb); clear hb ho3; have hcv4 := own_string (P := Try.prog) Try.underlying57 Try.underlying5 Try.underlying9 (Kd.own_of_R HO103.out)))
 go_ret
 exact ⟨by first | rfl | (simp [qo, qn] <;> rfl) | (simp [*, qo, qn] <;> rfl), by repeat (first | (with_reducible first | exact HB.out | apply qf | apply qa | apply qd) | exact HB.out)⟩
mutual
def spec_Crc.l0 : Nat → ByteArray → Int → Int → Option (Int)
 | 0, _, _, _ => none
 | k + 1, x0, x3, x4 => if x4 < (x0.size : Int) then (if 0 ≤ x4 then (spec_Crc.l1 k x0 (Go.bits .xor .u32 x3 ((bt x0 x4) % 4294967296)) x4 0) else (none)) else (some (Go.bits .xor .u32 x3 4294967295))
def spec_Crc.l1 : Nat → ByteArray → Int → Int → Int → Option (Int)
 | 0, _, _, _, _ => none
 | k + 1, x0, x3, x4, x5 => if x5 < 8 then (if (Int.tmod x3 2) = 1 then (spec_Crc.l1 k x0 (Go.bits .xor .u32 (x3 / 2) 2197175160) x4 (wrap64 (x5 + 1))) else (spec_Crc.l1 k x0 (x3 / 2) x4 (wrap64 (x5 + 1)))) else (spec_Crc.l0 k x0 x3 (wrap64 (x4 + 1)))
end
def spec_Crc.f (k : Nat) (a0 : ByteArray) : Option (Int) := spec_Crc.l0 k a0 4294967295 0
set_option maxHeartbeats 8000000 in
set_option maxRecDepth 100000 in
theorem spec_Crc.calls (k : Nat) (a0 : ByteArray) (r : Int) (w : World) (h : spec_Crc.f k a0 = some r) :
  Calls Try.prog 105 #[.string a0] w fun e w' => e = .returned (.int .u32 r) ∧ Drawn0 w w' := by
 have H : (spec_Crc.l0 k a0 4294967295 0) = some r := h
 clear h
 have H' := Qz.mk H
 clear H
 go_enter Try.func105, Try.ntmps105
 go_wp2
 go_loopg [3, 4] k (fun kq v3 v4 w' => ∃ (x3_1 : Int) (x4_1 : Int), v3 = .int .u32 x3_1 ∧ v4 = .int .i64 x4_1 ∧ Qz (spec_Crc.l0 kq a0 x3_1 x4_1 = some r) ∧ Qz (kq ≤ k) ∧ Drawn0 w w')
 case atStart => exact ⟨(4294967295), (0), (by first | rfl | (simp; done) | (simp [*]; done)), (by first | rfl | (simp; done) | (simp [*]; done)), H', ⟨Nat.le_refl _⟩, by repeat (first | exact Drawn0.refl _ | apply Drawn0.step)⟩
 case round =>
  clear H'
  try clear c1
  obtain ⟨x3_1, x4_1, rfl, rfl, HA, HK1, ⟨m1, rfl⟩⟩ := hrel
  cases gk with
  | zero => exact absurd HA.out (by simp [spec_Crc.l0])
  | succ k1 =>
   have H := HA.out
   clear HA
   simp only [spec_Crc.l0] at H
   by_cases c2 : x4_1 < (a0.size : Int)
   ·rw [if_pos c2] at H
    have c2b0 : decide (x4_1 < (a0.size : Int)) = true := decide_eq_true c2
    clear c2
    by_cases c3 : 0 ≤ x4_1
    ·rw [if_pos c3] at H
     have c3b0 : decide (0 ≤ x4_1) = true := decide_eq_true c3
     clear c3
     have H' := Qz.mk H
     clear H
     have p4 : 0 ≤ (x4_1 : Int) := of_decide_eq_true (by first | (with_reducible assumption) | assumption)
     have q4 : x4_1 < (a0.size : Int) := of_decide_eq_true (by first | (with_reducible assumption) | assumption)
     have hx4 := bt_at a0 x4_1
     replace p4 := eq_true p4
     replace q4 := eq_true q4
     go_wp2
     go_loopg [3, 5] k1 (fun kq v3 v5 w' => ∃ (x3_2 : Int) (x5_2 : Int), v3 = .int .u32 x3_2 ∧ v5 = .int .i64 x5_2 ∧ Qz (spec_Crc.l1 kq a0 x3_2 x4_1 x5_2 = some r) ∧ Qz (kq ≤ k1) ∧ Drawn0 w w')
     case atStart => exact ⟨(Go.bits .xor .u32 x3_1 ((bt a0 x4_1) % 4294967296)), (0), (by first | rfl | (simp; done) | (simp [*]; done)), (by first | rfl | (simp; done) | (simp [*]; done)), H', ⟨Nat.le_refl _⟩, by repeat (first | exact Drawn0.refl _ | apply Drawn0.step)⟩
     case round =>
      clear H'
      try clear c1
      try clear c2
      try clear c2b0
      try clear p2
      try clear c3
      try clear c3b0
      try clear p4
      try clear q4
      try clear hx4
      try clear p4
      try clear q4
      obtain ⟨x3_2, x5_2, rfl, rfl, HA, HK2, ⟨m2, rfl⟩⟩ := hrel
      cases gk with
      | zero => exact absurd HA.out (by simp [spec_Crc.l1])
      | succ k2 =>
       have H := HA.out
       clear HA
       simp only [spec_Crc.l1] at H
       by_cases c5 : x5_2 < 8
       ·rw [if_pos c5] at H
        have c5b0 : decide (x5_2 < 8) = true := decide_eq_true c5
        clear c5
        by_cases c6 : (Int.tmod x3_2 2) = 1
        ·rw [if_pos c6] at H
         have c6b0 : ((Int.tmod x3_2 2) == 1) = true := beq_iff_eq.mpr c6
         have c6b1 : ((Int.tmod x3_2 2) != 1) = false := bne_eq_false_iff_eq.mpr c6
         clear c6
         have H' := Qz.mk H
         clear H
         go_wp2
         go_roundg k2
         case measure => have := HK1.out; have := HK2.out; omega
         case rel => exact ⟨(Go.bits .xor .u32 (x3_2 / 2) 2197175160), (wrap64 (x5_2 + 1)), (by first | rfl | (simp; done) | (simp [*]; done)), (by first | rfl | (simp; done) | (simp [*]; done)), H', ⟨by have := HK1.out; have := HK2.out; omega⟩, by repeat (first | exact Drawn0.refl _ | apply Drawn0.step)⟩
        ·rw [if_neg c6] at H
         have c6b0 : ((Int.tmod x3_2 2) == 1) = false := beq_eq_false_iff_ne.mpr c6
         have c6b1 : ((Int.tmod x3_2 2) != 1) = true := bne_iff_ne.mpr c6
         have H' := Qz.mk H
         clear H
         go_wp2
         go_roundg k2
         case measure => have := HK1.out; have := HK2.out; omega
         case rel => exact ⟨(x3_2 / 2), (wrap64 (x5_2 + 1)), (by first | rfl | (simp; done) | (simp [*]; done)), (by first | rfl | (simp; done) | (simp [*]; done)), H', ⟨by have := HK1.out; have := HK2.out; omega⟩, by repeat (first | exact Drawn0.refl _ | apply Drawn0.step)⟩
       ·rw [if_neg c5] at H
        have c5b0 : decide (x5_2 < 8) = false := decide_eq_false c5
        clear c5
        have H' := Qz.mk H
        clear H
        go_wp2
        go_roundg k2
        case measure => have := HK1.out; have := HK2.out; omega
        case rel => exact ⟨(x3_2), (wrap64 (x4_1 + 1)), (by first | rfl | (simp; done) | (simp [*]; done)), (by first | rfl | (simp; done) | (simp [*]; done)), H', ⟨by have := HK1.out; have := HK2.out; omega⟩, by repeat (first | exact Drawn0.refl _ | apply Drawn0.step)⟩
    ·rw [if_neg c3] at H
     exact absurd H (by simp)
   ·rw [if_neg c2] at H
    have c2b0 : decide (x4_1 < (a0.size : Int)) = false := decide_eq_false c2
    clear c2
    obtain rfl := Option.some.inj H
    go_wp2
    go_ret
    exact ⟨by first | rfl | (simp; done) | (simp [*]; done), by repeat (first | exact Drawn0.refl _ | apply Drawn0.step)⟩
def spec_PutVar.l0 : Nat → Int → List Int → Option (ByteArray)
 | 0, _, _ => none
 | k + 1, x0, x3 => if x0 ≥ 128 then (if x3.length < 140737488355328 then (spec_PutVar.l0 k (IntKind.u64.wrap (Int.tdiv x0 128)) (x3 ++ [(IntKind.u64.wrap ((Int.tmod x0 128) + 128)) % 256])) else (none)) else (if x3.length < 140737488355328 then (some (strOfNums (x3 ++ [(x0) % 256]))) else (none))
def spec_PutVar.f (k : Nat) (a0 : Int) : Option (ByteArray) := spec_PutVar.l0 k a0 (([] : List Int))
set_option maxHeartbeats 8000000 in
set_option maxRecDepth 100000 in
theorem spec_PutVar.calls (k : Nat) (a0 : Int) (r : ByteArray) (w : World) (h : spec_PutVar.f k a0 = some r) :
  Calls Try.prog 76 #[.int .u64 a0] w fun e w' => e = .returned (.string r) ∧ Below w.heap.size w w' := by
 have HB := Qz.mk (Below.refl w.heap.size w)
 have H : (spec_PutVar.l0 k a0 (([] : List Int))) = some r := h
 clear h
 obtain ⟨y101, hy101⟩ : ∃ y_ : List Int, y_ = (([] : List Int)) := ⟨_, rfl⟩
 replace H : (spec_PutVar.l0 k a0 y101) = some r := by first | (rw [hy101]; with_reducible exact H) | (have H2_ := (Option.bind_some _ _).symm.trans H; rw [hy101]; with_reducible exact H2_) | (have H2_ := (Option.bind_some _ _).symm.trans H; with_reducible exact H2_) | with_reducible exact H | (rw [hy101]; exact H) | exact H
 have Ny101 := Qz.mk hy101
 clear hy101
 have H' := Qz.mk H
 clear H
 go_enter Try.func76, Try.ntmps76
 go_wp2_with (first | ((with_reducible refine gate_dst (N := 4) rfl ?_); refine Kd.R_lit (Kd.int .u8) _ 5 ?hg (N := 4) ?hd (xs := ([] : List Int)) (inner := []) (ok := fun _ => True) (okp := fun _ => True) ?hr ?hp (fun _ hk => hk) trivial (Below.refl _ _) (Nat.le_refl _) (by simp) ?_; (case hd => rfl); (case hg => rfl); (case hr => first | (go_simp; done) | (go_simp; rfl)); (case hp => exact (Reps.none _ _)); intro v102 w2 ho3 hb hg_ hnew_; clear hg_ hnew_; (first | rw [← Ny101.out] at ho3 | (simp only [Int.reduceToNat] at ho3; rw [← Ny101.out] at ho3)); have HO103 := Qz.mk (Kd.R_lower ho3 (qs (by repeat (first | (with_reducible first | exact HB.out | apply qf | apply qa | apply qd) | exact HB.out)))); replace HB := Qz.mk (qp (by repeat (first | (with_reducible first | exact HB.out | apply qf | apply qa | apply qd) | exact HB.out)) hb); clear hb ho3))
 go_loopg [0, 3] k (fun kq v0 v3 w' => ∃ (x0_1 : Int) (x3_1 : List Int), v0 = .int .u64 x0_1 ∧ Qz (spec_PutVar.l0 kq x0_1 x3_1 = some r) ∧ Qz (kq ≤ k) ∧ Qz (Kd.R (Kd.int .u8) 5 w' w.heap.size (fun _ => True) v3 x3_1) ∧ Qz (Below w.heap.size w w'))
 case atStart => exact ⟨(a0), (y101), (by first | rfl | (simp; done) | (simp [*]; done)), H', ⟨Nat.le_refl _⟩, ⟨by (with_reducible repeat (first | apply Kd.R_alloc | apply Kd.R_drewN | apply Kd.R_drew)); exact HO103.out⟩, ⟨by repeat (first | (with_reducible first | exact HB.out | apply qf | apply qa | apply qd) | exact HB.out)⟩⟩
 case round =>
  clear H'
  try clear p2
  obtain ⟨x0_1, x3_1, rfl, HA, HK1, HO_3, HB⟩ := hrel
  cases gk with
  | zero => exact absurd HA.out (by simp [spec_PutVar.l0])
  | succ k1 =>
   have H := HA.out
   clear HA
   simp only [spec_PutVar.l0] at H
   by_cases c4 : x0_1 ≥ 128
   ·rw [if_pos c4] at H
    have c4b0 : decide (128 ≤ x0_1) = true := decide_eq_true c4
    clear c4
    by_cases c5 : x3_1.length < 140737488355328
    ·rw [if_pos c5] at H
     have LMc5 := Qz.mk c5
     clear c5
     obtain ⟨y104, hy104⟩ : ∃ y_ : List Int, y_ = (x3_1 ++ [(IntKind.u64.wrap ((Int.tmod x0_1 128) + 128)) % 256]) := ⟨_, rfl⟩
     replace H : (spec_PutVar.l0 k1 (IntKind.u64.wrap (Int.tdiv x0_1 128)) y104) = some r := by first | (rw [hy104]; with_reducible exact H) | (have H2_ := (Option.bind_some _ _).symm.trans H; rw [hy104]; with_reducible exact H2_) | (have H2_ := (Option.bind_some _ _).symm.trans H; with_reducible exact H2_) | with_reducible exact H | (rw [hy104]; exact H) | exact H
     have Ny104 := Qz.mk hy104
     clear hy104
     have H' := Qz.mk H
     clear H
     go_wp2_with (first | ((with_reducible refine gate_builtin (b := .append) (xs := #[.tmp 7, .tmp 12]) rfl ?_); at_builtin; refine Kd.R_append (Kd.int .u8) (w0 := w) w.heap.size rfl (.tmp 7) (.tmp 12) 57 5 (.int .u8 0) 1 rfl Try.underlying57 info5 rfl (by decide) (by omega) u3 x3_1 ((IntKind.u64.wrap ((Int.tmod x0_1 128) + 128)) % 256) [.int .u8 ((IntKind.u64.wrap ((Int.tmod x0_1 128) + 128)) % 256)] (fun _ => True) (fun _ => False) rfl rfl ?aP (fun _ hk => hk.elim) ?aF ?aO ?aB ?aS ?aL ?_; (case aP => exact rfl); (case aB => exact (by repeat (first | (with_reducible first | exact HB.out | apply qf | apply qa | apply qd) | exact HB.out))); (case aF => exact (fun _ _ => trivial)); (case aO => exact (by (with_reducible repeat (first | apply Kd.R_alloc | apply Kd.R_drewN | apply Kd.R_drew)); exact HO_3.out)); (case aS => exact (qs (by repeat (first | (with_reducible first | exact HB.out | apply qf | apply qa | apply qd) | exact HB.out)))); (case aL => have := LMc5.out; omega); intro v105 w6 ho hb hg hat; rw [← Ny104.out] at ho; have n0_ := Qz.mk (hb); have n1_ := Qz.mk (ho); clear HB; clear HO_3; have HB := n0_; have HO106 := n1_; clear n0_ n1_; clear ho hb hg hat))
     go_roundg k1
     case measure => have := HK1.out; omega
     case rel => exact ⟨(IntKind.u64.wrap (Int.tdiv x0_1 128)), (y104), (by first | rfl | (simp; done) | (simp [*]; done)), H', ⟨by have := HK1.out; omega⟩, ⟨by (with_reducible repeat (first | apply Kd.R_alloc | apply Kd.R_drewN | apply Kd.R_drew)); exact HO106.out⟩, ⟨by repeat (first | (with_reducible first | exact HB.out | apply qf | apply qa | apply qd) | exact HB.out)⟩⟩
    ·rw [if_neg c5] at H
     exact absurd H (by simp)
   ·rw [if_neg c4] at H
    have c4b0 : decide (128 ≤ x0_1) = false := decide_eq_false c4
    clear c4
    by_cases c7 : x3_1.length < 140737488355328
    ·rw [if_pos c7] at H
     have LMc7 := Qz.mk c7
     clear c7
     obtain ⟨y107, hy107⟩ : ∃ y_ : List Int, y_ = (x3_1 ++ [(x0_1) % 256]) := ⟨_, rfl⟩
     replace H : (some (strOfNums y107)) = some r := by first | (rw [hy107]; with_reducible exact H) | (have H2_ := (Option.bind_some _ _).symm.trans H; rw [hy107]; with_reducible exact H2_) | (have H2_ := (Option.bind_some _ _).symm.trans H; with_reducible exact H2_) | with_reducible exact H | (rw [hy107]; exact H) | exact H
     have Ny107 := Qz.mk hy107
     clear hy107
     obtain rfl := Option.some.inj H
     go_wp2_with (first | ((with_reducible refine gate_builtin (b := .append) (xs := #[.tmp 16, .tmp 19]) rfl ?_); at_builtin; refine Kd.R_append (Kd.int .u8) (w0 := w) w.heap.size rfl (.tmp 16) (.tmp 19) 57 5 (.int .u8 0) 1 rfl Try.underlying57 info5 rfl (by decide) (by omega) u3 x3_1 ((x0_1) % 256) [.int .u8 ((x0_1) % 256)] (fun _ => True) (fun _ => False) rfl rfl ?aP (fun _ hk => hk.elim) ?aF ?aO ?aB ?aS ?aL ?_; (case aP => exact rfl); (case aB => exact (by repeat (first | (with_reducible first | exact HB.out | apply qf | apply qa | apply qd) | exact HB.out))); (case aF => exact (fun _ _ => trivial)); (case aO => exact (by (with_reducible repeat (first | apply Kd.R_alloc | apply Kd.R_drewN | apply Kd.R_drew)); exact HO_3.out)); (case aS => exact (qs (by repeat (first | (with_reducible first | exact HB.out | apply qf | apply qa | apply qd) | exact HB.out)))); (case aL => have := LMc7.out; omega); intro v108 w8 ho hb hg hat; rw [← Ny107.out] at ho; have n0_ := Qz.mk (hb); have n1_ := Qz.mk (ho); clear HB; clear HO_3; have HB := n0_; have HO109 := n1_; clear n0_ n1_; clear ho hb hg hat; have hcv9 := own_string (P := Try.prog) Try.underlying57 Try.underlying5 Try.underlying9 (Kd.own_of_R HO109.out)))
     go_ret
     exact ⟨by first | rfl | (simp [qo, qn] <;> rfl) | (simp [*, qo, qn] <;> rfl), by repeat (first | (with_reducible first | exact HB.out | apply qf | apply qa | apply qd) | exact HB.out)⟩
    ·rw [if_neg c7] at H
     exact absurd H (by simp)
def spec_PutText.f (k : Nat) (a0 : ByteArray) : Option (ByteArray) := (spec_PutVar.f k (IntKind.u64.wrap ((a0.size : Int)))).bind fun t101 => (if t101.size + a0.size ≤ 9223372036854775807 then (some (t101 ++ a0)) else (none))
set_option maxHeartbeats 8000000 in
set_option maxRecDepth 100000 in
theorem spec_PutText.calls (k : Nat) (a0 : ByteArray) (r : ByteArray) (w : World) (h : spec_PutText.f k a0 = some r) :
  Calls Try.prog 77 #[.string a0] w fun e w' => e = .returned (.string r) ∧ Below w.heap.size w w' := by
 have HB := Qz.mk (Below.refl w.heap.size w)
 have H : ((spec_PutVar.f k (IntKind.u64.wrap ((a0.size : Int)))).bind fun t101 => (if t101.size + a0.size ≤ 9223372036854775807 then (some (t101 ++ a0)) else (none))) = some r := h
 clear h
 replace H := Option.bind_eq_some_iff.mp H
 obtain ⟨t101, A20, H⟩ := H
 replace H : (if t101.size + a0.size ≤ 9223372036854775807 then (some (t101 ++ a0)) else (none)) = some r := H
 have A2 := Qz.mk A20
 clear A20
 by_cases c3 : t101.size + a0.size ≤ 9223372036854775807
 ·rw [if_pos c3] at H
  have c3b0 := eq_true c3
  have c3b1 : decide (t101.size + a0.size ≤ 9223372036854775807) = true := decide_eq_true c3
  try have c3b2 : (9223372036854775807 < t101.size + a0.size) = False := eq_false (Nat.not_lt.2 c3)
  obtain rfl := Option.some.inj H
  go_enter Try.func77, Try.ntmps77
  go_wp2_with (first | ((with_reducible refine qm (f := 76) rfl ?_); refine qt (some 6) rfl rfl Try.func76 (by kernel_rfl) rfl #[.int .u64 (IntKind.u64.wrap ((a0.size : Int)))] rfl (by (try simp only [List.map_toArray, List.map_cons, List.map_nil]); first | done | rfl | (simp only [List.length_drop, List.length_take]; rfl) | (rw [IntWalk.u64_in _ (by omega)] <;> rfl)) ?_; (with_reducible refine (spec_PutVar.calls k (IntKind.u64.wrap ((a0.size : Int))) t101 _ A2.out).mono ?_); rintro e w4 ⟨rfl, hb⟩; refine ⟨_, rfl, ?_⟩; replace HB := Qz.mk (qp (by repeat (first | (with_reducible first | exact HB.out | apply qf | apply qa | apply qd) | exact HB.out)) hb); (try clear hb)))
  go_ret
  exact ⟨by first | rfl | (simp [qo, qn] <;> rfl) | (simp [*, qo, qn] <;> rfl), by repeat (first | (with_reducible first | exact HB.out | apply qf | apply qa | apply qd) | exact HB.out)⟩
 ·rw [if_neg c3] at H
  exact absurd H (by simp)
def spec_l10Section.f (k : Nat) (a0 : ByteArray) : Option (ByteArray) := (spec_PutText.f k a0).bind fun t101 => ((spec_Crc.f k a0).bind fun t102 => ((spec_PutFixed.f t102).bind fun t103 => (if t101.size + t103.size ≤ 9223372036854775807 then (some (t101 ++ t103)) else (none))))
set_option maxHeartbeats 8000000 in
set_option maxRecDepth 100000 in
theorem spec_l10Section.calls (k : Nat) (a0 : ByteArray) (r : ByteArray) (w : World) (h : spec_l10Section.f k a0 = some r) :
  Calls Try.prog 78 #[.string a0] w fun e w' => e = .returned (.string r) ∧ Below w.heap.size w w' := by
 have HB := Qz.mk (Below.refl w.heap.size w)
 have H : ((spec_PutText.f k a0).bind fun t101 => ((spec_Crc.f k a0).bind fun t102 => ((spec_PutFixed.f t102).bind fun t103 => (if t101.size + t103.size ≤ 9223372036854775807 then (some (t101 ++ t103)) else (none))))) = some r := h
 clear h
 replace H := Option.bind_eq_some_iff.mp H
 obtain ⟨t101, A20, H⟩ := H
 replace H : ((spec_Crc.f k a0).bind fun t102 => ((spec_PutFixed.f t102).bind fun t103 => (if t101.size + t103.size ≤ 9223372036854775807 then (some (t101 ++ t103)) else (none)))) = some r := H
 have A2 := Qz.mk A20
 clear A20
 replace H := Option.bind_eq_some_iff.mp H
 obtain ⟨t102, A30, H⟩ := H
 replace H : ((spec_PutFixed.f t102).bind fun t103 => (if t101.size + t103.size ≤ 9223372036854775807 then (some (t101 ++ t103)) else (none))) = some r := H
 have A3 := Qz.mk A30
 clear A30
 replace H := Option.bind_eq_some_iff.mp H
 obtain ⟨t103, A40, H⟩ := H
 replace H : (if t101.size + t103.size ≤ 9223372036854775807 then (some (t101 ++ t103)) else (none)) = some r := H
 have A4 := Qz.mk A40
 clear A40
 by_cases c5 : t101.size + t103.size ≤ 9223372036854775807
 ·rw [if_pos c5] at H
  have c5b0 := eq_true c5
  have c5b1 : decide (t101.size + t103.size ≤ 9223372036854775807) = true := decide_eq_true c5
  try have c5b2 : (9223372036854775807 < t101.size + t103.size) = False := eq_false (Nat.not_lt.2 c5)
  obtain rfl := Option.some.inj H
  go_enter Try.func78, Try.ntmps78
  go_wp2_with (first | ((with_reducible refine qm (f := 77) rfl ?_); refine qt (some 4) rfl rfl Try.func77 (by kernel_rfl) rfl #[.string a0] rfl (by (try simp only [List.map_toArray, List.map_cons, List.map_nil]); first | done | rfl) ?_; (with_reducible refine (spec_PutText.calls k a0 t101 _ A2.out).mono ?_); rintro e w6 ⟨rfl, hb⟩; refine ⟨_, rfl, ?_⟩; replace HB := Qz.mk (qp (by repeat (first | (with_reducible first | exact HB.out | apply qf | apply qa | apply qd) | exact HB.out)) hb); (try clear hb)) | ((with_reducible refine qm (f := 105) rfl ?_); refine qt (some 6) rfl rfl Try.func105 (by kernel_rfl) rfl #[.string a0] rfl (by (try simp only [List.map_toArray, List.map_cons, List.map_nil]); first | done | rfl) ?_; (with_reducible refine (spec_Crc.calls k a0 t102 _ A3.out).mono ?_); rintro e w' ⟨rfl, ⟨nd, rfl⟩⟩; refine ⟨_, rfl, ?_⟩) | ((with_reducible refine qm (f := 104) rfl ?_); refine qt (some 7) rfl rfl Try.func104 (by kernel_rfl) rfl #[.int .u32 t102] rfl (by (try simp only [List.map_toArray, List.map_cons, List.map_nil]); first | done | rfl) ?_; (with_reducible refine (spec_PutFixed.calls t102 t103 _ A4.out).mono ?_); rintro e w7 ⟨rfl, hb⟩; refine ⟨_, rfl, ?_⟩; replace HB := Qz.mk (qp (by repeat (first | (with_reducible first | exact HB.out | apply qf | apply qa | apply qd) | exact HB.out)) hb); (try clear hb)))
  go_ret
  exact ⟨by first | rfl | (simp [qo, qn] <;> rfl) | (simp [*, qo, qn] <;> rfl), by repeat (first | (with_reducible first | exact HB.out | apply qf | apply qa | apply qd) | exact HB.out)⟩
 ·rw [if_neg c5] at H
  exact absurd H (by simp)
def spec_TakeFixed.f (a0 : ByteArray) : Option (Int × ByteArray × Bool) := if (a0.size : Int) < 4 then (some (0, (⟨#[]⟩ : ByteArray), false)) else (if 0 < (a0.size : Int) then (if 1 < (a0.size : Int) then (if 2 < (a0.size : Int) then (if 3 < (a0.size : Int) then (if 4 ≤ (a0.size : Int) then (some (Go.bits .or .u32 (Go.bits .or .u32 (Go.bits .or .u32 ((bt a0 0) % 4294967296) ((((bt a0 1) % 4294967296) * 256) % 4294967296)) ((((bt a0 2) % 4294967296) * 65536) % 4294967296)) ((((bt a0 3) % 4294967296) * 16777216) % 4294967296), a0.extract 4 a0.size, true)) else (none)) else (none)) else (none)) else (none)) else (none))
set_option maxHeartbeats 8000000 in
set_option maxRecDepth 100000 in
theorem spec_TakeFixed.calls (a0 : ByteArray) (r1 : Int) (r2 : ByteArray) (r3 : Bool) (w : World) (h : spec_TakeFixed.f a0 = some (r1, r2, r3)) :
  Calls Try.prog 110 #[.string a0] w fun e w' => e = .returned (.tuple #[.int .u32 r1, .string r2, .bool r3]) ∧ Drawn0 w w' := by
 have H : (if (a0.size : Int) < 4 then (some (0, (⟨#[]⟩ : ByteArray), false)) else (if 0 < (a0.size : Int) then (if 1 < (a0.size : Int) then (if 2 < (a0.size : Int) then (if 3 < (a0.size : Int) then (if 4 ≤ (a0.size : Int) then (some (Go.bits .or .u32 (Go.bits .or .u32 (Go.bits .or .u32 ((bt a0 0) % 4294967296) ((((bt a0 1) % 4294967296) * 256) % 4294967296)) ((((bt a0 2) % 4294967296) * 65536) % 4294967296)) ((((bt a0 3) % 4294967296) * 16777216) % 4294967296), a0.extract 4 a0.size, true)) else (none)) else (none)) else (none)) else (none)) else (none))) = some (r1, r2, r3) := h
 clear h
 by_cases c2 : (a0.size : Int) < 4
 ·rw [if_pos c2] at H
  have c2b0 : decide ((a0.size : Int) < 4) = true := decide_eq_true c2
  have c2b1 : decide (a0.size < 4) = true := decide_eq_true (by omega)
  clear c2
  simp only [Option.some.injEq, Prod.mk.injEq] at H
  obtain ⟨rfl, rfl, rfl⟩ := H
  go_enter Try.func110, Try.ntmps110
  go_wp2
  repeat (go_quiet (fail); try go_wp2)
  go_ret3
  exact ⟨by first | rfl | (simp; done) | (simp [*]; done), by repeat (first | exact Drawn0.refl _ | apply Drawn0.step)⟩
 ·rw [if_neg c2] at H
  have c2b0 : decide ((a0.size : Int) < 4) = false := decide_eq_false c2
  have c2b1 : decide (a0.size < 4) = false := decide_eq_false (by omega)
  clear c2
  by_cases c3 : 0 < (a0.size : Int)
  ·rw [if_pos c3] at H
   have c3b0 : decide (0 < (a0.size : Int)) = true := decide_eq_true c3
   have c3b1 : decide (0 < a0.size) = true := decide_eq_true (by omega)
   clear c3
   by_cases c5 : 1 < (a0.size : Int)
   ·rw [if_pos c5] at H
    have c5b0 : decide (1 < (a0.size : Int)) = true := decide_eq_true c5
    have c5b1 : decide (1 < a0.size) = true := decide_eq_true (by omega)
    clear c5
    by_cases c7 : 2 < (a0.size : Int)
    ·rw [if_pos c7] at H
     have c7b0 : decide (2 < (a0.size : Int)) = true := decide_eq_true c7
     have c7b1 : decide (2 < a0.size) = true := decide_eq_true (by omega)
     clear c7
     by_cases c9 : 3 < (a0.size : Int)
     ·rw [if_pos c9] at H
      have c9b0 : decide (3 < (a0.size : Int)) = true := decide_eq_true c9
      have c9b1 : decide (3 < a0.size) = true := decide_eq_true (by omega)
      clear c9
      by_cases c11 : 4 ≤ (a0.size : Int)
      ·rw [if_pos c11] at H
       have c11b0 := eq_true c11
       have c11b1 : decide (4 ≤ (a0.size : Int)) = true := decide_eq_true c11
       clear c11
       simp only [Option.some.injEq, Prod.mk.injEq] at H
       obtain ⟨rfl, rfl, rfl⟩ := H
       have p4 : 0 ≤ (0 : Int) := (by omega)
       have q4 : 0 < a0.size := (by have : (0 : Int) < (a0.size : Int) := of_decide_eq_true (by first | (with_reducible assumption) | assumption); omega)
       have hx4 : ∀ h : 0 < a0.size, ((a0[0]'h).toNat : Int) = bt a0 0 := bt_at a0 0
       clear p4
       have qi4 : (0 < (a0.size : Int)) = True := eq_true (of_decide_eq_true (by first | (with_reducible assumption) | assumption))
       replace q4 := eq_true q4
       have p6 : 0 ≤ (1 : Int) := (by omega)
       have q6 : 1 < a0.size := (by have : (1 : Int) < (a0.size : Int) := of_decide_eq_true (by first | (with_reducible assumption) | assumption); omega)
       have hx6 : ∀ h : 1 < a0.size, ((a0[1]'h).toNat : Int) = bt a0 1 := bt_at a0 1
       clear p6
       have qi6 : (1 < (a0.size : Int)) = True := eq_true (of_decide_eq_true (by first | (with_reducible assumption) | assumption))
       replace q6 := eq_true q6
       have p8 : 0 ≤ (2 : Int) := (by omega)
       have q8 : 2 < a0.size := (by have : (2 : Int) < (a0.size : Int) := of_decide_eq_true (by first | (with_reducible assumption) | assumption); omega)
       have hx8 : ∀ h : 2 < a0.size, ((a0[2]'h).toNat : Int) = bt a0 2 := bt_at a0 2
       clear p8
       have qi8 : (2 < (a0.size : Int)) = True := eq_true (of_decide_eq_true (by first | (with_reducible assumption) | assumption))
       replace q8 := eq_true q8
       have p10 : 0 ≤ (3 : Int) := (by omega)
       have q10 : 3 < a0.size := (by have : (3 : Int) < (a0.size : Int) := of_decide_eq_true (by first | (with_reducible assumption) | assumption); omega)
       have hx10 : ∀ h : 3 < a0.size, ((a0[3]'h).toNat : Int) = bt a0 3 := bt_at a0 3
       clear p10
       have qi10 : (3 < (a0.size : Int)) = True := eq_true (of_decide_eq_true (by first | (with_reducible assumption) | assumption))
       replace q10 := eq_true q10
       go_enter Try.func110, Try.ntmps110
       go_wp2
       repeat (go_quiet (fail); try go_wp2)
       go_ret3
       exact ⟨by first | rfl | (simp; done) | (simp [*]; done), by repeat (first | exact Drawn0.refl _ | apply Drawn0.step)⟩
      ·rw [if_neg c11] at H
       exact absurd H (by simp)
     ·rw [if_neg c9] at H
      exact absurd H (by simp)
    ·rw [if_neg c7] at H
     exact absurd H (by simp)
   ·rw [if_neg c5] at H
    exact absurd H (by simp)
  ·rw [if_neg c3] at H
   exact absurd H (by simp)
mutual
def spec_TakeVar.l0 : Nat → ByteArray → Int → Int → Option (Int × ByteArray × Bool)
 | 0, _, _, _ => none
 | k + 1, x0, x5, x6 => if x6 < (x0.size : Int) then (spec_TakeVar.j1 k x0 x5 x6 (decide (x6 < 10))) else (spec_TakeVar.j1 k x0 x5 x6 false)
def spec_TakeVar.j1 : Nat → ByteArray → Int → Int → Bool → Option (Int × ByteArray × Bool)
 | 0, _, _, _, _ => none
 | k + 1, x0, x5, x6, x15 => if x15 = true then (if 0 ≤ x6 then (if x6 < (x0.size : Int) then (if x6 = 9 then (spec_TakeVar.j2 k x0 x5 x6 (IntKind.u64.wrap (Int.tmod (bt x0 x6) 128)) (decide ((bt x0 x6) > 1))) else (spec_TakeVar.j2 k x0 x5 x6 (IntKind.u64.wrap (Int.tmod (bt x0 x6) 128)) false)) else (none)) else (none)) else (some (0, (⟨#[]⟩ : ByteArray), false))
def spec_TakeVar.j2 : Nat → ByteArray → Int → Int → Int → Bool → Option (Int × ByteArray × Bool)
 | 0, _, _, _, _, _ => none
 | k + 1, x0, x5, x6, x7, x30 => if x30 = true then (some (0, (⟨#[]⟩ : ByteArray), false)) else (if 0 ≤ (IntKind.u64.wrap (wrap64 (7 * x6))) then (if 0 ≤ x6 then (if x6 < (x0.size : Int) then (if (bt x0 x6) < 128 then (if x6 > 0 then (if (bt x0 x6) = 0 then (some (0, (⟨#[]⟩ : ByteArray), false)) else (if 0 ≤ (wrap64 (x6 + 1)) then (if (wrap64 (x6 + 1)) ≤ (x0.size : Int) then (some (Go.bits .or .u64 x5 (shl .u64 x7 (IntKind.u64.wrap (wrap64 (7 * x6)))), x0.extract ((wrap64 (x6 + 1)) : Int).toNat x0.size, true)) else (none)) else (none))) else (if 0 ≤ (wrap64 (x6 + 1)) then (if (wrap64 (x6 + 1)) ≤ (x0.size : Int) then (some (Go.bits .or .u64 x5 (shl .u64 x7 (IntKind.u64.wrap (wrap64 (7 * x6)))), x0.extract ((wrap64 (x6 + 1)) : Int).toNat x0.size, true)) else (none)) else (none))) else (spec_TakeVar.l0 k x0 (Go.bits .or .u64 x5 (shl .u64 x7 (IntKind.u64.wrap (wrap64 (7 * x6))))) (wrap64 (x6 + 1)))) else (none)) else (none)) else (none))
end
def spec_TakeVar.f (k : Nat) (a0 : ByteArray) : Option (Int × ByteArray × Bool) := spec_TakeVar.l0 k a0 0 0
set_option maxHeartbeats 8000000 in
set_option maxRecDepth 100000 in
theorem spec_TakeVar.calls (k : Nat) (a0 : ByteArray) (r1 : Int) (r2 : ByteArray) (r3 : Bool) (w : World) (h : spec_TakeVar.f k a0 = some (r1, r2, r3)) :
  Calls Try.prog 111 #[.string a0] w fun e w' => e = .returned (.tuple #[.int .u64 r1, .string r2, .bool r3]) ∧ Drawn0 w w' := by
 have H : (spec_TakeVar.l0 k a0 0 0) = some (r1, r2, r3) := h
 clear h
 have H' := Qz.mk H
 clear H
 go_enter Try.func111, Try.ntmps111
 go_wp2
 repeat (go_quiet (fail); try go_wp2)
 go_loopg [5, 6] k (fun kq v5 v6 w' => ∃ (x5_1 : Int) (x6_1 : Int), v5 = .int .u64 x5_1 ∧ v6 = .int .i64 x6_1 ∧ Qz (spec_TakeVar.l0 kq a0 x5_1 x6_1 = some (r1, r2, r3)) ∧ Qz (kq ≤ k) ∧ Drawn0 w w')
 case atStart => exact ⟨(0), (0), (by first | rfl | (simp; done) | (simp [*]; done)), (by first | rfl | (simp; done) | (simp [*]; done)), H', ⟨Nat.le_refl _⟩, by repeat (first | exact Drawn0.refl _ | apply Drawn0.step)⟩
 case round =>
  clear H'
  try clear c1
  obtain ⟨x5_1, x6_1, rfl, rfl, HA, HK1, ⟨m1, rfl⟩⟩ := hrel
  cases gk with
  | zero => exact absurd HA.out (by simp [spec_TakeVar.l0])
  | succ k1 =>
   have H := HA.out
   clear HA
   simp only [spec_TakeVar.l0] at H
   have HC2 := Qz.mk H
   clear H
   go_upto_region 3 with (fail)
   repeat (go_quiet (fail); go_upto_region 3 with (fail))
   go_cut [15] (fun v15 wc => ∃ (kq : Nat) (x15_1 : Bool), v15 = .bool x15_1 ∧ Qz (spec_TakeVar.j1 kq a0 x5_1 x6_1 x15_1 = some (r1, r2, r3)) ∧ Qz (kq ≤ k1) ∧ Drawn0 w wc)
   case first =>
    have H := HC2.out
    clear HC2
    by_cases c3 : x6_1 < (a0.size : Int)
    ·rw [if_pos c3] at H
     have c3b0 : decide (x6_1 < (a0.size : Int)) = true := decide_eq_true c3
     clear c3
     (first | rw [c3b0] | (simp only [i64_w, i32_w]; rw [c3b0]) | skip)
     have H' := Qz.mk H
     clear H
     go_wp2
     repeat (go_quiet (fail); try go_wp2)
     go_meet
     case rel => exact ⟨_, (decide (x6_1 < 10)), (by first | rfl | (simp; done) | (simp [*]; done)), H', ⟨by have := HK1.out; first | omega | exact Nat.le_refl _⟩, by repeat (first | exact Drawn0.refl _ | apply Drawn0.step)⟩
    ·rw [if_neg c3] at H
     have c3b0 : decide (x6_1 < (a0.size : Int)) = false := decide_eq_false c3
     clear c3
     (first | rw [c3b0] | (simp only [i64_w, i32_w]; rw [c3b0]) | skip)
     have H' := Qz.mk H
     clear H
     go_wp2
     repeat (go_quiet (fail); try go_wp2)
     go_meet
     case rel => exact ⟨_, (false), (by first | rfl | (simp; done) | (simp [*]; done)), H', ⟨by have := HK1.out; first | omega | exact Nat.le_refl _⟩, by repeat (first | exact Drawn0.refl _ | apply Drawn0.step)⟩
   case rest =>
    clear HC2
    try clear c1
    try clear p2
    try clear c3
    try clear c3b0
    obtain ⟨kq, x15_1, rfl, HA, HJ1, ⟨mc1, rfl⟩⟩ := hcut
    cases kq with
    | zero => exact absurd HA.out (by simp [spec_TakeVar.j1])
    | succ kj1 =>
     have H := HA.out
     clear HA
     simp only [spec_TakeVar.j1] at H
     by_cases c4 : x15_1 = true
     ·subst c4
      have H1 : (if 0 ≤ x6_1 then (if x6_1 < (a0.size : Int) then (if x6_1 = 9 then (spec_TakeVar.j2 kj1 a0 x5_1 x6_1 (IntKind.u64.wrap (Int.tmod (bt a0 x6_1) 128)) (decide ((bt a0 x6_1) > 1))) else (spec_TakeVar.j2 kj1 a0 x5_1 x6_1 (IntKind.u64.wrap (Int.tmod (bt a0 x6_1) 128)) false)) else (none)) else (none)) = some (r1, r2, r3) := by rw [if_pos rfl] at H; exact H
      clear H
      have H := H1
      clear H1
      by_cases c5 : 0 ≤ x6_1
      ·rw [if_pos c5] at H
       have c5b0 : decide (0 ≤ x6_1) = true := decide_eq_true c5
       clear c5
       by_cases c6 : x6_1 < (a0.size : Int)
       ·rw [if_pos c6] at H
        have c6b0 : decide (x6_1 < (a0.size : Int)) = true := decide_eq_true c6
        clear c6
        have HC8 := Qz.mk H
        clear H
        have p7 : 0 ≤ (x6_1 : Int) := of_decide_eq_true (by first | (with_reducible assumption) | assumption)
        have q7 : x6_1 < (a0.size : Int) := of_decide_eq_true (by first | (with_reducible assumption) | assumption)
        have hx7 := bt_at a0 x6_1
        replace p7 := eq_true p7
        replace q7 := eq_true q7
        go_upto_region 6 with (fail)
        repeat (go_quiet (fail); go_upto_region 6 with (fail))
        go_cut [30] (fun v30 wc => ∃ (kq : Nat) (x30_7 : Bool), v30 = .bool x30_7 ∧ Qz (spec_TakeVar.j2 kq a0 x5_1 x6_1 (IntKind.u64.wrap (Int.tmod (bt a0 x6_1) 128)) x30_7 = some (r1, r2, r3)) ∧ Qz (kq ≤ kj1) ∧ Drawn0 w wc)
        case first =>
         have H := HC8.out
         clear HC8
         by_cases c9 : x6_1 = 9
         ·rw [if_pos c9] at H
          have c9b0 : (x6_1 == 9) = true := beq_iff_eq.mpr c9
          have c9b1 : (x6_1 != 9) = false := bne_eq_false_iff_eq.mpr c9
          clear c9
          (first | rw [c9b0] | (simp only [i64_w, i32_w]; rw [c9b0]) | skip)
          have H' := Qz.mk H
          clear H
          have p10 : 0 ≤ (x6_1 : Int) := of_decide_eq_true (by first | (with_reducible assumption) | assumption)
          have q10 : x6_1 < (a0.size : Int) := of_decide_eq_true (by first | (with_reducible assumption) | assumption)
          have hx10 := bt_at a0 x6_1
          replace p10 := eq_true p10
          replace q10 := eq_true q10
          go_wp2
          repeat (go_quiet (fail); try go_wp2)
          go_meet
          case rel => exact ⟨_, (decide ((bt a0 x6_1) > 1)), (by first | rfl | (simp; done) | (simp [*]; done)), H', ⟨by have := HK1.out; have := HJ1.out; first | omega | exact Nat.le_refl _⟩, by repeat (first | exact Drawn0.refl _ | apply Drawn0.step)⟩
         ·rw [if_neg c9] at H
          have c9b0 : (x6_1 == 9) = false := beq_eq_false_iff_ne.mpr c9
          have c9b1 : (x6_1 != 9) = true := bne_iff_ne.mpr c9
          (first | rw [c9b0] | (simp only [i64_w, i32_w]; rw [c9b0]) | skip)
          have H' := Qz.mk H
          clear H
          go_wp2
          repeat (go_quiet (fail); try go_wp2)
          go_meet
          case rel => exact ⟨_, (false), (by first | rfl | (simp; done) | (simp [*]; done)), H', ⟨by have := HK1.out; have := HJ1.out; first | omega | exact Nat.le_refl _⟩, by repeat (first | exact Drawn0.refl _ | apply Drawn0.step)⟩
        case rest =>
         clear HC8
         try clear c1
         try clear p1
         try clear q1
         try clear hx1
         try clear p2
         try clear c3
         try clear c3b0
         try clear c4
         try clear c5
         try clear c5b0
         try clear c6
         try clear c6b0
         try clear p7
         try clear q7
         try clear hx7
         try clear c9
         try clear c9b0
         try clear c9b1
         try clear p10
         try clear q10
         try clear hx10
         try clear p10
         try clear p2
         try clear p7
         try clear q10
         try clear q7
         obtain ⟨kq, x30_7, rfl, HA, HJ7, ⟨mc7, rfl⟩⟩ := hcut
         cases kq with
         | zero => exact absurd HA.out (by simp [spec_TakeVar.j2])
         | succ kj7 =>
          have H := HA.out
          clear HA
          simp only [spec_TakeVar.j2] at H
          by_cases c11 : x30_7 = true
          ·subst c11
           have H1 : (some (0, (⟨#[]⟩ : ByteArray), false)) = some (r1, r2, r3) := by rw [if_pos rfl] at H; exact H
           clear H
           have H := H1
           clear H1
           simp only [Option.some.injEq, Prod.mk.injEq] at H
           obtain ⟨rfl, rfl, rfl⟩ := H
           go_wp2
           repeat (go_quiet (fail); try go_wp2)
           go_ret3
           exact ⟨by first | rfl | (simp; done) | (simp [*]; done), by repeat (first | exact Drawn0.refl _ | apply Drawn0.step)⟩
          ·replace c11 := Bool.eq_false_iff.mpr c11
           subst c11
           have H1 : (if 0 ≤ (IntKind.u64.wrap (wrap64 (7 * x6_1))) then (if 0 ≤ x6_1 then (if x6_1 < (a0.size : Int) then (if (bt a0 x6_1) < 128 then (if x6_1 > 0 then (if (bt a0 x6_1) = 0 then (some (0, (⟨#[]⟩ : ByteArray), false)) else (if 0 ≤ (wrap64 (x6_1 + 1)) then (if (wrap64 (x6_1 + 1)) ≤ (a0.size : Int) then (some (Go.bits .or .u64 x5_1 (shl .u64 (IntKind.u64.wrap (Int.tmod (bt a0 x6_1) 128)) (IntKind.u64.wrap (wrap64 (7 * x6_1)))), a0.extract ((wrap64 (x6_1 + 1)) : Int).toNat a0.size, true)) else (none)) else (none))) else (if 0 ≤ (wrap64 (x6_1 + 1)) then (if (wrap64 (x6_1 + 1)) ≤ (a0.size : Int) then (some (Go.bits .or .u64 x5_1 (shl .u64 (IntKind.u64.wrap (Int.tmod (bt a0 x6_1) 128)) (IntKind.u64.wrap (wrap64 (7 * x6_1)))), a0.extract ((wrap64 (x6_1 + 1)) : Int).toNat a0.size, true)) else (none)) else (none))) else (spec_TakeVar.l0 kj7 a0 (Go.bits .or .u64 x5_1 (shl .u64 (IntKind.u64.wrap (Int.tmod (bt a0 x6_1) 128)) (IntKind.u64.wrap (wrap64 (7 * x6_1))))) (wrap64 (x6_1 + 1)))) else (none)) else (none)) else (none)) = some (r1, r2, r3) := by rw [if_neg (show ¬ (false = true) by decide)] at H; exact H
           clear H
           have H := H1
           clear H1
           obtain ⟨ji12, hji12⟩ : ∃ j_ : Int, (IntKind.u64.wrap (wrap64 (7 * x6_1))) = j_ := ⟨_, rfl⟩
           replace H : (if 0 ≤ (ji12) then (if 0 ≤ x6_1 then (if x6_1 < (a0.size : Int) then (if (bt a0 x6_1) < 128 then (if x6_1 > 0 then (if (bt a0 x6_1) = 0 then (some (0, (⟨#[]⟩ : ByteArray), false)) else (if 0 ≤ (wrap64 (x6_1 + 1)) then (if (wrap64 (x6_1 + 1)) ≤ (a0.size : Int) then (some (Go.bits .or .u64 x5_1 (shl .u64 (IntKind.u64.wrap (Int.tmod (bt a0 x6_1) 128)) (ji12)), a0.extract ((wrap64 (x6_1 + 1)) : Int).toNat a0.size, true)) else (none)) else (none))) else (if 0 ≤ (wrap64 (x6_1 + 1)) then (if (wrap64 (x6_1 + 1)) ≤ (a0.size : Int) then (some (Go.bits .or .u64 x5_1 (shl .u64 (IntKind.u64.wrap (Int.tmod (bt a0 x6_1) 128)) (ji12)), a0.extract ((wrap64 (x6_1 + 1)) : Int).toNat a0.size, true)) else (none)) else (none))) else (spec_TakeVar.l0 kj7 a0 (Go.bits .or .u64 x5_1 (shl .u64 (IntKind.u64.wrap (Int.tmod (bt a0 x6_1) 128)) (ji12))) (wrap64 (x6_1 + 1)))) else (none)) else (none)) else (none)) = some (r1, r2, r3) := by first | (rw [hji12] at H; exact H) | (simp only [hji12] at H ⊢; exact H)
           by_cases c13 : 0 ≤ (ji12)
           ·rw [if_pos c13] at H
            have c13b0 := eq_true c13
            have c13b1 : decide (0 ≤ (ji12)) = true := decide_eq_true c13
            clear c13
            obtain ⟨ji14, hji14⟩ : ∃ j_ : Int, (shl .u64 (IntKind.u64.wrap (Int.tmod (bt a0 x6_1) 128)) (ji12)) = j_ := ⟨_, rfl⟩
            replace H : (if 0 ≤ x6_1 then (if x6_1 < (a0.size : Int) then (if (bt a0 x6_1) < 128 then (if x6_1 > 0 then (if (bt a0 x6_1) = 0 then (some (0, (⟨#[]⟩ : ByteArray), false)) else (if 0 ≤ (wrap64 (x6_1 + 1)) then (if (wrap64 (x6_1 + 1)) ≤ (a0.size : Int) then (some (Go.bits .or .u64 x5_1 (ji14), a0.extract ((wrap64 (x6_1 + 1)) : Int).toNat a0.size, true)) else (none)) else (none))) else (if 0 ≤ (wrap64 (x6_1 + 1)) then (if (wrap64 (x6_1 + 1)) ≤ (a0.size : Int) then (some (Go.bits .or .u64 x5_1 (ji14), a0.extract ((wrap64 (x6_1 + 1)) : Int).toNat a0.size, true)) else (none)) else (none))) else (spec_TakeVar.l0 kj7 a0 (Go.bits .or .u64 x5_1 (ji14)) (wrap64 (x6_1 + 1)))) else (none)) else (none)) = some (r1, r2, r3) := by first | (rw [hji14] at H; exact H) | (simp only [hji14] at H ⊢; exact H)
            have hji14_ : (IntKind.u64.wrap ((IntKind.u64.wrap (Int.tmod (bt a0 x6_1) 128)) * 2 ^ min (ji12).toNat 64)) = ji14 := hji14
            have hji14z : (ji12) ≤ 64 → (IntKind.u64.wrap ((IntKind.u64.wrap (Int.tmod (bt a0 x6_1) 128)) * 2 ^ (ji12).toNat)) = ji14 := shl_small hji14
            by_cases c15 : 0 ≤ x6_1
            ·rw [if_pos c15] at H
             have c15b0 : decide (0 ≤ x6_1) = true := decide_eq_true c15
             clear c15
             by_cases c16 : x6_1 < (a0.size : Int)
             ·rw [if_pos c16] at H
              have c16b0 : decide (x6_1 < (a0.size : Int)) = true := decide_eq_true c16
              clear c16
              by_cases c18 : (bt a0 x6_1) < 128
              ·rw [if_pos c18] at H
               have c18b0 : decide ((bt a0 x6_1) < 128) = true := decide_eq_true c18
               clear c18
               by_cases c19 : x6_1 > 0
               ·rw [if_pos c19] at H
                have c19b0 : decide (0 < x6_1) = true := decide_eq_true c19
                clear c19
                by_cases c21 : (bt a0 x6_1) = 0
                ·rw [if_pos c21] at H
                 have c21b0 : ((bt a0 x6_1) == 0) = true := beq_iff_eq.mpr c21
                 have c21b1 : ((bt a0 x6_1) != 0) = false := bne_eq_false_iff_eq.mpr c21
                 clear c21
                 simp only [Option.some.injEq, Prod.mk.injEq] at H
                 obtain ⟨rfl, rfl, rfl⟩ := H
                 have p17 : 0 ≤ (x6_1 : Int) := of_decide_eq_true (by first | (with_reducible assumption) | assumption)
                 have q17 : x6_1 < (a0.size : Int) := of_decide_eq_true (by first | (with_reducible assumption) | assumption)
                 have hx17 := bt_at a0 x6_1
                 replace p17 := eq_true p17
                 replace q17 := eq_true q17
                 have p20 : 0 ≤ (x6_1 : Int) := of_decide_eq_true (by first | (with_reducible assumption) | assumption)
                 have q20 : x6_1 < (a0.size : Int) := of_decide_eq_true (by first | (with_reducible assumption) | assumption)
                 have hx20 := bt_at a0 x6_1
                 replace p20 := eq_true p20
                 replace q20 := eq_true q20
                 go_wp2
                 repeat (go_quiet (fail); try go_wp2)
                 go_ret3
                 exact ⟨by first | rfl | (simp; done) | (simp only [← hji12, ← hji14] <;> (first | rfl | simp)) | (simp [*]; done), by repeat (first | exact Drawn0.refl _ | apply Drawn0.step)⟩
                ·rw [if_neg c21] at H
                 have c21b0 : ((bt a0 x6_1) == 0) = false := beq_eq_false_iff_ne.mpr c21
                 have c21b1 : ((bt a0 x6_1) != 0) = true := bne_iff_ne.mpr c21
                 obtain ⟨ji22, hji22⟩ : ∃ j_ : Int, (wrap64 (x6_1 + 1)) = j_ := ⟨_, rfl⟩
                 replace H : (if 0 ≤ (ji22) then (if (ji22) ≤ (a0.size : Int) then (some (Go.bits .or .u64 x5_1 (ji14), a0.extract ((ji22) : Int).toNat a0.size, true)) else (none)) else (none)) = some (r1, r2, r3) := by first | (rw [hji22] at H; exact H) | (simp only [hji22] at H ⊢; exact H)
                 have hji22w : (IntKind.i64.wrap (x6_1 + 1)) = ji22 := (i64_w _).trans hji22
                 by_cases c23 : 0 ≤ (ji22)
                 ·rw [if_pos c23] at H
                  have c23b0 := eq_true c23
                  have c23b1 : decide (0 ≤ (ji22)) = true := decide_eq_true c23
                  clear c23
                  by_cases c24 : (ji22) ≤ (a0.size : Int)
                  ·rw [if_pos c24] at H
                   have c24b0 := eq_true c24
                   have c24b1 : decide ((ji22) ≤ (a0.size : Int)) = true := decide_eq_true c24
                   clear c24
                   simp only [Option.some.injEq, Prod.mk.injEq] at H
                   obtain ⟨rfl, rfl, rfl⟩ := H
                   have p17 : 0 ≤ (x6_1 : Int) := of_decide_eq_true (by first | (with_reducible assumption) | assumption)
                   have q17 : x6_1 < (a0.size : Int) := of_decide_eq_true (by first | (with_reducible assumption) | assumption)
                   have hx17 := bt_at a0 x6_1
                   replace p17 := eq_true p17
                   replace q17 := eq_true q17
                   have p20 : 0 ≤ (x6_1 : Int) := of_decide_eq_true (by first | (with_reducible assumption) | assumption)
                   have q20 : x6_1 < (a0.size : Int) := of_decide_eq_true (by first | (with_reducible assumption) | assumption)
                   have hx20 := bt_at a0 x6_1
                   replace p20 := eq_true p20
                   replace q20 := eq_true q20
                   go_wp2
                   repeat (go_quiet (fail); try go_wp2)
                   go_ret3
                   exact ⟨by first | rfl | (simp; done) | (simp only [← hji12, ← hji14, ← hji22] <;> (first | rfl | simp)) | (simp [*]; done), by repeat (first | exact Drawn0.refl _ | apply Drawn0.step)⟩
                  ·rw [if_neg c24] at H
                   exact absurd H (by simp)
                 ·rw [if_neg c23] at H
                  exact absurd H (by simp)
               ·rw [if_neg c19] at H
                have c19b0 : decide (0 < x6_1) = false := decide_eq_false c19
                clear c19
                obtain ⟨ji25, hji25⟩ : ∃ j_ : Int, (wrap64 (x6_1 + 1)) = j_ := ⟨_, rfl⟩
                replace H : (if 0 ≤ (ji25) then (if (ji25) ≤ (a0.size : Int) then (some (Go.bits .or .u64 x5_1 (ji14), a0.extract ((ji25) : Int).toNat a0.size, true)) else (none)) else (none)) = some (r1, r2, r3) := by first | (rw [hji25] at H; exact H) | (simp only [hji25] at H ⊢; exact H)
                have hji25w : (IntKind.i64.wrap (x6_1 + 1)) = ji25 := (i64_w _).trans hji25
                by_cases c26 : 0 ≤ (ji25)
                ·rw [if_pos c26] at H
                 have c26b0 := eq_true c26
                 have c26b1 : decide (0 ≤ (ji25)) = true := decide_eq_true c26
                 clear c26
                 by_cases c27 : (ji25) ≤ (a0.size : Int)
                 ·rw [if_pos c27] at H
                  have c27b0 := eq_true c27
                  have c27b1 : decide ((ji25) ≤ (a0.size : Int)) = true := decide_eq_true c27
                  clear c27
                  simp only [Option.some.injEq, Prod.mk.injEq] at H
                  obtain ⟨rfl, rfl, rfl⟩ := H
                  have p17 : 0 ≤ (x6_1 : Int) := of_decide_eq_true (by first | (with_reducible assumption) | assumption)
                  have q17 : x6_1 < (a0.size : Int) := of_decide_eq_true (by first | (with_reducible assumption) | assumption)
                  have hx17 := bt_at a0 x6_1
                  replace p17 := eq_true p17
                  replace q17 := eq_true q17
                  go_wp2
                  repeat (go_quiet (fail); try go_wp2)
                  go_ret3
                  exact ⟨by first | rfl | (simp; done) | (simp only [← hji12, ← hji14, ← hji25] <;> (first | rfl | simp)) | (simp [*]; done), by repeat (first | exact Drawn0.refl _ | apply Drawn0.step)⟩
                 ·rw [if_neg c27] at H
                  exact absurd H (by simp)
                ·rw [if_neg c26] at H
                 exact absurd H (by simp)
              ·rw [if_neg c18] at H
               have c18b0 : decide ((bt a0 x6_1) < 128) = false := decide_eq_false c18
               clear c18
               have H' := Qz.mk H
               clear H
               have p17 : 0 ≤ (x6_1 : Int) := of_decide_eq_true (by first | (with_reducible assumption) | assumption)
               have q17 : x6_1 < (a0.size : Int) := of_decide_eq_true (by first | (with_reducible assumption) | assumption)
               have hx17 := bt_at a0 x6_1
               replace p17 := eq_true p17
               replace q17 := eq_true q17
               go_wp2
               repeat (go_quiet (fail); try go_wp2)
               go_roundg kj7
               case measure => have := HK1.out; have := HJ1.out; have := HJ7.out; omega
               case rel => exact ⟨(Go.bits .or .u64 x5_1 (ji14)), (wrap64 (x6_1 + 1)), (by first | rfl | (simp; done) | (simp only [← hji14] <;> (first | rfl | simp)) | (simp [*]; done)), (by first | rfl | (simp; done) | (simp [*]; done)), H', ⟨by have := HK1.out; have := HJ1.out; have := HJ7.out; omega⟩, by repeat (first | exact Drawn0.refl _ | apply Drawn0.step)⟩
             ·rw [if_neg c16] at H
              exact absurd H (by simp)
            ·rw [if_neg c15] at H
             exact absurd H (by simp)
           ·rw [if_neg c13] at H
            exact absurd H (by simp)
       ·rw [if_neg c6] at H
        exact absurd H (by simp)
      ·rw [if_neg c5] at H
       exact absurd H (by simp)
     ·replace c4 := Bool.eq_false_iff.mpr c4
      subst c4
      have H1 : (some (0, (⟨#[]⟩ : ByteArray), false)) = some (r1, r2, r3) := by rw [if_neg (show ¬ (false = true) by decide)] at H; exact H
      clear H
      have H := H1
      clear H1
      simp only [Option.some.injEq, Prod.mk.injEq] at H
      obtain ⟨rfl, rfl, rfl⟩ := H
      go_wp2
      repeat (go_quiet (fail); try go_wp2)
      go_ret3
      exact ⟨by first | rfl | (simp; done) | (simp [*]; done), by repeat (first | exact Drawn0.refl _ | apply Drawn0.step)⟩
def spec_TakeText.f (k : Nat) (a0 : ByteArray) : Option (ByteArray × ByteArray × Bool) := (spec_TakeVar.f k a0).bind fun bt101 => (if bt101.2.2 = true then (if bt101.1 > 60000 then (some ((⟨#[]⟩ : ByteArray), (⟨#[]⟩ : ByteArray), false)) else (if bt101.1 > (IntKind.u64.wrap ((bt101.2.1.size : Int))) then (some ((⟨#[]⟩ : ByteArray), (⟨#[]⟩ : ByteArray), false)) else (if 0 ≤ bt101.1 then (if bt101.1 ≤ (bt101.2.1.size : Int) then (some (bt101.2.1.extract 0 (bt101.1 : Int).toNat, bt101.2.1.extract (bt101.1 : Int).toNat bt101.2.1.size, true)) else (none)) else (none)))) else (some ((⟨#[]⟩ : ByteArray), (⟨#[]⟩ : ByteArray), false)))
set_option maxHeartbeats 8000000 in
set_option maxRecDepth 100000 in
theorem spec_TakeText.calls (k : Nat) (a0 : ByteArray) (r1 : ByteArray) (r2 : ByteArray) (r3 : Bool) (w : World) (h : spec_TakeText.f k a0 = some (r1, r2, r3)) :
  Calls Try.prog 83 #[.string a0] w fun e w' => e = .returned (.tuple #[.string r1, .string r2, .bool r3]) ∧ Drawn0 w w' := by
 have H : ((spec_TakeVar.f k a0).bind fun bt101 => (if bt101.2.2 = true then (if bt101.1 > 60000 then (some ((⟨#[]⟩ : ByteArray), (⟨#[]⟩ : ByteArray), false)) else (if bt101.1 > (IntKind.u64.wrap ((bt101.2.1.size : Int))) then (some ((⟨#[]⟩ : ByteArray), (⟨#[]⟩ : ByteArray), false)) else (if 0 ≤ bt101.1 then (if bt101.1 ≤ (bt101.2.1.size : Int) then (some (bt101.2.1.extract 0 (bt101.1 : Int).toNat, bt101.2.1.extract (bt101.1 : Int).toNat bt101.2.1.size, true)) else (none)) else (none)))) else (some ((⟨#[]⟩ : ByteArray), (⟨#[]⟩ : ByteArray), false)))) = some (r1, r2, r3) := h
 clear h
 replace H := Option.bind_eq_some_iff.mp H
 obtain ⟨⟨t101, t102, t103⟩, A20, H⟩ := H
 replace H : (if t103 = true then (if t101 > 60000 then (some ((⟨#[]⟩ : ByteArray), (⟨#[]⟩ : ByteArray), false)) else (if t101 > (IntKind.u64.wrap ((t102.size : Int))) then (some ((⟨#[]⟩ : ByteArray), (⟨#[]⟩ : ByteArray), false)) else (if 0 ≤ t101 then (if t101 ≤ (t102.size : Int) then (some (t102.extract 0 (t101 : Int).toNat, t102.extract (t101 : Int).toNat t102.size, true)) else (none)) else (none)))) else (some ((⟨#[]⟩ : ByteArray), (⟨#[]⟩ : ByteArray), false))) = some (r1, r2, r3) := H
 have A2 := Qz.mk A20
 clear A20
 by_cases c3 : t103 = true
 ·subst c3
  have H1 : (if t101 > 60000 then (some ((⟨#[]⟩ : ByteArray), (⟨#[]⟩ : ByteArray), false)) else (if t101 > (IntKind.u64.wrap ((t102.size : Int))) then (some ((⟨#[]⟩ : ByteArray), (⟨#[]⟩ : ByteArray), false)) else (if 0 ≤ t101 then (if t101 ≤ (t102.size : Int) then (some (t102.extract 0 (t101 : Int).toNat, t102.extract (t101 : Int).toNat t102.size, true)) else (none)) else (none)))) = some (r1, r2, r3) := by rw [if_pos rfl] at H; exact H
  clear H
  have H := H1
  clear H1
  by_cases c4 : t101 > 60000
  ·rw [if_pos c4] at H
   have c4b0 : decide (60000 < t101) = true := decide_eq_true c4
   clear c4
   simp only [Option.some.injEq, Prod.mk.injEq] at H
   obtain ⟨rfl, rfl, rfl⟩ := H
   go_enter Try.func83, Try.ntmps83
   go_wp2_with (first | (go_at_call 111; (with_reducible refine (spec_TakeVar.calls k a0 t101 t102 true _ A2.out).mono ?_); rintro e w' ⟨rfl, ⟨nd, rfl⟩⟩; (try first | exact ⟨rfl, _, World.drewN_drewN _ _ _⟩ | exact ⟨rfl, _, Eq.trans (World.drewN_drewN _ _ _) (congrArg (World.drewN _) (Nat.add_assoc _ _ _))⟩)))
   repeat (go_quiet (first | (go_at_call 111; (with_reducible refine (spec_TakeVar.calls k a0 t101 t102 true _ A2.out).mono ?_); rintro e w' ⟨rfl, ⟨nd, rfl⟩⟩; (try first | exact ⟨rfl, _, World.drewN_drewN _ _ _⟩ | exact ⟨rfl, _, Eq.trans (World.drewN_drewN _ _ _) (congrArg (World.drewN _) (Nat.add_assoc _ _ _))⟩))); try go_wp2_with (first | (go_at_call 111; (with_reducible refine (spec_TakeVar.calls k a0 t101 t102 true _ A2.out).mono ?_); rintro e w' ⟨rfl, ⟨nd, rfl⟩⟩; (try first | exact ⟨rfl, _, World.drewN_drewN _ _ _⟩ | exact ⟨rfl, _, Eq.trans (World.drewN_drewN _ _ _) (congrArg (World.drewN _) (Nat.add_assoc _ _ _))⟩))))
   go_ret3
   exact ⟨by first | rfl | (simp; done) | (simp [*]; done), by repeat (first | exact Drawn0.refl _ | apply Drawn0.step)⟩
  ·rw [if_neg c4] at H
   have c4b0 : decide (60000 < t101) = false := decide_eq_false c4
   clear c4
   by_cases c5 : t101 > (IntKind.u64.wrap ((t102.size : Int)))
   ·rw [if_pos c5] at H
    have c5b0 : decide ((IntKind.u64.wrap ((t102.size : Int))) < t101) = true := decide_eq_true c5
    clear c5
    simp only [Option.some.injEq, Prod.mk.injEq] at H
    obtain ⟨rfl, rfl, rfl⟩ := H
    go_enter Try.func83, Try.ntmps83
    go_wp2_with (first | (go_at_call 111; (with_reducible refine (spec_TakeVar.calls k a0 t101 t102 true _ A2.out).mono ?_); rintro e w' ⟨rfl, ⟨nd, rfl⟩⟩; (try first | exact ⟨rfl, _, World.drewN_drewN _ _ _⟩ | exact ⟨rfl, _, Eq.trans (World.drewN_drewN _ _ _) (congrArg (World.drewN _) (Nat.add_assoc _ _ _))⟩)))
    repeat (go_quiet (first | (go_at_call 111; (with_reducible refine (spec_TakeVar.calls k a0 t101 t102 true _ A2.out).mono ?_); rintro e w' ⟨rfl, ⟨nd, rfl⟩⟩; (try first | exact ⟨rfl, _, World.drewN_drewN _ _ _⟩ | exact ⟨rfl, _, Eq.trans (World.drewN_drewN _ _ _) (congrArg (World.drewN _) (Nat.add_assoc _ _ _))⟩))); try go_wp2_with (first | (go_at_call 111; (with_reducible refine (spec_TakeVar.calls k a0 t101 t102 true _ A2.out).mono ?_); rintro e w' ⟨rfl, ⟨nd, rfl⟩⟩; (try first | exact ⟨rfl, _, World.drewN_drewN _ _ _⟩ | exact ⟨rfl, _, Eq.trans (World.drewN_drewN _ _ _) (congrArg (World.drewN _) (Nat.add_assoc _ _ _))⟩))))
    go_ret3
    exact ⟨by first | rfl | (simp; done) | (simp [*]; done), by repeat (first | exact Drawn0.refl _ | apply Drawn0.step)⟩
   ·rw [if_neg c5] at H
    have c5b0 : decide ((IntKind.u64.wrap ((t102.size : Int))) < t101) = false := decide_eq_false c5
    clear c5
    by_cases c6 : 0 ≤ t101
    ·rw [if_pos c6] at H
     have c6b0 := eq_true c6
     have c6b1 : decide (0 ≤ t101) = true := decide_eq_true c6
     clear c6
     by_cases c7 : t101 ≤ (t102.size : Int)
     ·rw [if_pos c7] at H
      have c7b0 := eq_true c7
      have c7b1 : decide (t101 ≤ (t102.size : Int)) = true := decide_eq_true c7
      clear c7
      have c8b0 := eq_true (of_decide_eq_true (by first | (with_reducible assumption) | assumption) : 0 ≤ t101)
      have c9b0 := eq_true (of_decide_eq_true (by first | (with_reducible assumption) | assumption) : t101 ≤ (t102.size : Int))
      simp only [Option.some.injEq, Prod.mk.injEq] at H
      obtain ⟨rfl, rfl, rfl⟩ := H
      go_enter Try.func83, Try.ntmps83
      go_wp2_with (first | (go_at_call 111; (with_reducible refine (spec_TakeVar.calls k a0 t101 t102 true _ A2.out).mono ?_); rintro e w' ⟨rfl, ⟨nd, rfl⟩⟩; (try first | exact ⟨rfl, _, World.drewN_drewN _ _ _⟩ | exact ⟨rfl, _, Eq.trans (World.drewN_drewN _ _ _) (congrArg (World.drewN _) (Nat.add_assoc _ _ _))⟩)))
      repeat (go_quiet (first | (go_at_call 111; (with_reducible refine (spec_TakeVar.calls k a0 t101 t102 true _ A2.out).mono ?_); rintro e w' ⟨rfl, ⟨nd, rfl⟩⟩; (try first | exact ⟨rfl, _, World.drewN_drewN _ _ _⟩ | exact ⟨rfl, _, Eq.trans (World.drewN_drewN _ _ _) (congrArg (World.drewN _) (Nat.add_assoc _ _ _))⟩))); try go_wp2_with (first | (go_at_call 111; (with_reducible refine (spec_TakeVar.calls k a0 t101 t102 true _ A2.out).mono ?_); rintro e w' ⟨rfl, ⟨nd, rfl⟩⟩; (try first | exact ⟨rfl, _, World.drewN_drewN _ _ _⟩ | exact ⟨rfl, _, Eq.trans (World.drewN_drewN _ _ _) (congrArg (World.drewN _) (Nat.add_assoc _ _ _))⟩))))
      go_ret3
      exact ⟨by first | rfl | (simp; done) | (simp [*]; done), by repeat (first | exact Drawn0.refl _ | apply Drawn0.step)⟩
     ·rw [if_neg c7] at H
      exact absurd H (by simp)
    ·rw [if_neg c6] at H
     exact absurd H (by simp)
 ·replace c3 := Bool.eq_false_iff.mpr c3
  subst c3
  have H1 : (some ((⟨#[]⟩ : ByteArray), (⟨#[]⟩ : ByteArray), false)) = some (r1, r2, r3) := by rw [if_neg (show ¬ (false = true) by decide)] at H; exact H
  clear H
  have H := H1
  clear H1
  simp only [Option.some.injEq, Prod.mk.injEq] at H
  obtain ⟨rfl, rfl, rfl⟩ := H
  go_enter Try.func83, Try.ntmps83
  go_wp2_with (first | (go_at_call 111; (with_reducible refine (spec_TakeVar.calls k a0 t101 t102 false _ A2.out).mono ?_); rintro e w' ⟨rfl, ⟨nd, rfl⟩⟩; (try first | exact ⟨rfl, _, World.drewN_drewN _ _ _⟩ | exact ⟨rfl, _, Eq.trans (World.drewN_drewN _ _ _) (congrArg (World.drewN _) (Nat.add_assoc _ _ _))⟩)))
  repeat (go_quiet (first | (go_at_call 111; (with_reducible refine (spec_TakeVar.calls k a0 t101 t102 false _ A2.out).mono ?_); rintro e w' ⟨rfl, ⟨nd, rfl⟩⟩; (try first | exact ⟨rfl, _, World.drewN_drewN _ _ _⟩ | exact ⟨rfl, _, Eq.trans (World.drewN_drewN _ _ _) (congrArg (World.drewN _) (Nat.add_assoc _ _ _))⟩))); try go_wp2_with (first | (go_at_call 111; (with_reducible refine (spec_TakeVar.calls k a0 t101 t102 false _ A2.out).mono ?_); rintro e w' ⟨rfl, ⟨nd, rfl⟩⟩; (try first | exact ⟨rfl, _, World.drewN_drewN _ _ _⟩ | exact ⟨rfl, _, Eq.trans (World.drewN_drewN _ _ _) (congrArg (World.drewN _) (Nat.add_assoc _ _ _))⟩))))
  go_ret3
  exact ⟨by first | rfl | (simp; done) | (simp [*]; done), by repeat (first | exact Drawn0.refl _ | apply Drawn0.step)⟩
def spec_l10Take.f (k : Nat) (a0 : ByteArray) (a1 : Int) : Option (ByteArray × Bool) := if a1 > (a0.size : Int) then (some ((⟨#[]⟩ : ByteArray), false)) else (if 0 ≤ a1 then (if a1 ≤ (a0.size : Int) then ((spec_TakeText.f k (a0.extract (a1 : Int).toNat a0.size)).bind fun bt101 => ((spec_TakeFixed.f bt101.2.1).bind fun bt104 => (if bt101.2.2 = true then (if bt104.2.2 = true then ((spec_Crc.f k bt101.1).bind fun t107 => (if bt104.1 = t107 then (some (bt101.1, true)) else (some ((⟨#[]⟩ : ByteArray), false)))) else (some ((⟨#[]⟩ : ByteArray), false))) else (some ((⟨#[]⟩ : ByteArray), false))))) else (none)) else (none))
set_option maxHeartbeats 8000000 in
set_option maxRecDepth 100000 in
theorem spec_l10Take.calls (k : Nat) (a0 : ByteArray) (a1 : Int) (r1 : ByteArray) (r2 : Bool) (w : World) (h : spec_l10Take.f k a0 a1 = some (r1, r2)) :
  Calls Try.prog 81 #[.string a0, .int .i64 a1] w fun e w' => e = .returned (.tuple #[.string r1, .bool r2]) ∧ Drawn0 w w' := by
 have H : (if a1 > (a0.size : Int) then (some ((⟨#[]⟩ : ByteArray), false)) else (if 0 ≤ a1 then (if a1 ≤ (a0.size : Int) then ((spec_TakeText.f k (a0.extract (a1 : Int).toNat a0.size)).bind fun bt101 => ((spec_TakeFixed.f bt101.2.1).bind fun bt104 => (if bt101.2.2 = true then (if bt104.2.2 = true then ((spec_Crc.f k bt101.1).bind fun t107 => (if bt104.1 = t107 then (some (bt101.1, true)) else (some ((⟨#[]⟩ : ByteArray), false)))) else (some ((⟨#[]⟩ : ByteArray), false))) else (some ((⟨#[]⟩ : ByteArray), false))))) else (none)) else (none))) = some (r1, r2) := h
 clear h
 by_cases c3 : a1 > (a0.size : Int)
 ·rw [if_pos c3] at H
  have c3b0 : decide ((a0.size : Int) < a1) = true := decide_eq_true c3
  clear c3
  simp only [Option.some.injEq, Prod.mk.injEq] at H
  obtain ⟨rfl, rfl⟩ := H
  go_enter Try.func81, Try.ntmps81
  go_wp2
  go_ret2
  exact ⟨by first | rfl | (simp; done) | (simp [*]; done), by repeat (first | exact Drawn0.refl _ | apply Drawn0.step)⟩
 ·rw [if_neg c3] at H
  have c3b0 : decide ((a0.size : Int) < a1) = false := decide_eq_false c3
  clear c3
  by_cases c4 : 0 ≤ a1
  ·rw [if_pos c4] at H
   have c4b0 := eq_true c4
   have c4b1 : decide (0 ≤ a1) = true := decide_eq_true c4
   clear c4
   by_cases c5 : a1 ≤ (a0.size : Int)
   ·rw [if_pos c5] at H
    have c5b0 := eq_true c5
    have c5b1 : decide (a1 ≤ (a0.size : Int)) = true := decide_eq_true c5
    clear c5
    replace H := Option.bind_eq_some_iff.mp H
    obtain ⟨⟨t101, t102, t103⟩, A60, H⟩ := H
    replace H : ((spec_TakeFixed.f t102).bind fun bt104 => (if t103 = true then (if bt104.2.2 = true then ((spec_Crc.f k t101).bind fun t107 => (if bt104.1 = t107 then (some (t101, true)) else (some ((⟨#[]⟩ : ByteArray), false)))) else (some ((⟨#[]⟩ : ByteArray), false))) else (some ((⟨#[]⟩ : ByteArray), false)))) = some (r1, r2) := H
    have A6 := Qz.mk A60
    clear A60
    replace H := Option.bind_eq_some_iff.mp H
    obtain ⟨⟨t104, t105, t106⟩, A70, H⟩ := H
    replace H : (if t103 = true then (if t106 = true then ((spec_Crc.f k t101).bind fun t107 => (if t104 = t107 then (some (t101, true)) else (some ((⟨#[]⟩ : ByteArray), false)))) else (some ((⟨#[]⟩ : ByteArray), false))) else (some ((⟨#[]⟩ : ByteArray), false))) = some (r1, r2) := H
    have A7 := Qz.mk A70
    clear A70
    by_cases c8 : t103 = true
    ·subst c8
     have H1 : (if t106 = true then ((spec_Crc.f k t101).bind fun t107 => (if t104 = t107 then (some (t101, true)) else (some ((⟨#[]⟩ : ByteArray), false)))) else (some ((⟨#[]⟩ : ByteArray), false))) = some (r1, r2) := by rw [if_pos rfl] at H; exact H
     clear H
     have H := H1
     clear H1
     by_cases c9 : t106 = true
     ·subst c9
      have H1 : ((spec_Crc.f k t101).bind fun t107 => (if t104 = t107 then (some (t101, true)) else (some ((⟨#[]⟩ : ByteArray), false)))) = some (r1, r2) := by rw [if_pos rfl] at H; exact H
      clear H
      have H := H1
      clear H1
      replace H := Option.bind_eq_some_iff.mp H
      obtain ⟨t107, A100, H⟩ := H
      replace H : (if t104 = t107 then (some (t101, true)) else (some ((⟨#[]⟩ : ByteArray), false))) = some (r1, r2) := H
      have A10 := Qz.mk A100
      clear A100
      by_cases c11 : t104 = t107
      ·rw [if_pos c11] at H
       have c11b0 : (t104 == t107) = true := beq_iff_eq.mpr c11
       have c11b1 : (t104 != t107) = false := bne_eq_false_iff_eq.mpr c11
       clear c11
       simp only [Option.some.injEq, Prod.mk.injEq] at H
       obtain ⟨rfl, rfl⟩ := H
       go_enter Try.func81, Try.ntmps81
       go_wp2_with (first | ((with_reducible refine qm (f := 83) rfl ?_); refine qt (some 20) rfl rfl Try.func83 (by kernel_rfl) rfl #[.string (a0.extract (a1 : Int).toNat a0.size)] rfl (by (try simp only [List.map_toArray, List.map_cons, List.map_nil]); first | done | rfl) ?_; (with_reducible refine (spec_TakeText.calls k (a0.extract (a1 : Int).toNat a0.size) t101 t102 true _ A6.out).mono ?_); rintro e w' ⟨rfl, ⟨nd, rfl⟩⟩; refine ⟨_, rfl, ?_⟩) | ((with_reducible refine qm (f := 110) rfl ?_); refine qt (some 26) rfl rfl Try.func110 (by kernel_rfl) rfl #[.string t102] rfl (by (try simp only [List.map_toArray, List.map_cons, List.map_nil]); first | done | rfl) ?_; (with_reducible refine (spec_TakeFixed.calls t102 t104 t105 true _ A7.out).mono ?_); rintro e w' ⟨rfl, ⟨nd, rfl⟩⟩; refine ⟨_, rfl, ?_⟩) | (go_at_call 105; (with_reducible refine (spec_Crc.calls k t101 t107 _ A10.out).mono ?_); rintro e w' ⟨rfl, ⟨nd, rfl⟩⟩))
       go_ret2
       exact ⟨by first | rfl | (simp; done) | (simp [*]; done), by repeat (first | exact Drawn0.refl _ | apply Drawn0.step)⟩
      ·rw [if_neg c11] at H
       have c11b0 : (t104 == t107) = false := beq_eq_false_iff_ne.mpr c11
       have c11b1 : (t104 != t107) = true := bne_iff_ne.mpr c11
       simp only [Option.some.injEq, Prod.mk.injEq] at H
       obtain ⟨rfl, rfl⟩ := H
       go_enter Try.func81, Try.ntmps81
       go_wp2_with (first | ((with_reducible refine qm (f := 83) rfl ?_); refine qt (some 20) rfl rfl Try.func83 (by kernel_rfl) rfl #[.string (a0.extract (a1 : Int).toNat a0.size)] rfl (by (try simp only [List.map_toArray, List.map_cons, List.map_nil]); first | done | rfl) ?_; (with_reducible refine (spec_TakeText.calls k (a0.extract (a1 : Int).toNat a0.size) t101 t102 true _ A6.out).mono ?_); rintro e w' ⟨rfl, ⟨nd, rfl⟩⟩; refine ⟨_, rfl, ?_⟩) | ((with_reducible refine qm (f := 110) rfl ?_); refine qt (some 26) rfl rfl Try.func110 (by kernel_rfl) rfl #[.string t102] rfl (by (try simp only [List.map_toArray, List.map_cons, List.map_nil]); first | done | rfl) ?_; (with_reducible refine (spec_TakeFixed.calls t102 t104 t105 true _ A7.out).mono ?_); rintro e w' ⟨rfl, ⟨nd, rfl⟩⟩; refine ⟨_, rfl, ?_⟩) | (go_at_call 105; (with_reducible refine (spec_Crc.calls k t101 t107 _ A10.out).mono ?_); rintro e w' ⟨rfl, ⟨nd, rfl⟩⟩))
       go_ret2
       exact ⟨by first | rfl | (simp; done) | (simp [*]; done), by repeat (first | exact Drawn0.refl _ | apply Drawn0.step)⟩
     ·replace c9 := Bool.eq_false_iff.mpr c9
      subst c9
      have H1 : (some ((⟨#[]⟩ : ByteArray), false)) = some (r1, r2) := by rw [if_neg (show ¬ (false = true) by decide)] at H; exact H
      clear H
      have H := H1
      clear H1
      simp only [Option.some.injEq, Prod.mk.injEq] at H
      obtain ⟨rfl, rfl⟩ := H
      go_enter Try.func81, Try.ntmps81
      go_wp2_with (first | ((with_reducible refine qm (f := 83) rfl ?_); refine qt (some 20) rfl rfl Try.func83 (by kernel_rfl) rfl #[.string (a0.extract (a1 : Int).toNat a0.size)] rfl (by (try simp only [List.map_toArray, List.map_cons, List.map_nil]); first | done | rfl) ?_; (with_reducible refine (spec_TakeText.calls k (a0.extract (a1 : Int).toNat a0.size) t101 t102 true _ A6.out).mono ?_); rintro e w' ⟨rfl, ⟨nd, rfl⟩⟩; refine ⟨_, rfl, ?_⟩) | ((with_reducible refine qm (f := 110) rfl ?_); refine qt (some 26) rfl rfl Try.func110 (by kernel_rfl) rfl #[.string t102] rfl (by (try simp only [List.map_toArray, List.map_cons, List.map_nil]); first | done | rfl) ?_; (with_reducible refine (spec_TakeFixed.calls t102 t104 t105 false _ A7.out).mono ?_); rintro e w' ⟨rfl, ⟨nd, rfl⟩⟩; refine ⟨_, rfl, ?_⟩))
      go_ret2
      exact ⟨by first | rfl | (simp; done) | (simp [*]; done), by repeat (first | exact Drawn0.refl _ | apply Drawn0.step)⟩
    ·replace c8 := Bool.eq_false_iff.mpr c8
     subst c8
     have H1 : (some ((⟨#[]⟩ : ByteArray), false)) = some (r1, r2) := by rw [if_neg (show ¬ (false = true) by decide)] at H; exact H
     clear H
     have H := H1
     clear H1
     simp only [Option.some.injEq, Prod.mk.injEq] at H
     obtain ⟨rfl, rfl⟩ := H
     go_enter Try.func81, Try.ntmps81
     go_wp2_with (first | ((with_reducible refine qm (f := 83) rfl ?_); refine qt (some 20) rfl rfl Try.func83 (by kernel_rfl) rfl #[.string (a0.extract (a1 : Int).toNat a0.size)] rfl (by (try simp only [List.map_toArray, List.map_cons, List.map_nil]); first | done | rfl) ?_; (with_reducible refine (spec_TakeText.calls k (a0.extract (a1 : Int).toNat a0.size) t101 t102 false _ A6.out).mono ?_); rintro e w' ⟨rfl, ⟨nd, rfl⟩⟩; refine ⟨_, rfl, ?_⟩) | ((with_reducible refine qm (f := 110) rfl ?_); refine qt (some 26) rfl rfl Try.func110 (by kernel_rfl) rfl #[.string t102] rfl (by (try simp only [List.map_toArray, List.map_cons, List.map_nil]); first | done | rfl) ?_; (with_reducible refine (spec_TakeFixed.calls t102 t104 t105 t106 _ A7.out).mono ?_); rintro e w' ⟨rfl, ⟨nd, rfl⟩⟩; refine ⟨_, rfl, ?_⟩))
     go_ret2
     exact ⟨by first | rfl | (simp; done) | (simp [*]; done), by repeat (first | exact Drawn0.refl _ | apply Drawn0.step)⟩
   ·rw [if_neg c5] at H
    exact absurd H (by simp)
  ·rw [if_neg c4] at H
   exact absurd H (by simp)
def spec_l12Int.f (k : Nat) (a0 : ByteArray) : Option (Int × ByteArray × Bool) := (spec_TakeVar.f k a0).bind fun bt101 => (if bt101.2.2 = true then (if bt101.1 > 1000000000000 then (some (0, (⟨#[]⟩ : ByteArray), false)) else (some (wrap64 (bt101.1), bt101.2.1, true))) else (some (0, (⟨#[]⟩ : ByteArray), false)))
set_option maxHeartbeats 8000000 in
set_option maxRecDepth 100000 in
theorem spec_l12Int.calls (k : Nat) (a0 : ByteArray) (r1 : Int) (r2 : ByteArray) (r3 : Bool) (w : World) (h : spec_l12Int.f k a0 = some (r1, r2, r3)) :
  Calls Try.prog 82 #[.string a0] w fun e w' => e = .returned (.tuple #[.int .i64 r1, .string r2, .bool r3]) ∧ Drawn0 w w' := by
 have H : ((spec_TakeVar.f k a0).bind fun bt101 => (if bt101.2.2 = true then (if bt101.1 > 1000000000000 then (some (0, (⟨#[]⟩ : ByteArray), false)) else (some (wrap64 (bt101.1), bt101.2.1, true))) else (some (0, (⟨#[]⟩ : ByteArray), false)))) = some (r1, r2, r3) := h
 clear h
 replace H := Option.bind_eq_some_iff.mp H
 obtain ⟨⟨t101, t102, t103⟩, A20, H⟩ := H
 replace H : (if t103 = true then (if t101 > 1000000000000 then (some (0, (⟨#[]⟩ : ByteArray), false)) else (some (wrap64 (t101), t102, true))) else (some (0, (⟨#[]⟩ : ByteArray), false))) = some (r1, r2, r3) := H
 have A2 := Qz.mk A20
 clear A20
 by_cases c3 : t103 = true
 ·subst c3
  have H1 : (if t101 > 1000000000000 then (some (0, (⟨#[]⟩ : ByteArray), false)) else (some (wrap64 (t101), t102, true))) = some (r1, r2, r3) := by rw [if_pos rfl] at H; exact H
  clear H
  have H := H1
  clear H1
  by_cases c4 : t101 > 1000000000000
  ·rw [if_pos c4] at H
   have c4b0 : decide (1000000000000 < t101) = true := decide_eq_true c4
   clear c4
   simp only [Option.some.injEq, Prod.mk.injEq] at H
   obtain ⟨rfl, rfl, rfl⟩ := H
   go_enter Try.func82, Try.ntmps82
   go_wp2_with (first | ((with_reducible refine qm (f := 111) rfl ?_); refine qt (some 10) rfl rfl Try.func111 (by kernel_rfl) rfl #[.string a0] rfl (by (try simp only [List.map_toArray, List.map_cons, List.map_nil]); first | done | rfl) ?_; (with_reducible refine (spec_TakeVar.calls k a0 t101 t102 true _ A2.out).mono ?_); rintro e w' ⟨rfl, ⟨nd, rfl⟩⟩; refine ⟨_, rfl, ?_⟩))
   go_ret3
   exact ⟨by first | rfl | (simp; done) | (simp [*]; done), by repeat (first | exact Drawn0.refl _ | apply Drawn0.step)⟩
  ·rw [if_neg c4] at H
   have c4b0 : decide (1000000000000 < t101) = false := decide_eq_false c4
   clear c4
   simp only [Option.some.injEq, Prod.mk.injEq] at H
   obtain ⟨rfl, rfl, rfl⟩ := H
   go_enter Try.func82, Try.ntmps82
   go_wp2_with (first | ((with_reducible refine qm (f := 111) rfl ?_); refine qt (some 10) rfl rfl Try.func111 (by kernel_rfl) rfl #[.string a0] rfl (by (try simp only [List.map_toArray, List.map_cons, List.map_nil]); first | done | rfl) ?_; (with_reducible refine (spec_TakeVar.calls k a0 t101 t102 true _ A2.out).mono ?_); rintro e w' ⟨rfl, ⟨nd, rfl⟩⟩; refine ⟨_, rfl, ?_⟩))
   go_ret3
   exact ⟨by first | rfl | (simp; done) | (simp [*]; done), by repeat (first | exact Drawn0.refl _ | apply Drawn0.step)⟩
 ·replace c3 := Bool.eq_false_iff.mpr c3
  subst c3
  have H1 : (some (0, (⟨#[]⟩ : ByteArray), false)) = some (r1, r2, r3) := by rw [if_neg (show ¬ (false = true) by decide)] at H; exact H
  clear H
  have H := H1
  clear H1
  simp only [Option.some.injEq, Prod.mk.injEq] at H
  obtain ⟨rfl, rfl, rfl⟩ := H
  go_enter Try.func82, Try.ntmps82
  go_wp2_with (first | ((with_reducible refine qm (f := 111) rfl ?_); refine qt (some 10) rfl rfl Try.func111 (by kernel_rfl) rfl #[.string a0] rfl (by (try simp only [List.map_toArray, List.map_cons, List.map_nil]); first | done | rfl) ?_; (with_reducible refine (spec_TakeVar.calls k a0 t101 t102 false _ A2.out).mono ?_); rintro e w' ⟨rfl, ⟨nd, rfl⟩⟩; refine ⟨_, rfl, ?_⟩))
  go_ret3
  exact ⟨by first | rfl | (simp; done) | (simp [*]; done), by repeat (first | exact Drawn0.refl _ | apply Drawn0.step)⟩
end Go.Proofs.Ytcgejabkjljeeaa.P
end
