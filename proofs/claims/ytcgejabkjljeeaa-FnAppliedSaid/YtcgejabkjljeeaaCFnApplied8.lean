/- Proved: the law FnApplied of the given program returns true for every input of its Go types and leaves each argument as it was; no condition. (Part 9 of 18.) -/
import Derived.Test.YtcgejabkjljeeaaCFnApplied4
import Derived.Test.YtcgejabkjljeeaaCFnApplied7
import Derived.Test.YtcgejabkjljeeaaCFnApplied6
section
namespace Go.Proofs.Ytcgejabkjljeeaa.P
open Go.RowKit Go.Proofs.YtcgejabkjljeeaaW.PrintWords Go.Proofs.YtcgejabkjljeeaaW.PrintLast Go.Proofs.YtcgejabkjljeeaaW.PrintMore
attribute [local go_sem] str_gtr str_leq str_geq max2_int min2_int max_two min_two qc1 qb1 max_four min_four
set_option linter.unusedVariables false
set_option linter.unusedSimpArgs false
theorem yq13 {P : Prop} (h : P := by repeat (first | (with_reducible first | exact HB.out | apply qi | apply qg | apply qh | refine qf ?_ GE101.out | refine qf ?_ GE102.out | refine qf ?_ GE103.out | refine qf ?_ GE108.out) | exact HB.out)) : P := h
theorem yq14 {P : Prop} (h : P := by (with_reducible repeat (first | apply Kd.R_alloc | apply Kd.R_drewN | apply Kd.R_drew)); exact HO_109000.out) : P := h
theorem yq15 {P : Prop} (h : P := by (with_reducible repeat (first | refine qb ?_ _ | refine qc ?_ | refine qa ?_ _)); exact BK101.out) : P := h
theorem yq16 {P : Prop} (h : P := by (with_reducible repeat (first | refine qb ?_ _ | refine qc ?_ | refine qa ?_ _)); exact BK102.out) : P := h
theorem yq17 {P : Prop} (h : P := by (with_reducible repeat (first | refine qb ?_ _ | refine qc ?_ | refine qa ?_ _)); exact BK103.out) : P := h
theorem yq18 {P : Prop} (h : P := by (with_reducible repeat (first | refine qb ?_ _ | refine qc ?_ | refine qa ?_ _)); refine qt (cs := #[.slice none 0 0, .int .i64 0, .int .i64 0, .int .i64 0]) ?_ 3 _ rfl; (with_reducible repeat (first | refine qb ?_ _ | refine qc ?_ | refine qa ?_ _)); refine qt (cs := #[.slice none 0 0, .int .i64 0, .int .i64 0, .int .i64 0]) ?_ 2 _ rfl; (with_reducible repeat (first | refine qb ?_ _ | refine qc ?_ | refine qa ?_ _)); refine qt (cs := #[.slice none 0 0, .int .i64 0, .int .i64 0, .int .i64 0]) ?_ 1 _ rfl; (with_reducible repeat (first | refine qb ?_ _ | refine qc ?_ | refine qa ?_ _)); refine qt (cs := #[.slice none 0 0, .int .i64 0, .int .i64 0, .int .i64 0]) ?_ 0 _ rfl; (with_reducible repeat (first | refine qb ?_ _ | refine qc ?_ | refine qa ?_ _)); exact BK103.out) : P := h
theorem yq19 {P : Prop} (h : P := by repeat (first | (with_reducible first | exact HB.out | apply qi | apply qg | apply qh | refine qf ?_ GE101.out | refine qf ?_ GE102.out | refine qf ?_ GE103.out) | exact HB.out)) : P := h
theorem yq20 {P : Prop} (h : P := by first | (with_reducible assumption) | assumption) : P := h
theorem yq21 {P : Prop} (h : P := by (with_reducible repeat (first | refine qb ?_ _ | refine qc ?_ | refine qa ?_ _)); exact BK108.out) : P := h
theorem yq22 {P : Prop} (h : P := by (try simp only [List.map_toArray, List.map_cons, List.map_nil]); first | done | rfl | (simp only [List.length_drop, List.length_take]; rfl) | (rw [IntWalk.u64_in _ (by omega)] <;> rfl)) : P := h
theorem yq23 {P : Prop} (h : P := by first | rfl | (simp; done) | (simp [*]; done)) : P := h
theorem yq24 {P : Prop} (h : P := by repeat (first | exact (Kd.C_below HR0_0.out HB.out) | (with_reducible refine Kd.C_alloc ?_ _) | (with_reducible refine Kd.C_drewN ?_ _) | (with_reducible refine Kd.C_drew ?_))) : P := h
theorem yq25 {P : Prop} (h : P := by rw [hg]; exact Nat.ne_of_lt (qy (g := gb101) (o := .cells #[.slice A0_0 l0_0.length c0_0, .int .i64 a0_1, .int .i64 a0_2, .int .i64 a0_3] 32 (0, 0)) yq15)) : P := h
theorem yq26 {P : Prop} (h : P := by rw [hg]; exact Nat.ne_of_gt (qy (g := gb101) (o := .cells #[.slice A0_0 l0_0.length c0_0, .int .i64 a0_1, .int .i64 a0_2, .int .i64 a0_3] 32 (0, 0)) yq15)) : P := h
theorem yq27 {P : Prop} (h : P := by first | (go_simp; done) | (go_simp; rfl)) : P := h
mutual
def spec_Apply.j0 : Nat → Bool → List (S66) → Int → Int → Int → List (S66) → List Int → Int → Int → Int → Option ((List (S66)) × Int × Int × Int × Bool)
 | 0, _, _, _, _, _, _, _, _, _, _ => none
 | k + 1, x43, x102000, x102001, x102002, x102003, x103000, x103001, x103002, x103003, x103004 => if x43 = true then (some (([] : List (S66)), 0, 0, 0, false)) else (spec_Apply.l0 k 0 0 x102000 x102001 x102002 x102003 x103000 x103001 x103002 x103003 x103004 (([] : List (S66))) x103002 x103003 x103004)
def spec_Apply.l0 : Nat → Int → Int → List (S66) → Int → Int → Int → List (S66) → List Int → Int → Int → Int → List (S66) → Int → Int → Int → Option ((List (S66)) × Int × Int × Int × Bool)
 | 0, _, _, _, _, _, _, _, _, _, _, _, _, _, _, _ => none
 | k + 1, x7, x8, x102000, x102001, x102002, x102003, x103000, x103001, x103002, x103003, x103004, x109000, x109001, x109002, x109003 => if x8 < (x102000.length : Int) then (spec_Apply.l1 k x7 x8 false 0 x102000 x102001 x102002 x102003 x103000 x103001 x103002 x103003 x103004 x109000 x109001 x109002 x109003) else (if x7 = (x103001.length : Int) then (spec_Apply.l2 k 0 x103000 x103001 x103002 x103003 x103004 x109000 x109001 x109002 x109003) else (some (([] : List (S66)), 0, 0, 0, false)))
def spec_Apply.l1 : Nat → Int → Int → Bool → Int → List (S66) → Int → Int → Int → List (S66) → List Int → Int → Int → Int → List (S66) → Int → Int → Int → Option ((List (S66)) × Int × Int × Int × Bool)
 | 0, _, _, _, _, _, _, _, _, _, _, _, _, _, _, _, _, _ => none
 | k + 1, x7, x8, x9, x10, x102000, x102001, x102002, x102003, x103000, x103001, x103002, x103003, x103004, x109000, x109001, x109002, x109003 => if x10 < (x103001.length : Int) then (if x9 = true then (spec_Apply.l1 k x7 x8 true (wrap64 (x10 + 1)) x102000 x102001 x102002 x102003 x103000 x103001 x103002 x103003 x103004 x109000 x109001 x109002 x109003) else (if 0 ≤ x10 then (if 0 ≤ x8 then (if x8 < (x102000.length : Int) then (spec_Apply.l1 k x7 x8 ((rd x103001 x10) == ((qm x102000 x8).f0)) (wrap64 (x10 + 1)) x102000 x102001 x102002 x102003 x103000 x103001 x103002 x103003 x103004 x109000 x109001 x109002 x109003) else (none)) else (none)) else (none))) else (if x9 = true then (spec_Apply.l0 k (wrap64 (x7 + 1)) (wrap64 (x8 + 1)) x102000 x102001 x102002 x102003 x103000 x103001 x103002 x103003 x103004 x109000 x109001 x109002 x109003) else (if 0 ≤ x8 then (if x8 < (x102000.length : Int) then (if x109000.length < 2513169434916 then (spec_Apply.l0 k x7 (wrap64 (x8 + 1)) x102000 x102001 x102002 x102003 x103000 x103001 x103002 x103003 x103004 (x109000 ++ [(⟨(qm x102000 x8).f0, (qm x102000 x8).f1, (qm x102000 x8).f2, (qm x102000 x8).f3, (qm x102000 x8).f4⟩ : S66)]) x109001 x109002 x109003) else (none)) else (none)) else (none)))
def spec_Apply.l2 : Nat → Int → List (S66) → List Int → Int → Int → Int → List (S66) → Int → Int → Int → Option ((List (S66)) × Int × Int × Int × Bool)
 | 0, _, _, _, _, _, _, _, _, _, _ => none
 | k + 1, x11, x103000, x103001, x103002, x103003, x103004, x109000, x109001, x109002, x109003 => if x11 < (x103000.length : Int) then (spec_Apply.l3 k x11 0 x103000 x103001 x103002 x103003 x103004 x109000 x109001 x109002 x109003) else ((spec_VersionOk.f k x109000 x109001 x109002 x109003).bind fun t115 => (if t115 = true then (some (x109000, x109001, x109002, x109003, true)) else (some (([] : List (S66)), 0, 0, 0, false))))
def spec_Apply.l3 : Nat → Int → Int → List (S66) → List Int → Int → Int → Int → List (S66) → Int → Int → Int → Option ((List (S66)) × Int × Int × Int × Bool)
 | 0, _, _, _, _, _, _, _, _, _, _, _ => none
 | k + 1, x11, x12, x103000, x103001, x103002, x103003, x103004, x109000, x109001, x109002, x109003 => if x12 < (x109000.length : Int) then (if 0 ≤ x12 then (if 0 ≤ x11 then (if x11 < (x103000.length : Int) then ((spec_l12Ahead.f ((qm x109000 x12).f0) ((qm x109000 x12).f1) ((qm x109000 x12).f2) ((qm x109000 x12).f3) ((qm x109000 x12).f4) ((qm x103000 x11).f0) ((qm x103000 x11).f1) ((qm x103000 x11).f2) ((qm x103000 x11).f3) ((qm x103000 x11).f4)).bind fun t118 => (if t118 = true then (spec_Apply.l3 k x11 (wrap64 (x12 + 1)) x103000 x103001 x103002 x103003 x103004 x109000 x109001 x109002 x109003) else ((some (([] : List (S66)) : List (S66))).bind fun y119 => (if x12 ≤ (x109000.length : Int) then ((some (x109000.take (x12 : Int).toNat : List (S66))).bind fun y122 => (if y119.length + y122.length < 2513169434916 then ((some (y119 ++ y122 : List (S66))).bind fun y126 => (if y126.length < 2513169434916 then ((some (y126 ++ [(⟨(qm x103000 x11).f0, (qm x103000 x11).f1, (qm x103000 x11).f2, (qm x103000 x11).f3, (qm x103000 x11).f4⟩ : S66)] : List (S66))).bind fun y130 => ((some (x109000.drop (x12 : Int).toNat : List (S66))).bind fun y133 => (if y130.length + y133.length < 2513169434916 then (spec_Apply.l2 k (wrap64 (x11 + 1)) x103000 x103001 x103002 x103003 x103004 (y130 ++ y133) x109001 x109002 x109003) else (none)))) else (none))) else (none))) else (none))))) else (none)) else (none)) else (none)) else ((some (([] : List (S66)) : List (S66))).bind fun y140 => (if 0 ≤ x12 then (if x12 ≤ (x109000.length : Int) then ((some (x109000.take (x12 : Int).toNat : List (S66))).bind fun y143 => (if y140.length + y143.length < 2513169434916 then ((some (y140 ++ y143 : List (S66))).bind fun y147 => (if 0 ≤ x11 then (if x11 < (x103000.length : Int) then (if y147.length < 2513169434916 then ((some (y147 ++ [(⟨(qm x103000 x11).f0, (qm x103000 x11).f1, (qm x103000 x11).f2, (qm x103000 x11).f3, (qm x103000 x11).f4⟩ : S66)] : List (S66))).bind fun y151 => ((some (x109000.drop (x12 : Int).toNat : List (S66))).bind fun y154 => (if y151.length + y154.length < 2513169434916 then (spec_Apply.l2 k (wrap64 (x11 + 1)) x103000 x103001 x103002 x103003 x103004 (y151 ++ y154) x109001 x109002 x109003) else (none)))) else (none)) else (none)) else (none))) else (none))) else (none)) else (none)))
end
def spec_Apply.f (k : Nat) (l0_0 : List (S66)) (a0_1 : Int) (a0_2 : Int) (a0_3 : Int) (l1_0 : List (S66)) (l1_1 : List Int) (a1_2 : Int) (a1_3 : Int) (a1_4 : Int) : Option ((List (S66)) × Int × Int × Int × Bool) := (spec_VersionOk.f k l0_0 a0_1 a0_2 a0_3).bind fun t104 => (if t104 = true then (if a1_2 < a0_1 then (spec_Apply.j0 k true l0_0 a0_1 a0_2 a0_3 l1_0 l1_1 a1_2 a1_3 a1_4) else (if a1_3 < a0_2 then (spec_Apply.j0 k true l0_0 a0_1 a0_2 a0_3 l1_0 l1_1 a1_2 a1_3 a1_4) else (if a1_4 < a0_3 then (spec_Apply.j0 k true l0_0 a0_1 a0_2 a0_3 l1_0 l1_1 a1_2 a1_3 a1_4) else (spec_Apply.j0 k (decide ((l1_0.length : Int) > 30)) l0_0 a0_1 a0_2 a0_3 l1_0 l1_1 a1_2 a1_3 a1_4)))) else (spec_Apply.j0 k true l0_0 a0_1 a0_2 a0_3 l1_0 l1_1 a1_2 a1_3 a1_4))
def spec_Apply.T12 : Bool × List (List Nat × List Nat) := (true, [([], []), ([0], [0]), ([1], [1]), ([2, 1], [1, 2]), ([1], [1]), ([3, 4, 1], [1, 3, 4]), ([5, 1], [1, 5]), ([1], [1]), ([7, 1], [1, 7]), ([1], [1]), ([8, 9, 1], [1, 8, 9]), ([10, 1], [1, 10]), ([11, 1], [1, 11]), ([6, 12, 1], [1, 6, 12]), ([1, 13], [1, 13]), ([14, 1, 0, 1, 2, 3, 4, 5, 6, 7, 8, 9, 10, 11, 12, 13, 14], [0, 14])])
def spec_Apply.B12 : List Nat := [0, 1, 3, 7, 3, 31, 63, 3, 131, 3, 899, 1923, 3971, 8191, 16383, 32767]
theorem spec_Apply.tab12 : rtab .any (opsOf Try.f17 12) = spec_Apply.T12 := by kernel_rfl
theorem spec_Apply.bits12 : waitsOk spec_Apply.T12.2 spec_Apply.B12 = true := by kernel_rfl
def spec_Apply.T15 : Bool × List (List Nat × List Nat) := (true, [([], []), ([0], [0]), ([], []), ([2], [2]), ([], []), ([3, 4], [3, 4]), ([5], [5]), ([6], [6]), ([1, 7], [1, 7]), ([0, 1, 2, 3, 4, 5, 6, 7, 8], []), ([9, 8, 8, 0, 1, 2, 3, 4, 5, 6, 7, 8], [8, 9])])
def spec_Apply.B15 : List Nat := [0, 1, 0, 4, 0, 28, 60, 124, 255, 511, 1023]
theorem spec_Apply.tab15 : rtab .any (opsOf Try.f17 15) = spec_Apply.T15 := by kernel_rfl
theorem spec_Apply.bits15 : waitsOk spec_Apply.T15.2 spec_Apply.B15 = true := by kernel_rfl
def spec_Apply.T22 : Bool × List (List Nat × List Nat) := (true, [([], []), ([], []), ([1], [1]), ([2], [2]), ([0, 3], [0, 3]), ([4], [4]), ([5], [5]), ([6, 5], [5, 6]), ([5], [5]), ([7, 8, 5], [5, 7, 8]), ([9, 5], [5, 9]), ([5], [5]), ([11, 5], [5, 11]), ([5], [5]), ([12, 13, 5], [5, 12, 13]), ([14, 5], [5, 14]), ([10, 15, 5, 5], [5, 10, 15]), ([5, 16], [5, 16])])
def spec_Apply.B22 : List Nat := [0, 0, 2, 6, 15, 31, 63, 127, 63, 511, 1023, 63, 2111, 63, 14399, 30783, 65535, 131071]
theorem spec_Apply.tab22 : rtab .any (opsOf Try.f17 22) = spec_Apply.T22 := by kernel_rfl
theorem spec_Apply.bits22 : waitsOk spec_Apply.T22.2 spec_Apply.B22 = true := by kernel_rfl
set_option maxHeartbeats 8000000 in
set_option maxRecDepth 100000 in
theorem spec_Apply.calls (k : Nat) (A0_0 : Option Addr) (c0_0 : Nat) (l0_0 : List (S66)) (a0_1 : Int) (a0_2 : Int) (a0_3 : Int) (A1_0 : Option Addr) (c1_0 : Nat) (l1_0 : List (S66)) (A1_1 : Option Addr) (c1_1 : Nat) (l1_1 : List Int) (a1_2 : Int) (a1_3 : Int) (a1_4 : Int) (r1 : List (S66)) (r2 : Int) (r3 : Int) (r4 : Int) (r5 : Bool) (w : World) (hr0_0 : Kd.C k66 w A0_0 l0_0.length l0_0) (hc0_0 : l0_0.length ≤ c0_0) (hr1_0 : Kd.C k66 w A1_0 l1_0.length l1_0) (hc1_0 : l1_0.length ≤ c1_0) (hr1_1 : Kd.C (Kd.int .i64) w A1_1 l1_1.length l1_1) (hc1_1 : l1_1.length ≤ c1_1) (h : spec_Apply.f k l0_0 a0_1 a0_2 a0_3 l1_0 l1_1 a1_2 a1_3 a1_4 = some (r1, r2, r3, r4, r5)) :
  Calls Try.prog 17 #[.agg #[.slice A0_0 l0_0.length c0_0, .int .i64 a0_1, .int .i64 a0_2, .int .i64 a0_3], .agg #[.slice A1_0 l1_0.length c1_0, .slice A1_1 l1_1.length c1_1, .int .i64 a1_2, .int .i64 a1_3, .int .i64 a1_4]] w fun e w' => ∃ v0_ : Value, e = .returned (.tuple #[.agg #[v0_, .int .i64 r2, .int .i64 r3, .int .i64 r4], .bool r5]) ∧ Kd.R k66 66 w' w.heap.size (fun _ => True) v0_ r1 ∧ Below w.heap.size w w' := by
 have hu32 := Try.underlying32
 have hu37 := Try.underlying37
 have hu66 := Try.underlying66
 have HR0_0 := Qz.mk hr0_0
 have HC0_0 := Qz.mk hc0_0
 clear hr0_0 hc0_0
 have HR1_0 := Qz.mk hr1_0
 have HC1_0 := Qz.mk hc1_0
 clear hr1_0 hc1_0
 have HR1_1 := Qz.mk hr1_1
 have HC1_1 := Qz.mk hc1_1
 clear hr1_1 hc1_1
 have HB := Qz.mk (Below.refl w.heap.size w)
 have H : ((spec_VersionOk.f k l0_0 a0_1 a0_2 a0_3).bind fun t104 => (if t104 = true then (if a1_2 < a0_1 then (spec_Apply.j0 k true l0_0 a0_1 a0_2 a0_3 l1_0 l1_1 a1_2 a1_3 a1_4) else (if a1_3 < a0_2 then (spec_Apply.j0 k true l0_0 a0_1 a0_2 a0_3 l1_0 l1_1 a1_2 a1_3 a1_4) else (if a1_4 < a0_3 then (spec_Apply.j0 k true l0_0 a0_1 a0_2 a0_3 l1_0 l1_1 a1_2 a1_3 a1_4) else (spec_Apply.j0 k (decide ((l1_0.length : Int) > 30)) l0_0 a0_1 a0_2 a0_3 l1_0 l1_1 a1_2 a1_3 a1_4)))) else (spec_Apply.j0 k true l0_0 a0_1 a0_2 a0_3 l1_0 l1_1 a1_2 a1_3 a1_4))) = some (r1, r2, r3, r4, r5) := h
 clear h
 have HC3 := Qz.mk H
 clear H
 go_enter Try.func17, Try.ntmps17
 go_upto_region 1 with (first | ((with_reducible refine gate_dst (N := 2) rfl ?_); (try (refine gate_guard (by rfl) ?_; dsimp only)); refine box_event ?hg (N := 2) ?hd (cs := #[.slice A0_0 l0_0.length c0_0, .int .i64 a0_1, .int .i64 a0_2, .int .i64 a0_3]) (t := 32) ?hr ?_; (case hd => rfl); (case hg => rfl); (case hr => exact yq27); intro gb101 hg w4 hbox hb; have BK101 := Qz.mk (hbox); have GW101 := Qz.mk ((by rw [hg]; exact (qu (by repeat (first | (with_reducible first | exact HB.out | apply qi | apply qg | apply qh) | exact HB.out))) : w.heap.size ≤ gb101)); have GE101 := GW101; replace HB := Qz.mk (qp (by repeat (first | (with_reducible first | exact HB.out | apply qi | apply qg | apply qh) | exact HB.out)) hb); clear hb hbox hg) | ((with_reducible refine gate_dst (N := 3) rfl ?_); (try (refine gate_guard (by rfl) ?_; dsimp only)); refine box_event ?hg (N := 3) ?hd (cs := #[.slice A1_0 l1_0.length c1_0, .slice A1_1 l1_1.length c1_1, .int .i64 a1_2, .int .i64 a1_3, .int .i64 a1_4]) (t := 37) ?hr ?_; (case hd => rfl); (case hg => rfl); (case hr => exact yq27); intro gb102 hg w5 hbox hb; have BK102 := Qz.mk (hbox); have GW102 := Qz.mk ((by rw [hg]; exact (qu (by repeat (first | (with_reducible first | exact HB.out | apply qi | apply qg | apply qh | refine qf ?_ GE101.out) | exact HB.out))) : w.heap.size ≤ gb102)); have GE102 := GW102; replace HB := Qz.mk (qp (by repeat (first | (with_reducible first | exact HB.out | apply qi | apply qg | apply qh | refine qf ?_ GE101.out) | exact HB.out)) hb); have NB101_102 := Qz.mk ((yq25 : gb101 ≠ gb102)); have NB102_101 := Qz.mk ((yq26 : gb102 ≠ gb101)); replace BK101 := Qz.mk (qo (g := gb101) (o := .cells #[.slice A0_0 l0_0.length c0_0, .int .i64 a0_1, .int .i64 a0_2, .int .i64 a0_3] 32 (0, 0)) yq15 hb); clear hb hbox hg) | ((with_reducible refine gate_dst (N := 4) rfl ?_); (try (refine gate_guard (by rfl) ?_; dsimp only)); refine box_event ?hg (N := 4) ?hd (cs := #[.slice none 0 0, .int .i64 0, .int .i64 0, .int .i64 0]) (t := 32) ?hr ?_; (case hd => rfl); (case hg => rfl); (case hr => exact yq27); intro gb103 hg w6 hbox hb; have BK103 := Qz.mk (hbox); have GW103 := Qz.mk ((by rw [hg]; exact (qu (by repeat (first | (with_reducible first | exact HB.out | apply qi | apply qg | apply qh | refine qf ?_ GE101.out | refine qf ?_ GE102.out) | exact HB.out))) : w.heap.size ≤ gb103)); have GE103 := GW103; replace HB := Qz.mk (qp (by repeat (first | (with_reducible first | exact HB.out | apply qi | apply qg | apply qh | refine qf ?_ GE101.out | refine qf ?_ GE102.out) | exact HB.out)) hb); have NB101_103 := Qz.mk ((yq25 : gb101 ≠ gb103)); have NB103_101 := Qz.mk ((yq26 : gb103 ≠ gb101)); replace BK101 := Qz.mk (qo (g := gb101) (o := .cells #[.slice A0_0 l0_0.length c0_0, .int .i64 a0_1, .int .i64 a0_2, .int .i64 a0_3] 32 (0, 0)) yq15 hb); have NB102_103 := Qz.mk ((by rw [hg]; exact Nat.ne_of_lt (qy (g := gb102) (o := .cells #[.slice A1_0 l1_0.length c1_0, .slice A1_1 l1_1.length c1_1, .int .i64 a1_2, .int .i64 a1_3, .int .i64 a1_4] 37 (0, 0)) yq16) : gb102 ≠ gb103)); have NB103_102 := Qz.mk ((by rw [hg]; exact Nat.ne_of_gt (qy (g := gb102) (o := .cells #[.slice A1_0 l1_0.length c1_0, .slice A1_1 l1_1.length c1_1, .int .i64 a1_2, .int .i64 a1_3, .int .i64 a1_4] 37 (0, 0)) yq16) : gb103 ≠ gb102)); replace BK102 := Qz.mk (qo (g := gb102) (o := .cells #[.slice A1_0 l1_0.length c1_0, .slice A1_1 l1_1.length c1_1, .int .i64 a1_2, .int .i64 a1_3, .int .i64 a1_4] 37 (0, 0)) yq16 hb); clear hb hbox hg))
 (try simp only [Act.put, sq1, sq2, sq3])
 go_cut [43] (fun v43 wc => ∃ (kq : Nat) (x43_2 : Bool), v43 = .bool x43_2 ∧ Qz (spec_Apply.j0 kq x43_2 l0_0 a0_1 a0_2 a0_3 l1_0 l1_1 a1_2 a1_3 a1_4 = some (r1, r2, r3, r4, r5)) ∧ Qz (kq ≤ k) ∧ Qz (wc.heap[gb101]? = some (.cells #[(.slice A0_0 l0_0.length c0_0), .int .i64 a0_1, .int .i64 a0_2, .int .i64 a0_3] 32 (0, 0))) ∧ Qz (wc.heap[gb102]? = some (.cells #[(.slice A1_0 l1_0.length c1_0), (.slice A1_1 l1_1.length c1_1), .int .i64 a1_2, .int .i64 a1_3, .int .i64 a1_4] 37 (0, 0))) ∧ Qz (wc.heap[gb103]? = some (.cells #[(.slice none 0 0), .int .i64 0, .int .i64 0, .int .i64 0] 32 (0, 0))) ∧ Qz (Below w.heap.size w wc))
 case first =>
  have H := HC3.out
  clear HC3
  replace H := Option.bind_eq_some_iff.mp H
  obtain ⟨t104, A70, H⟩ := H
  replace H : (if t104 = true then (if a1_2 < a0_1 then (spec_Apply.j0 k true l0_0 a0_1 a0_2 a0_3 l1_0 l1_1 a1_2 a1_3 a1_4) else (if a1_3 < a0_2 then (spec_Apply.j0 k true l0_0 a0_1 a0_2 a0_3 l1_0 l1_1 a1_2 a1_3 a1_4) else (if a1_4 < a0_3 then (spec_Apply.j0 k true l0_0 a0_1 a0_2 a0_3 l1_0 l1_1 a1_2 a1_3 a1_4) else (spec_Apply.j0 k (decide ((l1_0.length : Int) > 30)) l0_0 a0_1 a0_2 a0_3 l1_0 l1_1 a1_2 a1_3 a1_4)))) else (spec_Apply.j0 k true l0_0 a0_1 a0_2 a0_3 l1_0 l1_1 a1_2 a1_3 a1_4)) = some (r1, r2, r3, r4, r5) := H
  have A7 := Qz.mk A70
  clear A70
  by_cases c8 : t104 = true
  ·subst c8
   have H1 : (if a1_2 < a0_1 then (spec_Apply.j0 k true l0_0 a0_1 a0_2 a0_3 l1_0 l1_1 a1_2 a1_3 a1_4) else (if a1_3 < a0_2 then (spec_Apply.j0 k true l0_0 a0_1 a0_2 a0_3 l1_0 l1_1 a1_2 a1_3 a1_4) else (if a1_4 < a0_3 then (spec_Apply.j0 k true l0_0 a0_1 a0_2 a0_3 l1_0 l1_1 a1_2 a1_3 a1_4) else (spec_Apply.j0 k (decide ((l1_0.length : Int) > 30)) l0_0 a0_1 a0_2 a0_3 l1_0 l1_1 a1_2 a1_3 a1_4)))) = some (r1, r2, r3, r4, r5) := by rw [if_pos rfl] at H; exact H
   clear H
   have H := H1
   clear H1
   by_cases c9 : a1_2 < a0_1
   ·rw [if_pos c9] at H
    have c9b0 : decide (a1_2 < a0_1) = true := decide_eq_true c9
    clear c9
    (first | rw [c9b0] | (simp only [i64_w, i32_w]; rw [c9b0]) | skip)
    have H' := Qz.mk H
    clear H
    have hnb10 := NB101_102.out
    have hnc10 := NB102_101.out
    have hnb11 := NB101_103.out
    have hnc11 := NB103_101.out
    have hcz12_0 := (qd BK101.out 0).trans rfl
    have hcz12_1 := (qd BK101.out 1).trans rfl
    have hcz12_2 := (qd BK101.out 2).trans rfl
    have hcz12_3 := (qd BK101.out 3).trans rfl
    have hfz12_0 := qe BK101.out 0
    have hfz12_1 := qe BK101.out 1
    have hfz12_2 := qe BK101.out 2
    have hfz12_3 := qe BK101.out 3
    go_wp2_with (first | ((with_reducible refine qr (f := 26) rfl ?_); refine goesL_ (some 15) rfl rfl Try.func26 (by kernel_rfl) rfl #[.agg #[.slice A0_0 l0_0.length c0_0, .int .i64 a0_1, .int .i64 a0_2, .int .i64 a0_3]] rfl yq22 ?_; (with_reducible refine (spec_VersionOk.calls k _ _ l0_0 a0_1 a0_2 a0_3 true _ ?side1 ?side2 A7.out).mono ?_); (case side1 => exact yq24); (case side2 => exact HC0_0.out); rintro e w13 ⟨rfl, hb⟩; refine ⟨_, rfl, ?_⟩; replace BK101 := Qz.mk (qo (g := gb101) (o := .cells #[.slice A0_0 l0_0.length c0_0, .int .i64 a0_1, .int .i64 a0_2, .int .i64 a0_3] 32 (0, 0)) yq15 hb); replace BK102 := Qz.mk (qo (g := gb102) (o := .cells #[.slice A1_0 l1_0.length c1_0, .slice A1_1 l1_1.length c1_1, .int .i64 a1_2, .int .i64 a1_3, .int .i64 a1_4] 37 (0, 0)) yq16 hb); replace BK103 := Qz.mk (qo (g := gb103) (o := .cells #[.slice none 0 0, .int .i64 0, .int .i64 0, .int .i64 0] 32 (0, 0)) yq17 hb); replace HB := Qz.mk (qp yq19 hb); (try clear hb); (try clear hk); have hnb14 := NB102_103.out; have hnc14 := NB103_102.out; have hcz15_0 := (qd BK102.out 0).trans rfl; have hcz15_1 := (qd BK102.out 1).trans rfl; have hcz15_2 := (qd BK102.out 2).trans rfl; have hcz15_3 := (qd BK102.out 3).trans rfl; have hcz15_4 := (qd BK102.out 4).trans rfl; have hfz15_0 := qe BK102.out 0; have hfz15_1 := qe BK102.out 1; have hfz15_2 := qe BK102.out 2; have hfz15_3 := qe BK102.out 3; have hfz15_4 := qe BK102.out 4; have hcz16_0 := (qd BK101.out 0).trans rfl; have hcz16_1 := (qd BK101.out 1).trans rfl; have hcz16_2 := (qd BK101.out 2).trans rfl; have hcz16_3 := (qd BK101.out 3).trans rfl; have hfz16_0 := qe BK101.out 0; have hfz16_1 := qe BK101.out 1; have hfz16_2 := qe BK101.out 2; have hfz16_3 := qe BK101.out 3))
    go_meet
    case rel => exact ⟨_, (true), yq23, H', ⟨by first | omega | exact Nat.le_refl _⟩, ⟨by (with_reducible repeat (first | refine qb ?_ _ | refine qc ?_ | refine qa ?_ _)); exact BK101.out⟩, ⟨by (with_reducible repeat (first | refine qb ?_ _ | refine qc ?_ | refine qa ?_ _)); exact BK102.out⟩, ⟨by (with_reducible repeat (first | refine qb ?_ _ | refine qc ?_ | refine qa ?_ _)); exact BK103.out⟩, ⟨by repeat (first | (with_reducible first | exact HB.out | apply qi | apply qg | apply qh | refine qf ?_ GE101.out | refine qf ?_ GE102.out | refine qf ?_ GE103.out) | exact HB.out)⟩⟩
   ·rw [if_neg c9] at H
    have c9b0 : decide (a1_2 < a0_1) = false := decide_eq_false c9
    clear c9
    (first | rw [c9b0] | (simp only [i64_w, i32_w]; rw [c9b0]) | skip)
    by_cases c17 : a1_3 < a0_2
    ·rw [if_pos c17] at H
     have c17b0 : decide (a1_3 < a0_2) = true := decide_eq_true c17
     clear c17
     have H' := Qz.mk H
     clear H
     have hnb18 := NB101_102.out
     have hnc18 := NB102_101.out
     have hnb19 := NB101_103.out
     have hnc19 := NB103_101.out
     have hcz20_0 := (qd BK101.out 0).trans rfl
     have hcz20_1 := (qd BK101.out 1).trans rfl
     have hcz20_2 := (qd BK101.out 2).trans rfl
     have hcz20_3 := (qd BK101.out 3).trans rfl
     have hfz20_0 := qe BK101.out 0
     have hfz20_1 := qe BK101.out 1
     have hfz20_2 := qe BK101.out 2
     have hfz20_3 := qe BK101.out 3
     go_wp2_with (first | ((with_reducible refine qr (f := 26) rfl ?_); refine goesL_ (some 15) rfl rfl Try.func26 (by kernel_rfl) rfl #[.agg #[.slice A0_0 l0_0.length c0_0, .int .i64 a0_1, .int .i64 a0_2, .int .i64 a0_3]] rfl yq22 ?_; (with_reducible refine (spec_VersionOk.calls k _ _ l0_0 a0_1 a0_2 a0_3 true _ ?side1 ?side2 A7.out).mono ?_); (case side1 => exact yq24); (case side2 => exact HC0_0.out); rintro e w21 ⟨rfl, hb⟩; refine ⟨_, rfl, ?_⟩; replace BK101 := Qz.mk (qo (g := gb101) (o := .cells #[.slice A0_0 l0_0.length c0_0, .int .i64 a0_1, .int .i64 a0_2, .int .i64 a0_3] 32 (0, 0)) yq15 hb); replace BK102 := Qz.mk (qo (g := gb102) (o := .cells #[.slice A1_0 l1_0.length c1_0, .slice A1_1 l1_1.length c1_1, .int .i64 a1_2, .int .i64 a1_3, .int .i64 a1_4] 37 (0, 0)) yq16 hb); replace BK103 := Qz.mk (qo (g := gb103) (o := .cells #[.slice none 0 0, .int .i64 0, .int .i64 0, .int .i64 0] 32 (0, 0)) yq17 hb); replace HB := Qz.mk (qp yq19 hb); (try clear hb); (try clear hk); have hnb22 := NB102_103.out; have hnc22 := NB103_102.out; have hcz23_0 := (qd BK102.out 0).trans rfl; have hcz23_1 := (qd BK102.out 1).trans rfl; have hcz23_2 := (qd BK102.out 2).trans rfl; have hcz23_3 := (qd BK102.out 3).trans rfl; have hcz23_4 := (qd BK102.out 4).trans rfl; have hfz23_0 := qe BK102.out 0; have hfz23_1 := qe BK102.out 1; have hfz23_2 := qe BK102.out 2; have hfz23_3 := qe BK102.out 3; have hfz23_4 := qe BK102.out 4; have hcz24_0 := (qd BK101.out 0).trans rfl; have hcz24_1 := (qd BK101.out 1).trans rfl; have hcz24_2 := (qd BK101.out 2).trans rfl; have hcz24_3 := (qd BK101.out 3).trans rfl; have hfz24_0 := qe BK101.out 0; have hfz24_1 := qe BK101.out 1; have hfz24_2 := qe BK101.out 2; have hfz24_3 := qe BK101.out 3))
     go_meet
     case rel => exact ⟨_, (true), yq23, H', ⟨by first | omega | exact Nat.le_refl _⟩, ⟨by (with_reducible repeat (first | refine qb ?_ _ | refine qc ?_ | refine qa ?_ _)); exact BK101.out⟩, ⟨by (with_reducible repeat (first | refine qb ?_ _ | refine qc ?_ | refine qa ?_ _)); exact BK102.out⟩, ⟨by (with_reducible repeat (first | refine qb ?_ _ | refine qc ?_ | refine qa ?_ _)); exact BK103.out⟩, ⟨by repeat (first | (with_reducible first | exact HB.out | apply qi | apply qg | apply qh | refine qf ?_ GE101.out | refine qf ?_ GE102.out | refine qf ?_ GE103.out) | exact HB.out)⟩⟩
    ·rw [if_neg c17] at H
     have c17b0 : decide (a1_3 < a0_2) = false := decide_eq_false c17
     clear c17
     by_cases c25 : a1_4 < a0_3
     ·rw [if_pos c25] at H
      have c25b0 : decide (a1_4 < a0_3) = true := decide_eq_true c25
      clear c25
      have H' := Qz.mk H
      clear H
      have hnb26 := NB101_102.out
      have hnc26 := NB102_101.out
      have hnb27 := NB101_103.out
      have hnc27 := NB103_101.out
      have hcz28_0 := (qd BK101.out 0).trans rfl
      have hcz28_1 := (qd BK101.out 1).trans rfl
      have hcz28_2 := (qd BK101.out 2).trans rfl
      have hcz28_3 := (qd BK101.out 3).trans rfl
      have hfz28_0 := qe BK101.out 0
      have hfz28_1 := qe BK101.out 1
      have hfz28_2 := qe BK101.out 2
      have hfz28_3 := qe BK101.out 3
      go_wp2_with (first | ((with_reducible refine qr (f := 26) rfl ?_); refine goesL_ (some 15) rfl rfl Try.func26 (by kernel_rfl) rfl #[.agg #[.slice A0_0 l0_0.length c0_0, .int .i64 a0_1, .int .i64 a0_2, .int .i64 a0_3]] rfl yq22 ?_; (with_reducible refine (spec_VersionOk.calls k _ _ l0_0 a0_1 a0_2 a0_3 true _ ?side1 ?side2 A7.out).mono ?_); (case side1 => exact yq24); (case side2 => exact HC0_0.out); rintro e w29 ⟨rfl, hb⟩; refine ⟨_, rfl, ?_⟩; replace BK101 := Qz.mk (qo (g := gb101) (o := .cells #[.slice A0_0 l0_0.length c0_0, .int .i64 a0_1, .int .i64 a0_2, .int .i64 a0_3] 32 (0, 0)) yq15 hb); replace BK102 := Qz.mk (qo (g := gb102) (o := .cells #[.slice A1_0 l1_0.length c1_0, .slice A1_1 l1_1.length c1_1, .int .i64 a1_2, .int .i64 a1_3, .int .i64 a1_4] 37 (0, 0)) yq16 hb); replace BK103 := Qz.mk (qo (g := gb103) (o := .cells #[.slice none 0 0, .int .i64 0, .int .i64 0, .int .i64 0] 32 (0, 0)) yq17 hb); replace HB := Qz.mk (qp yq19 hb); (try clear hb); (try clear hk); have hnb30 := NB102_103.out; have hnc30 := NB103_102.out; have hcz31_0 := (qd BK102.out 0).trans rfl; have hcz31_1 := (qd BK102.out 1).trans rfl; have hcz31_2 := (qd BK102.out 2).trans rfl; have hcz31_3 := (qd BK102.out 3).trans rfl; have hcz31_4 := (qd BK102.out 4).trans rfl; have hfz31_0 := qe BK102.out 0; have hfz31_1 := qe BK102.out 1; have hfz31_2 := qe BK102.out 2; have hfz31_3 := qe BK102.out 3; have hfz31_4 := qe BK102.out 4; have hcz32_0 := (qd BK101.out 0).trans rfl; have hcz32_1 := (qd BK101.out 1).trans rfl; have hcz32_2 := (qd BK101.out 2).trans rfl; have hcz32_3 := (qd BK101.out 3).trans rfl; have hfz32_0 := qe BK101.out 0; have hfz32_1 := qe BK101.out 1; have hfz32_2 := qe BK101.out 2; have hfz32_3 := qe BK101.out 3))
      go_meet
      case rel => exact ⟨_, (true), yq23, H', ⟨by first | omega | exact Nat.le_refl _⟩, ⟨by (with_reducible repeat (first | refine qb ?_ _ | refine qc ?_ | refine qa ?_ _)); exact BK101.out⟩, ⟨by (with_reducible repeat (first | refine qb ?_ _ | refine qc ?_ | refine qa ?_ _)); exact BK102.out⟩, ⟨by (with_reducible repeat (first | refine qb ?_ _ | refine qc ?_ | refine qa ?_ _)); exact BK103.out⟩, ⟨by repeat (first | (with_reducible first | exact HB.out | apply qi | apply qg | apply qh | refine qf ?_ GE101.out | refine qf ?_ GE102.out | refine qf ?_ GE103.out) | exact HB.out)⟩⟩
     ·rw [if_neg c25] at H
      have c25b0 : decide (a1_4 < a0_3) = false := decide_eq_false c25
      clear c25
      have H' := Qz.mk H
      clear H
      have hnb33 := NB101_102.out
      have hnc33 := NB102_101.out
      have hnb34 := NB101_103.out
      have hnc34 := NB103_101.out
      have hcz35_0 := (qd BK101.out 0).trans rfl
      have hcz35_1 := (qd BK101.out 1).trans rfl
      have hcz35_2 := (qd BK101.out 2).trans rfl
      have hcz35_3 := (qd BK101.out 3).trans rfl
      have hfz35_0 := qe BK101.out 0
      have hfz35_1 := qe BK101.out 1
      have hfz35_2 := qe BK101.out 2
      have hfz35_3 := qe BK101.out 3
      go_wp2_with (first | ((with_reducible refine qr (f := 26) rfl ?_); refine goesL_ (some 15) rfl rfl Try.func26 (by kernel_rfl) rfl #[.agg #[.slice A0_0 l0_0.length c0_0, .int .i64 a0_1, .int .i64 a0_2, .int .i64 a0_3]] rfl yq22 ?_; (with_reducible refine (spec_VersionOk.calls k _ _ l0_0 a0_1 a0_2 a0_3 true _ ?side1 ?side2 A7.out).mono ?_); (case side1 => exact yq24); (case side2 => exact HC0_0.out); rintro e w36 ⟨rfl, hb⟩; refine ⟨_, rfl, ?_⟩; replace BK101 := Qz.mk (qo (g := gb101) (o := .cells #[.slice A0_0 l0_0.length c0_0, .int .i64 a0_1, .int .i64 a0_2, .int .i64 a0_3] 32 (0, 0)) yq15 hb); replace BK102 := Qz.mk (qo (g := gb102) (o := .cells #[.slice A1_0 l1_0.length c1_0, .slice A1_1 l1_1.length c1_1, .int .i64 a1_2, .int .i64 a1_3, .int .i64 a1_4] 37 (0, 0)) yq16 hb); replace BK103 := Qz.mk (qo (g := gb103) (o := .cells #[.slice none 0 0, .int .i64 0, .int .i64 0, .int .i64 0] 32 (0, 0)) yq17 hb); replace HB := Qz.mk (qp yq19 hb); (try clear hb); (try clear hk); have hnb37 := NB102_103.out; have hnc37 := NB103_102.out; have hcz38_0 := (qd BK102.out 0).trans rfl; have hcz38_1 := (qd BK102.out 1).trans rfl; have hcz38_2 := (qd BK102.out 2).trans rfl; have hcz38_3 := (qd BK102.out 3).trans rfl; have hcz38_4 := (qd BK102.out 4).trans rfl; have hfz38_0 := qe BK102.out 0; have hfz38_1 := qe BK102.out 1; have hfz38_2 := qe BK102.out 2; have hfz38_3 := qe BK102.out 3; have hfz38_4 := qe BK102.out 4; have hcz39_0 := (qd BK101.out 0).trans rfl; have hcz39_1 := (qd BK101.out 1).trans rfl; have hcz39_2 := (qd BK101.out 2).trans rfl; have hcz39_3 := (qd BK101.out 3).trans rfl; have hfz39_0 := qe BK101.out 0; have hfz39_1 := qe BK101.out 1; have hfz39_2 := qe BK101.out 2; have hfz39_3 := qe BK101.out 3))
      go_meet
      case rel => exact ⟨_, (decide ((l1_0.length : Int) > 30)), yq23, H', ⟨by first | omega | exact Nat.le_refl _⟩, ⟨by (with_reducible repeat (first | refine qb ?_ _ | refine qc ?_ | refine qa ?_ _)); exact BK101.out⟩, ⟨by (with_reducible repeat (first | refine qb ?_ _ | refine qc ?_ | refine qa ?_ _)); exact BK102.out⟩, ⟨by (with_reducible repeat (first | refine qb ?_ _ | refine qc ?_ | refine qa ?_ _)); exact BK103.out⟩, ⟨by repeat (first | (with_reducible first | exact HB.out | apply qi | apply qg | apply qh | refine qf ?_ GE101.out | refine qf ?_ GE102.out | refine qf ?_ GE103.out) | exact HB.out)⟩⟩
  ·replace c8 := Bool.eq_false_iff.mpr c8
   subst c8
   have H1 : (spec_Apply.j0 k true l0_0 a0_1 a0_2 a0_3 l1_0 l1_1 a1_2 a1_3 a1_4) = some (r1, r2, r3, r4, r5) := by rw [if_neg (show ¬ (false = true) by decide)] at H; exact H
   clear H
   have H := H1
   clear H1
   have H' := Qz.mk H
   clear H
   have hnb40 := NB101_102.out
   have hnc40 := NB102_101.out
   have hnb41 := NB101_103.out
   have hnc41 := NB103_101.out
   have hcz42_0 := (qd BK101.out 0).trans rfl
   have hcz42_1 := (qd BK101.out 1).trans rfl
   have hcz42_2 := (qd BK101.out 2).trans rfl
   have hcz42_3 := (qd BK101.out 3).trans rfl
   have hfz42_0 := qe BK101.out 0
   have hfz42_1 := qe BK101.out 1
   have hfz42_2 := qe BK101.out 2
   have hfz42_3 := qe BK101.out 3
   go_wp2_with (first | ((with_reducible refine qr (f := 26) rfl ?_); refine goesL_ (some 15) rfl rfl Try.func26 (by kernel_rfl) rfl #[.agg #[.slice A0_0 l0_0.length c0_0, .int .i64 a0_1, .int .i64 a0_2, .int .i64 a0_3]] rfl yq22 ?_; (with_reducible refine (spec_VersionOk.calls k _ _ l0_0 a0_1 a0_2 a0_3 false _ ?side1 ?side2 A7.out).mono ?_); (case side1 => exact yq24); (case side2 => exact HC0_0.out); rintro e w43 ⟨rfl, hb⟩; refine ⟨_, rfl, ?_⟩; replace BK101 := Qz.mk (qo (g := gb101) (o := .cells #[.slice A0_0 l0_0.length c0_0, .int .i64 a0_1, .int .i64 a0_2, .int .i64 a0_3] 32 (0, 0)) yq15 hb); replace BK102 := Qz.mk (qo (g := gb102) (o := .cells #[.slice A1_0 l1_0.length c1_0, .slice A1_1 l1_1.length c1_1, .int .i64 a1_2, .int .i64 a1_3, .int .i64 a1_4] 37 (0, 0)) yq16 hb); replace BK103 := Qz.mk (qo (g := gb103) (o := .cells #[.slice none 0 0, .int .i64 0, .int .i64 0, .int .i64 0] 32 (0, 0)) yq17 hb); replace HB := Qz.mk (qp yq19 hb); (try clear hb); (try clear hk)))
   go_meet
   case rel => exact ⟨_, (true), yq23, H', ⟨by first | omega | exact Nat.le_refl _⟩, ⟨by (with_reducible repeat (first | refine qb ?_ _ | refine qc ?_ | refine qa ?_ _)); exact BK101.out⟩, ⟨by (with_reducible repeat (first | refine qb ?_ _ | refine qc ?_ | refine qa ?_ _)); exact BK102.out⟩, ⟨by (with_reducible repeat (first | refine qb ?_ _ | refine qc ?_ | refine qa ?_ _)); exact BK103.out⟩, ⟨by repeat (first | (with_reducible first | exact HB.out | apply qi | apply qg | apply qh | refine qf ?_ GE101.out | refine qf ?_ GE102.out | refine qf ?_ GE103.out) | exact HB.out)⟩⟩
 case rest =>
  clear HC3
  (try clear c1);(try clear c2);(try clear p2);(try clear c3);(try clear c4);(try clear c8);(try clear c9);(try clear c9b0);(try clear c10);(try clear c11);(try clear c14);(try clear c17);(try clear c17b0);(try clear c18);(try clear c19);(try clear c22);(try clear c25);(try clear c25b0);(try clear c26);(try clear c27);(try clear c30);(try clear c33);(try clear c34);(try clear c37);(try clear c40);(try clear c41);(try clear hcz12_0);(try clear hcz12_1);(try clear hcz12_2);(try clear hcz12_3);(try clear hcz15_0);(try clear hcz15_1);(try clear hcz15_2);(try clear hcz15_3);(try clear hcz15_4);(try clear hcz16_0);(try clear hcz16_1);(try clear hcz16_2);(try clear hcz16_3);(try clear hcz20_0);(try clear hcz20_1);(try clear hcz20_2);(try clear hcz20_3);(try clear hcz23_0);(try clear hcz23_1);(try clear hcz23_2);(try clear hcz23_3);(try clear hcz23_4);(try clear hcz24_0);(try clear hcz24_1);(try clear hcz24_2);(try clear hcz24_3);(try clear hcz28_0);(try clear hcz28_1);(try clear hcz28_2);(try clear hcz28_3);(try clear hcz31_0);(try clear hcz31_1);(try clear hcz31_2);(try clear hcz31_3);(try clear hcz31_4);(try clear hcz32_0);(try clear hcz32_1);(try clear hcz32_2);(try clear hcz32_3);(try clear hcz35_0);(try clear hcz35_1);(try clear hcz35_2);(try clear hcz35_3);(try clear hcz38_0);(try clear hcz38_1);(try clear hcz38_2);(try clear hcz38_3);(try clear hcz38_4);(try clear hcz39_0);(try clear hcz39_1);(try clear hcz39_2);(try clear hcz39_3);(try clear hcz42_0);(try clear hcz42_1);(try clear hcz42_2);(try clear hcz42_3);(try clear hfz12_0);(try clear hfz12_1);(try clear hfz12_2);(try clear hfz12_3);(try clear hfz15_0);(try clear hfz15_1);(try clear hfz15_2);(try clear hfz15_3);(try clear hfz15_4);(try clear hfz16_0);(try clear hfz16_1);(try clear hfz16_2);(try clear hfz16_3);(try clear hfz20_0);(try clear hfz20_1);(try clear hfz20_2);(try clear hfz20_3);(try clear hfz23_0);(try clear hfz23_1);(try clear hfz23_2);(try clear hfz23_3);(try clear hfz23_4);(try clear hfz24_0);(try clear hfz24_1);(try clear hfz24_2);(try clear hfz24_3);(try clear hfz28_0);(try clear hfz28_1);(try clear hfz28_2);(try clear hfz28_3);(try clear hfz31_0);(try clear hfz31_1);(try clear hfz31_2);(try clear hfz31_3);(try clear hfz31_4);(try clear hfz32_0);(try clear hfz32_1);(try clear hfz32_2);(try clear hfz32_3);(try clear hfz35_0);(try clear hfz35_1);(try clear hfz35_2);(try clear hfz35_3);(try clear hfz38_0);(try clear hfz38_1);(try clear hfz38_2);(try clear hfz38_3);(try clear hfz38_4);(try clear hfz39_0);(try clear hfz39_1);(try clear hfz39_2);(try clear hfz39_3);(try clear hfz42_0);(try clear hfz42_1);(try clear hfz42_2);(try clear hfz42_3)
  obtain ⟨kq, x43_2, rfl, HA, HJ2, BK101, BK102, BK103, HB⟩ := hcut
  cases kq with
  | zero => exact absurd HA.out (by simp [spec_Apply.j0])
  | succ kj2 =>
   have H := HA.out
   clear HA
   simp only [spec_Apply.j0] at H
   by_cases c44 : x43_2 = true
   ·subst c44
    have H1 : (some (([] : List (S66)), 0, 0, 0, false)) = some (r1, r2, r3, r4, r5) := by rw [if_pos rfl] at H; exact H
    clear H
    have H := H1
    clear H1
    simp only [Option.some.injEq, Prod.mk.injEq] at H
    obtain ⟨rfl, rfl, rfl, rfl, rfl⟩ := H
    have hnb45 := NB103_101.out
    have hnc45 := NB101_103.out
    have hnb46 := NB103_102.out
    have hnc46 := NB102_103.out
    have hcz47_0 := (qd BK103.out 0).trans rfl
    have hcz47_1 := (qd BK103.out 1).trans rfl
    have hcz47_2 := (qd BK103.out 2).trans rfl
    have hcz47_3 := (qd BK103.out 3).trans rfl
    have hfz47_0 := qe BK103.out 0
    have hfz47_1 := qe BK103.out 1
    have hfz47_2 := qe BK103.out 2
    have hfz47_3 := qe BK103.out 3
    go_wp2
    refine bodyPost_ret (results_ct rfl _ _ gb103 32 #[.slice none 0 0, .int .i64 0, .int .i64 0, .int .i64 0] (0, 0) _ rfl yq18 Try.underlying32 rfl (by kernel_rfl)) rfl ?_
    exact ⟨_, by first | rfl | (simp [qw, qv] <;> rfl) | (simp [*, qw, qv] <;> rfl), by first | exact Kd.R_nil _ _ _ _ _ | exact Kd.N_nil _ _ _ _ _ | exact Kd.V_nil _ _ _ _ _ | exact Kd.Q_nil _ _ _ _ _ | exact Kd.S_nil _ _ _ _ _, by repeat (first | (with_reducible first | exact HB.out | apply qi | apply qg | apply qh | refine qf ?_ GE101.out | refine qf ?_ GE102.out | refine qf ?_ GE103.out) | exact HB.out)⟩
   ·replace c44 := Bool.eq_false_iff.mpr c44
    subst c44
    have H1 : (spec_Apply.l0 kj2 0 0 l0_0 a0_1 a0_2 a0_3 l1_0 l1_1 a1_2 a1_3 a1_4 (([] : List (S66))) a1_2 a1_3 a1_4) = some (r1, r2, r3, r4, r5) := by rw [if_neg (show ¬ (false = true) by decide)] at H; exact H
    clear H
    have H := H1
    clear H1
    obtain ⟨y105, hy105⟩ : ∃ y_ : List (S66), y_ = (([] : List (S66))) := ⟨_, rfl⟩
    replace H : (spec_Apply.l0 kj2 0 0 l0_0 a0_1 a0_2 a0_3 l1_0 l1_1 a1_2 a1_3 a1_4 y105 a1_2 a1_3 a1_4) = some (r1, r2, r3, r4, r5) := by first | (rw [hy105]; with_reducible exact H) | (have H2_ := (Option.bind_some _ _).symm.trans H; rw [hy105]; with_reducible exact H2_) | (have H2_ := (Option.bind_some _ _).symm.trans H; with_reducible exact H2_) | with_reducible exact H | (rw [hy105]; exact H) | exact H
    have Ny105 := Qz.mk hy105
    clear hy105
    have H' := Qz.mk H
    clear H
    have hnb48 := NB102_101.out
    have hnc48 := NB101_102.out
    have hnb49 := NB102_103.out
    have hnc49 := NB103_102.out
    have hcz50_0 := (qd BK102.out 0).trans rfl
    have hcz50_1 := (qd BK102.out 1).trans rfl
    have hcz50_2 := (qd BK102.out 2).trans rfl
    have hcz50_3 := (qd BK102.out 3).trans rfl
    have hcz50_4 := (qd BK102.out 4).trans rfl
    have hfz50_0 := qe BK102.out 0
    have hfz50_1 := qe BK102.out 1
    have hfz50_2 := qe BK102.out 2
    have hfz50_3 := qe BK102.out 3
    have hfz50_4 := qe BK102.out 4
    go_wp2_with (first | ((with_reducible refine gate_dst (N := 51) rfl ?_); (try (refine gate_guard (by rfl) ?_; dsimp only)); refine Kd.R_lit k66 _ 66 ?hg (N := 51) ?hd (xs := ([] : List (S66))) (inner := []) (ok := fun _ => True) (okp := fun _ => True) ?hr ?hp (fun _ hk => hk) trivial (Below.refl _ _) (Nat.le_refl _) (by simp) ?_; (case hd => rfl); (case hg => rfl); (case hr => exact yq27); (case hp => exact (Reps.none _ _)); intro v106 w51 ho52 hb hg_ hnew_; clear hg_ hnew_; (first | rw [← Ny105.out] at ho52 | (simp only [Int.reduceToNat] at ho52; rw [← Ny105.out] at ho52)); have HO107 := Qz.mk (Kd.R_lower ho52 (qu yq19)); replace BK101 := Qz.mk (qo (g := gb101) (o := .cells #[.slice A0_0 l0_0.length c0_0, .int .i64 a0_1, .int .i64 a0_2, .int .i64 a0_3] 32 (0, 0)) yq15 hb); replace BK102 := Qz.mk (qo (g := gb102) (o := .cells #[.slice A1_0 l1_0.length c1_0, .slice A1_1 l1_1.length c1_1, .int .i64 a1_2, .int .i64 a1_3, .int .i64 a1_4] 37 (0, 0)) yq16 hb); replace BK103 := Qz.mk (qo (g := gb103) (o := .cells #[.slice none 0 0, .int .i64 0, .int .i64 0, .int .i64 0] 32 (0, 0)) yq17 hb); replace HB := Qz.mk (qp yq19 hb); clear hb ho52; obtain ⟨Ao53, co53, eo53⟩ := Kd.R_slice HO107.out; subst eo53) | ((with_reducible refine gate_dst (N := 6) rfl ?_); (try (refine gate_guard (by rfl) ?_; dsimp only)); refine box_event ?hg (N := 6) ?hd (cs := #[.slice none 0 0, .int .i64 0, .int .i64 0, .int .i64 0]) (t := 32) ?hr ?_; (case hd => rfl); (case hg => rfl); (case hr => exact yq27); intro gb108 hg w54 hbox hb; replace HO107 := Qz.mk (Kd.R_below (by (with_reducible repeat (first | apply Kd.R_alloc | apply Kd.R_drewN | apply Kd.R_drew)); exact HO107.out) hb); have BK108 := Qz.mk (hbox); have GW108 := Qz.mk ((by rw [hg]; exact (qu yq19) : w.heap.size ≤ gb108)); have GE108 := GW108; replace HB := Qz.mk (qp yq19 hb); have NB101_108 := Qz.mk ((yq25 : gb101 ≠ gb108)); have NB108_101 := Qz.mk ((yq26 : gb108 ≠ gb101)); replace BK101 := Qz.mk (qo (g := gb101) (o := .cells #[.slice A0_0 l0_0.length c0_0, .int .i64 a0_1, .int .i64 a0_2, .int .i64 a0_3] 32 (0, 0)) yq15 hb); have NB102_108 := Qz.mk ((by rw [hg]; exact Nat.ne_of_lt (qy (g := gb102) (o := .cells #[.slice A1_0 l1_0.length c1_0, .slice A1_1 l1_1.length c1_1, .int .i64 a1_2, .int .i64 a1_3, .int .i64 a1_4] 37 (0, 0)) yq16) : gb102 ≠ gb108)); have NB108_102 := Qz.mk ((by rw [hg]; exact Nat.ne_of_gt (qy (g := gb102) (o := .cells #[.slice A1_0 l1_0.length c1_0, .slice A1_1 l1_1.length c1_1, .int .i64 a1_2, .int .i64 a1_3, .int .i64 a1_4] 37 (0, 0)) yq16) : gb108 ≠ gb102)); replace BK102 := Qz.mk (qo (g := gb102) (o := .cells #[.slice A1_0 l1_0.length c1_0, .slice A1_1 l1_1.length c1_1, .int .i64 a1_2, .int .i64 a1_3, .int .i64 a1_4] 37 (0, 0)) yq16 hb); have NB103_108 := Qz.mk ((by rw [hg]; exact Nat.ne_of_lt (qy (g := gb103) (o := .cells #[.slice none 0 0, .int .i64 0, .int .i64 0, .int .i64 0] 32 (0, 0)) yq17) : gb103 ≠ gb108)); have NB108_103 := Qz.mk ((by rw [hg]; exact Nat.ne_of_gt (qy (g := gb103) (o := .cells #[.slice none 0 0, .int .i64 0, .int .i64 0, .int .i64 0] 32 (0, 0)) yq17) : gb108 ≠ gb103)); replace BK103 := Qz.mk (qo (g := gb103) (o := .cells #[.slice none 0 0, .int .i64 0, .int .i64 0, .int .i64 0] 32 (0, 0)) yq17 hb); clear hb hbox hg; have hnb55 := NB108_101.out; have hnc55 := NB101_108.out; have hnb56 := NB108_102.out; have hnc56 := NB102_108.out; have hnb57 := NB108_103.out; have hnc57 := NB103_108.out; have hcz58_0 := (qd BK108.out 0).trans rfl; have hcz58_1 := (qd BK108.out 1).trans rfl; have hcz58_2 := (qd BK108.out 2).trans rfl; have hcz58_3 := (qd BK108.out 3).trans rfl; have hfz58_0 := qe BK108.out 0; have hfz58_1 := qe BK108.out 1; have hfz58_2 := qe BK108.out 2; have hfz58_3 := qe BK108.out 3))
    go_loopg [7, 8] kj2 (fun kq v7 v8 w' => ∃ (x7_2 : Int) (x8_2 : Int) (x109000_2 : List (S66)) (u109000 : Value), v7 = .int .i64 x7_2 ∧ v8 = .int .i64 x8_2 ∧ Qz (spec_Apply.l0 kq x7_2 x8_2 l0_0 a0_1 a0_2 a0_3 l1_0 l1_1 a1_2 a1_3 a1_4 x109000_2 a1_2 a1_3 a1_4 = some (r1, r2, r3, r4, r5)) ∧ Qz (kq ≤ kj2) ∧ Qz (Kd.R k66 66 w' w.heap.size (fun _ => True) u109000 x109000_2) ∧ Qz (w'.heap[gb101]? = some (.cells #[(.slice A0_0 l0_0.length c0_0), .int .i64 a0_1, .int .i64 a0_2, .int .i64 a0_3] 32 (0, 0))) ∧ Qz (w'.heap[gb102]? = some (.cells #[(.slice A1_0 l1_0.length c1_0), (.slice A1_1 l1_1.length c1_1), .int .i64 a1_2, .int .i64 a1_3, .int .i64 a1_4] 37 (0, 0))) ∧ Qz (w'.heap[gb103]? = some (.cells #[(.slice none 0 0), .int .i64 0, .int .i64 0, .int .i64 0] 32 (0, 0))) ∧ Qz (w'.heap[gb108]? = some (.cells #[u109000, .int .i64 a1_2, .int .i64 a1_3, .int .i64 a1_4] 32 (0, 0))) ∧ Qz (Below w.heap.size w w'))
    case atStart => exact ⟨(0), (0), (y105), (.slice Ao53 y105.length co53), yq23, yq23, H', ⟨Nat.le_refl _⟩, ⟨by (with_reducible repeat (first | apply Kd.R_alloc | apply Kd.R_drewN | apply Kd.R_drew)); exact Kd.R_mono (Kd.R_far (p := ⟨gb108, 3, none⟩) (Kd.R_far (p := ⟨gb108, 2, none⟩) (Kd.R_far (p := ⟨gb108, 1, none⟩) (Kd.R_far (p := ⟨gb108, 0, none⟩) (Kd.R_types HO107.out BK108.out (by decide)) (fun _ hk => hk.2) (.slice Ao53 y105.length co53)) (fun _ hk => hk.2) (.int .i64 a1_2)) (fun _ hk => hk.2) (.int .i64 a1_3)) (fun _ hk => hk.2) (.int .i64 a1_4)) (fun _ hk => trivial)⟩, ⟨by (with_reducible repeat (first | refine qb ?_ _ | refine qc ?_ | refine qa ?_ _)); refine qq ?_ NB101_108.out _; (with_reducible repeat (first | refine qb ?_ _ | refine qc ?_ | refine qa ?_ _)); refine qq ?_ NB101_108.out _; (with_reducible repeat (first | refine qb ?_ _ | refine qc ?_ | refine qa ?_ _)); refine qq ?_ NB101_108.out _; (with_reducible repeat (first | refine qb ?_ _ | refine qc ?_ | refine qa ?_ _)); refine qq ?_ NB101_108.out _; (with_reducible repeat (first | refine qb ?_ _ | refine qc ?_ | refine qa ?_ _)); exact BK101.out⟩, ⟨by (with_reducible repeat (first | refine qb ?_ _ | refine qc ?_ | refine qa ?_ _)); refine qq ?_ NB102_108.out _; (with_reducible repeat (first | refine qb ?_ _ | refine qc ?_ | refine qa ?_ _)); refine qq ?_ NB102_108.out _; (with_reducible repeat (first | refine qb ?_ _ | refine qc ?_ | refine qa ?_ _)); refine qq ?_ NB102_108.out _; (with_reducible repeat (first | refine qb ?_ _ | refine qc ?_ | refine qa ?_ _)); refine qq ?_ NB102_108.out _; (with_reducible repeat (first | refine qb ?_ _ | refine qc ?_ | refine qa ?_ _)); exact BK102.out⟩, ⟨by (with_reducible repeat (first | refine qb ?_ _ | refine qc ?_ | refine qa ?_ _)); refine qq ?_ NB103_108.out _; (with_reducible repeat (first | refine qb ?_ _ | refine qc ?_ | refine qa ?_ _)); refine qq ?_ NB103_108.out _; (with_reducible repeat (first | refine qb ?_ _ | refine qc ?_ | refine qa ?_ _)); refine qq ?_ NB103_108.out _; (with_reducible repeat (first | refine qb ?_ _ | refine qc ?_ | refine qa ?_ _)); refine qq ?_ NB103_108.out _; (with_reducible repeat (first | refine qb ?_ _ | refine qc ?_ | refine qa ?_ _)); exact BK103.out⟩, ⟨by (with_reducible repeat (first | refine qb ?_ _ | refine qc ?_ | refine qa ?_ _)); refine qt (cs := #[.slice Ao53 y105.length co53, .int .i64 a1_2, .int .i64 a1_3, .int .i64 0]) ?_ 3 _ rfl; (with_reducible repeat (first | refine qb ?_ _ | refine qc ?_ | refine qa ?_ _)); refine qt (cs := #[.slice Ao53 y105.length co53, .int .i64 a1_2, .int .i64 0, .int .i64 0]) ?_ 2 _ rfl; (with_reducible repeat (first | refine qb ?_ _ | refine qc ?_ | refine qa ?_ _)); refine qt (cs := #[.slice Ao53 y105.length co53, .int .i64 0, .int .i64 0, .int .i64 0]) ?_ 1 _ rfl; (with_reducible repeat (first | refine qb ?_ _ | refine qc ?_ | refine qa ?_ _)); refine qt (cs := #[.slice none 0 0, .int .i64 0, .int .i64 0, .int .i64 0]) ?_ 0 _ rfl; (with_reducible repeat (first | refine qb ?_ _ | refine qc ?_ | refine qa ?_ _)); exact BK108.out⟩, ⟨by repeat (first | (with_reducible first | exact HB.out | apply qi | apply qg | apply qh | refine qf ?_ GE101.out | refine qf ?_ GE102.out | refine qf ?_ GE103.out | refine qf ?_ GE108.out) | exact HB.out)⟩⟩
    case round =>
     clear H'
     (try clear c1);(try clear c2);(try clear p2);(try clear c3);(try clear c4);(try clear c5);(try clear c8);(try clear c9);(try clear c9b0);(try clear c10);(try clear c11);(try clear c14);(try clear c17);(try clear c17b0);(try clear c18);(try clear c19);(try clear c22);(try clear c25);(try clear c25b0);(try clear c26);(try clear c27);(try clear c30);(try clear c33);(try clear c34);(try clear c37);(try clear c40);(try clear c41);(try clear c44);(try clear c45);(try clear c46);(try clear c48);(try clear c49);(try clear c55);(try clear c56);(try clear c57);(try clear hcz12_0);(try clear hcz12_1);(try clear hcz12_2);(try clear hcz12_3);(try clear hcz15_0);(try clear hcz15_1);(try clear hcz15_2);(try clear hcz15_3);(try clear hcz15_4);(try clear hcz16_0);(try clear hcz16_1);(try clear hcz16_2);(try clear hcz16_3);(try clear hcz20_0);(try clear hcz20_1);(try clear hcz20_2);(try clear hcz20_3);(try clear hcz23_0);(try clear hcz23_1);(try clear hcz23_2);(try clear hcz23_3);(try clear hcz23_4);(try clear hcz24_0);(try clear hcz24_1);(try clear hcz24_2);(try clear hcz24_3);(try clear hcz28_0);(try clear hcz28_1);(try clear hcz28_2);(try clear hcz28_3);(try clear hcz31_0);(try clear hcz31_1);(try clear hcz31_2);(try clear hcz31_3);(try clear hcz31_4);(try clear hcz32_0);(try clear hcz32_1);(try clear hcz32_2);(try clear hcz32_3);(try clear hcz35_0);(try clear hcz35_1);(try clear hcz35_2);(try clear hcz35_3);(try clear hcz38_0);(try clear hcz38_1);(try clear hcz38_2);(try clear hcz38_3);(try clear hcz38_4);(try clear hcz39_0);(try clear hcz39_1);(try clear hcz39_2);(try clear hcz39_3);(try clear hcz42_0);(try clear hcz42_1);(try clear hcz42_2);(try clear hcz42_3);(try clear hcz47_0);(try clear hcz47_1);(try clear hcz47_2);(try clear hcz47_3);(try clear hcz50_0);(try clear hcz50_1);(try clear hcz50_2);(try clear hcz50_3);(try clear hcz50_4);(try clear hcz58_0);(try clear hcz58_1);(try clear hcz58_2);(try clear hcz58_3);(try clear hfz12_0);(try clear hfz12_1);(try clear hfz12_2);(try clear hfz12_3);(try clear hfz15_0);(try clear hfz15_1);(try clear hfz15_2);(try clear hfz15_3);(try clear hfz15_4);(try clear hfz16_0);(try clear hfz16_1);(try clear hfz16_2);(try clear hfz16_3);(try clear hfz20_0);(try clear hfz20_1);(try clear hfz20_2);(try clear hfz20_3);(try clear hfz23_0);(try clear hfz23_1);(try clear hfz23_2);(try clear hfz23_3);(try clear hfz23_4);(try clear hfz24_0);(try clear hfz24_1);(try clear hfz24_2);(try clear hfz24_3);(try clear hfz28_0);(try clear hfz28_1);(try clear hfz28_2);(try clear hfz28_3);(try clear hfz31_0);(try clear hfz31_1);(try clear hfz31_2);(try clear hfz31_3);(try clear hfz31_4);(try clear hfz32_0);(try clear hfz32_1);(try clear hfz32_2);(try clear hfz32_3);(try clear hfz35_0);(try clear hfz35_1);(try clear hfz35_2);(try clear hfz35_3);(try clear hfz38_0);(try clear hfz38_1);(try clear hfz38_2);(try clear hfz38_3);(try clear hfz38_4);(try clear hfz39_0);(try clear hfz39_1);(try clear hfz39_2);(try clear hfz39_3);(try clear hfz42_0);(try clear hfz42_1);(try clear hfz42_2);(try clear hfz42_3);(try clear hfz47_0);(try clear hfz47_1);(try clear hfz47_2);(try clear hfz47_3);(try clear hfz50_0);(try clear hfz50_1)
     (try clear hfz50_2);(try clear hfz50_3);(try clear hfz50_4);(try clear hfz58_0);(try clear hfz58_1);(try clear hfz58_2);(try clear hfz58_3);(try clear p2)
     obtain ⟨x7_2, x8_2, x109000_2, u109000, rfl, rfl, HA, HK2, HO_109000, BK101, BK102, BK103, BK108, HB⟩ := hrel
     cases gk with
     | zero => exact absurd HA.out (by simp [spec_Apply.l0])
     | succ k2 =>
      have H := HA.out
      clear HA
      simp only [spec_Apply.l0] at H
      by_cases c59 : x8_2 < (l0_0.length : Int)
      ·rw [if_pos c59] at H
       have c59b0 : decide (x8_2 < (l0_0.length : Int)) = true := decide_eq_true c59
       clear c59
       have H' := Qz.mk H
       clear H
       have hnb60 := NB101_102.out
       have hnc60 := NB102_101.out
       have hnb61 := NB101_103.out
       have hnc61 := NB103_101.out
       have hnb62 := NB101_108.out
       have hnc62 := NB108_101.out
       have hcz63_0 := (qd BK101.out 0).trans rfl
       have hcz63_1 := (qd BK101.out 1).trans rfl
       have hcz63_2 := (qd BK101.out 2).trans rfl
       have hcz63_3 := (qd BK101.out 3).trans rfl
       have hfz63_0 := qe BK101.out 0
       have hfz63_1 := qe BK101.out 1
       have hfz63_2 := qe BK101.out 2
       have hfz63_3 := qe BK101.out 3
       go_wp2
       go_loopg [9, 10] k2 (fun kq v9 v10 w' => ∃ (x9_3 : Bool) (x10_3 : Int), v9 = .bool x9_3 ∧ v10 = .int .i64 x10_3 ∧ Qz (spec_Apply.l1 kq x7_2 x8_2 x9_3 x10_3 l0_0 a0_1 a0_2 a0_3 l1_0 l1_1 a1_2 a1_3 a1_4 x109000_2 a1_2 a1_3 a1_4 = some (r1, r2, r3, r4, r5)) ∧ Qz (kq ≤ k2) ∧ Qz (Kd.R k66 66 w' w.heap.size (fun _ => True) u109000 x109000_2) ∧ Qz (w'.heap[gb101]? = some (.cells #[(.slice A0_0 l0_0.length c0_0), .int .i64 a0_1, .int .i64 a0_2, .int .i64 a0_3] 32 (0, 0))) ∧ Qz (w'.heap[gb102]? = some (.cells #[(.slice A1_0 l1_0.length c1_0), (.slice A1_1 l1_1.length c1_1), .int .i64 a1_2, .int .i64 a1_3, .int .i64 a1_4] 37 (0, 0))) ∧ Qz (w'.heap[gb103]? = some (.cells #[(.slice none 0 0), .int .i64 0, .int .i64 0, .int .i64 0] 32 (0, 0))) ∧ Qz (w'.heap[gb108]? = some (.cells #[u109000, .int .i64 a1_2, .int .i64 a1_3, .int .i64 a1_4] 32 (0, 0))) ∧ Qz (Below w.heap.size w w'))
       case atStart => exact ⟨(false), (0), yq23, yq23, H', ⟨Nat.le_refl _⟩, ⟨by (with_reducible repeat (first | apply Kd.R_alloc | apply Kd.R_drewN | apply Kd.R_drew)); exact HO_109000.out⟩, ⟨by (with_reducible repeat (first | refine qb ?_ _ | refine qc ?_ | refine qa ?_ _)); exact BK101.out⟩, ⟨by (with_reducible repeat (first | refine qb ?_ _ | refine qc ?_ | refine qa ?_ _)); exact BK102.out⟩, ⟨by (with_reducible repeat (first | refine qb ?_ _ | refine qc ?_ | refine qa ?_ _)); exact BK103.out⟩, ⟨by (with_reducible repeat (first | refine qb ?_ _ | refine qc ?_ | refine qa ?_ _)); exact BK108.out⟩, ⟨by repeat (first | (with_reducible first | exact HB.out | apply qi | apply qg | apply qh | refine qf ?_ GE101.out | refine qf ?_ GE102.out | refine qf ?_ GE103.out | refine qf ?_ GE108.out) | exact HB.out)⟩⟩
       case round =>
        clear H'
        (try clear c1);(try clear c2);(try clear p2);(try clear c3);(try clear c4);(try clear c5);(try clear c6);(try clear c8);(try clear c9);(try clear c9b0);(try clear c10);(try clear c11);(try clear c14);(try clear c17);(try clear c17b0);(try clear c18);(try clear c19);(try clear c22);(try clear c25);(try clear c25b0);(try clear c26);(try clear c27);(try clear c30);(try clear c33);(try clear c34);(try clear c37);(try clear c40);(try clear c41);(try clear c44);(try clear c45);(try clear c46);(try clear c48);(try clear c49);(try clear c55);(try clear c56);(try clear c57);(try clear c59);(try clear c59b0);(try clear c60);(try clear c61);(try clear c62);(try clear hcz12_0);(try clear hcz12_1);(try clear hcz12_2);(try clear hcz12_3);(try clear hcz15_0);(try clear hcz15_1);(try clear hcz15_2);(try clear hcz15_3);(try clear hcz15_4);(try clear hcz16_0);(try clear hcz16_1);(try clear hcz16_2);(try clear hcz16_3);(try clear hcz20_0);(try clear hcz20_1);(try clear hcz20_2);(try clear hcz20_3);(try clear hcz23_0);(try clear hcz23_1);(try clear hcz23_2);(try clear hcz23_3);(try clear hcz23_4);(try clear hcz24_0);(try clear hcz24_1);(try clear hcz24_2);(try clear hcz24_3);(try clear hcz28_0);(try clear hcz28_1);(try clear hcz28_2);(try clear hcz28_3);(try clear hcz31_0);(try clear hcz31_1);(try clear hcz31_2);(try clear hcz31_3);(try clear hcz31_4);(try clear hcz32_0);(try clear hcz32_1);(try clear hcz32_2);(try clear hcz32_3);(try clear hcz35_0);(try clear hcz35_1);(try clear hcz35_2);(try clear hcz35_3);(try clear hcz38_0);(try clear hcz38_1);(try clear hcz38_2);(try clear hcz38_3);(try clear hcz38_4);(try clear hcz39_0);(try clear hcz39_1);(try clear hcz39_2);(try clear hcz39_3);(try clear hcz42_0);(try clear hcz42_1);(try clear hcz42_2);(try clear hcz42_3);(try clear hcz47_0);(try clear hcz47_1);(try clear hcz47_2);(try clear hcz47_3);(try clear hcz50_0);(try clear hcz50_1);(try clear hcz50_2);(try clear hcz50_3);(try clear hcz50_4);(try clear hcz58_0);(try clear hcz58_1);(try clear hcz58_2);(try clear hcz58_3);(try clear hcz63_0);(try clear hcz63_1);(try clear hcz63_2);(try clear hcz63_3);(try clear hfz12_0);(try clear hfz12_1);(try clear hfz12_2);(try clear hfz12_3);(try clear hfz15_0);(try clear hfz15_1);(try clear hfz15_2);(try clear hfz15_3);(try clear hfz15_4);(try clear hfz16_0);(try clear hfz16_1);(try clear hfz16_2);(try clear hfz16_3);(try clear hfz20_0);(try clear hfz20_1);(try clear hfz20_2);(try clear hfz20_3);(try clear hfz23_0);(try clear hfz23_1);(try clear hfz23_2);(try clear hfz23_3);(try clear hfz23_4);(try clear hfz24_0);(try clear hfz24_1);(try clear hfz24_2);(try clear hfz24_3);(try clear hfz28_0);(try clear hfz28_1);(try clear hfz28_2);(try clear hfz28_3);(try clear hfz31_0);(try clear hfz31_1);(try clear hfz31_2);(try clear hfz31_3);(try clear hfz31_4);(try clear hfz32_0);(try clear hfz32_1);(try clear hfz32_2);(try clear hfz32_3);(try clear hfz35_0);(try clear hfz35_1);(try clear hfz35_2);(try clear hfz35_3);(try clear hfz38_0);(try clear hfz38_1);(try clear hfz38_2);(try clear hfz38_3);(try clear hfz38_4);(try clear hfz39_0);(try clear hfz39_1);(try clear hfz39_2);(try clear hfz39_3);(try clear hfz42_0)
        (try clear hfz42_1);(try clear hfz42_2);(try clear hfz42_3);(try clear hfz47_0);(try clear hfz47_1);(try clear hfz47_2);(try clear hfz47_3);(try clear hfz50_0);(try clear hfz50_1);(try clear hfz50_2);(try clear hfz50_3);(try clear hfz50_4);(try clear hfz58_0);(try clear hfz58_1);(try clear hfz58_2);(try clear hfz58_3);(try clear hfz63_0);(try clear hfz63_1);(try clear hfz63_2);(try clear hfz63_3);(try clear p2)
        obtain ⟨x9_3, x10_3, rfl, rfl, HA, HK3, HO_109000, BK101, BK102, BK103, BK108, HB⟩ := hrel
        cases gk with
        | zero => exact absurd HA.out (by simp [spec_Apply.l1])
        | succ k3 =>
         have H := HA.out
         clear HA
         simp only [spec_Apply.l1] at H
         by_cases c64 : x10_3 < (l1_1.length : Int)
         ·rw [if_pos c64] at H
          have c64b0 : decide (x10_3 < (l1_1.length : Int)) = true := decide_eq_true c64
          clear c64
          by_cases c65 : x9_3 = true
          ·subst c65
           have H1 : (spec_Apply.l1 k3 x7_2 x8_2 true (wrap64 (x10_3 + 1)) l0_0 a0_1 a0_2 a0_3 l1_0 l1_1 a1_2 a1_3 a1_4 x109000_2 a1_2 a1_3 a1_4) = some (r1, r2, r3, r4, r5) := by rw [if_pos rfl] at H; exact H
           clear H
           have H := H1
           clear H1
           have H' := Qz.mk H
           clear H
           have hnb66 := NB102_101.out
           have hnc66 := NB101_102.out
           have hnb67 := NB102_103.out
           have hnc67 := NB103_102.out
           have hnb68 := NB102_108.out
           have hnc68 := NB108_102.out
           have hcz69_0 := (qd BK102.out 0).trans rfl
           have hcz69_1 := (qd BK102.out 1).trans rfl
           have hcz69_2 := (qd BK102.out 2).trans rfl
           have hcz69_3 := (qd BK102.out 3).trans rfl
           have hcz69_4 := (qd BK102.out 4).trans rfl
           have hfz69_0 := qe BK102.out 0
           have hfz69_1 := qe BK102.out 1
           have hfz69_2 := qe BK102.out 2
           have hfz69_3 := qe BK102.out 3
           have hfz69_4 := qe BK102.out 4
           try go_wp2
           replace HO_109000 := Qz.mk (Kd.R_drew HO_109000.out)
           replace BK101 := Qz.mk (qc BK101.out)
           replace BK102 := Qz.mk (qc BK102.out)
           replace BK103 := Qz.mk (qc BK103.out)
           replace BK108 := Qz.mk (qc BK108.out)
           replace HB := Qz.mk (qh HB.out)
           refine start_ (n := 16) (S := fun w' => True) (ds := []) bq1 (by kernel_rfl) rfl rfl trivial (fun hHeld => ?_); refine with_tabW spec_Apply.tab12 spec_Apply.bits12 (fun HT_ HW_ => ?_)
           generalize wr.drew = w70 at HO_109000 BK101 BK102 BK103 BK108 HB hHeld ⊢
           refine pure_ (i := 0) (N := some 67) (v := ?_) (a' := ?_) bq6 rfl rfl (qz HT_.out (by kernel_rfl)) (fun _ _ _ h => h) (Or.inl ⟨by rfl, ?_⟩) ?_ ?_
           rotate_left
           ·intro w'
            go_simp
            with_reducible rfl
           rotate_left
           ·simp only [Act.put, sq1, sq2, sq3, i64_w, i32_w]
            rfl
           refine pure_ (i := 1) (N := some 68) (v := ?_) (a' := ?_) bq10 rfl rfl (qz HT_.out (by kernel_rfl)) (fun _ _ _ h => h) (Or.inl ⟨by rfl, ?_⟩) ?_ ?_
           rotate_left
           ·intro w'
            go_simp
            with_reducible rfl
           rotate_left
           ·simp only [Act.put, sq1, sq2, sq3, i64_w, i32_w]
            rfl
           refine pure_ (i := 2) (N := some 69) (v := undef) (a' := ?_) bq13 rfl rfl (qz HT_.out (by kernel_rfl)) (fun _ _ _ h => h) (Or.inr ⟨by rfl, rfl⟩) ?_ ?_
           rotate_left
           ·simp only [Act.put, sq1, sq2, sq3, i64_w, i32_w]
            rfl
           refine pure_ (i := 3) (N := some 70) (v := undef) (a' := ?_) #[true, true, true, true, false, false, false, false, false, false, false, false, false, false, false, false] rfl rfl (qz HT_.out (by kernel_rfl)) (fun _ _ _ h => h) (Or.inr ⟨by rfl, rfl⟩) ?_ ?_
           rotate_left
           ·simp only [Act.put, sq1, sq2, sq3, i64_w, i32_w]
            rfl
           refine pure_ (i := 4) (N := some 71) (v := undef) (a' := ?_) #[true, true, true, true, true, false, false, false, false, false, false, false, false, false, false, false] rfl rfl (qz HT_.out (by kernel_rfl)) (fun _ _ _ h => h) (Or.inr ⟨by rfl, rfl⟩) ?_ ?_
           rotate_left
           ·simp only [Act.put, sq1, sq2, sq3, i64_w, i32_w]
            rfl
           refine pure_ (i := 5) (N := some 72) (v := undef) (a' := ?_) bq26 rfl rfl (qz HT_.out (by kernel_rfl)) (fun _ _ _ h => h) (Or.inr ⟨by rfl, rfl⟩) ?_ ?_
           rotate_left
           ·simp only [Act.put, sq1, sq2, sq3, i64_w, i32_w]
            rfl
           refine pure_ (i := 6) (N := some 73) (v := undef) (a' := ?_) bq31 rfl rfl (qz HT_.out (by kernel_rfl)) (fun _ _ _ h => h) (Or.inr ⟨by rfl, rfl⟩) ?_ ?_
           rotate_left
           ·simp only [Act.put, sq1, sq2, sq3, i64_w, i32_w]
            rfl
           refine pure_ (i := 7) (N := some 74) (v := undef) (a' := ?_) bq38 rfl rfl (qz HT_.out (by kernel_rfl)) (fun _ _ _ h => h) (Or.inr ⟨by rfl, rfl⟩) ?_ ?_
           rotate_left
           ·simp only [Act.put, sq1, sq2, sq3, i64_w, i32_w]
            rfl
           refine pure_ (i := 8) (N := some 75) (v := undef) (a' := ?_) bq41 rfl rfl (qz HT_.out (by kernel_rfl)) (fun _ _ _ h => h) (Or.inr ⟨by rfl, rfl⟩) ?_ ?_
           rotate_left
           ·simp only [Act.put, sq1, sq2, sq3, i64_w, i32_w]
            rfl
           refine pure_ (i := 9) (N := some 76) (v := undef) (a' := ?_) bq45 rfl rfl (qz HT_.out (by kernel_rfl)) (fun _ _ _ h => h) (Or.inr ⟨by rfl, rfl⟩) ?_ ?_
           rotate_left
           ·simp only [Act.put, sq1, sq2, sq3, i64_w, i32_w]
            rfl
           refine pure_ (i := 10) (N := some 77) (v := undef) (a' := ?_) bq48 rfl rfl (qz HT_.out (by kernel_rfl)) (fun _ _ _ h => h) (Or.inr ⟨by rfl, rfl⟩) ?_ ?_
           rotate_left
           ·simp only [Act.put, sq1, sq2, sq3, i64_w, i32_w]
            rfl
           refine pure_ (i := 11) (N := some 78) (v := undef) (a' := ?_) bq49 rfl rfl (qz HT_.out (by kernel_rfl)) (fun _ _ _ h => h) (Or.inr ⟨by rfl, rfl⟩) ?_ ?_
           rotate_left
           ·simp only [Act.put, sq1, sq2, sq3, i64_w, i32_w]
            rfl
           refine pure_ (i := 12) (N := some 79) (v := undef) (a' := ?_) bq52 rfl rfl (qz HT_.out (by kernel_rfl)) (fun _ _ _ h => h) (Or.inr ⟨by rfl, rfl⟩) ?_ ?_
           rotate_left
           ·simp only [Act.put, sq1, sq2, sq3, i64_w, i32_w]
            rfl
           refine pure_ (i := 13) (N := some 80) (v := undef) (a' := ?_) bq54 rfl rfl (qz HT_.out (by kernel_rfl)) (fun _ _ _ h => h) (Or.inr ⟨by rfl, rfl⟩) ?_ ?_
           rotate_left
           ·simp only [Act.put, sq1, sq2, sq3, i64_w, i32_w]
            rfl
           refine pure_ (i := 14) (N := some 81) (v := ?_) (a' := ?_) bq57 rfl rfl (qz HT_.out (by kernel_rfl)) (fun _ _ _ h => h) (Or.inl ⟨by rfl, ?_⟩) ?_ ?_
           rotate_left
           ·intro w'
            go_simp
            with_reducible rfl
           rotate_left
           ·simp only [Act.put, sq1, sq2, sq3, i64_w, i32_w]
            rfl
           refine pure_ (i := 15) (N := some 9) (v := ?_) (a' := ?_) bq61 rfl rfl (qz HT_.out (by kernel_rfl)) (fun _ _ _ h => h) (Or.inl ⟨by rfl, ?_⟩) ?_ ?_
           rotate_left
           ·intro w'
            go_simp
            with_reducible rfl
           rotate_left
           ·simp only [Act.put, sq1, sq2, sq3, i64_w, i32_w]
            rfl
           refine done_ (done_of HT_.out (by kernel_rfl)) ?_
           try go_wp2
           go_roundg k3
           case measure => have := HJ2.out; have := HK2.out; have := HK3.out; omega
           case rel => exact ⟨(true), (wrap64 (x10_3 + 1)), yq23, yq23, H', ⟨by have := HJ2.out; have := HK2.out; have := HK3.out; omega⟩, ⟨by (with_reducible repeat (first | apply Kd.R_alloc | apply Kd.R_drewN | apply Kd.R_drew)); exact HO_109000.out⟩, ⟨by (with_reducible repeat (first | refine qb ?_ _ | refine qc ?_ | refine qa ?_ _)); exact BK101.out⟩, ⟨by (with_reducible repeat (first | refine qb ?_ _ | refine qc ?_ | refine qa ?_ _)); exact BK102.out⟩, ⟨by (with_reducible repeat (first | refine qb ?_ _ | refine qc ?_ | refine qa ?_ _)); exact BK103.out⟩, ⟨by (with_reducible repeat (first | refine qb ?_ _ | refine qc ?_ | refine qa ?_ _)); exact BK108.out⟩, ⟨by repeat (first | (with_reducible first | exact HB.out | apply qi | apply qg | apply qh | refine qf ?_ GE101.out | refine qf ?_ GE102.out | refine qf ?_ GE103.out | refine qf ?_ GE108.out) | exact HB.out)⟩⟩
          ·replace c65 := Bool.eq_false_iff.mpr c65
           subst c65
           have H1 : (if 0 ≤ x10_3 then (if 0 ≤ x8_2 then (if x8_2 < (l0_0.length : Int) then (spec_Apply.l1 k3 x7_2 x8_2 ((rd l1_1 x10_3) == ((qm l0_0 x8_2).f0)) (wrap64 (x10_3 + 1)) l0_0 a0_1 a0_2 a0_3 l1_0 l1_1 a1_2 a1_3 a1_4 x109000_2 a1_2 a1_3 a1_4) else (none)) else (none)) else (none)) = some (r1, r2, r3, r4, r5) := by rw [if_neg (show ¬ (false = true) by decide)] at H; exact H
           clear H
           have H := H1
           clear H1
           by_cases c71 : 0 ≤ x10_3
           ·rw [if_pos c71] at H
            have c71b0 : decide (0 ≤ x10_3) = true := decide_eq_true c71
            clear c71
            by_cases c72 : 0 ≤ x8_2
            ·rw [if_pos c72] at H
             have c72b0 : decide (0 ≤ x8_2) = true := decide_eq_true c72
             clear c72
             by_cases c73 : x8_2 < (l0_0.length : Int)
             ·rw [if_pos c73] at H
              have c73b0 : decide (x8_2 < (l0_0.length : Int)) = true := decide_eq_true c73
              clear c73
              have H' := Qz.mk H
              clear H
              have hnb74 := NB102_101.out
              have hnc74 := NB101_102.out
              have hnb75 := NB102_103.out
              have hnc75 := NB103_102.out
              have hnb76 := NB102_108.out
              have hnc76 := NB108_102.out
              have hcz77_0 := (qd BK102.out 0).trans rfl
              have hcz77_1 := (qd BK102.out 1).trans rfl
              have hcz77_2 := (qd BK102.out 2).trans rfl
              have hcz77_3 := (qd BK102.out 3).trans rfl
              have hcz77_4 := (qd BK102.out 4).trans rfl
              have hfz77_0 := qe BK102.out 0
              have hfz77_1 := qe BK102.out 1
              have hfz77_2 := qe BK102.out 2
              have hfz77_3 := qe BK102.out 3
              have hfz77_4 := qe BK102.out 4
              try go_wp2
              replace HO_109000 := Qz.mk (Kd.R_drew HO_109000.out)
              replace BK101 := Qz.mk (qc BK101.out)
              replace BK102 := Qz.mk (qc BK102.out)
              replace BK103 := Qz.mk (qc BK103.out)
              replace BK108 := Qz.mk (qc BK108.out)
              replace HB := Qz.mk (qh HB.out)
              have p109 : 0 ≤ (x10_3 : Int) := of_decide_eq_true yq20
              have q109 : x10_3 < (l1_1.length : Int) := of_decide_eq_true yq20
              obtain ⟨ad109, e109, hx109_0⟩ := Kd.at_int HR1_1.out x10_3 p109 q109
              have hw109_0 := hx109_0
              cases e109
              replace hx109_0 := (HB.out.cell (World.block_lt_of_cell? w _ hx109_0)).trans hx109_0
              replace p109 := eq_true p109
              replace q109 := eq_true q109
              have p110 : 0 ≤ (x8_2 : Int) := of_decide_eq_true yq20
              have q110 : x8_2 < (l0_0.length : Int) := of_decide_eq_true yq20
              obtain ⟨ad110, e110, hx110_0, hx110_1, hx110_2, hx110_3, hx110_4⟩ := at_T66 HR0_0.out x8_2 p110 q110
              have hw110_4 := hx110_4
              have hw110_3 := hx110_3
              have hw110_2 := hx110_2
              have hw110_1 := hx110_1
              have hw110_0 := hx110_0
              cases e110
              replace hx110_0 := (HB.out.cell (World.block_lt_of_cell? w _ hx110_0)).trans hx110_0
              replace hx110_1 := (HB.out.cell (World.block_lt_of_cell? w _ hx110_1)).trans hx110_1
              replace hx110_2 := (HB.out.cell (World.block_lt_of_cell? w _ hx110_2)).trans hx110_2
              replace hx110_3 := (HB.out.cell (World.block_lt_of_cell? w _ hx110_3)).trans hx110_3
              replace hx110_4 := (HB.out.cell (World.block_lt_of_cell? w _ hx110_4)).trans hx110_4
              replace p110 := eq_true p110
              replace q110 := eq_true q110
              refine start_ (n := 16) (S := fun w' => w'.cell? ⟨gb102, 0, none⟩ = some (.slice A1_0 l1_0.length c1_0) ∧ w'.cell? ⟨gb102, 1, none⟩ = some (.slice (some ad109) l1_1.length c1_1) ∧ w'.cell? ⟨gb102, 2, none⟩ = some (.int .i64 a1_2) ∧ w'.cell? ⟨gb102, 3, none⟩ = some (.int .i64 a1_3) ∧ w'.cell? ⟨gb102, 4, none⟩ = some (.int .i64 a1_4) ∧ w'.cell? ⟨gb101, 0, none⟩ = some (.slice (some ad110) l0_0.length c0_0) ∧ w'.cell? ⟨gb101, 1, none⟩ = some (.int .i64 a0_1) ∧ w'.cell? ⟨gb101, 2, none⟩ = some (.int .i64 a0_2) ∧ w'.cell? ⟨gb101, 3, none⟩ = some (.int .i64 a0_3) ∧ w'.cell? (ad109.add (x10_3).toNat) = some (.int .i64 (rd l1_1 x10_3)) ∧ w'.cell? (ad110.add ((x8_2).toNat * 5)) = some (.int .i64 ((qm l0_0 x8_2).f0)) ∧ w'.cell? ⟨(ad110.add ((x8_2).toNat * 5)).block, (ad110.add ((x8_2).toNat * 5)).off + 1, none⟩ = some (.int .i64 ((qm l0_0 x8_2).f1)) ∧ w'.cell? ⟨(ad110.add ((x8_2).toNat * 5)).block, (ad110.add ((x8_2).toNat * 5)).off + 2, none⟩ = some (.string ((qm l0_0 x8_2).f2)) ∧ w'.cell? ⟨(ad110.add ((x8_2).toNat * 5)).block, (ad110.add ((x8_2).toNat * 5)).off + 3, none⟩ = some (.string ((qm l0_0 x8_2).f3)) ∧ w'.cell? ⟨(ad110.add ((x8_2).toNat * 5)).block, (ad110.add ((x8_2).toNat * 5)).off + 4, none⟩ = some (.int .i64 ((qm l0_0 x8_2).f4))) (ds := []) bq1 (by kernel_rfl) rfl rfl ⟨(qd BK102.out 0).trans rfl, (qd BK102.out 1).trans rfl, (qd BK102.out 2).trans rfl, (qd BK102.out 3).trans rfl, (qd BK102.out 4).trans rfl, (qd BK101.out 0).trans rfl, (qd BK101.out 1).trans rfl, (qd BK101.out 2).trans rfl, (qd BK101.out 3).trans rfl, ((HB.out.cell (World.block_lt_of_cell? w _ hw109_0)).trans hw109_0), ((HB.out.cell (World.block_lt_of_cell? w _ hw110_0)).trans hw110_0), ((HB.out.cell (World.block_lt_of_cell? w _ hw110_1)).trans hw110_1), ((HB.out.cell (World.block_lt_of_cell? w _ hw110_2)).trans hw110_2), ((HB.out.cell (World.block_lt_of_cell? w _ hw110_3)).trans hw110_3), ((HB.out.cell (World.block_lt_of_cell? w _ hw110_4)).trans hw110_4)⟩ (fun hHeld => ?_); refine with_tabW spec_Apply.tab12 spec_Apply.bits12 (fun HT_ HW_ => ?_)
              generalize wr.drew = w78 at HO_109000 BK101 BK102 BK103 BK108 HB hx109_0 hx110_0 hx110_1 hx110_2 hx110_3 hx110_4 hHeld ⊢
              refine pure_ (i := 0) (N := some 67) (v := ?_) (a' := ?_) bq6 rfl rfl (qz HT_.out (by kernel_rfl)) (fun _ _ _ h => h) (Or.inl ⟨by rfl, ?_⟩) ?_ ?_
              rotate_left
              ·intro w'
               go_simp
               with_reducible rfl
              rotate_left
              ·simp only [Act.put, sq1, sq2, sq3, i64_w, i32_w]
               rfl
              refine pure_ (i := 1) (N := some 68) (v := ?_) (a' := ?_) bq10 rfl rfl (qz HT_.out (by kernel_rfl)) (fun _ _ _ h => h) (Or.inl ⟨by rfl, ?_⟩) ?_ ?_
              rotate_left
              ·intro w'
               go_simp
               with_reducible rfl
              rotate_left
              ·simp only [Act.put, sq1, sq2, sq3, i64_w, i32_w]
               rfl
              refine pure_ (i := 2) (N := some 69) (v := ?_) (a' := ?_) bq13 rfl rfl (qz HT_.out (by kernel_rfl)) (fun _ _ _ h => h) (Or.inl ⟨by rfl, ?_⟩) ?_ ?_
              rotate_left
              ·intro w'
               go_simp
               with_reducible rfl
              rotate_left
              ·simp only [Act.put, sq1, sq2, sq3, i64_w, i32_w]
               rfl
              refine pure_ (i := 4) (N := some 71) (v := ?_) (a' := ?_) #[true, true, true, false, true, false, false, false, false, false, false, false, false, false, false, false] rfl rfl (qz HT_.out (by kernel_rfl)) (fun _ _ _ h => h) (Or.inl ⟨by rfl, ?_⟩) ?_ ?_
              rotate_left
              ·intro w'
               go_simp
               with_reducible rfl
              rotate_left
              ·simp only [Act.put, sq1, sq2, sq3, i64_w, i32_w]
               rfl
              refine pure_ (i := 7) (N := some 74) (v := ?_) (a' := ?_) #[true, true, true, false, true, false, false, true, false, false, false, false, false, false, false, false] rfl rfl (qz HT_.out (by kernel_rfl)) (fun _ _ _ h => h) (Or.inl ⟨by rfl, ?_⟩) ?_ ?_
              rotate_left
              ·intro w'
               go_simp
               with_reducible rfl
              rotate_left
              ·simp only [Act.put, sq1, sq2, sq3, i64_w, i32_w]
               rfl
              refine pure_ (i := 9) (N := some 76) (v := ?_) (a' := ?_) #[true, true, true, false, true, false, false, true, false, true, false, false, false, false, false, false] rfl rfl (qz HT_.out (by kernel_rfl)) (fun _ _ _ h => h) (Or.inl ⟨by rfl, ?_⟩) ?_ ?_
              rotate_left
              ·intro w'
               go_simp
               with_reducible rfl
              rotate_left
              ·simp only [Act.put, sq1, sq2, sq3, i64_w, i32_w]
               rfl
              refine take_ (i := 3) (N := some 70) (v := ?_) (a' := ?_) #[true, true, true, true, true, false, false, true, false, true, false, false, false, false, false, false] rfl rfl (take_ofW HT_.out HW_.out (by kernel_rfl)) (fun _ _ _ h => h) (Or.inl ⟨by rfl, ?_⟩) hHeld ?_ ?_
              rotate_left
              ·rintro w' ⟨s0, s1, s2, s3, s4, s5, s6, s7, s8, s9, s10, s11, s12, s13, s14⟩
               go_simp
               with_reducible rfl
              rotate_left
              ·simp only [Act.put, sq1, sq2, sq3, i64_w, i32_w]
               rfl
              refine pure_ (i := 5) (N := some 72) (v := ?_) (a' := ?_) #[true, true, true, true, true, true, false, true, false, true, false, false, false, false, false, false] rfl rfl (qz HT_.out (by kernel_rfl)) (fun _ _ _ h => h) (Or.inl ⟨by rfl, ?_⟩) ?_ ?_
              rotate_left
              ·intro w'
               go_simp
               with_reducible rfl
              rotate_left
              ·simp only [Act.put, sq1, sq2, sq3, i64_w, i32_w]
               rfl
              refine take_ (i := 6) (N := some 73) (v := ?_) (a' := ?_) #[true, true, true, true, true, true, true, true, false, true, false, false, false, false, false, false] rfl rfl (take_ofW HT_.out HW_.out (by kernel_rfl)) (fun _ _ _ h => h) (Or.inl ⟨by rfl, ?_⟩) hHeld ?_ ?_
              rotate_left
              ·rintro w' ⟨s0, s1, s2, s3, s4, s5, s6, s7, s8, s9, s10, s11, s12, s13, s14⟩
               go_simp
               with_reducible rfl
              rotate_left
              ·simp only [Act.put, sq1, sq2, sq3, i64_w, i32_w]
               rfl
              refine take_ (i := 8) (N := some 75) (v := ?_) (a' := ?_) bq45 rfl rfl (take_ofW HT_.out HW_.out (by kernel_rfl)) (fun _ _ _ h => h) (Or.inl ⟨by rfl, ?_⟩) hHeld ?_ ?_
              rotate_left
              ·rintro w' ⟨s0, s1, s2, s3, s4, s5, s6, s7, s8, s9, s10, s11, s12, s13, s14⟩
               go_simp
               with_reducible rfl
              rotate_left
              ·simp only [Act.put, sq1, sq2, sq3, i64_w, i32_w]
               rfl
              refine pure_ (i := 10) (N := some 77) (v := ?_) (a' := ?_) bq48 rfl rfl (qz HT_.out (by kernel_rfl)) (fun _ _ _ h => h) (Or.inl ⟨by rfl, ?_⟩) ?_ ?_
              rotate_left
              ·intro w'
               go_simp
               with_reducible rfl
              rotate_left
              ·simp only [Act.put, sq1, sq2, sq3, i64_w, i32_w]
               rfl
              refine pure_ (i := 11) (N := some 78) (v := ?_) (a' := ?_) bq49 rfl rfl (qz HT_.out (by kernel_rfl)) (fun _ _ _ h => h) (Or.inl ⟨by rfl, ?_⟩) ?_ ?_
              rotate_left
              ·intro w'
               go_simp
               with_reducible rfl
              rotate_left
              ·simp only [Act.put, sq1, sq2, sq3, i64_w, i32_w]
               rfl
              refine take_ (i := 12) (N := some 79) (v := ?_) (a' := ?_) bq52 rfl rfl (take_ofW HT_.out HW_.out (by kernel_rfl)) (fun _ _ _ h => h) (Or.inl ⟨by rfl, ?_⟩) hHeld ?_ ?_
              rotate_left
              ·rintro w' ⟨s0, s1, s2, s3, s4, s5, s6, s7, s8, s9, s10, s11, s12, s13, s14⟩
               go_simp
               with_reducible rfl
              rotate_left
              ·simp only [Act.put, sq1, sq2, sq3, i64_w, i32_w]
               rfl
              refine pure_ (i := 13) (N := some 80) (v := ?_) (a' := ?_) bq54 rfl rfl (qz HT_.out (by kernel_rfl)) (fun _ _ _ h => h) (Or.inl ⟨by rfl, ?_⟩) ?_ ?_
              rotate_left
              ·intro w'
               go_simp
               with_reducible rfl
              rotate_left
              ·simp only [Act.put, sq1, sq2, sq3, i64_w, i32_w]
               rfl
              refine pure_ (i := 14) (N := some 81) (v := ?_) (a' := ?_) bq57 rfl rfl (qz HT_.out (by kernel_rfl)) (fun _ _ _ h => h) (Or.inl ⟨by rfl, ?_⟩) ?_ ?_
              rotate_left
              ·intro w'
               go_simp
               with_reducible rfl
              rotate_left
              ·simp only [Act.put, sq1, sq2, sq3, i64_w, i32_w]
               rfl
              refine pure_ (i := 15) (N := some 9) (v := ?_) (a' := ?_) bq61 rfl rfl (qz HT_.out (by kernel_rfl)) (fun _ _ _ h => h) (Or.inl ⟨by rfl, ?_⟩) ?_ ?_
              rotate_left
              ·intro w'
               go_simp
               with_reducible rfl
              rotate_left
              ·simp only [Act.put, sq1, sq2, sq3, i64_w, i32_w]
               rfl
              refine done_ (done_of HT_.out (by kernel_rfl)) ?_
              try go_wp2
              go_roundg k3
              case measure => have := HJ2.out; have := HK2.out; have := HK3.out; omega
              case rel => exact ⟨(((rd l1_1 x10_3) == ((qm l0_0 x8_2).f0))), (wrap64 (x10_3 + 1)), yq23, yq23, H', ⟨by have := HJ2.out; have := HK2.out; have := HK3.out; omega⟩, ⟨by (with_reducible repeat (first | apply Kd.R_alloc | apply Kd.R_drewN | apply Kd.R_drew)); exact HO_109000.out⟩, ⟨by (with_reducible repeat (first | refine qb ?_ _ | refine qc ?_ | refine qa ?_ _)); exact BK101.out⟩, ⟨by (with_reducible repeat (first | refine qb ?_ _ | refine qc ?_ | refine qa ?_ _)); exact BK102.out⟩, ⟨by (with_reducible repeat (first | refine qb ?_ _ | refine qc ?_ | refine qa ?_ _)); exact BK103.out⟩, ⟨by (with_reducible repeat (first | refine qb ?_ _ | refine qc ?_ | refine qa ?_ _)); exact BK108.out⟩, ⟨by repeat (first | (with_reducible first | exact HB.out | apply qi | apply qg | apply qh | refine qf ?_ GE101.out | refine qf ?_ GE102.out | refine qf ?_ GE103.out | refine qf ?_ GE108.out) | exact HB.out)⟩⟩
             ·rw [if_neg c73] at H
              exact absurd H (by simp)
            ·rw [if_neg c72] at H
             exact absurd H (by simp)
           ·rw [if_neg c71] at H
            exact absurd H (by simp)
         ·rw [if_neg c64] at H
          have c64b0 : decide (x10_3 < (l1_1.length : Int)) = false := decide_eq_false c64
          clear c64
          by_cases c79 : x9_3 = true
          ·subst c79
           have H1 : (spec_Apply.l0 k3 (wrap64 (x7_2 + 1)) (wrap64 (x8_2 + 1)) l0_0 a0_1 a0_2 a0_3 l1_0 l1_1 a1_2 a1_3 a1_4 x109000_2 a1_2 a1_3 a1_4) = some (r1, r2, r3, r4, r5) := by rw [if_pos rfl] at H; exact H
           clear H
           have H := H1
           clear H1
           have H' := Qz.mk H
           clear H
           have hnb80 := NB102_101.out
           have hnc80 := NB101_102.out
           have hnb81 := NB102_103.out
           have hnc81 := NB103_102.out
           have hnb82 := NB102_108.out
           have hnc82 := NB108_102.out
           have hcz83_0 := (qd BK102.out 0).trans rfl
           have hcz83_1 := (qd BK102.out 1).trans rfl
           have hcz83_2 := (qd BK102.out 2).trans rfl
           have hcz83_3 := (qd BK102.out 3).trans rfl
           have hcz83_4 := (qd BK102.out 4).trans rfl
           have hfz83_0 := qe BK102.out 0
           have hfz83_1 := qe BK102.out 1
           have hfz83_2 := qe BK102.out 2
           have hfz83_3 := qe BK102.out 3
           have hfz83_4 := qe BK102.out 4
           go_wp2
           go_roundg k3
           case measure => have := HJ2.out; have := HK2.out; have := HK3.out; omega
           case rel => exact ⟨(wrap64 (x7_2 + 1)), (wrap64 (x8_2 + 1)), (x109000_2), (u109000), yq23, yq23, H', ⟨by have := HJ2.out; have := HK2.out; have := HK3.out; omega⟩, ⟨by (with_reducible repeat (first | apply Kd.R_alloc | apply Kd.R_drewN | apply Kd.R_drew)); exact HO_109000.out⟩, ⟨by (with_reducible repeat (first | refine qb ?_ _ | refine qc ?_ | refine qa ?_ _)); exact BK101.out⟩, ⟨by (with_reducible repeat (first | refine qb ?_ _ | refine qc ?_ | refine qa ?_ _)); exact BK102.out⟩, ⟨by (with_reducible repeat (first | refine qb ?_ _ | refine qc ?_ | refine qa ?_ _)); exact BK103.out⟩, ⟨by (with_reducible repeat (first | refine qb ?_ _ | refine qc ?_ | refine qa ?_ _)); exact BK108.out⟩, ⟨by repeat (first | (with_reducible first | exact HB.out | apply qi | apply qg | apply qh | refine qf ?_ GE101.out | refine qf ?_ GE102.out | refine qf ?_ GE103.out | refine qf ?_ GE108.out) | exact HB.out)⟩⟩
          ·replace c79 := Bool.eq_false_iff.mpr c79
           subst c79
           have H1 : (if 0 ≤ x8_2 then (if x8_2 < (l0_0.length : Int) then (if x109000_2.length < 2513169434916 then (spec_Apply.l0 k3 x7_2 (wrap64 (x8_2 + 1)) l0_0 a0_1 a0_2 a0_3 l1_0 l1_1 a1_2 a1_3 a1_4 (x109000_2 ++ [(⟨(qm l0_0 x8_2).f0, (qm l0_0 x8_2).f1, (qm l0_0 x8_2).f2, (qm l0_0 x8_2).f3, (qm l0_0 x8_2).f4⟩ : S66)]) a1_2 a1_3 a1_4) else (none)) else (none)) else (none)) = some (r1, r2, r3, r4, r5) := by rw [if_neg (show ¬ (false = true) by decide)] at H; exact H
           clear H
           have H := H1
           clear H1
           by_cases c84 : 0 ≤ x8_2
           ·rw [if_pos c84] at H
            have c84b0 : decide (0 ≤ x8_2) = true := decide_eq_true c84
            clear c84
            by_cases c85 : x8_2 < (l0_0.length : Int)
            ·rw [if_pos c85] at H
             have c85b0 : decide (x8_2 < (l0_0.length : Int)) = true := decide_eq_true c85
             clear c85
             by_cases c86 : x109000_2.length < 2513169434916
             ·rw [if_pos c86] at H
              have LMc86 := Qz.mk c86
              clear c86
              obtain ⟨y112, hy112⟩ : ∃ y_ : List (S66), y_ = (x109000_2 ++ [(⟨(qm l0_0 x8_2).f0, (qm l0_0 x8_2).f1, (qm l0_0 x8_2).f2, (qm l0_0 x8_2).f3, (qm l0_0 x8_2).f4⟩ : S66)]) := ⟨_, rfl⟩
              replace H : (spec_Apply.l0 k3 x7_2 (wrap64 (x8_2 + 1)) l0_0 a0_1 a0_2 a0_3 l1_0 l1_1 a1_2 a1_3 a1_4 y112 a1_2 a1_3 a1_4) = some (r1, r2, r3, r4, r5) := by first | (rw [hy112]; with_reducible exact H) | (have H2_ := (Option.bind_some _ _).symm.trans H; rw [hy112]; with_reducible exact H2_) | (have H2_ := (Option.bind_some _ _).symm.trans H; with_reducible exact H2_) | with_reducible exact H | (rw [hy112]; exact H) | exact H
              have Ny112 := Qz.mk hy112
              clear hy112
              have H' := Qz.mk H
              clear H
              have hnb87 := NB102_101.out
              have hnc87 := NB101_102.out
              have hnb88 := NB102_103.out
              have hnc88 := NB103_102.out
              have hnb89 := NB102_108.out
              have hnc89 := NB108_102.out
              have hcz90_0 := (qd BK102.out 0).trans rfl
              have hcz90_1 := (qd BK102.out 1).trans rfl
              have hcz90_2 := (qd BK102.out 2).trans rfl
              have hcz90_3 := (qd BK102.out 3).trans rfl
              have hcz90_4 := (qd BK102.out 4).trans rfl
              have hfz90_0 := qe BK102.out 0
              have hfz90_1 := qe BK102.out 1
              have hfz90_2 := qe BK102.out 2
              have hfz90_3 := qe BK102.out 3
              have hfz90_4 := qe BK102.out 4
              try go_wp2
              replace HO_109000 := Qz.mk (Kd.R_drew HO_109000.out)
              replace BK101 := Qz.mk (qc BK101.out)
              replace BK102 := Qz.mk (qc BK102.out)
              replace BK103 := Qz.mk (qc BK103.out)
              replace BK108 := Qz.mk (qc BK108.out)
              replace HB := Qz.mk (qh HB.out)
              have p111 : 0 ≤ (x8_2 : Int) := of_decide_eq_true yq20
              have q111 : x8_2 < (l0_0.length : Int) := of_decide_eq_true yq20
              obtain ⟨ad111, e111, hx111_0, hx111_1, hx111_2, hx111_3, hx111_4⟩ := at_T66 HR0_0.out x8_2 p111 q111
              have hw111_4 := hx111_4
              have hw111_3 := hx111_3
              have hw111_2 := hx111_2
              have hw111_1 := hx111_1
              have hw111_0 := hx111_0
              cases e111
              replace hx111_0 := (HB.out.cell (World.block_lt_of_cell? w _ hx111_0)).trans hx111_0
              replace hx111_1 := (HB.out.cell (World.block_lt_of_cell? w _ hx111_1)).trans hx111_1
              replace hx111_2 := (HB.out.cell (World.block_lt_of_cell? w _ hx111_2)).trans hx111_2
              replace hx111_3 := (HB.out.cell (World.block_lt_of_cell? w _ hx111_3)).trans hx111_3
              replace hx111_4 := (HB.out.cell (World.block_lt_of_cell? w _ hx111_4)).trans hx111_4
              replace p111 := eq_true p111
              replace q111 := eq_true q111
              refine start_ (n := 11) (S := fun w' => w'.cell? ⟨gb108, 0, none⟩ = some (u109000) ∧ w'.cell? ⟨gb108, 1, none⟩ = some (.int .i64 a1_2) ∧ w'.cell? ⟨gb108, 2, none⟩ = some (.int .i64 a1_3) ∧ w'.cell? ⟨gb108, 3, none⟩ = some (.int .i64 a1_4) ∧ w'.cell? ⟨gb101, 0, none⟩ = some (.slice (some ad111) l0_0.length c0_0) ∧ w'.cell? ⟨gb101, 1, none⟩ = some (.int .i64 a0_1) ∧ w'.cell? ⟨gb101, 2, none⟩ = some (.int .i64 a0_2) ∧ w'.cell? ⟨gb101, 3, none⟩ = some (.int .i64 a0_3) ∧ w'.cell? (ad111.add ((x8_2).toNat * 5)) = some (.int .i64 ((qm l0_0 x8_2).f0)) ∧ w'.cell? ⟨(ad111.add ((x8_2).toNat * 5)).block, (ad111.add ((x8_2).toNat * 5)).off + 1, none⟩ = some (.int .i64 ((qm l0_0 x8_2).f1)) ∧ w'.cell? ⟨(ad111.add ((x8_2).toNat * 5)).block, (ad111.add ((x8_2).toNat * 5)).off + 2, none⟩ = some (.string ((qm l0_0 x8_2).f2)) ∧ w'.cell? ⟨(ad111.add ((x8_2).toNat * 5)).block, (ad111.add ((x8_2).toNat * 5)).off + 3, none⟩ = some (.string ((qm l0_0 x8_2).f3)) ∧ w'.cell? ⟨(ad111.add ((x8_2).toNat * 5)).block, (ad111.add ((x8_2).toNat * 5)).off + 4, none⟩ = some (.int .i64 ((qm l0_0 x8_2).f4))) (ds := [10]) bq2 (by kernel_rfl) rfl rfl ⟨(qd BK108.out 0).trans rfl, (qd BK108.out 1).trans rfl, (qd BK108.out 2).trans rfl, (qd BK108.out 3).trans rfl, (qd BK101.out 0).trans rfl, (qd BK101.out 1).trans rfl, (qd BK101.out 2).trans rfl, (qd BK101.out 3).trans rfl, ((HB.out.cell (World.block_lt_of_cell? w _ hw111_0)).trans hw111_0), ((HB.out.cell (World.block_lt_of_cell? w _ hw111_1)).trans hw111_1), ((HB.out.cell (World.block_lt_of_cell? w _ hw111_2)).trans hw111_2), ((HB.out.cell (World.block_lt_of_cell? w _ hw111_3)).trans hw111_3), ((HB.out.cell (World.block_lt_of_cell? w _ hw111_4)).trans hw111_4)⟩ (fun hHeld => ?_); refine with_tabW spec_Apply.tab15 spec_Apply.bits15 (fun HT_ HW_ => ?_)
              generalize wr.drew = w91 at HO_109000 BK101 BK102 BK103 BK108 HB hx111_0 hx111_1 hx111_2 hx111_3 hx111_4 hHeld ⊢
              refine pure_ (i := 0) (N := some 85) (v := ?_) (a' := ?_) #[true, false, false, false, false, false, false, false, false, false, false] rfl rfl (qz HT_.out (by kernel_rfl)) (fun _ _ _ h => h) (Or.inl ⟨by rfl, ?_⟩) ?_ ?_
              rotate_left
              ·intro w'
               go_simp
               with_reducible rfl
              rotate_left
              ·simp only [Act.put, sq1, sq2, sq3, i64_w, i32_w]
               rfl
              refine pure_ (i := 2) (N := some 87) (v := ?_) (a' := ?_) #[true, false, true, false, false, false, false, false, false, false, false] rfl rfl (qz HT_.out (by kernel_rfl)) (fun _ _ _ h => h) (Or.inl ⟨by rfl, ?_⟩) ?_ ?_
              rotate_left
              ·intro w'
               go_simp
               with_reducible rfl
              rotate_left
              ·simp only [Act.put, sq1, sq2, sq3, i64_w, i32_w]
               rfl
              refine pure_ (i := 4) (N := some 89) (v := ?_) (a' := ?_) #[true, false, true, false, true, false, false, false, false, false, false] rfl rfl (qz HT_.out (by kernel_rfl)) (fun _ _ _ h => h) (Or.inl ⟨by rfl, ?_⟩) ?_ ?_
              rotate_left
              ·intro w'
               go_simp
               with_reducible rfl
              rotate_left
              ·simp only [Act.put, sq1, sq2, sq3, i64_w, i32_w]
               rfl
              refine take_ (i := 1) (N := some 86) (v := ?_) (a' := ?_) #[true, true, true, false, true, false, false, false, false, false, false] rfl rfl (take_ofW HT_.out HW_.out (by kernel_rfl)) (fun _ _ _ h => h) (Or.inl ⟨by rfl, ?_⟩) hHeld ?_ ?_
              rotate_left
              ·rintro w' ⟨s0, s1, s2, s3, s4, s5, s6, s7, s8, s9, s10, s11, s12⟩
               go_simp
               with_reducible rfl
              rotate_left
              ·simp only [Act.put, sq1, sq2, sq3, i64_w, i32_w]
               rfl
              refine take_ (i := 3) (N := some 88) (v := ?_) (a' := ?_) bq22 rfl rfl (take_ofW HT_.out HW_.out (by kernel_rfl)) (fun _ _ _ h => h) (Or.inl ⟨by rfl, ?_⟩) hHeld ?_ ?_
              rotate_left
              ·rintro w' ⟨s0, s1, s2, s3, s4, s5, s6, s7, s8, s9, s10, s11, s12⟩
               go_simp
               with_reducible rfl
              rotate_left
              ·simp only [Act.put, sq1, sq2, sq3, i64_w, i32_w]
               rfl
              refine pure_ (i := 5) (N := some 90) (v := ?_) (a' := ?_) bq27 rfl rfl (qz HT_.out (by kernel_rfl)) (fun _ _ _ h => h) (Or.inl ⟨by rfl, ?_⟩) ?_ ?_
              rotate_left
              ·intro w'
               go_simp
               with_reducible rfl
              rotate_left
              ·simp only [Act.put, sq1, sq2, sq3, i64_w, i32_w]
               rfl
              refine take_ (i := 6) (N := some 91) (v := ?_) (a' := ?_) bq32 rfl rfl (take_ofW HT_.out HW_.out (by kernel_rfl)) (fun _ _ _ h => h) (Or.inl ⟨by rfl, ?_⟩) hHeld ?_ ?_
              rotate_left
              ·rintro w' ⟨s0, s1, s2, s3, s4, s5, s6, s7, s8, s9, s10, s11, s12⟩
               go_simp
               with_reducible rfl
              rotate_left
              ·simp only [Act.put, sq1, sq2, sq3, i64_w, i32_w]
               rfl
              refine one_ (i := 7) (N := some 92) bq39 rfl rfl (one_of HT_.out (by kernel_rfl)) (by decide) (fun K hK => ?_)
              refine value_ (w1 := ?_) (v := ?_) (by rfl) rfl ?_ ?_
              rotate_left 2
              ·go_simp
               constructor
               ·rfl
               ·rfl
              refine hK.out _ _ ⟨(qd (qa BK108.out _) 0).trans rfl, (qd (qa BK108.out _) 1).trans rfl, (qd (qa BK108.out _) 2).trans rfl, (qd (qa BK108.out _) 3).trans rfl, (qd (qa BK101.out _) 0).trans rfl, (qd (qa BK101.out _) 1).trans rfl, (qd (qa BK101.out _) 2).trans rfl, (qd (qa BK101.out _) 3).trans rfl, (World.cell?_alloc_lt _ _ _ (World.block_lt_of_cell? _ _ (((HB.out.cell (World.block_lt_of_cell? w _ hw111_0)).trans hw111_0)))).trans (((HB.out.cell (World.block_lt_of_cell? w _ hw111_0)).trans hw111_0)), (World.cell?_alloc_lt _ _ _ (World.block_lt_of_cell? _ _ (((HB.out.cell (World.block_lt_of_cell? w _ hw111_1)).trans hw111_1)))).trans (((HB.out.cell (World.block_lt_of_cell? w _ hw111_1)).trans hw111_1)), (World.cell?_alloc_lt _ _ _ (World.block_lt_of_cell? _ _ (((HB.out.cell (World.block_lt_of_cell? w _ hw111_2)).trans hw111_2)))).trans (((HB.out.cell (World.block_lt_of_cell? w _ hw111_2)).trans hw111_2)), (World.cell?_alloc_lt _ _ _ (World.block_lt_of_cell? _ _ (((HB.out.cell (World.block_lt_of_cell? w _ hw111_3)).trans hw111_3)))).trans (((HB.out.cell (World.block_lt_of_cell? w _ hw111_3)).trans hw111_3)), (World.cell?_alloc_lt _ _ _ (World.block_lt_of_cell? _ _ (((HB.out.cell (World.block_lt_of_cell? w _ hw111_4)).trans hw111_4)))).trans (((HB.out.cell (World.block_lt_of_cell? w _ hw111_4)).trans hw111_4))⟩ (fun hHeld => ?_)
              clear hK K
              refine norm_ (a' := ?_) ?_ ?_
              rotate_left
              ·show Act.put _ (some 92) _ = _
               simp only [Act.put, sq1, sq2, sq3, i64_w, i32_w]
               rfl
              refine one_ (i := 8) (N := some 93) bq43 rfl rfl (one_of HT_.out (by kernel_rfl)) (by decide) (fun K hK => ?_)
              refine Kd.R_append_step k66 (w0 := w) w.heap.size (by rfl) (.tmp 86) (.tmp 92) 30 66 (.agg #[(.int .i64 0), (.int .i64 0), (.string ⟨#[]⟩), (.string ⟨#[]⟩), (.int .i64 0)]) 56 rfl Try.underlying30 info66 rfl (by decide) (by omega) u109000 x109000_2 (⟨(qm l0_0 x8_2).f0, (qm l0_0 x8_2).f1, (qm l0_0 x8_2).f2, (qm l0_0 x8_2).f3, (qm l0_0 x8_2).f4⟩ : S66) [.int .i64 ((qm l0_0 x8_2).f0), .int .i64 ((qm l0_0 x8_2).f1), .string ((qm l0_0 x8_2).f2), .string ((qm l0_0 x8_2).f3), .int .i64 ((qm l0_0 x8_2).f4)] (fun _ => True) (fun _ => False) rfl rfl ?aP (fun _ hk => hk.elim) ?aF ?aO ?aB ?aS ?aL ?_
              (case aP => exact k66_mkM _ _ _ (⟨(qm l0_0 x8_2).f0, (qm l0_0 x8_2).f1, (qm l0_0 x8_2).f2, (qm l0_0 x8_2).f3, (qm l0_0 x8_2).f4⟩ : S66))
              (case aB => exact yq13)
              (case aF => exact (fun _ _ => trivial))
              (case aO => exact yq14)
              (case aS => exact (qu yq13))
              (case aL => have := LMc86.out; omega)
              intro v113 w92 ho hb hg hat
              rw [← Ny112.out] at ho
              have n0_ := Qz.mk (qd1 (g := gb101) (o := .cells #[.slice (some ad111) l0_0.length c0_0, .int .i64 a0_1, .int .i64 a0_2, .int .i64 a0_3] 32 (0, 0)) yq15 hg (Kd.R_ne HO_109000.out BK101.out (by decide)))
              have n1_ := Qz.mk (qd1 (g := gb102) (o := .cells #[.slice A1_0 l1_0.length c1_0, .slice A1_1 l1_1.length c1_1, .int .i64 a1_2, .int .i64 a1_3, .int .i64 a1_4] 37 (0, 0)) yq16 hg (Kd.R_ne HO_109000.out BK102.out (by decide)))
              have n2_ := Qz.mk (qd1 (g := gb103) (o := .cells #[.slice none 0 0, .int .i64 0, .int .i64 0, .int .i64 0] 32 (0, 0)) yq17 hg (Kd.R_ne HO_109000.out BK103.out (by decide)))
              have n3_ := Qz.mk (qd1 (g := gb108) (o := .cells #[u109000, .int .i64 a1_2, .int .i64 a1_3, .int .i64 a1_4] 32 (0, 0)) yq21 hg (Kd.R_ne HO_109000.out BK108.out (by decide)))
              have n4_ := Qz.mk (hb)
              have n5_ := Qz.mk (ho)
              clear BK101
              clear BK102
              clear BK103
              clear BK108
              clear HB
              clear HO_109000
              have BK101 := n0_
              have BK102 := n1_
              have BK103 := n2_
              have BK108 := n3_
              have HB := n4_
              have HO114 := n5_
              clear n0_ n1_ n2_ n3_ n4_ n5_
              clear ho hb hg hat
              obtain ⟨Ao93, co93, eo93⟩ := Kd.R_slice HO114.out
              (first | subst eo93 | (injection eo93 with f1_ f2_ f3_; have f4_ := f1_.symm; have f5_ := f3_.symm; clear f1_ f2_ f3_; subst f4_; subst f5_))
              refine hK.out _ _ ⟨(qd BK108.out 0).trans rfl, (qd BK108.out 1).trans rfl, (qd BK108.out 2).trans rfl, (qd BK108.out 3).trans rfl, (qd BK101.out 0).trans rfl, (qd BK101.out 1).trans rfl, (qd BK101.out 2).trans rfl, (qd BK101.out 3).trans rfl, ((HB.out.cell (World.block_lt_of_cell? w _ hw111_0)).trans hw111_0), ((HB.out.cell (World.block_lt_of_cell? w _ hw111_1)).trans hw111_1), ((HB.out.cell (World.block_lt_of_cell? w _ hw111_2)).trans hw111_2), ((HB.out.cell (World.block_lt_of_cell? w _ hw111_3)).trans hw111_3), ((HB.out.cell (World.block_lt_of_cell? w _ hw111_4)).trans hw111_4)⟩ (fun hHeld => ?_)
              clear hK K
              refine norm_ (a' := ?_) ?_ ?_
              rotate_left
              ·show Act.put _ (some 93) _ = _
               simp only [Act.put, sq1, sq2, sq3, i64_w, i32_w]
               rfl
              refine pure_ (i := 9) (N := some 94) (v := ?_) (a' := ?_) bq47 rfl rfl (qz HT_.out (by kernel_rfl)) (fun _ _ _ h => h) (Or.inl ⟨by rfl, ?_⟩) ?_ ?_
              rotate_left
              ·intro w'
               go_simp
               with_reducible rfl
              rotate_left
              ·simp only [Act.put, sq1, sq2, sq3, i64_w, i32_w]
               rfl
              refine last_ (i := 10) (N := none) bq62 rfl rfl (one_of HT_.out (by kernel_rfl)) (by decide) (fun K hK => ?_)
              have hs94 : w92.cell? ⟨gb108, 0, none⟩ = some (u109000) := (qd BK108.out 0).trans rfl
              have hfs94 := qe BK108.out 0
              have hns94_0 := NB101_108.out
              have hns94_1 := NB102_108.out
              have hns94_2 := NB103_108.out
              have hms94_0 := NB108_101.out
              have hms94_1 := NB108_102.out
              have hms94_2 := NB108_103.out
              refine skip_ (w1 := ?_) (by rfl) rfl ?_ ?_
              rotate_left
              ·go_simp
               rfl
              refine hK.out _ _ ?_
              clear hK K
              refine done_ (done_of HT_.out (by kernel_rfl)) ?_
              try go_wp2
              go_roundg k3
              case measure => have := HJ2.out; have := HK2.out; have := HK3.out; omega
              case rel => exact ⟨(x7_2), (wrap64 (x8_2 + 1)), (y112), (.slice Ao93 y112.length co93), yq23, yq23, H', ⟨by have := HJ2.out; have := HK2.out; have := HK3.out; omega⟩, ⟨by (with_reducible repeat (first | apply Kd.R_alloc | apply Kd.R_drewN | apply Kd.R_drew)); exact Kd.R_mono (Kd.R_far (p := ⟨gb108, 0, none⟩) (Kd.R_types HO114.out BK108.out (by decide)) (fun _ hk => hk.2) (.slice Ao93 y112.length co93)) (fun _ hk => trivial)⟩, ⟨by (with_reducible repeat (first | refine qb ?_ _ | refine qc ?_ | refine qa ?_ _)); refine qq ?_ NB101_108.out _; (with_reducible repeat (first | refine qb ?_ _ | refine qc ?_ | refine qa ?_ _)); exact BK101.out⟩, ⟨by (with_reducible repeat (first | refine qb ?_ _ | refine qc ?_ | refine qa ?_ _)); refine qq ?_ NB102_108.out _; (with_reducible repeat (first | refine qb ?_ _ | refine qc ?_ | refine qa ?_ _)); exact BK102.out⟩, ⟨by (with_reducible repeat (first | refine qb ?_ _ | refine qc ?_ | refine qa ?_ _)); refine qq ?_ NB103_108.out _; (with_reducible repeat (first | refine qb ?_ _ | refine qc ?_ | refine qa ?_ _)); exact BK103.out⟩, ⟨by (with_reducible repeat (first | refine qb ?_ _ | refine qc ?_ | refine qa ?_ _)); refine qt (cs := #[u109000, .int .i64 a1_2, .int .i64 a1_3, .int .i64 a1_4]) ?_ 0 _ rfl; (with_reducible repeat (first | refine qb ?_ _ | refine qc ?_ | refine qa ?_ _)); exact BK108.out⟩, ⟨by repeat (first | (with_reducible first | exact HB.out | apply qi | apply qg | apply qh | refine qf ?_ GE101.out | refine qf ?_ GE102.out | refine qf ?_ GE103.out | refine qf ?_ GE108.out) | exact HB.out)⟩⟩
             ·rw [if_neg c86] at H
              exact absurd H (by simp)
            ·rw [if_neg c85] at H
             exact absurd H (by simp)
           ·rw [if_neg c84] at H
            exact absurd H (by simp)
      ·rw [if_neg c59] at H
       have c59b0 : decide (x8_2 < (l0_0.length : Int)) = false := decide_eq_false c59
       clear c59
       by_cases c95 : x7_2 = (l1_1.length : Int)
       ·rw [if_pos c95] at H
        have c95b0 : (x7_2 == (l1_1.length : Int)) = true := beq_iff_eq.mpr c95
        have c95b1 : (x7_2 != (l1_1.length : Int)) = false := bne_eq_false_iff_eq.mpr c95
        clear c95
        have H' := Qz.mk H
        clear H
        have hnb96 := NB101_102.out
        have hnc96 := NB102_101.out
        have hnb97 := NB101_103.out
        have hnc97 := NB103_101.out
        have hnb98 := NB101_108.out
        have hnc98 := NB108_101.out
        have hcz99_0 := (qd BK101.out 0).trans rfl
        have hcz99_1 := (qd BK101.out 1).trans rfl
        have hcz99_2 := (qd BK101.out 2).trans rfl
        have hcz99_3 := (qd BK101.out 3).trans rfl
        have hfz99_0 := qe BK101.out 0
        have hfz99_1 := qe BK101.out 1
        have hfz99_2 := qe BK101.out 2
        have hfz99_3 := qe BK101.out 3
        have hnb100 := NB102_103.out
        have hnc100 := NB103_102.out
        have hnb101 := NB102_108.out
        have hnc101 := NB108_102.out
        have hcz102_0 := (qd BK102.out 0).trans rfl
        have hcz102_1 := (qd BK102.out 1).trans rfl
        have hcz102_2 := (qd BK102.out 2).trans rfl
        have hcz102_3 := (qd BK102.out 3).trans rfl
        have hcz102_4 := (qd BK102.out 4).trans rfl
        have hfz102_0 := qe BK102.out 0
        have hfz102_1 := qe BK102.out 1
        have hfz102_2 := qe BK102.out 2
        have hfz102_3 := qe BK102.out 3
        have hfz102_4 := qe BK102.out 4
        go_wp2
        go_loopg [11] k2 (fun kq v11 w' => ∃ (x11_3 : Int) (x109000_3 : List (S66)) (u109000 : Value), v11 = .int .i64 x11_3 ∧ Qz (spec_Apply.l2 kq x11_3 l1_0 l1_1 a1_2 a1_3 a1_4 x109000_3 a1_2 a1_3 a1_4 = some (r1, r2, r3, r4, r5)) ∧ Qz (kq ≤ k2) ∧ Qz (Kd.R k66 66 w' w.heap.size (fun _ => True) u109000 x109000_3) ∧ Qz (w'.heap[gb101]? = some (.cells #[(.slice A0_0 l0_0.length c0_0), .int .i64 a0_1, .int .i64 a0_2, .int .i64 a0_3] 32 (0, 0))) ∧ Qz (w'.heap[gb102]? = some (.cells #[(.slice A1_0 l1_0.length c1_0), (.slice A1_1 l1_1.length c1_1), .int .i64 a1_2, .int .i64 a1_3, .int .i64 a1_4] 37 (0, 0))) ∧ Qz (w'.heap[gb103]? = some (.cells #[(.slice none 0 0), .int .i64 0, .int .i64 0, .int .i64 0] 32 (0, 0))) ∧ Qz (w'.heap[gb108]? = some (.cells #[u109000, .int .i64 a1_2, .int .i64 a1_3, .int .i64 a1_4] 32 (0, 0))) ∧ Qz (Below w.heap.size w w'))
        case atStart => exact ⟨(0), (x109000_2), (u109000), yq23, H', ⟨Nat.le_refl _⟩, ⟨by (with_reducible repeat (first | apply Kd.R_alloc | apply Kd.R_drewN | apply Kd.R_drew)); exact HO_109000.out⟩, ⟨by (with_reducible repeat (first | refine qb ?_ _ | refine qc ?_ | refine qa ?_ _)); exact BK101.out⟩, ⟨by (with_reducible repeat (first | refine qb ?_ _ | refine qc ?_ | refine qa ?_ _)); exact BK102.out⟩, ⟨by (with_reducible repeat (first | refine qb ?_ _ | refine qc ?_ | refine qa ?_ _)); exact BK103.out⟩, ⟨by (with_reducible repeat (first | refine qb ?_ _ | refine qc ?_ | refine qa ?_ _)); exact BK108.out⟩, ⟨by repeat (first | (with_reducible first | exact HB.out | apply qi | apply qg | apply qh | refine qf ?_ GE101.out | refine qf ?_ GE102.out | refine qf ?_ GE103.out | refine qf ?_ GE108.out) | exact HB.out)⟩⟩
        case round =>
         clear H'
         (try clear c1);(try clear p1);(try clear q1);(try clear hx1);(try clear p2);(try clear c5);(try clear c6);(try clear p6);(try clear c7);(try clear c8);(try clear c9);(try clear c10);(try clear p10);(try clear q10);(try clear hx10);(try clear p11);(try clear q11);(try clear hx11);(try clear c59);(try clear c59b0);(try clear c64);(try clear c64b0);(try clear p64);(try clear c65);(try clear c71);(try clear c71b0);(try clear c72);(try clear c72b0);(try clear c73);(try clear c73b0);(try clear c74);(try clear c75);(try clear c76);(try clear c79);(try clear c80);(try clear c81);(try clear c82);(try clear c84);(try clear c84b0);(try clear c85);(try clear c85b0);(try clear c86);(try clear c87);(try clear c88);(try clear c89);(try clear c95);(try clear c95b0);(try clear c95b1);(try clear c96);(try clear c97);(try clear c98);(try clear c100);(try clear c101);(try clear hcz102_0);(try clear hcz102_1);(try clear hcz102_2);(try clear hcz102_3);(try clear hcz102_4);(try clear hcz77_0);(try clear hcz77_1);(try clear hcz77_2);(try clear hcz77_3);(try clear hcz77_4);(try clear hcz83_0);(try clear hcz83_1);(try clear hcz83_2);(try clear hcz83_3);(try clear hcz83_4);(try clear hcz90_0);(try clear hcz90_1);(try clear hcz90_2);(try clear hcz90_3);(try clear hcz90_4);(try clear hcz99_0);(try clear hcz99_1);(try clear hcz99_2);(try clear hcz99_3);(try clear hfz102_0);(try clear hfz102_1);(try clear hfz102_2);(try clear hfz102_3);(try clear hfz102_4);(try clear hfz77_0);(try clear hfz77_1);(try clear hfz77_2);(try clear hfz77_3);(try clear hfz77_4);(try clear hfz83_0);(try clear hfz83_1);(try clear hfz83_2);(try clear hfz83_3);(try clear hfz83_4);(try clear hfz90_0);(try clear hfz90_1);(try clear hfz90_2);(try clear hfz90_3);(try clear hfz90_4);(try clear hfz99_0);(try clear hfz99_1);(try clear hfz99_2);(try clear hfz99_3);(try clear hx109_0);(try clear hx110_0);(try clear hx110_1);(try clear hx110_2);(try clear hx110_3);(try clear hx110_4);(try clear hx111_0);(try clear hx111_1);(try clear hx111_2);(try clear hx111_3);(try clear hx111_4);(try clear p109);(try clear p110);(try clear p111);(try clear q109);(try clear q110);(try clear q111)
         obtain ⟨x11_3, x109000_3, u109000, rfl, HA, HK3, HO_109000, BK101, BK102, BK103, BK108, HB⟩ := hrel
         cases gk with
         | zero => exact absurd HA.out (by simp [spec_Apply.l2])
         | succ k3 =>
          have H := HA.out
          clear HA
          simp only [spec_Apply.l2] at H
          by_cases c103 : x11_3 < (l1_0.length : Int)
          ·rw [if_pos c103] at H
           have c103b0 : decide (x11_3 < (l1_0.length : Int)) = true := decide_eq_true c103
           clear c103
           have H' := Qz.mk H
           clear H
           have hnb104 := NB102_101.out
           have hnc104 := NB101_102.out
           have hnb105 := NB102_103.out
           have hnc105 := NB103_102.out
           have hnb106 := NB102_108.out
           have hnc106 := NB108_102.out
           have hcz107_0 := (qd BK102.out 0).trans rfl
           have hcz107_1 := (qd BK102.out 1).trans rfl
           have hcz107_2 := (qd BK102.out 2).trans rfl
           have hcz107_3 := (qd BK102.out 3).trans rfl
           have hcz107_4 := (qd BK102.out 4).trans rfl
           have hfz107_0 := qe BK102.out 0
           have hfz107_1 := qe BK102.out 1
           have hfz107_2 := qe BK102.out 2
           have hfz107_3 := qe BK102.out 3
           have hfz107_4 := qe BK102.out 4
           go_wp2
           go_loopg [12] k3 (fun kq v12 w' => ∃ (x12_4 : Int), v12 = .int .i64 x12_4 ∧ Qz (spec_Apply.l3 kq x11_3 x12_4 l1_0 l1_1 a1_2 a1_3 a1_4 x109000_3 a1_2 a1_3 a1_4 = some (r1, r2, r3, r4, r5)) ∧ Qz (kq ≤ k3) ∧ Qz (Kd.R k66 66 w' w.heap.size (fun _ => True) u109000 x109000_3) ∧ Qz (w'.heap[gb101]? = some (.cells #[(.slice A0_0 l0_0.length c0_0), .int .i64 a0_1, .int .i64 a0_2, .int .i64 a0_3] 32 (0, 0))) ∧ Qz (w'.heap[gb102]? = some (.cells #[(.slice A1_0 l1_0.length c1_0), (.slice A1_1 l1_1.length c1_1), .int .i64 a1_2, .int .i64 a1_3, .int .i64 a1_4] 37 (0, 0))) ∧ Qz (w'.heap[gb103]? = some (.cells #[(.slice none 0 0), .int .i64 0, .int .i64 0, .int .i64 0] 32 (0, 0))) ∧ Qz (w'.heap[gb108]? = some (.cells #[u109000, .int .i64 a1_2, .int .i64 a1_3, .int .i64 a1_4] 32 (0, 0))) ∧ Qz (Below w.heap.size w w'))
           case atStart => exact ⟨(0), yq23, H', ⟨Nat.le_refl _⟩, ⟨by (with_reducible repeat (first | apply Kd.R_alloc | apply Kd.R_drewN | apply Kd.R_drew)); exact HO_109000.out⟩, ⟨by (with_reducible repeat (first | refine qb ?_ _ | refine qc ?_ | refine qa ?_ _)); exact BK101.out⟩, ⟨by (with_reducible repeat (first | refine qb ?_ _ | refine qc ?_ | refine qa ?_ _)); exact BK102.out⟩, ⟨by (with_reducible repeat (first | refine qb ?_ _ | refine qc ?_ | refine qa ?_ _)); exact BK103.out⟩, ⟨by (with_reducible repeat (first | refine qb ?_ _ | refine qc ?_ | refine qa ?_ _)); exact BK108.out⟩, ⟨by repeat (first | (with_reducible first | exact HB.out | apply qi | apply qg | apply qh | refine qf ?_ GE101.out | refine qf ?_ GE102.out | refine qf ?_ GE103.out | refine qf ?_ GE108.out) | exact HB.out)⟩⟩
           case round =>
            clear H'
            (try clear c1);(try clear p1);(try clear q1);(try clear hx1);(try clear p2);(try clear c5);(try clear c6);(try clear p6);(try clear c7);(try clear c8);(try clear c9);(try clear c10);(try clear p10);(try clear q10);(try clear hx10);(try clear p11);(try clear q11);(try clear hx11);(try clear c59);(try clear c59b0);(try clear c64);(try clear c64b0);(try clear p64);(try clear c65);(try clear c71);(try clear c71b0);(try clear c72);(try clear c72b0);(try clear c73);(try clear c73b0);(try clear c74);(try clear c75);(try clear c76);(try clear c79);(try clear c80);(try clear c81);(try clear c82);(try clear c84);(try clear c84b0);(try clear c85);(try clear c85b0);(try clear c86);(try clear c87);(try clear c88);(try clear c89);(try clear c95);(try clear c95b0);(try clear c95b1);(try clear c96);(try clear c97);(try clear c98);(try clear c100);(try clear c101);(try clear c103);(try clear c103b0);(try clear c104);(try clear c105);(try clear c106);(try clear hcz102_0);(try clear hcz102_1);(try clear hcz102_2);(try clear hcz102_3);(try clear hcz102_4);(try clear hcz107_0);(try clear hcz107_1);(try clear hcz107_2);(try clear hcz107_3);(try clear hcz107_4);(try clear hcz77_0);(try clear hcz77_1);(try clear hcz77_2);(try clear hcz77_3);(try clear hcz77_4);(try clear hcz83_0);(try clear hcz83_1);(try clear hcz83_2);(try clear hcz83_3);(try clear hcz83_4);(try clear hcz90_0);(try clear hcz90_1);(try clear hcz90_2);(try clear hcz90_3);(try clear hcz90_4);(try clear hcz99_0);(try clear hcz99_1);(try clear hcz99_2);(try clear hcz99_3);(try clear hfz102_0);(try clear hfz102_1);(try clear hfz102_2);(try clear hfz102_3);(try clear hfz102_4);(try clear hfz107_0);(try clear hfz107_1);(try clear hfz107_2);(try clear hfz107_3);(try clear hfz107_4);(try clear hfz77_0);(try clear hfz77_1);(try clear hfz77_2);(try clear hfz77_3);(try clear hfz77_4);(try clear hfz83_0);(try clear hfz83_1);(try clear hfz83_2);(try clear hfz83_3);(try clear hfz83_4);(try clear hfz90_0);(try clear hfz90_1);(try clear hfz90_2);(try clear hfz90_3);(try clear hfz90_4);(try clear hfz99_0);(try clear hfz99_1);(try clear hfz99_2);(try clear hfz99_3);(try clear hx109_0);(try clear hx110_0);(try clear hx110_1);(try clear hx110_2);(try clear hx110_3);(try clear hx110_4);(try clear hx111_0);(try clear hx111_1);(try clear hx111_2);(try clear hx111_3);(try clear hx111_4);(try clear p1);(try clear p10);(try clear p109);(try clear p11);(try clear p110);(try clear p111);(try clear p2);(try clear p6);(try clear p64);(try clear q1);(try clear q10);(try clear q109);(try clear q11);(try clear q110);(try clear q111)
            obtain ⟨x12_4, rfl, HA, HK4, HO_109000, BK101, BK102, BK103, BK108, HB⟩ := hrel
            cases gk with
            | zero => exact absurd HA.out (by simp [spec_Apply.l3])
            | succ k4 =>
             have H := HA.out
             clear HA
             simp only [spec_Apply.l3] at H
             by_cases c108 : x12_4 < (x109000_3.length : Int)
             ·rw [if_pos c108] at H
              have c108b0 : decide (x12_4 < (x109000_3.length : Int)) = true := decide_eq_true c108
              clear c108
              by_cases c109 : 0 ≤ x12_4
              ·rw [if_pos c109] at H
               have c109b0 : decide (0 ≤ x12_4) = true := decide_eq_true c109
               clear c109
               by_cases c110 : 0 ≤ x11_3
               ·rw [if_pos c110] at H
                have c110b0 : decide (0 ≤ x11_3) = true := decide_eq_true c110
                clear c110
                by_cases c111 : x11_3 < (l1_0.length : Int)
                ·rw [if_pos c111] at H
                 have c111b0 : decide (x11_3 < (l1_0.length : Int)) = true := decide_eq_true c111
                 clear c111
                 replace H := Option.bind_eq_some_iff.mp H
                 obtain ⟨t118, A1120, H⟩ := H
                 replace H : (if t118 = true then (spec_Apply.l3 k4 x11_3 (wrap64 (x12_4 + 1)) l1_0 l1_1 a1_2 a1_3 a1_4 x109000_3 a1_2 a1_3 a1_4) else ((some (([] : List (S66)) : List (S66))).bind fun y119 => (if x12_4 ≤ (x109000_3.length : Int) then ((some (x109000_3.take (x12_4 : Int).toNat : List (S66))).bind fun y122 => (if y119.length + y122.length < 2513169434916 then ((some (y119 ++ y122 : List (S66))).bind fun y126 => (if y126.length < 2513169434916 then ((some (y126 ++ [(⟨(qm l1_0 x11_3).f0, (qm l1_0 x11_3).f1, (qm l1_0 x11_3).f2, (qm l1_0 x11_3).f3, (qm l1_0 x11_3).f4⟩ : S66)] : List (S66))).bind fun y130 => ((some (x109000_3.drop (x12_4 : Int).toNat : List (S66))).bind fun y133 => (if y130.length + y133.length < 2513169434916 then (spec_Apply.l2 k4 (wrap64 (x11_3 + 1)) l1_0 l1_1 a1_2 a1_3 a1_4 (y130 ++ y133) a1_2 a1_3 a1_4) else (none)))) else (none))) else (none))) else (none)))) = some (r1, r2, r3, r4, r5) := H
                 have A112 := Qz.mk A1120
                 clear A1120
                 by_cases c113 : t118 = true
                 ·subst c113
                  have H1 : (spec_Apply.l3 k4 x11_3 (wrap64 (x12_4 + 1)) l1_0 l1_1 a1_2 a1_3 a1_4 x109000_3 a1_2 a1_3 a1_4) = some (r1, r2, r3, r4, r5) := by rw [if_pos rfl] at H; exact H
                  clear H
                  have H := H1
                  clear H1
                  have H' := Qz.mk H
                  clear H
                  try go_wp2
                  replace HO_109000 := Qz.mk (Kd.R_drew HO_109000.out)
                  replace BK101 := Qz.mk (qc BK101.out)
                  replace BK102 := Qz.mk (qc BK102.out)
                  replace BK103 := Qz.mk (qc BK103.out)
                  replace BK108 := Qz.mk (qc BK108.out)
                  replace HB := Qz.mk (qh HB.out)
                  obtain ⟨Ao115, co115, eo115⟩ := Kd.R_slice HO_109000.out
                  (first | subst eo115 | (injection eo115 with f1_ f2_ f3_; have f4_ := f1_.symm; have f5_ := f3_.symm; clear f1_ f2_ f3_; subst f4_; subst f5_))
                  have p116 : 0 ≤ (x12_4 : Int) := of_decide_eq_true yq20
                  have q116 : x12_4 < (x109000_3.length : Int) := of_decide_eq_true yq20
                  obtain ⟨ad116, e116, hx116_0, hx116_1, hx116_2, hx116_3, hx116_4⟩ := at_T66 (Kd.R_reads' HO_109000.out).2.2 x12_4 p116 q116
                  cases e116
                  replace p116 := eq_true p116
                  replace q116 := eq_true q116
                  have p117 : 0 ≤ (x11_3 : Int) := of_decide_eq_true yq20
                  have q117 : x11_3 < (l1_0.length : Int) := of_decide_eq_true yq20
                  obtain ⟨ad117, e117, hx117_0, hx117_1, hx117_2, hx117_3, hx117_4⟩ := at_T66 HR1_0.out x11_3 p117 q117
                  have hw117_4 := hx117_4
                  have hw117_3 := hx117_3
                  have hw117_2 := hx117_2
                  have hw117_1 := hx117_1
                  have hw117_0 := hx117_0
                  cases e117
                  replace hx117_0 := (HB.out.cell (World.block_lt_of_cell? w _ hx117_0)).trans hx117_0
                  replace hx117_1 := (HB.out.cell (World.block_lt_of_cell? w _ hx117_1)).trans hx117_1
                  replace hx117_2 := (HB.out.cell (World.block_lt_of_cell? w _ hx117_2)).trans hx117_2
                  replace hx117_3 := (HB.out.cell (World.block_lt_of_cell? w _ hx117_3)).trans hx117_3
                  replace hx117_4 := (HB.out.cell (World.block_lt_of_cell? w _ hx117_4)).trans hx117_4
                  replace p117 := eq_true p117
                  replace q117 := eq_true q117
                  refine start_ (n := 18) (S := fun w' => w'.cell? ⟨gb108, 0, none⟩ = some (.slice (some ad116) x109000_3.length co115) ∧ w'.cell? ⟨gb108, 1, none⟩ = some (.int .i64 a1_2) ∧ w'.cell? ⟨gb108, 2, none⟩ = some (.int .i64 a1_3) ∧ w'.cell? ⟨gb108, 3, none⟩ = some (.int .i64 a1_4) ∧ w'.cell? ⟨gb102, 0, none⟩ = some (.slice (some ad117) l1_0.length c1_0) ∧ w'.cell? ⟨gb102, 1, none⟩ = some (.slice A1_1 l1_1.length c1_1) ∧ w'.cell? ⟨gb102, 2, none⟩ = some (.int .i64 a1_2) ∧ w'.cell? ⟨gb102, 3, none⟩ = some (.int .i64 a1_3) ∧ w'.cell? ⟨gb102, 4, none⟩ = some (.int .i64 a1_4) ∧ w'.cell? (ad116.add ((x12_4).toNat * 5)) = some (.int .i64 ((qm x109000_3 x12_4).f0)) ∧ w'.cell? ⟨(ad116.add ((x12_4).toNat * 5)).block, (ad116.add ((x12_4).toNat * 5)).off + 1, none⟩ = some (.int .i64 ((qm x109000_3 x12_4).f1)) ∧ w'.cell? ⟨(ad116.add ((x12_4).toNat * 5)).block, (ad116.add ((x12_4).toNat * 5)).off + 2, none⟩ = some (.string ((qm x109000_3 x12_4).f2)) ∧ w'.cell? ⟨(ad116.add ((x12_4).toNat * 5)).block, (ad116.add ((x12_4).toNat * 5)).off + 3, none⟩ = some (.string ((qm x109000_3 x12_4).f3)) ∧ w'.cell? ⟨(ad116.add ((x12_4).toNat * 5)).block, (ad116.add ((x12_4).toNat * 5)).off + 4, none⟩ = some (.int .i64 ((qm x109000_3 x12_4).f4)) ∧ w'.cell? (ad117.add ((x11_3).toNat * 5)) = some (.int .i64 ((qm l1_0 x11_3).f0)) ∧ w'.cell? ⟨(ad117.add ((x11_3).toNat * 5)).block, (ad117.add ((x11_3).toNat * 5)).off + 1, none⟩ = some (.int .i64 ((qm l1_0 x11_3).f1)) ∧ w'.cell? ⟨(ad117.add ((x11_3).toNat * 5)).block, (ad117.add ((x11_3).toNat * 5)).off + 2, none⟩ = some (.string ((qm l1_0 x11_3).f2)) ∧ w'.cell? ⟨(ad117.add ((x11_3).toNat * 5)).block, (ad117.add ((x11_3).toNat * 5)).off + 3, none⟩ = some (.string ((qm l1_0 x11_3).f3)) ∧ w'.cell? ⟨(ad117.add ((x11_3).toNat * 5)).block, (ad117.add ((x11_3).toNat * 5)).off + 4, none⟩ = some (.int .i64 ((qm l1_0 x11_3).f4))) (ds := []) bq0 (by kernel_rfl) rfl rfl ⟨(qd BK108.out 0).trans rfl, (qd BK108.out 1).trans rfl, (qd BK108.out 2).trans rfl, (qd BK108.out 3).trans rfl, (qd BK102.out 0).trans rfl, (qd BK102.out 1).trans rfl, (qd BK102.out 2).trans rfl, (qd BK102.out 3).trans rfl, (qd BK102.out 4).trans rfl, hx116_0, hx116_1, hx116_2, hx116_3, hx116_4, ((HB.out.cell (World.block_lt_of_cell? w _ hw117_0)).trans hw117_0), ((HB.out.cell (World.block_lt_of_cell? w _ hw117_1)).trans hw117_1), ((HB.out.cell (World.block_lt_of_cell? w _ hw117_2)).trans hw117_2), ((HB.out.cell (World.block_lt_of_cell? w _ hw117_3)).trans hw117_3), ((HB.out.cell (World.block_lt_of_cell? w _ hw117_4)).trans hw117_4)⟩ (fun hHeld => ?_); refine with_tabW spec_Apply.tab22 spec_Apply.bits22 (fun HT_ HW_ => ?_)
                  generalize wr.drew = w114 at HO_109000 BK101 BK102 BK103 BK108 HB hx116_0 hx116_1 hx116_2 hx116_3 hx116_4 hx117_0 hx117_1 hx117_2 hx117_3 hx117_4 hHeld ⊢
                  refine pure_ (i := 0) (N := some 108) (v := ?_) (a' := ?_) bq5 rfl rfl (qz HT_.out (by kernel_rfl)) (fun _ _ _ h => h) (Or.inl ⟨by rfl, ?_⟩) ?_ ?_
                  rotate_left
                  ·intro w'
                   go_simp
                   with_reducible rfl
                  rotate_left
                  ·simp only [Act.put, sq1, sq2, sq3, i64_w, i32_w]
                   rfl
                  refine pure_ (i := 1) (N := some 109) (v := ?_) (a' := ?_) bq9 rfl rfl (qz HT_.out (by kernel_rfl)) (fun _ _ _ h => h) (Or.inl ⟨by rfl, ?_⟩) ?_ ?_
                  rotate_left
                  ·intro w'
                   go_simp
                   with_reducible rfl
                  rotate_left
                  ·simp only [Act.put, sq1, sq2, sq3, i64_w, i32_w]
                   rfl
                  refine take_ (i := 2) (N := some 110) (v := ?_) (a' := ?_) bq12 rfl rfl (take_ofW HT_.out HW_.out (by kernel_rfl)) (fun _ _ _ h => h) (Or.inl ⟨by rfl, ?_⟩) hHeld ?_ ?_
                  rotate_left
                  ·rintro w' ⟨s0, s1, s2, s3, s4, s5, s6, s7, s8, s9, s10, s11, s12, s13, s14, s15, s16, s17, s18⟩
                   go_simp
                   with_reducible rfl
                  rotate_left
                  ·simp only [Act.put, sq1, sq2, sq3, i64_w, i32_w]
                   rfl
                  refine pure_ (i := 3) (N := some 111) (v := ?_) (a' := ?_) bq17 rfl rfl (qz HT_.out (by kernel_rfl)) (fun _ _ _ h => h) (Or.inl ⟨by rfl, ?_⟩) ?_ ?_
                  rotate_left
                  ·intro w'
                   go_simp
                   with_reducible rfl
                  rotate_left
                  ·simp only [Act.put, sq1, sq2, sq3, i64_w, i32_w]
                   rfl
                  refine pure_ (i := 4) (N := some 112) (v := ?_) (a' := ?_) bq21 rfl rfl (qz HT_.out (by kernel_rfl)) (fun _ _ _ h => h) (Or.inl ⟨by rfl, ?_⟩) ?_ ?_
                  rotate_left
                  ·intro w'
                   go_simp
                   with_reducible rfl
                  rotate_left
                  ·simp only [Act.put, sq1, sq2, sq3, i64_w, i32_w]
                   rfl
                  refine pure_ (i := 5) (N := some 113) (v := ?_) (a' := ?_) bq25 rfl rfl (qz HT_.out (by kernel_rfl)) (fun _ _ _ h => h) (Or.inl ⟨by rfl, ?_⟩) ?_ ?_
                  rotate_left
                  ·intro w'
                   go_simp
                   with_reducible rfl
                  rotate_left
                  ·simp only [Act.put, sq1, sq2, sq3, i64_w, i32_w]
                   rfl
                  refine pure_ (i := 6) (N := some 114) (v := ?_) (a' := ?_) bq30 rfl rfl (qz HT_.out (by kernel_rfl)) (fun _ _ _ h => h) (Or.inl ⟨by rfl, ?_⟩) ?_ ?_
                  rotate_left
                  ·intro w'
                   go_simp
                   with_reducible rfl
                  rotate_left
                  ·simp only [Act.put, sq1, sq2, sq3, i64_w, i32_w]
                   rfl
                  refine pure_ (i := 8) (N := some 116) (v := ?_) (a' := ?_) bq33 rfl rfl (qz HT_.out (by kernel_rfl)) (fun _ _ _ h => h) (Or.inl ⟨by rfl, ?_⟩) ?_ ?_
                  rotate_left
                  ·intro w'
                   go_simp
                   with_reducible rfl
                  rotate_left
                  ·simp only [Act.put, sq1, sq2, sq3, i64_w, i32_w]
                   rfl
                  refine pure_ (i := 11) (N := some 119) (v := ?_) (a' := ?_) bq34 rfl rfl (qz HT_.out (by kernel_rfl)) (fun _ _ _ h => h) (Or.inl ⟨by rfl, ?_⟩) ?_ ?_
                  rotate_left
                  ·intro w'
                   go_simp
                   with_reducible rfl
                  rotate_left
                  ·simp only [Act.put, sq1, sq2, sq3, i64_w, i32_w]
                   rfl
                  refine pure_ (i := 13) (N := some 121) (v := ?_) (a' := ?_) bq35 rfl rfl (qz HT_.out (by kernel_rfl)) (fun _ _ _ h => h) (Or.inl ⟨by rfl, ?_⟩) ?_ ?_
                  rotate_left
                  ·intro w'
                   go_simp
                   with_reducible rfl
                  rotate_left
                  ·simp only [Act.put, sq1, sq2, sq3, i64_w, i32_w]
                   rfl
                  refine take_ (i := 7) (N := some 115) (v := ?_) (a' := ?_) bq42 rfl rfl (take_ofW HT_.out HW_.out (by kernel_rfl)) (fun _ _ _ h => h) (Or.inl ⟨by rfl, ?_⟩) hHeld ?_ ?_
                  rotate_left
                  ·rintro w' ⟨s0, s1, s2, s3, s4, s5, s6, s7, s8, s9, s10, s11, s12, s13, s14, s15, s16, s17, s18⟩
                   go_simp
                   with_reducible rfl
                  rotate_left
                  ·simp only [Act.put, sq1, sq2, sq3, i64_w, i32_w]
                   rfl
                  refine pure_ (i := 9) (N := some 117) (v := ?_) (a' := ?_) bq46 rfl rfl (qz HT_.out (by kernel_rfl)) (fun _ _ _ h => h) (Or.inl ⟨by rfl, ?_⟩) ?_ ?_
                  rotate_left
                  ·intro w'
                   go_simp
                   with_reducible rfl
                  rotate_left
                  ·simp only [Act.put, sq1, sq2, sq3, i64_w, i32_w]
                   rfl
                  refine take_ (i := 10) (N := some 118) (v := ?_) (a' := ?_) bq50 rfl rfl (take_ofW HT_.out HW_.out (by kernel_rfl)) (fun _ _ _ h => h) (Or.inl ⟨by rfl, ?_⟩) hHeld ?_ ?_
                  rotate_left
                  ·rintro w' ⟨s0, s1, s2, s3, s4, s5, s6, s7, s8, s9, s10, s11, s12, s13, s14, s15, s16, s17, s18⟩
                   go_simp
                   with_reducible rfl
                  rotate_left
                  ·simp only [Act.put, sq1, sq2, sq3, i64_w, i32_w]
                   rfl
                  refine take_ (i := 12) (N := some 120) (v := ?_) (a' := ?_) bq53 rfl rfl (take_ofW HT_.out HW_.out (by kernel_rfl)) (fun _ _ _ h => h) (Or.inl ⟨by rfl, ?_⟩) hHeld ?_ ?_
                  rotate_left
                  ·rintro w' ⟨s0, s1, s2, s3, s4, s5, s6, s7, s8, s9, s10, s11, s12, s13, s14, s15, s16, s17, s18⟩
                   go_simp
                   with_reducible rfl
                  rotate_left
                  ·simp only [Act.put, sq1, sq2, sq3, i64_w, i32_w]
                   rfl
                  refine pure_ (i := 14) (N := some 122) (v := ?_) (a' := ?_) bq56 rfl rfl (qz HT_.out (by kernel_rfl)) (fun _ _ _ h => h) (Or.inl ⟨by rfl, ?_⟩) ?_ ?_
                  rotate_left
                  ·intro w'
                   go_simp
                   with_reducible rfl
                  rotate_left
                  ·simp only [Act.put, sq1, sq2, sq3, i64_w, i32_w]
                   rfl
                  refine take_ (i := 15) (N := some 123) (v := ?_) (a' := ?_) bq58 rfl rfl (take_ofW HT_.out HW_.out (by kernel_rfl)) (fun _ _ _ h => h) (Or.inl ⟨by rfl, ?_⟩) hHeld ?_ ?_
                  rotate_left
                  ·rintro w' ⟨s0, s1, s2, s3, s4, s5, s6, s7, s8, s9, s10, s11, s12, s13, s14, s15, s16, s17, s18⟩
                   go_simp
                   with_reducible rfl
                  rotate_left
                  ·simp only [Act.put, sq1, sq2, sq3, i64_w, i32_w]
                   rfl
                  refine one_ (i := 16) (N := some 124) bq59 rfl rfl (one_of HT_.out (by kernel_rfl)) (by decide) (fun K hK => ?_)
                  refine goes_ Try.func56 (by kernel_rfl) rfl #[.agg #[.int .i64 ((qm x109000_3 x12_4).f0), .int .i64 ((qm x109000_3 x12_4).f1), .string ((qm x109000_3 x12_4).f2), .string ((qm x109000_3 x12_4).f3), .int .i64 ((qm x109000_3 x12_4).f4)], .agg #[.int .i64 ((qm l1_0 x11_3).f0), .int .i64 ((qm l1_0 x11_3).f1), .string ((qm l1_0 x11_3).f2), .string ((qm l1_0 x11_3).f3), .int .i64 ((qm l1_0 x11_3).f4)]] (by rfl) rfl rfl (by (try simp only [List.map_toArray, List.map_cons, List.map_nil]); first | done | rfl) ?_
                  with_reducible refine (spec_l12Ahead.calls ((qm x109000_3 x12_4).f0) ((qm x109000_3 x12_4).f1) ((qm x109000_3 x12_4).f2) ((qm x109000_3 x12_4).f3) ((qm x109000_3 x12_4).f4) ((qm l1_0 x11_3).f0) ((qm l1_0 x11_3).f1) ((qm l1_0 x11_3).f2) ((qm l1_0 x11_3).f3) ((qm l1_0 x11_3).f4) true _ A112.out).mono ?_
                  rintro e w116 ⟨rfl, hb⟩
                  have HS9_ := (hb.cell (World.block_lt_of_cell? _ _ (hHeld.2.2.2.2.2.2.2.2.2.1))).trans (hHeld.2.2.2.2.2.2.2.2.2.1)
                  have HS10_ := (hb.cell (World.block_lt_of_cell? _ _ (hHeld.2.2.2.2.2.2.2.2.2.2.1))).trans (hHeld.2.2.2.2.2.2.2.2.2.2.1)
                  have HS11_ := (hb.cell (World.block_lt_of_cell? _ _ (hHeld.2.2.2.2.2.2.2.2.2.2.2.1))).trans (hHeld.2.2.2.2.2.2.2.2.2.2.2.1)
                  have HS12_ := (hb.cell (World.block_lt_of_cell? _ _ (hHeld.2.2.2.2.2.2.2.2.2.2.2.2.1))).trans (hHeld.2.2.2.2.2.2.2.2.2.2.2.2.1)
                  have HS13_ := (hb.cell (World.block_lt_of_cell? _ _ (hHeld.2.2.2.2.2.2.2.2.2.2.2.2.2.1))).trans (hHeld.2.2.2.2.2.2.2.2.2.2.2.2.2.1)
                  refine ⟨_, rfl, ?_⟩
                  replace HO_109000 := Qz.mk (Kd.R_below yq14 hb)
                  replace BK101 := Qz.mk (qo (g := gb101) (o := .cells #[.slice A0_0 l0_0.length c0_0, .int .i64 a0_1, .int .i64 a0_2, .int .i64 a0_3] 32 (0, 0)) yq15 hb)
                  replace BK102 := Qz.mk (qo (g := gb102) (o := .cells #[.slice (some ad117) l1_0.length c1_0, .slice A1_1 l1_1.length c1_1, .int .i64 a1_2, .int .i64 a1_3, .int .i64 a1_4] 37 (0, 0)) yq16 hb)
                  replace BK103 := Qz.mk (qo (g := gb103) (o := .cells #[.slice none 0 0, .int .i64 0, .int .i64 0, .int .i64 0] 32 (0, 0)) yq17 hb)
                  replace BK108 := Qz.mk (qo (g := gb108) (o := .cells #[.slice (some ad116) x109000_3.length co115, .int .i64 a1_2, .int .i64 a1_3, .int .i64 a1_4] 32 (0, 0)) yq21 hb)
                  replace HB := Qz.mk (qp yq13 hb)
                  (try clear hb)
                  (try clear hk)
                  refine hK.out _ _ ⟨(qd BK108.out 0).trans rfl, (qd BK108.out 1).trans rfl, (qd BK108.out 2).trans rfl, (qd BK108.out 3).trans rfl, (qd BK102.out 0).trans rfl, (qd BK102.out 1).trans rfl, (qd BK102.out 2).trans rfl, (qd BK102.out 3).trans rfl, (qd BK102.out 4).trans rfl, HS9_, HS10_, HS11_, HS12_, HS13_, ((HB.out.cell (World.block_lt_of_cell? w _ hw117_0)).trans hw117_0), ((HB.out.cell (World.block_lt_of_cell? w _ hw117_1)).trans hw117_1), ((HB.out.cell (World.block_lt_of_cell? w _ hw117_2)).trans hw117_2), ((HB.out.cell (World.block_lt_of_cell? w _ hw117_3)).trans hw117_3), ((HB.out.cell (World.block_lt_of_cell? w _ hw117_4)).trans hw117_4)⟩ (fun hHeld => ?_)
                  clear hK K
                  refine norm_ (a' := ?_) ?_ ?_
                  rotate_left
                  ·show Act.put _ (some 124) _ = _
                   simp only [Act.put, sq1, sq2, sq3, i64_w, i32_w]
                   rfl
                  refine pure_ (i := 17) (N := some 125) (v := ?_) (a' := ?_) bq60 rfl rfl (qz HT_.out (by kernel_rfl)) (fun _ _ _ h => h) (Or.inl ⟨by rfl, ?_⟩) ?_ ?_
                  rotate_left
                  ·intro w'
                   go_simp
                   with_reducible rfl
                  rotate_left
                  ·simp only [Act.put, sq1, sq2, sq3, i64_w, i32_w]
                   rfl
                  refine done_ (done_of HT_.out (by kernel_rfl)) ?_
                  try go_wp2
                  go_roundg k4
                  case measure => have := HJ2.out; have := HK2.out; have := HK3.out; have := HK4.out; omega
                  case rel => exact ⟨(wrap64 (x12_4 + 1)), yq23, H', ⟨by have := HJ2.out; have := HK2.out; have := HK3.out; have := HK4.out; omega⟩, ⟨by (with_reducible repeat (first | apply Kd.R_alloc | apply Kd.R_drewN | apply Kd.R_drew)); exact HO_109000.out⟩, ⟨by (with_reducible repeat (first | refine qb ?_ _ | refine qc ?_ | refine qa ?_ _)); exact BK101.out⟩, ⟨by (with_reducible repeat (first | refine qb ?_ _ | refine qc ?_ | refine qa ?_ _)); exact BK102.out⟩, ⟨by (with_reducible repeat (first | refine qb ?_ _ | refine qc ?_ | refine qa ?_ _)); exact BK103.out⟩, ⟨by (with_reducible repeat (first | refine qb ?_ _ | refine qc ?_ | refine qa ?_ _)); exact BK108.out⟩, ⟨by repeat (first | (with_reducible first | exact HB.out | apply qi | apply qg | apply qh | refine qf ?_ GE101.out | refine qf ?_ GE102.out | refine qf ?_ GE103.out | refine qf ?_ GE108.out) | exact HB.out)⟩⟩
                 ·replace c113 := Bool.eq_false_iff.mpr c113
                  subst c113
                  have H1 : ((some (([] : List (S66)) : List (S66))).bind fun y119 => (if x12_4 ≤ (x109000_3.length : Int) then ((some (x109000_3.take (x12_4 : Int).toNat : List (S66))).bind fun y122 => (if y119.length + y122.length < 2513169434916 then ((some (y119 ++ y122 : List (S66))).bind fun y126 => (if y126.length < 2513169434916 then ((some (y126 ++ [(⟨(qm l1_0 x11_3).f0, (qm l1_0 x11_3).f1, (qm l1_0 x11_3).f2, (qm l1_0 x11_3).f3, (qm l1_0 x11_3).f4⟩ : S66)] : List (S66))).bind fun y130 => ((some (x109000_3.drop (x12_4 : Int).toNat : List (S66))).bind fun y133 => (if y130.length + y133.length < 2513169434916 then (spec_Apply.l2 k4 (wrap64 (x11_3 + 1)) l1_0 l1_1 a1_2 a1_3 a1_4 (y130 ++ y133) a1_2 a1_3 a1_4) else (none)))) else (none))) else (none))) else (none))) = some (r1, r2, r3, r4, r5) := by rw [if_neg (show ¬ (false = true) by decide)] at H; exact H
                  clear H
                  have H := H1
                  clear H1
                  obtain ⟨y119, hy119⟩ : ∃ y_ : List (S66), y_ = (([] : List (S66))) := ⟨_, rfl⟩
                  replace H : (if x12_4 ≤ (x109000_3.length : Int) then ((some (x109000_3.take (x12_4 : Int).toNat : List (S66))).bind fun y122 => (if y119.length + y122.length < 2513169434916 then ((some (y119 ++ y122 : List (S66))).bind fun y126 => (if y126.length < 2513169434916 then ((some (y126 ++ [(⟨(qm l1_0 x11_3).f0, (qm l1_0 x11_3).f1, (qm l1_0 x11_3).f2, (qm l1_0 x11_3).f3, (qm l1_0 x11_3).f4⟩ : S66)] : List (S66))).bind fun y130 => ((some (x109000_3.drop (x12_4 : Int).toNat : List (S66))).bind fun y133 => (if y130.length + y133.length < 2513169434916 then (spec_Apply.l2 k4 (wrap64 (x11_3 + 1)) l1_0 l1_1 a1_2 a1_3 a1_4 (y130 ++ y133) a1_2 a1_3 a1_4) else (none)))) else (none))) else (none))) else (none)) = some (r1, r2, r3, r4, r5) := by first | (rw [hy119]; with_reducible exact H) | (have H2_ := (Option.bind_some _ _).symm.trans H; rw [hy119]; with_reducible exact H2_) | (have H2_ := (Option.bind_some _ _).symm.trans H; with_reducible exact H2_) | with_reducible exact H | (rw [hy119]; exact H) | exact H
                  have Ny119 := Qz.mk hy119
                  clear hy119
                  have c117b0 := eq_true (of_decide_eq_true yq20 : 0 ≤ x12_4)
                  by_cases c118 : x12_4 ≤ (x109000_3.length : Int)
                  ·rw [if_pos c118] at H
                   have c118b0 := eq_true c118
                   have c118b1 : decide (x12_4 ≤ (x109000_3.length : Int)) = true := decide_eq_true c118
                   clear c118
                   obtain ⟨y122, hy122⟩ : ∃ y_ : List (S66), y_ = (x109000_3.take (x12_4 : Int).toNat) := ⟨_, rfl⟩
                   replace H : (if y119.length + y122.length < 2513169434916 then ((some (y119 ++ y122 : List (S66))).bind fun y126 => (if y126.length < 2513169434916 then ((some (y126 ++ [(⟨(qm l1_0 x11_3).f0, (qm l1_0 x11_3).f1, (qm l1_0 x11_3).f2, (qm l1_0 x11_3).f3, (qm l1_0 x11_3).f4⟩ : S66)] : List (S66))).bind fun y130 => ((some (x109000_3.drop (x12_4 : Int).toNat : List (S66))).bind fun y133 => (if y130.length + y133.length < 2513169434916 then (spec_Apply.l2 k4 (wrap64 (x11_3 + 1)) l1_0 l1_1 a1_2 a1_3 a1_4 (y130 ++ y133) a1_2 a1_3 a1_4) else (none)))) else (none))) else (none)) = some (r1, r2, r3, r4, r5) := by first | (rw [hy122]; with_reducible exact H) | (have H2_ := (Option.bind_some _ _).symm.trans H; rw [hy122]; with_reducible exact H2_) | (have H2_ := (Option.bind_some _ _).symm.trans H; with_reducible exact H2_) | with_reducible exact H | (rw [hy122]; exact H) | exact H
                   have Ny122 := Qz.mk hy122
                   clear hy122
                   by_cases c119 : y119.length + y122.length < 2513169434916
                   ·rw [if_pos c119] at H
                    have LMc119 := Qz.mk c119
                    clear c119
                    obtain ⟨y126, hy126⟩ : ∃ y_ : List (S66), y_ = (y119 ++ y122) := ⟨_, rfl⟩
                    replace H : (if y126.length < 2513169434916 then ((some (y126 ++ [(⟨(qm l1_0 x11_3).f0, (qm l1_0 x11_3).f1, (qm l1_0 x11_3).f2, (qm l1_0 x11_3).f3, (qm l1_0 x11_3).f4⟩ : S66)] : List (S66))).bind fun y130 => ((some (x109000_3.drop (x12_4 : Int).toNat : List (S66))).bind fun y133 => (if y130.length + y133.length < 2513169434916 then (spec_Apply.l2 k4 (wrap64 (x11_3 + 1)) l1_0 l1_1 a1_2 a1_3 a1_4 (y130 ++ y133) a1_2 a1_3 a1_4) else (none)))) else (none)) = some (r1, r2, r3, r4, r5) := by first | (rw [hy126]; with_reducible exact H) | (have H2_ := (Option.bind_some _ _).symm.trans H; rw [hy126]; with_reducible exact H2_) | (have H2_ := (Option.bind_some _ _).symm.trans H; with_reducible exact H2_) | with_reducible exact H | (rw [hy126]; exact H) | exact H
                    have Ny126 := Qz.mk hy126
                    clear hy126
                    by_cases c120 : y126.length < 2513169434916
                    ·rw [if_pos c120] at H
                     have LMc120 := Qz.mk c120
                     clear c120
                     obtain ⟨y130, hy130⟩ : ∃ y_ : List (S66), y_ = (y126 ++ [(⟨(qm l1_0 x11_3).f0, (qm l1_0 x11_3).f1, (qm l1_0 x11_3).f2, (qm l1_0 x11_3).f3, (qm l1_0 x11_3).f4⟩ : S66)]) := ⟨_, rfl⟩
                     replace H : ((some (x109000_3.drop (x12_4 : Int).toNat : List (S66))).bind fun y133 => (if y130.length + y133.length < 2513169434916 then (spec_Apply.l2 k4 (wrap64 (x11_3 + 1)) l1_0 l1_1 a1_2 a1_3 a1_4 (y130 ++ y133) a1_2 a1_3 a1_4) else (none))) = some (r1, r2, r3, r4, r5) := by first | (rw [hy130]; with_reducible exact H) | (have H2_ := (Option.bind_some _ _).symm.trans H; rw [hy130]; with_reducible exact H2_) | (have H2_ := (Option.bind_some _ _).symm.trans H; with_reducible exact H2_) | with_reducible exact H | (rw [hy130]; exact H) | exact H
                     have Ny130 := Qz.mk hy130
                     clear hy130
                     have c121b0 := eq_true (of_decide_eq_true yq20 : 0 ≤ x12_4)
                     have c122b0 := eq_true (of_decide_eq_true yq20 : x12_4 ≤ (x109000_3.length : Int))
                     obtain ⟨y133, hy133⟩ : ∃ y_ : List (S66), y_ = (x109000_3.drop (x12_4 : Int).toNat) := ⟨_, rfl⟩
                     replace H : (if y130.length + y133.length < 2513169434916 then (spec_Apply.l2 k4 (wrap64 (x11_3 + 1)) l1_0 l1_1 a1_2 a1_3 a1_4 (y130 ++ y133) a1_2 a1_3 a1_4) else (none)) = some (r1, r2, r3, r4, r5) := by first | (rw [hy133]; with_reducible exact H) | (have H2_ := (Option.bind_some _ _).symm.trans H; rw [hy133]; with_reducible exact H2_) | (have H2_ := (Option.bind_some _ _).symm.trans H; with_reducible exact H2_) | with_reducible exact H | (rw [hy133]; exact H) | exact H
                     have Ny133 := Qz.mk hy133
                     clear hy133
                     by_cases c123 : y130.length + y133.length < 2513169434916
                     ·rw [if_pos c123] at H
                      have LMc123 := Qz.mk c123
                      clear c123
                      obtain ⟨y137, hy137⟩ : ∃ y_ : List (S66), y_ = (y130 ++ y133) := ⟨_, rfl⟩
                      replace H : (spec_Apply.l2 k4 (wrap64 (x11_3 + 1)) l1_0 l1_1 a1_2 a1_3 a1_4 y137 a1_2 a1_3 a1_4) = some (r1, r2, r3, r4, r5) := by first | (rw [hy137]; with_reducible exact H) | (have H2_ := (Option.bind_some _ _).symm.trans H; rw [hy137]; with_reducible exact H2_) | (have H2_ := (Option.bind_some _ _).symm.trans H; with_reducible exact H2_) | with_reducible exact H | (rw [hy137]; exact H) | exact H
                      have Ny137 := Qz.mk hy137
                      clear hy137
                      have H' := Qz.mk H
                      clear H
                      try go_wp2
                      replace HO_109000 := Qz.mk (Kd.R_drew HO_109000.out)
                      replace BK101 := Qz.mk (qc BK101.out)
                      replace BK102 := Qz.mk (qc BK102.out)
                      replace BK103 := Qz.mk (qc BK103.out)
                      replace BK108 := Qz.mk (qc BK108.out)
                      replace HB := Qz.mk (qh HB.out)
                      obtain ⟨Ao125, co125, eo125⟩ := Kd.R_slice HO_109000.out
                      (first | subst eo125 | (injection eo125 with f1_ f2_ f3_; have f4_ := f1_.symm; have f5_ := f3_.symm; clear f1_ f2_ f3_; subst f4_; subst f5_))
                      have p116 : 0 ≤ (x12_4 : Int) := of_decide_eq_true yq20
                      have q116 : x12_4 < (x109000_3.length : Int) := of_decide_eq_true yq20
                      obtain ⟨ad116, e116, hx116_0, hx116_1, hx116_2, hx116_3, hx116_4⟩ := at_T66 (Kd.R_reads' HO_109000.out).2.2 x12_4 p116 q116
                      cases e116
                      replace p116 := eq_true p116
                      replace q116 := eq_true q116
                      have p117 : 0 ≤ (x11_3 : Int) := of_decide_eq_true yq20
                      have q117 : x11_3 < (l1_0.length : Int) := of_decide_eq_true yq20
                      obtain ⟨ad117, e117, hx117_0, hx117_1, hx117_2, hx117_3, hx117_4⟩ := at_T66 HR1_0.out x11_3 p117 q117
                      have hw117_4 := hx117_4
                      have hw117_3 := hx117_3
                      have hw117_2 := hx117_2
                      have hw117_1 := hx117_1
                      have hw117_0 := hx117_0
                      cases e117
                      replace hx117_0 := (HB.out.cell (World.block_lt_of_cell? w _ hx117_0)).trans hx117_0
                      replace hx117_1 := (HB.out.cell (World.block_lt_of_cell? w _ hx117_1)).trans hx117_1
                      replace hx117_2 := (HB.out.cell (World.block_lt_of_cell? w _ hx117_2)).trans hx117_2
                      replace hx117_3 := (HB.out.cell (World.block_lt_of_cell? w _ hx117_3)).trans hx117_3
                      replace hx117_4 := (HB.out.cell (World.block_lt_of_cell? w _ hx117_4)).trans hx117_4
                      replace p117 := eq_true p117
                      replace q117 := eq_true q117
                      refine start_ (n := 18) (S := fun w' => w'.cell? ⟨gb108, 0, none⟩ = some (.slice (some ad116) x109000_3.length co125) ∧ w'.cell? ⟨gb108, 1, none⟩ = some (.int .i64 a1_2) ∧ w'.cell? ⟨gb108, 2, none⟩ = some (.int .i64 a1_3) ∧ w'.cell? ⟨gb108, 3, none⟩ = some (.int .i64 a1_4) ∧ w'.cell? ⟨gb102, 0, none⟩ = some (.slice (some ad117) l1_0.length c1_0) ∧ w'.cell? ⟨gb102, 1, none⟩ = some (.slice A1_1 l1_1.length c1_1) ∧ w'.cell? ⟨gb102, 2, none⟩ = some (.int .i64 a1_2) ∧ w'.cell? ⟨gb102, 3, none⟩ = some (.int .i64 a1_3) ∧ w'.cell? ⟨gb102, 4, none⟩ = some (.int .i64 a1_4) ∧ w'.cell? (ad116.add ((x12_4).toNat * 5)) = some (.int .i64 ((qm x109000_3 x12_4).f0)) ∧ w'.cell? ⟨(ad116.add ((x12_4).toNat * 5)).block, (ad116.add ((x12_4).toNat * 5)).off + 1, none⟩ = some (.int .i64 ((qm x109000_3 x12_4).f1)) ∧ w'.cell? ⟨(ad116.add ((x12_4).toNat * 5)).block, (ad116.add ((x12_4).toNat * 5)).off + 2, none⟩ = some (.string ((qm x109000_3 x12_4).f2)) ∧ w'.cell? ⟨(ad116.add ((x12_4).toNat * 5)).block, (ad116.add ((x12_4).toNat * 5)).off + 3, none⟩ = some (.string ((qm x109000_3 x12_4).f3)) ∧ w'.cell? ⟨(ad116.add ((x12_4).toNat * 5)).block, (ad116.add ((x12_4).toNat * 5)).off + 4, none⟩ = some (.int .i64 ((qm x109000_3 x12_4).f4)) ∧ w'.cell? (ad117.add ((x11_3).toNat * 5)) = some (.int .i64 ((qm l1_0 x11_3).f0)) ∧ w'.cell? ⟨(ad117.add ((x11_3).toNat * 5)).block, (ad117.add ((x11_3).toNat * 5)).off + 1, none⟩ = some (.int .i64 ((qm l1_0 x11_3).f1)) ∧ w'.cell? ⟨(ad117.add ((x11_3).toNat * 5)).block, (ad117.add ((x11_3).toNat * 5)).off + 2, none⟩ = some (.string ((qm l1_0 x11_3).f2)) ∧ w'.cell? ⟨(ad117.add ((x11_3).toNat * 5)).block, (ad117.add ((x11_3).toNat * 5)).off + 3, none⟩ = some (.string ((qm l1_0 x11_3).f3)) ∧ w'.cell? ⟨(ad117.add ((x11_3).toNat * 5)).block, (ad117.add ((x11_3).toNat * 5)).off + 4, none⟩ = some (.int .i64 ((qm l1_0 x11_3).f4))) (ds := []) bq0 (by kernel_rfl) rfl rfl ⟨(qd BK108.out 0).trans rfl, (qd BK108.out 1).trans rfl, (qd BK108.out 2).trans rfl, (qd BK108.out 3).trans rfl, (qd BK102.out 0).trans rfl, (qd BK102.out 1).trans rfl, (qd BK102.out 2).trans rfl, (qd BK102.out 3).trans rfl, (qd BK102.out 4).trans rfl, hx116_0, hx116_1, hx116_2, hx116_3, hx116_4, ((HB.out.cell (World.block_lt_of_cell? w _ hw117_0)).trans hw117_0), ((HB.out.cell (World.block_lt_of_cell? w _ hw117_1)).trans hw117_1), ((HB.out.cell (World.block_lt_of_cell? w _ hw117_2)).trans hw117_2), ((HB.out.cell (World.block_lt_of_cell? w _ hw117_3)).trans hw117_3), ((HB.out.cell (World.block_lt_of_cell? w _ hw117_4)).trans hw117_4)⟩ (fun hHeld => ?_); refine with_tabW spec_Apply.tab22 spec_Apply.bits22 (fun HT_ HW_ => ?_)
                      generalize wr.drew = w124 at HO_109000 BK101 BK102 BK103 BK108 HB hx116_0 hx116_1 hx116_2 hx116_3 hx116_4 hx117_0 hx117_1 hx117_2 hx117_3 hx117_4 hHeld ⊢
                      refine pure_ (i := 0) (N := some 108) (v := ?_) (a' := ?_) bq5 rfl rfl (qz HT_.out (by kernel_rfl)) (fun _ _ _ h => h) (Or.inl ⟨by rfl, ?_⟩) ?_ ?_
                      rotate_left
                      ·intro w'
                       go_simp
                       with_reducible rfl
                      rotate_left
                      ·simp only [Act.put, sq1, sq2, sq3, i64_w, i32_w]
                       rfl
                      refine pure_ (i := 1) (N := some 109) (v := ?_) (a' := ?_) bq9 rfl rfl (qz HT_.out (by kernel_rfl)) (fun _ _ _ h => h) (Or.inl ⟨by rfl, ?_⟩) ?_ ?_
                      rotate_left
                      ·intro w'
                       go_simp
                       with_reducible rfl
                      rotate_left
                      ·simp only [Act.put, sq1, sq2, sq3, i64_w, i32_w]
                       rfl
                      refine take_ (i := 2) (N := some 110) (v := ?_) (a' := ?_) bq12 rfl rfl (take_ofW HT_.out HW_.out (by kernel_rfl)) (fun _ _ _ h => h) (Or.inl ⟨by rfl, ?_⟩) hHeld ?_ ?_
                      rotate_left
                      ·rintro w' ⟨s0, s1, s2, s3, s4, s5, s6, s7, s8, s9, s10, s11, s12, s13, s14, s15, s16, s17, s18⟩
                       go_simp
                       with_reducible rfl
                      rotate_left
                      ·simp only [Act.put, sq1, sq2, sq3, i64_w, i32_w]
                       rfl
                      refine pure_ (i := 3) (N := some 111) (v := ?_) (a' := ?_) bq17 rfl rfl (qz HT_.out (by kernel_rfl)) (fun _ _ _ h => h) (Or.inl ⟨by rfl, ?_⟩) ?_ ?_
                      rotate_left
                      ·intro w'
                       go_simp
                       with_reducible rfl
                      rotate_left
                      ·simp only [Act.put, sq1, sq2, sq3, i64_w, i32_w]
                       rfl
                      refine pure_ (i := 4) (N := some 112) (v := ?_) (a' := ?_) bq21 rfl rfl (qz HT_.out (by kernel_rfl)) (fun _ _ _ h => h) (Or.inl ⟨by rfl, ?_⟩) ?_ ?_
                      rotate_left
                      ·intro w'
                       go_simp
                       with_reducible rfl
                      rotate_left
                      ·simp only [Act.put, sq1, sq2, sq3, i64_w, i32_w]
                       rfl
                      refine pure_ (i := 5) (N := some 113) (v := ?_) (a' := ?_) bq25 rfl rfl (qz HT_.out (by kernel_rfl)) (fun _ _ _ h => h) (Or.inl ⟨by rfl, ?_⟩) ?_ ?_
                      rotate_left
                      ·intro w'
                       go_simp
                       with_reducible rfl
                      rotate_left
                      ·simp only [Act.put, sq1, sq2, sq3, i64_w, i32_w]
                       rfl
                      refine pure_ (i := 6) (N := some 114) (v := ?_) (a' := ?_) bq30 rfl rfl (qz HT_.out (by kernel_rfl)) (fun _ _ _ h => h) (Or.inl ⟨by rfl, ?_⟩) ?_ ?_
                      rotate_left
                      ·intro w'
                       go_simp
                       with_reducible rfl
                      rotate_left
                      ·simp only [Act.put, sq1, sq2, sq3, i64_w, i32_w]
                       rfl
                      refine pure_ (i := 8) (N := some 116) (v := ?_) (a' := ?_) bq33 rfl rfl (qz HT_.out (by kernel_rfl)) (fun _ _ _ h => h) (Or.inl ⟨by rfl, ?_⟩) ?_ ?_
                      rotate_left
                      ·intro w'
                       go_simp
                       with_reducible rfl
                      rotate_left
                      ·simp only [Act.put, sq1, sq2, sq3, i64_w, i32_w]
                       rfl
                      refine pure_ (i := 11) (N := some 119) (v := ?_) (a' := ?_) bq34 rfl rfl (qz HT_.out (by kernel_rfl)) (fun _ _ _ h => h) (Or.inl ⟨by rfl, ?_⟩) ?_ ?_
                      rotate_left
                      ·intro w'
                       go_simp
                       with_reducible rfl
                      rotate_left
                      ·simp only [Act.put, sq1, sq2, sq3, i64_w, i32_w]
                       rfl
                      refine pure_ (i := 13) (N := some 121) (v := ?_) (a' := ?_) bq35 rfl rfl (qz HT_.out (by kernel_rfl)) (fun _ _ _ h => h) (Or.inl ⟨by rfl, ?_⟩) ?_ ?_
                      rotate_left
                      ·intro w'
                       go_simp
                       with_reducible rfl
                      rotate_left
                      ·simp only [Act.put, sq1, sq2, sq3, i64_w, i32_w]
                       rfl
                      refine take_ (i := 7) (N := some 115) (v := ?_) (a' := ?_) bq42 rfl rfl (take_ofW HT_.out HW_.out (by kernel_rfl)) (fun _ _ _ h => h) (Or.inl ⟨by rfl, ?_⟩) hHeld ?_ ?_
                      rotate_left
                      ·rintro w' ⟨s0, s1, s2, s3, s4, s5, s6, s7, s8, s9, s10, s11, s12, s13, s14, s15, s16, s17, s18⟩
                       go_simp
                       with_reducible rfl
                      rotate_left
                      ·simp only [Act.put, sq1, sq2, sq3, i64_w, i32_w]
                       rfl
                      refine pure_ (i := 9) (N := some 117) (v := ?_) (a' := ?_) bq46 rfl rfl (qz HT_.out (by kernel_rfl)) (fun _ _ _ h => h) (Or.inl ⟨by rfl, ?_⟩) ?_ ?_
                      rotate_left
                      ·intro w'
                       go_simp
                       with_reducible rfl
                      rotate_left
                      ·simp only [Act.put, sq1, sq2, sq3, i64_w, i32_w]
                       rfl
                      refine take_ (i := 10) (N := some 118) (v := ?_) (a' := ?_) bq50 rfl rfl (take_ofW HT_.out HW_.out (by kernel_rfl)) (fun _ _ _ h => h) (Or.inl ⟨by rfl, ?_⟩) hHeld ?_ ?_
                      rotate_left
                      ·rintro w' ⟨s0, s1, s2, s3, s4, s5, s6, s7, s8, s9, s10, s11, s12, s13, s14, s15, s16, s17, s18⟩
                       go_simp
                       with_reducible rfl
                      rotate_left
                      ·simp only [Act.put, sq1, sq2, sq3, i64_w, i32_w]
                       rfl
                      refine take_ (i := 12) (N := some 120) (v := ?_) (a' := ?_) bq53 rfl rfl (take_ofW HT_.out HW_.out (by kernel_rfl)) (fun _ _ _ h => h) (Or.inl ⟨by rfl, ?_⟩) hHeld ?_ ?_
                      rotate_left
                      ·rintro w' ⟨s0, s1, s2, s3, s4, s5, s6, s7, s8, s9, s10, s11, s12, s13, s14, s15, s16, s17, s18⟩
                       go_simp
                       with_reducible rfl
                      rotate_left
                      ·simp only [Act.put, sq1, sq2, sq3, i64_w, i32_w]
                       rfl
                      refine pure_ (i := 14) (N := some 122) (v := ?_) (a' := ?_) bq56 rfl rfl (qz HT_.out (by kernel_rfl)) (fun _ _ _ h => h) (Or.inl ⟨by rfl, ?_⟩) ?_ ?_
                      rotate_left
                      ·intro w'
                       go_simp
                       with_reducible rfl
                      rotate_left
                      ·simp only [Act.put, sq1, sq2, sq3, i64_w, i32_w]
                       rfl
                      refine take_ (i := 15) (N := some 123) (v := ?_) (a' := ?_) bq58 rfl rfl (take_ofW HT_.out HW_.out (by kernel_rfl)) (fun _ _ _ h => h) (Or.inl ⟨by rfl, ?_⟩) hHeld ?_ ?_
                      rotate_left
                      ·rintro w' ⟨s0, s1, s2, s3, s4, s5, s6, s7, s8, s9, s10, s11, s12, s13, s14, s15, s16, s17, s18⟩
                       go_simp
                       with_reducible rfl
                      rotate_left
                      ·simp only [Act.put, sq1, sq2, sq3, i64_w, i32_w]
                       rfl
                      refine one_ (i := 16) (N := some 124) bq59 rfl rfl (one_of HT_.out (by kernel_rfl)) (by decide) (fun K hK => ?_)
                      refine goes_ Try.func56 (by kernel_rfl) rfl #[.agg #[.int .i64 ((qm x109000_3 x12_4).f0), .int .i64 ((qm x109000_3 x12_4).f1), .string ((qm x109000_3 x12_4).f2), .string ((qm x109000_3 x12_4).f3), .int .i64 ((qm x109000_3 x12_4).f4)], .agg #[.int .i64 ((qm l1_0 x11_3).f0), .int .i64 ((qm l1_0 x11_3).f1), .string ((qm l1_0 x11_3).f2), .string ((qm l1_0 x11_3).f3), .int .i64 ((qm l1_0 x11_3).f4)]] (by rfl) rfl rfl (by (try simp only [List.map_toArray, List.map_cons, List.map_nil]); first | done | rfl) ?_
                      with_reducible refine (spec_l12Ahead.calls ((qm x109000_3 x12_4).f0) ((qm x109000_3 x12_4).f1) ((qm x109000_3 x12_4).f2) ((qm x109000_3 x12_4).f3) ((qm x109000_3 x12_4).f4) ((qm l1_0 x11_3).f0) ((qm l1_0 x11_3).f1) ((qm l1_0 x11_3).f2) ((qm l1_0 x11_3).f3) ((qm l1_0 x11_3).f4) false _ A112.out).mono ?_
                      rintro e w126 ⟨rfl, hb⟩
                      have HS9_ := (hb.cell (World.block_lt_of_cell? _ _ (hHeld.2.2.2.2.2.2.2.2.2.1))).trans (hHeld.2.2.2.2.2.2.2.2.2.1)
                      have HS10_ := (hb.cell (World.block_lt_of_cell? _ _ (hHeld.2.2.2.2.2.2.2.2.2.2.1))).trans (hHeld.2.2.2.2.2.2.2.2.2.2.1)
                      have HS11_ := (hb.cell (World.block_lt_of_cell? _ _ (hHeld.2.2.2.2.2.2.2.2.2.2.2.1))).trans (hHeld.2.2.2.2.2.2.2.2.2.2.2.1)
                      have HS12_ := (hb.cell (World.block_lt_of_cell? _ _ (hHeld.2.2.2.2.2.2.2.2.2.2.2.2.1))).trans (hHeld.2.2.2.2.2.2.2.2.2.2.2.2.1)
                      have HS13_ := (hb.cell (World.block_lt_of_cell? _ _ (hHeld.2.2.2.2.2.2.2.2.2.2.2.2.2.1))).trans (hHeld.2.2.2.2.2.2.2.2.2.2.2.2.2.1)
                      refine ⟨_, rfl, ?_⟩
                      replace HO_109000 := Qz.mk (Kd.R_below yq14 hb)
                      replace BK101 := Qz.mk (qo (g := gb101) (o := .cells #[.slice A0_0 l0_0.length c0_0, .int .i64 a0_1, .int .i64 a0_2, .int .i64 a0_3] 32 (0, 0)) yq15 hb)
                      replace BK102 := Qz.mk (qo (g := gb102) (o := .cells #[.slice (some ad117) l1_0.length c1_0, .slice A1_1 l1_1.length c1_1, .int .i64 a1_2, .int .i64 a1_3, .int .i64 a1_4] 37 (0, 0)) yq16 hb)
                      replace BK103 := Qz.mk (qo (g := gb103) (o := .cells #[.slice none 0 0, .int .i64 0, .int .i64 0, .int .i64 0] 32 (0, 0)) yq17 hb)
                      replace BK108 := Qz.mk (qo (g := gb108) (o := .cells #[.slice (some ad116) x109000_3.length co125, .int .i64 a1_2, .int .i64 a1_3, .int .i64 a1_4] 32 (0, 0)) yq21 hb)
                      replace HB := Qz.mk (qp yq13 hb)
                      (try clear hb)
                      (try clear hk)
                      refine hK.out _ _ ⟨(qd BK108.out 0).trans rfl, (qd BK108.out 1).trans rfl, (qd BK108.out 2).trans rfl, (qd BK108.out 3).trans rfl, (qd BK102.out 0).trans rfl, (qd BK102.out 1).trans rfl, (qd BK102.out 2).trans rfl, (qd BK102.out 3).trans rfl, (qd BK102.out 4).trans rfl, HS9_, HS10_, HS11_, HS12_, HS13_, ((HB.out.cell (World.block_lt_of_cell? w _ hw117_0)).trans hw117_0), ((HB.out.cell (World.block_lt_of_cell? w _ hw117_1)).trans hw117_1), ((HB.out.cell (World.block_lt_of_cell? w _ hw117_2)).trans hw117_2), ((HB.out.cell (World.block_lt_of_cell? w _ hw117_3)).trans hw117_3), ((HB.out.cell (World.block_lt_of_cell? w _ hw117_4)).trans hw117_4)⟩ (fun hHeld => ?_)
                      clear hK K
                      refine norm_ (a' := ?_) ?_ ?_
                      rotate_left
                      ·show Act.put _ (some 124) _ = _
                       simp only [Act.put, sq1, sq2, sq3, i64_w, i32_w]
                       rfl
                      refine pure_ (i := 17) (N := some 125) (v := ?_) (a' := ?_) bq60 rfl rfl (qz HT_.out (by kernel_rfl)) (fun _ _ _ h => h) (Or.inl ⟨by rfl, ?_⟩) ?_ ?_
                      rotate_left
                      ·intro w'
                       go_simp
                       with_reducible rfl
                      rotate_left
                      ·simp only [Act.put, sq1, sq2, sq3, i64_w, i32_w]
                       rfl
                      refine done_ (done_of HT_.out (by kernel_rfl)) ?_
                      try go_wp2_with (first | ((with_reducible refine gate_dst (N := 128) rfl ?_); (try (refine gate_guard (by rfl) ?_; dsimp only)); refine Kd.R_lit k66 _ 66 ?hg (N := 128) ?hd (xs := ([] : List (S66))) (inner := []) (ok := fun _ => True) (okp := fun _ => True) ?hr ?hp (fun _ hk => hk) trivial (Below.refl _ _) (Nat.le_refl _) (by simp) ?_; (case hd => rfl); (case hg => rfl); (case hr => exact yq27); (case hp => exact (Reps.none _ _)); intro v120 w127 ho128 hb hg_ hnew_; clear hg_ hnew_; (first | rw [← Ny119.out] at ho128 | (simp only [Int.reduceToNat] at ho128; rw [← Ny119.out] at ho128)); have HO121 := Qz.mk (Kd.R_lower (Kd.R_new' ho128 (Kd.R_lt yq14)) (qu yq13)); replace HO_109000 := Qz.mk (Kd.R_elder' yq14 (Kd.R_base ho128) hb); replace BK101 := Qz.mk (qo (g := gb101) (o := .cells #[.slice A0_0 l0_0.length c0_0, .int .i64 a0_1, .int .i64 a0_2, .int .i64 a0_3] 32 (0, 0)) yq15 hb); replace BK102 := Qz.mk (qo (g := gb102) (o := .cells #[.slice (some ad117) l1_0.length c1_0, .slice A1_1 l1_1.length c1_1, .int .i64 a1_2, .int .i64 a1_3, .int .i64 a1_4] 37 (0, 0)) yq16 hb); replace BK103 := Qz.mk (qo (g := gb103) (o := .cells #[.slice none 0 0, .int .i64 0, .int .i64 0, .int .i64 0] 32 (0, 0)) yq17 hb); replace BK108 := Qz.mk (qo (g := gb108) (o := .cells #[.slice (some ad116) x109000_3.length co125, .int .i64 a1_2, .int .i64 a1_3, .int .i64 a1_4] 32 (0, 0)) yq21 hb); replace HB := Qz.mk (qp yq13 hb); clear hb ho128; have hnb129 := NB108_101.out; have hnc129 := NB101_108.out; have hnb130 := NB108_102.out; have hnc130 := NB102_108.out; have hnb131 := NB108_103.out; have hnc131 := NB103_108.out; have hcz132_0 := (qd BK108.out 0).trans rfl; have hcz132_1 := (qd BK108.out 1).trans rfl; have hcz132_2 := (qd BK108.out 2).trans rfl; have hcz132_3 := (qd BK108.out 3).trans rfl; have hfz132_0 := qe BK108.out 0; have hfz132_1 := qe BK108.out 1; have hfz132_2 := qe BK108.out 2; have hfz132_3 := qe BK108.out 3; have q133 : (x12_4 : Int) ≤ ((x109000_3.length : Int) : Int) := of_decide_eq_true yq20; obtain ⟨i0133, hi0133, _, hsz133, _⟩ := info_parts info66; have hroom133 : x109000_3.length ≤ co125 := (Kd.R_reads' HO_109000.out).2.1; have hC133 : Kd.C k66 _ (some ad116) x109000_3.length x109000_3 := (Kd.R_reads' HO_109000.out).2.2; have hcut133 := cut_to (P := Try.prog) 30 66 .i64 Try.underlying30 hi0133 (some ad116) x109000_3.length co125 x12_4 (of_decide_eq_true yq20) q133 hroom133; have hr133 := Kd.C_take (m := (x12_4 : Int).toNat) hC133 (by omega); have hy133 : y122.length = (x12_4 : Int).toNat := (by rw [Ny122.out, List.length_take]; omega); rw [← Ny122.out] at hr133; rw [← hy133] at hcut133; have HR125 := Qz.mk hr133; have HC125 := Qz.mk (show y122.length ≤ co125 from by omega); clear hr133 hC133 hroom133 hi0133 hsz133; have KY133 := Qz.mk hy133; clear hy133; have KL133 := Qz.mk (show (x12_4 : Int).toNat ≤ x109000_3.length from by omega); replace q133 := eq_true q133) | ((with_reducible refine gate_builtin (b := .append) (xs := #[.tmp 128, .tmp 132]) rfl ?_); (try (refine gate_guard (by rfl) ?_; dsimp only)); at_builtin; refine Kd.R_append_rows k66 (w0 := w) w.heap.size rfl (.tmp 128) (.tmp 132) 30 66 (.agg #[(.int .i64 0), (.int .i64 0), (.string ⟨#[]⟩), (.string ⟨#[]⟩), (.int .i64 0)]) 56 rfl Try.underlying30 info66 rfl (by decide) (by omega) v120 y119 y122 _ _ _ (fun k_ => some k_ ≠ (.slice (some ad116) x109000_3.length co125 : Value).ownBlock) (fun _ => False) rfl rfl ?aO ?aR (fun _ _ h => h) (fun _ h => h.elim) ?aF ?aB ?aS ?aL ?_; (case aR => repeat (first | exact (by repeat (first | (with_reducible exact HR125.out) | (with_reducible refine Kd.C_alloc ?_ _) | (with_reducible refine Kd.C_drewN ?_ _) | (with_reducible refine Kd.C_drew ?_) | exact HR125.out)) | (with_reducible refine Kd.C_alloc ?_ _) | (with_reducible refine Kd.C_drewN ?_ _) | (with_reducible refine Kd.C_drew ?_))); (case aB => exact yq13); (case aF => exact (fun k_ hk => Kd.fresh' (Kd.R_lt yq14) k_ hk)); (case aO => exact (by (with_reducible repeat (first | apply Kd.R_alloc | apply Kd.R_drewN | apply Kd.R_drew)); exact Kd.R_mono HO121.out (fun _ hk => hk.2))); (case aS => exact (qu yq13)); (case aL => have := LMc119.out; omega); intro v127 w134 ho hb hg hat; rw [← Ny126.out] at ho; have n0_ := Qz.mk (Kd.R_after (ok := (fun _ => True)) yq14 hg hat); have n1_ := Qz.mk (qd1 (g := gb101) (o := .cells #[.slice A0_0 l0_0.length c0_0, .int .i64 a0_1, .int .i64 a0_2, .int .i64 a0_3] 32 (0, 0)) yq15 hg (Kd.R_ne HO121.out BK101.out (by decide))); have n2_ := Qz.mk (qd1 (g := gb102) (o := .cells #[.slice (some ad117) l1_0.length c1_0, .slice A1_1 l1_1.length c1_1, .int .i64 a1_2, .int .i64 a1_3, .int .i64 a1_4] 37 (0, 0)) yq16 hg (Kd.R_ne HO121.out BK102.out (by decide))); have n3_ := Qz.mk (qd1 (g := gb103) (o := .cells #[.slice none 0 0, .int .i64 0, .int .i64 0, .int .i64 0] 32 (0, 0)) yq17 hg (Kd.R_ne HO121.out BK103.out (by decide))); have n4_ := Qz.mk (qd1 (g := gb108) (o := .cells #[.slice (some ad116) x109000_3.length co125, .int .i64 a1_2, .int .i64 a1_3, .int .i64 a1_4] 32 (0, 0)) yq21 hg (Kd.R_ne HO121.out BK108.out (by decide))); have n5_ := Qz.mk (hb); have n6_ := Qz.mk ((show Kd.C k66 w134 (some ad116) y122.length y122 from by rw [Ny122.out]; exact Kd.C_take (m := (x12_4 : Int).toNat) ((Kd.R_reads' (Kd.R_after (ok := (fun _ => True)) yq14 hg hat)).2.2) KL133.out)); have n7_ := Qz.mk (ho); clear HO_109000; clear BK101; clear BK102; clear BK103; clear BK108; clear HB; clear HR125; clear HO121; have HO_109000 := n0_; have BK101 := n1_; have BK102 := n2_; have BK103 := n3_; have BK108 := n4_; have HB := n5_; have HR125 := n6_; have HO128 := n7_; clear n0_ n1_ n2_ n3_ n4_ n5_ n6_ n7_; clear ho hb hg hat; have hnb135 := NB102_101.out; have hnc135 := NB101_102.out; have hnb136 := NB102_103.out; have hnc136 := NB103_102.out; have hcz137_0 := (qd BK102.out 0).trans rfl; have hcz137_1 := (qd BK102.out 1).trans rfl; have hcz137_2 := (qd BK102.out 2).trans rfl; have hcz137_3 := (qd BK102.out 3).trans rfl; have hcz137_4 := (qd BK102.out 4).trans rfl; have hfz137_0 := qe BK102.out 0; have hfz137_1 := qe BK102.out 1; have hfz137_2 := qe BK102.out 2; have hfz137_3 := qe BK102.out 3; have hfz137_4 := qe BK102.out 4; have p129 : 0 ≤ (x11_3 : Int) := of_decide_eq_true yq20; have q129 : x11_3 < (l1_0.length : Int) := of_decide_eq_true yq20; obtain ⟨ad129, e129, hx129_0, hx129_1, hx129_2, hx129_3, hx129_4⟩ := at_T66 HR1_0.out x11_3 p129 q129; obtain rfl : ad117 = ad129 := (by injection e129); replace hx129_0 := (HB.out.cell (World.block_lt_of_cell? w _ hx129_0)).trans hx129_0; replace hx129_1 := (HB.out.cell (World.block_lt_of_cell? w _ hx129_1)).trans hx129_1; replace hx129_2 := (HB.out.cell (World.block_lt_of_cell? w _ hx129_2)).trans hx129_2; replace hx129_3 := (HB.out.cell (World.block_lt_of_cell? w _ hx129_3)).trans hx129_3; replace hx129_4 := (HB.out.cell (World.block_lt_of_cell? w _ hx129_4)).trans hx129_4; replace p129 := eq_true p129; replace q129 := eq_true q129) | ((with_reducible refine gate_builtin (b := .append) (xs := #[.tmp 134, .tmp 140]) rfl ?_); (try (refine gate_guard (by rfl) ?_; dsimp only)); at_builtin; refine Kd.R_append k66 (w0 := w) w.heap.size rfl (.tmp 134) (.tmp 140) 30 66 (.agg #[(.int .i64 0), (.int .i64 0), (.string ⟨#[]⟩), (.string ⟨#[]⟩), (.int .i64 0)]) 56 rfl Try.underlying30 info66 rfl (by decide) (by omega) v127 y126 (⟨(qm l1_0 x11_3).f0, (qm l1_0 x11_3).f1, (qm l1_0 x11_3).f2, (qm l1_0 x11_3).f3, (qm l1_0 x11_3).f4⟩ : S66) [.int .i64 ((qm l1_0 x11_3).f0), .int .i64 ((qm l1_0 x11_3).f1), .string ((qm l1_0 x11_3).f2), .string ((qm l1_0 x11_3).f3), .int .i64 ((qm l1_0 x11_3).f4)] (fun k_ => some k_ ≠ (.slice (some ad116) x109000_3.length co125 : Value).ownBlock) (fun _ => False) rfl rfl ?aP (fun _ hk => hk.elim) ?aF ?aO ?aB ?aS ?aL ?_; (case aP => exact k66_mkM _ _ _ (⟨(qm l1_0 x11_3).f0, (qm l1_0 x11_3).f1, (qm l1_0 x11_3).f2, (qm l1_0 x11_3).f3, (qm l1_0 x11_3).f4⟩ : S66)); (case aB => exact yq13); (case aF => exact (fun k_ hk => Kd.fresh' (Kd.R_lt yq14) k_ hk)); (case aO => exact (by (with_reducible repeat (first | apply Kd.R_alloc | apply Kd.R_drewN | apply Kd.R_drew)); exact HO128.out)); (case aS => exact (qu yq13)); (case aL => have := LMc120.out; omega); intro v131 w138 ho hb hg hat; rw [← Ny130.out] at ho; have n0_ := Qz.mk (Kd.R_after (ok := (fun _ => True)) yq14 hg hat); have n1_ := Qz.mk (qd1 (g := gb101) (o := .cells #[.slice A0_0 l0_0.length c0_0, .int .i64 a0_1, .int .i64 a0_2, .int .i64 a0_3] 32 (0, 0)) yq15 hg (Kd.R_ne HO128.out BK101.out (by decide))); have n2_ := Qz.mk (qd1 (g := gb102) (o := .cells #[.slice (some ad117) l1_0.length c1_0, .slice A1_1 l1_1.length c1_1, .int .i64 a1_2, .int .i64 a1_3, .int .i64 a1_4] 37 (0, 0)) yq16 hg (Kd.R_ne HO128.out BK102.out (by decide))); have n3_ := Qz.mk (qd1 (g := gb103) (o := .cells #[.slice none 0 0, .int .i64 0, .int .i64 0, .int .i64 0] 32 (0, 0)) yq17 hg (Kd.R_ne HO128.out BK103.out (by decide))); have n4_ := Qz.mk (qd1 (g := gb108) (o := .cells #[.slice (some ad116) x109000_3.length co125, .int .i64 a1_2, .int .i64 a1_3, .int .i64 a1_4] 32 (0, 0)) yq21 hg (Kd.R_ne HO128.out BK108.out (by decide))); have n5_ := Qz.mk (hb); have n6_ := Qz.mk ((show Kd.C k66 w138 (some ad116) y122.length y122 from by rw [Ny122.out]; exact Kd.C_take (m := (x12_4 : Int).toNat) ((Kd.R_reads' (Kd.R_after (ok := (fun _ => True)) yq14 hg hat)).2.2) KL133.out)); have n7_ := Qz.mk (ho); clear HO_109000; clear BK101; clear BK102; clear BK103; clear BK108; clear HB; clear HR125; clear HO128; have HO_109000 := n0_; have BK101 := n1_; have BK102 := n2_; have BK103 := n3_; have BK108 := n4_; have HB := n5_; have HR125 := n6_; have HO132 := n7_; clear n0_ n1_ n2_ n3_ n4_ n5_ n6_ n7_; clear ho hb hg hat; have hcz139_0 := (qd BK108.out 0).trans rfl; have hcz139_1 := (qd BK108.out 1).trans rfl; have hcz139_2 := (qd BK108.out 2).trans rfl; have hcz139_3 := (qd BK108.out 3).trans rfl; have hfz139_0 := qe BK108.out 0; have hfz139_1 := qe BK108.out 1; have hfz139_2 := qe BK108.out 2; have hfz139_3 := qe BK108.out 3; have q140 : (x12_4 : Int) ≤ ((x109000_3.length : Int) : Int) := of_decide_eq_true yq20; obtain ⟨i0140, hi0140, _, hsz140, _⟩ := info_parts info66; have hroom140 : x109000_3.length ≤ co125 := (Kd.R_reads' HO_109000.out).2.1; have hC140 : Kd.C k66 _ (some ad116) x109000_3.length x109000_3 := (Kd.R_reads' HO_109000.out).2.2; have q0140 : (0 : Int) ≤ (x12_4 : Int) := of_decide_eq_true yq20; have hcut140 := cut_from (P := Try.prog) 30 66 .i64 Try.underlying30 hi0140 5 hsz140 (some ad116) x109000_3.length co125 x12_4 q0140 q140; have hr140 := Kd.C_drop (m := (x12_4 : Int).toNat) (c := co125) hC140 (by omega) hroom140; obtain ⟨A140, hA140⟩ : ∃ A1, A1 = (if co125 = (x12_4 : Int).toNat then (some ad116) else ((some ad116) : Option Addr).map (·.add ((x12_4 : Int).toNat * 5))) := ⟨_, rfl⟩; obtain ⟨c140, hc140⟩ : ∃ c1, c1 = co125 - (x12_4 : Int).toNat := ⟨_, rfl⟩; have hy140 : y133.length = x109000_3.length - (x12_4 : Int).toNat := (by rw [Ny133.out, List.length_drop] <;> omega); rw [show (x109000_3).drop (x12_4 : Int).toNat = y133 from Ny133.out.symm] at hr140; replace hr140 : Kd.C k66 _ A140 y133.length y133 := (by rw [hA140]; exact hr140); rw [← hy140, ← hA140, ← hc140] at hcut140; have HR136 := Qz.mk hr140; have HC136 := Qz.mk (show y133.length ≤ c140 from by rw [hy140, hc140]; exact Nat.sub_le_sub_right hroom140 _); clear hr140 hC140 hroom140 hi0140 hsz140 hc140; have KY140 := Qz.mk hy140; have KA140 := Qz.mk hA140; clear hy140 hA140; have KL140 := Qz.mk (show (x12_4 : Int).toNat ≤ x109000_3.length from by omega); replace q140 := eq_true q140) | ((with_reducible refine gate_builtin (b := .append) (xs := #[.tmp 142, .tmp 146]) rfl ?_); (try (refine gate_guard (by rfl) ?_; dsimp only)); at_builtin; refine Kd.R_append_rows k66 (w0 := w) w.heap.size rfl (.tmp 142) (.tmp 146) 30 66 (.agg #[(.int .i64 0), (.int .i64 0), (.string ⟨#[]⟩), (.string ⟨#[]⟩), (.int .i64 0)]) 56 rfl Try.underlying30 info66 rfl (by decide) (by omega) v131 y130 y133 _ _ _ (fun k_ => some k_ ≠ (.slice (some ad116) x109000_3.length co125 : Value).ownBlock) (fun _ => False) rfl rfl ?aO ?aR (fun _ _ h => h) (fun _ h => h.elim) ?aF ?aB ?aS ?aL ?_; (case aR => repeat (first | exact (by repeat (first | (with_reducible exact HR136.out) | (with_reducible refine Kd.C_alloc ?_ _) | (with_reducible refine Kd.C_drewN ?_ _) | (with_reducible refine Kd.C_drew ?_) | exact HR136.out)) | (with_reducible refine Kd.C_alloc ?_ _) | (with_reducible refine Kd.C_drewN ?_ _) | (with_reducible refine Kd.C_drew ?_))); (case aB => exact yq13); (case aF => exact (fun k_ hk => Kd.fresh' (Kd.R_lt yq14) k_ hk)); (case aO => exact (by (with_reducible repeat (first | apply Kd.R_alloc | apply Kd.R_drewN | apply Kd.R_drew)); exact HO132.out)); (case aS => exact (qu yq13)); (case aL => have := LMc123.out; omega); intro v138 w141 ho hb hg hat; rw [← Ny137.out] at ho; have n0_ := Qz.mk (Kd.R_after (ok := (fun _ => True)) yq14 hg hat); have n1_ := Qz.mk (qd1 (g := gb101) (o := .cells #[.slice A0_0 l0_0.length c0_0, .int .i64 a0_1, .int .i64 a0_2, .int .i64 a0_3] 32 (0, 0)) yq15 hg (Kd.R_ne HO132.out BK101.out (by decide))); have n2_ := Qz.mk (qd1 (g := gb102) (o := .cells #[.slice (some ad117) l1_0.length c1_0, .slice A1_1 l1_1.length c1_1, .int .i64 a1_2, .int .i64 a1_3, .int .i64 a1_4] 37 (0, 0)) yq16 hg (Kd.R_ne HO132.out BK102.out (by decide))); have n3_ := Qz.mk (qd1 (g := gb103) (o := .cells #[.slice none 0 0, .int .i64 0, .int .i64 0, .int .i64 0] 32 (0, 0)) yq17 hg (Kd.R_ne HO132.out BK103.out (by decide))); have n4_ := Qz.mk (qd1 (g := gb108) (o := .cells #[.slice (some ad116) x109000_3.length co125, .int .i64 a1_2, .int .i64 a1_3, .int .i64 a1_4] 32 (0, 0)) yq21 hg (Kd.R_ne HO132.out BK108.out (by decide))); have n5_ := Qz.mk (hb); have n6_ := Qz.mk ((show Kd.C k66 w141 (some ad116) y122.length y122 from by rw [Ny122.out]; exact Kd.C_take (m := (x12_4 : Int).toNat) ((Kd.R_reads' (Kd.R_after (ok := (fun _ => True)) yq14 hg hat)).2.2) KL133.out)); have n7_ := Qz.mk ((show Kd.C k66 w141 A140 y133.length y133 from by rw [Ny133.out, KA140.out]; exact Kd.C_drop (m := (x12_4 : Int).toNat) (c := co125) ((Kd.R_reads' (Kd.R_after (ok := (fun _ => True)) yq14 hg hat)).2.2) KL140.out ((Kd.R_reads' (Kd.R_after (ok := (fun _ => True)) yq14 hg hat)).2.1))); have n8_ := Qz.mk (ho); clear HO_109000; clear BK101; clear BK102; clear BK103; clear BK108; clear HB; clear HR125; clear HR136; clear HO132; have HO_109000 := n0_; have BK101 := n1_; have BK102 := n2_; have BK103 := n3_; have BK108 := n4_; have HB := n5_; have HR125 := n6_; have HR136 := n7_; have HO139 := n8_; clear n0_ n1_ n2_ n3_ n4_ n5_ n6_ n7_ n8_; clear ho hb hg hat; obtain ⟨Ao142, co142, eo142⟩ := Kd.R_slice HO139.out; subst eo142; have hcz143_0 := (qd BK108.out 0).trans rfl; have hcz143_1 := (qd BK108.out 1).trans rfl; have hcz143_2 := (qd BK108.out 2).trans rfl; have hcz143_3 := (qd BK108.out 3).trans rfl; have hfz143_0 := qe BK108.out 0; have hfz143_1 := qe BK108.out 1; have hfz143_2 := qe BK108.out 2; have hfz143_3 := qe BK108.out 3))
                      go_roundg k4
                      case measure => have := HJ2.out; have := HK2.out; have := HK3.out; have := HK4.out; omega
                      case rel => exact ⟨(wrap64 (x11_3 + 1)), (y137), (.slice Ao142 y137.length co142), yq23, H', ⟨by have := HJ2.out; have := HK2.out; have := HK3.out; have := HK4.out; omega⟩, ⟨by (with_reducible repeat (first | apply Kd.R_alloc | apply Kd.R_drewN | apply Kd.R_drew)); exact Kd.R_mono (Kd.R_far (p := ⟨gb108, 0, none⟩) (Kd.R_types HO139.out BK108.out (by decide)) (fun _ hk => hk.2) (.slice Ao142 y137.length co142)) (fun _ hk => trivial)⟩, ⟨by (with_reducible repeat (first | refine qb ?_ _ | refine qc ?_ | refine qa ?_ _)); refine qq ?_ NB101_108.out _; (with_reducible repeat (first | refine qb ?_ _ | refine qc ?_ | refine qa ?_ _)); exact BK101.out⟩, ⟨by (with_reducible repeat (first | refine qb ?_ _ | refine qc ?_ | refine qa ?_ _)); refine qq ?_ NB102_108.out _; (with_reducible repeat (first | refine qb ?_ _ | refine qc ?_ | refine qa ?_ _)); exact BK102.out⟩, ⟨by (with_reducible repeat (first | refine qb ?_ _ | refine qc ?_ | refine qa ?_ _)); refine qq ?_ NB103_108.out _; (with_reducible repeat (first | refine qb ?_ _ | refine qc ?_ | refine qa ?_ _)); exact BK103.out⟩, ⟨by (with_reducible repeat (first | refine qb ?_ _ | refine qc ?_ | refine qa ?_ _)); refine qt (cs := #[.slice (some ad116) x109000_3.length co125, .int .i64 a1_2, .int .i64 a1_3, .int .i64 a1_4]) ?_ 0 _ rfl; (with_reducible repeat (first | refine qb ?_ _ | refine qc ?_ | refine qa ?_ _)); exact BK108.out⟩, ⟨by repeat (first | (with_reducible first | exact HB.out | apply qi | apply qg | apply qh | refine qf ?_ GE101.out | refine qf ?_ GE102.out | refine qf ?_ GE103.out | refine qf ?_ GE108.out) | exact HB.out)⟩⟩
                     ·rw [if_neg c123] at H
                      exact absurd H (by simp)
                    ·rw [if_neg c120] at H
                     exact absurd H (by simp)
                   ·rw [if_neg c119] at H
                    exact absurd H (by simp)
                  ·rw [if_neg c118] at H
                   exact absurd H (by simp)
                ·rw [if_neg c111] at H
                 exact absurd H (by simp)
               ·rw [if_neg c110] at H
                exact absurd H (by simp)
              ·rw [if_neg c109] at H
               exact absurd H (by simp)
             ·rw [if_neg c108] at H
              have c108b0 : decide (x12_4 < (x109000_3.length : Int)) = false := decide_eq_false c108
              clear c108
              obtain ⟨y140, hy140⟩ : ∃ y_ : List (S66), y_ = (([] : List (S66))) := ⟨_, rfl⟩
              replace H : (if 0 ≤ x12_4 then (if x12_4 ≤ (x109000_3.length : Int) then ((some (x109000_3.take (x12_4 : Int).toNat : List (S66))).bind fun y143 => (if y140.length + y143.length < 2513169434916 then ((some (y140 ++ y143 : List (S66))).bind fun y147 => (if 0 ≤ x11_3 then (if x11_3 < (l1_0.length : Int) then (if y147.length < 2513169434916 then ((some (y147 ++ [(⟨(qm l1_0 x11_3).f0, (qm l1_0 x11_3).f1, (qm l1_0 x11_3).f2, (qm l1_0 x11_3).f3, (qm l1_0 x11_3).f4⟩ : S66)] : List (S66))).bind fun y151 => ((some (x109000_3.drop (x12_4 : Int).toNat : List (S66))).bind fun y154 => (if y151.length + y154.length < 2513169434916 then (spec_Apply.l2 k4 (wrap64 (x11_3 + 1)) l1_0 l1_1 a1_2 a1_3 a1_4 (y151 ++ y154) a1_2 a1_3 a1_4) else (none)))) else (none)) else (none)) else (none))) else (none))) else (none)) else (none)) = some (r1, r2, r3, r4, r5) := by first | (rw [hy140]; with_reducible exact H) | (have H2_ := (Option.bind_some _ _).symm.trans H; rw [hy140]; with_reducible exact H2_) | (have H2_ := (Option.bind_some _ _).symm.trans H; with_reducible exact H2_) | with_reducible exact H | (rw [hy140]; exact H) | exact H
              have Ny140 := Qz.mk hy140
              clear hy140
              by_cases c144 : 0 ≤ x12_4
              ·rw [if_pos c144] at H
               have c144b0 := eq_true c144
               have c144b1 : decide (0 ≤ x12_4) = true := decide_eq_true c144
               clear c144
               by_cases c145 : x12_4 ≤ (x109000_3.length : Int)
               ·rw [if_pos c145] at H
                have c145b0 := eq_true c145
                have c145b1 : decide (x12_4 ≤ (x109000_3.length : Int)) = true := decide_eq_true c145
                clear c145
                obtain ⟨y143, hy143⟩ : ∃ y_ : List (S66), y_ = (x109000_3.take (x12_4 : Int).toNat) := ⟨_, rfl⟩
                replace H : (if y140.length + y143.length < 2513169434916 then ((some (y140 ++ y143 : List (S66))).bind fun y147 => (if 0 ≤ x11_3 then (if x11_3 < (l1_0.length : Int) then (if y147.length < 2513169434916 then ((some (y147 ++ [(⟨(qm l1_0 x11_3).f0, (qm l1_0 x11_3).f1, (qm l1_0 x11_3).f2, (qm l1_0 x11_3).f3, (qm l1_0 x11_3).f4⟩ : S66)] : List (S66))).bind fun y151 => ((some (x109000_3.drop (x12_4 : Int).toNat : List (S66))).bind fun y154 => (if y151.length + y154.length < 2513169434916 then (spec_Apply.l2 k4 (wrap64 (x11_3 + 1)) l1_0 l1_1 a1_2 a1_3 a1_4 (y151 ++ y154) a1_2 a1_3 a1_4) else (none)))) else (none)) else (none)) else (none))) else (none)) = some (r1, r2, r3, r4, r5) := by first | (rw [hy143]; with_reducible exact H) | (have H2_ := (Option.bind_some _ _).symm.trans H; rw [hy143]; with_reducible exact H2_) | (have H2_ := (Option.bind_some _ _).symm.trans H; with_reducible exact H2_) | with_reducible exact H | (rw [hy143]; exact H) | exact H
                have Ny143 := Qz.mk hy143
                clear hy143
                by_cases c146 : y140.length + y143.length < 2513169434916
                ·rw [if_pos c146] at H
                 have LMc146 := Qz.mk c146
                 clear c146
                 obtain ⟨y147, hy147⟩ : ∃ y_ : List (S66), y_ = (y140 ++ y143) := ⟨_, rfl⟩
                 replace H : (if 0 ≤ x11_3 then (if x11_3 < (l1_0.length : Int) then (if y147.length < 2513169434916 then ((some (y147 ++ [(⟨(qm l1_0 x11_3).f0, (qm l1_0 x11_3).f1, (qm l1_0 x11_3).f2, (qm l1_0 x11_3).f3, (qm l1_0 x11_3).f4⟩ : S66)] : List (S66))).bind fun y151 => ((some (x109000_3.drop (x12_4 : Int).toNat : List (S66))).bind fun y154 => (if y151.length + y154.length < 2513169434916 then (spec_Apply.l2 k4 (wrap64 (x11_3 + 1)) l1_0 l1_1 a1_2 a1_3 a1_4 (y151 ++ y154) a1_2 a1_3 a1_4) else (none)))) else (none)) else (none)) else (none)) = some (r1, r2, r3, r4, r5) := by first | (rw [hy147]; with_reducible exact H) | (have H2_ := (Option.bind_some _ _).symm.trans H; rw [hy147]; with_reducible exact H2_) | (have H2_ := (Option.bind_some _ _).symm.trans H; with_reducible exact H2_) | with_reducible exact H | (rw [hy147]; exact H) | exact H
                 have Ny147 := Qz.mk hy147
                 clear hy147
                 by_cases c147 : 0 ≤ x11_3
                 ·rw [if_pos c147] at H
                  have c147b0 : decide (0 ≤ x11_3) = true := decide_eq_true c147
                  clear c147
                  by_cases c148 : x11_3 < (l1_0.length : Int)
                  ·rw [if_pos c148] at H
                   have c148b0 : decide (x11_3 < (l1_0.length : Int)) = true := decide_eq_true c148
                   clear c148
                   by_cases c149 : y147.length < 2513169434916
                   ·rw [if_pos c149] at H
                    have LMc149 := Qz.mk c149
                    clear c149
                    obtain ⟨y151, hy151⟩ : ∃ y_ : List (S66), y_ = (y147 ++ [(⟨(qm l1_0 x11_3).f0, (qm l1_0 x11_3).f1, (qm l1_0 x11_3).f2, (qm l1_0 x11_3).f3, (qm l1_0 x11_3).f4⟩ : S66)]) := ⟨_, rfl⟩
                    replace H : ((some (x109000_3.drop (x12_4 : Int).toNat : List (S66))).bind fun y154 => (if y151.length + y154.length < 2513169434916 then (spec_Apply.l2 k4 (wrap64 (x11_3 + 1)) l1_0 l1_1 a1_2 a1_3 a1_4 (y151 ++ y154) a1_2 a1_3 a1_4) else (none))) = some (r1, r2, r3, r4, r5) := by first | (rw [hy151]; with_reducible exact H) | (have H2_ := (Option.bind_some _ _).symm.trans H; rw [hy151]; with_reducible exact H2_) | (have H2_ := (Option.bind_some _ _).symm.trans H; with_reducible exact H2_) | with_reducible exact H | (rw [hy151]; exact H) | exact H
                    have Ny151 := Qz.mk hy151
                    clear hy151
                    have c150b0 := eq_true (of_decide_eq_true yq20 : 0 ≤ x12_4)
                    have c151b0 := eq_true (of_decide_eq_true yq20 : x12_4 ≤ (x109000_3.length : Int))
                    obtain ⟨y154, hy154⟩ : ∃ y_ : List (S66), y_ = (x109000_3.drop (x12_4 : Int).toNat) := ⟨_, rfl⟩
                    replace H : (if y151.length + y154.length < 2513169434916 then (spec_Apply.l2 k4 (wrap64 (x11_3 + 1)) l1_0 l1_1 a1_2 a1_3 a1_4 (y151 ++ y154) a1_2 a1_3 a1_4) else (none)) = some (r1, r2, r3, r4, r5) := by first | (rw [hy154]; with_reducible exact H) | (have H2_ := (Option.bind_some _ _).symm.trans H; rw [hy154]; with_reducible exact H2_) | (have H2_ := (Option.bind_some _ _).symm.trans H; with_reducible exact H2_) | with_reducible exact H | (rw [hy154]; exact H) | exact H
                    have Ny154 := Qz.mk hy154
                    clear hy154
                    by_cases c152 : y151.length + y154.length < 2513169434916
                    ·rw [if_pos c152] at H
                     have LMc152 := Qz.mk c152
                     clear c152
                     obtain ⟨y158, hy158⟩ : ∃ y_ : List (S66), y_ = (y151 ++ y154) := ⟨_, rfl⟩
                     replace H : (spec_Apply.l2 k4 (wrap64 (x11_3 + 1)) l1_0 l1_1 a1_2 a1_3 a1_4 y158 a1_2 a1_3 a1_4) = some (r1, r2, r3, r4, r5) := by first | (rw [hy158]; with_reducible exact H) | (have H2_ := (Option.bind_some _ _).symm.trans H; rw [hy158]; with_reducible exact H2_) | (have H2_ := (Option.bind_some _ _).symm.trans H; with_reducible exact H2_) | with_reducible exact H | (rw [hy158]; exact H) | exact H
                     have Ny158 := Qz.mk hy158
                     clear hy158
                     have H' := Qz.mk H
                     clear H
                     try go_wp2
                     replace HO_109000 := Qz.mk (Kd.R_drew HO_109000.out)
                     replace BK101 := Qz.mk (qc BK101.out)
                     replace BK102 := Qz.mk (qc BK102.out)
                     replace BK103 := Qz.mk (qc BK103.out)
                     replace BK108 := Qz.mk (qc BK108.out)
                     replace HB := Qz.mk (qh HB.out)
                     obtain ⟨Ao154, co154, eo154⟩ := Kd.R_slice HO_109000.out
                     (first | subst eo154 | (injection eo154 with f1_ f2_ f3_; have f4_ := f1_.symm; have f5_ := f3_.symm; clear f1_ f2_ f3_; subst f4_; subst f5_))
                     refine start_ (n := 18) (S := fun w' => w'.cell? ⟨gb108, 0, none⟩ = some (.slice Ao154 x109000_3.length co154) ∧ w'.cell? ⟨gb108, 1, none⟩ = some (.int .i64 a1_2) ∧ w'.cell? ⟨gb108, 2, none⟩ = some (.int .i64 a1_3) ∧ w'.cell? ⟨gb108, 3, none⟩ = some (.int .i64 a1_4)) (ds := []) bq0 (by kernel_rfl) rfl rfl ⟨(qd BK108.out 0).trans rfl, (qd BK108.out 1).trans rfl, (qd BK108.out 2).trans rfl, (qd BK108.out 3).trans rfl⟩ (fun hHeld => ?_); refine with_tabW spec_Apply.tab22 spec_Apply.bits22 (fun HT_ HW_ => ?_)
                     generalize wr.drew = w153 at HO_109000 BK101 BK102 BK103 BK108 HB hHeld ⊢
                     refine pure_ (i := 0) (N := some 108) (v := ?_) (a' := ?_) bq5 rfl rfl (qz HT_.out (by kernel_rfl)) (fun _ _ _ h => h) (Or.inl ⟨by rfl, ?_⟩) ?_ ?_
                     rotate_left
                     ·intro w'
                      go_simp
                      with_reducible rfl
                     rotate_left
                     ·simp only [Act.put, sq1, sq2, sq3, i64_w, i32_w]
                      rfl
                     refine pure_ (i := 1) (N := some 109) (v := ?_) (a' := ?_) bq9 rfl rfl (qz HT_.out (by kernel_rfl)) (fun _ _ _ h => h) (Or.inl ⟨by rfl, ?_⟩) ?_ ?_
                     rotate_left
                     ·intro w'
                      go_simp
                      with_reducible rfl
                     rotate_left
                     ·simp only [Act.put, sq1, sq2, sq3, i64_w, i32_w]
                      rfl
                     refine take_ (i := 2) (N := some 110) (v := ?_) (a' := ?_) bq12 rfl rfl (take_ofW HT_.out HW_.out (by kernel_rfl)) (fun _ _ _ h => h) (Or.inl ⟨by rfl, ?_⟩) hHeld ?_ ?_
                     rotate_left
                     ·rintro w' ⟨s0, s1, s2, s3⟩
                      go_simp
                      with_reducible rfl
                     rotate_left
                     ·simp only [Act.put, sq1, sq2, sq3, i64_w, i32_w]
                      rfl
                     refine pure_ (i := 3) (N := some 111) (v := ?_) (a' := ?_) bq17 rfl rfl (qz HT_.out (by kernel_rfl)) (fun _ _ _ h => h) (Or.inl ⟨by rfl, ?_⟩) ?_ ?_
                     rotate_left
                     ·intro w'
                      go_simp
                      with_reducible rfl
                     rotate_left
                     ·simp only [Act.put, sq1, sq2, sq3, i64_w, i32_w]
                      rfl
                     refine pure_ (i := 4) (N := some 112) (v := ?_) (a' := ?_) bq21 rfl rfl (qz HT_.out (by kernel_rfl)) (fun _ _ _ h => h) (Or.inl ⟨by rfl, ?_⟩) ?_ ?_
                     rotate_left
                     ·intro w'
                      go_simp
                      with_reducible rfl
                     rotate_left
                     ·simp only [Act.put, sq1, sq2, sq3, i64_w, i32_w]
                      rfl
                     refine pure_ (i := 5) (N := some 113) (v := ?_) (a' := ?_) bq25 rfl rfl (qz HT_.out (by kernel_rfl)) (fun _ _ _ h => h) (Or.inl ⟨by rfl, ?_⟩) ?_ ?_
                     rotate_left
                     ·intro w'
                      go_simp
                      with_reducible rfl
                     rotate_left
                     ·simp only [Act.put, sq1, sq2, sq3, i64_w, i32_w]
                      rfl
                     refine pure_ (i := 6) (N := some 114) (v := undef) (a' := ?_) bq30 rfl rfl (qz HT_.out (by kernel_rfl)) (fun _ _ _ h => h) (Or.inr ⟨by rfl, rfl⟩) ?_ ?_
                     rotate_left
                     ·simp only [Act.put, sq1, sq2, sq3, i64_w, i32_w]
                      rfl
                     refine pure_ (i := 7) (N := some 115) (v := undef) (a' := ?_) #[true, true, true, true, true, true, true, true, false, false, false, false, false, false, false, false, false, false] rfl rfl (qz HT_.out (by kernel_rfl)) (fun _ _ _ h => h) (Or.inr ⟨by rfl, rfl⟩) ?_ ?_
                     rotate_left
                     ·simp only [Act.put, sq1, sq2, sq3, i64_w, i32_w]
                      rfl
                     refine pure_ (i := 8) (N := some 116) (v := undef) (a' := ?_) #[true, true, true, true, true, true, true, true, true, false, false, false, false, false, false, false, false, false] rfl rfl (qz HT_.out (by kernel_rfl)) (fun _ _ _ h => h) (Or.inr ⟨by rfl, rfl⟩) ?_ ?_
                     rotate_left
                     ·simp only [Act.put, sq1, sq2, sq3, i64_w, i32_w]
                      rfl
                     refine pure_ (i := 9) (N := some 117) (v := undef) (a' := ?_) #[true, true, true, true, true, true, true, true, true, true, false, false, false, false, false, false, false, false] rfl rfl (qz HT_.out (by kernel_rfl)) (fun _ _ _ h => h) (Or.inr ⟨by rfl, rfl⟩) ?_ ?_
                     rotate_left
                     ·simp only [Act.put, sq1, sq2, sq3, i64_w, i32_w]
                      rfl
                     refine pure_ (i := 10) (N := some 118) (v := undef) (a' := ?_) #[true, true, true, true, true, true, true, true, true, true, true, false, false, false, false, false, false, false] rfl rfl (qz HT_.out (by kernel_rfl)) (fun _ _ _ h => h) (Or.inr ⟨by rfl, rfl⟩) ?_ ?_
                     rotate_left
                     ·simp only [Act.put, sq1, sq2, sq3, i64_w, i32_w]
                      rfl
                     refine pure_ (i := 11) (N := some 119) (v := undef) (a' := ?_) #[true, true, true, true, true, true, true, true, true, true, true, true, false, false, false, false, false, false] rfl rfl (qz HT_.out (by kernel_rfl)) (fun _ _ _ h => h) (Or.inr ⟨by rfl, rfl⟩) ?_ ?_
                     rotate_left
                     ·simp only [Act.put, sq1, sq2, sq3, i64_w, i32_w]
                      rfl
                     refine pure_ (i := 12) (N := some 120) (v := undef) (a' := ?_) #[true, true, true, true, true, true, true, true, true, true, true, true, true, false, false, false, false, false] rfl rfl (qz HT_.out (by kernel_rfl)) (fun _ _ _ h => h) (Or.inr ⟨by rfl, rfl⟩) ?_ ?_
                     rotate_left
                     ·simp only [Act.put, sq1, sq2, sq3, i64_w, i32_w]
                      rfl
                     refine pure_ (i := 13) (N := some 121) (v := undef) (a' := ?_) bq53 rfl rfl (qz HT_.out (by kernel_rfl)) (fun _ _ _ h => h) (Or.inr ⟨by rfl, rfl⟩) ?_ ?_
                     rotate_left
                     ·simp only [Act.put, sq1, sq2, sq3, i64_w, i32_w]
                      rfl
                     refine pure_ (i := 14) (N := some 122) (v := undef) (a' := ?_) bq56 rfl rfl (qz HT_.out (by kernel_rfl)) (fun _ _ _ h => h) (Or.inr ⟨by rfl, rfl⟩) ?_ ?_
                     rotate_left
                     ·simp only [Act.put, sq1, sq2, sq3, i64_w, i32_w]
                      rfl
                     refine pure_ (i := 15) (N := some 123) (v := undef) (a' := ?_) bq58 rfl rfl (qz HT_.out (by kernel_rfl)) (fun _ _ _ h => h) (Or.inr ⟨by rfl, rfl⟩) ?_ ?_
                     rotate_left
                     ·simp only [Act.put, sq1, sq2, sq3, i64_w, i32_w]
                      rfl
                     refine pure_ (i := 16) (N := some 124) (v := undef) (a' := ?_) bq59 rfl rfl (qz HT_.out (by kernel_rfl)) (fun _ _ _ h => h) (Or.inr ⟨by rfl, rfl⟩) ?_ ?_
                     rotate_left
                     ·simp only [Act.put, sq1, sq2, sq3, i64_w, i32_w]
                      rfl
                     refine pure_ (i := 17) (N := some 125) (v := ?_) (a' := ?_) bq60 rfl rfl (qz HT_.out (by kernel_rfl)) (fun _ _ _ h => h) (Or.inl ⟨by rfl, ?_⟩) ?_ ?_
                     rotate_left
                     ·intro w'
                      go_simp
                      with_reducible rfl
                     rotate_left
                     ·simp only [Act.put, sq1, sq2, sq3, i64_w, i32_w]
                      rfl
                     refine done_ (done_of HT_.out (by kernel_rfl)) ?_
                     try go_wp2_with (first | ((with_reducible refine gate_dst (N := 128) rfl ?_); (try (refine gate_guard (by rfl) ?_; dsimp only)); refine Kd.R_lit k66 _ 66 ?hg (N := 128) ?hd (xs := ([] : List (S66))) (inner := []) (ok := fun _ => True) (okp := fun _ => True) ?hr ?hp (fun _ hk => hk) trivial (Below.refl _ _) (Nat.le_refl _) (by simp) ?_; (case hd => rfl); (case hg => rfl); (case hr => exact yq27); (case hp => exact (Reps.none _ _)); intro v141 w155 ho156 hb hg_ hnew_; clear hg_ hnew_; (first | rw [← Ny140.out] at ho156 | (simp only [Int.reduceToNat] at ho156; rw [← Ny140.out] at ho156)); have HO142 := Qz.mk (Kd.R_lower (Kd.R_new' ho156 (Kd.R_lt yq14)) (qu yq13)); replace HO_109000 := Qz.mk (Kd.R_elder' yq14 (Kd.R_base ho156) hb); replace BK101 := Qz.mk (qo (g := gb101) (o := .cells #[.slice A0_0 l0_0.length c0_0, .int .i64 a0_1, .int .i64 a0_2, .int .i64 a0_3] 32 (0, 0)) yq15 hb); replace BK102 := Qz.mk (qo (g := gb102) (o := .cells #[.slice A1_0 l1_0.length c1_0, .slice A1_1 l1_1.length c1_1, .int .i64 a1_2, .int .i64 a1_3, .int .i64 a1_4] 37 (0, 0)) yq16 hb); replace BK103 := Qz.mk (qo (g := gb103) (o := .cells #[.slice none 0 0, .int .i64 0, .int .i64 0, .int .i64 0] 32 (0, 0)) yq17 hb); replace BK108 := Qz.mk (qo (g := gb108) (o := .cells #[.slice Ao154 x109000_3.length co154, .int .i64 a1_2, .int .i64 a1_3, .int .i64 a1_4] 32 (0, 0)) yq21 hb); replace HB := Qz.mk (qp yq13 hb); clear hb ho156; have hnb157 := NB108_101.out; have hnc157 := NB101_108.out; have hnb158 := NB108_102.out; have hnc158 := NB102_108.out; have hnb159 := NB108_103.out; have hnc159 := NB103_108.out; have hcz160_0 := (qd BK108.out 0).trans rfl; have hcz160_1 := (qd BK108.out 1).trans rfl; have hcz160_2 := (qd BK108.out 2).trans rfl; have hcz160_3 := (qd BK108.out 3).trans rfl; have hfz160_0 := qe BK108.out 0; have hfz160_1 := qe BK108.out 1; have hfz160_2 := qe BK108.out 2; have hfz160_3 := qe BK108.out 3; have q161 : (x12_4 : Int) ≤ ((x109000_3.length : Int) : Int) := of_decide_eq_true yq20; obtain ⟨i0161, hi0161, _, hsz161, _⟩ := info_parts info66; have hroom161 : x109000_3.length ≤ co154 := (Kd.R_reads' HO_109000.out).2.1; have hC161 : Kd.C k66 _ Ao154 x109000_3.length x109000_3 := (Kd.R_reads' HO_109000.out).2.2; have hcut161 := cut_to (P := Try.prog) 30 66 .i64 Try.underlying30 hi0161 Ao154 x109000_3.length co154 x12_4 (of_decide_eq_true yq20) q161 hroom161; have hr161 := Kd.C_take (m := (x12_4 : Int).toNat) hC161 (by omega); have hy161 : y143.length = (x12_4 : Int).toNat := (by rw [Ny143.out, List.length_take]; omega); rw [← Ny143.out] at hr161; rw [← hy161] at hcut161; have HR146 := Qz.mk hr161; have HC146 := Qz.mk (show y143.length ≤ co154 from by omega); clear hr161 hC161 hroom161 hi0161 hsz161; have KY161 := Qz.mk hy161; clear hy161; have KL161 := Qz.mk (show (x12_4 : Int).toNat ≤ x109000_3.length from by omega); replace q161 := eq_true q161) | ((with_reducible refine gate_builtin (b := .append) (xs := #[.tmp 128, .tmp 132]) rfl ?_); (try (refine gate_guard (by rfl) ?_; dsimp only)); at_builtin; refine Kd.R_append_rows k66 (w0 := w) w.heap.size rfl (.tmp 128) (.tmp 132) 30 66 (.agg #[(.int .i64 0), (.int .i64 0), (.string ⟨#[]⟩), (.string ⟨#[]⟩), (.int .i64 0)]) 56 rfl Try.underlying30 info66 rfl (by decide) (by omega) v141 y140 y143 _ _ _ (fun k_ => some k_ ≠ (.slice Ao154 x109000_3.length co154 : Value).ownBlock) (fun _ => False) rfl rfl ?aO ?aR (fun _ _ h => h) (fun _ h => h.elim) ?aF ?aB ?aS ?aL ?_; (case aR => repeat (first | exact (by repeat (first | (with_reducible exact HR146.out) | (with_reducible refine Kd.C_alloc ?_ _) | (with_reducible refine Kd.C_drewN ?_ _) | (with_reducible refine Kd.C_drew ?_) | exact HR146.out)) | (with_reducible refine Kd.C_alloc ?_ _) | (with_reducible refine Kd.C_drewN ?_ _) | (with_reducible refine Kd.C_drew ?_))); (case aB => exact yq13); (case aF => exact (fun k_ hk => Kd.fresh' (Kd.R_lt yq14) k_ hk)); (case aO => exact (by (with_reducible repeat (first | apply Kd.R_alloc | apply Kd.R_drewN | apply Kd.R_drew)); exact Kd.R_mono HO142.out (fun _ hk => hk.2))); (case aS => exact (qu yq13)); (case aL => have := LMc146.out; omega); intro v148 w162 ho hb hg hat; rw [← Ny147.out] at ho; have n0_ := Qz.mk (Kd.R_after (ok := (fun _ => True)) yq14 hg hat); have n1_ := Qz.mk (qd1 (g := gb101) (o := .cells #[.slice A0_0 l0_0.length c0_0, .int .i64 a0_1, .int .i64 a0_2, .int .i64 a0_3] 32 (0, 0)) yq15 hg (Kd.R_ne HO142.out BK101.out (by decide))); have n2_ := Qz.mk (qd1 (g := gb102) (o := .cells #[.slice A1_0 l1_0.length c1_0, .slice A1_1 l1_1.length c1_1, .int .i64 a1_2, .int .i64 a1_3, .int .i64 a1_4] 37 (0, 0)) yq16 hg (Kd.R_ne HO142.out BK102.out (by decide))); have n3_ := Qz.mk (qd1 (g := gb103) (o := .cells #[.slice none 0 0, .int .i64 0, .int .i64 0, .int .i64 0] 32 (0, 0)) yq17 hg (Kd.R_ne HO142.out BK103.out (by decide))); have n4_ := Qz.mk (qd1 (g := gb108) (o := .cells #[.slice Ao154 x109000_3.length co154, .int .i64 a1_2, .int .i64 a1_3, .int .i64 a1_4] 32 (0, 0)) yq21 hg (Kd.R_ne HO142.out BK108.out (by decide))); have n5_ := Qz.mk (hb); have n6_ := Qz.mk ((show Kd.C k66 w162 Ao154 y143.length y143 from by rw [Ny143.out]; exact Kd.C_take (m := (x12_4 : Int).toNat) ((Kd.R_reads' (Kd.R_after (ok := (fun _ => True)) yq14 hg hat)).2.2) KL161.out)); have n7_ := Qz.mk (ho); clear HO_109000; clear BK101; clear BK102; clear BK103; clear BK108; clear HB; clear HR146; clear HO142; have HO_109000 := n0_; have BK101 := n1_; have BK102 := n2_; have BK103 := n3_; have BK108 := n4_; have HB := n5_; have HR146 := n6_; have HO149 := n7_; clear n0_ n1_ n2_ n3_ n4_ n5_ n6_ n7_; clear ho hb hg hat; have hnb163 := NB102_101.out; have hnc163 := NB101_102.out; have hnb164 := NB102_103.out; have hnc164 := NB103_102.out; have hcz165_0 := (qd BK102.out 0).trans rfl; have hcz165_1 := (qd BK102.out 1).trans rfl; have hcz165_2 := (qd BK102.out 2).trans rfl; have hcz165_3 := (qd BK102.out 3).trans rfl; have hcz165_4 := (qd BK102.out 4).trans rfl; have hfz165_0 := qe BK102.out 0; have hfz165_1 := qe BK102.out 1; have hfz165_2 := qe BK102.out 2; have hfz165_3 := qe BK102.out 3; have hfz165_4 := qe BK102.out 4; have p150 : 0 ≤ (x11_3 : Int) := of_decide_eq_true yq20; have q150 : x11_3 < (l1_0.length : Int) := of_decide_eq_true yq20; obtain ⟨ad150, e150, hx150_0, hx150_1, hx150_2, hx150_3, hx150_4⟩ := at_T66 HR1_0.out x11_3 p150 q150; cases e150; replace hx150_0 := (HB.out.cell (World.block_lt_of_cell? w _ hx150_0)).trans hx150_0; replace hx150_1 := (HB.out.cell (World.block_lt_of_cell? w _ hx150_1)).trans hx150_1; replace hx150_2 := (HB.out.cell (World.block_lt_of_cell? w _ hx150_2)).trans hx150_2; replace hx150_3 := (HB.out.cell (World.block_lt_of_cell? w _ hx150_3)).trans hx150_3; replace hx150_4 := (HB.out.cell (World.block_lt_of_cell? w _ hx150_4)).trans hx150_4; replace p150 := eq_true p150; replace q150 := eq_true q150) | ((with_reducible refine gate_builtin (b := .append) (xs := #[.tmp 134, .tmp 140]) rfl ?_); (try (refine gate_guard (by rfl) ?_; dsimp only)); at_builtin; refine Kd.R_append k66 (w0 := w) w.heap.size rfl (.tmp 134) (.tmp 140) 30 66 (.agg #[(.int .i64 0), (.int .i64 0), (.string ⟨#[]⟩), (.string ⟨#[]⟩), (.int .i64 0)]) 56 rfl Try.underlying30 info66 rfl (by decide) (by omega) v148 y147 (⟨(qm l1_0 x11_3).f0, (qm l1_0 x11_3).f1, (qm l1_0 x11_3).f2, (qm l1_0 x11_3).f3, (qm l1_0 x11_3).f4⟩ : S66) [.int .i64 ((qm l1_0 x11_3).f0), .int .i64 ((qm l1_0 x11_3).f1), .string ((qm l1_0 x11_3).f2), .string ((qm l1_0 x11_3).f3), .int .i64 ((qm l1_0 x11_3).f4)] (fun k_ => some k_ ≠ (.slice Ao154 x109000_3.length co154 : Value).ownBlock) (fun _ => False) rfl rfl ?aP (fun _ hk => hk.elim) ?aF ?aO ?aB ?aS ?aL ?_; (case aP => exact k66_mkM _ _ _ (⟨(qm l1_0 x11_3).f0, (qm l1_0 x11_3).f1, (qm l1_0 x11_3).f2, (qm l1_0 x11_3).f3, (qm l1_0 x11_3).f4⟩ : S66)); (case aB => exact yq13); (case aF => exact (fun k_ hk => Kd.fresh' (Kd.R_lt yq14) k_ hk)); (case aO => exact (by (with_reducible repeat (first | apply Kd.R_alloc | apply Kd.R_drewN | apply Kd.R_drew)); exact HO149.out)); (case aS => exact (qu yq13)); (case aL => have := LMc149.out; omega); intro v152 w166 ho hb hg hat; rw [← Ny151.out] at ho; have n0_ := Qz.mk (Kd.R_after (ok := (fun _ => True)) yq14 hg hat); have n1_ := Qz.mk (qd1 (g := gb101) (o := .cells #[.slice A0_0 l0_0.length c0_0, .int .i64 a0_1, .int .i64 a0_2, .int .i64 a0_3] 32 (0, 0)) yq15 hg (Kd.R_ne HO149.out BK101.out (by decide))); have n2_ := Qz.mk (qd1 (g := gb102) (o := .cells #[.slice (some ad150) l1_0.length c1_0, .slice A1_1 l1_1.length c1_1, .int .i64 a1_2, .int .i64 a1_3, .int .i64 a1_4] 37 (0, 0)) yq16 hg (Kd.R_ne HO149.out BK102.out (by decide))); have n3_ := Qz.mk (qd1 (g := gb103) (o := .cells #[.slice none 0 0, .int .i64 0, .int .i64 0, .int .i64 0] 32 (0, 0)) yq17 hg (Kd.R_ne HO149.out BK103.out (by decide))); have n4_ := Qz.mk (qd1 (g := gb108) (o := .cells #[.slice Ao154 x109000_3.length co154, .int .i64 a1_2, .int .i64 a1_3, .int .i64 a1_4] 32 (0, 0)) yq21 hg (Kd.R_ne HO149.out BK108.out (by decide))); have n5_ := Qz.mk (hb); have n6_ := Qz.mk ((show Kd.C k66 w166 Ao154 y143.length y143 from by rw [Ny143.out]; exact Kd.C_take (m := (x12_4 : Int).toNat) ((Kd.R_reads' (Kd.R_after (ok := (fun _ => True)) yq14 hg hat)).2.2) KL161.out)); have n7_ := Qz.mk (ho); clear HO_109000; clear BK101; clear BK102; clear BK103; clear BK108; clear HB; clear HR146; clear HO149; have HO_109000 := n0_; have BK101 := n1_; have BK102 := n2_; have BK103 := n3_; have BK108 := n4_; have HB := n5_; have HR146 := n6_; have HO153 := n7_; clear n0_ n1_ n2_ n3_ n4_ n5_ n6_ n7_; clear ho hb hg hat; have hcz167_0 := (qd BK108.out 0).trans rfl; have hcz167_1 := (qd BK108.out 1).trans rfl; have hcz167_2 := (qd BK108.out 2).trans rfl; have hcz167_3 := (qd BK108.out 3).trans rfl; have hfz167_0 := qe BK108.out 0; have hfz167_1 := qe BK108.out 1; have hfz167_2 := qe BK108.out 2; have hfz167_3 := qe BK108.out 3; have q168 : (x12_4 : Int) ≤ ((x109000_3.length : Int) : Int) := of_decide_eq_true yq20; obtain ⟨i0168, hi0168, _, hsz168, _⟩ := info_parts info66; have hroom168 : x109000_3.length ≤ co154 := (Kd.R_reads' HO_109000.out).2.1; have hC168 : Kd.C k66 _ Ao154 x109000_3.length x109000_3 := (Kd.R_reads' HO_109000.out).2.2; have q0168 : (0 : Int) ≤ (x12_4 : Int) := of_decide_eq_true yq20; have hcut168 := cut_from (P := Try.prog) 30 66 .i64 Try.underlying30 hi0168 5 hsz168 Ao154 x109000_3.length co154 x12_4 q0168 q168; have hr168 := Kd.C_drop (m := (x12_4 : Int).toNat) (c := co154) hC168 (by omega) hroom168; obtain ⟨A168, hA168⟩ : ∃ A1, A1 = (if co154 = (x12_4 : Int).toNat then Ao154 else (Ao154 : Option Addr).map (·.add ((x12_4 : Int).toNat * 5))) := ⟨_, rfl⟩; obtain ⟨c168, hc168⟩ : ∃ c1, c1 = co154 - (x12_4 : Int).toNat := ⟨_, rfl⟩; have hy168 : y154.length = x109000_3.length - (x12_4 : Int).toNat := (by rw [Ny154.out, List.length_drop] <;> omega); rw [show (x109000_3).drop (x12_4 : Int).toNat = y154 from Ny154.out.symm] at hr168; replace hr168 : Kd.C k66 _ A168 y154.length y154 := (by rw [hA168]; exact hr168); rw [← hy168, ← hA168, ← hc168] at hcut168; have HR157 := Qz.mk hr168; have HC157 := Qz.mk (show y154.length ≤ c168 from by rw [hy168, hc168]; exact Nat.sub_le_sub_right hroom168 _); clear hr168 hC168 hroom168 hi0168 hsz168 hc168; have KY168 := Qz.mk hy168; have KA168 := Qz.mk hA168; clear hy168 hA168; have KL168 := Qz.mk (show (x12_4 : Int).toNat ≤ x109000_3.length from by omega); replace q168 := eq_true q168) | ((with_reducible refine gate_builtin (b := .append) (xs := #[.tmp 142, .tmp 146]) rfl ?_); (try (refine gate_guard (by rfl) ?_; dsimp only)); at_builtin; refine Kd.R_append_rows k66 (w0 := w) w.heap.size rfl (.tmp 142) (.tmp 146) 30 66 (.agg #[(.int .i64 0), (.int .i64 0), (.string ⟨#[]⟩), (.string ⟨#[]⟩), (.int .i64 0)]) 56 rfl Try.underlying30 info66 rfl (by decide) (by omega) v152 y151 y154 _ _ _ (fun k_ => some k_ ≠ (.slice Ao154 x109000_3.length co154 : Value).ownBlock) (fun _ => False) rfl rfl ?aO ?aR (fun _ _ h => h) (fun _ h => h.elim) ?aF ?aB ?aS ?aL ?_; (case aR => repeat (first | exact (by repeat (first | (with_reducible exact HR157.out) | (with_reducible refine Kd.C_alloc ?_ _) | (with_reducible refine Kd.C_drewN ?_ _) | (with_reducible refine Kd.C_drew ?_) | exact HR157.out)) | (with_reducible refine Kd.C_alloc ?_ _) | (with_reducible refine Kd.C_drewN ?_ _) | (with_reducible refine Kd.C_drew ?_))); (case aB => exact yq13); (case aF => exact (fun k_ hk => Kd.fresh' (Kd.R_lt yq14) k_ hk)); (case aO => exact (by (with_reducible repeat (first | apply Kd.R_alloc | apply Kd.R_drewN | apply Kd.R_drew)); exact HO153.out)); (case aS => exact (qu yq13)); (case aL => have := LMc152.out; omega); intro v159 w169 ho hb hg hat; rw [← Ny158.out] at ho; have n0_ := Qz.mk (Kd.R_after (ok := (fun _ => True)) yq14 hg hat); have n1_ := Qz.mk (qd1 (g := gb101) (o := .cells #[.slice A0_0 l0_0.length c0_0, .int .i64 a0_1, .int .i64 a0_2, .int .i64 a0_3] 32 (0, 0)) yq15 hg (Kd.R_ne HO153.out BK101.out (by decide))); have n2_ := Qz.mk (qd1 (g := gb102) (o := .cells #[.slice (some ad150) l1_0.length c1_0, .slice A1_1 l1_1.length c1_1, .int .i64 a1_2, .int .i64 a1_3, .int .i64 a1_4] 37 (0, 0)) yq16 hg (Kd.R_ne HO153.out BK102.out (by decide))); have n3_ := Qz.mk (qd1 (g := gb103) (o := .cells #[.slice none 0 0, .int .i64 0, .int .i64 0, .int .i64 0] 32 (0, 0)) yq17 hg (Kd.R_ne HO153.out BK103.out (by decide))); have n4_ := Qz.mk (qd1 (g := gb108) (o := .cells #[.slice Ao154 x109000_3.length co154, .int .i64 a1_2, .int .i64 a1_3, .int .i64 a1_4] 32 (0, 0)) yq21 hg (Kd.R_ne HO153.out BK108.out (by decide))); have n5_ := Qz.mk (hb); have n6_ := Qz.mk ((show Kd.C k66 w169 Ao154 y143.length y143 from by rw [Ny143.out]; exact Kd.C_take (m := (x12_4 : Int).toNat) ((Kd.R_reads' (Kd.R_after (ok := (fun _ => True)) yq14 hg hat)).2.2) KL161.out)); have n7_ := Qz.mk ((show Kd.C k66 w169 A168 y154.length y154 from by rw [Ny154.out, KA168.out]; exact Kd.C_drop (m := (x12_4 : Int).toNat) (c := co154) ((Kd.R_reads' (Kd.R_after (ok := (fun _ => True)) yq14 hg hat)).2.2) KL168.out ((Kd.R_reads' (Kd.R_after (ok := (fun _ => True)) yq14 hg hat)).2.1))); have n8_ := Qz.mk (ho); clear HO_109000; clear BK101; clear BK102; clear BK103; clear BK108; clear HB; clear HR146; clear HR157; clear HO153; have HO_109000 := n0_; have BK101 := n1_; have BK102 := n2_; have BK103 := n3_; have BK108 := n4_; have HB := n5_; have HR146 := n6_; have HR157 := n7_; have HO160 := n8_; clear n0_ n1_ n2_ n3_ n4_ n5_ n6_ n7_ n8_; clear ho hb hg hat; obtain ⟨Ao170, co170, eo170⟩ := Kd.R_slice HO160.out; subst eo170; have hcz171_0 := (qd BK108.out 0).trans rfl; have hcz171_1 := (qd BK108.out 1).trans rfl; have hcz171_2 := (qd BK108.out 2).trans rfl; have hcz171_3 := (qd BK108.out 3).trans rfl; have hfz171_0 := qe BK108.out 0; have hfz171_1 := qe BK108.out 1; have hfz171_2 := qe BK108.out 2; have hfz171_3 := qe BK108.out 3))
                     go_roundg k4
                     case measure => have := HJ2.out; have := HK2.out; have := HK3.out; have := HK4.out; omega
                     case rel => exact ⟨(wrap64 (x11_3 + 1)), (y158), (.slice Ao170 y158.length co170), yq23, H', ⟨by have := HJ2.out; have := HK2.out; have := HK3.out; have := HK4.out; omega⟩, ⟨by (with_reducible repeat (first | apply Kd.R_alloc | apply Kd.R_drewN | apply Kd.R_drew)); exact Kd.R_mono (Kd.R_far (p := ⟨gb108, 0, none⟩) (Kd.R_types HO160.out BK108.out (by decide)) (fun _ hk => hk.2) (.slice Ao170 y158.length co170)) (fun _ hk => trivial)⟩, ⟨by (with_reducible repeat (first | refine qb ?_ _ | refine qc ?_ | refine qa ?_ _)); refine qq ?_ NB101_108.out _; (with_reducible repeat (first | refine qb ?_ _ | refine qc ?_ | refine qa ?_ _)); exact BK101.out⟩, ⟨by (with_reducible repeat (first | refine qb ?_ _ | refine qc ?_ | refine qa ?_ _)); refine qq ?_ NB102_108.out _; (with_reducible repeat (first | refine qb ?_ _ | refine qc ?_ | refine qa ?_ _)); exact BK102.out⟩, ⟨by (with_reducible repeat (first | refine qb ?_ _ | refine qc ?_ | refine qa ?_ _)); refine qq ?_ NB103_108.out _; (with_reducible repeat (first | refine qb ?_ _ | refine qc ?_ | refine qa ?_ _)); exact BK103.out⟩, ⟨by (with_reducible repeat (first | refine qb ?_ _ | refine qc ?_ | refine qa ?_ _)); refine qt (cs := #[.slice Ao154 x109000_3.length co154, .int .i64 a1_2, .int .i64 a1_3, .int .i64 a1_4]) ?_ 0 _ rfl; (with_reducible repeat (first | refine qb ?_ _ | refine qc ?_ | refine qa ?_ _)); exact BK108.out⟩, ⟨by repeat (first | (with_reducible first | exact HB.out | apply qi | apply qg | apply qh | refine qf ?_ GE101.out | refine qf ?_ GE102.out | refine qf ?_ GE103.out | refine qf ?_ GE108.out) | exact HB.out)⟩⟩
                    ·rw [if_neg c152] at H
                     exact absurd H (by simp)
                   ·rw [if_neg c149] at H
                    exact absurd H (by simp)
                  ·rw [if_neg c148] at H
                   exact absurd H (by simp)
                 ·rw [if_neg c147] at H
                  exact absurd H (by simp)
                ·rw [if_neg c146] at H
                 exact absurd H (by simp)
               ·rw [if_neg c145] at H
                exact absurd H (by simp)
              ·rw [if_neg c144] at H
               exact absurd H (by simp)
          ·rw [if_neg c103] at H
           have c103b0 : decide (x11_3 < (l1_0.length : Int)) = false := decide_eq_false c103
           clear c103
           replace H := Option.bind_eq_some_iff.mp H
           obtain ⟨t115, A1720, H⟩ := H
           replace H : (if t115 = true then (some (x109000_3, a1_2, a1_3, a1_4, true)) else (some (([] : List (S66)), 0, 0, 0, false))) = some (r1, r2, r3, r4, r5) := H
           have A172 := Qz.mk A1720
           clear A1720
           by_cases c173 : t115 = true
           ·subst c173
            have H1 : (some (x109000_3, a1_2, a1_3, a1_4, true)) = some (r1, r2, r3, r4, r5) := by rw [if_pos rfl] at H; exact H
            clear H
            have H := H1
            clear H1
            simp only [Option.some.injEq, Prod.mk.injEq] at H
            obtain ⟨rfl, rfl, rfl, rfl, rfl⟩ := H
            have hnb174 := NB102_101.out
            have hnc174 := NB101_102.out
            have hnb175 := NB102_103.out
            have hnc175 := NB103_102.out
            have hnb176 := NB102_108.out
            have hnc176 := NB108_102.out
            have hcz177_0 := (qd BK102.out 0).trans rfl
            have hcz177_1 := (qd BK102.out 1).trans rfl
            have hcz177_2 := (qd BK102.out 2).trans rfl
            have hcz177_3 := (qd BK102.out 3).trans rfl
            have hcz177_4 := (qd BK102.out 4).trans rfl
            have hfz177_0 := qe BK102.out 0
            have hfz177_1 := qe BK102.out 1
            have hfz177_2 := qe BK102.out 2
            have hfz177_3 := qe BK102.out 3
            have hfz177_4 := qe BK102.out 4
            have hnb178 := NB108_101.out
            have hnc178 := NB101_108.out
            have hnb179 := NB108_103.out
            have hnc179 := NB103_108.out
            have hcz180_0 := (qd BK108.out 0).trans rfl
            have hcz180_1 := (qd BK108.out 1).trans rfl
            have hcz180_2 := (qd BK108.out 2).trans rfl
            have hcz180_3 := (qd BK108.out 3).trans rfl
            have hfz180_0 := qe BK108.out 0
            have hfz180_1 := qe BK108.out 1
            have hfz180_2 := qe BK108.out 2
            have hfz180_3 := qe BK108.out 3
            obtain ⟨Ao181, co181, eo181⟩ := Kd.R_slice HO_109000.out
            subst eo181
            go_wp2_with (first | ((with_reducible refine qr (f := 26) rfl ?_); refine goesL_ (some 150) rfl rfl Try.func26 (by kernel_rfl) rfl #[.agg #[.slice Ao181 x109000_3.length co181, .int .i64 a1_2, .int .i64 a1_3, .int .i64 a1_4]] rfl yq22 ?_; (with_reducible refine (spec_VersionOk.calls k3 _ _ x109000_3 a1_2 a1_3 a1_4 true _ ?side1 ?side2 A172.out).mono ?_); (case side1 => repeat (first | exact (Kd.R_reads' HO_109000.out).2.2 | (with_reducible refine Kd.C_alloc ?_ _) | (with_reducible refine Kd.C_drewN ?_ _) | (with_reducible refine Kd.C_drew ?_))); (case side2 => exact (Kd.R_reads' HO_109000.out).2.1); rintro e w182 ⟨rfl, hb⟩; refine ⟨_, rfl, ?_⟩; replace HO_109000 := Qz.mk (Kd.R_below yq14 hb); replace BK101 := Qz.mk (qo (g := gb101) (o := .cells #[.slice A0_0 l0_0.length c0_0, .int .i64 a0_1, .int .i64 a0_2, .int .i64 a0_3] 32 (0, 0)) yq15 hb); replace BK102 := Qz.mk (qo (g := gb102) (o := .cells #[.slice A1_0 l1_0.length c1_0, .slice A1_1 l1_1.length c1_1, .int .i64 a1_2, .int .i64 a1_3, .int .i64 a1_4] 37 (0, 0)) yq16 hb); replace BK103 := Qz.mk (qo (g := gb103) (o := .cells #[.slice none 0 0, .int .i64 0, .int .i64 0, .int .i64 0] 32 (0, 0)) yq17 hb); replace BK108 := Qz.mk (qo (g := gb108) (o := .cells #[.slice Ao181 x109000_3.length co181, .int .i64 a1_2, .int .i64 a1_3, .int .i64 a1_4] 32 (0, 0)) yq21 hb); replace HB := Qz.mk (qp yq13 hb); (try clear hb); (try clear hk); have hcz183_0 := (qd BK108.out 0).trans rfl; have hcz183_1 := (qd BK108.out 1).trans rfl; have hcz183_2 := (qd BK108.out 2).trans rfl; have hcz183_3 := (qd BK108.out 3).trans rfl; have hfz183_0 := qe BK108.out 0; have hfz183_1 := qe BK108.out 1; have hfz183_2 := qe BK108.out 2; have hfz183_3 := qe BK108.out 3; have hnb184 := NB103_101.out; have hnc184 := NB101_103.out; have hcz185_0 := (qd BK103.out 0).trans rfl; have hcz185_1 := (qd BK103.out 1).trans rfl; have hcz185_2 := (qd BK103.out 2).trans rfl; have hcz185_3 := (qd BK103.out 3).trans rfl; have hfz185_0 := qe BK103.out 0; have hfz185_1 := qe BK103.out 1; have hfz185_2 := qe BK103.out 2; have hfz185_3 := qe BK103.out 3))
            refine bodyPost_ret (results_ct rfl _ _ gb103 32 #[.slice Ao181 x109000_3.length co181, .int .i64 a1_2, .int .i64 a1_3, .int .i64 a1_4] (0, 0) _ rfl (by (with_reducible repeat (first | refine qb ?_ _ | refine qc ?_ | refine qa ?_ _)); refine qt (cs := #[.slice Ao181 x109000_3.length co181, .int .i64 a1_2, .int .i64 a1_3, .int .i64 0]) ?_ 3 _ rfl; (with_reducible repeat (first | refine qb ?_ _ | refine qc ?_ | refine qa ?_ _)); refine qt (cs := #[.slice Ao181 x109000_3.length co181, .int .i64 a1_2, .int .i64 0, .int .i64 0]) ?_ 2 _ rfl; (with_reducible repeat (first | refine qb ?_ _ | refine qc ?_ | refine qa ?_ _)); refine qt (cs := #[.slice Ao181 x109000_3.length co181, .int .i64 0, .int .i64 0, .int .i64 0]) ?_ 1 _ rfl; (with_reducible repeat (first | refine qb ?_ _ | refine qc ?_ | refine qa ?_ _)); refine qt (cs := #[.slice none 0 0, .int .i64 0, .int .i64 0, .int .i64 0]) ?_ 0 _ rfl; (with_reducible repeat (first | refine qb ?_ _ | refine qc ?_ | refine qa ?_ _)); exact BK103.out) Try.underlying32 rfl (by kernel_rfl)) rfl ?_
            exact ⟨_, by first | rfl | (simp [qw, qv] <;> rfl) | (simp [*, qw, qv] <;> rfl), by (with_reducible repeat (first | apply Kd.R_alloc | apply Kd.R_drewN | apply Kd.R_drew)); exact Kd.R_mono (Kd.R_far (p := ⟨gb103, 3, none⟩) (Kd.R_far (p := ⟨gb103, 2, none⟩) (Kd.R_far (p := ⟨gb103, 1, none⟩) (Kd.R_far (p := ⟨gb103, 0, none⟩) (Kd.R_types HO_109000.out BK103.out (by decide)) (fun _ hk => hk.2) (.slice Ao181 x109000_3.length co181)) (fun _ hk => hk.2) (.int .i64 a1_2)) (fun _ hk => hk.2) (.int .i64 a1_3)) (fun _ hk => hk.2) (.int .i64 a1_4)) (fun _ hk => trivial), by repeat (first | (with_reducible first | exact HB.out | apply qi | apply qg | apply qh | refine qf ?_ GE101.out | refine qf ?_ GE102.out | refine qf ?_ GE103.out | refine qf ?_ GE108.out) | exact HB.out)⟩
           ·replace c173 := Bool.eq_false_iff.mpr c173
            subst c173
            have H1 : (some (([] : List (S66)), 0, 0, 0, false)) = some (r1, r2, r3, r4, r5) := by rw [if_neg (show ¬ (false = true) by decide)] at H; exact H
            clear H
            have H := H1
            clear H1
            simp only [Option.some.injEq, Prod.mk.injEq] at H
            obtain ⟨rfl, rfl, rfl, rfl, rfl⟩ := H
            have hnb186 := NB102_101.out
            have hnc186 := NB101_102.out
            have hnb187 := NB102_103.out
            have hnc187 := NB103_102.out
            have hnb188 := NB102_108.out
            have hnc188 := NB108_102.out
            have hcz189_0 := (qd BK102.out 0).trans rfl
            have hcz189_1 := (qd BK102.out 1).trans rfl
            have hcz189_2 := (qd BK102.out 2).trans rfl
            have hcz189_3 := (qd BK102.out 3).trans rfl
            have hcz189_4 := (qd BK102.out 4).trans rfl
            have hfz189_0 := qe BK102.out 0
            have hfz189_1 := qe BK102.out 1
            have hfz189_2 := qe BK102.out 2
            have hfz189_3 := qe BK102.out 3
            have hfz189_4 := qe BK102.out 4
            have hnb190 := NB108_101.out
            have hnc190 := NB101_108.out
            have hnb191 := NB108_103.out
            have hnc191 := NB103_108.out
            have hcz192_0 := (qd BK108.out 0).trans rfl
            have hcz192_1 := (qd BK108.out 1).trans rfl
            have hcz192_2 := (qd BK108.out 2).trans rfl
            have hcz192_3 := (qd BK108.out 3).trans rfl
            have hfz192_0 := qe BK108.out 0
            have hfz192_1 := qe BK108.out 1
            have hfz192_2 := qe BK108.out 2
            have hfz192_3 := qe BK108.out 3
            obtain ⟨Ao193, co193, eo193⟩ := Kd.R_slice HO_109000.out
            subst eo193
            go_wp2_with (first | ((with_reducible refine qr (f := 26) rfl ?_); refine goesL_ (some 150) rfl rfl Try.func26 (by kernel_rfl) rfl #[.agg #[.slice Ao193 x109000_3.length co193, .int .i64 a1_2, .int .i64 a1_3, .int .i64 a1_4]] rfl yq22 ?_; (with_reducible refine (spec_VersionOk.calls k3 _ _ x109000_3 a1_2 a1_3 a1_4 false _ ?side1 ?side2 A172.out).mono ?_); (case side1 => repeat (first | exact (Kd.R_reads' HO_109000.out).2.2 | (with_reducible refine Kd.C_alloc ?_ _) | (with_reducible refine Kd.C_drewN ?_ _) | (with_reducible refine Kd.C_drew ?_))); (case side2 => exact (Kd.R_reads' HO_109000.out).2.1); rintro e w194 ⟨rfl, hb⟩; refine ⟨_, rfl, ?_⟩; replace HO_109000 := Qz.mk (Kd.R_below yq14 hb); replace BK101 := Qz.mk (qo (g := gb101) (o := .cells #[.slice A0_0 l0_0.length c0_0, .int .i64 a0_1, .int .i64 a0_2, .int .i64 a0_3] 32 (0, 0)) yq15 hb); replace BK102 := Qz.mk (qo (g := gb102) (o := .cells #[.slice A1_0 l1_0.length c1_0, .slice A1_1 l1_1.length c1_1, .int .i64 a1_2, .int .i64 a1_3, .int .i64 a1_4] 37 (0, 0)) yq16 hb); replace BK103 := Qz.mk (qo (g := gb103) (o := .cells #[.slice none 0 0, .int .i64 0, .int .i64 0, .int .i64 0] 32 (0, 0)) yq17 hb); replace BK108 := Qz.mk (qo (g := gb108) (o := .cells #[.slice Ao193 x109000_3.length co193, .int .i64 a1_2, .int .i64 a1_3, .int .i64 a1_4] 32 (0, 0)) yq21 hb); replace HB := Qz.mk (qp yq13 hb); (try clear hb); (try clear hk); have hnb195 := NB103_101.out; have hnc195 := NB101_103.out; have hcz196_0 := (qd BK103.out 0).trans rfl; have hcz196_1 := (qd BK103.out 1).trans rfl; have hcz196_2 := (qd BK103.out 2).trans rfl; have hcz196_3 := (qd BK103.out 3).trans rfl; have hfz196_0 := qe BK103.out 0; have hfz196_1 := qe BK103.out 1; have hfz196_2 := qe BK103.out 2; have hfz196_3 := qe BK103.out 3))
            refine bodyPost_ret (results_ct rfl _ _ gb103 32 #[.slice none 0 0, .int .i64 0, .int .i64 0, .int .i64 0] (0, 0) _ rfl yq18 Try.underlying32 rfl (by kernel_rfl)) rfl ?_
            exact ⟨_, by first | rfl | (simp [qw, qv] <;> rfl) | (simp [*, qw, qv] <;> rfl), by first | exact Kd.R_nil _ _ _ _ _ | exact Kd.N_nil _ _ _ _ _ | exact Kd.V_nil _ _ _ _ _ | exact Kd.Q_nil _ _ _ _ _ | exact Kd.S_nil _ _ _ _ _, by repeat (first | (with_reducible first | exact HB.out | apply qi | apply qg | apply qh | refine qf ?_ GE101.out | refine qf ?_ GE102.out | refine qf ?_ GE103.out | refine qf ?_ GE108.out) | exact HB.out)⟩
       ·rw [if_neg c95] at H
        have c95b0 : (x7_2 == (l1_1.length : Int)) = false := beq_eq_false_iff_ne.mpr c95
        have c95b1 : (x7_2 != (l1_1.length : Int)) = true := bne_iff_ne.mpr c95
        simp only [Option.some.injEq, Prod.mk.injEq] at H
        obtain ⟨rfl, rfl, rfl, rfl, rfl⟩ := H
        have hnb197 := NB101_102.out
        have hnc197 := NB102_101.out
        have hnb198 := NB101_103.out
        have hnc198 := NB103_101.out
        have hnb199 := NB101_108.out
        have hnc199 := NB108_101.out
        have hcz200_0 := (qd BK101.out 0).trans rfl
        have hcz200_1 := (qd BK101.out 1).trans rfl
        have hcz200_2 := (qd BK101.out 2).trans rfl
        have hcz200_3 := (qd BK101.out 3).trans rfl
        have hfz200_0 := qe BK101.out 0
        have hfz200_1 := qe BK101.out 1
        have hfz200_2 := qe BK101.out 2
        have hfz200_3 := qe BK101.out 3
        have hnb201 := NB102_103.out
        have hnc201 := NB103_102.out
        have hnb202 := NB102_108.out
        have hnc202 := NB108_102.out
        have hcz203_0 := (qd BK102.out 0).trans rfl
        have hcz203_1 := (qd BK102.out 1).trans rfl
        have hcz203_2 := (qd BK102.out 2).trans rfl
        have hcz203_3 := (qd BK102.out 3).trans rfl
        have hcz203_4 := (qd BK102.out 4).trans rfl
        have hfz203_0 := qe BK102.out 0
        have hfz203_1 := qe BK102.out 1
        have hfz203_2 := qe BK102.out 2
        have hfz203_3 := qe BK102.out 3
        have hfz203_4 := qe BK102.out 4
        have hnb204 := NB103_108.out
        have hnc204 := NB108_103.out
        have hcz205_0 := (qd BK103.out 0).trans rfl
        have hcz205_1 := (qd BK103.out 1).trans rfl
        have hcz205_2 := (qd BK103.out 2).trans rfl
        have hcz205_3 := (qd BK103.out 3).trans rfl
        have hfz205_0 := qe BK103.out 0
        have hfz205_1 := qe BK103.out 1
        have hfz205_2 := qe BK103.out 2
        have hfz205_3 := qe BK103.out 3
        go_wp2
        refine bodyPost_ret (results_ct rfl _ _ gb103 32 #[.slice none 0 0, .int .i64 0, .int .i64 0, .int .i64 0] (0, 0) _ rfl yq18 Try.underlying32 rfl (by kernel_rfl)) rfl ?_
        exact ⟨_, by first | rfl | (simp [qw, qv] <;> rfl) | (simp [*, qw, qv] <;> rfl), by first | exact Kd.R_nil _ _ _ _ _ | exact Kd.N_nil _ _ _ _ _ | exact Kd.V_nil _ _ _ _ _ | exact Kd.Q_nil _ _ _ _ _ | exact Kd.S_nil _ _ _ _ _, by repeat (first | (with_reducible first | exact HB.out | apply qi | apply qg | apply qh | refine qf ?_ GE101.out | refine qf ?_ GE102.out | refine qf ?_ GE103.out | refine qf ?_ GE108.out) | exact HB.out)⟩
end Go.Proofs.Ytcgejabkjljeeaa.P
end
