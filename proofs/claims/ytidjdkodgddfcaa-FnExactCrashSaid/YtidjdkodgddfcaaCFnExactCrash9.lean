/- Proved: the law FnExactCrash of the given program returns true for every input of its Go types and leaves each argument as it was; no condition. (Part 10 of 12.) -/
import Derived.Test.YtidjdkodgddfcaaCFnExactCrash4
import Derived.Test.YtidjdkodgddfcaaCFnExactCrash8
import Derived.Test.YtidjdkodgddfcaaCFnExactCrash7
section
namespace Go.Proofs.Ytidjdkodgddfcaa.P
open Go.RowKit Go.Proofs.YtidjdkodgddfcaaW.PrintWords Go.Proofs.YtidjdkodgddfcaaW.PrintLast Go.Proofs.YtidjdkodgddfcaaW.PrintMore
attribute [local go_sem] str_gtr str_leq str_geq qb1 qz max_two min_two qv qu qa1 qy
set_option linter.unusedVariables false
set_option linter.unusedSimpArgs false
theorem yq133 {P : Prop} (h : P := by first | (with_reducible assumption) | assumption) : P := h
theorem yq134 {P : Prop} (h : P := by repeat (first | (with_reducible first | exact HB.out | apply qc | apply qa | apply qb) | exact HB.out)) : P := h
def laws_heldFileS.l0 : Nat → List (S170) → Int → Int → Option (Int)
 | 0, _, _, _ => none
 | k + 1, x0, x1, x5 => if x5 < (x0.length : Int) then (if 0 ≤ x5 then ((laws_markText.f k x1).bind fun t102 => (if ((qj x0 x5).f0).toList = t102.toList then ((laws_markText.f k (wrap64 (x1 + 1))).bind fun t104 => (if ((qj x0 x5).f1).toList = t104.toList then (laws_heldFileS.l0 k x0 (wrap64 ((wrap64 (x1 + 1)) + 1)) (wrap64 (x5 + 1))) else (some (-1)))) else (some (-1)))) else (none)) else (some x1)
def laws_heldFileS.f (k : Nat) (l0 : List (S170)) (a1 : Int) : Option (Int) := laws_heldFileS.l0 k l0 a1 0
def laws_heldFileS.T4 : Bool × List (List Nat × List Nat) := (true, [([], []), ([], []), ([0, 1], [0, 1]), ([2], [2]), ([3], [3]), ([], []), ([5], [5]), ([4, 6], [4, 6])])
def laws_heldFileS.B4 : List Nat := [0, 0, 3, 7, 15, 0, 32, 127]
theorem laws_heldFileS.tab4 : rtab .any (opsOf Try.f132 4) = laws_heldFileS.T4 := by kernel_rfl
theorem laws_heldFileS.bits4 : waitsOk laws_heldFileS.T4.2 laws_heldFileS.B4 = true := by kernel_rfl
def laws_heldFileS.T7 : Bool × List (List Nat × List Nat) := (true, [([], []), ([], []), ([0, 1], [0, 1]), ([2], [2]), ([3], [3]), ([], []), ([5], [5]), ([4, 6], [4, 6])])
def laws_heldFileS.B7 : List Nat := [0, 0, 3, 7, 15, 0, 32, 127]
theorem laws_heldFileS.tab7 : rtab .any (opsOf Try.f132 7) = laws_heldFileS.T7 := by kernel_rfl
theorem laws_heldFileS.bits7 : waitsOk laws_heldFileS.T7.2 laws_heldFileS.B7 = true := by kernel_rfl
set_option maxHeartbeats 8000000 in
set_option maxRecDepth 100000 in
theorem laws_heldFileS.calls (k : Nat) (A0 : Option Addr) (c0 : Nat) (l0 : List (S170)) (a1 : Int) (r : Int) (w : World) (hr0 : Kd.C k170 w A0 l0.length l0) (hc0 : l0.length ≤ c0) (h : laws_heldFileS.f k l0 a1 = some r) :
  Calls Try.prog 132 #[.slice A0 l0.length c0, .int .i64 a1] w fun e w' => e = .returned (.int .i64 r) ∧ Below w.heap.size w w' := by
 have HR0 := Qz.mk hr0
 have HC0 := Qz.mk hc0
 clear hr0 hc0
 have HB := Qz.mk (Below.refl w.heap.size w)
 have H : (laws_heldFileS.l0 k l0 a1 0) = some r := h
 clear h
 have H' := Qz.mk H
 clear H
 go_enter Try.func132, Try.ntmps132
 go_wp2
 go_loopg [1, 5] k (fun kq v1 v5 w' => ∃ (x1_1 : Int) (x5_1 : Int), v1 = .int .i64 x1_1 ∧ v5 = .int .i64 x5_1 ∧ Qz (laws_heldFileS.l0 kq l0 x1_1 x5_1 = some r) ∧ Qz (kq ≤ k) ∧ Qz (Below w.heap.size w w'))
 case atStart => exact ⟨(a1), (0), (by first | rfl | (simp; done) | (simp [*]; done)), (by first | rfl | (simp; done) | (simp [*]; done)), H', ⟨Nat.le_refl _⟩, ⟨by repeat (first | (with_reducible first | exact HB.out | apply qc | apply qa | apply qb) | exact HB.out)⟩⟩
 case round =>
  clear H'
  (try clear c1);(try clear p2)
  obtain ⟨x1_1, x5_1, rfl, rfl, HA, HK1, HB⟩ := hrel
  cases gk with
  | zero => exact absurd HA.out (by simp [laws_heldFileS.l0])
  | succ k1 =>
   have H := HA.out
   clear HA
   simp only [laws_heldFileS.l0] at H
   by_cases c3 : x5_1 < (l0.length : Int)
   ·rw [if_pos c3] at H
    have c3b0 : decide (x5_1 < (l0.length : Int)) = true := decide_eq_true c3
    clear c3
    by_cases c4 : 0 ≤ x5_1
    ·rw [if_pos c4] at H
     have c4b0 : decide (0 ≤ x5_1) = true := decide_eq_true c4
     clear c4
     replace H := Option.bind_eq_some_iff.mp H
     obtain ⟨t102, A50, H⟩ := H
     replace H : (if ((qj l0 x5_1).f0).toList = t102.toList then ((laws_markText.f k1 (wrap64 (x1_1 + 1))).bind fun t104 => (if ((qj l0 x5_1).f1).toList = t104.toList then (laws_heldFileS.l0 k1 l0 (wrap64 ((wrap64 (x1_1 + 1)) + 1)) (wrap64 (x5_1 + 1))) else (some (-1)))) else (some (-1))) = some r := H
     have A5 := Qz.mk A50
     clear A50
     by_cases c6 : ((qj l0 x5_1).f0).toList = t102.toList
     ·rw [if_pos c6] at H
      have c6b0 : (((qj l0 x5_1).f0).toList == t102.toList) = true := beq_iff_eq.mpr c6
      have c6b1 : (((qj l0 x5_1).f0).toList != t102.toList) = false := bne_eq_false_iff_eq.mpr c6
      clear c6
      replace H := Option.bind_eq_some_iff.mp H
      obtain ⟨t104, A70, H⟩ := H
      replace H : (if ((qj l0 x5_1).f1).toList = t104.toList then (laws_heldFileS.l0 k1 l0 (wrap64 ((wrap64 (x1_1 + 1)) + 1)) (wrap64 (x5_1 + 1))) else (some (-1))) = some r := H
      have A7 := Qz.mk A70
      clear A70
      by_cases c8 : ((qj l0 x5_1).f1).toList = t104.toList
      ·rw [if_pos c8] at H
       have c8b0 : (((qj l0 x5_1).f1).toList == t104.toList) = true := beq_iff_eq.mpr c8
       have c8b1 : (((qj l0 x5_1).f1).toList != t104.toList) = false := bne_eq_false_iff_eq.mpr c8
       clear c8
       have H' := Qz.mk H
       clear H
       try go_wp2
       replace HB := Qz.mk (qb HB.out)
       have p101 : 0 ≤ (x5_1 : Int) := of_decide_eq_true yq133
       have q101 : x5_1 < (l0.length : Int) := of_decide_eq_true yq133
       obtain ⟨ad101, e101, hx101_0, hx101_1⟩ := at_T170 HR0.out x5_1 p101 q101
       have hw101_1 := hx101_1
       have hw101_0 := hx101_0
       cases e101
       replace hx101_0 := (HB.out.cell (World.block_lt_of_cell? w _ hx101_0)).trans hx101_0
       replace hx101_1 := (HB.out.cell (World.block_lt_of_cell? w _ hx101_1)).trans hx101_1
       replace p101 := eq_true p101
       replace q101 := eq_true q101
       refine start_ (n := 8) (S := fun w' => w'.cell? (ad101.add ((x5_1).toNat * 2)) = some (.string ((qj l0 x5_1).f0)) ∧ w'.cell? ⟨(ad101.add ((x5_1).toNat * 2)).block, (ad101.add ((x5_1).toNat * 2)).off + 1, none⟩ = some (.string ((qj l0 x5_1).f1))) (ds := []) bq2 (by kernel_rfl) rfl rfl ⟨((HB.out.cell (World.block_lt_of_cell? w _ hw101_0)).trans hw101_0), ((HB.out.cell (World.block_lt_of_cell? w _ hw101_1)).trans hw101_1)⟩ (fun hHeld => ?_); refine with_tabW laws_heldFileS.tab4 laws_heldFileS.bits4 (fun HT_ HW_ => ?_)
       generalize wr.drew = w9 at HB hx101_0 hx101_1 hHeld ⊢
       refine pure_ (i := 0) (N := some 12) (v := ?_) (a' := ?_) bq5 rfl rfl (qw HT_.out (by kernel_rfl)) (fun _ _ _ h => h) (Or.inl ⟨by rfl, ?_⟩) ?_ ?_
       rotate_left
       ·intro w'
        go_simp
        with_reducible rfl
       rotate_left
       ·simp only [Act.put, sq1, sq2, sq3, i64_w, i32_w]
        rfl
       refine pure_ (i := 1) (N := some 13) (v := ?_) (a' := ?_) bq8 rfl rfl (qw HT_.out (by kernel_rfl)) (fun _ _ _ h => h) (Or.inl ⟨by rfl, ?_⟩) ?_ ?_
       rotate_left
       ·intro w'
        go_simp
        with_reducible rfl
       rotate_left
       ·simp only [Act.put, sq1, sq2, sq3, i64_w, i32_w]
        rfl
       refine pure_ (i := 2) (N := some 14) (v := ?_) (a' := ?_) bq11 rfl rfl (qw HT_.out (by kernel_rfl)) (fun _ _ _ h => h) (Or.inl ⟨by rfl, ?_⟩) ?_ ?_
       rotate_left
       ·intro w'
        go_simp
        with_reducible rfl
       rotate_left
       ·simp only [Act.put, sq1, sq2, sq3, i64_w, i32_w]
        rfl
       refine pure_ (i := 3) (N := some 15) (v := ?_) (a' := ?_) bq16 rfl rfl (qw HT_.out (by kernel_rfl)) (fun _ _ _ h => h) (Or.inl ⟨by rfl, ?_⟩) ?_ ?_
       rotate_left
       ·intro w'
        go_simp
        with_reducible rfl
       rotate_left
       ·simp only [Act.put, sq1, sq2, sq3, i64_w, i32_w]
        rfl
       refine pure_ (i := 5) (N := some 17) (v := ?_) (a' := ?_) bq18 rfl rfl (qw HT_.out (by kernel_rfl)) (fun _ _ _ h => h) (Or.inl ⟨by rfl, ?_⟩) ?_ ?_
       rotate_left
       ·intro w'
        go_simp
        with_reducible rfl
       rotate_left
       ·simp only [Act.put, sq1, sq2, sq3, i64_w, i32_w]
        rfl
       refine take_ (i := 4) (N := some 16) (v := ?_) (a' := ?_) bq20 rfl rfl (take_ofW HT_.out HW_.out (by kernel_rfl)) (fun _ _ _ h => h) (Or.inl ⟨by rfl, ?_⟩) hHeld ?_ ?_
       rotate_left
       ·rintro w' ⟨s0, s1⟩
        go_simp
        with_reducible rfl
       rotate_left
       ·simp only [Act.put, sq1, sq2, sq3, i64_w, i32_w]
        rfl
       refine one_ (i := 6) (N := some 18) bq23 rfl rfl (one_of HT_.out (by kernel_rfl)) (by decide) (fun K hK => ?_)
       refine goes_ Try.func89 (by kernel_rfl) rfl #[.int .i64 x1_1] (by rfl) rfl rfl (by (try simp only [List.map_toArray, List.map_cons, List.map_nil]); first | done | rfl) ?_
       with_reducible refine (laws_markText.calls k1 x1_1 t102 _ A5.out).mono ?_
       rintro e w10 ⟨rfl, hb⟩
       refine ⟨_, rfl, ?_⟩
       replace HB := Qz.mk (ql yq134 hb)
       (try clear hb)
       refine hK.out _ _ ⟨((HB.out.cell (World.block_lt_of_cell? w _ hw101_0)).trans hw101_0), ((HB.out.cell (World.block_lt_of_cell? w _ hw101_1)).trans hw101_1)⟩ (fun hHeld => ?_)
       clear hK K
       refine norm_ (a' := ?_) ?_ ?_
       rotate_left
       ·show Act.put _ (some 18) _ = _
        simp only [Act.put, sq1, sq2, sq3, i64_w, i32_w]
        rfl
       refine pure_ (i := 7) (N := some 19) (v := ?_) (a' := ?_) bq31 rfl rfl (qw HT_.out (by kernel_rfl)) (fun _ _ _ h => h) (Or.inl ⟨by rfl, ?_⟩) ?_ ?_
       rotate_left
       ·intro w'
        go_simp
        with_reducible rfl
       rotate_left
       ·simp only [Act.put, sq1, sq2, sq3, i64_w, i32_w]
        rfl
       refine done_ (done_of HT_.out (by kernel_rfl)) ?_
       try go_wp2
       replace HB := Qz.mk (qb HB.out)
       have p103 : 0 ≤ (x5_1 : Int) := of_decide_eq_true yq133
       have q103 : x5_1 < (l0.length : Int) := of_decide_eq_true yq133
       obtain ⟨ad103, e103, hx103_0, hx103_1⟩ := at_T170 HR0.out x5_1 p103 q103
       have hw103_1 := hx103_1
       have hw103_0 := hx103_0
       obtain rfl : ad101 = ad103 := (by injection e103)
       replace hx103_0 := (HB.out.cell (World.block_lt_of_cell? w _ hx103_0)).trans hx103_0
       replace hx103_1 := (HB.out.cell (World.block_lt_of_cell? w _ hx103_1)).trans hx103_1
       replace p103 := eq_true p103
       replace q103 := eq_true q103
       refine start_ (n := 8) (S := fun w' => w'.cell? (ad101.add ((x5_1).toNat * 2)) = some (.string ((qj l0 x5_1).f0)) ∧ w'.cell? ⟨(ad101.add ((x5_1).toNat * 2)).block, (ad101.add ((x5_1).toNat * 2)).off + 1, none⟩ = some (.string ((qj l0 x5_1).f1))) (ds := []) bq2 (by kernel_rfl) rfl rfl ⟨((HB.out.cell (World.block_lt_of_cell? w _ hw103_0)).trans hw103_0), ((HB.out.cell (World.block_lt_of_cell? w _ hw103_1)).trans hw103_1)⟩ (fun hHeld => ?_); refine with_tabW laws_heldFileS.tab7 laws_heldFileS.bits7 (fun HT_ HW_ => ?_)
       generalize w10.drew = w11 at HB hx103_0 hx103_1 hHeld ⊢
       refine pure_ (i := 0) (N := some 22) (v := ?_) (a' := ?_) bq5 rfl rfl (qw HT_.out (by kernel_rfl)) (fun _ _ _ h => h) (Or.inl ⟨by rfl, ?_⟩) ?_ ?_
       rotate_left
       ·intro w'
        go_simp
        with_reducible rfl
       rotate_left
       ·simp only [Act.put, sq1, sq2, sq3, i64_w, i32_w]
        rfl
       refine pure_ (i := 1) (N := some 23) (v := ?_) (a' := ?_) bq8 rfl rfl (qw HT_.out (by kernel_rfl)) (fun _ _ _ h => h) (Or.inl ⟨by rfl, ?_⟩) ?_ ?_
       rotate_left
       ·intro w'
        go_simp
        with_reducible rfl
       rotate_left
       ·simp only [Act.put, sq1, sq2, sq3, i64_w, i32_w]
        rfl
       refine pure_ (i := 2) (N := some 24) (v := ?_) (a' := ?_) bq11 rfl rfl (qw HT_.out (by kernel_rfl)) (fun _ _ _ h => h) (Or.inl ⟨by rfl, ?_⟩) ?_ ?_
       rotate_left
       ·intro w'
        go_simp
        with_reducible rfl
       rotate_left
       ·simp only [Act.put, sq1, sq2, sq3, i64_w, i32_w]
        rfl
       refine pure_ (i := 3) (N := some 25) (v := ?_) (a' := ?_) bq16 rfl rfl (qw HT_.out (by kernel_rfl)) (fun _ _ _ h => h) (Or.inl ⟨by rfl, ?_⟩) ?_ ?_
       rotate_left
       ·intro w'
        go_simp
        with_reducible rfl
       rotate_left
       ·simp only [Act.put, sq1, sq2, sq3, i64_w, i32_w]
        rfl
       refine pure_ (i := 5) (N := some 27) (v := ?_) (a' := ?_) bq18 rfl rfl (qw HT_.out (by kernel_rfl)) (fun _ _ _ h => h) (Or.inl ⟨by rfl, ?_⟩) ?_ ?_
       rotate_left
       ·intro w'
        go_simp
        with_reducible rfl
       rotate_left
       ·simp only [Act.put, sq1, sq2, sq3, i64_w, i32_w]
        rfl
       refine take_ (i := 4) (N := some 26) (v := ?_) (a' := ?_) bq20 rfl rfl (take_ofW HT_.out HW_.out (by kernel_rfl)) (fun _ _ _ h => h) (Or.inl ⟨by rfl, ?_⟩) hHeld ?_ ?_
       rotate_left
       ·rintro w' ⟨s0, s1⟩
        go_simp
        with_reducible rfl
       rotate_left
       ·simp only [Act.put, sq1, sq2, sq3, i64_w, i32_w]
        rfl
       refine one_ (i := 6) (N := some 28) bq23 rfl rfl (one_of HT_.out (by kernel_rfl)) (by decide) (fun K hK => ?_)
       refine goes_ Try.func89 (by kernel_rfl) rfl #[.int .i64 (wrap64 (x1_1 + 1))] (by rfl) rfl rfl (by (try simp only [List.map_toArray, List.map_cons, List.map_nil]); first | done | rfl | (simp only [List.length_drop, List.length_take]; rfl) | (rw [IntWalk.u64_in _ (by omega)] <;> rfl)) ?_
       with_reducible refine (laws_markText.calls k1 (wrap64 (x1_1 + 1)) t104 _ A7.out).mono ?_
       rintro e w12 ⟨rfl, hb⟩
       refine ⟨_, rfl, ?_⟩
       replace HB := Qz.mk (ql yq134 hb)
       (try clear hb)
       refine hK.out _ _ ⟨((HB.out.cell (World.block_lt_of_cell? w _ hw103_0)).trans hw103_0), ((HB.out.cell (World.block_lt_of_cell? w _ hw103_1)).trans hw103_1)⟩ (fun hHeld => ?_)
       clear hK K
       refine norm_ (a' := ?_) ?_ ?_
       rotate_left
       ·show Act.put _ (some 28) _ = _
        simp only [Act.put, sq1, sq2, sq3, i64_w, i32_w]
        rfl
       refine pure_ (i := 7) (N := some 29) (v := ?_) (a' := ?_) bq31 rfl rfl (qw HT_.out (by kernel_rfl)) (fun _ _ _ h => h) (Or.inl ⟨by rfl, ?_⟩) ?_ ?_
       rotate_left
       ·intro w'
        go_simp
        with_reducible rfl
       rotate_left
       ·simp only [Act.put, sq1, sq2, sq3, i64_w, i32_w]
        rfl
       refine done_ (done_of HT_.out (by kernel_rfl)) ?_
       try go_wp2
       go_roundg k1
       case measure => have := HK1.out; omega
       case rel => exact ⟨(wrap64 ((wrap64 (x1_1 + 1)) + 1)), (wrap64 (x5_1 + 1)), (by first | rfl | (simp; done) | (simp [*]; done)), (by first | rfl | (simp; done) | (simp [*]; done)), H', ⟨by have := HK1.out; omega⟩, ⟨by repeat (first | (with_reducible first | exact HB.out | apply qc | apply qa | apply qb) | exact HB.out)⟩⟩
      ·rw [if_neg c8] at H
       have c8b0 : (((qj l0 x5_1).f1).toList == t104.toList) = false := beq_eq_false_iff_ne.mpr c8
       have c8b1 : (((qj l0 x5_1).f1).toList != t104.toList) = true := bne_iff_ne.mpr c8
       obtain rfl := Option.some.inj H
       try go_wp2
       replace HB := Qz.mk (qb HB.out)
       have p101 : 0 ≤ (x5_1 : Int) := of_decide_eq_true yq133
       have q101 : x5_1 < (l0.length : Int) := of_decide_eq_true yq133
       obtain ⟨ad101, e101, hx101_0, hx101_1⟩ := at_T170 HR0.out x5_1 p101 q101
       have hw101_1 := hx101_1
       have hw101_0 := hx101_0
       cases e101
       replace hx101_0 := (HB.out.cell (World.block_lt_of_cell? w _ hx101_0)).trans hx101_0
       replace hx101_1 := (HB.out.cell (World.block_lt_of_cell? w _ hx101_1)).trans hx101_1
       replace p101 := eq_true p101
       replace q101 := eq_true q101
       refine start_ (n := 8) (S := fun w' => w'.cell? (ad101.add ((x5_1).toNat * 2)) = some (.string ((qj l0 x5_1).f0)) ∧ w'.cell? ⟨(ad101.add ((x5_1).toNat * 2)).block, (ad101.add ((x5_1).toNat * 2)).off + 1, none⟩ = some (.string ((qj l0 x5_1).f1))) (ds := []) bq2 (by kernel_rfl) rfl rfl ⟨((HB.out.cell (World.block_lt_of_cell? w _ hw101_0)).trans hw101_0), ((HB.out.cell (World.block_lt_of_cell? w _ hw101_1)).trans hw101_1)⟩ (fun hHeld => ?_); refine with_tabW laws_heldFileS.tab4 laws_heldFileS.bits4 (fun HT_ HW_ => ?_)
       generalize wr.drew = w13 at HB hx101_0 hx101_1 hHeld ⊢
       refine pure_ (i := 0) (N := some 12) (v := ?_) (a' := ?_) bq5 rfl rfl (qw HT_.out (by kernel_rfl)) (fun _ _ _ h => h) (Or.inl ⟨by rfl, ?_⟩) ?_ ?_
       rotate_left
       ·intro w'
        go_simp
        with_reducible rfl
       rotate_left
       ·simp only [Act.put, sq1, sq2, sq3, i64_w, i32_w]
        rfl
       refine pure_ (i := 1) (N := some 13) (v := ?_) (a' := ?_) bq8 rfl rfl (qw HT_.out (by kernel_rfl)) (fun _ _ _ h => h) (Or.inl ⟨by rfl, ?_⟩) ?_ ?_
       rotate_left
       ·intro w'
        go_simp
        with_reducible rfl
       rotate_left
       ·simp only [Act.put, sq1, sq2, sq3, i64_w, i32_w]
        rfl
       refine pure_ (i := 2) (N := some 14) (v := ?_) (a' := ?_) bq11 rfl rfl (qw HT_.out (by kernel_rfl)) (fun _ _ _ h => h) (Or.inl ⟨by rfl, ?_⟩) ?_ ?_
       rotate_left
       ·intro w'
        go_simp
        with_reducible rfl
       rotate_left
       ·simp only [Act.put, sq1, sq2, sq3, i64_w, i32_w]
        rfl
       refine pure_ (i := 3) (N := some 15) (v := ?_) (a' := ?_) bq16 rfl rfl (qw HT_.out (by kernel_rfl)) (fun _ _ _ h => h) (Or.inl ⟨by rfl, ?_⟩) ?_ ?_
       rotate_left
       ·intro w'
        go_simp
        with_reducible rfl
       rotate_left
       ·simp only [Act.put, sq1, sq2, sq3, i64_w, i32_w]
        rfl
       refine pure_ (i := 5) (N := some 17) (v := ?_) (a' := ?_) bq18 rfl rfl (qw HT_.out (by kernel_rfl)) (fun _ _ _ h => h) (Or.inl ⟨by rfl, ?_⟩) ?_ ?_
       rotate_left
       ·intro w'
        go_simp
        with_reducible rfl
       rotate_left
       ·simp only [Act.put, sq1, sq2, sq3, i64_w, i32_w]
        rfl
       refine take_ (i := 4) (N := some 16) (v := ?_) (a' := ?_) bq20 rfl rfl (take_ofW HT_.out HW_.out (by kernel_rfl)) (fun _ _ _ h => h) (Or.inl ⟨by rfl, ?_⟩) hHeld ?_ ?_
       rotate_left
       ·rintro w' ⟨s0, s1⟩
        go_simp
        with_reducible rfl
       rotate_left
       ·simp only [Act.put, sq1, sq2, sq3, i64_w, i32_w]
        rfl
       refine one_ (i := 6) (N := some 18) bq23 rfl rfl (one_of HT_.out (by kernel_rfl)) (by decide) (fun K hK => ?_)
       refine goes_ Try.func89 (by kernel_rfl) rfl #[.int .i64 x1_1] (by rfl) rfl rfl (by (try simp only [List.map_toArray, List.map_cons, List.map_nil]); first | done | rfl) ?_
       with_reducible refine (laws_markText.calls k1 x1_1 t102 _ A5.out).mono ?_
       rintro e w14 ⟨rfl, hb⟩
       refine ⟨_, rfl, ?_⟩
       replace HB := Qz.mk (ql yq134 hb)
       (try clear hb)
       refine hK.out _ _ ⟨((HB.out.cell (World.block_lt_of_cell? w _ hw101_0)).trans hw101_0), ((HB.out.cell (World.block_lt_of_cell? w _ hw101_1)).trans hw101_1)⟩ (fun hHeld => ?_)
       clear hK K
       refine norm_ (a' := ?_) ?_ ?_
       rotate_left
       ·show Act.put _ (some 18) _ = _
        simp only [Act.put, sq1, sq2, sq3, i64_w, i32_w]
        rfl
       refine pure_ (i := 7) (N := some 19) (v := ?_) (a' := ?_) bq31 rfl rfl (qw HT_.out (by kernel_rfl)) (fun _ _ _ h => h) (Or.inl ⟨by rfl, ?_⟩) ?_ ?_
       rotate_left
       ·intro w'
        go_simp
        with_reducible rfl
       rotate_left
       ·simp only [Act.put, sq1, sq2, sq3, i64_w, i32_w]
        rfl
       refine done_ (done_of HT_.out (by kernel_rfl)) ?_
       try go_wp2
       replace HB := Qz.mk (qb HB.out)
       have p103 : 0 ≤ (x5_1 : Int) := of_decide_eq_true yq133
       have q103 : x5_1 < (l0.length : Int) := of_decide_eq_true yq133
       obtain ⟨ad103, e103, hx103_0, hx103_1⟩ := at_T170 HR0.out x5_1 p103 q103
       have hw103_1 := hx103_1
       have hw103_0 := hx103_0
       obtain rfl : ad101 = ad103 := (by injection e103)
       replace hx103_0 := (HB.out.cell (World.block_lt_of_cell? w _ hx103_0)).trans hx103_0
       replace hx103_1 := (HB.out.cell (World.block_lt_of_cell? w _ hx103_1)).trans hx103_1
       replace p103 := eq_true p103
       replace q103 := eq_true q103
       refine start_ (n := 8) (S := fun w' => w'.cell? (ad101.add ((x5_1).toNat * 2)) = some (.string ((qj l0 x5_1).f0)) ∧ w'.cell? ⟨(ad101.add ((x5_1).toNat * 2)).block, (ad101.add ((x5_1).toNat * 2)).off + 1, none⟩ = some (.string ((qj l0 x5_1).f1))) (ds := []) bq2 (by kernel_rfl) rfl rfl ⟨((HB.out.cell (World.block_lt_of_cell? w _ hw103_0)).trans hw103_0), ((HB.out.cell (World.block_lt_of_cell? w _ hw103_1)).trans hw103_1)⟩ (fun hHeld => ?_); refine with_tabW laws_heldFileS.tab7 laws_heldFileS.bits7 (fun HT_ HW_ => ?_)
       generalize w14.drew = w15 at HB hx103_0 hx103_1 hHeld ⊢
       refine pure_ (i := 0) (N := some 22) (v := ?_) (a' := ?_) bq5 rfl rfl (qw HT_.out (by kernel_rfl)) (fun _ _ _ h => h) (Or.inl ⟨by rfl, ?_⟩) ?_ ?_
       rotate_left
       ·intro w'
        go_simp
        with_reducible rfl
       rotate_left
       ·simp only [Act.put, sq1, sq2, sq3, i64_w, i32_w]
        rfl
       refine pure_ (i := 1) (N := some 23) (v := ?_) (a' := ?_) bq8 rfl rfl (qw HT_.out (by kernel_rfl)) (fun _ _ _ h => h) (Or.inl ⟨by rfl, ?_⟩) ?_ ?_
       rotate_left
       ·intro w'
        go_simp
        with_reducible rfl
       rotate_left
       ·simp only [Act.put, sq1, sq2, sq3, i64_w, i32_w]
        rfl
       refine pure_ (i := 2) (N := some 24) (v := ?_) (a' := ?_) bq11 rfl rfl (qw HT_.out (by kernel_rfl)) (fun _ _ _ h => h) (Or.inl ⟨by rfl, ?_⟩) ?_ ?_
       rotate_left
       ·intro w'
        go_simp
        with_reducible rfl
       rotate_left
       ·simp only [Act.put, sq1, sq2, sq3, i64_w, i32_w]
        rfl
       refine pure_ (i := 3) (N := some 25) (v := ?_) (a' := ?_) bq16 rfl rfl (qw HT_.out (by kernel_rfl)) (fun _ _ _ h => h) (Or.inl ⟨by rfl, ?_⟩) ?_ ?_
       rotate_left
       ·intro w'
        go_simp
        with_reducible rfl
       rotate_left
       ·simp only [Act.put, sq1, sq2, sq3, i64_w, i32_w]
        rfl
       refine pure_ (i := 5) (N := some 27) (v := ?_) (a' := ?_) bq18 rfl rfl (qw HT_.out (by kernel_rfl)) (fun _ _ _ h => h) (Or.inl ⟨by rfl, ?_⟩) ?_ ?_
       rotate_left
       ·intro w'
        go_simp
        with_reducible rfl
       rotate_left
       ·simp only [Act.put, sq1, sq2, sq3, i64_w, i32_w]
        rfl
       refine take_ (i := 4) (N := some 26) (v := ?_) (a' := ?_) bq20 rfl rfl (take_ofW HT_.out HW_.out (by kernel_rfl)) (fun _ _ _ h => h) (Or.inl ⟨by rfl, ?_⟩) hHeld ?_ ?_
       rotate_left
       ·rintro w' ⟨s0, s1⟩
        go_simp
        with_reducible rfl
       rotate_left
       ·simp only [Act.put, sq1, sq2, sq3, i64_w, i32_w]
        rfl
       refine one_ (i := 6) (N := some 28) bq23 rfl rfl (one_of HT_.out (by kernel_rfl)) (by decide) (fun K hK => ?_)
       refine goes_ Try.func89 (by kernel_rfl) rfl #[.int .i64 (wrap64 (x1_1 + 1))] (by rfl) rfl rfl (by (try simp only [List.map_toArray, List.map_cons, List.map_nil]); first | done | rfl | (simp only [List.length_drop, List.length_take]; rfl) | (rw [IntWalk.u64_in _ (by omega)] <;> rfl)) ?_
       with_reducible refine (laws_markText.calls k1 (wrap64 (x1_1 + 1)) t104 _ A7.out).mono ?_
       rintro e w16 ⟨rfl, hb⟩
       refine ⟨_, rfl, ?_⟩
       replace HB := Qz.mk (ql yq134 hb)
       (try clear hb)
       refine hK.out _ _ ⟨((HB.out.cell (World.block_lt_of_cell? w _ hw103_0)).trans hw103_0), ((HB.out.cell (World.block_lt_of_cell? w _ hw103_1)).trans hw103_1)⟩ (fun hHeld => ?_)
       clear hK K
       refine norm_ (a' := ?_) ?_ ?_
       rotate_left
       ·show Act.put _ (some 28) _ = _
        simp only [Act.put, sq1, sq2, sq3, i64_w, i32_w]
        rfl
       refine pure_ (i := 7) (N := some 29) (v := ?_) (a' := ?_) bq31 rfl rfl (qw HT_.out (by kernel_rfl)) (fun _ _ _ h => h) (Or.inl ⟨by rfl, ?_⟩) ?_ ?_
       rotate_left
       ·intro w'
        go_simp
        with_reducible rfl
       rotate_left
       ·simp only [Act.put, sq1, sq2, sq3, i64_w, i32_w]
        rfl
       refine done_ (done_of HT_.out (by kernel_rfl)) ?_
       try go_wp2
       go_ret
       exact ⟨by first | rfl | (simp [qn, qm] <;> rfl) | (simp [*, qn, qm] <;> rfl), by repeat (first | (with_reducible first | exact HB.out | apply qc | apply qa | apply qb) | exact HB.out)⟩
     ·rw [if_neg c6] at H
      have c6b0 : (((qj l0 x5_1).f0).toList == t102.toList) = false := beq_eq_false_iff_ne.mpr c6
      have c6b1 : (((qj l0 x5_1).f0).toList != t102.toList) = true := bne_iff_ne.mpr c6
      obtain rfl := Option.some.inj H
      try go_wp2
      replace HB := Qz.mk (qb HB.out)
      have p101 : 0 ≤ (x5_1 : Int) := of_decide_eq_true yq133
      have q101 : x5_1 < (l0.length : Int) := of_decide_eq_true yq133
      obtain ⟨ad101, e101, hx101_0, hx101_1⟩ := at_T170 HR0.out x5_1 p101 q101
      have hw101_1 := hx101_1
      have hw101_0 := hx101_0
      cases e101
      replace hx101_0 := (HB.out.cell (World.block_lt_of_cell? w _ hx101_0)).trans hx101_0
      replace hx101_1 := (HB.out.cell (World.block_lt_of_cell? w _ hx101_1)).trans hx101_1
      replace p101 := eq_true p101
      replace q101 := eq_true q101
      refine start_ (n := 8) (S := fun w' => w'.cell? (ad101.add ((x5_1).toNat * 2)) = some (.string ((qj l0 x5_1).f0)) ∧ w'.cell? ⟨(ad101.add ((x5_1).toNat * 2)).block, (ad101.add ((x5_1).toNat * 2)).off + 1, none⟩ = some (.string ((qj l0 x5_1).f1))) (ds := []) bq2 (by kernel_rfl) rfl rfl ⟨((HB.out.cell (World.block_lt_of_cell? w _ hw101_0)).trans hw101_0), ((HB.out.cell (World.block_lt_of_cell? w _ hw101_1)).trans hw101_1)⟩ (fun hHeld => ?_); refine with_tabW laws_heldFileS.tab4 laws_heldFileS.bits4 (fun HT_ HW_ => ?_)
      generalize wr.drew = w17 at HB hx101_0 hx101_1 hHeld ⊢
      refine pure_ (i := 0) (N := some 12) (v := ?_) (a' := ?_) bq5 rfl rfl (qw HT_.out (by kernel_rfl)) (fun _ _ _ h => h) (Or.inl ⟨by rfl, ?_⟩) ?_ ?_
      rotate_left
      ·intro w'
       go_simp
       with_reducible rfl
      rotate_left
      ·simp only [Act.put, sq1, sq2, sq3, i64_w, i32_w]
       rfl
      refine pure_ (i := 1) (N := some 13) (v := ?_) (a' := ?_) bq8 rfl rfl (qw HT_.out (by kernel_rfl)) (fun _ _ _ h => h) (Or.inl ⟨by rfl, ?_⟩) ?_ ?_
      rotate_left
      ·intro w'
       go_simp
       with_reducible rfl
      rotate_left
      ·simp only [Act.put, sq1, sq2, sq3, i64_w, i32_w]
       rfl
      refine pure_ (i := 2) (N := some 14) (v := ?_) (a' := ?_) bq11 rfl rfl (qw HT_.out (by kernel_rfl)) (fun _ _ _ h => h) (Or.inl ⟨by rfl, ?_⟩) ?_ ?_
      rotate_left
      ·intro w'
       go_simp
       with_reducible rfl
      rotate_left
      ·simp only [Act.put, sq1, sq2, sq3, i64_w, i32_w]
       rfl
      refine pure_ (i := 3) (N := some 15) (v := ?_) (a' := ?_) bq16 rfl rfl (qw HT_.out (by kernel_rfl)) (fun _ _ _ h => h) (Or.inl ⟨by rfl, ?_⟩) ?_ ?_
      rotate_left
      ·intro w'
       go_simp
       with_reducible rfl
      rotate_left
      ·simp only [Act.put, sq1, sq2, sq3, i64_w, i32_w]
       rfl
      refine pure_ (i := 5) (N := some 17) (v := ?_) (a' := ?_) bq18 rfl rfl (qw HT_.out (by kernel_rfl)) (fun _ _ _ h => h) (Or.inl ⟨by rfl, ?_⟩) ?_ ?_
      rotate_left
      ·intro w'
       go_simp
       with_reducible rfl
      rotate_left
      ·simp only [Act.put, sq1, sq2, sq3, i64_w, i32_w]
       rfl
      refine take_ (i := 4) (N := some 16) (v := ?_) (a' := ?_) bq20 rfl rfl (take_ofW HT_.out HW_.out (by kernel_rfl)) (fun _ _ _ h => h) (Or.inl ⟨by rfl, ?_⟩) hHeld ?_ ?_
      rotate_left
      ·rintro w' ⟨s0, s1⟩
       go_simp
       with_reducible rfl
      rotate_left
      ·simp only [Act.put, sq1, sq2, sq3, i64_w, i32_w]
       rfl
      refine one_ (i := 6) (N := some 18) bq23 rfl rfl (one_of HT_.out (by kernel_rfl)) (by decide) (fun K hK => ?_)
      refine goes_ Try.func89 (by kernel_rfl) rfl #[.int .i64 x1_1] (by rfl) rfl rfl (by (try simp only [List.map_toArray, List.map_cons, List.map_nil]); first | done | rfl) ?_
      with_reducible refine (laws_markText.calls k1 x1_1 t102 _ A5.out).mono ?_
      rintro e w18 ⟨rfl, hb⟩
      refine ⟨_, rfl, ?_⟩
      replace HB := Qz.mk (ql yq134 hb)
      (try clear hb)
      refine hK.out _ _ ⟨((HB.out.cell (World.block_lt_of_cell? w _ hw101_0)).trans hw101_0), ((HB.out.cell (World.block_lt_of_cell? w _ hw101_1)).trans hw101_1)⟩ (fun hHeld => ?_)
      clear hK K
      refine norm_ (a' := ?_) ?_ ?_
      rotate_left
      ·show Act.put _ (some 18) _ = _
       simp only [Act.put, sq1, sq2, sq3, i64_w, i32_w]
       rfl
      refine pure_ (i := 7) (N := some 19) (v := ?_) (a' := ?_) bq31 rfl rfl (qw HT_.out (by kernel_rfl)) (fun _ _ _ h => h) (Or.inl ⟨by rfl, ?_⟩) ?_ ?_
      rotate_left
      ·intro w'
       go_simp
       with_reducible rfl
      rotate_left
      ·simp only [Act.put, sq1, sq2, sq3, i64_w, i32_w]
       rfl
      refine done_ (done_of HT_.out (by kernel_rfl)) ?_
      try go_wp2
      go_ret
      exact ⟨by first | rfl | (simp [qn, qm] <;> rfl) | (simp [*, qn, qm] <;> rfl), by repeat (first | (with_reducible first | exact HB.out | apply qc | apply qa | apply qb) | exact HB.out)⟩
    ·rw [if_neg c4] at H
     exact absurd H (by simp)
   ·rw [if_neg c3] at H
    have c3b0 : decide (x5_1 < (l0.length : Int)) = false := decide_eq_false c3
    clear c3
    obtain rfl := Option.some.inj H
    go_wp2
    go_ret
    exact ⟨by first | rfl | (simp [qn, qm] <;> rfl) | (simp [*, qn, qm] <;> rfl), by repeat (first | (with_reducible first | exact HB.out | apply qc | apply qa | apply qb) | exact HB.out)⟩
theorem yq135 {P : Prop} (h : P := by (try simp only [List.map_toArray, List.map_cons, List.map_nil]); first | done | rfl | (simp only [List.length_drop, List.length_take]; rfl) | (rw [IntWalk.u64_in _ (by omega)] <;> rfl)) : P := h
theorem yq136 {P : Prop} (h : P := by first | (with_reducible assumption) | assumption) : P := h
theorem yq137 {P : Prop} (h : P := by repeat (first | (with_reducible first | exact HB.out | apply qc | apply qa | apply qb) | exact HB.out)) : P := h
def laws_heldDOpS.l0 : Nat → List (S157) → Int → Int → Option (Int)
 | 0, _, _, _ => none
 | k + 1, x0, x1, x5 => if x5 < (x0.length : Int) then (if 0 ≤ x5 then (if ((qi x0 x5).f0) = x1 then ((laws_markText.f k (wrap64 (x1 + 1))).bind fun t103 => (if ((qi x0 x5).f1).toList = t103.toList then ((laws_markText.f k (wrap64 ((wrap64 (x1 + 1)) + 1))).bind fun t105 => (if ((qi x0 x5).f2).toList = t105.toList then ((laws_markText.f k (wrap64 ((wrap64 ((wrap64 (x1 + 1)) + 1)) + 1))).bind fun t107 => (if ((qi x0 x5).f3).toList = t107.toList then (laws_heldDOpS.l0 k x0 (wrap64 ((wrap64 ((wrap64 ((wrap64 (x1 + 1)) + 1)) + 1)) + 1)) (wrap64 (x5 + 1))) else (some (-1)))) else (some (-1)))) else (some (-1)))) else (some (-1))) else (none)) else (some x1)
def laws_heldDOpS.f (k : Nat) (l0 : List (S157)) (a1 : Int) : Option (Int) := laws_heldDOpS.l0 k l0 a1 0
def laws_heldDOpS.T7 : Bool × List (List Nat × List Nat) := (true, [([], []), ([], []), ([0, 1], [0, 1]), ([2], [2]), ([3], [3]), ([], []), ([5], [5]), ([4, 6], [4, 6])])
def laws_heldDOpS.B7 : List Nat := [0, 0, 3, 7, 15, 0, 32, 127]
theorem laws_heldDOpS.tab7 : rtab .any (opsOf Try.f133 7) = laws_heldDOpS.T7 := by kernel_rfl
theorem laws_heldDOpS.bits7 : waitsOk laws_heldDOpS.T7.2 laws_heldDOpS.B7 = true := by kernel_rfl
def laws_heldDOpS.T10 : Bool × List (List Nat × List Nat) := (true, [([], []), ([], []), ([0, 1], [0, 1]), ([2], [2]), ([3], [3]), ([], []), ([5], [5]), ([4, 6], [4, 6])])
def laws_heldDOpS.B10 : List Nat := [0, 0, 3, 7, 15, 0, 32, 127]
theorem laws_heldDOpS.tab10 : rtab .any (opsOf Try.f133 10) = laws_heldDOpS.T10 := by kernel_rfl
theorem laws_heldDOpS.bits10 : waitsOk laws_heldDOpS.T10.2 laws_heldDOpS.B10 = true := by kernel_rfl
def laws_heldDOpS.T13 : Bool × List (List Nat × List Nat) := (true, [([], []), ([], []), ([0, 1], [0, 1]), ([2], [2]), ([3], [3]), ([], []), ([5], [5]), ([4, 6], [4, 6])])
def laws_heldDOpS.B13 : List Nat := [0, 0, 3, 7, 15, 0, 32, 127]
theorem laws_heldDOpS.tab13 : rtab .any (opsOf Try.f133 13) = laws_heldDOpS.T13 := by kernel_rfl
theorem laws_heldDOpS.bits13 : waitsOk laws_heldDOpS.T13.2 laws_heldDOpS.B13 = true := by kernel_rfl
set_option maxHeartbeats 8000000 in
set_option maxRecDepth 100000 in
theorem laws_heldDOpS.calls (k : Nat) (A0 : Option Addr) (c0 : Nat) (l0 : List (S157)) (a1 : Int) (r : Int) (w : World) (hr0 : Kd.C k157 w A0 l0.length l0) (hc0 : l0.length ≤ c0) (h : laws_heldDOpS.f k l0 a1 = some r) :
  Calls Try.prog 133 #[.slice A0 l0.length c0, .int .i64 a1] w fun e w' => e = .returned (.int .i64 r) ∧ Below w.heap.size w w' := by
 have HR0 := Qz.mk hr0
 have HC0 := Qz.mk hc0
 clear hr0 hc0
 have HB := Qz.mk (Below.refl w.heap.size w)
 have H : (laws_heldDOpS.l0 k l0 a1 0) = some r := h
 clear h
 have H' := Qz.mk H
 clear H
 go_enter Try.func133, Try.ntmps133
 go_wp2
 go_loopg [1, 5] k (fun kq v1 v5 w' => ∃ (x1_1 : Int) (x5_1 : Int), v1 = .int .i64 x1_1 ∧ v5 = .int .i64 x5_1 ∧ Qz (laws_heldDOpS.l0 kq l0 x1_1 x5_1 = some r) ∧ Qz (kq ≤ k) ∧ Qz (Below w.heap.size w w'))
 case atStart => exact ⟨(a1), (0), (by first | rfl | (simp; done) | (simp [*]; done)), (by first | rfl | (simp; done) | (simp [*]; done)), H', ⟨Nat.le_refl _⟩, ⟨by repeat (first | (with_reducible first | exact HB.out | apply qc | apply qa | apply qb) | exact HB.out)⟩⟩
 case round =>
  clear H'
  (try clear c1);(try clear p2)
  obtain ⟨x1_1, x5_1, rfl, rfl, HA, HK1, HB⟩ := hrel
  cases gk with
  | zero => exact absurd HA.out (by simp [laws_heldDOpS.l0])
  | succ k1 =>
   have H := HA.out
   clear HA
   simp only [laws_heldDOpS.l0] at H
   by_cases c3 : x5_1 < (l0.length : Int)
   ·rw [if_pos c3] at H
    have c3b0 : decide (x5_1 < (l0.length : Int)) = true := decide_eq_true c3
    clear c3
    by_cases c4 : 0 ≤ x5_1
    ·rw [if_pos c4] at H
     have c4b0 : decide (0 ≤ x5_1) = true := decide_eq_true c4
     clear c4
     by_cases c5 : ((qi l0 x5_1).f0) = x1_1
     ·rw [if_pos c5] at H
      have c5b0 : (((qi l0 x5_1).f0) == x1_1) = true := beq_iff_eq.mpr c5
      have c5b1 : (((qi l0 x5_1).f0) != x1_1) = false := bne_eq_false_iff_eq.mpr c5
      clear c5
      replace H := Option.bind_eq_some_iff.mp H
      obtain ⟨t103, A60, H⟩ := H
      replace H : (if ((qi l0 x5_1).f1).toList = t103.toList then ((laws_markText.f k1 (wrap64 ((wrap64 (x1_1 + 1)) + 1))).bind fun t105 => (if ((qi l0 x5_1).f2).toList = t105.toList then ((laws_markText.f k1 (wrap64 ((wrap64 ((wrap64 (x1_1 + 1)) + 1)) + 1))).bind fun t107 => (if ((qi l0 x5_1).f3).toList = t107.toList then (laws_heldDOpS.l0 k1 l0 (wrap64 ((wrap64 ((wrap64 ((wrap64 (x1_1 + 1)) + 1)) + 1)) + 1)) (wrap64 (x5_1 + 1))) else (some (-1)))) else (some (-1)))) else (some (-1))) = some r := H
      have A6 := Qz.mk A60
      clear A60
      by_cases c7 : ((qi l0 x5_1).f1).toList = t103.toList
      ·rw [if_pos c7] at H
       have c7b0 : (((qi l0 x5_1).f1).toList == t103.toList) = true := beq_iff_eq.mpr c7
       have c7b1 : (((qi l0 x5_1).f1).toList != t103.toList) = false := bne_eq_false_iff_eq.mpr c7
       clear c7
       replace H := Option.bind_eq_some_iff.mp H
       obtain ⟨t105, A80, H⟩ := H
       replace H : (if ((qi l0 x5_1).f2).toList = t105.toList then ((laws_markText.f k1 (wrap64 ((wrap64 ((wrap64 (x1_1 + 1)) + 1)) + 1))).bind fun t107 => (if ((qi l0 x5_1).f3).toList = t107.toList then (laws_heldDOpS.l0 k1 l0 (wrap64 ((wrap64 ((wrap64 ((wrap64 (x1_1 + 1)) + 1)) + 1)) + 1)) (wrap64 (x5_1 + 1))) else (some (-1)))) else (some (-1))) = some r := H
       have A8 := Qz.mk A80
       clear A80
       by_cases c9 : ((qi l0 x5_1).f2).toList = t105.toList
       ·rw [if_pos c9] at H
        have c9b0 : (((qi l0 x5_1).f2).toList == t105.toList) = true := beq_iff_eq.mpr c9
        have c9b1 : (((qi l0 x5_1).f2).toList != t105.toList) = false := bne_eq_false_iff_eq.mpr c9
        clear c9
        replace H := Option.bind_eq_some_iff.mp H
        obtain ⟨t107, A100, H⟩ := H
        replace H : (if ((qi l0 x5_1).f3).toList = t107.toList then (laws_heldDOpS.l0 k1 l0 (wrap64 ((wrap64 ((wrap64 ((wrap64 (x1_1 + 1)) + 1)) + 1)) + 1)) (wrap64 (x5_1 + 1))) else (some (-1))) = some r := H
        have A10 := Qz.mk A100
        clear A100
        by_cases c11 : ((qi l0 x5_1).f3).toList = t107.toList
        ·rw [if_pos c11] at H
         have c11b0 : (((qi l0 x5_1).f3).toList == t107.toList) = true := beq_iff_eq.mpr c11
         have c11b1 : (((qi l0 x5_1).f3).toList != t107.toList) = false := bne_eq_false_iff_eq.mpr c11
         clear c11
         have H' := Qz.mk H
         clear H
         have p101 : 0 ≤ (x5_1 : Int) := of_decide_eq_true yq136
         have q101 : x5_1 < (l0.length : Int) := of_decide_eq_true yq136
         obtain ⟨ad101, e101, hx101_0, hx101_1, hx101_2, hx101_3⟩ := at_T157 HR0.out x5_1 p101 q101
         cases e101
         replace hx101_0 := (HB.out.cell (World.block_lt_of_cell? w _ hx101_0)).trans hx101_0
         replace hx101_1 := (HB.out.cell (World.block_lt_of_cell? w _ hx101_1)).trans hx101_1
         replace hx101_2 := (HB.out.cell (World.block_lt_of_cell? w _ hx101_2)).trans hx101_2
         replace hx101_3 := (HB.out.cell (World.block_lt_of_cell? w _ hx101_3)).trans hx101_3
         replace p101 := eq_true p101
         replace q101 := eq_true q101
         try go_wp2
         replace HB := Qz.mk (qb HB.out)
         have p102 : 0 ≤ (x5_1 : Int) := of_decide_eq_true yq136
         have q102 : x5_1 < (l0.length : Int) := of_decide_eq_true yq136
         obtain ⟨ad102, e102, hx102_0, hx102_1, hx102_2, hx102_3⟩ := at_T157 HR0.out x5_1 p102 q102
         have hw102_3 := hx102_3
         have hw102_2 := hx102_2
         have hw102_1 := hx102_1
         have hw102_0 := hx102_0
         obtain rfl : ad101 = ad102 := (by injection e102)
         replace hx102_0 := (HB.out.cell (World.block_lt_of_cell? w _ hx102_0)).trans hx102_0
         replace hx102_1 := (HB.out.cell (World.block_lt_of_cell? w _ hx102_1)).trans hx102_1
         replace hx102_2 := (HB.out.cell (World.block_lt_of_cell? w _ hx102_2)).trans hx102_2
         replace hx102_3 := (HB.out.cell (World.block_lt_of_cell? w _ hx102_3)).trans hx102_3
         replace p102 := eq_true p102
         replace q102 := eq_true q102
         refine start_ (n := 8) (S := fun w' => w'.cell? (ad101.add ((x5_1).toNat * 4)) = some (.int .i64 ((qi l0 x5_1).f0)) ∧ w'.cell? ⟨(ad101.add ((x5_1).toNat * 4)).block, (ad101.add ((x5_1).toNat * 4)).off + 1, none⟩ = some (.string ((qi l0 x5_1).f1)) ∧ w'.cell? ⟨(ad101.add ((x5_1).toNat * 4)).block, (ad101.add ((x5_1).toNat * 4)).off + 2, none⟩ = some (.string ((qi l0 x5_1).f2)) ∧ w'.cell? ⟨(ad101.add ((x5_1).toNat * 4)).block, (ad101.add ((x5_1).toNat * 4)).off + 3, none⟩ = some (.string ((qi l0 x5_1).f3))) (ds := []) bq2 (by kernel_rfl) rfl rfl ⟨((HB.out.cell (World.block_lt_of_cell? w _ hw102_0)).trans hw102_0), ((HB.out.cell (World.block_lt_of_cell? w _ hw102_1)).trans hw102_1), ((HB.out.cell (World.block_lt_of_cell? w _ hw102_2)).trans hw102_2), ((HB.out.cell (World.block_lt_of_cell? w _ hw102_3)).trans hw102_3)⟩ (fun hHeld => ?_); refine with_tabW laws_heldDOpS.tab7 laws_heldDOpS.bits7 (fun HT_ HW_ => ?_)
         generalize wr.drew = w12 at HB hx102_0 hx102_1 hx102_2 hx102_3 hHeld ⊢
         refine pure_ (i := 0) (N := some 21) (v := ?_) (a' := ?_) bq5 rfl rfl (qw HT_.out (by kernel_rfl)) (fun _ _ _ h => h) (Or.inl ⟨by rfl, ?_⟩) ?_ ?_
         rotate_left
         ·intro w'
          go_simp
          with_reducible rfl
         rotate_left
         ·simp only [Act.put, sq1, sq2, sq3, i64_w, i32_w]
          rfl
         refine pure_ (i := 1) (N := some 22) (v := ?_) (a' := ?_) bq8 rfl rfl (qw HT_.out (by kernel_rfl)) (fun _ _ _ h => h) (Or.inl ⟨by rfl, ?_⟩) ?_ ?_
         rotate_left
         ·intro w'
          go_simp
          with_reducible rfl
         rotate_left
         ·simp only [Act.put, sq1, sq2, sq3, i64_w, i32_w]
          rfl
         refine pure_ (i := 2) (N := some 23) (v := ?_) (a' := ?_) bq11 rfl rfl (qw HT_.out (by kernel_rfl)) (fun _ _ _ h => h) (Or.inl ⟨by rfl, ?_⟩) ?_ ?_
         rotate_left
         ·intro w'
          go_simp
          with_reducible rfl
         rotate_left
         ·simp only [Act.put, sq1, sq2, sq3, i64_w, i32_w]
          rfl
         refine pure_ (i := 3) (N := some 24) (v := ?_) (a' := ?_) bq16 rfl rfl (qw HT_.out (by kernel_rfl)) (fun _ _ _ h => h) (Or.inl ⟨by rfl, ?_⟩) ?_ ?_
         rotate_left
         ·intro w'
          go_simp
          with_reducible rfl
         rotate_left
         ·simp only [Act.put, sq1, sq2, sq3, i64_w, i32_w]
          rfl
         refine pure_ (i := 5) (N := some 26) (v := ?_) (a' := ?_) bq18 rfl rfl (qw HT_.out (by kernel_rfl)) (fun _ _ _ h => h) (Or.inl ⟨by rfl, ?_⟩) ?_ ?_
         rotate_left
         ·intro w'
          go_simp
          with_reducible rfl
         rotate_left
         ·simp only [Act.put, sq1, sq2, sq3, i64_w, i32_w]
          rfl
         refine take_ (i := 4) (N := some 25) (v := ?_) (a' := ?_) bq20 rfl rfl (take_ofW HT_.out HW_.out (by kernel_rfl)) (fun _ _ _ h => h) (Or.inl ⟨by rfl, ?_⟩) hHeld ?_ ?_
         rotate_left
         ·rintro w' ⟨s0, s1, s2, s3⟩
          go_simp
          with_reducible rfl
         rotate_left
         ·simp only [Act.put, sq1, sq2, sq3, i64_w, i32_w]
          rfl
         refine one_ (i := 6) (N := some 27) bq23 rfl rfl (one_of HT_.out (by kernel_rfl)) (by decide) (fun K hK => ?_)
         refine goes_ Try.func89 (by kernel_rfl) rfl #[.int .i64 (wrap64 (x1_1 + 1))] (by rfl) rfl rfl yq135 ?_
         with_reducible refine (laws_markText.calls k1 (wrap64 (x1_1 + 1)) t103 _ A6.out).mono ?_
         rintro e w13 ⟨rfl, hb⟩
         refine ⟨_, rfl, ?_⟩
         replace HB := Qz.mk (ql yq137 hb)
         (try clear hb)
         refine hK.out _ _ ⟨((HB.out.cell (World.block_lt_of_cell? w _ hw102_0)).trans hw102_0), ((HB.out.cell (World.block_lt_of_cell? w _ hw102_1)).trans hw102_1), ((HB.out.cell (World.block_lt_of_cell? w _ hw102_2)).trans hw102_2), ((HB.out.cell (World.block_lt_of_cell? w _ hw102_3)).trans hw102_3)⟩ (fun hHeld => ?_)
         clear hK K
         refine norm_ (a' := ?_) ?_ ?_
         rotate_left
         ·show Act.put _ (some 27) _ = _
          simp only [Act.put, sq1, sq2, sq3, i64_w, i32_w]
          rfl
         refine pure_ (i := 7) (N := some 28) (v := ?_) (a' := ?_) bq31 rfl rfl (qw HT_.out (by kernel_rfl)) (fun _ _ _ h => h) (Or.inl ⟨by rfl, ?_⟩) ?_ ?_
         rotate_left
         ·intro w'
          go_simp
          with_reducible rfl
         rotate_left
         ·simp only [Act.put, sq1, sq2, sq3, i64_w, i32_w]
          rfl
         refine done_ (done_of HT_.out (by kernel_rfl)) ?_
         try go_wp2
         replace HB := Qz.mk (qb HB.out)
         have p104 : 0 ≤ (x5_1 : Int) := of_decide_eq_true yq136
         have q104 : x5_1 < (l0.length : Int) := of_decide_eq_true yq136
         obtain ⟨ad104, e104, hx104_0, hx104_1, hx104_2, hx104_3⟩ := at_T157 HR0.out x5_1 p104 q104
         have hw104_3 := hx104_3
         have hw104_2 := hx104_2
         have hw104_1 := hx104_1
         have hw104_0 := hx104_0
         obtain rfl : ad101 = ad104 := (by injection e104)
         replace hx104_0 := (HB.out.cell (World.block_lt_of_cell? w _ hx104_0)).trans hx104_0
         replace hx104_1 := (HB.out.cell (World.block_lt_of_cell? w _ hx104_1)).trans hx104_1
         replace hx104_2 := (HB.out.cell (World.block_lt_of_cell? w _ hx104_2)).trans hx104_2
         replace hx104_3 := (HB.out.cell (World.block_lt_of_cell? w _ hx104_3)).trans hx104_3
         replace p104 := eq_true p104
         replace q104 := eq_true q104
         refine start_ (n := 8) (S := fun w' => w'.cell? (ad101.add ((x5_1).toNat * 4)) = some (.int .i64 ((qi l0 x5_1).f0)) ∧ w'.cell? ⟨(ad101.add ((x5_1).toNat * 4)).block, (ad101.add ((x5_1).toNat * 4)).off + 1, none⟩ = some (.string ((qi l0 x5_1).f1)) ∧ w'.cell? ⟨(ad101.add ((x5_1).toNat * 4)).block, (ad101.add ((x5_1).toNat * 4)).off + 2, none⟩ = some (.string ((qi l0 x5_1).f2)) ∧ w'.cell? ⟨(ad101.add ((x5_1).toNat * 4)).block, (ad101.add ((x5_1).toNat * 4)).off + 3, none⟩ = some (.string ((qi l0 x5_1).f3))) (ds := []) bq2 (by kernel_rfl) rfl rfl ⟨((HB.out.cell (World.block_lt_of_cell? w _ hw104_0)).trans hw104_0), ((HB.out.cell (World.block_lt_of_cell? w _ hw104_1)).trans hw104_1), ((HB.out.cell (World.block_lt_of_cell? w _ hw104_2)).trans hw104_2), ((HB.out.cell (World.block_lt_of_cell? w _ hw104_3)).trans hw104_3)⟩ (fun hHeld => ?_); refine with_tabW laws_heldDOpS.tab10 laws_heldDOpS.bits10 (fun HT_ HW_ => ?_)
         generalize w13.drew = w14 at HB hx104_0 hx104_1 hx104_2 hx104_3 hHeld ⊢
         refine pure_ (i := 0) (N := some 31) (v := ?_) (a' := ?_) bq5 rfl rfl (qw HT_.out (by kernel_rfl)) (fun _ _ _ h => h) (Or.inl ⟨by rfl, ?_⟩) ?_ ?_
         rotate_left
         ·intro w'
          go_simp
          with_reducible rfl
         rotate_left
         ·simp only [Act.put, sq1, sq2, sq3, i64_w, i32_w]
          rfl
         refine pure_ (i := 1) (N := some 32) (v := ?_) (a' := ?_) bq8 rfl rfl (qw HT_.out (by kernel_rfl)) (fun _ _ _ h => h) (Or.inl ⟨by rfl, ?_⟩) ?_ ?_
         rotate_left
         ·intro w'
          go_simp
          with_reducible rfl
         rotate_left
         ·simp only [Act.put, sq1, sq2, sq3, i64_w, i32_w]
          rfl
         refine pure_ (i := 2) (N := some 33) (v := ?_) (a' := ?_) bq11 rfl rfl (qw HT_.out (by kernel_rfl)) (fun _ _ _ h => h) (Or.inl ⟨by rfl, ?_⟩) ?_ ?_
         rotate_left
         ·intro w'
          go_simp
          with_reducible rfl
         rotate_left
         ·simp only [Act.put, sq1, sq2, sq3, i64_w, i32_w]
          rfl
         refine pure_ (i := 3) (N := some 34) (v := ?_) (a' := ?_) bq16 rfl rfl (qw HT_.out (by kernel_rfl)) (fun _ _ _ h => h) (Or.inl ⟨by rfl, ?_⟩) ?_ ?_
         rotate_left
         ·intro w'
          go_simp
          with_reducible rfl
         rotate_left
         ·simp only [Act.put, sq1, sq2, sq3, i64_w, i32_w]
          rfl
         refine pure_ (i := 5) (N := some 36) (v := ?_) (a' := ?_) bq18 rfl rfl (qw HT_.out (by kernel_rfl)) (fun _ _ _ h => h) (Or.inl ⟨by rfl, ?_⟩) ?_ ?_
         rotate_left
         ·intro w'
          go_simp
          with_reducible rfl
         rotate_left
         ·simp only [Act.put, sq1, sq2, sq3, i64_w, i32_w]
          rfl
         refine take_ (i := 4) (N := some 35) (v := ?_) (a' := ?_) bq20 rfl rfl (take_ofW HT_.out HW_.out (by kernel_rfl)) (fun _ _ _ h => h) (Or.inl ⟨by rfl, ?_⟩) hHeld ?_ ?_
         rotate_left
         ·rintro w' ⟨s0, s1, s2, s3⟩
          go_simp
          with_reducible rfl
         rotate_left
         ·simp only [Act.put, sq1, sq2, sq3, i64_w, i32_w]
          rfl
         refine one_ (i := 6) (N := some 37) bq23 rfl rfl (one_of HT_.out (by kernel_rfl)) (by decide) (fun K hK => ?_)
         refine goes_ Try.func89 (by kernel_rfl) rfl #[.int .i64 (wrap64 ((wrap64 (x1_1 + 1)) + 1))] (by rfl) rfl rfl yq135 ?_
         with_reducible refine (laws_markText.calls k1 (wrap64 ((wrap64 (x1_1 + 1)) + 1)) t105 _ A8.out).mono ?_
         rintro e w15 ⟨rfl, hb⟩
         refine ⟨_, rfl, ?_⟩
         replace HB := Qz.mk (ql yq137 hb)
         (try clear hb)
         refine hK.out _ _ ⟨((HB.out.cell (World.block_lt_of_cell? w _ hw104_0)).trans hw104_0), ((HB.out.cell (World.block_lt_of_cell? w _ hw104_1)).trans hw104_1), ((HB.out.cell (World.block_lt_of_cell? w _ hw104_2)).trans hw104_2), ((HB.out.cell (World.block_lt_of_cell? w _ hw104_3)).trans hw104_3)⟩ (fun hHeld => ?_)
         clear hK K
         refine norm_ (a' := ?_) ?_ ?_
         rotate_left
         ·show Act.put _ (some 37) _ = _
          simp only [Act.put, sq1, sq2, sq3, i64_w, i32_w]
          rfl
         refine pure_ (i := 7) (N := some 38) (v := ?_) (a' := ?_) bq31 rfl rfl (qw HT_.out (by kernel_rfl)) (fun _ _ _ h => h) (Or.inl ⟨by rfl, ?_⟩) ?_ ?_
         rotate_left
         ·intro w'
          go_simp
          with_reducible rfl
         rotate_left
         ·simp only [Act.put, sq1, sq2, sq3, i64_w, i32_w]
          rfl
         refine done_ (done_of HT_.out (by kernel_rfl)) ?_
         try go_wp2
         replace HB := Qz.mk (qb HB.out)
         have p106 : 0 ≤ (x5_1 : Int) := of_decide_eq_true yq136
         have q106 : x5_1 < (l0.length : Int) := of_decide_eq_true yq136
         obtain ⟨ad106, e106, hx106_0, hx106_1, hx106_2, hx106_3⟩ := at_T157 HR0.out x5_1 p106 q106
         have hw106_3 := hx106_3
         have hw106_2 := hx106_2
         have hw106_1 := hx106_1
         have hw106_0 := hx106_0
         obtain rfl : ad101 = ad106 := (by injection e106)
         replace hx106_0 := (HB.out.cell (World.block_lt_of_cell? w _ hx106_0)).trans hx106_0
         replace hx106_1 := (HB.out.cell (World.block_lt_of_cell? w _ hx106_1)).trans hx106_1
         replace hx106_2 := (HB.out.cell (World.block_lt_of_cell? w _ hx106_2)).trans hx106_2
         replace hx106_3 := (HB.out.cell (World.block_lt_of_cell? w _ hx106_3)).trans hx106_3
         replace p106 := eq_true p106
         replace q106 := eq_true q106
         refine start_ (n := 8) (S := fun w' => w'.cell? (ad101.add ((x5_1).toNat * 4)) = some (.int .i64 ((qi l0 x5_1).f0)) ∧ w'.cell? ⟨(ad101.add ((x5_1).toNat * 4)).block, (ad101.add ((x5_1).toNat * 4)).off + 1, none⟩ = some (.string ((qi l0 x5_1).f1)) ∧ w'.cell? ⟨(ad101.add ((x5_1).toNat * 4)).block, (ad101.add ((x5_1).toNat * 4)).off + 2, none⟩ = some (.string ((qi l0 x5_1).f2)) ∧ w'.cell? ⟨(ad101.add ((x5_1).toNat * 4)).block, (ad101.add ((x5_1).toNat * 4)).off + 3, none⟩ = some (.string ((qi l0 x5_1).f3))) (ds := []) bq2 (by kernel_rfl) rfl rfl ⟨((HB.out.cell (World.block_lt_of_cell? w _ hw106_0)).trans hw106_0), ((HB.out.cell (World.block_lt_of_cell? w _ hw106_1)).trans hw106_1), ((HB.out.cell (World.block_lt_of_cell? w _ hw106_2)).trans hw106_2), ((HB.out.cell (World.block_lt_of_cell? w _ hw106_3)).trans hw106_3)⟩ (fun hHeld => ?_); refine with_tabW laws_heldDOpS.tab13 laws_heldDOpS.bits13 (fun HT_ HW_ => ?_)
         generalize w15.drew = w16 at HB hx106_0 hx106_1 hx106_2 hx106_3 hHeld ⊢
         refine pure_ (i := 0) (N := some 41) (v := ?_) (a' := ?_) bq5 rfl rfl (qw HT_.out (by kernel_rfl)) (fun _ _ _ h => h) (Or.inl ⟨by rfl, ?_⟩) ?_ ?_
         rotate_left
         ·intro w'
          go_simp
          with_reducible rfl
         rotate_left
         ·simp only [Act.put, sq1, sq2, sq3, i64_w, i32_w]
          rfl
         refine pure_ (i := 1) (N := some 42) (v := ?_) (a' := ?_) bq8 rfl rfl (qw HT_.out (by kernel_rfl)) (fun _ _ _ h => h) (Or.inl ⟨by rfl, ?_⟩) ?_ ?_
         rotate_left
         ·intro w'
          go_simp
          with_reducible rfl
         rotate_left
         ·simp only [Act.put, sq1, sq2, sq3, i64_w, i32_w]
          rfl
         refine pure_ (i := 2) (N := some 43) (v := ?_) (a' := ?_) bq11 rfl rfl (qw HT_.out (by kernel_rfl)) (fun _ _ _ h => h) (Or.inl ⟨by rfl, ?_⟩) ?_ ?_
         rotate_left
         ·intro w'
          go_simp
          with_reducible rfl
         rotate_left
         ·simp only [Act.put, sq1, sq2, sq3, i64_w, i32_w]
          rfl
         refine pure_ (i := 3) (N := some 44) (v := ?_) (a' := ?_) bq16 rfl rfl (qw HT_.out (by kernel_rfl)) (fun _ _ _ h => h) (Or.inl ⟨by rfl, ?_⟩) ?_ ?_
         rotate_left
         ·intro w'
          go_simp
          with_reducible rfl
         rotate_left
         ·simp only [Act.put, sq1, sq2, sq3, i64_w, i32_w]
          rfl
         refine pure_ (i := 5) (N := some 46) (v := ?_) (a' := ?_) bq18 rfl rfl (qw HT_.out (by kernel_rfl)) (fun _ _ _ h => h) (Or.inl ⟨by rfl, ?_⟩) ?_ ?_
         rotate_left
         ·intro w'
          go_simp
          with_reducible rfl
         rotate_left
         ·simp only [Act.put, sq1, sq2, sq3, i64_w, i32_w]
          rfl
         refine take_ (i := 4) (N := some 45) (v := ?_) (a' := ?_) bq20 rfl rfl (take_ofW HT_.out HW_.out (by kernel_rfl)) (fun _ _ _ h => h) (Or.inl ⟨by rfl, ?_⟩) hHeld ?_ ?_
         rotate_left
         ·rintro w' ⟨s0, s1, s2, s3⟩
          go_simp
          with_reducible rfl
         rotate_left
         ·simp only [Act.put, sq1, sq2, sq3, i64_w, i32_w]
          rfl
         refine one_ (i := 6) (N := some 47) bq23 rfl rfl (one_of HT_.out (by kernel_rfl)) (by decide) (fun K hK => ?_)
         refine goes_ Try.func89 (by kernel_rfl) rfl #[.int .i64 (wrap64 ((wrap64 ((wrap64 (x1_1 + 1)) + 1)) + 1))] (by rfl) rfl rfl yq135 ?_
         with_reducible refine (laws_markText.calls k1 (wrap64 ((wrap64 ((wrap64 (x1_1 + 1)) + 1)) + 1)) t107 _ A10.out).mono ?_
         rintro e w17 ⟨rfl, hb⟩
         refine ⟨_, rfl, ?_⟩
         replace HB := Qz.mk (ql yq137 hb)
         (try clear hb)
         refine hK.out _ _ ⟨((HB.out.cell (World.block_lt_of_cell? w _ hw106_0)).trans hw106_0), ((HB.out.cell (World.block_lt_of_cell? w _ hw106_1)).trans hw106_1), ((HB.out.cell (World.block_lt_of_cell? w _ hw106_2)).trans hw106_2), ((HB.out.cell (World.block_lt_of_cell? w _ hw106_3)).trans hw106_3)⟩ (fun hHeld => ?_)
         clear hK K
         refine norm_ (a' := ?_) ?_ ?_
         rotate_left
         ·show Act.put _ (some 47) _ = _
          simp only [Act.put, sq1, sq2, sq3, i64_w, i32_w]
          rfl
         refine pure_ (i := 7) (N := some 48) (v := ?_) (a' := ?_) bq31 rfl rfl (qw HT_.out (by kernel_rfl)) (fun _ _ _ h => h) (Or.inl ⟨by rfl, ?_⟩) ?_ ?_
         rotate_left
         ·intro w'
          go_simp
          with_reducible rfl
         rotate_left
         ·simp only [Act.put, sq1, sq2, sq3, i64_w, i32_w]
          rfl
         refine done_ (done_of HT_.out (by kernel_rfl)) ?_
         try go_wp2
         go_roundg k1
         case measure => have := HK1.out; omega
         case rel => exact ⟨(wrap64 ((wrap64 ((wrap64 ((wrap64 (x1_1 + 1)) + 1)) + 1)) + 1)), (wrap64 (x5_1 + 1)), (by first | rfl | (simp; done) | (simp [*]; done)), (by first | rfl | (simp; done) | (simp [*]; done)), H', ⟨by have := HK1.out; omega⟩, ⟨by repeat (first | (with_reducible first | exact HB.out | apply qc | apply qa | apply qb) | exact HB.out)⟩⟩
        ·rw [if_neg c11] at H
         have c11b0 : (((qi l0 x5_1).f3).toList == t107.toList) = false := beq_eq_false_iff_ne.mpr c11
         have c11b1 : (((qi l0 x5_1).f3).toList != t107.toList) = true := bne_iff_ne.mpr c11
         obtain rfl := Option.some.inj H
         have p101 : 0 ≤ (x5_1 : Int) := of_decide_eq_true yq136
         have q101 : x5_1 < (l0.length : Int) := of_decide_eq_true yq136
         obtain ⟨ad101, e101, hx101_0, hx101_1, hx101_2, hx101_3⟩ := at_T157 HR0.out x5_1 p101 q101
         cases e101
         replace hx101_0 := (HB.out.cell (World.block_lt_of_cell? w _ hx101_0)).trans hx101_0
         replace hx101_1 := (HB.out.cell (World.block_lt_of_cell? w _ hx101_1)).trans hx101_1
         replace hx101_2 := (HB.out.cell (World.block_lt_of_cell? w _ hx101_2)).trans hx101_2
         replace hx101_3 := (HB.out.cell (World.block_lt_of_cell? w _ hx101_3)).trans hx101_3
         replace p101 := eq_true p101
         replace q101 := eq_true q101
         try go_wp2
         replace HB := Qz.mk (qb HB.out)
         have p102 : 0 ≤ (x5_1 : Int) := of_decide_eq_true yq136
         have q102 : x5_1 < (l0.length : Int) := of_decide_eq_true yq136
         obtain ⟨ad102, e102, hx102_0, hx102_1, hx102_2, hx102_3⟩ := at_T157 HR0.out x5_1 p102 q102
         have hw102_3 := hx102_3
         have hw102_2 := hx102_2
         have hw102_1 := hx102_1
         have hw102_0 := hx102_0
         obtain rfl : ad101 = ad102 := (by injection e102)
         replace hx102_0 := (HB.out.cell (World.block_lt_of_cell? w _ hx102_0)).trans hx102_0
         replace hx102_1 := (HB.out.cell (World.block_lt_of_cell? w _ hx102_1)).trans hx102_1
         replace hx102_2 := (HB.out.cell (World.block_lt_of_cell? w _ hx102_2)).trans hx102_2
         replace hx102_3 := (HB.out.cell (World.block_lt_of_cell? w _ hx102_3)).trans hx102_3
         replace p102 := eq_true p102
         replace q102 := eq_true q102
         refine start_ (n := 8) (S := fun w' => w'.cell? (ad101.add ((x5_1).toNat * 4)) = some (.int .i64 ((qi l0 x5_1).f0)) ∧ w'.cell? ⟨(ad101.add ((x5_1).toNat * 4)).block, (ad101.add ((x5_1).toNat * 4)).off + 1, none⟩ = some (.string ((qi l0 x5_1).f1)) ∧ w'.cell? ⟨(ad101.add ((x5_1).toNat * 4)).block, (ad101.add ((x5_1).toNat * 4)).off + 2, none⟩ = some (.string ((qi l0 x5_1).f2)) ∧ w'.cell? ⟨(ad101.add ((x5_1).toNat * 4)).block, (ad101.add ((x5_1).toNat * 4)).off + 3, none⟩ = some (.string ((qi l0 x5_1).f3))) (ds := []) bq2 (by kernel_rfl) rfl rfl ⟨((HB.out.cell (World.block_lt_of_cell? w _ hw102_0)).trans hw102_0), ((HB.out.cell (World.block_lt_of_cell? w _ hw102_1)).trans hw102_1), ((HB.out.cell (World.block_lt_of_cell? w _ hw102_2)).trans hw102_2), ((HB.out.cell (World.block_lt_of_cell? w _ hw102_3)).trans hw102_3)⟩ (fun hHeld => ?_); refine with_tabW laws_heldDOpS.tab7 laws_heldDOpS.bits7 (fun HT_ HW_ => ?_)
         generalize wr.drew = w18 at HB hx102_0 hx102_1 hx102_2 hx102_3 hHeld ⊢
         refine pure_ (i := 0) (N := some 21) (v := ?_) (a' := ?_) bq5 rfl rfl (qw HT_.out (by kernel_rfl)) (fun _ _ _ h => h) (Or.inl ⟨by rfl, ?_⟩) ?_ ?_
         rotate_left
         ·intro w'
          go_simp
          with_reducible rfl
         rotate_left
         ·simp only [Act.put, sq1, sq2, sq3, i64_w, i32_w]
          rfl
         refine pure_ (i := 1) (N := some 22) (v := ?_) (a' := ?_) bq8 rfl rfl (qw HT_.out (by kernel_rfl)) (fun _ _ _ h => h) (Or.inl ⟨by rfl, ?_⟩) ?_ ?_
         rotate_left
         ·intro w'
          go_simp
          with_reducible rfl
         rotate_left
         ·simp only [Act.put, sq1, sq2, sq3, i64_w, i32_w]
          rfl
         refine pure_ (i := 2) (N := some 23) (v := ?_) (a' := ?_) bq11 rfl rfl (qw HT_.out (by kernel_rfl)) (fun _ _ _ h => h) (Or.inl ⟨by rfl, ?_⟩) ?_ ?_
         rotate_left
         ·intro w'
          go_simp
          with_reducible rfl
         rotate_left
         ·simp only [Act.put, sq1, sq2, sq3, i64_w, i32_w]
          rfl
         refine pure_ (i := 3) (N := some 24) (v := ?_) (a' := ?_) bq16 rfl rfl (qw HT_.out (by kernel_rfl)) (fun _ _ _ h => h) (Or.inl ⟨by rfl, ?_⟩) ?_ ?_
         rotate_left
         ·intro w'
          go_simp
          with_reducible rfl
         rotate_left
         ·simp only [Act.put, sq1, sq2, sq3, i64_w, i32_w]
          rfl
         refine pure_ (i := 5) (N := some 26) (v := ?_) (a' := ?_) bq18 rfl rfl (qw HT_.out (by kernel_rfl)) (fun _ _ _ h => h) (Or.inl ⟨by rfl, ?_⟩) ?_ ?_
         rotate_left
         ·intro w'
          go_simp
          with_reducible rfl
         rotate_left
         ·simp only [Act.put, sq1, sq2, sq3, i64_w, i32_w]
          rfl
         refine take_ (i := 4) (N := some 25) (v := ?_) (a' := ?_) bq20 rfl rfl (take_ofW HT_.out HW_.out (by kernel_rfl)) (fun _ _ _ h => h) (Or.inl ⟨by rfl, ?_⟩) hHeld ?_ ?_
         rotate_left
         ·rintro w' ⟨s0, s1, s2, s3⟩
          go_simp
          with_reducible rfl
         rotate_left
         ·simp only [Act.put, sq1, sq2, sq3, i64_w, i32_w]
          rfl
         refine one_ (i := 6) (N := some 27) bq23 rfl rfl (one_of HT_.out (by kernel_rfl)) (by decide) (fun K hK => ?_)
         refine goes_ Try.func89 (by kernel_rfl) rfl #[.int .i64 (wrap64 (x1_1 + 1))] (by rfl) rfl rfl yq135 ?_
         with_reducible refine (laws_markText.calls k1 (wrap64 (x1_1 + 1)) t103 _ A6.out).mono ?_
         rintro e w19 ⟨rfl, hb⟩
         refine ⟨_, rfl, ?_⟩
         replace HB := Qz.mk (ql yq137 hb)
         (try clear hb)
         refine hK.out _ _ ⟨((HB.out.cell (World.block_lt_of_cell? w _ hw102_0)).trans hw102_0), ((HB.out.cell (World.block_lt_of_cell? w _ hw102_1)).trans hw102_1), ((HB.out.cell (World.block_lt_of_cell? w _ hw102_2)).trans hw102_2), ((HB.out.cell (World.block_lt_of_cell? w _ hw102_3)).trans hw102_3)⟩ (fun hHeld => ?_)
         clear hK K
         refine norm_ (a' := ?_) ?_ ?_
         rotate_left
         ·show Act.put _ (some 27) _ = _
          simp only [Act.put, sq1, sq2, sq3, i64_w, i32_w]
          rfl
         refine pure_ (i := 7) (N := some 28) (v := ?_) (a' := ?_) bq31 rfl rfl (qw HT_.out (by kernel_rfl)) (fun _ _ _ h => h) (Or.inl ⟨by rfl, ?_⟩) ?_ ?_
         rotate_left
         ·intro w'
          go_simp
          with_reducible rfl
         rotate_left
         ·simp only [Act.put, sq1, sq2, sq3, i64_w, i32_w]
          rfl
         refine done_ (done_of HT_.out (by kernel_rfl)) ?_
         try go_wp2
         replace HB := Qz.mk (qb HB.out)
         have p104 : 0 ≤ (x5_1 : Int) := of_decide_eq_true yq136
         have q104 : x5_1 < (l0.length : Int) := of_decide_eq_true yq136
         obtain ⟨ad104, e104, hx104_0, hx104_1, hx104_2, hx104_3⟩ := at_T157 HR0.out x5_1 p104 q104
         have hw104_3 := hx104_3
         have hw104_2 := hx104_2
         have hw104_1 := hx104_1
         have hw104_0 := hx104_0
         obtain rfl : ad101 = ad104 := (by injection e104)
         replace hx104_0 := (HB.out.cell (World.block_lt_of_cell? w _ hx104_0)).trans hx104_0
         replace hx104_1 := (HB.out.cell (World.block_lt_of_cell? w _ hx104_1)).trans hx104_1
         replace hx104_2 := (HB.out.cell (World.block_lt_of_cell? w _ hx104_2)).trans hx104_2
         replace hx104_3 := (HB.out.cell (World.block_lt_of_cell? w _ hx104_3)).trans hx104_3
         replace p104 := eq_true p104
         replace q104 := eq_true q104
         refine start_ (n := 8) (S := fun w' => w'.cell? (ad101.add ((x5_1).toNat * 4)) = some (.int .i64 ((qi l0 x5_1).f0)) ∧ w'.cell? ⟨(ad101.add ((x5_1).toNat * 4)).block, (ad101.add ((x5_1).toNat * 4)).off + 1, none⟩ = some (.string ((qi l0 x5_1).f1)) ∧ w'.cell? ⟨(ad101.add ((x5_1).toNat * 4)).block, (ad101.add ((x5_1).toNat * 4)).off + 2, none⟩ = some (.string ((qi l0 x5_1).f2)) ∧ w'.cell? ⟨(ad101.add ((x5_1).toNat * 4)).block, (ad101.add ((x5_1).toNat * 4)).off + 3, none⟩ = some (.string ((qi l0 x5_1).f3))) (ds := []) bq2 (by kernel_rfl) rfl rfl ⟨((HB.out.cell (World.block_lt_of_cell? w _ hw104_0)).trans hw104_0), ((HB.out.cell (World.block_lt_of_cell? w _ hw104_1)).trans hw104_1), ((HB.out.cell (World.block_lt_of_cell? w _ hw104_2)).trans hw104_2), ((HB.out.cell (World.block_lt_of_cell? w _ hw104_3)).trans hw104_3)⟩ (fun hHeld => ?_); refine with_tabW laws_heldDOpS.tab10 laws_heldDOpS.bits10 (fun HT_ HW_ => ?_)
         generalize w19.drew = w20 at HB hx104_0 hx104_1 hx104_2 hx104_3 hHeld ⊢
         refine pure_ (i := 0) (N := some 31) (v := ?_) (a' := ?_) bq5 rfl rfl (qw HT_.out (by kernel_rfl)) (fun _ _ _ h => h) (Or.inl ⟨by rfl, ?_⟩) ?_ ?_
         rotate_left
         ·intro w'
          go_simp
          with_reducible rfl
         rotate_left
         ·simp only [Act.put, sq1, sq2, sq3, i64_w, i32_w]
          rfl
         refine pure_ (i := 1) (N := some 32) (v := ?_) (a' := ?_) bq8 rfl rfl (qw HT_.out (by kernel_rfl)) (fun _ _ _ h => h) (Or.inl ⟨by rfl, ?_⟩) ?_ ?_
         rotate_left
         ·intro w'
          go_simp
          with_reducible rfl
         rotate_left
         ·simp only [Act.put, sq1, sq2, sq3, i64_w, i32_w]
          rfl
         refine pure_ (i := 2) (N := some 33) (v := ?_) (a' := ?_) bq11 rfl rfl (qw HT_.out (by kernel_rfl)) (fun _ _ _ h => h) (Or.inl ⟨by rfl, ?_⟩) ?_ ?_
         rotate_left
         ·intro w'
          go_simp
          with_reducible rfl
         rotate_left
         ·simp only [Act.put, sq1, sq2, sq3, i64_w, i32_w]
          rfl
         refine pure_ (i := 3) (N := some 34) (v := ?_) (a' := ?_) bq16 rfl rfl (qw HT_.out (by kernel_rfl)) (fun _ _ _ h => h) (Or.inl ⟨by rfl, ?_⟩) ?_ ?_
         rotate_left
         ·intro w'
          go_simp
          with_reducible rfl
         rotate_left
         ·simp only [Act.put, sq1, sq2, sq3, i64_w, i32_w]
          rfl
         refine pure_ (i := 5) (N := some 36) (v := ?_) (a' := ?_) bq18 rfl rfl (qw HT_.out (by kernel_rfl)) (fun _ _ _ h => h) (Or.inl ⟨by rfl, ?_⟩) ?_ ?_
         rotate_left
         ·intro w'
          go_simp
          with_reducible rfl
         rotate_left
         ·simp only [Act.put, sq1, sq2, sq3, i64_w, i32_w]
          rfl
         refine take_ (i := 4) (N := some 35) (v := ?_) (a' := ?_) bq20 rfl rfl (take_ofW HT_.out HW_.out (by kernel_rfl)) (fun _ _ _ h => h) (Or.inl ⟨by rfl, ?_⟩) hHeld ?_ ?_
         rotate_left
         ·rintro w' ⟨s0, s1, s2, s3⟩
          go_simp
          with_reducible rfl
         rotate_left
         ·simp only [Act.put, sq1, sq2, sq3, i64_w, i32_w]
          rfl
         refine one_ (i := 6) (N := some 37) bq23 rfl rfl (one_of HT_.out (by kernel_rfl)) (by decide) (fun K hK => ?_)
         refine goes_ Try.func89 (by kernel_rfl) rfl #[.int .i64 (wrap64 ((wrap64 (x1_1 + 1)) + 1))] (by rfl) rfl rfl yq135 ?_
         with_reducible refine (laws_markText.calls k1 (wrap64 ((wrap64 (x1_1 + 1)) + 1)) t105 _ A8.out).mono ?_
         rintro e w21 ⟨rfl, hb⟩
         refine ⟨_, rfl, ?_⟩
         replace HB := Qz.mk (ql yq137 hb)
         (try clear hb)
         refine hK.out _ _ ⟨((HB.out.cell (World.block_lt_of_cell? w _ hw104_0)).trans hw104_0), ((HB.out.cell (World.block_lt_of_cell? w _ hw104_1)).trans hw104_1), ((HB.out.cell (World.block_lt_of_cell? w _ hw104_2)).trans hw104_2), ((HB.out.cell (World.block_lt_of_cell? w _ hw104_3)).trans hw104_3)⟩ (fun hHeld => ?_)
         clear hK K
         refine norm_ (a' := ?_) ?_ ?_
         rotate_left
         ·show Act.put _ (some 37) _ = _
          simp only [Act.put, sq1, sq2, sq3, i64_w, i32_w]
          rfl
         refine pure_ (i := 7) (N := some 38) (v := ?_) (a' := ?_) bq31 rfl rfl (qw HT_.out (by kernel_rfl)) (fun _ _ _ h => h) (Or.inl ⟨by rfl, ?_⟩) ?_ ?_
         rotate_left
         ·intro w'
          go_simp
          with_reducible rfl
         rotate_left
         ·simp only [Act.put, sq1, sq2, sq3, i64_w, i32_w]
          rfl
         refine done_ (done_of HT_.out (by kernel_rfl)) ?_
         try go_wp2
         replace HB := Qz.mk (qb HB.out)
         have p106 : 0 ≤ (x5_1 : Int) := of_decide_eq_true yq136
         have q106 : x5_1 < (l0.length : Int) := of_decide_eq_true yq136
         obtain ⟨ad106, e106, hx106_0, hx106_1, hx106_2, hx106_3⟩ := at_T157 HR0.out x5_1 p106 q106
         have hw106_3 := hx106_3
         have hw106_2 := hx106_2
         have hw106_1 := hx106_1
         have hw106_0 := hx106_0
         obtain rfl : ad101 = ad106 := (by injection e106)
         replace hx106_0 := (HB.out.cell (World.block_lt_of_cell? w _ hx106_0)).trans hx106_0
         replace hx106_1 := (HB.out.cell (World.block_lt_of_cell? w _ hx106_1)).trans hx106_1
         replace hx106_2 := (HB.out.cell (World.block_lt_of_cell? w _ hx106_2)).trans hx106_2
         replace hx106_3 := (HB.out.cell (World.block_lt_of_cell? w _ hx106_3)).trans hx106_3
         replace p106 := eq_true p106
         replace q106 := eq_true q106
         refine start_ (n := 8) (S := fun w' => w'.cell? (ad101.add ((x5_1).toNat * 4)) = some (.int .i64 ((qi l0 x5_1).f0)) ∧ w'.cell? ⟨(ad101.add ((x5_1).toNat * 4)).block, (ad101.add ((x5_1).toNat * 4)).off + 1, none⟩ = some (.string ((qi l0 x5_1).f1)) ∧ w'.cell? ⟨(ad101.add ((x5_1).toNat * 4)).block, (ad101.add ((x5_1).toNat * 4)).off + 2, none⟩ = some (.string ((qi l0 x5_1).f2)) ∧ w'.cell? ⟨(ad101.add ((x5_1).toNat * 4)).block, (ad101.add ((x5_1).toNat * 4)).off + 3, none⟩ = some (.string ((qi l0 x5_1).f3))) (ds := []) bq2 (by kernel_rfl) rfl rfl ⟨((HB.out.cell (World.block_lt_of_cell? w _ hw106_0)).trans hw106_0), ((HB.out.cell (World.block_lt_of_cell? w _ hw106_1)).trans hw106_1), ((HB.out.cell (World.block_lt_of_cell? w _ hw106_2)).trans hw106_2), ((HB.out.cell (World.block_lt_of_cell? w _ hw106_3)).trans hw106_3)⟩ (fun hHeld => ?_); refine with_tabW laws_heldDOpS.tab13 laws_heldDOpS.bits13 (fun HT_ HW_ => ?_)
         generalize w21.drew = w22 at HB hx106_0 hx106_1 hx106_2 hx106_3 hHeld ⊢
         refine pure_ (i := 0) (N := some 41) (v := ?_) (a' := ?_) bq5 rfl rfl (qw HT_.out (by kernel_rfl)) (fun _ _ _ h => h) (Or.inl ⟨by rfl, ?_⟩) ?_ ?_
         rotate_left
         ·intro w'
          go_simp
          with_reducible rfl
         rotate_left
         ·simp only [Act.put, sq1, sq2, sq3, i64_w, i32_w]
          rfl
         refine pure_ (i := 1) (N := some 42) (v := ?_) (a' := ?_) bq8 rfl rfl (qw HT_.out (by kernel_rfl)) (fun _ _ _ h => h) (Or.inl ⟨by rfl, ?_⟩) ?_ ?_
         rotate_left
         ·intro w'
          go_simp
          with_reducible rfl
         rotate_left
         ·simp only [Act.put, sq1, sq2, sq3, i64_w, i32_w]
          rfl
         refine pure_ (i := 2) (N := some 43) (v := ?_) (a' := ?_) bq11 rfl rfl (qw HT_.out (by kernel_rfl)) (fun _ _ _ h => h) (Or.inl ⟨by rfl, ?_⟩) ?_ ?_
         rotate_left
         ·intro w'
          go_simp
          with_reducible rfl
         rotate_left
         ·simp only [Act.put, sq1, sq2, sq3, i64_w, i32_w]
          rfl
         refine pure_ (i := 3) (N := some 44) (v := ?_) (a' := ?_) bq16 rfl rfl (qw HT_.out (by kernel_rfl)) (fun _ _ _ h => h) (Or.inl ⟨by rfl, ?_⟩) ?_ ?_
         rotate_left
         ·intro w'
          go_simp
          with_reducible rfl
         rotate_left
         ·simp only [Act.put, sq1, sq2, sq3, i64_w, i32_w]
          rfl
         refine pure_ (i := 5) (N := some 46) (v := ?_) (a' := ?_) bq18 rfl rfl (qw HT_.out (by kernel_rfl)) (fun _ _ _ h => h) (Or.inl ⟨by rfl, ?_⟩) ?_ ?_
         rotate_left
         ·intro w'
          go_simp
          with_reducible rfl
         rotate_left
         ·simp only [Act.put, sq1, sq2, sq3, i64_w, i32_w]
          rfl
         refine take_ (i := 4) (N := some 45) (v := ?_) (a' := ?_) bq20 rfl rfl (take_ofW HT_.out HW_.out (by kernel_rfl)) (fun _ _ _ h => h) (Or.inl ⟨by rfl, ?_⟩) hHeld ?_ ?_
         rotate_left
         ·rintro w' ⟨s0, s1, s2, s3⟩
          go_simp
          with_reducible rfl
         rotate_left
         ·simp only [Act.put, sq1, sq2, sq3, i64_w, i32_w]
          rfl
         refine one_ (i := 6) (N := some 47) bq23 rfl rfl (one_of HT_.out (by kernel_rfl)) (by decide) (fun K hK => ?_)
         refine goes_ Try.func89 (by kernel_rfl) rfl #[.int .i64 (wrap64 ((wrap64 ((wrap64 (x1_1 + 1)) + 1)) + 1))] (by rfl) rfl rfl yq135 ?_
         with_reducible refine (laws_markText.calls k1 (wrap64 ((wrap64 ((wrap64 (x1_1 + 1)) + 1)) + 1)) t107 _ A10.out).mono ?_
         rintro e w23 ⟨rfl, hb⟩
         refine ⟨_, rfl, ?_⟩
         replace HB := Qz.mk (ql yq137 hb)
         (try clear hb)
         refine hK.out _ _ ⟨((HB.out.cell (World.block_lt_of_cell? w _ hw106_0)).trans hw106_0), ((HB.out.cell (World.block_lt_of_cell? w _ hw106_1)).trans hw106_1), ((HB.out.cell (World.block_lt_of_cell? w _ hw106_2)).trans hw106_2), ((HB.out.cell (World.block_lt_of_cell? w _ hw106_3)).trans hw106_3)⟩ (fun hHeld => ?_)
         clear hK K
         refine norm_ (a' := ?_) ?_ ?_
         rotate_left
         ·show Act.put _ (some 47) _ = _
          simp only [Act.put, sq1, sq2, sq3, i64_w, i32_w]
          rfl
         refine pure_ (i := 7) (N := some 48) (v := ?_) (a' := ?_) bq31 rfl rfl (qw HT_.out (by kernel_rfl)) (fun _ _ _ h => h) (Or.inl ⟨by rfl, ?_⟩) ?_ ?_
         rotate_left
         ·intro w'
          go_simp
          with_reducible rfl
         rotate_left
         ·simp only [Act.put, sq1, sq2, sq3, i64_w, i32_w]
          rfl
         refine done_ (done_of HT_.out (by kernel_rfl)) ?_
         try go_wp2
         go_ret
         exact ⟨by first | rfl | (simp [qn, qm] <;> rfl) | (simp [*, qn, qm] <;> rfl), by repeat (first | (with_reducible first | exact HB.out | apply qc | apply qa | apply qb) | exact HB.out)⟩
       ·rw [if_neg c9] at H
        have c9b0 : (((qi l0 x5_1).f2).toList == t105.toList) = false := beq_eq_false_iff_ne.mpr c9
        have c9b1 : (((qi l0 x5_1).f2).toList != t105.toList) = true := bne_iff_ne.mpr c9
        obtain rfl := Option.some.inj H
        have p101 : 0 ≤ (x5_1 : Int) := of_decide_eq_true yq136
        have q101 : x5_1 < (l0.length : Int) := of_decide_eq_true yq136
        obtain ⟨ad101, e101, hx101_0, hx101_1, hx101_2, hx101_3⟩ := at_T157 HR0.out x5_1 p101 q101
        cases e101
        replace hx101_0 := (HB.out.cell (World.block_lt_of_cell? w _ hx101_0)).trans hx101_0
        replace hx101_1 := (HB.out.cell (World.block_lt_of_cell? w _ hx101_1)).trans hx101_1
        replace hx101_2 := (HB.out.cell (World.block_lt_of_cell? w _ hx101_2)).trans hx101_2
        replace hx101_3 := (HB.out.cell (World.block_lt_of_cell? w _ hx101_3)).trans hx101_3
        replace p101 := eq_true p101
        replace q101 := eq_true q101
        try go_wp2
        replace HB := Qz.mk (qb HB.out)
        have p102 : 0 ≤ (x5_1 : Int) := of_decide_eq_true yq136
        have q102 : x5_1 < (l0.length : Int) := of_decide_eq_true yq136
        obtain ⟨ad102, e102, hx102_0, hx102_1, hx102_2, hx102_3⟩ := at_T157 HR0.out x5_1 p102 q102
        have hw102_3 := hx102_3
        have hw102_2 := hx102_2
        have hw102_1 := hx102_1
        have hw102_0 := hx102_0
        obtain rfl : ad101 = ad102 := (by injection e102)
        replace hx102_0 := (HB.out.cell (World.block_lt_of_cell? w _ hx102_0)).trans hx102_0
        replace hx102_1 := (HB.out.cell (World.block_lt_of_cell? w _ hx102_1)).trans hx102_1
        replace hx102_2 := (HB.out.cell (World.block_lt_of_cell? w _ hx102_2)).trans hx102_2
        replace hx102_3 := (HB.out.cell (World.block_lt_of_cell? w _ hx102_3)).trans hx102_3
        replace p102 := eq_true p102
        replace q102 := eq_true q102
        refine start_ (n := 8) (S := fun w' => w'.cell? (ad101.add ((x5_1).toNat * 4)) = some (.int .i64 ((qi l0 x5_1).f0)) ∧ w'.cell? ⟨(ad101.add ((x5_1).toNat * 4)).block, (ad101.add ((x5_1).toNat * 4)).off + 1, none⟩ = some (.string ((qi l0 x5_1).f1)) ∧ w'.cell? ⟨(ad101.add ((x5_1).toNat * 4)).block, (ad101.add ((x5_1).toNat * 4)).off + 2, none⟩ = some (.string ((qi l0 x5_1).f2)) ∧ w'.cell? ⟨(ad101.add ((x5_1).toNat * 4)).block, (ad101.add ((x5_1).toNat * 4)).off + 3, none⟩ = some (.string ((qi l0 x5_1).f3))) (ds := []) bq2 (by kernel_rfl) rfl rfl ⟨((HB.out.cell (World.block_lt_of_cell? w _ hw102_0)).trans hw102_0), ((HB.out.cell (World.block_lt_of_cell? w _ hw102_1)).trans hw102_1), ((HB.out.cell (World.block_lt_of_cell? w _ hw102_2)).trans hw102_2), ((HB.out.cell (World.block_lt_of_cell? w _ hw102_3)).trans hw102_3)⟩ (fun hHeld => ?_); refine with_tabW laws_heldDOpS.tab7 laws_heldDOpS.bits7 (fun HT_ HW_ => ?_)
        generalize wr.drew = w24 at HB hx102_0 hx102_1 hx102_2 hx102_3 hHeld ⊢
        refine pure_ (i := 0) (N := some 21) (v := ?_) (a' := ?_) bq5 rfl rfl (qw HT_.out (by kernel_rfl)) (fun _ _ _ h => h) (Or.inl ⟨by rfl, ?_⟩) ?_ ?_
        rotate_left
        ·intro w'
         go_simp
         with_reducible rfl
        rotate_left
        ·simp only [Act.put, sq1, sq2, sq3, i64_w, i32_w]
         rfl
        refine pure_ (i := 1) (N := some 22) (v := ?_) (a' := ?_) bq8 rfl rfl (qw HT_.out (by kernel_rfl)) (fun _ _ _ h => h) (Or.inl ⟨by rfl, ?_⟩) ?_ ?_
        rotate_left
        ·intro w'
         go_simp
         with_reducible rfl
        rotate_left
        ·simp only [Act.put, sq1, sq2, sq3, i64_w, i32_w]
         rfl
        refine pure_ (i := 2) (N := some 23) (v := ?_) (a' := ?_) bq11 rfl rfl (qw HT_.out (by kernel_rfl)) (fun _ _ _ h => h) (Or.inl ⟨by rfl, ?_⟩) ?_ ?_
        rotate_left
        ·intro w'
         go_simp
         with_reducible rfl
        rotate_left
        ·simp only [Act.put, sq1, sq2, sq3, i64_w, i32_w]
         rfl
        refine pure_ (i := 3) (N := some 24) (v := ?_) (a' := ?_) bq16 rfl rfl (qw HT_.out (by kernel_rfl)) (fun _ _ _ h => h) (Or.inl ⟨by rfl, ?_⟩) ?_ ?_
        rotate_left
        ·intro w'
         go_simp
         with_reducible rfl
        rotate_left
        ·simp only [Act.put, sq1, sq2, sq3, i64_w, i32_w]
         rfl
        refine pure_ (i := 5) (N := some 26) (v := ?_) (a' := ?_) bq18 rfl rfl (qw HT_.out (by kernel_rfl)) (fun _ _ _ h => h) (Or.inl ⟨by rfl, ?_⟩) ?_ ?_
        rotate_left
        ·intro w'
         go_simp
         with_reducible rfl
        rotate_left
        ·simp only [Act.put, sq1, sq2, sq3, i64_w, i32_w]
         rfl
        refine take_ (i := 4) (N := some 25) (v := ?_) (a' := ?_) bq20 rfl rfl (take_ofW HT_.out HW_.out (by kernel_rfl)) (fun _ _ _ h => h) (Or.inl ⟨by rfl, ?_⟩) hHeld ?_ ?_
        rotate_left
        ·rintro w' ⟨s0, s1, s2, s3⟩
         go_simp
         with_reducible rfl
        rotate_left
        ·simp only [Act.put, sq1, sq2, sq3, i64_w, i32_w]
         rfl
        refine one_ (i := 6) (N := some 27) bq23 rfl rfl (one_of HT_.out (by kernel_rfl)) (by decide) (fun K hK => ?_)
        refine goes_ Try.func89 (by kernel_rfl) rfl #[.int .i64 (wrap64 (x1_1 + 1))] (by rfl) rfl rfl yq135 ?_
        with_reducible refine (laws_markText.calls k1 (wrap64 (x1_1 + 1)) t103 _ A6.out).mono ?_
        rintro e w25 ⟨rfl, hb⟩
        refine ⟨_, rfl, ?_⟩
        replace HB := Qz.mk (ql yq137 hb)
        (try clear hb)
        refine hK.out _ _ ⟨((HB.out.cell (World.block_lt_of_cell? w _ hw102_0)).trans hw102_0), ((HB.out.cell (World.block_lt_of_cell? w _ hw102_1)).trans hw102_1), ((HB.out.cell (World.block_lt_of_cell? w _ hw102_2)).trans hw102_2), ((HB.out.cell (World.block_lt_of_cell? w _ hw102_3)).trans hw102_3)⟩ (fun hHeld => ?_)
        clear hK K
        refine norm_ (a' := ?_) ?_ ?_
        rotate_left
        ·show Act.put _ (some 27) _ = _
         simp only [Act.put, sq1, sq2, sq3, i64_w, i32_w]
         rfl
        refine pure_ (i := 7) (N := some 28) (v := ?_) (a' := ?_) bq31 rfl rfl (qw HT_.out (by kernel_rfl)) (fun _ _ _ h => h) (Or.inl ⟨by rfl, ?_⟩) ?_ ?_
        rotate_left
        ·intro w'
         go_simp
         with_reducible rfl
        rotate_left
        ·simp only [Act.put, sq1, sq2, sq3, i64_w, i32_w]
         rfl
        refine done_ (done_of HT_.out (by kernel_rfl)) ?_
        try go_wp2
        replace HB := Qz.mk (qb HB.out)
        have p104 : 0 ≤ (x5_1 : Int) := of_decide_eq_true yq136
        have q104 : x5_1 < (l0.length : Int) := of_decide_eq_true yq136
        obtain ⟨ad104, e104, hx104_0, hx104_1, hx104_2, hx104_3⟩ := at_T157 HR0.out x5_1 p104 q104
        have hw104_3 := hx104_3
        have hw104_2 := hx104_2
        have hw104_1 := hx104_1
        have hw104_0 := hx104_0
        obtain rfl : ad101 = ad104 := (by injection e104)
        replace hx104_0 := (HB.out.cell (World.block_lt_of_cell? w _ hx104_0)).trans hx104_0
        replace hx104_1 := (HB.out.cell (World.block_lt_of_cell? w _ hx104_1)).trans hx104_1
        replace hx104_2 := (HB.out.cell (World.block_lt_of_cell? w _ hx104_2)).trans hx104_2
        replace hx104_3 := (HB.out.cell (World.block_lt_of_cell? w _ hx104_3)).trans hx104_3
        replace p104 := eq_true p104
        replace q104 := eq_true q104
        refine start_ (n := 8) (S := fun w' => w'.cell? (ad101.add ((x5_1).toNat * 4)) = some (.int .i64 ((qi l0 x5_1).f0)) ∧ w'.cell? ⟨(ad101.add ((x5_1).toNat * 4)).block, (ad101.add ((x5_1).toNat * 4)).off + 1, none⟩ = some (.string ((qi l0 x5_1).f1)) ∧ w'.cell? ⟨(ad101.add ((x5_1).toNat * 4)).block, (ad101.add ((x5_1).toNat * 4)).off + 2, none⟩ = some (.string ((qi l0 x5_1).f2)) ∧ w'.cell? ⟨(ad101.add ((x5_1).toNat * 4)).block, (ad101.add ((x5_1).toNat * 4)).off + 3, none⟩ = some (.string ((qi l0 x5_1).f3))) (ds := []) bq2 (by kernel_rfl) rfl rfl ⟨((HB.out.cell (World.block_lt_of_cell? w _ hw104_0)).trans hw104_0), ((HB.out.cell (World.block_lt_of_cell? w _ hw104_1)).trans hw104_1), ((HB.out.cell (World.block_lt_of_cell? w _ hw104_2)).trans hw104_2), ((HB.out.cell (World.block_lt_of_cell? w _ hw104_3)).trans hw104_3)⟩ (fun hHeld => ?_); refine with_tabW laws_heldDOpS.tab10 laws_heldDOpS.bits10 (fun HT_ HW_ => ?_)
        generalize w25.drew = w26 at HB hx104_0 hx104_1 hx104_2 hx104_3 hHeld ⊢
        refine pure_ (i := 0) (N := some 31) (v := ?_) (a' := ?_) bq5 rfl rfl (qw HT_.out (by kernel_rfl)) (fun _ _ _ h => h) (Or.inl ⟨by rfl, ?_⟩) ?_ ?_
        rotate_left
        ·intro w'
         go_simp
         with_reducible rfl
        rotate_left
        ·simp only [Act.put, sq1, sq2, sq3, i64_w, i32_w]
         rfl
        refine pure_ (i := 1) (N := some 32) (v := ?_) (a' := ?_) bq8 rfl rfl (qw HT_.out (by kernel_rfl)) (fun _ _ _ h => h) (Or.inl ⟨by rfl, ?_⟩) ?_ ?_
        rotate_left
        ·intro w'
         go_simp
         with_reducible rfl
        rotate_left
        ·simp only [Act.put, sq1, sq2, sq3, i64_w, i32_w]
         rfl
        refine pure_ (i := 2) (N := some 33) (v := ?_) (a' := ?_) bq11 rfl rfl (qw HT_.out (by kernel_rfl)) (fun _ _ _ h => h) (Or.inl ⟨by rfl, ?_⟩) ?_ ?_
        rotate_left
        ·intro w'
         go_simp
         with_reducible rfl
        rotate_left
        ·simp only [Act.put, sq1, sq2, sq3, i64_w, i32_w]
         rfl
        refine pure_ (i := 3) (N := some 34) (v := ?_) (a' := ?_) bq16 rfl rfl (qw HT_.out (by kernel_rfl)) (fun _ _ _ h => h) (Or.inl ⟨by rfl, ?_⟩) ?_ ?_
        rotate_left
        ·intro w'
         go_simp
         with_reducible rfl
        rotate_left
        ·simp only [Act.put, sq1, sq2, sq3, i64_w, i32_w]
         rfl
        refine pure_ (i := 5) (N := some 36) (v := ?_) (a' := ?_) bq18 rfl rfl (qw HT_.out (by kernel_rfl)) (fun _ _ _ h => h) (Or.inl ⟨by rfl, ?_⟩) ?_ ?_
        rotate_left
        ·intro w'
         go_simp
         with_reducible rfl
        rotate_left
        ·simp only [Act.put, sq1, sq2, sq3, i64_w, i32_w]
         rfl
        refine take_ (i := 4) (N := some 35) (v := ?_) (a' := ?_) bq20 rfl rfl (take_ofW HT_.out HW_.out (by kernel_rfl)) (fun _ _ _ h => h) (Or.inl ⟨by rfl, ?_⟩) hHeld ?_ ?_
        rotate_left
        ·rintro w' ⟨s0, s1, s2, s3⟩
         go_simp
         with_reducible rfl
        rotate_left
        ·simp only [Act.put, sq1, sq2, sq3, i64_w, i32_w]
         rfl
        refine one_ (i := 6) (N := some 37) bq23 rfl rfl (one_of HT_.out (by kernel_rfl)) (by decide) (fun K hK => ?_)
        refine goes_ Try.func89 (by kernel_rfl) rfl #[.int .i64 (wrap64 ((wrap64 (x1_1 + 1)) + 1))] (by rfl) rfl rfl yq135 ?_
        with_reducible refine (laws_markText.calls k1 (wrap64 ((wrap64 (x1_1 + 1)) + 1)) t105 _ A8.out).mono ?_
        rintro e w27 ⟨rfl, hb⟩
        refine ⟨_, rfl, ?_⟩
        replace HB := Qz.mk (ql yq137 hb)
        (try clear hb)
        refine hK.out _ _ ⟨((HB.out.cell (World.block_lt_of_cell? w _ hw104_0)).trans hw104_0), ((HB.out.cell (World.block_lt_of_cell? w _ hw104_1)).trans hw104_1), ((HB.out.cell (World.block_lt_of_cell? w _ hw104_2)).trans hw104_2), ((HB.out.cell (World.block_lt_of_cell? w _ hw104_3)).trans hw104_3)⟩ (fun hHeld => ?_)
        clear hK K
        refine norm_ (a' := ?_) ?_ ?_
        rotate_left
        ·show Act.put _ (some 37) _ = _
         simp only [Act.put, sq1, sq2, sq3, i64_w, i32_w]
         rfl
        refine pure_ (i := 7) (N := some 38) (v := ?_) (a' := ?_) bq31 rfl rfl (qw HT_.out (by kernel_rfl)) (fun _ _ _ h => h) (Or.inl ⟨by rfl, ?_⟩) ?_ ?_
        rotate_left
        ·intro w'
         go_simp
         with_reducible rfl
        rotate_left
        ·simp only [Act.put, sq1, sq2, sq3, i64_w, i32_w]
         rfl
        refine done_ (done_of HT_.out (by kernel_rfl)) ?_
        try go_wp2
        go_ret
        exact ⟨by first | rfl | (simp [qn, qm] <;> rfl) | (simp [*, qn, qm] <;> rfl), by repeat (first | (with_reducible first | exact HB.out | apply qc | apply qa | apply qb) | exact HB.out)⟩
      ·rw [if_neg c7] at H
       have c7b0 : (((qi l0 x5_1).f1).toList == t103.toList) = false := beq_eq_false_iff_ne.mpr c7
       have c7b1 : (((qi l0 x5_1).f1).toList != t103.toList) = true := bne_iff_ne.mpr c7
       obtain rfl := Option.some.inj H
       have p101 : 0 ≤ (x5_1 : Int) := of_decide_eq_true yq136
       have q101 : x5_1 < (l0.length : Int) := of_decide_eq_true yq136
       obtain ⟨ad101, e101, hx101_0, hx101_1, hx101_2, hx101_3⟩ := at_T157 HR0.out x5_1 p101 q101
       cases e101
       replace hx101_0 := (HB.out.cell (World.block_lt_of_cell? w _ hx101_0)).trans hx101_0
       replace hx101_1 := (HB.out.cell (World.block_lt_of_cell? w _ hx101_1)).trans hx101_1
       replace hx101_2 := (HB.out.cell (World.block_lt_of_cell? w _ hx101_2)).trans hx101_2
       replace hx101_3 := (HB.out.cell (World.block_lt_of_cell? w _ hx101_3)).trans hx101_3
       replace p101 := eq_true p101
       replace q101 := eq_true q101
       try go_wp2
       replace HB := Qz.mk (qb HB.out)
       have p102 : 0 ≤ (x5_1 : Int) := of_decide_eq_true yq136
       have q102 : x5_1 < (l0.length : Int) := of_decide_eq_true yq136
       obtain ⟨ad102, e102, hx102_0, hx102_1, hx102_2, hx102_3⟩ := at_T157 HR0.out x5_1 p102 q102
       have hw102_3 := hx102_3
       have hw102_2 := hx102_2
       have hw102_1 := hx102_1
       have hw102_0 := hx102_0
       obtain rfl : ad101 = ad102 := (by injection e102)
       replace hx102_0 := (HB.out.cell (World.block_lt_of_cell? w _ hx102_0)).trans hx102_0
       replace hx102_1 := (HB.out.cell (World.block_lt_of_cell? w _ hx102_1)).trans hx102_1
       replace hx102_2 := (HB.out.cell (World.block_lt_of_cell? w _ hx102_2)).trans hx102_2
       replace hx102_3 := (HB.out.cell (World.block_lt_of_cell? w _ hx102_3)).trans hx102_3
       replace p102 := eq_true p102
       replace q102 := eq_true q102
       refine start_ (n := 8) (S := fun w' => w'.cell? (ad101.add ((x5_1).toNat * 4)) = some (.int .i64 ((qi l0 x5_1).f0)) ∧ w'.cell? ⟨(ad101.add ((x5_1).toNat * 4)).block, (ad101.add ((x5_1).toNat * 4)).off + 1, none⟩ = some (.string ((qi l0 x5_1).f1)) ∧ w'.cell? ⟨(ad101.add ((x5_1).toNat * 4)).block, (ad101.add ((x5_1).toNat * 4)).off + 2, none⟩ = some (.string ((qi l0 x5_1).f2)) ∧ w'.cell? ⟨(ad101.add ((x5_1).toNat * 4)).block, (ad101.add ((x5_1).toNat * 4)).off + 3, none⟩ = some (.string ((qi l0 x5_1).f3))) (ds := []) bq2 (by kernel_rfl) rfl rfl ⟨((HB.out.cell (World.block_lt_of_cell? w _ hw102_0)).trans hw102_0), ((HB.out.cell (World.block_lt_of_cell? w _ hw102_1)).trans hw102_1), ((HB.out.cell (World.block_lt_of_cell? w _ hw102_2)).trans hw102_2), ((HB.out.cell (World.block_lt_of_cell? w _ hw102_3)).trans hw102_3)⟩ (fun hHeld => ?_); refine with_tabW laws_heldDOpS.tab7 laws_heldDOpS.bits7 (fun HT_ HW_ => ?_)
       generalize wr.drew = w28 at HB hx102_0 hx102_1 hx102_2 hx102_3 hHeld ⊢
       refine pure_ (i := 0) (N := some 21) (v := ?_) (a' := ?_) bq5 rfl rfl (qw HT_.out (by kernel_rfl)) (fun _ _ _ h => h) (Or.inl ⟨by rfl, ?_⟩) ?_ ?_
       rotate_left
       ·intro w'
        go_simp
        with_reducible rfl
       rotate_left
       ·simp only [Act.put, sq1, sq2, sq3, i64_w, i32_w]
        rfl
       refine pure_ (i := 1) (N := some 22) (v := ?_) (a' := ?_) bq8 rfl rfl (qw HT_.out (by kernel_rfl)) (fun _ _ _ h => h) (Or.inl ⟨by rfl, ?_⟩) ?_ ?_
       rotate_left
       ·intro w'
        go_simp
        with_reducible rfl
       rotate_left
       ·simp only [Act.put, sq1, sq2, sq3, i64_w, i32_w]
        rfl
       refine pure_ (i := 2) (N := some 23) (v := ?_) (a' := ?_) bq11 rfl rfl (qw HT_.out (by kernel_rfl)) (fun _ _ _ h => h) (Or.inl ⟨by rfl, ?_⟩) ?_ ?_
       rotate_left
       ·intro w'
        go_simp
        with_reducible rfl
       rotate_left
       ·simp only [Act.put, sq1, sq2, sq3, i64_w, i32_w]
        rfl
       refine pure_ (i := 3) (N := some 24) (v := ?_) (a' := ?_) bq16 rfl rfl (qw HT_.out (by kernel_rfl)) (fun _ _ _ h => h) (Or.inl ⟨by rfl, ?_⟩) ?_ ?_
       rotate_left
       ·intro w'
        go_simp
        with_reducible rfl
       rotate_left
       ·simp only [Act.put, sq1, sq2, sq3, i64_w, i32_w]
        rfl
       refine pure_ (i := 5) (N := some 26) (v := ?_) (a' := ?_) bq18 rfl rfl (qw HT_.out (by kernel_rfl)) (fun _ _ _ h => h) (Or.inl ⟨by rfl, ?_⟩) ?_ ?_
       rotate_left
       ·intro w'
        go_simp
        with_reducible rfl
       rotate_left
       ·simp only [Act.put, sq1, sq2, sq3, i64_w, i32_w]
        rfl
       refine take_ (i := 4) (N := some 25) (v := ?_) (a' := ?_) bq20 rfl rfl (take_ofW HT_.out HW_.out (by kernel_rfl)) (fun _ _ _ h => h) (Or.inl ⟨by rfl, ?_⟩) hHeld ?_ ?_
       rotate_left
       ·rintro w' ⟨s0, s1, s2, s3⟩
        go_simp
        with_reducible rfl
       rotate_left
       ·simp only [Act.put, sq1, sq2, sq3, i64_w, i32_w]
        rfl
       refine one_ (i := 6) (N := some 27) bq23 rfl rfl (one_of HT_.out (by kernel_rfl)) (by decide) (fun K hK => ?_)
       refine goes_ Try.func89 (by kernel_rfl) rfl #[.int .i64 (wrap64 (x1_1 + 1))] (by rfl) rfl rfl yq135 ?_
       with_reducible refine (laws_markText.calls k1 (wrap64 (x1_1 + 1)) t103 _ A6.out).mono ?_
       rintro e w29 ⟨rfl, hb⟩
       refine ⟨_, rfl, ?_⟩
       replace HB := Qz.mk (ql yq137 hb)
       (try clear hb)
       refine hK.out _ _ ⟨((HB.out.cell (World.block_lt_of_cell? w _ hw102_0)).trans hw102_0), ((HB.out.cell (World.block_lt_of_cell? w _ hw102_1)).trans hw102_1), ((HB.out.cell (World.block_lt_of_cell? w _ hw102_2)).trans hw102_2), ((HB.out.cell (World.block_lt_of_cell? w _ hw102_3)).trans hw102_3)⟩ (fun hHeld => ?_)
       clear hK K
       refine norm_ (a' := ?_) ?_ ?_
       rotate_left
       ·show Act.put _ (some 27) _ = _
        simp only [Act.put, sq1, sq2, sq3, i64_w, i32_w]
        rfl
       refine pure_ (i := 7) (N := some 28) (v := ?_) (a' := ?_) bq31 rfl rfl (qw HT_.out (by kernel_rfl)) (fun _ _ _ h => h) (Or.inl ⟨by rfl, ?_⟩) ?_ ?_
       rotate_left
       ·intro w'
        go_simp
        with_reducible rfl
       rotate_left
       ·simp only [Act.put, sq1, sq2, sq3, i64_w, i32_w]
        rfl
       refine done_ (done_of HT_.out (by kernel_rfl)) ?_
       try go_wp2
       go_ret
       exact ⟨by first | rfl | (simp [qn, qm] <;> rfl) | (simp [*, qn, qm] <;> rfl), by repeat (first | (with_reducible first | exact HB.out | apply qc | apply qa | apply qb) | exact HB.out)⟩
     ·rw [if_neg c5] at H
      have c5b0 : (((qi l0 x5_1).f0) == x1_1) = false := beq_eq_false_iff_ne.mpr c5
      have c5b1 : (((qi l0 x5_1).f0) != x1_1) = true := bne_iff_ne.mpr c5
      obtain rfl := Option.some.inj H
      have p101 : 0 ≤ (x5_1 : Int) := of_decide_eq_true yq136
      have q101 : x5_1 < (l0.length : Int) := of_decide_eq_true yq136
      obtain ⟨ad101, e101, hx101_0, hx101_1, hx101_2, hx101_3⟩ := at_T157 HR0.out x5_1 p101 q101
      cases e101
      replace hx101_0 := (HB.out.cell (World.block_lt_of_cell? w _ hx101_0)).trans hx101_0
      replace hx101_1 := (HB.out.cell (World.block_lt_of_cell? w _ hx101_1)).trans hx101_1
      replace hx101_2 := (HB.out.cell (World.block_lt_of_cell? w _ hx101_2)).trans hx101_2
      replace hx101_3 := (HB.out.cell (World.block_lt_of_cell? w _ hx101_3)).trans hx101_3
      replace p101 := eq_true p101
      replace q101 := eq_true q101
      go_wp2
      go_ret
      exact ⟨by first | rfl | (simp [qn, qm] <;> rfl) | (simp [*, qn, qm] <;> rfl), by repeat (first | (with_reducible first | exact HB.out | apply qc | apply qa | apply qb) | exact HB.out)⟩
    ·rw [if_neg c4] at H
     exact absurd H (by simp)
   ·rw [if_neg c3] at H
    have c3b0 : decide (x5_1 < (l0.length : Int)) = false := decide_eq_false c3
    clear c3
    obtain rfl := Option.some.inj H
    go_wp2
    go_ret
    exact ⟨by first | rfl | (simp [qn, qm] <;> rfl) | (simp [*, qn, qm] <;> rfl), by repeat (first | (with_reducible first | exact HB.out | apply qc | apply qa | apply qb) | exact HB.out)⟩
theorem yq138 {P : Prop} (h : P := by (try simp only [List.map_toArray, List.map_cons, List.map_nil]); first | done | rfl | (simp only [List.length_drop, List.length_take]; rfl) | (rw [IntWalk.u64_in _ (by omega)] <;> rfl)) : P := h
theorem yq139 {P : Prop} (h : P := by repeat (first | (with_reducible first | exact HB.out | apply qc | apply qa | apply qb | refine qf ?_ GE101.out) | exact HB.out)) : P := h
theorem yq140 {P : Prop} (h : P := by (with_reducible repeat (first | refine qh ?_ _ | refine qk ?_ | refine qg ?_ _)); exact BK101.out) : P := h
theorem yq141 {P : Prop} (h : P := by repeat (first | (with_reducible first | exact HB.out | apply qc | apply qa | apply qb) | exact HB.out)) : P := h
theorem yq142 {P : Prop} (h : P := by repeat (first | exact (Kd.C_below HR0_0.out HB.out) | (with_reducible refine Kd.C_alloc ?_ _) | (with_reducible refine Kd.C_drewN ?_ _) | (with_reducible refine Kd.C_drew ?_))) : P := h
theorem yq143 {P : Prop} (h : P := by repeat (first | exact (Kd.C_below HR0_1.out HB.out) | (with_reducible refine Kd.C_alloc ?_ _) | (with_reducible refine Kd.C_drewN ?_ _) | (with_reducible refine Kd.C_drew ?_))) : P := h
theorem bkbf62 {w0 W W2 : World} {g : Nat} {o : Obj} (_ : Qz (w0.heap[g]? = some o)) (h : W.heap[g]? = some o) (hb : Below W.heap.size W W2) : Qz (W2.heap[g]? = some o) := Qz.mk (qq h hb)
def laws_heldDisk.f (k : Nat) (l0_0 : List (S170)) (l0_1 : List (S170)) (l0_2 : List (S157)) (a1 : Int) : Option (Int) := (laws_heldFileS.f k l0_0 a1).bind fun t102 => (if t102 < 0 then (some (-1)) else ((laws_heldFileS.f k l0_1 t102).bind fun t103 => (if t103 < 0 then (some (-1)) else ((laws_heldDOpS.f k l0_2 t103).bind fun t104 => (if t104 < 0 then (some (-1)) else (some t104))))))
set_option maxHeartbeats 8000000 in
set_option maxRecDepth 100000 in
theorem laws_heldDisk.calls (k : Nat) (A0_0 : Option Addr) (c0_0 : Nat) (l0_0 : List (S170)) (A0_1 : Option Addr) (c0_1 : Nat) (l0_1 : List (S170)) (A0_2 : Option Addr) (c0_2 : Nat) (l0_2 : List (S157)) (a1 : Int) (r : Int) (w : World) (hr0_0 : Kd.C k170 w A0_0 l0_0.length l0_0) (hc0_0 : l0_0.length ≤ c0_0) (hr0_1 : Kd.C k170 w A0_1 l0_1.length l0_1) (hc0_1 : l0_1.length ≤ c0_1) (hr0_2 : Kd.C k157 w A0_2 l0_2.length l0_2) (hc0_2 : l0_2.length ≤ c0_2) (h : laws_heldDisk.f k l0_0 l0_1 l0_2 a1 = some r) :
  Calls Try.prog 62 #[.agg #[.slice A0_0 l0_0.length c0_0, .slice A0_1 l0_1.length c0_1, .slice A0_2 l0_2.length c0_2], .int .i64 a1] w fun e w' => e = .returned (.int .i64 r) ∧ Below w.heap.size w w' := by
 have hu85 := Try.underlying85
 have HR0_0 := Qz.mk hr0_0
 have HC0_0 := Qz.mk hc0_0
 clear hr0_0 hc0_0
 have HR0_1 := Qz.mk hr0_1
 have HC0_1 := Qz.mk hc0_1
 clear hr0_1 hc0_1
 have HR0_2 := Qz.mk hr0_2
 have HC0_2 := Qz.mk hc0_2
 clear hr0_2 hc0_2
 have HB := Qz.mk (Below.refl w.heap.size w)
 have H : ((laws_heldFileS.f k l0_0 a1).bind fun t102 => (if t102 < 0 then (some (-1)) else ((laws_heldFileS.f k l0_1 t102).bind fun t103 => (if t103 < 0 then (some (-1)) else ((laws_heldDOpS.f k l0_2 t103).bind fun t104 => (if t104 < 0 then (some (-1)) else (some t104))))))) = some r := h
 clear h
 replace H := Option.bind_eq_some_iff.mp H
 obtain ⟨t102, A30, H⟩ := H
 replace H : (if t102 < 0 then (some (-1)) else ((laws_heldFileS.f k l0_1 t102).bind fun t103 => (if t103 < 0 then (some (-1)) else ((laws_heldDOpS.f k l0_2 t103).bind fun t104 => (if t104 < 0 then (some (-1)) else (some t104)))))) = some r := H
 have A3 := Qz.mk A30
 clear A30
 by_cases c4 : t102 < 0
 ·rw [if_pos c4] at H
  have c4b0 : decide (t102 < 0) = true := decide_eq_true c4
  clear c4
  obtain rfl := Option.some.inj H
  go_enter Try.func62, Try.ntmps62
  go_wp2_with (first | ((with_reducible refine qt (N := 2) rfl ?_); refine qr ?hg (N := 2) ?hd (cs := #[.slice A0_0 l0_0.length c0_0, .slice A0_1 l0_1.length c0_1, .slice A0_2 l0_2.length c0_2]) (t := 85) ?hr ?_; (case hd => rfl); (case hg => rfl); (case hr => first | (go_simp; done) | (go_simp; rfl)); intro gb101 hg w5 hbox hb; have BK101 := Qz.mk (hbox); have GW101 := Qz.mk ((by rw [hg]; exact (qo yq141) : w.heap.size ≤ gb101)); have GE101 := GW101; replace HB := Qz.mk (ql yq141 hb); clear hb hbox hg; have hcz6_0 := (qd BK101.out 0).trans rfl; have hcz6_1 := (qd BK101.out 1).trans rfl; have hcz6_2 := (qd BK101.out 2).trans rfl; have hfz6_0 := qe BK101.out 0; have hfz6_1 := qe BK101.out 1; have hfz6_2 := qe BK101.out 2) | ((with_reducible refine qp (f := 132) rfl ?_); refine qc1 (some 8) rfl rfl Try.func132 (by kernel_rfl) rfl #[.slice A0_0 l0_0.length c0_0, .int .i64 a1] rfl yq138 ?_; (with_reducible refine (laws_heldFileS.calls k _ _ l0_0 a1 t102 _ ?side1 ?side2 A3.out).mono ?_); (case side1 => exact yq142); (case side2 => exact HC0_0.out); rintro e w7 ⟨rfl, hb⟩; refine ⟨_, rfl, ?_⟩; replace BK101 := bkbf62 BK101 yq140 hb; replace HB := Qz.mk (ql yq139 hb); (try clear hb)))
  go_ret
  exact ⟨by first | rfl | (simp [qn, qm] <;> rfl) | (simp [*, qn, qm] <;> rfl), by repeat (first | (with_reducible first | exact HB.out | apply qc | apply qa | apply qb | refine qf ?_ GE101.out) | exact HB.out)⟩
 ·rw [if_neg c4] at H
  have c4b0 : decide (t102 < 0) = false := decide_eq_false c4
  clear c4
  replace H := Option.bind_eq_some_iff.mp H
  obtain ⟨t103, A80, H⟩ := H
  replace H : (if t103 < 0 then (some (-1)) else ((laws_heldDOpS.f k l0_2 t103).bind fun t104 => (if t104 < 0 then (some (-1)) else (some t104)))) = some r := H
  have A8 := Qz.mk A80
  clear A80
  by_cases c9 : t103 < 0
  ·rw [if_pos c9] at H
   have c9b0 : decide (t103 < 0) = true := decide_eq_true c9
   clear c9
   obtain rfl := Option.some.inj H
   go_enter Try.func62, Try.ntmps62
   go_wp2_with (first | ((with_reducible refine qt (N := 2) rfl ?_); refine qr ?hg (N := 2) ?hd (cs := #[.slice A0_0 l0_0.length c0_0, .slice A0_1 l0_1.length c0_1, .slice A0_2 l0_2.length c0_2]) (t := 85) ?hr ?_; (case hd => rfl); (case hg => rfl); (case hr => first | (go_simp; done) | (go_simp; rfl)); intro gb101 hg w10 hbox hb; have BK101 := Qz.mk (hbox); have GW101 := Qz.mk ((by rw [hg]; exact (qo yq141) : w.heap.size ≤ gb101)); have GE101 := GW101; replace HB := Qz.mk (ql yq141 hb); clear hb hbox hg; have hcz11_0 := (qd BK101.out 0).trans rfl; have hcz11_1 := (qd BK101.out 1).trans rfl; have hcz11_2 := (qd BK101.out 2).trans rfl; have hfz11_0 := qe BK101.out 0; have hfz11_1 := qe BK101.out 1; have hfz11_2 := qe BK101.out 2) | ((with_reducible refine qp (f := 132) rfl ?_); refine qc1 (some 8) rfl rfl Try.func132 (by kernel_rfl) rfl #[.slice A0_0 l0_0.length c0_0, .int .i64 a1] rfl yq138 ?_; (with_reducible refine (laws_heldFileS.calls k _ _ l0_0 a1 t102 _ ?side1 ?side2 A3.out).mono ?_); (case side1 => exact yq142); (case side2 => exact HC0_0.out); rintro e w12 ⟨rfl, hb⟩; refine ⟨_, rfl, ?_⟩; replace BK101 := bkbf62 BK101 yq140 hb; replace HB := Qz.mk (ql yq139 hb); (try clear hb); have hcz13_0 := (qd BK101.out 0).trans rfl; have hcz13_1 := (qd BK101.out 1).trans rfl; have hcz13_2 := (qd BK101.out 2).trans rfl; have hfz13_0 := qe BK101.out 0; have hfz13_1 := qe BK101.out 1; have hfz13_2 := qe BK101.out 2) | ((with_reducible refine qp (f := 132) rfl ?_); refine qc1 (some 14) rfl rfl Try.func132 (by kernel_rfl) rfl #[.slice A0_1 l0_1.length c0_1, .int .i64 t102] rfl yq138 ?_; (with_reducible refine (laws_heldFileS.calls k _ _ l0_1 t102 t103 _ ?side1 ?side2 A8.out).mono ?_); (case side1 => exact yq143); (case side2 => exact HC0_1.out); rintro e w14 ⟨rfl, hb⟩; refine ⟨_, rfl, ?_⟩; replace BK101 := bkbf62 BK101 yq140 hb; replace HB := Qz.mk (ql yq139 hb); (try clear hb)))
   go_ret
   exact ⟨by first | rfl | (simp [qn, qm] <;> rfl) | (simp [*, qn, qm] <;> rfl), by repeat (first | (with_reducible first | exact HB.out | apply qc | apply qa | apply qb | refine qf ?_ GE101.out) | exact HB.out)⟩
  ·rw [if_neg c9] at H
   have c9b0 : decide (t103 < 0) = false := decide_eq_false c9
   clear c9
   replace H := Option.bind_eq_some_iff.mp H
   obtain ⟨t104, A150, H⟩ := H
   replace H : (if t104 < 0 then (some (-1)) else (some t104)) = some r := H
   have A15 := Qz.mk A150
   clear A150
   by_cases c16 : t104 < 0
   ·rw [if_pos c16] at H
    have c16b0 : decide (t104 < 0) = true := decide_eq_true c16
    clear c16
    obtain rfl := Option.some.inj H
    go_enter Try.func62, Try.ntmps62
    go_wp2_with (first | ((with_reducible refine qt (N := 2) rfl ?_); refine qr ?hg (N := 2) ?hd (cs := #[.slice A0_0 l0_0.length c0_0, .slice A0_1 l0_1.length c0_1, .slice A0_2 l0_2.length c0_2]) (t := 85) ?hr ?_; (case hd => rfl); (case hg => rfl); (case hr => first | (go_simp; done) | (go_simp; rfl)); intro gb101 hg w17 hbox hb; have BK101 := Qz.mk (hbox); have GW101 := Qz.mk ((by rw [hg]; exact (qo yq141) : w.heap.size ≤ gb101)); have GE101 := GW101; replace HB := Qz.mk (ql yq141 hb); clear hb hbox hg; have hcz18_0 := (qd BK101.out 0).trans rfl; have hcz18_1 := (qd BK101.out 1).trans rfl; have hcz18_2 := (qd BK101.out 2).trans rfl; have hfz18_0 := qe BK101.out 0; have hfz18_1 := qe BK101.out 1; have hfz18_2 := qe BK101.out 2) | ((with_reducible refine qp (f := 132) rfl ?_); refine qc1 (some 8) rfl rfl Try.func132 (by kernel_rfl) rfl #[.slice A0_0 l0_0.length c0_0, .int .i64 a1] rfl yq138 ?_; (with_reducible refine (laws_heldFileS.calls k _ _ l0_0 a1 t102 _ ?side1 ?side2 A3.out).mono ?_); (case side1 => exact yq142); (case side2 => exact HC0_0.out); rintro e w19 ⟨rfl, hb⟩; refine ⟨_, rfl, ?_⟩; replace BK101 := bkbf62 BK101 yq140 hb; replace HB := Qz.mk (ql yq139 hb); (try clear hb); have hcz20_0 := (qd BK101.out 0).trans rfl; have hcz20_1 := (qd BK101.out 1).trans rfl; have hcz20_2 := (qd BK101.out 2).trans rfl; have hfz20_0 := qe BK101.out 0; have hfz20_1 := qe BK101.out 1; have hfz20_2 := qe BK101.out 2) | ((with_reducible refine qp (f := 132) rfl ?_); refine qc1 (some 14) rfl rfl Try.func132 (by kernel_rfl) rfl #[.slice A0_1 l0_1.length c0_1, .int .i64 t102] rfl yq138 ?_; (with_reducible refine (laws_heldFileS.calls k _ _ l0_1 t102 t103 _ ?side1 ?side2 A8.out).mono ?_); (case side1 => exact yq143); (case side2 => exact HC0_1.out); rintro e w21 ⟨rfl, hb⟩; refine ⟨_, rfl, ?_⟩; replace BK101 := bkbf62 BK101 yq140 hb; replace HB := Qz.mk (ql yq139 hb); (try clear hb); have hcz22_0 := (qd BK101.out 0).trans rfl; have hcz22_1 := (qd BK101.out 1).trans rfl; have hcz22_2 := (qd BK101.out 2).trans rfl; have hfz22_0 := qe BK101.out 0; have hfz22_1 := qe BK101.out 1; have hfz22_2 := qe BK101.out 2) | ((with_reducible refine qp (f := 133) rfl ?_); refine qc1 (some 20) rfl rfl Try.func133 (by kernel_rfl) rfl #[.slice A0_2 l0_2.length c0_2, .int .i64 t103] rfl yq138 ?_; (with_reducible refine (laws_heldDOpS.calls k _ _ l0_2 t103 t104 _ ?side1 ?side2 A15.out).mono ?_); (case side1 => repeat (first | exact (Kd.C_below HR0_2.out HB.out) | (with_reducible refine Kd.C_alloc ?_ _) | (with_reducible refine Kd.C_drewN ?_ _) | (with_reducible refine Kd.C_drew ?_))); (case side2 => exact HC0_2.out); rintro e w23 ⟨rfl, hb⟩; refine ⟨_, rfl, ?_⟩; replace BK101 := bkbf62 BK101 yq140 hb; replace HB := Qz.mk (ql yq139 hb); (try clear hb)))
    go_ret
    exact ⟨by first | rfl | (simp [qn, qm] <;> rfl) | (simp [*, qn, qm] <;> rfl), by repeat (first | (with_reducible first | exact HB.out | apply qc | apply qa | apply qb | refine qf ?_ GE101.out) | exact HB.out)⟩
   ·rw [if_neg c16] at H
    have c16b0 : decide (t104 < 0) = false := decide_eq_false c16
    clear c16
    obtain rfl := Option.some.inj H
    go_enter Try.func62, Try.ntmps62
    go_wp2_with (first | ((with_reducible refine qt (N := 2) rfl ?_); refine qr ?hg (N := 2) ?hd (cs := #[.slice A0_0 l0_0.length c0_0, .slice A0_1 l0_1.length c0_1, .slice A0_2 l0_2.length c0_2]) (t := 85) ?hr ?_; (case hd => rfl); (case hg => rfl); (case hr => first | (go_simp; done) | (go_simp; rfl)); intro gb101 hg w24 hbox hb; have BK101 := Qz.mk (hbox); have GW101 := Qz.mk ((by rw [hg]; exact (qo yq141) : w.heap.size ≤ gb101)); have GE101 := GW101; replace HB := Qz.mk (ql yq141 hb); clear hb hbox hg; have hcz25_0 := (qd BK101.out 0).trans rfl; have hcz25_1 := (qd BK101.out 1).trans rfl; have hcz25_2 := (qd BK101.out 2).trans rfl; have hfz25_0 := qe BK101.out 0; have hfz25_1 := qe BK101.out 1; have hfz25_2 := qe BK101.out 2) | ((with_reducible refine qp (f := 132) rfl ?_); refine qc1 (some 8) rfl rfl Try.func132 (by kernel_rfl) rfl #[.slice A0_0 l0_0.length c0_0, .int .i64 a1] rfl yq138 ?_; (with_reducible refine (laws_heldFileS.calls k _ _ l0_0 a1 t102 _ ?side1 ?side2 A3.out).mono ?_); (case side1 => exact yq142); (case side2 => exact HC0_0.out); rintro e w26 ⟨rfl, hb⟩; refine ⟨_, rfl, ?_⟩; replace BK101 := bkbf62 BK101 yq140 hb; replace HB := Qz.mk (ql yq139 hb); (try clear hb); have hcz27_0 := (qd BK101.out 0).trans rfl; have hcz27_1 := (qd BK101.out 1).trans rfl; have hcz27_2 := (qd BK101.out 2).trans rfl; have hfz27_0 := qe BK101.out 0; have hfz27_1 := qe BK101.out 1; have hfz27_2 := qe BK101.out 2) | ((with_reducible refine qp (f := 132) rfl ?_); refine qc1 (some 14) rfl rfl Try.func132 (by kernel_rfl) rfl #[.slice A0_1 l0_1.length c0_1, .int .i64 t102] rfl yq138 ?_; (with_reducible refine (laws_heldFileS.calls k _ _ l0_1 t102 t103 _ ?side1 ?side2 A8.out).mono ?_); (case side1 => exact yq143); (case side2 => exact HC0_1.out); rintro e w28 ⟨rfl, hb⟩; refine ⟨_, rfl, ?_⟩; replace BK101 := bkbf62 BK101 yq140 hb; replace HB := Qz.mk (ql yq139 hb); (try clear hb); have hcz29_0 := (qd BK101.out 0).trans rfl; have hcz29_1 := (qd BK101.out 1).trans rfl; have hcz29_2 := (qd BK101.out 2).trans rfl; have hfz29_0 := qe BK101.out 0; have hfz29_1 := qe BK101.out 1; have hfz29_2 := qe BK101.out 2) | ((with_reducible refine qp (f := 133) rfl ?_); refine qc1 (some 20) rfl rfl Try.func133 (by kernel_rfl) rfl #[.slice A0_2 l0_2.length c0_2, .int .i64 t103] rfl yq138 ?_; (with_reducible refine (laws_heldDOpS.calls k _ _ l0_2 t103 t104 _ ?side1 ?side2 A15.out).mono ?_); (case side1 => repeat (first | exact (Kd.C_below HR0_2.out HB.out) | (with_reducible refine Kd.C_alloc ?_ _) | (with_reducible refine Kd.C_drewN ?_ _) | (with_reducible refine Kd.C_drew ?_))); (case side2 => exact HC0_2.out); rintro e w30 ⟨rfl, hb⟩; refine ⟨_, rfl, ?_⟩; replace BK101 := bkbf62 BK101 yq140 hb; replace HB := Qz.mk (ql yq139 hb); (try clear hb)))
    go_ret
    exact ⟨by first | rfl | (simp [qn, qm] <;> rfl) | (simp [*, qn, qm] <;> rfl), by repeat (first | (with_reducible first | exact HB.out | apply qc | apply qa | apply qb | refine qf ?_ GE101.out) | exact HB.out)⟩
end Go.Proofs.Ytidjdkodgddfcaa.P
end

section
namespace Go.Proofs.Ytidjdkodgddfcaa.P
open Go.RowKit Go.Proofs.YtidjdkodgddfcaaW.PrintWords Go.Proofs.YtidjdkodgddfcaaW.PrintLast Go.Proofs.YtidjdkodgddfcaaW.PrintMore
attribute [local go_sem] str_gtr str_leq str_geq qb1 qz max_two min_two qv qu qa1 qy
set_option linter.unusedVariables false
set_option linter.unusedSimpArgs false
theorem R_made {α : Type} {d : Kd α} {e : Nat} {w' : World} {b lo base : Nat} {v : Value} {xs : List α} (h : d.R e w' b (fun _ => True) v xs) (h1 : lo ≤ b) (h2 : base ≤ b) : d.R e w' base (fun k_ => lo ≤ k_ ∧ k_ < w'.heap.size) v xs :=
 Kd.R_mono (Kd.R_lower (Kd.R_bound h) h2) (fun k_ hk => ⟨Nat.le_trans h1 hk.2.1, hk.2.2.1⟩)
theorem box1 (w : World) (X : Obj) : Below w.heap.size w (w.alloc X) ∧ w.heap.size + 1 ≤ (w.alloc X).heap.size ∧ (w.alloc X).heap[w.heap.size]? = some X :=
 ⟨(Below.refl _ w).alloc (Nat.le_refl _) _, by simp, blk_new _ _⟩
end Go.Proofs.Ytidjdkodgddfcaa.P
end

section
namespace Go.Proofs.Ytidjdkodgddfcaa.P
open Go.RowKit Go.Proofs.YtidjdkodgddfcaaW.PrintWords Go.Proofs.YtidjdkodgddfcaaW.PrintLast Go.Proofs.YtidjdkodgddfcaaW.PrintMore
attribute [local go_sem] str_gtr str_leq str_geq qb1 qz max_two min_two qv qu qa1 qy
set_option linter.unusedVariables false
set_option linter.unusedSimpArgs false
theorem yq144 {P : Prop} (h : P := by repeat (first | (with_reducible first | exact HB.out | apply qc | apply qa | apply qb) | exact HB.out)) : P := h
theorem yq145 {P : Prop} (h : P := by (with_reducible repeat (first | apply Kd.R_alloc | apply Kd.R_drewN | apply Kd.R_drew)); exact HW0_2.out) : P := h
theorem yq146 {P : Prop} (h : P := by (with_reducible repeat (first | apply Kd.R_alloc | apply Kd.R_drewN | apply Kd.R_drew)); exact HW0_1.out) : P := h
theorem yq147 {P : Prop} (h : P := by (with_reducible repeat (first | apply Kd.R_alloc | apply Kd.R_drewN | apply Kd.R_drew)); exact HW0_0.out) : P := h
theorem yq148 {P : Prop} (h : P := by (with_reducible repeat (first | apply Kd.R_alloc | apply Kd.R_drewN | apply Kd.R_drew)); exact HG0_2.out) : P := h
theorem yq149 {P : Prop} (h : P := by (with_reducible repeat (first | apply Kd.R_alloc | apply Kd.R_drewN | apply Kd.R_drew)); exact HG0_1.out) : P := h
theorem yq150 {P : Prop} (h : P := by (with_reducible repeat (first | apply Kd.R_alloc | apply Kd.R_drewN | apply Kd.R_drew)); exact HG0_0.out) : P := h
theorem yq151 {P : Prop} (h : P := by (with_reducible repeat (first | apply Kd.R_alloc | apply Kd.R_drewN | apply Kd.R_drew)); exact HX1_0.out) : P := h
theorem yq152 {P : Prop} (h : P := by (with_reducible repeat (first | apply Kd.R_alloc | apply Kd.R_drewN | apply Kd.R_drew)); exact HX0_2.out) : P := h
theorem yq153 {P : Prop} (h : P := by (with_reducible repeat (first | apply Kd.R_alloc | apply Kd.R_drewN | apply Kd.R_drew)); exact HX0_1.out) : P := h
theorem yq154 {P : Prop} (h : P := by (with_reducible repeat (first | apply Kd.R_alloc | apply Kd.R_drewN | apply Kd.R_drew)); exact HX0_0.out) : P := h
def laws_FnExactCrash.f (k : Nat) (l0_0 : List (S193)) (l0_1 : List (S193)) (l0_2 : List (S195)) (l1 : List (Int)) (a2 : Int) : Option Bool := if (l1.length : Int) > 1048576 then some true else (laws_szDisk.f k l0_0 l0_1 l0_2 1048576).bind fun s0 => if s0 < 0 then some true else (laws_toDisk.f k l0_0 l0_1 l0_2).bind fun T0 => (laws_toInt64S.f k l1).bind fun T1 => (spec_Crash.f k T0.1 T0.2.1 T0.2.2 T1 a2).bind fun b => (impl_Crash.f k T0.1 T0.2.1 T0.2.2 T1 a2).bind fun g => (laws_eqDisk.f k g.1 g.2.1 g.2.2.1 b.1 b.2.1 b.2.2.1).bind fun t0 => if t0 = true then (if g.2.2.2 = b.2.2.2 then ((laws_eqDisk.f k T0.1 T0.2.1 T0.2.2 T0.1 T0.2.1 T0.2.2).bind fun u0 => if u0 = true then ((laws_eqInt64S.f k T1 T1).bind fun u1 => if u1 = true then ((laws_markDisk.f k T0.1 T0.2.1 T0.2.2 1).bind fun m0 => (laws_markInt64S.f k T1 m0.1).bind fun m1 => if 0 ≤ m1.1 then ((laws_markDisk.f k g.1 g.2.1 g.2.2.1 1).bind fun n0 => (laws_heldDisk.f k n0.2.1 n0.2.2.1 n0.2.2.2 1).bind fun q0 => if 0 ≤ q0 then (if q0 = n0.1 then (some true) else none) else none) else none) else none) else none) else none) else none
theorem iteL_FnExactCrash {c : Prop} [Decidable c] {a : Option Bool} {r : Bool} (h : (if c then a else none) = some r) : c ∧ a = some r := by
 by_cases hc : c
 ·rw [if_pos hc] at h; exact ⟨hc, h⟩
 ·rw [if_neg hc] at h; cases h
set_option maxHeartbeats 8000000 in
set_option maxRecDepth 100000 in
theorem laws_FnExactCrash.calls (k : Nat) (A0_0 : Option Addr) (c0_0 : Nat) (l0_0 : List (S193)) (A0_1 : Option Addr) (c0_1 : Nat) (l0_1 : List (S193)) (A0_2 : Option Addr) (c0_2 : Nat) (l0_2 : List (S195)) (A1 : Option Addr) (c1 : Nat) (l1 : List (Int)) (a2 : Int) (r : Bool) (w : World) (hr0_0 : Kd.C k193 w A0_0 l0_0.length l0_0) (hc0_0 : l0_0.length ≤ c0_0) (hr0_1 : Kd.C k193 w A0_1 l0_1.length l0_1) (hc0_1 : l0_1.length ≤ c0_1) (hr0_2 : Kd.C k195 w A0_2 l0_2.length l0_2) (hc0_2 : l0_2.length ≤ c0_2) (hr1 : Kd.C (Kd.int .i64) w A1 l1.length l1) (hc1 : l1.length ≤ c1) (h : laws_FnExactCrash.f k l0_0 l0_1 l0_2 l1 a2 = some r) :
  Calls Try.prog 12 #[.agg #[.slice A0_0 l0_0.length c0_0, .slice A0_1 l0_1.length c0_1, .slice A0_2 l0_2.length c0_2], .slice A1 l1.length c1, .int .i64 a2] w fun e w' => e = .returned (.bool r) ∧ Below w.heap.size w w' := by
 have HR0_0 := Qz.mk hr0_0; have HC0_0 := Qz.mk hc0_0; clear hr0_0 hc0_0
 have HR0_1 := Qz.mk hr0_1; have HC0_1 := Qz.mk hc0_1; clear hr0_1 hc0_1
 have HR0_2 := Qz.mk hr0_2; have HC0_2 := Qz.mk hc0_2; clear hr0_2 hc0_2
 have HR1 := Qz.mk hr1; have HC1 := Qz.mk hc1; clear hr1 hc1
 have hu79 := Try.underlying79
 have hu85 := Try.underlying85
 have HB := Qz.mk (Below.refl w.heap.size w)
 unfold laws_FnExactCrash.f at h
 have H := h; clear h
 by_cases y1 : (l1.length : Int) > 1048576
 ·rw [if_pos y1] at H
  obtain rfl := Option.some.inj H
  have y1b : decide ((1048576 : Int) < (l1.length : Int)) = true := decide_eq_true y1
  have y1c : decide (1048576 < l1.length) = true := decide_eq_true (by omega)
  go_enter Try.func12, Try.ntmps12
  go_wp2
  go_ret
  exact ⟨rfl, yq144⟩
 have y1b : decide ((1048576 : Int) < (l1.length : Int)) = false := decide_eq_false y1
 have y1c : decide (1048576 < l1.length) = false := decide_eq_false (by omega)
 rw [if_neg y1] at H; clear y1
 have H2 := Option.bind_eq_some_iff.mp H; clear H; obtain ⟨s0, A1_, H⟩ := H2
 have A1 := Qz.mk A1_; clear A1_
 by_cases z0 : s0 < 0
 ·rw [if_pos z0] at H
  obtain rfl := Option.some.inj H
  have z0b : decide (s0 < 0) = true := decide_eq_true z0
  go_enter Try.func12, Try.ntmps12
  go_wp2_with fail
  have h2_ := box1 w (.cells #[.slice A0_0 l0_0.length c0_0, .slice A0_1 l0_1.length c0_1, .slice A0_2 l0_2.length c0_2] 79)
  generalize (w.alloc (.cells #[.slice A0_0 l0_0.length c0_0, .slice A0_1 l0_1.length c0_1, .slice A0_2 l0_2.length c0_2] 79)) = w1 at h2_ ⊢
  have HB := Qz.mk h2_.1; have NB := Qz.mk h2_.2.1; have N1 := Qz.mk (show w.heap.size ≤ w1.heap.size from h2_.1.size)
  have BK0 := Qz.mk h2_.2.2
  clear h2_
  (with_reducible refine (laws_szDisk.calls k _ _ l0_0 _ _ l0_1 _ _ l0_2 1048576 s0 _ ?side1 ?side2 ?side3 ?side4 ?side5 ?side6 A1.out).mono ?_)
  case side1 => repeat (first | exact (Kd.C_below HR0_0.out HB.out) | (with_reducible refine Kd.C_alloc ?_ _) | (with_reducible refine Kd.C_drewN ?_ _) | (with_reducible refine Kd.C_drew ?_))
  case side2 => exact HC0_0.out
  case side3 => repeat (first | exact (Kd.C_below HR0_1.out HB.out) | (with_reducible refine Kd.C_alloc ?_ _) | (with_reducible refine Kd.C_drewN ?_ _) | (with_reducible refine Kd.C_drew ?_))
  case side4 => exact HC0_1.out
  case side5 => repeat (first | exact (Kd.C_below HR0_2.out HB.out) | (with_reducible refine Kd.C_alloc ?_ _) | (with_reducible refine Kd.C_drewN ?_ _) | (with_reducible refine Kd.C_drew ?_))
  case side6 => exact HC0_2.out
  rintro e w2 ⟨rfl, hb⟩
  have N2 := Qz.mk (show w1.heap.size ≤ w2.heap.size from by first | exact hb.size | exact Nat.le_trans (by simp) hb.size)
  have n_ := Qz.mk (qq BK0.out hb); clear BK0; have BK0 := n_; clear n_
  have n_ := Qz.mk (ql yq144 hb); clear HB; have HB := n_; clear n_ hb
  have hz0_0 := (qd BK0.out 0).trans rfl
  have hz0_1 := (qd BK0.out 1).trans rfl
  have hz0_2 := (qd BK0.out 2).trans rfl
  go_wp2
  go_ret
  exact ⟨rfl, yq144⟩
 have z0b : decide (s0 < 0) = false := decide_eq_false z0
 rw [if_neg z0] at H; clear z0
 have H2 := Option.bind_eq_some_iff.mp H; clear H; obtain ⟨⟨T0_0, T0_1, T0_2⟩, A2_, H⟩ := H2
 have A2 := Qz.mk A2_; clear A2_
 have H2 := Option.bind_eq_some_iff.mp H; clear H; obtain ⟨T1_0, A3_, H⟩ := H2
 have A3 := Qz.mk A3_; clear A3_
 have H2 := Option.bind_eq_some_iff.mp H; clear H; obtain ⟨⟨b_0, b_1, b_2, b_3⟩, A4_, H⟩ := H2
 have A4 := Qz.mk A4_; clear A4_
 have H2 := Option.bind_eq_some_iff.mp H; clear H; obtain ⟨⟨g_0, g_1, g_2, g_3⟩, A5_, H⟩ := H2
 have A5 := Qz.mk A5_; clear A5_
 have H2 := Option.bind_eq_some_iff.mp H; clear H; obtain ⟨t0, A6_, H⟩ := H2
 have A6 := Qz.mk A6_; clear A6_
 have H2 := iteL_FnExactCrash H; clear H; obtain ⟨e_, H⟩ := H2
 subst e_
 have H2 := iteL_FnExactCrash H; clear H; obtain ⟨e_, H⟩ := H2
 replace e_ : g_3 = b_3 := e_
 subst e_
 have H2 := Option.bind_eq_some_iff.mp H; clear H; obtain ⟨u0, A7_, H⟩ := H2
 have A7 := Qz.mk A7_; clear A7_
 have H2 := iteL_FnExactCrash H; clear H; obtain ⟨e_, H⟩ := H2
 subst e_
 have H2 := Option.bind_eq_some_iff.mp H; clear H; obtain ⟨u1, A8_, H⟩ := H2
 have A8 := Qz.mk A8_; clear A8_
 have H2 := iteL_FnExactCrash H; clear H; obtain ⟨e_, H⟩ := H2
 subst e_
 have H2 := Option.bind_eq_some_iff.mp H; clear H; obtain ⟨⟨m0, M0_0, M0_1, M0_2⟩, A9_, H⟩ := H2
 have A9 := Qz.mk A9_; clear A9_
 have H2 := Option.bind_eq_some_iff.mp H; clear H; obtain ⟨⟨m1, M1_0⟩, A10_, H⟩ := H2
 have A10 := Qz.mk A10_; clear A10_
 have H2 := iteL_FnExactCrash H; clear H; obtain ⟨zm, H⟩ := H2
 replace zm : 0 ≤ m1 := zm
 have zmb : decide (m1 < 0) = false := decide_eq_false (by omega)
 clear zm
 have H2 := Option.bind_eq_some_iff.mp H; clear H; obtain ⟨⟨n0, N0_0, N0_1, N0_2⟩, A11_, H⟩ := H2
 have A11 := Qz.mk A11_; clear A11_
 have H2 := Option.bind_eq_some_iff.mp H; clear H; obtain ⟨q0, A12_, H⟩ := H2
 have A12 := Qz.mk A12_; clear A12_
 have H2 := iteL_FnExactCrash H; clear H; obtain ⟨zq, H⟩ := H2
 have zq0 : decide (q0 < 0) = false := decide_eq_false (by omega)
 clear zq
 have H2 := iteL_FnExactCrash H; clear H; obtain ⟨e_, H⟩ := H2
 replace e_ : q0 = n0 := e_
 subst e_
 obtain rfl := Option.some.inj H
 go_enter Try.func12, Try.ntmps12
 go_wp2_with fail
 have h2_ := box1 w (.cells #[.slice A0_0 l0_0.length c0_0, .slice A0_1 l0_1.length c0_1, .slice A0_2 l0_2.length c0_2] 79)
 generalize (w.alloc (.cells #[.slice A0_0 l0_0.length c0_0, .slice A0_1 l0_1.length c0_1, .slice A0_2 l0_2.length c0_2] 79)) = w1 at h2_ ⊢
 have HB := Qz.mk h2_.1; have NB := Qz.mk h2_.2.1; have N1 := Qz.mk (show w.heap.size ≤ w1.heap.size from h2_.1.size)
 have BK0 := Qz.mk h2_.2.2
 clear h2_
 (with_reducible refine (laws_szDisk.calls k _ _ l0_0 _ _ l0_1 _ _ l0_2 1048576 s0 _ ?side1 ?side2 ?side3 ?side4 ?side5 ?side6 A1.out).mono ?_)
 case side1 => repeat (first | exact (Kd.C_below HR0_0.out HB.out) | (with_reducible refine Kd.C_alloc ?_ _) | (with_reducible refine Kd.C_drewN ?_ _) | (with_reducible refine Kd.C_drew ?_))
 case side2 => exact HC0_0.out
 case side3 => repeat (first | exact (Kd.C_below HR0_1.out HB.out) | (with_reducible refine Kd.C_alloc ?_ _) | (with_reducible refine Kd.C_drewN ?_ _) | (with_reducible refine Kd.C_drew ?_))
 case side4 => exact HC0_1.out
 case side5 => repeat (first | exact (Kd.C_below HR0_2.out HB.out) | (with_reducible refine Kd.C_alloc ?_ _) | (with_reducible refine Kd.C_drewN ?_ _) | (with_reducible refine Kd.C_drew ?_))
 case side6 => exact HC0_2.out
 rintro e w2 ⟨rfl, hb⟩
 have N2 := Qz.mk (show w1.heap.size ≤ w2.heap.size from by first | exact hb.size | exact Nat.le_trans (by simp) hb.size)
 have n_ := Qz.mk (qq BK0.out hb); clear BK0; have BK0 := n_; clear n_
 have n_ := Qz.mk (ql yq144 hb); clear HB; have HB := n_; clear n_ hb
 have hz0_0 := (qd BK0.out 0).trans rfl
 have hz0_1 := (qd BK0.out 1).trans rfl
 have hz0_2 := (qd BK0.out 2).trans rfl
 go_wp2_with fail
 (with_reducible refine (laws_toDisk.calls k _ _ l0_0 _ _ l0_1 _ _ l0_2 T0_0 T0_1 T0_2 _ ?side1 ?side2 ?side3 ?side4 ?side5 ?side6 A2.out).mono ?_)
 case side1 => repeat (first | exact (Kd.C_below HR0_0.out HB.out) | (with_reducible refine Kd.C_alloc ?_ _) | (with_reducible refine Kd.C_drewN ?_ _) | (with_reducible refine Kd.C_drew ?_))
 case side2 => exact HC0_0.out
 case side3 => repeat (first | exact (Kd.C_below HR0_1.out HB.out) | (with_reducible refine Kd.C_alloc ?_ _) | (with_reducible refine Kd.C_drewN ?_ _) | (with_reducible refine Kd.C_drew ?_))
 case side4 => exact HC0_1.out
 case side5 => repeat (first | exact (Kd.C_below HR0_2.out HB.out) | (with_reducible refine Kd.C_alloc ?_ _) | (with_reducible refine Kd.C_drewN ?_ _) | (with_reducible refine Kd.C_drew ?_))
 case side6 => exact HC0_2.out
 rintro e w3 ⟨v0_, v1_, v2_, rfl, ho0, ho1, ho2, hb⟩
 have N3 := Qz.mk (show w2.heap.size ≤ w3.heap.size from by first | exact hb.size | exact Nat.le_trans (by simp) hb.size)
 have APY0_0_Y0_1 := Qz.mk (show ∀ k_, (v0_ : Value).ownBlock = some k_ → (v1_ : Value).ownBlock ≠ some k_ from fun k_ h0_ h1_ => ho0.1 k_ h0_ h1_.symm)
 have HY0_0 := Qz.mk (R_made (Kd.R_mono ho0 (fun _ _ => trivial)) (lo := w2.heap.size) (by first | exact Nat.le_refl _ | simp) (qo yq144))
 have APY0_1_Y0_0 := Qz.mk (show ∀ k_, (v1_ : Value).ownBlock = some k_ → (v0_ : Value).ownBlock ≠ some k_ from fun k_ h0_ h1_ => ho1.1 k_ h0_ h1_.symm)
 have HY0_1 := Qz.mk (R_made (Kd.R_mono ho1 (fun _ _ => trivial)) (lo := w2.heap.size) (by first | exact Nat.le_refl _ | simp) (qo yq144))
 have HY0_2 := Qz.mk (R_made ho2 (lo := w2.heap.size) (by first | exact Nat.le_refl _ | simp) (qo yq144))
 have n_ := Qz.mk (qq BK0.out hb); clear BK0; have BK0 := n_; clear n_
 have n_ := Qz.mk (ql yq144 hb); clear HB; have HB := n_; clear n_ hb ho0 ho1 ho2
 obtain ⟨AY0_0, cY0_0, eY0_0⟩ := Kd.R_slice HY0_0.out; subst eY0_0
 obtain ⟨AY0_1, cY0_1, eY0_1⟩ := Kd.R_slice HY0_1.out; subst eY0_1
 obtain ⟨AY0_2, cY0_2, eY0_2⟩ := Kd.R_slice HY0_2.out; subst eY0_2
 try clear hz0_0 hz0_1 hz0_2
 try clear hy0_0
 try clear hy0_1
 try clear hy0_2
 have hz0_0 := (qd BK0.out 0).trans rfl
 have hz0_1 := (qd BK0.out 1).trans rfl
 have hz0_2 := (qd BK0.out 2).trans rfl
 go_wp2_with fail
 (with_reducible refine (laws_toInt64S.calls k _ _ l1 T1_0 _ ?side1 ?side2 A3.out).mono ?_)
 case side1 => repeat (first | exact (Kd.C_below HR1.out HB.out) | (with_reducible refine Kd.C_alloc ?_ _) | (with_reducible refine Kd.C_drewN ?_ _) | (with_reducible refine Kd.C_drew ?_))
 case side2 => exact HC1.out
 rintro e w4 ⟨v0_, rfl, ho0, hb⟩
 have N4 := Qz.mk (show w3.heap.size ≤ w4.heap.size from by first | exact hb.size | exact Nat.le_trans (by simp) hb.size)
 have n_ := Qz.mk (Kd.R_below (by (with_reducible repeat (first | apply Kd.R_alloc | apply Kd.R_drewN | apply Kd.R_drew)); exact HY0_0.out) hb); clear HY0_0; have HY0_0 := n_; clear n_
 have n_ := Qz.mk (Kd.R_below (by (with_reducible repeat (first | apply Kd.R_alloc | apply Kd.R_drewN | apply Kd.R_drew)); exact HY0_1.out) hb); clear HY0_1; have HY0_1 := n_; clear n_
 have n_ := Qz.mk (Kd.R_below (by (with_reducible repeat (first | apply Kd.R_alloc | apply Kd.R_drewN | apply Kd.R_drew)); exact HY0_2.out) hb); clear HY0_2; have HY0_2 := n_; clear n_
 have HY1_0 := Qz.mk (R_made ho0 (lo := w3.heap.size) (by first | exact Nat.le_refl _ | simp) (qo yq144))
 have n_ := Qz.mk (qq BK0.out hb); clear BK0; have BK0 := n_; clear n_
 have n_ := Qz.mk (ql yq144 hb); clear HB; have HB := n_; clear n_ hb ho0
 obtain ⟨AY1_0, cY1_0, eY1_0⟩ := Kd.R_slice HY1_0.out; subst eY1_0
 try clear hz0_0 hz0_1 hz0_2
 try clear hy0_0
 try clear hy0_1
 try clear hy0_2
 have hz0_0 := (qd BK0.out 0).trans rfl
 have hz0_1 := (qd BK0.out 1).trans rfl
 have hz0_2 := (qd BK0.out 2).trans rfl
 go_wp2_with fail
 (with_reducible refine (spec_Crash.calls k _ _ T0_0 _ _ T0_1 _ _ T0_2 _ _ T1_0 a2 b_0 b_1 b_2 g_3 _ ?side1 ?side2 ?side3 ?side4 ?side5 ?side6 ?side7 ?side8 A4.out).mono ?_)
 case side1 => repeat (first | exact (Kd.R_reads' HY0_0.out).2.2 | (with_reducible refine Kd.C_alloc ?_ _) | (with_reducible refine Kd.C_drewN ?_ _) | (with_reducible refine Kd.C_drew ?_))
 case side2 => exact (Kd.R_reads' HY0_0.out).2.1
 case side3 => repeat (first | exact (Kd.R_reads' HY0_1.out).2.2 | (with_reducible refine Kd.C_alloc ?_ _) | (with_reducible refine Kd.C_drewN ?_ _) | (with_reducible refine Kd.C_drew ?_))
 case side4 => exact (Kd.R_reads' HY0_1.out).2.1
 case side5 => repeat (first | exact (Kd.R_reads' HY0_2.out).2.2 | (with_reducible refine Kd.C_alloc ?_ _) | (with_reducible refine Kd.C_drewN ?_ _) | (with_reducible refine Kd.C_drew ?_))
 case side6 => exact (Kd.R_reads' HY0_2.out).2.1
 case side7 => repeat (first | exact (Kd.R_reads' HY1_0.out).2.2 | (with_reducible refine Kd.C_alloc ?_ _) | (with_reducible refine Kd.C_drewN ?_ _) | (with_reducible refine Kd.C_drew ?_))
 case side8 => exact (Kd.R_reads' HY1_0.out).2.1
 rintro e w5 ⟨v0_, v1_, v2_, rfl, ho0, ho1, ho2, hb⟩
 have N5 := Qz.mk (show w4.heap.size ≤ w5.heap.size from by first | exact hb.size | exact Nat.le_trans (by simp) hb.size)
 have n_ := Qz.mk (Kd.R_below (by (with_reducible repeat (first | apply Kd.R_alloc | apply Kd.R_drewN | apply Kd.R_drew)); exact HY0_0.out) hb); clear HY0_0; have HY0_0 := n_; clear n_
 have n_ := Qz.mk (Kd.R_below (by (with_reducible repeat (first | apply Kd.R_alloc | apply Kd.R_drewN | apply Kd.R_drew)); exact HY0_1.out) hb); clear HY0_1; have HY0_1 := n_; clear n_
 have n_ := Qz.mk (Kd.R_below (by (with_reducible repeat (first | apply Kd.R_alloc | apply Kd.R_drewN | apply Kd.R_drew)); exact HY0_2.out) hb); clear HY0_2; have HY0_2 := n_; clear n_
 have n_ := Qz.mk (Kd.R_below (by (with_reducible repeat (first | apply Kd.R_alloc | apply Kd.R_drewN | apply Kd.R_drew)); exact HY1_0.out) hb); clear HY1_0; have HY1_0 := n_; clear n_
 have APW0_0_W0_1 := Qz.mk (show ∀ k_, (v0_ : Value).ownBlock = some k_ → (v1_ : Value).ownBlock ≠ some k_ from fun k_ h0_ h1_ => ho0.1 k_ h0_ h1_.symm)
 have HW0_0 := Qz.mk (R_made (Kd.R_mono ho0 (fun _ _ => trivial)) (lo := w4.heap.size) (by first | exact Nat.le_refl _ | simp) (qo yq144))
 have APW0_1_W0_0 := Qz.mk (show ∀ k_, (v1_ : Value).ownBlock = some k_ → (v0_ : Value).ownBlock ≠ some k_ from fun k_ h0_ h1_ => ho1.1 k_ h0_ h1_.symm)
 have HW0_1 := Qz.mk (R_made (Kd.R_mono ho1 (fun _ _ => trivial)) (lo := w4.heap.size) (by first | exact Nat.le_refl _ | simp) (qo yq144))
 have HW0_2 := Qz.mk (R_made ho2 (lo := w4.heap.size) (by first | exact Nat.le_refl _ | simp) (qo yq144))
 have n_ := Qz.mk (qq BK0.out hb); clear BK0; have BK0 := n_; clear n_
 have n_ := Qz.mk (ql yq144 hb); clear HB; have HB := n_; clear n_ hb ho0 ho1 ho2
 obtain ⟨AW0_0, cW0_0, eW0_0⟩ := Kd.R_slice HW0_0.out; subst eW0_0
 obtain ⟨AW0_1, cW0_1, eW0_1⟩ := Kd.R_slice HW0_1.out; subst eW0_1
 obtain ⟨AW0_2, cW0_2, eW0_2⟩ := Kd.R_slice HW0_2.out; subst eW0_2
 try clear hz0_0 hz0_1 hz0_2
 try clear hy0_0
 try clear hy0_1
 try clear hy0_2
 have hz0_0 := (qd BK0.out 0).trans rfl
 have hz0_1 := (qd BK0.out 1).trans rfl
 have hz0_2 := (qd BK0.out 2).trans rfl
 have hy0_0 := fun o => (qd (qg BK0.out o) 0).trans rfl
 have hy0_1 := fun o => (qd (qg BK0.out o) 1).trans rfl
 have hy0_2 := fun o => (qd (qg BK0.out o) 2).trans rfl
 clear HY0_0
 clear HY0_1
 clear HY0_2
 clear HY1_0
 go_wp2_with fail
 have BK1 := Qz.mk (blk_new w5 (.cells #[.slice AW0_0 b_0.length cW0_0, .slice AW0_1 b_1.length cW0_1, .slice AW0_2 b_2.length cW0_2] 85))
 have n_ := Qz.mk (qg BK0.out (.cells #[.slice AW0_0 b_0.length cW0_0, .slice AW0_1 b_1.length cW0_1, .slice AW0_2 b_2.length cW0_2] 85)); clear BK0; have BK0 := n_; clear n_
 have n_ := Qz.mk (Kd.R_alloc HW0_0.out (.cells #[.slice AW0_0 b_0.length cW0_0, .slice AW0_1 b_1.length cW0_1, .slice AW0_2 b_2.length cW0_2] 85)); clear HW0_0; have HW0_0 := n_; clear n_
 have n_ := Qz.mk (Kd.R_alloc HW0_1.out (.cells #[.slice AW0_0 b_0.length cW0_0, .slice AW0_1 b_1.length cW0_1, .slice AW0_2 b_2.length cW0_2] 85)); clear HW0_1; have HW0_1 := n_; clear n_
 have n_ := Qz.mk (Kd.R_alloc HW0_2.out (.cells #[.slice AW0_0 b_0.length cW0_0, .slice AW0_1 b_1.length cW0_1, .slice AW0_2 b_2.length cW0_2] 85)); clear HW0_2; have HW0_2 := n_; clear n_
 have n_ := Qz.mk (qc HB.out (.cells #[.slice AW0_0 b_0.length cW0_0, .slice AW0_1 b_1.length cW0_1, .slice AW0_2 b_2.length cW0_2] 85)); clear HB; have HB := n_; clear n_
 have N6 := Qz.mk (show w5.heap.size < (w5.alloc (.cells #[.slice AW0_0 b_0.length cW0_0, .slice AW0_1 b_1.length cW0_1, .slice AW0_2 b_2.length cW0_2] 85)).heap.size from by simp)
 clear hz0_0 hy0_0 hz0_1 hy0_1 hz0_2 hy0_2
 generalize w5.alloc (.cells #[.slice AW0_0 b_0.length cW0_0, .slice AW0_1 b_1.length cW0_1, .slice AW0_2 b_2.length cW0_2] 85) = w6 at BK1 BK0 HW0_0 HW0_1 HW0_2 HB N6 ⊢
 (with_reducible refine (laws_toDisk.calls k _ _ l0_0 _ _ l0_1 _ _ l0_2 T0_0 T0_1 T0_2 _ ?side1 ?side2 ?side3 ?side4 ?side5 ?side6 A2.out).mono ?_)
 case side1 => repeat (first | exact (Kd.C_below HR0_0.out HB.out) | (with_reducible refine Kd.C_alloc ?_ _) | (with_reducible refine Kd.C_drewN ?_ _) | (with_reducible refine Kd.C_drew ?_))
 case side2 => exact HC0_0.out
 case side3 => repeat (first | exact (Kd.C_below HR0_1.out HB.out) | (with_reducible refine Kd.C_alloc ?_ _) | (with_reducible refine Kd.C_drewN ?_ _) | (with_reducible refine Kd.C_drew ?_))
 case side4 => exact HC0_1.out
 case side5 => repeat (first | exact (Kd.C_below HR0_2.out HB.out) | (with_reducible refine Kd.C_alloc ?_ _) | (with_reducible refine Kd.C_drewN ?_ _) | (with_reducible refine Kd.C_drew ?_))
 case side6 => exact HC0_2.out
 rintro e w7 ⟨v0_, v1_, v2_, rfl, ho0, ho1, ho2, hb⟩
 have N7 := Qz.mk (show w6.heap.size ≤ w7.heap.size from by first | exact hb.size | exact Nat.le_trans (by simp) hb.size)
 have n_ := Qz.mk (Kd.R_below yq147 hb); clear HW0_0; have HW0_0 := n_; clear n_
 have n_ := Qz.mk (Kd.R_below yq146 hb); clear HW0_1; have HW0_1 := n_; clear n_
 have n_ := Qz.mk (Kd.R_below yq145 hb); clear HW0_2; have HW0_2 := n_; clear n_
 have APX0_0_X0_1 := Qz.mk (show ∀ k_, (v0_ : Value).ownBlock = some k_ → (v1_ : Value).ownBlock ≠ some k_ from fun k_ h0_ h1_ => ho0.1 k_ h0_ h1_.symm)
 have HX0_0 := Qz.mk (R_made (Kd.R_mono ho0 (fun _ _ => trivial)) (lo := w6.heap.size) (by first | exact Nat.le_refl _ | simp) (qo yq144))
 have APX0_1_X0_0 := Qz.mk (show ∀ k_, (v1_ : Value).ownBlock = some k_ → (v0_ : Value).ownBlock ≠ some k_ from fun k_ h0_ h1_ => ho1.1 k_ h0_ h1_.symm)
 have HX0_1 := Qz.mk (R_made (Kd.R_mono ho1 (fun _ _ => trivial)) (lo := w6.heap.size) (by first | exact Nat.le_refl _ | simp) (qo yq144))
 have HX0_2 := Qz.mk (R_made ho2 (lo := w6.heap.size) (by first | exact Nat.le_refl _ | simp) (qo yq144))
 have n_ := Qz.mk (qq BK0.out hb); clear BK0; have BK0 := n_; clear n_
 have n_ := Qz.mk (qq BK1.out hb); clear BK1; have BK1 := n_; clear n_
 have n_ := Qz.mk (ql yq144 hb); clear HB; have HB := n_; clear n_ hb ho0 ho1 ho2
 obtain ⟨AX0_0, cX0_0, eX0_0⟩ := Kd.R_slice HX0_0.out; subst eX0_0
 obtain ⟨AX0_1, cX0_1, eX0_1⟩ := Kd.R_slice HX0_1.out; subst eX0_1
 obtain ⟨AX0_2, cX0_2, eX0_2⟩ := Kd.R_slice HX0_2.out; subst eX0_2
 have hz0_0 := (qd BK0.out 0).trans rfl
 have hz0_1 := (qd BK0.out 1).trans rfl
 have hz0_2 := (qd BK0.out 2).trans rfl
 have hz1_0 := (qd BK1.out 0).trans rfl
 have hz1_1 := (qd BK1.out 1).trans rfl
 have hz1_2 := (qd BK1.out 2).trans rfl
 have hy0_0 := fun o => (qd (qg BK0.out o) 0).trans rfl
 have hy0_1 := fun o => (qd (qg BK0.out o) 1).trans rfl
 have hy0_2 := fun o => (qd (qg BK0.out o) 2).trans rfl
 have hy1_0 := fun o => (qd (qg BK1.out o) 0).trans rfl
 have hy1_1 := fun o => (qd (qg BK1.out o) 1).trans rfl
 have hy1_2 := fun o => (qd (qg BK1.out o) 2).trans rfl
 go_wp2_with fail
 have BK2 := Qz.mk (blk_new w7 (.cells #[.slice AX0_0 T0_0.length cX0_0, .slice AX0_1 T0_1.length cX0_1, .slice AX0_2 T0_2.length cX0_2] 85))
 have n_ := Qz.mk (qg BK0.out (.cells #[.slice AX0_0 T0_0.length cX0_0, .slice AX0_1 T0_1.length cX0_1, .slice AX0_2 T0_2.length cX0_2] 85)); clear BK0; have BK0 := n_; clear n_
 have n_ := Qz.mk (qg BK1.out (.cells #[.slice AX0_0 T0_0.length cX0_0, .slice AX0_1 T0_1.length cX0_1, .slice AX0_2 T0_2.length cX0_2] 85)); clear BK1; have BK1 := n_; clear n_
 have n_ := Qz.mk (Kd.R_alloc HW0_0.out (.cells #[.slice AX0_0 T0_0.length cX0_0, .slice AX0_1 T0_1.length cX0_1, .slice AX0_2 T0_2.length cX0_2] 85)); clear HW0_0; have HW0_0 := n_; clear n_
 have n_ := Qz.mk (Kd.R_alloc HW0_1.out (.cells #[.slice AX0_0 T0_0.length cX0_0, .slice AX0_1 T0_1.length cX0_1, .slice AX0_2 T0_2.length cX0_2] 85)); clear HW0_1; have HW0_1 := n_; clear n_
 have n_ := Qz.mk (Kd.R_alloc HW0_2.out (.cells #[.slice AX0_0 T0_0.length cX0_0, .slice AX0_1 T0_1.length cX0_1, .slice AX0_2 T0_2.length cX0_2] 85)); clear HW0_2; have HW0_2 := n_; clear n_
 have n_ := Qz.mk (Kd.R_alloc HX0_0.out (.cells #[.slice AX0_0 T0_0.length cX0_0, .slice AX0_1 T0_1.length cX0_1, .slice AX0_2 T0_2.length cX0_2] 85)); clear HX0_0; have HX0_0 := n_; clear n_
 have n_ := Qz.mk (Kd.R_alloc HX0_1.out (.cells #[.slice AX0_0 T0_0.length cX0_0, .slice AX0_1 T0_1.length cX0_1, .slice AX0_2 T0_2.length cX0_2] 85)); clear HX0_1; have HX0_1 := n_; clear n_
 have n_ := Qz.mk (Kd.R_alloc HX0_2.out (.cells #[.slice AX0_0 T0_0.length cX0_0, .slice AX0_1 T0_1.length cX0_1, .slice AX0_2 T0_2.length cX0_2] 85)); clear HX0_2; have HX0_2 := n_; clear n_
 have n_ := Qz.mk (qc HB.out (.cells #[.slice AX0_0 T0_0.length cX0_0, .slice AX0_1 T0_1.length cX0_1, .slice AX0_2 T0_2.length cX0_2] 85)); clear HB; have HB := n_; clear n_
 have N8 := Qz.mk (show w7.heap.size < (w7.alloc (.cells #[.slice AX0_0 T0_0.length cX0_0, .slice AX0_1 T0_1.length cX0_1, .slice AX0_2 T0_2.length cX0_2] 85)).heap.size from by simp)
 clear hz0_0 hy0_0 hz0_1 hy0_1 hz0_2 hy0_2 hz1_0 hy1_0 hz1_1 hy1_1 hz1_2 hy1_2
 generalize w7.alloc (.cells #[.slice AX0_0 T0_0.length cX0_0, .slice AX0_1 T0_1.length cX0_1, .slice AX0_2 T0_2.length cX0_2] 85) = w8 at BK2 BK0 BK1 HW0_0 HW0_1 HW0_2 HX0_0 HX0_1 HX0_2 HB N8 ⊢
 (with_reducible refine (laws_toInt64S.calls k _ _ l1 T1_0 _ ?side1 ?side2 A3.out).mono ?_)
 case side1 => repeat (first | exact (Kd.C_below HR1.out HB.out) | (with_reducible refine Kd.C_alloc ?_ _) | (with_reducible refine Kd.C_drewN ?_ _) | (with_reducible refine Kd.C_drew ?_))
 case side2 => exact HC1.out
 rintro e w9 ⟨v0_, rfl, ho0, hb⟩
 have N9 := Qz.mk (show w8.heap.size ≤ w9.heap.size from by first | exact hb.size | exact Nat.le_trans (by simp) hb.size)
 have n_ := Qz.mk (Kd.R_below yq147 hb); clear HW0_0; have HW0_0 := n_; clear n_
 have n_ := Qz.mk (Kd.R_below yq146 hb); clear HW0_1; have HW0_1 := n_; clear n_
 have n_ := Qz.mk (Kd.R_below yq145 hb); clear HW0_2; have HW0_2 := n_; clear n_
 have n_ := Qz.mk (Kd.R_below yq154 hb); clear HX0_0; have HX0_0 := n_; clear n_
 have n_ := Qz.mk (Kd.R_below yq153 hb); clear HX0_1; have HX0_1 := n_; clear n_
 have n_ := Qz.mk (Kd.R_below yq152 hb); clear HX0_2; have HX0_2 := n_; clear n_
 have HX1_0 := Qz.mk (R_made ho0 (lo := w8.heap.size) (by first | exact Nat.le_refl _ | simp) (qo yq144))
 have n_ := Qz.mk (qq BK0.out hb); clear BK0; have BK0 := n_; clear n_
 have n_ := Qz.mk (qq BK1.out hb); clear BK1; have BK1 := n_; clear n_
 have n_ := Qz.mk (qq BK2.out hb); clear BK2; have BK2 := n_; clear n_
 have n_ := Qz.mk (ql yq144 hb); clear HB; have HB := n_; clear n_ hb ho0
 obtain ⟨AX1_0, cX1_0, eX1_0⟩ := Kd.R_slice HX1_0.out; subst eX1_0
 have hz0_0 := (qd BK0.out 0).trans rfl
 have hz0_1 := (qd BK0.out 1).trans rfl
 have hz0_2 := (qd BK0.out 2).trans rfl
 have hz1_0 := (qd BK1.out 0).trans rfl
 have hz1_1 := (qd BK1.out 1).trans rfl
 have hz1_2 := (qd BK1.out 2).trans rfl
 have hz2_0 := (qd BK2.out 0).trans rfl
 have hz2_1 := (qd BK2.out 1).trans rfl
 have hz2_2 := (qd BK2.out 2).trans rfl
 go_wp2_with fail
 (with_reducible refine (impl_Crash.calls k _ _ T0_0 _ _ T0_1 _ _ T0_2 _ _ T1_0 a2 g_0 g_1 g_2 g_3 _ ?side1 ?side2 ?side3 ?side4 ?side5 ?side6 ?side7 ?side8 A5.out).mono ?_)
 case side1 => repeat (first | exact (Kd.R_reads' HX0_0.out).2.2 | (with_reducible refine Kd.C_alloc ?_ _) | (with_reducible refine Kd.C_drewN ?_ _) | (with_reducible refine Kd.C_drew ?_))
 case side2 => exact (Kd.R_reads' HX0_0.out).2.1
 case side3 => repeat (first | exact (Kd.R_reads' HX0_1.out).2.2 | (with_reducible refine Kd.C_alloc ?_ _) | (with_reducible refine Kd.C_drewN ?_ _) | (with_reducible refine Kd.C_drew ?_))
 case side4 => exact (Kd.R_reads' HX0_1.out).2.1
 case side5 => repeat (first | exact (Kd.R_reads' HX0_2.out).2.2 | (with_reducible refine Kd.C_alloc ?_ _) | (with_reducible refine Kd.C_drewN ?_ _) | (with_reducible refine Kd.C_drew ?_))
 case side6 => exact (Kd.R_reads' HX0_2.out).2.1
 case side7 => repeat (first | exact (Kd.R_reads' HX1_0.out).2.2 | (with_reducible refine Kd.C_alloc ?_ _) | (with_reducible refine Kd.C_drewN ?_ _) | (with_reducible refine Kd.C_drew ?_))
 case side8 => exact (Kd.R_reads' HX1_0.out).2.1
 rintro e w10 ⟨v0_, v1_, v2_, rfl, ho0, ho1, ho2, hb⟩
 have N10 := Qz.mk (show w9.heap.size ≤ w10.heap.size from by first | exact hb.size | exact Nat.le_trans (by simp) hb.size)
 have n_ := Qz.mk (Kd.R_below yq147 hb); clear HW0_0; have HW0_0 := n_; clear n_
 have n_ := Qz.mk (Kd.R_below yq146 hb); clear HW0_1; have HW0_1 := n_; clear n_
 have n_ := Qz.mk (Kd.R_below yq145 hb); clear HW0_2; have HW0_2 := n_; clear n_
 have n_ := Qz.mk (Kd.R_below yq154 hb); clear HX0_0; have HX0_0 := n_; clear n_
 have n_ := Qz.mk (Kd.R_below yq153 hb); clear HX0_1; have HX0_1 := n_; clear n_
 have n_ := Qz.mk (Kd.R_below yq152 hb); clear HX0_2; have HX0_2 := n_; clear n_
 have n_ := Qz.mk (Kd.R_below yq151 hb); clear HX1_0; have HX1_0 := n_; clear n_
 have APG0_0_G0_1 := Qz.mk (show ∀ k_, (v0_ : Value).ownBlock = some k_ → (v1_ : Value).ownBlock ≠ some k_ from fun k_ h0_ h1_ => ho0.1 k_ h0_ h1_.symm)
 have HG0_0 := Qz.mk (R_made (Kd.R_mono ho0 (fun _ _ => trivial)) (lo := w9.heap.size) (by first | exact Nat.le_refl _ | simp) (qo yq144))
 have APG0_1_G0_0 := Qz.mk (show ∀ k_, (v1_ : Value).ownBlock = some k_ → (v0_ : Value).ownBlock ≠ some k_ from fun k_ h0_ h1_ => ho1.1 k_ h0_ h1_.symm)
 have HG0_1 := Qz.mk (R_made (Kd.R_mono ho1 (fun _ _ => trivial)) (lo := w9.heap.size) (by first | exact Nat.le_refl _ | simp) (qo yq144))
 have HG0_2 := Qz.mk (R_made ho2 (lo := w9.heap.size) (by first | exact Nat.le_refl _ | simp) (qo yq144))
 have n_ := Qz.mk (qq BK0.out hb); clear BK0; have BK0 := n_; clear n_
 have n_ := Qz.mk (qq BK1.out hb); clear BK1; have BK1 := n_; clear n_
 have n_ := Qz.mk (qq BK2.out hb); clear BK2; have BK2 := n_; clear n_
 have n_ := Qz.mk (ql yq144 hb); clear HB; have HB := n_; clear n_ hb ho0 ho1 ho2
 obtain ⟨AG0_0, cG0_0, eG0_0⟩ := Kd.R_slice HG0_0.out; subst eG0_0
 obtain ⟨AG0_1, cG0_1, eG0_1⟩ := Kd.R_slice HG0_1.out; subst eG0_1
 obtain ⟨AG0_2, cG0_2, eG0_2⟩ := Kd.R_slice HG0_2.out; subst eG0_2
 try clear hz0_0 hz0_1 hz0_2 hz1_0 hz1_1 hz1_2 hz2_0 hz2_1 hz2_2
 try clear hy0_0
 try clear hy0_1
 try clear hy0_2
 try clear hy1_0
 try clear hy1_1
 try clear hy1_2
 try clear hy2_0
 try clear hy2_1
 try clear hy2_2
 have hz0_0 := (qd BK0.out 0).trans rfl
 have hz0_1 := (qd BK0.out 1).trans rfl
 have hz0_2 := (qd BK0.out 2).trans rfl
 have hz1_0 := (qd BK1.out 0).trans rfl
 have hz1_1 := (qd BK1.out 1).trans rfl
 have hz1_2 := (qd BK1.out 2).trans rfl
 have hz2_0 := (qd BK2.out 0).trans rfl
 have hz2_1 := (qd BK2.out 1).trans rfl
 have hz2_2 := (qd BK2.out 2).trans rfl
 have hy0_0 := fun o => (qd (qg BK0.out o) 0).trans rfl
 have hy0_1 := fun o => (qd (qg BK0.out o) 1).trans rfl
 have hy0_2 := fun o => (qd (qg BK0.out o) 2).trans rfl
 have hy1_0 := fun o => (qd (qg BK1.out o) 0).trans rfl
 have hy1_1 := fun o => (qd (qg BK1.out o) 1).trans rfl
 have hy1_2 := fun o => (qd (qg BK1.out o) 2).trans rfl
 have hy2_0 := fun o => (qd (qg BK2.out o) 0).trans rfl
 have hy2_1 := fun o => (qd (qg BK2.out o) 1).trans rfl
 have hy2_2 := fun o => (qd (qg BK2.out o) 2).trans rfl
 go_wp2_with fail
 have BK3 := Qz.mk (blk_new w10 (.cells #[.slice AG0_0 g_0.length cG0_0, .slice AG0_1 g_1.length cG0_1, .slice AG0_2 g_2.length cG0_2] 85))
 have n_ := Qz.mk (qg BK0.out (.cells #[.slice AG0_0 g_0.length cG0_0, .slice AG0_1 g_1.length cG0_1, .slice AG0_2 g_2.length cG0_2] 85)); clear BK0; have BK0 := n_; clear n_
 have n_ := Qz.mk (qg BK1.out (.cells #[.slice AG0_0 g_0.length cG0_0, .slice AG0_1 g_1.length cG0_1, .slice AG0_2 g_2.length cG0_2] 85)); clear BK1; have BK1 := n_; clear n_
 have n_ := Qz.mk (qg BK2.out (.cells #[.slice AG0_0 g_0.length cG0_0, .slice AG0_1 g_1.length cG0_1, .slice AG0_2 g_2.length cG0_2] 85)); clear BK2; have BK2 := n_; clear n_
 have n_ := Qz.mk (Kd.R_alloc HW0_0.out (.cells #[.slice AG0_0 g_0.length cG0_0, .slice AG0_1 g_1.length cG0_1, .slice AG0_2 g_2.length cG0_2] 85)); clear HW0_0; have HW0_0 := n_; clear n_
 have n_ := Qz.mk (Kd.R_alloc HW0_1.out (.cells #[.slice AG0_0 g_0.length cG0_0, .slice AG0_1 g_1.length cG0_1, .slice AG0_2 g_2.length cG0_2] 85)); clear HW0_1; have HW0_1 := n_; clear n_
 have n_ := Qz.mk (Kd.R_alloc HW0_2.out (.cells #[.slice AG0_0 g_0.length cG0_0, .slice AG0_1 g_1.length cG0_1, .slice AG0_2 g_2.length cG0_2] 85)); clear HW0_2; have HW0_2 := n_; clear n_
 have n_ := Qz.mk (Kd.R_alloc HX0_0.out (.cells #[.slice AG0_0 g_0.length cG0_0, .slice AG0_1 g_1.length cG0_1, .slice AG0_2 g_2.length cG0_2] 85)); clear HX0_0; have HX0_0 := n_; clear n_
 have n_ := Qz.mk (Kd.R_alloc HX0_1.out (.cells #[.slice AG0_0 g_0.length cG0_0, .slice AG0_1 g_1.length cG0_1, .slice AG0_2 g_2.length cG0_2] 85)); clear HX0_1; have HX0_1 := n_; clear n_
 have n_ := Qz.mk (Kd.R_alloc HX0_2.out (.cells #[.slice AG0_0 g_0.length cG0_0, .slice AG0_1 g_1.length cG0_1, .slice AG0_2 g_2.length cG0_2] 85)); clear HX0_2; have HX0_2 := n_; clear n_
 have n_ := Qz.mk (Kd.R_alloc HX1_0.out (.cells #[.slice AG0_0 g_0.length cG0_0, .slice AG0_1 g_1.length cG0_1, .slice AG0_2 g_2.length cG0_2] 85)); clear HX1_0; have HX1_0 := n_; clear n_
 have n_ := Qz.mk (Kd.R_alloc HG0_0.out (.cells #[.slice AG0_0 g_0.length cG0_0, .slice AG0_1 g_1.length cG0_1, .slice AG0_2 g_2.length cG0_2] 85)); clear HG0_0; have HG0_0 := n_; clear n_
 have n_ := Qz.mk (Kd.R_alloc HG0_1.out (.cells #[.slice AG0_0 g_0.length cG0_0, .slice AG0_1 g_1.length cG0_1, .slice AG0_2 g_2.length cG0_2] 85)); clear HG0_1; have HG0_1 := n_; clear n_
 have n_ := Qz.mk (Kd.R_alloc HG0_2.out (.cells #[.slice AG0_0 g_0.length cG0_0, .slice AG0_1 g_1.length cG0_1, .slice AG0_2 g_2.length cG0_2] 85)); clear HG0_2; have HG0_2 := n_; clear n_
 have n_ := Qz.mk (qc HB.out (.cells #[.slice AG0_0 g_0.length cG0_0, .slice AG0_1 g_1.length cG0_1, .slice AG0_2 g_2.length cG0_2] 85)); clear HB; have HB := n_; clear n_
 have N11 := Qz.mk (show w10.heap.size < (w10.alloc (.cells #[.slice AG0_0 g_0.length cG0_0, .slice AG0_1 g_1.length cG0_1, .slice AG0_2 g_2.length cG0_2] 85)).heap.size from by simp)
 clear hz0_0 hy0_0 hz0_1 hy0_1 hz0_2 hy0_2 hz1_0 hy1_0 hz1_1 hy1_1 hz1_2 hy1_2 hz2_0 hy2_0 hz2_1 hy2_1 hz2_2 hy2_2
 generalize w10.alloc (.cells #[.slice AG0_0 g_0.length cG0_0, .slice AG0_1 g_1.length cG0_1, .slice AG0_2 g_2.length cG0_2] 85) = w11 at BK3 BK0 BK1 BK2 HW0_0 HW0_1 HW0_2 HX0_0 HX0_1 HX0_2 HX1_0 HG0_0 HG0_1 HG0_2 HB N11 ⊢
 (with_reducible refine (laws_eqDisk.calls k _ _ g_0 _ _ g_1 _ _ g_2 _ _ b_0 _ _ b_1 _ _ b_2 true _ ?side1 ?side2 ?side3 ?side4 ?side5 ?side6 ?side7 ?side8 ?side9 ?side10 ?side11 ?side12 A6.out).mono ?_)
 case side1 => repeat (first | exact (Kd.R_reads' HG0_0.out).2.2 | (with_reducible refine Kd.C_alloc ?_ _) | (with_reducible refine Kd.C_drewN ?_ _) | (with_reducible refine Kd.C_drew ?_))
 case side2 => exact (Kd.R_reads' HG0_0.out).2.1
 case side3 => repeat (first | exact (Kd.R_reads' HG0_1.out).2.2 | (with_reducible refine Kd.C_alloc ?_ _) | (with_reducible refine Kd.C_drewN ?_ _) | (with_reducible refine Kd.C_drew ?_))
 case side4 => exact (Kd.R_reads' HG0_1.out).2.1
 case side5 => repeat (first | exact (Kd.R_reads' HG0_2.out).2.2 | (with_reducible refine Kd.C_alloc ?_ _) | (with_reducible refine Kd.C_drewN ?_ _) | (with_reducible refine Kd.C_drew ?_))
 case side6 => exact (Kd.R_reads' HG0_2.out).2.1
 case side7 => repeat (first | exact (Kd.R_reads' HW0_0.out).2.2 | (with_reducible refine Kd.C_alloc ?_ _) | (with_reducible refine Kd.C_drewN ?_ _) | (with_reducible refine Kd.C_drew ?_))
 case side8 => exact (Kd.R_reads' HW0_0.out).2.1
 case side9 => repeat (first | exact (Kd.R_reads' HW0_1.out).2.2 | (with_reducible refine Kd.C_alloc ?_ _) | (with_reducible refine Kd.C_drewN ?_ _) | (with_reducible refine Kd.C_drew ?_))
 case side10 => exact (Kd.R_reads' HW0_1.out).2.1
 case side11 => repeat (first | exact (Kd.R_reads' HW0_2.out).2.2 | (with_reducible refine Kd.C_alloc ?_ _) | (with_reducible refine Kd.C_drewN ?_ _) | (with_reducible refine Kd.C_drew ?_))
 case side12 => exact (Kd.R_reads' HW0_2.out).2.1
 rintro e w12 ⟨rfl, hb⟩
 have N12 := Qz.mk (show w11.heap.size ≤ w12.heap.size from by first | exact hb.size | exact Nat.le_trans (by simp) hb.size)
 have n_ := Qz.mk (Kd.R_below yq147 hb); clear HW0_0; have HW0_0 := n_; clear n_
 have n_ := Qz.mk (Kd.R_below yq146 hb); clear HW0_1; have HW0_1 := n_; clear n_
 have n_ := Qz.mk (Kd.R_below yq145 hb); clear HW0_2; have HW0_2 := n_; clear n_
 have n_ := Qz.mk (Kd.R_below yq154 hb); clear HX0_0; have HX0_0 := n_; clear n_
 have n_ := Qz.mk (Kd.R_below yq153 hb); clear HX0_1; have HX0_1 := n_; clear n_
 have n_ := Qz.mk (Kd.R_below yq152 hb); clear HX0_2; have HX0_2 := n_; clear n_
 have n_ := Qz.mk (Kd.R_below yq151 hb); clear HX1_0; have HX1_0 := n_; clear n_
 have n_ := Qz.mk (Kd.R_below yq150 hb); clear HG0_0; have HG0_0 := n_; clear n_
 have n_ := Qz.mk (Kd.R_below yq149 hb); clear HG0_1; have HG0_1 := n_; clear n_
 have n_ := Qz.mk (Kd.R_below yq148 hb); clear HG0_2; have HG0_2 := n_; clear n_
 have n_ := Qz.mk (qq BK0.out hb); clear BK0; have BK0 := n_; clear n_
 have n_ := Qz.mk (qq BK1.out hb); clear BK1; have BK1 := n_; clear n_
 have n_ := Qz.mk (qq BK2.out hb); clear BK2; have BK2 := n_; clear n_
 have n_ := Qz.mk (qq BK3.out hb); clear BK3; have BK3 := n_; clear n_
 have n_ := Qz.mk (ql yq144 hb); clear HB; have HB := n_; clear n_ hb
 have hz0_0 := (qd BK0.out 0).trans rfl
 have hz0_1 := (qd BK0.out 1).trans rfl
 have hz0_2 := (qd BK0.out 2).trans rfl
 have hz1_0 := (qd BK1.out 0).trans rfl
 have hz1_1 := (qd BK1.out 1).trans rfl
 have hz1_2 := (qd BK1.out 2).trans rfl
 have hz2_0 := (qd BK2.out 0).trans rfl
 have hz2_1 := (qd BK2.out 1).trans rfl
 have hz2_2 := (qd BK2.out 2).trans rfl
 have hz3_0 := (qd BK3.out 0).trans rfl
 have hz3_1 := (qd BK3.out 1).trans rfl
 have hz3_2 := (qd BK3.out 2).trans rfl
 go_wp2_with fail
 go_region_with (first | (go_at_call 55; (with_reducible refine (laws_toDisk.calls k _ _ l0_0 _ _ l0_1 _ _ l0_2 T0_0 T0_1 T0_2 _ ?side1 ?side2 ?side3 ?side4 ?side5 ?side6 A2.out).mono ?_); (case side1 => repeat (first | exact (Kd.C_below HR0_0.out HB.out) | (with_reducible refine Kd.C_alloc ?_ _) | (with_reducible refine Kd.C_drewN ?_ _) | (with_reducible refine Kd.C_drew ?_))); (case side2 => exact HC0_0.out); (case side3 => repeat (first | exact (Kd.C_below HR0_1.out HB.out) | (with_reducible refine Kd.C_alloc ?_ _) | (with_reducible refine Kd.C_drewN ?_ _) | (with_reducible refine Kd.C_drew ?_))); (case side4 => exact HC0_1.out); (case side5 => repeat (first | exact (Kd.C_below HR0_2.out HB.out) | (with_reducible refine Kd.C_alloc ?_ _) | (with_reducible refine Kd.C_drewN ?_ _) | (with_reducible refine Kd.C_drew ?_))); (case side6 => exact HC0_2.out); rintro e w13 ⟨v0_, v1_, v2_, rfl, ho0, ho1, ho2, hb⟩; have N13 := Qz.mk (show w12.heap.size ≤ w13.heap.size from by first | exact hb.size | exact Nat.le_trans (by simp) hb.size); have n_ := Qz.mk (Kd.R_below yq147 hb); clear HW0_0; have HW0_0 := n_; clear n_; have n_ := Qz.mk (Kd.R_below yq146 hb); clear HW0_1; have HW0_1 := n_; clear n_; have n_ := Qz.mk (Kd.R_below yq145 hb); clear HW0_2; have HW0_2 := n_; clear n_; have n_ := Qz.mk (Kd.R_below yq154 hb); clear HX0_0; have HX0_0 := n_; clear n_; have n_ := Qz.mk (Kd.R_below yq153 hb); clear HX0_1; have HX0_1 := n_; clear n_; have n_ := Qz.mk (Kd.R_below yq152 hb); clear HX0_2; have HX0_2 := n_; clear n_; have n_ := Qz.mk (Kd.R_below yq151 hb); clear HX1_0; have HX1_0 := n_; clear n_; have n_ := Qz.mk (Kd.R_below yq150 hb); clear HG0_0; have HG0_0 := n_; clear n_; have n_ := Qz.mk (Kd.R_below yq149 hb); clear HG0_1; have HG0_1 := n_; clear n_; have n_ := Qz.mk (Kd.R_below yq148 hb); clear HG0_2; have HG0_2 := n_; clear n_; have APZ0_0_Z0_1 := Qz.mk (show ∀ k_, (v0_ : Value).ownBlock = some k_ → (v1_ : Value).ownBlock ≠ some k_ from fun k_ h0_ h1_ => ho0.1 k_ h0_ h1_.symm); have HZ0_0 := Qz.mk (R_made (Kd.R_mono ho0 (fun _ _ => trivial)) (lo := w12.heap.size) (by first | exact Nat.le_refl _ | simp) (qo yq144)); have APZ0_1_Z0_0 := Qz.mk (show ∀ k_, (v1_ : Value).ownBlock = some k_ → (v0_ : Value).ownBlock ≠ some k_ from fun k_ h0_ h1_ => ho1.1 k_ h0_ h1_.symm); have HZ0_1 := Qz.mk (R_made (Kd.R_mono ho1 (fun _ _ => trivial)) (lo := w12.heap.size) (by first | exact Nat.le_refl _ | simp) (qo yq144)); have HZ0_2 := Qz.mk (R_made ho2 (lo := w12.heap.size) (by first | exact Nat.le_refl _ | simp) (qo yq144)); have n_ := Qz.mk (qq (g := w.heap.size) (o := .cells #[.slice A0_0 l0_0.length c0_0, .slice A0_1 l0_1.length c0_1, .slice A0_2 l0_2.length c0_2] 79 (0, 0)) (by (with_reducible repeat (first | refine qh ?_ _ | refine qk ?_ | refine qg ?_ _)); exact BK0.out) hb); clear BK0; have BK0 := n_; clear n_; have n_ := Qz.mk (qq (g := w5.heap.size) (o := .cells #[.slice AW0_0 b_0.length cW0_0, .slice AW0_1 b_1.length cW0_1, .slice AW0_2 b_2.length cW0_2] 85 (0, 0)) (by (with_reducible repeat (first | refine qh ?_ _ | refine qk ?_ | refine qg ?_ _)); exact BK1.out) hb); clear BK1; have BK1 := n_; clear n_; have n_ := Qz.mk (qq (g := w7.heap.size) (o := .cells #[.slice AX0_0 T0_0.length cX0_0, .slice AX0_1 T0_1.length cX0_1, .slice AX0_2 T0_2.length cX0_2] 85 (0, 0)) (by (with_reducible repeat (first | refine qh ?_ _ | refine qk ?_ | refine qg ?_ _)); exact BK2.out) hb); clear BK2; have BK2 := n_; clear n_; have n_ := Qz.mk (qq (g := w10.heap.size) (o := .cells #[.slice AG0_0 g_0.length cG0_0, .slice AG0_1 g_1.length cG0_1, .slice AG0_2 g_2.length cG0_2] 85 (0, 0)) (by (with_reducible repeat (first | refine qh ?_ _ | refine qk ?_ | refine qg ?_ _)); exact BK3.out) hb); clear BK3; have BK3 := n_; clear n_; have n_ := Qz.mk (ql yq144 hb); clear HB; have HB := n_; clear n_ hb ho0 ho1 ho2; obtain ⟨AZ0_0, cZ0_0, eZ0_0⟩ := Kd.R_slice HZ0_0.out; subst eZ0_0; obtain ⟨AZ0_1, cZ0_1, eZ0_1⟩ := Kd.R_slice HZ0_1.out; subst eZ0_1; obtain ⟨AZ0_2, cZ0_2, eZ0_2⟩ := Kd.R_slice HZ0_2.out; subst eZ0_2; (try clear hz0_0 hz0_1 hz0_2 hz1_0 hz1_1 hz1_2 hz2_0 hz2_1 hz2_2 hz3_0 hz3_1 hz3_2); (try clear hy0_0); (try clear hy0_1); (try clear hy0_2); (try clear hy1_0); (try clear hy1_1); (try clear hy1_2); (try clear hy2_0); (try clear hy2_1); (try clear hy2_2); (try clear hy3_0); (try clear hy3_1); (try clear hy3_2); have hz0_0 := (qd BK0.out 0).trans rfl; have hz0_1 := (qd BK0.out 1).trans rfl; have hz0_2 := (qd BK0.out 2).trans rfl; have hz1_0 := (qd BK1.out 0).trans rfl; have hz1_1 := (qd BK1.out 1).trans rfl; have hz1_2 := (qd BK1.out 2).trans rfl; have hz2_0 := (qd BK2.out 0).trans rfl; have hz2_1 := (qd BK2.out 1).trans rfl; have hz2_2 := (qd BK2.out 2).trans rfl; have hz3_0 := (qd BK3.out 0).trans rfl; have hz3_1 := (qd BK3.out 1).trans rfl; have hz3_2 := (qd BK3.out 2).trans rfl) | (go_at_call 58; (with_reducible refine (laws_eqDisk.calls k _ _ T0_0 _ _ T0_1 _ _ T0_2 _ _ T0_0 _ _ T0_1 _ _ T0_2 true _ ?side1 ?side2 ?side3 ?side4 ?side5 ?side6 ?side7 ?side8 ?side9 ?side10 ?side11 ?side12 A7.out).mono ?_); (case side1 => repeat (first | exact (Kd.R_reads' HX0_0.out).2.2 | (with_reducible refine Kd.C_alloc ?_ _) | (with_reducible refine Kd.C_drewN ?_ _) | (with_reducible refine Kd.C_drew ?_))); (case side2 => exact (Kd.R_reads' HX0_0.out).2.1); (case side3 => repeat (first | exact (Kd.R_reads' HX0_1.out).2.2 | (with_reducible refine Kd.C_alloc ?_ _) | (with_reducible refine Kd.C_drewN ?_ _) | (with_reducible refine Kd.C_drew ?_))); (case side4 => exact (Kd.R_reads' HX0_1.out).2.1); (case side5 => repeat (first | exact (Kd.R_reads' HX0_2.out).2.2 | (with_reducible refine Kd.C_alloc ?_ _) | (with_reducible refine Kd.C_drewN ?_ _) | (with_reducible refine Kd.C_drew ?_))); (case side6 => exact (Kd.R_reads' HX0_2.out).2.1); (case side7 => repeat (first | exact (Kd.R_reads' HZ0_0.out).2.2 | (with_reducible refine Kd.C_alloc ?_ _) | (with_reducible refine Kd.C_drewN ?_ _) | (with_reducible refine Kd.C_drew ?_))); (case side8 => exact (Kd.R_reads' HZ0_0.out).2.1); (case side9 => repeat (first | exact (Kd.R_reads' HZ0_1.out).2.2 | (with_reducible refine Kd.C_alloc ?_ _) | (with_reducible refine Kd.C_drewN ?_ _) | (with_reducible refine Kd.C_drew ?_))); (case side10 => exact (Kd.R_reads' HZ0_1.out).2.1); (case side11 => repeat (first | exact (Kd.R_reads' HZ0_2.out).2.2 | (with_reducible refine Kd.C_alloc ?_ _) | (with_reducible refine Kd.C_drewN ?_ _) | (with_reducible refine Kd.C_drew ?_))); (case side12 => exact (Kd.R_reads' HZ0_2.out).2.1); rintro e w14 ⟨rfl, hb⟩; have N14 := Qz.mk (show w13.heap.size ≤ w14.heap.size from by first | exact hb.size | exact Nat.le_trans (by simp) hb.size); have n_ := Qz.mk (Kd.R_below yq147 hb); clear HW0_0; have HW0_0 := n_; clear n_; have n_ := Qz.mk (Kd.R_below yq146 hb); clear HW0_1; have HW0_1 := n_; clear n_; have n_ := Qz.mk (Kd.R_below yq145 hb); clear HW0_2; have HW0_2 := n_; clear n_; have n_ := Qz.mk (Kd.R_below yq154 hb); clear HX0_0; have HX0_0 := n_; clear n_; have n_ := Qz.mk (Kd.R_below yq153 hb); clear HX0_1; have HX0_1 := n_; clear n_; have n_ := Qz.mk (Kd.R_below yq152 hb); clear HX0_2; have HX0_2 := n_; clear n_; have n_ := Qz.mk (Kd.R_below yq151 hb); clear HX1_0; have HX1_0 := n_; clear n_; have n_ := Qz.mk (Kd.R_below yq150 hb); clear HG0_0; have HG0_0 := n_; clear n_; have n_ := Qz.mk (Kd.R_below yq149 hb); clear HG0_1; have HG0_1 := n_; clear n_; have n_ := Qz.mk (Kd.R_below yq148 hb); clear HG0_2; have HG0_2 := n_; clear n_; have n_ := Qz.mk (Kd.R_below (by (with_reducible repeat (first | apply Kd.R_alloc | apply Kd.R_drewN | apply Kd.R_drew)); exact HZ0_0.out) hb); clear HZ0_0; have HZ0_0 := n_; clear n_; have n_ := Qz.mk (Kd.R_below (by (with_reducible repeat (first | apply Kd.R_alloc | apply Kd.R_drewN | apply Kd.R_drew)); exact HZ0_1.out) hb); clear HZ0_1; have HZ0_1 := n_; clear n_; have n_ := Qz.mk (Kd.R_below (by (with_reducible repeat (first | apply Kd.R_alloc | apply Kd.R_drewN | apply Kd.R_drew)); exact HZ0_2.out) hb); clear HZ0_2; have HZ0_2 := n_; clear n_; have n_ := Qz.mk (qq (g := w.heap.size) (o := .cells #[.slice A0_0 l0_0.length c0_0, .slice A0_1 l0_1.length c0_1, .slice A0_2 l0_2.length c0_2] 79 (0, 0)) (by (with_reducible repeat (first | refine qh ?_ _ | refine qk ?_ | refine qg ?_ _)); exact BK0.out) hb); clear BK0; have BK0 := n_; clear n_; have n_ := Qz.mk (qq (g := w5.heap.size) (o := .cells #[.slice AW0_0 b_0.length cW0_0, .slice AW0_1 b_1.length cW0_1, .slice AW0_2 b_2.length cW0_2] 85 (0, 0)) (by (with_reducible repeat (first | refine qh ?_ _ | refine qk ?_ | refine qg ?_ _)); exact BK1.out) hb); clear BK1; have BK1 := n_; clear n_; have n_ := Qz.mk (qq (g := w7.heap.size) (o := .cells #[.slice AX0_0 T0_0.length cX0_0, .slice AX0_1 T0_1.length cX0_1, .slice AX0_2 T0_2.length cX0_2] 85 (0, 0)) (by (with_reducible repeat (first | refine qh ?_ _ | refine qk ?_ | refine qg ?_ _)); exact BK2.out) hb); clear BK2; have BK2 := n_; clear n_; have n_ := Qz.mk (qq (g := w10.heap.size) (o := .cells #[.slice AG0_0 g_0.length cG0_0, .slice AG0_1 g_1.length cG0_1, .slice AG0_2 g_2.length cG0_2] 85 (0, 0)) (by (with_reducible repeat (first | refine qh ?_ _ | refine qk ?_ | refine qg ?_ _)); exact BK3.out) hb); clear BK3; have BK3 := n_; clear n_; have n_ := Qz.mk (ql yq144 hb); clear HB; have HB := n_; clear n_ hb; (try clear hz0_0 hz0_1 hz0_2 hz1_0 hz1_1 hz1_2 hz2_0 hz2_1 hz2_2 hz3_0 hz3_1 hz3_2); (try clear hy0_0); (try clear hy0_1); (try clear hy0_2); (try clear hy1_0); (try clear hy1_1); (try clear hy1_2); (try clear hy2_0); (try clear hy2_1); (try clear hy2_2); (try clear hy3_0); (try clear hy3_1); (try clear hy3_2); have hz0_0 := (qd BK0.out 0).trans rfl; have hz0_1 := (qd BK0.out 1).trans rfl; have hz0_2 := (qd BK0.out 2).trans rfl; have hz1_0 := (qd BK1.out 0).trans rfl; have hz1_1 := (qd BK1.out 1).trans rfl; have hz1_2 := (qd BK1.out 2).trans rfl; have hz2_0 := (qd BK2.out 0).trans rfl; have hz2_1 := (qd BK2.out 1).trans rfl; have hz2_2 := (qd BK2.out 2).trans rfl; have hz3_0 := (qd BK3.out 0).trans rfl; have hz3_1 := (qd BK3.out 1).trans rfl; have hz3_2 := (qd BK3.out 2).trans rfl))
 all_goals
  clear HZ0_0
  clear HZ0_1
  clear HZ0_2
  go_wp2_with fail
  (with_reducible refine (laws_toInt64S.calls k _ _ l1 T1_0 _ ?side1 ?side2 A3.out).mono ?_)
  case side1 => repeat (first | exact (Kd.C_below HR1.out HB.out) | (with_reducible refine Kd.C_alloc ?_ _) | (with_reducible refine Kd.C_drewN ?_ _) | (with_reducible refine Kd.C_drew ?_))
  case side2 => exact HC1.out
  rintro e w15 ⟨v0_, rfl, ho0, hb⟩
  have N15 := Qz.mk (show w14.heap.size ≤ w15.heap.size from by first | exact hb.size | exact Nat.le_trans (by simp) hb.size)
  have n_ := Qz.mk (Kd.R_below yq147 hb); clear HW0_0; have HW0_0 := n_; clear n_
  have n_ := Qz.mk (Kd.R_below yq146 hb); clear HW0_1; have HW0_1 := n_; clear n_
  have n_ := Qz.mk (Kd.R_below yq145 hb); clear HW0_2; have HW0_2 := n_; clear n_
  have n_ := Qz.mk (Kd.R_below yq154 hb); clear HX0_0; have HX0_0 := n_; clear n_
  have n_ := Qz.mk (Kd.R_below yq153 hb); clear HX0_1; have HX0_1 := n_; clear n_
  have n_ := Qz.mk (Kd.R_below yq152 hb); clear HX0_2; have HX0_2 := n_; clear n_
  have n_ := Qz.mk (Kd.R_below yq151 hb); clear HX1_0; have HX1_0 := n_; clear n_
  have n_ := Qz.mk (Kd.R_below yq150 hb); clear HG0_0; have HG0_0 := n_; clear n_
  have n_ := Qz.mk (Kd.R_below yq149 hb); clear HG0_1; have HG0_1 := n_; clear n_
  have n_ := Qz.mk (Kd.R_below yq148 hb); clear HG0_2; have HG0_2 := n_; clear n_
  have HZ1_0 := Qz.mk (R_made ho0 (lo := w14.heap.size) (by first | exact Nat.le_refl _ | simp) (qo yq144))
  have n_ := Qz.mk (qq BK0.out hb); clear BK0; have BK0 := n_; clear n_
  have n_ := Qz.mk (qq BK1.out hb); clear BK1; have BK1 := n_; clear n_
  have n_ := Qz.mk (qq BK2.out hb); clear BK2; have BK2 := n_; clear n_
  have n_ := Qz.mk (qq BK3.out hb); clear BK3; have BK3 := n_; clear n_
  have n_ := Qz.mk (ql yq144 hb); clear HB; have HB := n_; clear n_ hb ho0
  obtain ⟨AZ1_0, cZ1_0, eZ1_0⟩ := Kd.R_slice HZ1_0.out; subst eZ1_0
  try clear hz0_0 hz0_1 hz0_2 hz1_0 hz1_1 hz1_2 hz2_0 hz2_1 hz2_2 hz3_0 hz3_1 hz3_2
  try clear hy0_0
  try clear hy0_1
  try clear hy0_2
  try clear hy1_0
  try clear hy1_1
  try clear hy1_2
  try clear hy2_0
  try clear hy2_1
  try clear hy2_2
  try clear hy3_0
  try clear hy3_1
  try clear hy3_2
  have hz0_0 := (qd BK0.out 0).trans rfl
  have hz0_1 := (qd BK0.out 1).trans rfl
  have hz0_2 := (qd BK0.out 2).trans rfl
  have hz1_0 := (qd BK1.out 0).trans rfl
  have hz1_1 := (qd BK1.out 1).trans rfl
  have hz1_2 := (qd BK1.out 2).trans rfl
  have hz2_0 := (qd BK2.out 0).trans rfl
  have hz2_1 := (qd BK2.out 1).trans rfl
  have hz2_2 := (qd BK2.out 2).trans rfl
  have hz3_0 := (qd BK3.out 0).trans rfl
  have hz3_1 := (qd BK3.out 1).trans rfl
  have hz3_2 := (qd BK3.out 2).trans rfl
  go_wp2_with fail
  (with_reducible refine (laws_eqInt64S.calls k _ _ T1_0 _ _ T1_0 true _ ?side1 ?side2 ?side3 ?side4 A8.out).mono ?_)
  case side1 => repeat (first | exact (Kd.R_reads' HX1_0.out).2.2 | (with_reducible refine Kd.C_alloc ?_ _) | (with_reducible refine Kd.C_drewN ?_ _) | (with_reducible refine Kd.C_drew ?_))
  case side2 => exact (Kd.R_reads' HX1_0.out).2.1
  case side3 => repeat (first | exact (Kd.R_reads' HZ1_0.out).2.2 | (with_reducible refine Kd.C_alloc ?_ _) | (with_reducible refine Kd.C_drewN ?_ _) | (with_reducible refine Kd.C_drew ?_))
  case side4 => exact (Kd.R_reads' HZ1_0.out).2.1
  rintro e w16 ⟨rfl, hb⟩
  replace hb := hb.below
  have N16 := Qz.mk (show w15.heap.size ≤ w16.heap.size from by first | exact hb.size | exact Nat.le_trans (by simp) hb.size)
  have n_ := Qz.mk (Kd.R_below yq147 hb); clear HW0_0; have HW0_0 := n_; clear n_
  have n_ := Qz.mk (Kd.R_below yq146 hb); clear HW0_1; have HW0_1 := n_; clear n_
  have n_ := Qz.mk (Kd.R_below yq145 hb); clear HW0_2; have HW0_2 := n_; clear n_
  have n_ := Qz.mk (Kd.R_below yq154 hb); clear HX0_0; have HX0_0 := n_; clear n_
  have n_ := Qz.mk (Kd.R_below yq153 hb); clear HX0_1; have HX0_1 := n_; clear n_
  have n_ := Qz.mk (Kd.R_below yq152 hb); clear HX0_2; have HX0_2 := n_; clear n_
  have n_ := Qz.mk (Kd.R_below yq151 hb); clear HX1_0; have HX1_0 := n_; clear n_
  have n_ := Qz.mk (Kd.R_below yq150 hb); clear HG0_0; have HG0_0 := n_; clear n_
  have n_ := Qz.mk (Kd.R_below yq149 hb); clear HG0_1; have HG0_1 := n_; clear n_
  have n_ := Qz.mk (Kd.R_below yq148 hb); clear HG0_2; have HG0_2 := n_; clear n_
  have n_ := Qz.mk (Kd.R_below (by (with_reducible repeat (first | apply Kd.R_alloc | apply Kd.R_drewN | apply Kd.R_drew)); exact HZ1_0.out) hb); clear HZ1_0; have HZ1_0 := n_; clear n_
  have n_ := Qz.mk (qq BK0.out hb); clear BK0; have BK0 := n_; clear n_
  have n_ := Qz.mk (qq BK1.out hb); clear BK1; have BK1 := n_; clear n_
  have n_ := Qz.mk (qq BK2.out hb); clear BK2; have BK2 := n_; clear n_
  have n_ := Qz.mk (qq BK3.out hb); clear BK3; have BK3 := n_; clear n_
  have n_ := Qz.mk (ql yq144 hb); clear HB; have HB := n_; clear n_ hb
  try clear hz0_0 hz0_1 hz0_2 hz1_0 hz1_1 hz1_2 hz2_0 hz2_1 hz2_2 hz3_0 hz3_1 hz3_2
  try clear hy0_0
  try clear hy0_1
  try clear hy0_2
  try clear hy1_0
  try clear hy1_1
  try clear hy1_2
  try clear hy2_0
  try clear hy2_1
  try clear hy2_2
  try clear hy3_0
  try clear hy3_1
  try clear hy3_2
  have hz0_0 := (qd BK0.out 0).trans rfl
  have hz0_1 := (qd BK0.out 1).trans rfl
  have hz0_2 := (qd BK0.out 2).trans rfl
  have hz1_0 := (qd BK1.out 0).trans rfl
  have hz1_1 := (qd BK1.out 1).trans rfl
  have hz1_2 := (qd BK1.out 2).trans rfl
  have hz2_0 := (qd BK2.out 0).trans rfl
  have hz2_1 := (qd BK2.out 1).trans rfl
  have hz2_2 := (qd BK2.out 2).trans rfl
  have hz3_0 := (qd BK3.out 0).trans rfl
  have hz3_1 := (qd BK3.out 1).trans rfl
  have hz3_2 := (qd BK3.out 2).trans rfl
  clear HZ1_0
  go_wp2_with fail
  (with_reducible refine (laws_markDisk.calls k (fun k_ => some k_ = (.slice AX0_0 T0_0.length cX0_0 : Value).ownBlock) _ T0_0 (fun k_ => some k_ = (.slice AX0_1 T0_1.length cX0_1 : Value).ownBlock) _ T0_1 (fun k_ => some k_ = (.slice AX0_2 T0_2.length cX0_2 : Value).ownBlock) _ T0_2 1 m0 M0_0 M0_1 M0_2 w _ ?side1 ?side2 ?side3 ?side4 ?side5 ?side6 A9.out).mono ?_)
  case side1 => exact yq144
  case side2 => exact Kd.R_tight rfl yq154
  case side3 => exact fun k_ h0_ h1_ => APX0_0_X0_1.out k_ h0_.symm h1_.symm
  case side4 => exact Kd.R_tight rfl yq153
  case side5 => exact fun k_ h0_ h1_ => APX0_1_X0_0.out k_ h0_.symm h1_.symm
  case side6 => exact Kd.R_tight rfl yq152
  rintro e w17 ⟨rfl, hR0, hR1, hR2, hB2, hK2⟩
  have N17 := Qz.mk (show w16.heap.size ≤ w17.heap.size from hK2.1)
  have Q0 := Qz.mk (fun (k_ : Nat) (h_ : some k_ = (.slice AX0_0 T0_0.length cX0_0 : Value).ownBlock) => HX0_0.out.1 k_ h_.symm)
  have Q1 := Qz.mk (fun (k_ : Nat) (h_ : some k_ = (.slice AX0_1 T0_1.length cX0_1 : Value).ownBlock) => HX0_1.out.1 k_ h_.symm)
  have Q2 := Qz.mk (fun (k_ : Nat) (h_ : some k_ = (.slice AX0_2 T0_2.length cX0_2 : Value).ownBlock) => HX0_2.out.1 k_ h_.symm)
  have n_ := Qz.mk (Kd.R_kept yq147 hK2 (fun k_ h1_ h2_ => by (rcases h2_ with h2_ | h2_ | h2_ <;> first | (have q_ := Q0.out _ h2_; have := NB.out; have := N1.out; have := N2.out; have := N3.out; have := N4.out; have := N5.out; have := N6.out; have := N7.out; have := N8.out; have := N9.out; have := N10.out; have := N11.out; have := N12.out; have := N13.out; have := N14.out; have := N15.out; have := N16.out; have := N17.out; omega) | (have q_ := Q1.out _ h2_; have := NB.out; have := N1.out; have := N2.out; have := N3.out; have := N4.out; have := N5.out; have := N6.out; have := N7.out; have := N8.out; have := N9.out; have := N10.out; have := N11.out; have := N12.out; have := N13.out; have := N14.out; have := N15.out; have := N16.out; have := N17.out; omega) | (have q_ := Q2.out _ h2_; have := NB.out; have := N1.out; have := N2.out; have := N3.out; have := N4.out; have := N5.out; have := N6.out; have := N7.out; have := N8.out; have := N9.out; have := N10.out; have := N11.out; have := N12.out; have := N13.out; have := N14.out; have := N15.out; have := N16.out; have := N17.out; omega)))); clear HW0_0; have HW0_0 := n_; clear n_
  have n_ := Qz.mk (Kd.R_kept yq146 hK2 (fun k_ h1_ h2_ => by (rcases h2_ with h2_ | h2_ | h2_ <;> first | (have q_ := Q0.out _ h2_; have := NB.out; have := N1.out; have := N2.out; have := N3.out; have := N4.out; have := N5.out; have := N6.out; have := N7.out; have := N8.out; have := N9.out; have := N10.out; have := N11.out; have := N12.out; have := N13.out; have := N14.out; have := N15.out; have := N16.out; have := N17.out; omega) | (have q_ := Q1.out _ h2_; have := NB.out; have := N1.out; have := N2.out; have := N3.out; have := N4.out; have := N5.out; have := N6.out; have := N7.out; have := N8.out; have := N9.out; have := N10.out; have := N11.out; have := N12.out; have := N13.out; have := N14.out; have := N15.out; have := N16.out; have := N17.out; omega) | (have q_ := Q2.out _ h2_; have := NB.out; have := N1.out; have := N2.out; have := N3.out; have := N4.out; have := N5.out; have := N6.out; have := N7.out; have := N8.out; have := N9.out; have := N10.out; have := N11.out; have := N12.out; have := N13.out; have := N14.out; have := N15.out; have := N16.out; have := N17.out; omega)))); clear HW0_1; have HW0_1 := n_; clear n_
  have n_ := Qz.mk (Kd.R_kept yq145 hK2 (fun k_ h1_ h2_ => by (rcases h2_ with h2_ | h2_ | h2_ <;> first | (have q_ := Q0.out _ h2_; have := NB.out; have := N1.out; have := N2.out; have := N3.out; have := N4.out; have := N5.out; have := N6.out; have := N7.out; have := N8.out; have := N9.out; have := N10.out; have := N11.out; have := N12.out; have := N13.out; have := N14.out; have := N15.out; have := N16.out; have := N17.out; omega) | (have q_ := Q1.out _ h2_; have := NB.out; have := N1.out; have := N2.out; have := N3.out; have := N4.out; have := N5.out; have := N6.out; have := N7.out; have := N8.out; have := N9.out; have := N10.out; have := N11.out; have := N12.out; have := N13.out; have := N14.out; have := N15.out; have := N16.out; have := N17.out; omega) | (have q_ := Q2.out _ h2_; have := NB.out; have := N1.out; have := N2.out; have := N3.out; have := N4.out; have := N5.out; have := N6.out; have := N7.out; have := N8.out; have := N9.out; have := N10.out; have := N11.out; have := N12.out; have := N13.out; have := N14.out; have := N15.out; have := N16.out; have := N17.out; omega)))); clear HW0_2; have HW0_2 := n_; clear n_
  have n_ := Qz.mk (Kd.R_kept yq151 hK2 (fun k_ h1_ h2_ => by (rcases h2_ with h2_ | h2_ | h2_ <;> first | (have q_ := Q0.out _ h2_; have := NB.out; have := N1.out; have := N2.out; have := N3.out; have := N4.out; have := N5.out; have := N6.out; have := N7.out; have := N8.out; have := N9.out; have := N10.out; have := N11.out; have := N12.out; have := N13.out; have := N14.out; have := N15.out; have := N16.out; have := N17.out; omega) | (have q_ := Q1.out _ h2_; have := NB.out; have := N1.out; have := N2.out; have := N3.out; have := N4.out; have := N5.out; have := N6.out; have := N7.out; have := N8.out; have := N9.out; have := N10.out; have := N11.out; have := N12.out; have := N13.out; have := N14.out; have := N15.out; have := N16.out; have := N17.out; omega) | (have q_ := Q2.out _ h2_; have := NB.out; have := N1.out; have := N2.out; have := N3.out; have := N4.out; have := N5.out; have := N6.out; have := N7.out; have := N8.out; have := N9.out; have := N10.out; have := N11.out; have := N12.out; have := N13.out; have := N14.out; have := N15.out; have := N16.out; have := N17.out; omega)))); clear HX1_0; have HX1_0 := n_; clear n_
  have n_ := Qz.mk (Kd.R_kept yq150 hK2 (fun k_ h1_ h2_ => by (rcases h2_ with h2_ | h2_ | h2_ <;> first | (have q_ := Q0.out _ h2_; have := NB.out; have := N1.out; have := N2.out; have := N3.out; have := N4.out; have := N5.out; have := N6.out; have := N7.out; have := N8.out; have := N9.out; have := N10.out; have := N11.out; have := N12.out; have := N13.out; have := N14.out; have := N15.out; have := N16.out; have := N17.out; omega) | (have q_ := Q1.out _ h2_; have := NB.out; have := N1.out; have := N2.out; have := N3.out; have := N4.out; have := N5.out; have := N6.out; have := N7.out; have := N8.out; have := N9.out; have := N10.out; have := N11.out; have := N12.out; have := N13.out; have := N14.out; have := N15.out; have := N16.out; have := N17.out; omega) | (have q_ := Q2.out _ h2_; have := NB.out; have := N1.out; have := N2.out; have := N3.out; have := N4.out; have := N5.out; have := N6.out; have := N7.out; have := N8.out; have := N9.out; have := N10.out; have := N11.out; have := N12.out; have := N13.out; have := N14.out; have := N15.out; have := N16.out; have := N17.out; omega)))); clear HG0_0; have HG0_0 := n_; clear n_
  have n_ := Qz.mk (Kd.R_kept yq149 hK2 (fun k_ h1_ h2_ => by (rcases h2_ with h2_ | h2_ | h2_ <;> first | (have q_ := Q0.out _ h2_; have := NB.out; have := N1.out; have := N2.out; have := N3.out; have := N4.out; have := N5.out; have := N6.out; have := N7.out; have := N8.out; have := N9.out; have := N10.out; have := N11.out; have := N12.out; have := N13.out; have := N14.out; have := N15.out; have := N16.out; have := N17.out; omega) | (have q_ := Q1.out _ h2_; have := NB.out; have := N1.out; have := N2.out; have := N3.out; have := N4.out; have := N5.out; have := N6.out; have := N7.out; have := N8.out; have := N9.out; have := N10.out; have := N11.out; have := N12.out; have := N13.out; have := N14.out; have := N15.out; have := N16.out; have := N17.out; omega) | (have q_ := Q2.out _ h2_; have := NB.out; have := N1.out; have := N2.out; have := N3.out; have := N4.out; have := N5.out; have := N6.out; have := N7.out; have := N8.out; have := N9.out; have := N10.out; have := N11.out; have := N12.out; have := N13.out; have := N14.out; have := N15.out; have := N16.out; have := N17.out; omega)))); clear HG0_1; have HG0_1 := n_; clear n_
  have n_ := Qz.mk (Kd.R_kept yq148 hK2 (fun k_ h1_ h2_ => by (rcases h2_ with h2_ | h2_ | h2_ <;> first | (have q_ := Q0.out _ h2_; have := NB.out; have := N1.out; have := N2.out; have := N3.out; have := N4.out; have := N5.out; have := N6.out; have := N7.out; have := N8.out; have := N9.out; have := N10.out; have := N11.out; have := N12.out; have := N13.out; have := N14.out; have := N15.out; have := N16.out; have := N17.out; omega) | (have q_ := Q1.out _ h2_; have := NB.out; have := N1.out; have := N2.out; have := N3.out; have := N4.out; have := N5.out; have := N6.out; have := N7.out; have := N8.out; have := N9.out; have := N10.out; have := N11.out; have := N12.out; have := N13.out; have := N14.out; have := N15.out; have := N16.out; have := N17.out; omega) | (have q_ := Q2.out _ h2_; have := NB.out; have := N1.out; have := N2.out; have := N3.out; have := N4.out; have := N5.out; have := N6.out; have := N7.out; have := N8.out; have := N9.out; have := N10.out; have := N11.out; have := N12.out; have := N13.out; have := N14.out; have := N15.out; have := N16.out; have := N17.out; omega)))); clear HG0_2; have HG0_2 := n_; clear n_
  clear HX0_0; have HX0_0 := Qz.mk (Kd.R_reok (ok := fun k_ => w6.heap.size ≤ k_ ∧ k_ < w7.heap.size) rfl hR0 (fun k_ hk_ => Q0.out k_ hk_.symm))
  obtain ⟨A_, c_, e_⟩ := Kd.R_slice HX0_0.out; injection e_ with e1_ e2_ e3_; clear e1_ e3_; have LX0_0 := Qz.mk e2_; clear e2_
  clear HX0_1; have HX0_1 := Qz.mk (Kd.R_reok (ok := fun k_ => w6.heap.size ≤ k_ ∧ k_ < w7.heap.size) rfl hR1 (fun k_ hk_ => Q1.out k_ hk_.symm))
  obtain ⟨A_, c_, e_⟩ := Kd.R_slice HX0_1.out; injection e_ with e1_ e2_ e3_; clear e1_ e3_; have LX0_1 := Qz.mk e2_; clear e2_
  clear HX0_2; have HX0_2 := Qz.mk (Kd.R_reok (ok := fun k_ => w6.heap.size ≤ k_ ∧ k_ < w7.heap.size) rfl hR2 (fun k_ hk_ => Q2.out k_ hk_.symm))
  obtain ⟨A_, c_, e_⟩ := Kd.R_slice HX0_2.out; injection e_ with e1_ e2_ e3_; clear e1_ e3_; have LX0_2 := Qz.mk e2_; clear e2_
  have n_ := Qz.mk (blk_kept BK0.out hK2 (fun h2_ => by (rcases h2_ with h2_ | h2_ | h2_ <;> first | (have q_ := Q0.out _ h2_; have := NB.out; have := N1.out; have := N2.out; have := N3.out; have := N4.out; have := N5.out; have := N6.out; have := N7.out; have := N8.out; have := N9.out; have := N10.out; have := N11.out; have := N12.out; have := N13.out; have := N14.out; have := N15.out; have := N16.out; have := N17.out; omega) | (have q_ := Q1.out _ h2_; have := NB.out; have := N1.out; have := N2.out; have := N3.out; have := N4.out; have := N5.out; have := N6.out; have := N7.out; have := N8.out; have := N9.out; have := N10.out; have := N11.out; have := N12.out; have := N13.out; have := N14.out; have := N15.out; have := N16.out; have := N17.out; omega) | (have q_ := Q2.out _ h2_; have := NB.out; have := N1.out; have := N2.out; have := N3.out; have := N4.out; have := N5.out; have := N6.out; have := N7.out; have := N8.out; have := N9.out; have := N10.out; have := N11.out; have := N12.out; have := N13.out; have := N14.out; have := N15.out; have := N16.out; have := N17.out; omega)))); clear BK0; have BK0 := n_; clear n_
  have n_ := Qz.mk (blk_kept BK1.out hK2 (fun h2_ => by (rcases h2_ with h2_ | h2_ | h2_ <;> first | (have q_ := Q0.out _ h2_; have := NB.out; have := N1.out; have := N2.out; have := N3.out; have := N4.out; have := N5.out; have := N6.out; have := N7.out; have := N8.out; have := N9.out; have := N10.out; have := N11.out; have := N12.out; have := N13.out; have := N14.out; have := N15.out; have := N16.out; have := N17.out; omega) | (have q_ := Q1.out _ h2_; have := NB.out; have := N1.out; have := N2.out; have := N3.out; have := N4.out; have := N5.out; have := N6.out; have := N7.out; have := N8.out; have := N9.out; have := N10.out; have := N11.out; have := N12.out; have := N13.out; have := N14.out; have := N15.out; have := N16.out; have := N17.out; omega) | (have q_ := Q2.out _ h2_; have := NB.out; have := N1.out; have := N2.out; have := N3.out; have := N4.out; have := N5.out; have := N6.out; have := N7.out; have := N8.out; have := N9.out; have := N10.out; have := N11.out; have := N12.out; have := N13.out; have := N14.out; have := N15.out; have := N16.out; have := N17.out; omega)))); clear BK1; have BK1 := n_; clear n_
  have n_ := Qz.mk (blk_kept BK2.out hK2 (fun h2_ => by (rcases h2_ with h2_ | h2_ | h2_ <;> first | (have q_ := Q0.out _ h2_; have := NB.out; have := N1.out; have := N2.out; have := N3.out; have := N4.out; have := N5.out; have := N6.out; have := N7.out; have := N8.out; have := N9.out; have := N10.out; have := N11.out; have := N12.out; have := N13.out; have := N14.out; have := N15.out; have := N16.out; have := N17.out; omega) | (have q_ := Q1.out _ h2_; have := NB.out; have := N1.out; have := N2.out; have := N3.out; have := N4.out; have := N5.out; have := N6.out; have := N7.out; have := N8.out; have := N9.out; have := N10.out; have := N11.out; have := N12.out; have := N13.out; have := N14.out; have := N15.out; have := N16.out; have := N17.out; omega) | (have q_ := Q2.out _ h2_; have := NB.out; have := N1.out; have := N2.out; have := N3.out; have := N4.out; have := N5.out; have := N6.out; have := N7.out; have := N8.out; have := N9.out; have := N10.out; have := N11.out; have := N12.out; have := N13.out; have := N14.out; have := N15.out; have := N16.out; have := N17.out; omega)))); clear BK2; have BK2 := n_; clear n_
  have n_ := Qz.mk (blk_kept BK3.out hK2 (fun h2_ => by (rcases h2_ with h2_ | h2_ | h2_ <;> first | (have q_ := Q0.out _ h2_; have := NB.out; have := N1.out; have := N2.out; have := N3.out; have := N4.out; have := N5.out; have := N6.out; have := N7.out; have := N8.out; have := N9.out; have := N10.out; have := N11.out; have := N12.out; have := N13.out; have := N14.out; have := N15.out; have := N16.out; have := N17.out; omega) | (have q_ := Q1.out _ h2_; have := NB.out; have := N1.out; have := N2.out; have := N3.out; have := N4.out; have := N5.out; have := N6.out; have := N7.out; have := N8.out; have := N9.out; have := N10.out; have := N11.out; have := N12.out; have := N13.out; have := N14.out; have := N15.out; have := N16.out; have := N17.out; omega) | (have q_ := Q2.out _ h2_; have := NB.out; have := N1.out; have := N2.out; have := N3.out; have := N4.out; have := N5.out; have := N6.out; have := N7.out; have := N8.out; have := N9.out; have := N10.out; have := N11.out; have := N12.out; have := N13.out; have := N14.out; have := N15.out; have := N16.out; have := N17.out; omega)))); clear BK3; have BK3 := n_; clear n_
  clear HB; have HB := Qz.mk hB2; clear hB2 hK2 hR0 hR1 hR2 Q0 Q1 Q2
  try clear hz0_0 hz0_1 hz0_2 hz1_0 hz1_1 hz1_2 hz2_0 hz2_1 hz2_2 hz3_0 hz3_1 hz3_2
  try clear hy0_0
  try clear hy0_1
  try clear hy0_2
  try clear hy1_0
  try clear hy1_1
  try clear hy1_2
  try clear hy2_0
  try clear hy2_1
  try clear hy2_2
  try clear hy3_0
  try clear hy3_1
  try clear hy3_2
  have hz0_0 := (qd BK0.out 0).trans rfl
  have hz0_1 := (qd BK0.out 1).trans rfl
  have hz0_2 := (qd BK0.out 2).trans rfl
  have hz1_0 := (qd BK1.out 0).trans rfl
  have hz1_1 := (qd BK1.out 1).trans rfl
  have hz1_2 := (qd BK1.out 2).trans rfl
  have hz2_0 := (qd BK2.out 0).trans rfl
  have hz2_1 := (qd BK2.out 1).trans rfl
  have hz2_2 := (qd BK2.out 2).trans rfl
  have hz3_0 := (qd BK3.out 0).trans rfl
  have hz3_1 := (qd BK3.out 1).trans rfl
  have hz3_2 := (qd BK3.out 2).trans rfl
  clear HX0_0
  clear HX0_1
  clear HX0_2
  go_wp2_with fail
  (with_reducible refine (laws_markInt64S.calls k (fun k_ => w8.heap.size ≤ k_ ∧ k_ < w9.heap.size) _ T1_0 m0 m1 M1_0 w _ ?side1 ?side2 A10.out).mono ?_)
  case side1 => exact yq144
  case side2 => exact yq151
  rintro e w18 ⟨rfl, hR0, hB2, hK2⟩
  have N18 := Qz.mk (show w17.heap.size ≤ w18.heap.size from hK2.1)
  have n_ := Qz.mk (Kd.R_kept yq147 hK2 (fun k_ h1_ h2_ => by have := N1.out; have := N2.out; have := N3.out; have := N4.out; have := N5.out; have := N6.out; have := N7.out; have := N8.out; have := N9.out; have := N10.out; have := N11.out; have := N12.out; have := N13.out; have := N14.out; have := N15.out; have := N16.out; have := N17.out; have := N18.out; omega)); clear HW0_0; have HW0_0 := n_; clear n_
  have n_ := Qz.mk (Kd.R_kept yq146 hK2 (fun k_ h1_ h2_ => by have := N1.out; have := N2.out; have := N3.out; have := N4.out; have := N5.out; have := N6.out; have := N7.out; have := N8.out; have := N9.out; have := N10.out; have := N11.out; have := N12.out; have := N13.out; have := N14.out; have := N15.out; have := N16.out; have := N17.out; have := N18.out; omega)); clear HW0_1; have HW0_1 := n_; clear n_
  have n_ := Qz.mk (Kd.R_kept yq145 hK2 (fun k_ h1_ h2_ => by have := N1.out; have := N2.out; have := N3.out; have := N4.out; have := N5.out; have := N6.out; have := N7.out; have := N8.out; have := N9.out; have := N10.out; have := N11.out; have := N12.out; have := N13.out; have := N14.out; have := N15.out; have := N16.out; have := N17.out; have := N18.out; omega)); clear HW0_2; have HW0_2 := n_; clear n_
  have n_ := Qz.mk (Kd.R_kept yq150 hK2 (fun k_ h1_ h2_ => by have := N1.out; have := N2.out; have := N3.out; have := N4.out; have := N5.out; have := N6.out; have := N7.out; have := N8.out; have := N9.out; have := N10.out; have := N11.out; have := N12.out; have := N13.out; have := N14.out; have := N15.out; have := N16.out; have := N17.out; have := N18.out; omega)); clear HG0_0; have HG0_0 := n_; clear n_
  have n_ := Qz.mk (Kd.R_kept yq149 hK2 (fun k_ h1_ h2_ => by have := N1.out; have := N2.out; have := N3.out; have := N4.out; have := N5.out; have := N6.out; have := N7.out; have := N8.out; have := N9.out; have := N10.out; have := N11.out; have := N12.out; have := N13.out; have := N14.out; have := N15.out; have := N16.out; have := N17.out; have := N18.out; omega)); clear HG0_1; have HG0_1 := n_; clear n_
  have n_ := Qz.mk (Kd.R_kept yq148 hK2 (fun k_ h1_ h2_ => by have := N1.out; have := N2.out; have := N3.out; have := N4.out; have := N5.out; have := N6.out; have := N7.out; have := N8.out; have := N9.out; have := N10.out; have := N11.out; have := N12.out; have := N13.out; have := N14.out; have := N15.out; have := N16.out; have := N17.out; have := N18.out; omega)); clear HG0_2; have HG0_2 := n_; clear n_
  clear HX1_0; have HX1_0 := Qz.mk hR0
  obtain ⟨A_, c_, e_⟩ := Kd.R_slice HX1_0.out; injection e_ with e1_ e2_ e3_; clear e1_ e3_; have LX1_0 := Qz.mk e2_; clear e2_
  have n_ := Qz.mk (blk_kept BK0.out hK2 (fun h1_ => by have := NB.out; have := N1.out; have := N2.out; have := N3.out; have := N4.out; have := N5.out; have := N6.out; have := N7.out; have := N8.out; have := N9.out; have := N10.out; have := N11.out; have := N12.out; have := N13.out; have := N14.out; have := N15.out; have := N16.out; have := N17.out; have := N18.out; omega)); clear BK0; have BK0 := n_; clear n_
  have n_ := Qz.mk (blk_kept BK1.out hK2 (fun h1_ => by have := NB.out; have := N1.out; have := N2.out; have := N3.out; have := N4.out; have := N5.out; have := N6.out; have := N7.out; have := N8.out; have := N9.out; have := N10.out; have := N11.out; have := N12.out; have := N13.out; have := N14.out; have := N15.out; have := N16.out; have := N17.out; have := N18.out; omega)); clear BK1; have BK1 := n_; clear n_
  have n_ := Qz.mk (blk_kept BK2.out hK2 (fun h1_ => by have := NB.out; have := N1.out; have := N2.out; have := N3.out; have := N4.out; have := N5.out; have := N6.out; have := N7.out; have := N8.out; have := N9.out; have := N10.out; have := N11.out; have := N12.out; have := N13.out; have := N14.out; have := N15.out; have := N16.out; have := N17.out; have := N18.out; omega)); clear BK2; have BK2 := n_; clear n_
  have n_ := Qz.mk (blk_kept BK3.out hK2 (fun h1_ => by have := NB.out; have := N1.out; have := N2.out; have := N3.out; have := N4.out; have := N5.out; have := N6.out; have := N7.out; have := N8.out; have := N9.out; have := N10.out; have := N11.out; have := N12.out; have := N13.out; have := N14.out; have := N15.out; have := N16.out; have := N17.out; have := N18.out; omega)); clear BK3; have BK3 := n_; clear n_
  clear HB; have HB := Qz.mk hB2; clear hB2 hK2 hR0
  try clear hz0_0 hz0_1 hz0_2 hz1_0 hz1_1 hz1_2 hz2_0 hz2_1 hz2_2 hz3_0 hz3_1 hz3_2
  try clear hy0_0
  try clear hy0_1
  try clear hy0_2
  try clear hy1_0
  try clear hy1_1
  try clear hy1_2
  try clear hy2_0
  try clear hy2_1
  try clear hy2_2
  try clear hy3_0
  try clear hy3_1
  try clear hy3_2
  have hz0_0 := (qd BK0.out 0).trans rfl
  have hz0_1 := (qd BK0.out 1).trans rfl
  have hz0_2 := (qd BK0.out 2).trans rfl
  have hz1_0 := (qd BK1.out 0).trans rfl
  have hz1_1 := (qd BK1.out 1).trans rfl
  have hz1_2 := (qd BK1.out 2).trans rfl
  have hz2_0 := (qd BK2.out 0).trans rfl
  have hz2_1 := (qd BK2.out 1).trans rfl
  have hz2_2 := (qd BK2.out 2).trans rfl
  have hz3_0 := (qd BK3.out 0).trans rfl
  have hz3_1 := (qd BK3.out 1).trans rfl
  have hz3_2 := (qd BK3.out 2).trans rfl
  clear HX1_0
  go_wp2_with fail
  (with_reducible refine (laws_eqDisk.calls k _ _ g_0 _ _ g_1 _ _ g_2 _ _ b_0 _ _ b_1 _ _ b_2 true _ ?side1 ?side2 ?side3 ?side4 ?side5 ?side6 ?side7 ?side8 ?side9 ?side10 ?side11 ?side12 A6.out).mono ?_)
  case side1 => repeat (first | exact (Kd.R_reads' HG0_0.out).2.2 | (with_reducible refine Kd.C_alloc ?_ _) | (with_reducible refine Kd.C_drewN ?_ _) | (with_reducible refine Kd.C_drew ?_))
  case side2 => exact (Kd.R_reads' HG0_0.out).2.1
  case side3 => repeat (first | exact (Kd.R_reads' HG0_1.out).2.2 | (with_reducible refine Kd.C_alloc ?_ _) | (with_reducible refine Kd.C_drewN ?_ _) | (with_reducible refine Kd.C_drew ?_))
  case side4 => exact (Kd.R_reads' HG0_1.out).2.1
  case side5 => repeat (first | exact (Kd.R_reads' HG0_2.out).2.2 | (with_reducible refine Kd.C_alloc ?_ _) | (with_reducible refine Kd.C_drewN ?_ _) | (with_reducible refine Kd.C_drew ?_))
  case side6 => exact (Kd.R_reads' HG0_2.out).2.1
  case side7 => repeat (first | exact (Kd.R_reads' HW0_0.out).2.2 | (with_reducible refine Kd.C_alloc ?_ _) | (with_reducible refine Kd.C_drewN ?_ _) | (with_reducible refine Kd.C_drew ?_))
  case side8 => exact (Kd.R_reads' HW0_0.out).2.1
  case side9 => repeat (first | exact (Kd.R_reads' HW0_1.out).2.2 | (with_reducible refine Kd.C_alloc ?_ _) | (with_reducible refine Kd.C_drewN ?_ _) | (with_reducible refine Kd.C_drew ?_))
  case side10 => exact (Kd.R_reads' HW0_1.out).2.1
  case side11 => repeat (first | exact (Kd.R_reads' HW0_2.out).2.2 | (with_reducible refine Kd.C_alloc ?_ _) | (with_reducible refine Kd.C_drewN ?_ _) | (with_reducible refine Kd.C_drew ?_))
  case side12 => exact (Kd.R_reads' HW0_2.out).2.1
  rintro e w19 ⟨rfl, hb⟩
  have N19 := Qz.mk (show w18.heap.size ≤ w19.heap.size from by first | exact hb.size | exact Nat.le_trans (by simp) hb.size)
  have n_ := Qz.mk (Kd.R_below yq147 hb); clear HW0_0; have HW0_0 := n_; clear n_
  have n_ := Qz.mk (Kd.R_below yq146 hb); clear HW0_1; have HW0_1 := n_; clear n_
  have n_ := Qz.mk (Kd.R_below yq145 hb); clear HW0_2; have HW0_2 := n_; clear n_
  have n_ := Qz.mk (Kd.R_below yq150 hb); clear HG0_0; have HG0_0 := n_; clear n_
  have n_ := Qz.mk (Kd.R_below yq149 hb); clear HG0_1; have HG0_1 := n_; clear n_
  have n_ := Qz.mk (Kd.R_below yq148 hb); clear HG0_2; have HG0_2 := n_; clear n_
  have n_ := Qz.mk (qq BK0.out hb); clear BK0; have BK0 := n_; clear n_
  have n_ := Qz.mk (qq BK1.out hb); clear BK1; have BK1 := n_; clear n_
  have n_ := Qz.mk (qq BK2.out hb); clear BK2; have BK2 := n_; clear n_
  have n_ := Qz.mk (qq BK3.out hb); clear BK3; have BK3 := n_; clear n_
  have n_ := Qz.mk (ql yq144 hb); clear HB; have HB := n_; clear n_ hb
  try clear hz0_0 hz0_1 hz0_2 hz1_0 hz1_1 hz1_2 hz2_0 hz2_1 hz2_2 hz3_0 hz3_1 hz3_2
  try clear hy0_0
  try clear hy0_1
  try clear hy0_2
  try clear hy1_0
  try clear hy1_1
  try clear hy1_2
  try clear hy2_0
  try clear hy2_1
  try clear hy2_2
  try clear hy3_0
  try clear hy3_1
  try clear hy3_2
  have hz0_0 := (qd BK0.out 0).trans rfl
  have hz0_1 := (qd BK0.out 1).trans rfl
  have hz0_2 := (qd BK0.out 2).trans rfl
  have hz1_0 := (qd BK1.out 0).trans rfl
  have hz1_1 := (qd BK1.out 1).trans rfl
  have hz1_2 := (qd BK1.out 2).trans rfl
  have hz2_0 := (qd BK2.out 0).trans rfl
  have hz2_1 := (qd BK2.out 1).trans rfl
  have hz2_2 := (qd BK2.out 2).trans rfl
  have hz3_0 := (qd BK3.out 0).trans rfl
  have hz3_1 := (qd BK3.out 1).trans rfl
  have hz3_2 := (qd BK3.out 2).trans rfl
  go_wp2_with fail
  (with_reducible refine (laws_markDisk.calls k (fun k_ => some k_ = (.slice AG0_0 g_0.length cG0_0 : Value).ownBlock) _ g_0 (fun k_ => some k_ = (.slice AG0_1 g_1.length cG0_1 : Value).ownBlock) _ g_1 (fun k_ => some k_ = (.slice AG0_2 g_2.length cG0_2 : Value).ownBlock) _ g_2 1 q0 N0_0 N0_1 N0_2 w _ ?side1 ?side2 ?side3 ?side4 ?side5 ?side6 A11.out).mono ?_)
  case side1 => exact yq144
  case side2 => exact Kd.R_tight rfl yq150
  case side3 => exact fun k_ h0_ h1_ => APG0_0_G0_1.out k_ h0_.symm h1_.symm
  case side4 => exact Kd.R_tight rfl yq149
  case side5 => exact fun k_ h0_ h1_ => APG0_1_G0_0.out k_ h0_.symm h1_.symm
  case side6 => exact Kd.R_tight rfl yq148
  rintro e w20 ⟨rfl, hR0, hR1, hR2, hB2, hK2⟩
  have N20 := Qz.mk (show w19.heap.size ≤ w20.heap.size from hK2.1)
  have Q0 := Qz.mk (fun (k_ : Nat) (h_ : some k_ = (.slice AG0_0 g_0.length cG0_0 : Value).ownBlock) => HG0_0.out.1 k_ h_.symm)
  have Q1 := Qz.mk (fun (k_ : Nat) (h_ : some k_ = (.slice AG0_1 g_1.length cG0_1 : Value).ownBlock) => HG0_1.out.1 k_ h_.symm)
  have Q2 := Qz.mk (fun (k_ : Nat) (h_ : some k_ = (.slice AG0_2 g_2.length cG0_2 : Value).ownBlock) => HG0_2.out.1 k_ h_.symm)
  have n_ := Qz.mk (Kd.R_kept yq147 hK2 (fun k_ h1_ h2_ => by (rcases h2_ with h2_ | h2_ | h2_ <;> first | (have q_ := Q0.out _ h2_; have := NB.out; have := N1.out; have := N2.out; have := N3.out; have := N4.out; have := N5.out; have := N6.out; have := N7.out; have := N8.out; have := N9.out; have := N10.out; have := N11.out; have := N12.out; have := N13.out; have := N14.out; have := N15.out; have := N16.out; have := N17.out; have := N18.out; have := N19.out; have := N20.out; omega) | (have q_ := Q1.out _ h2_; have := NB.out; have := N1.out; have := N2.out; have := N3.out; have := N4.out; have := N5.out; have := N6.out; have := N7.out; have := N8.out; have := N9.out; have := N10.out; have := N11.out; have := N12.out; have := N13.out; have := N14.out; have := N15.out; have := N16.out; have := N17.out; have := N18.out; have := N19.out; have := N20.out; omega) | (have q_ := Q2.out _ h2_; have := NB.out; have := N1.out; have := N2.out; have := N3.out; have := N4.out; have := N5.out; have := N6.out; have := N7.out; have := N8.out; have := N9.out; have := N10.out; have := N11.out; have := N12.out; have := N13.out; have := N14.out; have := N15.out; have := N16.out; have := N17.out; have := N18.out; have := N19.out; have := N20.out; omega)))); clear HW0_0; have HW0_0 := n_; clear n_
  have n_ := Qz.mk (Kd.R_kept yq146 hK2 (fun k_ h1_ h2_ => by (rcases h2_ with h2_ | h2_ | h2_ <;> first | (have q_ := Q0.out _ h2_; have := NB.out; have := N1.out; have := N2.out; have := N3.out; have := N4.out; have := N5.out; have := N6.out; have := N7.out; have := N8.out; have := N9.out; have := N10.out; have := N11.out; have := N12.out; have := N13.out; have := N14.out; have := N15.out; have := N16.out; have := N17.out; have := N18.out; have := N19.out; have := N20.out; omega) | (have q_ := Q1.out _ h2_; have := NB.out; have := N1.out; have := N2.out; have := N3.out; have := N4.out; have := N5.out; have := N6.out; have := N7.out; have := N8.out; have := N9.out; have := N10.out; have := N11.out; have := N12.out; have := N13.out; have := N14.out; have := N15.out; have := N16.out; have := N17.out; have := N18.out; have := N19.out; have := N20.out; omega) | (have q_ := Q2.out _ h2_; have := NB.out; have := N1.out; have := N2.out; have := N3.out; have := N4.out; have := N5.out; have := N6.out; have := N7.out; have := N8.out; have := N9.out; have := N10.out; have := N11.out; have := N12.out; have := N13.out; have := N14.out; have := N15.out; have := N16.out; have := N17.out; have := N18.out; have := N19.out; have := N20.out; omega)))); clear HW0_1; have HW0_1 := n_; clear n_
  have n_ := Qz.mk (Kd.R_kept yq145 hK2 (fun k_ h1_ h2_ => by (rcases h2_ with h2_ | h2_ | h2_ <;> first | (have q_ := Q0.out _ h2_; have := NB.out; have := N1.out; have := N2.out; have := N3.out; have := N4.out; have := N5.out; have := N6.out; have := N7.out; have := N8.out; have := N9.out; have := N10.out; have := N11.out; have := N12.out; have := N13.out; have := N14.out; have := N15.out; have := N16.out; have := N17.out; have := N18.out; have := N19.out; have := N20.out; omega) | (have q_ := Q1.out _ h2_; have := NB.out; have := N1.out; have := N2.out; have := N3.out; have := N4.out; have := N5.out; have := N6.out; have := N7.out; have := N8.out; have := N9.out; have := N10.out; have := N11.out; have := N12.out; have := N13.out; have := N14.out; have := N15.out; have := N16.out; have := N17.out; have := N18.out; have := N19.out; have := N20.out; omega) | (have q_ := Q2.out _ h2_; have := NB.out; have := N1.out; have := N2.out; have := N3.out; have := N4.out; have := N5.out; have := N6.out; have := N7.out; have := N8.out; have := N9.out; have := N10.out; have := N11.out; have := N12.out; have := N13.out; have := N14.out; have := N15.out; have := N16.out; have := N17.out; have := N18.out; have := N19.out; have := N20.out; omega)))); clear HW0_2; have HW0_2 := n_; clear n_
  clear HG0_0; have HG0_0 := Qz.mk (Kd.R_reok (ok := fun k_ => w9.heap.size ≤ k_ ∧ k_ < w10.heap.size) rfl hR0 (fun k_ hk_ => Q0.out k_ hk_.symm))
  obtain ⟨A_, c_, e_⟩ := Kd.R_slice HG0_0.out; injection e_ with e1_ e2_ e3_; clear e1_ e3_; have LG0_0 := Qz.mk e2_; clear e2_
  clear HG0_1; have HG0_1 := Qz.mk (Kd.R_reok (ok := fun k_ => w9.heap.size ≤ k_ ∧ k_ < w10.heap.size) rfl hR1 (fun k_ hk_ => Q1.out k_ hk_.symm))
  obtain ⟨A_, c_, e_⟩ := Kd.R_slice HG0_1.out; injection e_ with e1_ e2_ e3_; clear e1_ e3_; have LG0_1 := Qz.mk e2_; clear e2_
  clear HG0_2; have HG0_2 := Qz.mk (Kd.R_reok (ok := fun k_ => w9.heap.size ≤ k_ ∧ k_ < w10.heap.size) rfl hR2 (fun k_ hk_ => Q2.out k_ hk_.symm))
  obtain ⟨A_, c_, e_⟩ := Kd.R_slice HG0_2.out; injection e_ with e1_ e2_ e3_; clear e1_ e3_; have LG0_2 := Qz.mk e2_; clear e2_
  have n_ := Qz.mk (blk_kept BK0.out hK2 (fun h2_ => by (rcases h2_ with h2_ | h2_ | h2_ <;> first | (have q_ := Q0.out _ h2_; have := NB.out; have := N1.out; have := N2.out; have := N3.out; have := N4.out; have := N5.out; have := N6.out; have := N7.out; have := N8.out; have := N9.out; have := N10.out; have := N11.out; have := N12.out; have := N13.out; have := N14.out; have := N15.out; have := N16.out; have := N17.out; have := N18.out; have := N19.out; have := N20.out; omega) | (have q_ := Q1.out _ h2_; have := NB.out; have := N1.out; have := N2.out; have := N3.out; have := N4.out; have := N5.out; have := N6.out; have := N7.out; have := N8.out; have := N9.out; have := N10.out; have := N11.out; have := N12.out; have := N13.out; have := N14.out; have := N15.out; have := N16.out; have := N17.out; have := N18.out; have := N19.out; have := N20.out; omega) | (have q_ := Q2.out _ h2_; have := NB.out; have := N1.out; have := N2.out; have := N3.out; have := N4.out; have := N5.out; have := N6.out; have := N7.out; have := N8.out; have := N9.out; have := N10.out; have := N11.out; have := N12.out; have := N13.out; have := N14.out; have := N15.out; have := N16.out; have := N17.out; have := N18.out; have := N19.out; have := N20.out; omega)))); clear BK0; have BK0 := n_; clear n_
  have n_ := Qz.mk (blk_kept BK1.out hK2 (fun h2_ => by (rcases h2_ with h2_ | h2_ | h2_ <;> first | (have q_ := Q0.out _ h2_; have := NB.out; have := N1.out; have := N2.out; have := N3.out; have := N4.out; have := N5.out; have := N6.out; have := N7.out; have := N8.out; have := N9.out; have := N10.out; have := N11.out; have := N12.out; have := N13.out; have := N14.out; have := N15.out; have := N16.out; have := N17.out; have := N18.out; have := N19.out; have := N20.out; omega) | (have q_ := Q1.out _ h2_; have := NB.out; have := N1.out; have := N2.out; have := N3.out; have := N4.out; have := N5.out; have := N6.out; have := N7.out; have := N8.out; have := N9.out; have := N10.out; have := N11.out; have := N12.out; have := N13.out; have := N14.out; have := N15.out; have := N16.out; have := N17.out; have := N18.out; have := N19.out; have := N20.out; omega) | (have q_ := Q2.out _ h2_; have := NB.out; have := N1.out; have := N2.out; have := N3.out; have := N4.out; have := N5.out; have := N6.out; have := N7.out; have := N8.out; have := N9.out; have := N10.out; have := N11.out; have := N12.out; have := N13.out; have := N14.out; have := N15.out; have := N16.out; have := N17.out; have := N18.out; have := N19.out; have := N20.out; omega)))); clear BK1; have BK1 := n_; clear n_
  have n_ := Qz.mk (blk_kept BK2.out hK2 (fun h2_ => by (rcases h2_ with h2_ | h2_ | h2_ <;> first | (have q_ := Q0.out _ h2_; have := NB.out; have := N1.out; have := N2.out; have := N3.out; have := N4.out; have := N5.out; have := N6.out; have := N7.out; have := N8.out; have := N9.out; have := N10.out; have := N11.out; have := N12.out; have := N13.out; have := N14.out; have := N15.out; have := N16.out; have := N17.out; have := N18.out; have := N19.out; have := N20.out; omega) | (have q_ := Q1.out _ h2_; have := NB.out; have := N1.out; have := N2.out; have := N3.out; have := N4.out; have := N5.out; have := N6.out; have := N7.out; have := N8.out; have := N9.out; have := N10.out; have := N11.out; have := N12.out; have := N13.out; have := N14.out; have := N15.out; have := N16.out; have := N17.out; have := N18.out; have := N19.out; have := N20.out; omega) | (have q_ := Q2.out _ h2_; have := NB.out; have := N1.out; have := N2.out; have := N3.out; have := N4.out; have := N5.out; have := N6.out; have := N7.out; have := N8.out; have := N9.out; have := N10.out; have := N11.out; have := N12.out; have := N13.out; have := N14.out; have := N15.out; have := N16.out; have := N17.out; have := N18.out; have := N19.out; have := N20.out; omega)))); clear BK2; have BK2 := n_; clear n_
  have n_ := Qz.mk (blk_kept BK3.out hK2 (fun h2_ => by (rcases h2_ with h2_ | h2_ | h2_ <;> first | (have q_ := Q0.out _ h2_; have := NB.out; have := N1.out; have := N2.out; have := N3.out; have := N4.out; have := N5.out; have := N6.out; have := N7.out; have := N8.out; have := N9.out; have := N10.out; have := N11.out; have := N12.out; have := N13.out; have := N14.out; have := N15.out; have := N16.out; have := N17.out; have := N18.out; have := N19.out; have := N20.out; omega) | (have q_ := Q1.out _ h2_; have := NB.out; have := N1.out; have := N2.out; have := N3.out; have := N4.out; have := N5.out; have := N6.out; have := N7.out; have := N8.out; have := N9.out; have := N10.out; have := N11.out; have := N12.out; have := N13.out; have := N14.out; have := N15.out; have := N16.out; have := N17.out; have := N18.out; have := N19.out; have := N20.out; omega) | (have q_ := Q2.out _ h2_; have := NB.out; have := N1.out; have := N2.out; have := N3.out; have := N4.out; have := N5.out; have := N6.out; have := N7.out; have := N8.out; have := N9.out; have := N10.out; have := N11.out; have := N12.out; have := N13.out; have := N14.out; have := N15.out; have := N16.out; have := N17.out; have := N18.out; have := N19.out; have := N20.out; omega)))); clear BK3; have BK3 := n_; clear n_
  clear HB; have HB := Qz.mk hB2; clear hB2 hK2 hR0 hR1 hR2 Q0 Q1 Q2
  try clear hz0_0 hz0_1 hz0_2 hz1_0 hz1_1 hz1_2 hz2_0 hz2_1 hz2_2 hz3_0 hz3_1 hz3_2
  try clear hy0_0
  try clear hy0_1
  try clear hy0_2
  try clear hy1_0
  try clear hy1_1
  try clear hy1_2
  try clear hy2_0
  try clear hy2_1
  try clear hy2_2
  try clear hy3_0
  try clear hy3_1
  try clear hy3_2
  have hz0_0 := (qd BK0.out 0).trans rfl
  have hz0_1 := (qd BK0.out 1).trans rfl
  have hz0_2 := (qd BK0.out 2).trans rfl
  have hz1_0 := (qd BK1.out 0).trans rfl
  have hz1_1 := (qd BK1.out 1).trans rfl
  have hz1_2 := (qd BK1.out 2).trans rfl
  have hz2_0 := (qd BK2.out 0).trans rfl
  have hz2_1 := (qd BK2.out 1).trans rfl
  have hz2_2 := (qd BK2.out 2).trans rfl
  have hz3_0 := (qd BK3.out 0).trans rfl
  have hz3_1 := (qd BK3.out 1).trans rfl
  have hz3_2 := (qd BK3.out 2).trans rfl
  go_wp2_with fail
  try rw [LG0_0.out]
  try rw [LG0_1.out]
  try rw [LG0_2.out]
  (with_reducible refine (laws_heldDisk.calls k _ _ N0_0 _ _ N0_1 _ _ N0_2 1 q0 _ ?side1 ?side2 ?side3 ?side4 ?side5 ?side6 A12.out).mono ?_)
  case side1 => repeat (first | exact (Kd.R_reads' HG0_0.out).2.2 | (with_reducible refine Kd.C_alloc ?_ _) | (with_reducible refine Kd.C_drewN ?_ _) | (with_reducible refine Kd.C_drew ?_))
  case side2 => have l_ := (Kd.R_reads' HG0_0.out).2.1; rw [LG0_0.out] at l_; exact l_
  case side3 => repeat (first | exact (Kd.R_reads' HG0_1.out).2.2 | (with_reducible refine Kd.C_alloc ?_ _) | (with_reducible refine Kd.C_drewN ?_ _) | (with_reducible refine Kd.C_drew ?_))
  case side4 => have l_ := (Kd.R_reads' HG0_1.out).2.1; rw [LG0_1.out] at l_; exact l_
  case side5 => repeat (first | exact (Kd.R_reads' HG0_2.out).2.2 | (with_reducible refine Kd.C_alloc ?_ _) | (with_reducible refine Kd.C_drewN ?_ _) | (with_reducible refine Kd.C_drew ?_))
  case side6 => have l_ := (Kd.R_reads' HG0_2.out).2.1; rw [LG0_2.out] at l_; exact l_
  rintro e w21 ⟨rfl, hb⟩
  have N21 := Qz.mk (show w20.heap.size ≤ w21.heap.size from by first | exact hb.size | exact Nat.le_trans (by simp) hb.size)
  have n_ := Qz.mk (Kd.R_below yq147 hb); clear HW0_0; have HW0_0 := n_; clear n_
  have n_ := Qz.mk (Kd.R_below yq146 hb); clear HW0_1; have HW0_1 := n_; clear n_
  have n_ := Qz.mk (Kd.R_below yq145 hb); clear HW0_2; have HW0_2 := n_; clear n_
  have n_ := Qz.mk (Kd.R_below yq150 hb); clear HG0_0; have HG0_0 := n_; clear n_
  have n_ := Qz.mk (Kd.R_below yq149 hb); clear HG0_1; have HG0_1 := n_; clear n_
  have n_ := Qz.mk (Kd.R_below yq148 hb); clear HG0_2; have HG0_2 := n_; clear n_
  have n_ := Qz.mk (qq BK0.out hb); clear BK0; have BK0 := n_; clear n_
  have n_ := Qz.mk (qq BK1.out hb); clear BK1; have BK1 := n_; clear n_
  have n_ := Qz.mk (qq BK2.out hb); clear BK2; have BK2 := n_; clear n_
  have n_ := Qz.mk (qq BK3.out hb); clear BK3; have BK3 := n_; clear n_
  have n_ := Qz.mk (ql yq144 hb); clear HB; have HB := n_; clear n_ hb
  try clear hz0_0 hz0_1 hz0_2 hz1_0 hz1_1 hz1_2 hz2_0 hz2_1 hz2_2 hz3_0 hz3_1 hz3_2
  try clear hy0_0
  try clear hy0_1
  try clear hy0_2
  try clear hy1_0
  try clear hy1_1
  try clear hy1_2
  try clear hy2_0
  try clear hy2_1
  try clear hy2_2
  try clear hy3_0
  try clear hy3_1
  try clear hy3_2
  have hz0_0 := (qd BK0.out 0).trans rfl
  have hz0_1 := (qd BK0.out 1).trans rfl
  have hz0_2 := (qd BK0.out 2).trans rfl
  have hz1_0 := (qd BK1.out 0).trans rfl
  have hz1_1 := (qd BK1.out 1).trans rfl
  have hz1_2 := (qd BK1.out 2).trans rfl
  have hz2_0 := (qd BK2.out 0).trans rfl
  have hz2_1 := (qd BK2.out 1).trans rfl
  have hz2_2 := (qd BK2.out 2).trans rfl
  have hz3_0 := (qd BK3.out 0).trans rfl
  have hz3_1 := (qd BK3.out 1).trans rfl
  have hz3_2 := (qd BK3.out 2).trans rfl
  go_wp2_with fail
  (with_reducible refine (laws_toDisk.calls k _ _ l0_0 _ _ l0_1 _ _ l0_2 T0_0 T0_1 T0_2 _ ?side1 ?side2 ?side3 ?side4 ?side5 ?side6 A2.out).mono ?_)
  case side1 => repeat (first | exact (Kd.C_below HR0_0.out HB.out) | (with_reducible refine Kd.C_alloc ?_ _) | (with_reducible refine Kd.C_drewN ?_ _) | (with_reducible refine Kd.C_drew ?_))
  case side2 => exact HC0_0.out
  case side3 => repeat (first | exact (Kd.C_below HR0_1.out HB.out) | (with_reducible refine Kd.C_alloc ?_ _) | (with_reducible refine Kd.C_drewN ?_ _) | (with_reducible refine Kd.C_drew ?_))
  case side4 => exact HC0_1.out
  case side5 => repeat (first | exact (Kd.C_below HR0_2.out HB.out) | (with_reducible refine Kd.C_alloc ?_ _) | (with_reducible refine Kd.C_drewN ?_ _) | (with_reducible refine Kd.C_drew ?_))
  case side6 => exact HC0_2.out
  rintro e w22 ⟨v0_, v1_, v2_, rfl, ho0, ho1, ho2, hb⟩
  have N22 := Qz.mk (show w21.heap.size ≤ w22.heap.size from by first | exact hb.size | exact Nat.le_trans (by simp) hb.size)
  have n_ := Qz.mk (Kd.R_below yq147 hb); clear HW0_0; have HW0_0 := n_; clear n_
  have n_ := Qz.mk (Kd.R_below yq146 hb); clear HW0_1; have HW0_1 := n_; clear n_
  have n_ := Qz.mk (Kd.R_below yq145 hb); clear HW0_2; have HW0_2 := n_; clear n_
  have n_ := Qz.mk (Kd.R_below yq150 hb); clear HG0_0; have HG0_0 := n_; clear n_
  have n_ := Qz.mk (Kd.R_below yq149 hb); clear HG0_1; have HG0_1 := n_; clear n_
  have n_ := Qz.mk (Kd.R_below yq148 hb); clear HG0_2; have HG0_2 := n_; clear n_
  have APV0_0_V0_1 := Qz.mk (show ∀ k_, (v0_ : Value).ownBlock = some k_ → (v1_ : Value).ownBlock ≠ some k_ from fun k_ h0_ h1_ => ho0.1 k_ h0_ h1_.symm)
  have HV0_0 := Qz.mk (R_made (Kd.R_mono ho0 (fun _ _ => trivial)) (lo := w21.heap.size) (by first | exact Nat.le_refl _ | simp) (qo yq144))
  have APV0_1_V0_0 := Qz.mk (show ∀ k_, (v1_ : Value).ownBlock = some k_ → (v0_ : Value).ownBlock ≠ some k_ from fun k_ h0_ h1_ => ho1.1 k_ h0_ h1_.symm)
  have HV0_1 := Qz.mk (R_made (Kd.R_mono ho1 (fun _ _ => trivial)) (lo := w21.heap.size) (by first | exact Nat.le_refl _ | simp) (qo yq144))
  have HV0_2 := Qz.mk (R_made ho2 (lo := w21.heap.size) (by first | exact Nat.le_refl _ | simp) (qo yq144))
  have n_ := Qz.mk (qq BK0.out hb); clear BK0; have BK0 := n_; clear n_
  have n_ := Qz.mk (qq BK1.out hb); clear BK1; have BK1 := n_; clear n_
  have n_ := Qz.mk (qq BK2.out hb); clear BK2; have BK2 := n_; clear n_
  have n_ := Qz.mk (qq BK3.out hb); clear BK3; have BK3 := n_; clear n_
  have n_ := Qz.mk (ql yq144 hb); clear HB; have HB := n_; clear n_ hb ho0 ho1 ho2
  obtain ⟨AV0_0, cV0_0, eV0_0⟩ := Kd.R_slice HV0_0.out; subst eV0_0
  obtain ⟨AV0_1, cV0_1, eV0_1⟩ := Kd.R_slice HV0_1.out; subst eV0_1
  obtain ⟨AV0_2, cV0_2, eV0_2⟩ := Kd.R_slice HV0_2.out; subst eV0_2
  try clear hz0_0 hz0_1 hz0_2 hz1_0 hz1_1 hz1_2 hz2_0 hz2_1 hz2_2 hz3_0 hz3_1 hz3_2
  try clear hy0_0
  try clear hy0_1
  try clear hy0_2
  try clear hy1_0
  try clear hy1_1
  try clear hy1_2
  try clear hy2_0
  try clear hy2_1
  try clear hy2_2
  try clear hy3_0
  try clear hy3_1
  try clear hy3_2
  have hz0_0 := (qd BK0.out 0).trans rfl
  have hz0_1 := (qd BK0.out 1).trans rfl
  have hz0_2 := (qd BK0.out 2).trans rfl
  have hz1_0 := (qd BK1.out 0).trans rfl
  have hz1_1 := (qd BK1.out 1).trans rfl
  have hz1_2 := (qd BK1.out 2).trans rfl
  have hz2_0 := (qd BK2.out 0).trans rfl
  have hz2_1 := (qd BK2.out 1).trans rfl
  have hz2_2 := (qd BK2.out 2).trans rfl
  have hz3_0 := (qd BK3.out 0).trans rfl
  have hz3_1 := (qd BK3.out 1).trans rfl
  have hz3_2 := (qd BK3.out 2).trans rfl
  go_wp2_with fail
  (with_reducible refine (laws_toInt64S.calls k _ _ l1 T1_0 _ ?side1 ?side2 A3.out).mono ?_)
  case side1 => repeat (first | exact (Kd.C_below HR1.out HB.out) | (with_reducible refine Kd.C_alloc ?_ _) | (with_reducible refine Kd.C_drewN ?_ _) | (with_reducible refine Kd.C_drew ?_))
  case side2 => exact HC1.out
  rintro e w23 ⟨v0_, rfl, ho0, hb⟩
  have N23 := Qz.mk (show w22.heap.size ≤ w23.heap.size from by first | exact hb.size | exact Nat.le_trans (by simp) hb.size)
  have n_ := Qz.mk (Kd.R_below yq147 hb); clear HW0_0; have HW0_0 := n_; clear n_
  have n_ := Qz.mk (Kd.R_below yq146 hb); clear HW0_1; have HW0_1 := n_; clear n_
  have n_ := Qz.mk (Kd.R_below yq145 hb); clear HW0_2; have HW0_2 := n_; clear n_
  have n_ := Qz.mk (Kd.R_below yq150 hb); clear HG0_0; have HG0_0 := n_; clear n_
  have n_ := Qz.mk (Kd.R_below yq149 hb); clear HG0_1; have HG0_1 := n_; clear n_
  have n_ := Qz.mk (Kd.R_below yq148 hb); clear HG0_2; have HG0_2 := n_; clear n_
  have n_ := Qz.mk (Kd.R_below (by (with_reducible repeat (first | apply Kd.R_alloc | apply Kd.R_drewN | apply Kd.R_drew)); exact HV0_0.out) hb); clear HV0_0; have HV0_0 := n_; clear n_
  have n_ := Qz.mk (Kd.R_below (by (with_reducible repeat (first | apply Kd.R_alloc | apply Kd.R_drewN | apply Kd.R_drew)); exact HV0_1.out) hb); clear HV0_1; have HV0_1 := n_; clear n_
  have n_ := Qz.mk (Kd.R_below (by (with_reducible repeat (first | apply Kd.R_alloc | apply Kd.R_drewN | apply Kd.R_drew)); exact HV0_2.out) hb); clear HV0_2; have HV0_2 := n_; clear n_
  have HV1_0 := Qz.mk (R_made ho0 (lo := w22.heap.size) (by first | exact Nat.le_refl _ | simp) (qo yq144))
  have n_ := Qz.mk (qq BK0.out hb); clear BK0; have BK0 := n_; clear n_
  have n_ := Qz.mk (qq BK1.out hb); clear BK1; have BK1 := n_; clear n_
  have n_ := Qz.mk (qq BK2.out hb); clear BK2; have BK2 := n_; clear n_
  have n_ := Qz.mk (qq BK3.out hb); clear BK3; have BK3 := n_; clear n_
  have n_ := Qz.mk (ql yq144 hb); clear HB; have HB := n_; clear n_ hb ho0
  obtain ⟨AV1_0, cV1_0, eV1_0⟩ := Kd.R_slice HV1_0.out; subst eV1_0
  try clear hz0_0 hz0_1 hz0_2 hz1_0 hz1_1 hz1_2 hz2_0 hz2_1 hz2_2 hz3_0 hz3_1 hz3_2
  try clear hy0_0
  try clear hy0_1
  try clear hy0_2
  try clear hy1_0
  try clear hy1_1
  try clear hy1_2
  try clear hy2_0
  try clear hy2_1
  try clear hy2_2
  try clear hy3_0
  try clear hy3_1
  try clear hy3_2
  have hz0_0 := (qd BK0.out 0).trans rfl
  have hz0_1 := (qd BK0.out 1).trans rfl
  have hz0_2 := (qd BK0.out 2).trans rfl
  have hz1_0 := (qd BK1.out 0).trans rfl
  have hz1_1 := (qd BK1.out 1).trans rfl
  have hz1_2 := (qd BK1.out 2).trans rfl
  have hz2_0 := (qd BK2.out 0).trans rfl
  have hz2_1 := (qd BK2.out 1).trans rfl
  have hz2_2 := (qd BK2.out 2).trans rfl
  have hz3_0 := (qd BK3.out 0).trans rfl
  have hz3_1 := (qd BK3.out 1).trans rfl
  have hz3_2 := (qd BK3.out 2).trans rfl
  go_wp2_with fail
  (with_reducible refine (impl_Crash.calls k _ _ T0_0 _ _ T0_1 _ _ T0_2 _ _ T1_0 a2 g_0 g_1 g_2 g_3 _ ?side1 ?side2 ?side3 ?side4 ?side5 ?side6 ?side7 ?side8 A5.out).mono ?_)
  case side1 => repeat (first | exact (Kd.R_reads' HV0_0.out).2.2 | (with_reducible refine Kd.C_alloc ?_ _) | (with_reducible refine Kd.C_drewN ?_ _) | (with_reducible refine Kd.C_drew ?_))
  case side2 => exact (Kd.R_reads' HV0_0.out).2.1
  case side3 => repeat (first | exact (Kd.R_reads' HV0_1.out).2.2 | (with_reducible refine Kd.C_alloc ?_ _) | (with_reducible refine Kd.C_drewN ?_ _) | (with_reducible refine Kd.C_drew ?_))
  case side4 => exact (Kd.R_reads' HV0_1.out).2.1
  case side5 => repeat (first | exact (Kd.R_reads' HV0_2.out).2.2 | (with_reducible refine Kd.C_alloc ?_ _) | (with_reducible refine Kd.C_drewN ?_ _) | (with_reducible refine Kd.C_drew ?_))
  case side6 => exact (Kd.R_reads' HV0_2.out).2.1
  case side7 => repeat (first | exact (Kd.R_reads' HV1_0.out).2.2 | (with_reducible refine Kd.C_alloc ?_ _) | (with_reducible refine Kd.C_drewN ?_ _) | (with_reducible refine Kd.C_drew ?_))
  case side8 => exact (Kd.R_reads' HV1_0.out).2.1
  rintro e w24 ⟨v0_, v1_, v2_, rfl, ho0, ho1, ho2, hb⟩
  have N24 := Qz.mk (show w23.heap.size ≤ w24.heap.size from by first | exact hb.size | exact Nat.le_trans (by simp) hb.size)
  have n_ := Qz.mk (Kd.R_below yq147 hb); clear HW0_0; have HW0_0 := n_; clear n_
  have n_ := Qz.mk (Kd.R_below yq146 hb); clear HW0_1; have HW0_1 := n_; clear n_
  have n_ := Qz.mk (Kd.R_below yq145 hb); clear HW0_2; have HW0_2 := n_; clear n_
  have n_ := Qz.mk (Kd.R_below yq150 hb); clear HG0_0; have HG0_0 := n_; clear n_
  have n_ := Qz.mk (Kd.R_below yq149 hb); clear HG0_1; have HG0_1 := n_; clear n_
  have n_ := Qz.mk (Kd.R_below yq148 hb); clear HG0_2; have HG0_2 := n_; clear n_
  have n_ := Qz.mk (Kd.R_below (by (with_reducible repeat (first | apply Kd.R_alloc | apply Kd.R_drewN | apply Kd.R_drew)); exact HV0_0.out) hb); clear HV0_0; have HV0_0 := n_; clear n_
  have n_ := Qz.mk (Kd.R_below (by (with_reducible repeat (first | apply Kd.R_alloc | apply Kd.R_drewN | apply Kd.R_drew)); exact HV0_1.out) hb); clear HV0_1; have HV0_1 := n_; clear n_
  have n_ := Qz.mk (Kd.R_below (by (with_reducible repeat (first | apply Kd.R_alloc | apply Kd.R_drewN | apply Kd.R_drew)); exact HV0_2.out) hb); clear HV0_2; have HV0_2 := n_; clear n_
  have n_ := Qz.mk (Kd.R_below (by (with_reducible repeat (first | apply Kd.R_alloc | apply Kd.R_drewN | apply Kd.R_drew)); exact HV1_0.out) hb); clear HV1_0; have HV1_0 := n_; clear n_
  have APH0_0_H0_1 := Qz.mk (show ∀ k_, (v0_ : Value).ownBlock = some k_ → (v1_ : Value).ownBlock ≠ some k_ from fun k_ h0_ h1_ => ho0.1 k_ h0_ h1_.symm)
  have HH0_0 := Qz.mk (R_made (Kd.R_mono ho0 (fun _ _ => trivial)) (lo := w23.heap.size) (by first | exact Nat.le_refl _ | simp) (qo yq144))
  have APH0_1_H0_0 := Qz.mk (show ∀ k_, (v1_ : Value).ownBlock = some k_ → (v0_ : Value).ownBlock ≠ some k_ from fun k_ h0_ h1_ => ho1.1 k_ h0_ h1_.symm)
  have HH0_1 := Qz.mk (R_made (Kd.R_mono ho1 (fun _ _ => trivial)) (lo := w23.heap.size) (by first | exact Nat.le_refl _ | simp) (qo yq144))
  have HH0_2 := Qz.mk (R_made ho2 (lo := w23.heap.size) (by first | exact Nat.le_refl _ | simp) (qo yq144))
  have n_ := Qz.mk (qq BK0.out hb); clear BK0; have BK0 := n_; clear n_
  have n_ := Qz.mk (qq BK1.out hb); clear BK1; have BK1 := n_; clear n_
  have n_ := Qz.mk (qq BK2.out hb); clear BK2; have BK2 := n_; clear n_
  have n_ := Qz.mk (qq BK3.out hb); clear BK3; have BK3 := n_; clear n_
  have n_ := Qz.mk (ql yq144 hb); clear HB; have HB := n_; clear n_ hb ho0 ho1 ho2
  obtain ⟨AH0_0, cH0_0, eH0_0⟩ := Kd.R_slice HH0_0.out; subst eH0_0
  obtain ⟨AH0_1, cH0_1, eH0_1⟩ := Kd.R_slice HH0_1.out; subst eH0_1
  obtain ⟨AH0_2, cH0_2, eH0_2⟩ := Kd.R_slice HH0_2.out; subst eH0_2
  try clear hz0_0 hz0_1 hz0_2 hz1_0 hz1_1 hz1_2 hz2_0 hz2_1 hz2_2 hz3_0 hz3_1 hz3_2
  try clear hy0_0
  try clear hy0_1
  try clear hy0_2
  try clear hy1_0
  try clear hy1_1
  try clear hy1_2
  try clear hy2_0
  try clear hy2_1
  try clear hy2_2
  try clear hy3_0
  try clear hy3_1
  try clear hy3_2
  have hz0_0 := (qd BK0.out 0).trans rfl
  have hz0_1 := (qd BK0.out 1).trans rfl
  have hz0_2 := (qd BK0.out 2).trans rfl
  have hz1_0 := (qd BK1.out 0).trans rfl
  have hz1_1 := (qd BK1.out 1).trans rfl
  have hz1_2 := (qd BK1.out 2).trans rfl
  have hz2_0 := (qd BK2.out 0).trans rfl
  have hz2_1 := (qd BK2.out 1).trans rfl
  have hz2_2 := (qd BK2.out 2).trans rfl
  have hz3_0 := (qd BK3.out 0).trans rfl
  have hz3_1 := (qd BK3.out 1).trans rfl
  have hz3_2 := (qd BK3.out 2).trans rfl
  have hy0_0 := fun o => (qd (qg BK0.out o) 0).trans rfl
  have hy0_1 := fun o => (qd (qg BK0.out o) 1).trans rfl
  have hy0_2 := fun o => (qd (qg BK0.out o) 2).trans rfl
  have hy1_0 := fun o => (qd (qg BK1.out o) 0).trans rfl
  have hy1_1 := fun o => (qd (qg BK1.out o) 1).trans rfl
  have hy1_2 := fun o => (qd (qg BK1.out o) 2).trans rfl
  have hy2_0 := fun o => (qd (qg BK2.out o) 0).trans rfl
  have hy2_1 := fun o => (qd (qg BK2.out o) 1).trans rfl
  have hy2_2 := fun o => (qd (qg BK2.out o) 2).trans rfl
  have hy3_0 := fun o => (qd (qg BK3.out o) 0).trans rfl
  have hy3_1 := fun o => (qd (qg BK3.out o) 1).trans rfl
  have hy3_2 := fun o => (qd (qg BK3.out o) 2).trans rfl
  clear HV0_0
  clear HV0_1
  clear HV0_2
  clear HV1_0
  go_wp2_with fail
  have BK4 := Qz.mk (blk_new w24 (.cells #[.slice AH0_0 g_0.length cH0_0, .slice AH0_1 g_1.length cH0_1, .slice AH0_2 g_2.length cH0_2] 85))
  have n_ := Qz.mk (qg BK0.out (.cells #[.slice AH0_0 g_0.length cH0_0, .slice AH0_1 g_1.length cH0_1, .slice AH0_2 g_2.length cH0_2] 85)); clear BK0; have BK0 := n_; clear n_
  have n_ := Qz.mk (qg BK1.out (.cells #[.slice AH0_0 g_0.length cH0_0, .slice AH0_1 g_1.length cH0_1, .slice AH0_2 g_2.length cH0_2] 85)); clear BK1; have BK1 := n_; clear n_
  have n_ := Qz.mk (qg BK2.out (.cells #[.slice AH0_0 g_0.length cH0_0, .slice AH0_1 g_1.length cH0_1, .slice AH0_2 g_2.length cH0_2] 85)); clear BK2; have BK2 := n_; clear n_
  have n_ := Qz.mk (qg BK3.out (.cells #[.slice AH0_0 g_0.length cH0_0, .slice AH0_1 g_1.length cH0_1, .slice AH0_2 g_2.length cH0_2] 85)); clear BK3; have BK3 := n_; clear n_
  have n_ := Qz.mk (Kd.R_alloc HW0_0.out (.cells #[.slice AH0_0 g_0.length cH0_0, .slice AH0_1 g_1.length cH0_1, .slice AH0_2 g_2.length cH0_2] 85)); clear HW0_0; have HW0_0 := n_; clear n_
  have n_ := Qz.mk (Kd.R_alloc HW0_1.out (.cells #[.slice AH0_0 g_0.length cH0_0, .slice AH0_1 g_1.length cH0_1, .slice AH0_2 g_2.length cH0_2] 85)); clear HW0_1; have HW0_1 := n_; clear n_
  have n_ := Qz.mk (Kd.R_alloc HW0_2.out (.cells #[.slice AH0_0 g_0.length cH0_0, .slice AH0_1 g_1.length cH0_1, .slice AH0_2 g_2.length cH0_2] 85)); clear HW0_2; have HW0_2 := n_; clear n_
  have n_ := Qz.mk (Kd.R_alloc HG0_0.out (.cells #[.slice AH0_0 g_0.length cH0_0, .slice AH0_1 g_1.length cH0_1, .slice AH0_2 g_2.length cH0_2] 85)); clear HG0_0; have HG0_0 := n_; clear n_
  have n_ := Qz.mk (Kd.R_alloc HG0_1.out (.cells #[.slice AH0_0 g_0.length cH0_0, .slice AH0_1 g_1.length cH0_1, .slice AH0_2 g_2.length cH0_2] 85)); clear HG0_1; have HG0_1 := n_; clear n_
  have n_ := Qz.mk (Kd.R_alloc HG0_2.out (.cells #[.slice AH0_0 g_0.length cH0_0, .slice AH0_1 g_1.length cH0_1, .slice AH0_2 g_2.length cH0_2] 85)); clear HG0_2; have HG0_2 := n_; clear n_
  have n_ := Qz.mk (Kd.R_alloc HH0_0.out (.cells #[.slice AH0_0 g_0.length cH0_0, .slice AH0_1 g_1.length cH0_1, .slice AH0_2 g_2.length cH0_2] 85)); clear HH0_0; have HH0_0 := n_; clear n_
  have n_ := Qz.mk (Kd.R_alloc HH0_1.out (.cells #[.slice AH0_0 g_0.length cH0_0, .slice AH0_1 g_1.length cH0_1, .slice AH0_2 g_2.length cH0_2] 85)); clear HH0_1; have HH0_1 := n_; clear n_
  have n_ := Qz.mk (Kd.R_alloc HH0_2.out (.cells #[.slice AH0_0 g_0.length cH0_0, .slice AH0_1 g_1.length cH0_1, .slice AH0_2 g_2.length cH0_2] 85)); clear HH0_2; have HH0_2 := n_; clear n_
  have n_ := Qz.mk (qc HB.out (.cells #[.slice AH0_0 g_0.length cH0_0, .slice AH0_1 g_1.length cH0_1, .slice AH0_2 g_2.length cH0_2] 85)); clear HB; have HB := n_; clear n_
  have N25 := Qz.mk (show w24.heap.size < (w24.alloc (.cells #[.slice AH0_0 g_0.length cH0_0, .slice AH0_1 g_1.length cH0_1, .slice AH0_2 g_2.length cH0_2] 85)).heap.size from by simp)
  clear hz0_0 hy0_0 hz0_1 hy0_1 hz0_2 hy0_2 hz1_0 hy1_0 hz1_1 hy1_1 hz1_2 hy1_2 hz2_0 hy2_0 hz2_1 hy2_1 hz2_2 hy2_2 hz3_0 hy3_0 hz3_1 hy3_1 hz3_2 hy3_2
  generalize w24.alloc (.cells #[.slice AH0_0 g_0.length cH0_0, .slice AH0_1 g_1.length cH0_1, .slice AH0_2 g_2.length cH0_2] 85) = w25 at BK4 BK0 BK1 BK2 BK3 HW0_0 HW0_1 HW0_2 HG0_0 HG0_1 HG0_2 HH0_0 HH0_1 HH0_2 HB N25 ⊢
  (with_reducible refine (laws_eqDisk.calls k _ _ g_0 _ _ g_1 _ _ g_2 _ _ b_0 _ _ b_1 _ _ b_2 true _ ?side1 ?side2 ?side3 ?side4 ?side5 ?side6 ?side7 ?side8 ?side9 ?side10 ?side11 ?side12 A6.out).mono ?_)
  case side1 => repeat (first | exact (Kd.R_reads' HH0_0.out).2.2 | (with_reducible refine Kd.C_alloc ?_ _) | (with_reducible refine Kd.C_drewN ?_ _) | (with_reducible refine Kd.C_drew ?_))
  case side2 => exact (Kd.R_reads' HH0_0.out).2.1
  case side3 => repeat (first | exact (Kd.R_reads' HH0_1.out).2.2 | (with_reducible refine Kd.C_alloc ?_ _) | (with_reducible refine Kd.C_drewN ?_ _) | (with_reducible refine Kd.C_drew ?_))
  case side4 => exact (Kd.R_reads' HH0_1.out).2.1
  case side5 => repeat (first | exact (Kd.R_reads' HH0_2.out).2.2 | (with_reducible refine Kd.C_alloc ?_ _) | (with_reducible refine Kd.C_drewN ?_ _) | (with_reducible refine Kd.C_drew ?_))
  case side6 => exact (Kd.R_reads' HH0_2.out).2.1
  case side7 => repeat (first | exact (Kd.R_reads' HW0_0.out).2.2 | (with_reducible refine Kd.C_alloc ?_ _) | (with_reducible refine Kd.C_drewN ?_ _) | (with_reducible refine Kd.C_drew ?_))
  case side8 => exact (Kd.R_reads' HW0_0.out).2.1
  case side9 => repeat (first | exact (Kd.R_reads' HW0_1.out).2.2 | (with_reducible refine Kd.C_alloc ?_ _) | (with_reducible refine Kd.C_drewN ?_ _) | (with_reducible refine Kd.C_drew ?_))
  case side10 => exact (Kd.R_reads' HW0_1.out).2.1
  case side11 => repeat (first | exact (Kd.R_reads' HW0_2.out).2.2 | (with_reducible refine Kd.C_alloc ?_ _) | (with_reducible refine Kd.C_drewN ?_ _) | (with_reducible refine Kd.C_drew ?_))
  case side12 => exact (Kd.R_reads' HW0_2.out).2.1
  rintro e w26 ⟨rfl, hb⟩
  have N26 := Qz.mk (show w25.heap.size ≤ w26.heap.size from by first | exact hb.size | exact Nat.le_trans (by simp) hb.size)
  have n_ := Qz.mk (Kd.R_below yq147 hb); clear HW0_0; have HW0_0 := n_; clear n_
  have n_ := Qz.mk (Kd.R_below yq146 hb); clear HW0_1; have HW0_1 := n_; clear n_
  have n_ := Qz.mk (Kd.R_below yq145 hb); clear HW0_2; have HW0_2 := n_; clear n_
  have n_ := Qz.mk (Kd.R_below yq150 hb); clear HG0_0; have HG0_0 := n_; clear n_
  have n_ := Qz.mk (Kd.R_below yq149 hb); clear HG0_1; have HG0_1 := n_; clear n_
  have n_ := Qz.mk (Kd.R_below yq148 hb); clear HG0_2; have HG0_2 := n_; clear n_
  have n_ := Qz.mk (Kd.R_below (by (with_reducible repeat (first | apply Kd.R_alloc | apply Kd.R_drewN | apply Kd.R_drew)); exact HH0_0.out) hb); clear HH0_0; have HH0_0 := n_; clear n_
  have n_ := Qz.mk (Kd.R_below (by (with_reducible repeat (first | apply Kd.R_alloc | apply Kd.R_drewN | apply Kd.R_drew)); exact HH0_1.out) hb); clear HH0_1; have HH0_1 := n_; clear n_
  have n_ := Qz.mk (Kd.R_below (by (with_reducible repeat (first | apply Kd.R_alloc | apply Kd.R_drewN | apply Kd.R_drew)); exact HH0_2.out) hb); clear HH0_2; have HH0_2 := n_; clear n_
  have n_ := Qz.mk (qq BK0.out hb); clear BK0; have BK0 := n_; clear n_
  have n_ := Qz.mk (qq BK1.out hb); clear BK1; have BK1 := n_; clear n_
  have n_ := Qz.mk (qq BK2.out hb); clear BK2; have BK2 := n_; clear n_
  have n_ := Qz.mk (qq BK3.out hb); clear BK3; have BK3 := n_; clear n_
  have n_ := Qz.mk (qq BK4.out hb); clear BK4; have BK4 := n_; clear n_
  have n_ := Qz.mk (ql yq144 hb); clear HB; have HB := n_; clear n_ hb
  have hz0_0 := (qd BK0.out 0).trans rfl
  have hz0_1 := (qd BK0.out 1).trans rfl
  have hz0_2 := (qd BK0.out 2).trans rfl
  have hz1_0 := (qd BK1.out 0).trans rfl
  have hz1_1 := (qd BK1.out 1).trans rfl
  have hz1_2 := (qd BK1.out 2).trans rfl
  have hz2_0 := (qd BK2.out 0).trans rfl
  have hz2_1 := (qd BK2.out 1).trans rfl
  have hz2_2 := (qd BK2.out 2).trans rfl
  have hz3_0 := (qd BK3.out 0).trans rfl
  have hz3_1 := (qd BK3.out 1).trans rfl
  have hz3_2 := (qd BK3.out 2).trans rfl
  have hz4_0 := (qd BK4.out 0).trans rfl
  have hz4_1 := (qd BK4.out 1).trans rfl
  have hz4_2 := (qd BK4.out 2).trans rfl
  go_wp2_with fail
  try rw [LG0_0.out]
  try rw [LG0_1.out]
  try rw [LG0_2.out]
  (with_reducible refine (laws_heldDisk.calls k _ _ N0_0 _ _ N0_1 _ _ N0_2 1 q0 _ ?side1 ?side2 ?side3 ?side4 ?side5 ?side6 A12.out).mono ?_)
  case side1 => repeat (first | exact (Kd.R_reads' HG0_0.out).2.2 | (with_reducible refine Kd.C_alloc ?_ _) | (with_reducible refine Kd.C_drewN ?_ _) | (with_reducible refine Kd.C_drew ?_))
  case side2 => have l_ := (Kd.R_reads' HG0_0.out).2.1; rw [LG0_0.out] at l_; exact l_
  case side3 => repeat (first | exact (Kd.R_reads' HG0_1.out).2.2 | (with_reducible refine Kd.C_alloc ?_ _) | (with_reducible refine Kd.C_drewN ?_ _) | (with_reducible refine Kd.C_drew ?_))
  case side4 => have l_ := (Kd.R_reads' HG0_1.out).2.1; rw [LG0_1.out] at l_; exact l_
  case side5 => repeat (first | exact (Kd.R_reads' HG0_2.out).2.2 | (with_reducible refine Kd.C_alloc ?_ _) | (with_reducible refine Kd.C_drewN ?_ _) | (with_reducible refine Kd.C_drew ?_))
  case side6 => have l_ := (Kd.R_reads' HG0_2.out).2.1; rw [LG0_2.out] at l_; exact l_
  rintro e w27 ⟨rfl, hb⟩
  have N27 := Qz.mk (show w26.heap.size ≤ w27.heap.size from by first | exact hb.size | exact Nat.le_trans (by simp) hb.size)
  have n_ := Qz.mk (Kd.R_below yq147 hb); clear HW0_0; have HW0_0 := n_; clear n_
  have n_ := Qz.mk (Kd.R_below yq146 hb); clear HW0_1; have HW0_1 := n_; clear n_
  have n_ := Qz.mk (Kd.R_below yq145 hb); clear HW0_2; have HW0_2 := n_; clear n_
  have n_ := Qz.mk (Kd.R_below yq150 hb); clear HG0_0; have HG0_0 := n_; clear n_
  have n_ := Qz.mk (Kd.R_below yq149 hb); clear HG0_1; have HG0_1 := n_; clear n_
  have n_ := Qz.mk (Kd.R_below yq148 hb); clear HG0_2; have HG0_2 := n_; clear n_
  have n_ := Qz.mk (Kd.R_below (by (with_reducible repeat (first | apply Kd.R_alloc | apply Kd.R_drewN | apply Kd.R_drew)); exact HH0_0.out) hb); clear HH0_0; have HH0_0 := n_; clear n_
  have n_ := Qz.mk (Kd.R_below (by (with_reducible repeat (first | apply Kd.R_alloc | apply Kd.R_drewN | apply Kd.R_drew)); exact HH0_1.out) hb); clear HH0_1; have HH0_1 := n_; clear n_
  have n_ := Qz.mk (Kd.R_below (by (with_reducible repeat (first | apply Kd.R_alloc | apply Kd.R_drewN | apply Kd.R_drew)); exact HH0_2.out) hb); clear HH0_2; have HH0_2 := n_; clear n_
  have n_ := Qz.mk (qq BK0.out hb); clear BK0; have BK0 := n_; clear n_
  have n_ := Qz.mk (qq BK1.out hb); clear BK1; have BK1 := n_; clear n_
  have n_ := Qz.mk (qq BK2.out hb); clear BK2; have BK2 := n_; clear n_
  have n_ := Qz.mk (qq BK3.out hb); clear BK3; have BK3 := n_; clear n_
  have n_ := Qz.mk (qq BK4.out hb); clear BK4; have BK4 := n_; clear n_
  have n_ := Qz.mk (ql yq144 hb); clear HB; have HB := n_; clear n_ hb
  try clear hz0_0 hz0_1 hz0_2 hz1_0 hz1_1 hz1_2 hz2_0 hz2_1 hz2_2 hz3_0 hz3_1 hz3_2 hz4_0 hz4_1 hz4_2
  try clear hy0_0
  try clear hy0_1
  try clear hy0_2
  try clear hy1_0
  try clear hy1_1
  try clear hy1_2
  try clear hy2_0
  try clear hy2_1
  try clear hy2_2
  try clear hy3_0
  try clear hy3_1
  try clear hy3_2
  try clear hy4_0
  try clear hy4_1
  try clear hy4_2
  have hz0_0 := (qd BK0.out 0).trans rfl
  have hz0_1 := (qd BK0.out 1).trans rfl
  have hz0_2 := (qd BK0.out 2).trans rfl
  have hz1_0 := (qd BK1.out 0).trans rfl
  have hz1_1 := (qd BK1.out 1).trans rfl
  have hz1_2 := (qd BK1.out 2).trans rfl
  have hz2_0 := (qd BK2.out 0).trans rfl
  have hz2_1 := (qd BK2.out 1).trans rfl
  have hz2_2 := (qd BK2.out 2).trans rfl
  have hz3_0 := (qd BK3.out 0).trans rfl
  have hz3_1 := (qd BK3.out 1).trans rfl
  have hz3_2 := (qd BK3.out 2).trans rfl
  have hz4_0 := (qd BK4.out 0).trans rfl
  have hz4_1 := (qd BK4.out 1).trans rfl
  have hz4_2 := (qd BK4.out 2).trans rfl
  go_wp2
  go_ret
  exact ⟨rfl, yq144⟩
end Go.Proofs.Ytidjdkodgddfcaa.P
end
