/- Proved: the law FnExactShapeOk of the given program returns true for every input of its Go types and leaves each argument as it was; no condition. (Part 2 of 2.) -/
import Derived.Test.YtedgdnkbojjbmaaCFnExactShapeOk0
import Derived.Test.YtedgdnkbojjbmaaRows
import Derived.WalkKit
import Derived.ProofKit
import Derived.OpenShut
import Derived.ShutString
import Derived.ChangeOld
import Derived.Below
import Derived.SizedLaws
section
namespace Go.Proofs.Ytedgdnkbojjbmaa.P
open Go.RowKit Go.Proofs.YtedgdnkbojjbmaaW.PrintWords Go.Proofs.YtedgdnkbojjbmaaW.PrintLast Go.Proofs.YtedgdnkbojjbmaaW.PrintMore
attribute [local go_sem] str_gtr str_leq str_geq max2_int min2_int max_two min_two max_three min_three max_four min_four   -- for this text's walks alone
set_option linter.unusedVariables false
set_option linter.unusedSimpArgs false

/-! ### laws_eqOpS: function 93 -/
def laws_eqOpS.l0 : Nat → List (S114) → List (S114) → Int → Option (Bool)
  | 0, _, _, _ => none
  | k + 1, x0, x1, x5 => if x5 < (x0.length : Int) then (if 0 ≤ x5 then (if x5 < (x1.length : Int) then ((laws_eqOp.f ((rd_T114 x0 x5).f0) ((rd_T114 x0 x5).f1) ((rd_T114 x0 x5).f2) ((rd_T114 x1 x5).f0) ((rd_T114 x1 x5).f1) ((rd_T114 x1 x5).f2)).bind fun t103 => (if t103 = true then (laws_eqOpS.l0 k x0 x1 (wrap64 (x5 + 1))) else (some false))) else (none)) else (none)) else (some true)
def laws_eqOpS.f (k : Nat) (l0 : List (S114)) (l1 : List (S114)) : Option (Bool) := if (l0.length : Int) = (l1.length : Int) then (laws_eqOpS.l0 k l0 l1 0) else (some false)
theorem laws_eqOpS.mono_l : ∀ k, (∀ y0 y1 y2, LeO (laws_eqOpS.l0 k y0 y1 y2) (laws_eqOpS.l0 (k + 1) y0 y1 y2))
  | 0 => fun _ _ _ r h => by simp [laws_eqOpS.l0] at h
  | k + 1 => by
    have ih0 := laws_eqOpS.mono_l k
    · intro y0 y1 y2
      unfold laws_eqOpS.l0
      repeat' first
      | (with_reducible exact ih0 _ _ _)
      | (with_reducible exact LeO.refl _)
      | (with_reducible exact LeO.none _)
      | (with_reducible refine LeO.ite ?_ ?_)
      | (with_reducible refine LeO.bind ?_ (fun _ => ?_))
      | exact ih0 _ _ _
      | exact LeO.none _
      | refine LeO.ite ?_ ?_
      | refine LeO.bind ?_ (fun _ => ?_)
theorem laws_eqOpS.mono : ∀ a0 a1 k, LeO (laws_eqOpS.f k a0 a1) (laws_eqOpS.f (k + 1) a0 a1) := by
  intro a0 a1 k
  have ih0 := laws_eqOpS.mono_l k
  unfold laws_eqOpS.f
  repeat' first
      | (with_reducible exact ih0 _ _ _)
      | (with_reducible exact LeO.refl _)
      | (with_reducible exact LeO.none _)
      | (with_reducible refine LeO.ite ?_ ?_)
      | (with_reducible refine LeO.bind ?_ (fun _ => ?_))
      | exact ih0 _ _ _
      | exact LeO.none _
      | refine LeO.ite ?_ ?_
      | refine LeO.bind ?_ (fun _ => ?_)
def laws_eqOpS.T6 : Bool × List (List Nat × List Nat) := (true, [([], []), ([], []), ([0, 1], [0, 1]), ([2], [2]), ([], []), ([], []), ([4, 5], [4, 5]), ([6], [6]), ([3, 7], [3, 7]), ([8], [8])])
def laws_eqOpS.B6 : List Nat := [0, 0, 3, 7, 0, 0, 48, 112, 255, 511]
theorem laws_eqOpS.tab6 : rtab .any (opsOf Try.f93 6) = laws_eqOpS.T6 := by kernel_rfl
theorem laws_eqOpS.bits6 : waitsOk laws_eqOpS.T6.2 laws_eqOpS.B6 = true := by kernel_rfl
set_option maxHeartbeats 8000000 in
set_option maxRecDepth 100000 in
theorem laws_eqOpS.calls (k : Nat) (A0 : Option Addr) (c0 : Nat) (l0 : List (S114)) (A1 : Option Addr) (c1 : Nat) (l1 : List (S114)) (r : Bool) (w : World) (hr0 : Kd.C k114 w A0 l0.length l0) (hc0 : l0.length ≤ c0) (hr1 : Kd.C k114 w A1 l1.length l1) (hc1 : l1.length ≤ c1) (h : laws_eqOpS.f k l0 l1 = some r) :
    Calls Try.prog 93 #[.slice A0 l0.length c0, .slice A1 l1.length c1] w fun e w' => e = .returned (.bool r) ∧ Below w.heap.size w w' := by
  have hu114 := Try.underlying114
  have HR0 := Aside0.mk hr0
  have HC0 := Aside0.mk hc0
  clear hr0 hc0
  have HR1 := Aside0.mk hr1
  have HC1 := Aside0.mk hc1
  clear hr1 hc1
  have HB := Aside0.mk (Below.refl w.heap.size w)
  have H : (if (l0.length : Int) = (l1.length : Int) then (laws_eqOpS.l0 k l0 l1 0) else (some false)) = some r := h
  clear h
  by_cases c3 : (l0.length : Int) = (l1.length : Int)
  · rw [if_pos c3] at H
    have c3b0 : ((l0.length : Int) == (l1.length : Int)) = true := beq_iff_eq.mpr c3
    have c3b1 : ((l0.length : Int) != (l1.length : Int)) = false := bne_eq_false_iff_eq.mpr c3
    have c3b2 : (l0.length == l1.length) = true := by first | simpa using c3 | (simp at c3 ⊢; omega)
    clear c3
    have H' := Aside0.mk H
    clear H
    go_enter Try.func93, Try.ntmps93
    go_wp2
    go_loopg [5] k (fun kq v5 w' => ∃ (x5_1 : Int), v5 = .int .i64 x5_1 ∧ Aside0 (laws_eqOpS.l0 kq l0 l1 x5_1 = some r) ∧ Aside0 (kq ≤ k) ∧ Aside0 (Below w.heap.size w w'))
    case atStart => exact ⟨(0), (by first | rfl | (simp; done) | (simp [*]; done)), H', ⟨Nat.le_refl _⟩, ⟨by repeat (first | (with_reducible first | exact HB.out | apply below_alloc | apply pw_below_drewN | apply below_drew1) | exact HB.out)⟩⟩
    case round =>
      clear H'
      try clear c1
      try clear p2
      try clear c3
      try clear c3b0
      try clear c3b1
      try clear c3b2
      obtain ⟨x5_1, rfl, HA, HK1, HB⟩ := hrel
      cases gk with
      | zero => exact absurd HA.out (by simp [laws_eqOpS.l0])
      | succ k1 =>
        have H := HA.out
        clear HA
        simp only [laws_eqOpS.l0] at H
        by_cases c4 : x5_1 < (l0.length : Int)
        · rw [if_pos c4] at H
          have c4b0 : decide (x5_1 < (l0.length : Int)) = true := decide_eq_true c4
          clear c4
          by_cases c5 : 0 ≤ x5_1
          · rw [if_pos c5] at H
            have c5b0 : decide (0 ≤ x5_1) = true := decide_eq_true c5
            clear c5
            by_cases c6 : x5_1 < (l1.length : Int)
            · rw [if_pos c6] at H
              have c6b0 : decide (x5_1 < (l1.length : Int)) = true := decide_eq_true c6
              clear c6
              replace H := Option.bind_eq_some_iff.mp H
              obtain ⟨t103, A70, H⟩ := H
              replace H : (if t103 = true then (laws_eqOpS.l0 k1 l0 l1 (wrap64 (x5_1 + 1))) else (some false)) = some r := H
              have A7 := Aside0.mk A70
              clear A70
              by_cases c8 : t103 = true
              · subst c8
                have H1 : (laws_eqOpS.l0 k1 l0 l1 (wrap64 (x5_1 + 1))) = some r := by rw [if_pos rfl] at H; exact H
                clear H
                have H := H1
                clear H1
                have H' := Aside0.mk H
                clear H
                try go_wp2
                have n0_ := Aside0.mk (below_drew1 HB.out)
                clear HB
                have HB := n0_
                clear n0_
                have p101 : 0 ≤ (x5_1 : Int) := of_decide_eq_true (by first | (with_reducible assumption) | assumption)
                have q101 : x5_1 < (l0.length : Int) := of_decide_eq_true (by first | (with_reducible assumption) | assumption)
                obtain ⟨ad101, e101, hx101_0, hx101_1, hx101_2⟩ := at_T114 HR0.out x5_1 p101 q101
                have hw101_2 := hx101_2
                have hw101_1 := hx101_1
                have hw101_0 := hx101_0
                cases e101
                replace hx101_0 := (HB.out.cell (World.block_lt_of_cell? w _ hx101_0)).trans hx101_0
                replace hx101_1 := (HB.out.cell (World.block_lt_of_cell? w _ hx101_1)).trans hx101_1
                replace hx101_2 := (HB.out.cell (World.block_lt_of_cell? w _ hx101_2)).trans hx101_2
                replace p101 := eq_true p101
                replace q101 := eq_true q101
                have p102 : 0 ≤ (x5_1 : Int) := of_decide_eq_true (by first | (with_reducible assumption) | assumption)
                have q102 : x5_1 < (l1.length : Int) := of_decide_eq_true (by first | (with_reducible assumption) | assumption)
                obtain ⟨ad102, e102, hx102_0, hx102_1, hx102_2⟩ := at_T114 HR1.out x5_1 p102 q102
                have hw102_2 := hx102_2
                have hw102_1 := hx102_1
                have hw102_0 := hx102_0
                cases e102
                replace hx102_0 := (HB.out.cell (World.block_lt_of_cell? w _ hx102_0)).trans hx102_0
                replace hx102_1 := (HB.out.cell (World.block_lt_of_cell? w _ hx102_1)).trans hx102_1
                replace hx102_2 := (HB.out.cell (World.block_lt_of_cell? w _ hx102_2)).trans hx102_2
                replace p102 := eq_true p102
                replace q102 := eq_true q102
                refine start_ (n := 10) (S := fun w' => w'.cell? (ad101.add ((x5_1).toNat * 3)) = some (.int .i64 ((rd_T114 l0 x5_1).f0)) ∧ w'.cell? ⟨(ad101.add ((x5_1).toNat * 3)).block, (ad101.add ((x5_1).toNat * 3)).off + 1, none⟩ = some (.string ((rd_T114 l0 x5_1).f1)) ∧ w'.cell? ⟨(ad101.add ((x5_1).toNat * 3)).block, (ad101.add ((x5_1).toNat * 3)).off + 2, none⟩ = some (.string ((rd_T114 l0 x5_1).f2)) ∧ w'.cell? (ad102.add ((x5_1).toNat * 3)) = some (.int .i64 ((rd_T114 l1 x5_1).f0)) ∧ w'.cell? ⟨(ad102.add ((x5_1).toNat * 3)).block, (ad102.add ((x5_1).toNat * 3)).off + 1, none⟩ = some (.string ((rd_T114 l1 x5_1).f1)) ∧ w'.cell? ⟨(ad102.add ((x5_1).toNat * 3)).block, (ad102.add ((x5_1).toNat * 3)).off + 2, none⟩ = some (.string ((rd_T114 l1 x5_1).f2))) (ds := []) #[false, false, false, false, false, false, false, false, false, false] (by kernel_rfl) rfl rfl ⟨((HB.out.cell (World.block_lt_of_cell? w _ hw101_0)).trans hw101_0), ((HB.out.cell (World.block_lt_of_cell? w _ hw101_1)).trans hw101_1), ((HB.out.cell (World.block_lt_of_cell? w _ hw101_2)).trans hw101_2), ((HB.out.cell (World.block_lt_of_cell? w _ hw102_0)).trans hw102_0), ((HB.out.cell (World.block_lt_of_cell? w _ hw102_1)).trans hw102_1), ((HB.out.cell (World.block_lt_of_cell? w _ hw102_2)).trans hw102_2)⟩ (fun hHeld => ?_); refine with_tabW laws_eqOpS.tab6 laws_eqOpS.bits6 (fun HT_ HW_ => ?_)
                generalize wr.drew = w9 at HB hx101_0 hx101_1 hx101_2 hx102_0 hx102_1 hx102_2 hHeld ⊢
                refine pure_ (i := 0) (N := some 17) (v := ?_) (a' := ?_) #[true, false, false, false, false, false, false, false, false, false] rfl rfl (any_of HT_.out (by kernel_rfl)) (fun _ _ _ h => h) (Or.inl ⟨by rfl, ?_⟩) ?_ ?_
                rotate_left
                · intro w'
                  go_simp
                  with_reducible rfl
                rotate_left
                · simp only [Act.put, List.setIfInBounds_toArray, List.set_cons_zero, List.set_cons_succ, i64_w, i32_w]
                  rfl
                refine pure_ (i := 1) (N := some 18) (v := ?_) (a' := ?_) #[true, true, false, false, false, false, false, false, false, false] rfl rfl (any_of HT_.out (by kernel_rfl)) (fun _ _ _ h => h) (Or.inl ⟨by rfl, ?_⟩) ?_ ?_
                rotate_left
                · intro w'
                  go_simp
                  with_reducible rfl
                rotate_left
                · simp only [Act.put, List.setIfInBounds_toArray, List.set_cons_zero, List.set_cons_succ, i64_w, i32_w]
                  rfl
                refine pure_ (i := 2) (N := some 19) (v := ?_) (a' := ?_) #[true, true, true, false, false, false, false, false, false, false] rfl rfl (any_of HT_.out (by kernel_rfl)) (fun _ _ _ h => h) (Or.inl ⟨by rfl, ?_⟩) ?_ ?_
                rotate_left
                · intro w'
                  go_simp
                  with_reducible rfl
                rotate_left
                · simp only [Act.put, List.setIfInBounds_toArray, List.set_cons_zero, List.set_cons_succ, i64_w, i32_w]
                  rfl
                refine pure_ (i := 4) (N := some 21) (v := ?_) (a' := ?_) #[true, true, true, false, true, false, false, false, false, false] rfl rfl (any_of HT_.out (by kernel_rfl)) (fun _ _ _ h => h) (Or.inl ⟨by rfl, ?_⟩) ?_ ?_
                rotate_left
                · intro w'
                  go_simp
                  with_reducible rfl
                rotate_left
                · simp only [Act.put, List.setIfInBounds_toArray, List.set_cons_zero, List.set_cons_succ, i64_w, i32_w]
                  rfl
                refine pure_ (i := 5) (N := some 22) (v := ?_) (a' := ?_) #[true, true, true, false, true, true, false, false, false, false] rfl rfl (any_of HT_.out (by kernel_rfl)) (fun _ _ _ h => h) (Or.inl ⟨by rfl, ?_⟩) ?_ ?_
                rotate_left
                · intro w'
                  go_simp
                  with_reducible rfl
                rotate_left
                · simp only [Act.put, List.setIfInBounds_toArray, List.set_cons_zero, List.set_cons_succ, i64_w, i32_w]
                  rfl
                refine pure_ (i := 6) (N := some 23) (v := ?_) (a' := ?_) #[true, true, true, false, true, true, true, false, false, false] rfl rfl (any_of HT_.out (by kernel_rfl)) (fun _ _ _ h => h) (Or.inl ⟨by rfl, ?_⟩) ?_ ?_
                rotate_left
                · intro w'
                  go_simp
                  with_reducible rfl
                rotate_left
                · simp only [Act.put, List.setIfInBounds_toArray, List.set_cons_zero, List.set_cons_succ, i64_w, i32_w]
                  rfl
                refine take_ (i := 3) (N := some 20) (v := ?_) (a' := ?_) #[true, true, true, true, true, true, true, false, false, false] rfl rfl (take_ofW HT_.out HW_.out (by kernel_rfl)) (fun _ _ _ h => h) (Or.inl ⟨by rfl, ?_⟩) hHeld ?_ ?_
                rotate_left
                · rintro w' ⟨s0, s1, s2, s3, s4, s5⟩
                  go_simp
                  with_reducible rfl
                rotate_left
                · simp only [Act.put, List.setIfInBounds_toArray, List.set_cons_zero, List.set_cons_succ, i64_w, i32_w]
                  rfl
                refine take_ (i := 7) (N := some 24) (v := ?_) (a' := ?_) #[true, true, true, true, true, true, true, true, false, false] rfl rfl (take_ofW HT_.out HW_.out (by kernel_rfl)) (fun _ _ _ h => h) (Or.inl ⟨by rfl, ?_⟩) hHeld ?_ ?_
                rotate_left
                · rintro w' ⟨s0, s1, s2, s3, s4, s5⟩
                  go_simp
                  with_reducible rfl
                rotate_left
                · simp only [Act.put, List.setIfInBounds_toArray, List.set_cons_zero, List.set_cons_succ, i64_w, i32_w]
                  rfl
                refine one_ (i := 8) (N := some 25) #[true, true, true, true, true, true, true, true, true, false] rfl rfl (one_of HT_.out (by kernel_rfl)) (by decide) (fun K hK => ?_)
                refine goes_ Try.func124 (by kernel_rfl) rfl #[.agg #[.int .i64 ((rd_T114 l0 x5_1).f0), .string ((rd_T114 l0 x5_1).f1), .string ((rd_T114 l0 x5_1).f2)], .agg #[.int .i64 ((rd_T114 l1 x5_1).f0), .string ((rd_T114 l1 x5_1).f1), .string ((rd_T114 l1 x5_1).f2)]] (by rfl) rfl rfl (by (try simp only [List.map_toArray, List.map_cons, List.map_nil]); first | done | rfl | (simp only [List.length_drop, List.length_take]; rfl) | (rw [IntWalk.u64_in _ (by omega)] <;> rfl)) ?_
                with_reducible refine (laws_eqOp.calls ((rd_T114 l0 x5_1).f0) ((rd_T114 l0 x5_1).f1) ((rd_T114 l0 x5_1).f2) ((rd_T114 l1 x5_1).f0) ((rd_T114 l1 x5_1).f1) ((rd_T114 l1 x5_1).f2) true _ A7.out).mono ?_
                rintro e w10 ⟨rfl, hb⟩
                refine ⟨_, rfl, ?_⟩
                have n0_ := Aside0.mk (below_step (by repeat (first | (with_reducible first | exact HB.out | apply below_alloc | apply pw_below_drewN | apply below_drew1) | exact HB.out)) hb)
                clear HB
                have HB := n0_
                clear n0_
                (try clear hb)
                (try clear hb2)
                (try clear hk)
                (try clear hi)
                refine hK.out _ _ ⟨((HB.out.cell (World.block_lt_of_cell? w _ hw101_0)).trans hw101_0), ((HB.out.cell (World.block_lt_of_cell? w _ hw101_1)).trans hw101_1), ((HB.out.cell (World.block_lt_of_cell? w _ hw101_2)).trans hw101_2), ((HB.out.cell (World.block_lt_of_cell? w _ hw102_0)).trans hw102_0), ((HB.out.cell (World.block_lt_of_cell? w _ hw102_1)).trans hw102_1), ((HB.out.cell (World.block_lt_of_cell? w _ hw102_2)).trans hw102_2)⟩ (fun hHeld => ?_)
                clear hK K
                refine norm_ (a' := ?_) ?_ ?_
                rotate_left
                · show Act.put _ (some 25) _ = _
                  simp only [Act.put, List.setIfInBounds_toArray, List.set_cons_zero, List.set_cons_succ, i64_w, i32_w]
                  rfl
                refine pure_ (i := 9) (N := some 26) (v := ?_) (a' := ?_) #[true, true, true, true, true, true, true, true, true, true] rfl rfl (any_of HT_.out (by kernel_rfl)) (fun _ _ _ h => h) (Or.inl ⟨by rfl, ?_⟩) ?_ ?_
                rotate_left
                · intro w'
                  go_simp
                  with_reducible rfl
                rotate_left
                · simp only [Act.put, List.setIfInBounds_toArray, List.set_cons_zero, List.set_cons_succ, i64_w, i32_w]
                  rfl
                refine done_ (done_of HT_.out (by kernel_rfl)) ?_
                try go_wp2
                go_roundg k1
                case measure => have := HK1.out; omega
                case rel => exact ⟨(wrap64 (x5_1 + 1)), (by first | rfl | (simp; done) | (simp [*]; done)), H', ⟨by have := HK1.out; omega⟩, ⟨by repeat (first | (with_reducible first | exact HB.out | apply below_alloc | apply pw_below_drewN | apply below_drew1) | exact HB.out)⟩⟩
              · replace c8 := Bool.eq_false_iff.mpr c8
                subst c8
                have H1 : (some false) = some r := by rw [if_neg (show ¬ (false = true) by decide)] at H; exact H
                clear H
                have H := H1
                clear H1
                obtain rfl := Option.some.inj H
                try go_wp2
                have n0_ := Aside0.mk (below_drew1 HB.out)
                clear HB
                have HB := n0_
                clear n0_
                have p101 : 0 ≤ (x5_1 : Int) := of_decide_eq_true (by first | (with_reducible assumption) | assumption)
                have q101 : x5_1 < (l0.length : Int) := of_decide_eq_true (by first | (with_reducible assumption) | assumption)
                obtain ⟨ad101, e101, hx101_0, hx101_1, hx101_2⟩ := at_T114 HR0.out x5_1 p101 q101
                have hw101_2 := hx101_2
                have hw101_1 := hx101_1
                have hw101_0 := hx101_0
                cases e101
                replace hx101_0 := (HB.out.cell (World.block_lt_of_cell? w _ hx101_0)).trans hx101_0
                replace hx101_1 := (HB.out.cell (World.block_lt_of_cell? w _ hx101_1)).trans hx101_1
                replace hx101_2 := (HB.out.cell (World.block_lt_of_cell? w _ hx101_2)).trans hx101_2
                replace p101 := eq_true p101
                replace q101 := eq_true q101
                have p102 : 0 ≤ (x5_1 : Int) := of_decide_eq_true (by first | (with_reducible assumption) | assumption)
                have q102 : x5_1 < (l1.length : Int) := of_decide_eq_true (by first | (with_reducible assumption) | assumption)
                obtain ⟨ad102, e102, hx102_0, hx102_1, hx102_2⟩ := at_T114 HR1.out x5_1 p102 q102
                have hw102_2 := hx102_2
                have hw102_1 := hx102_1
                have hw102_0 := hx102_0
                cases e102
                replace hx102_0 := (HB.out.cell (World.block_lt_of_cell? w _ hx102_0)).trans hx102_0
                replace hx102_1 := (HB.out.cell (World.block_lt_of_cell? w _ hx102_1)).trans hx102_1
                replace hx102_2 := (HB.out.cell (World.block_lt_of_cell? w _ hx102_2)).trans hx102_2
                replace p102 := eq_true p102
                replace q102 := eq_true q102
                refine start_ (n := 10) (S := fun w' => w'.cell? (ad101.add ((x5_1).toNat * 3)) = some (.int .i64 ((rd_T114 l0 x5_1).f0)) ∧ w'.cell? ⟨(ad101.add ((x5_1).toNat * 3)).block, (ad101.add ((x5_1).toNat * 3)).off + 1, none⟩ = some (.string ((rd_T114 l0 x5_1).f1)) ∧ w'.cell? ⟨(ad101.add ((x5_1).toNat * 3)).block, (ad101.add ((x5_1).toNat * 3)).off + 2, none⟩ = some (.string ((rd_T114 l0 x5_1).f2)) ∧ w'.cell? (ad102.add ((x5_1).toNat * 3)) = some (.int .i64 ((rd_T114 l1 x5_1).f0)) ∧ w'.cell? ⟨(ad102.add ((x5_1).toNat * 3)).block, (ad102.add ((x5_1).toNat * 3)).off + 1, none⟩ = some (.string ((rd_T114 l1 x5_1).f1)) ∧ w'.cell? ⟨(ad102.add ((x5_1).toNat * 3)).block, (ad102.add ((x5_1).toNat * 3)).off + 2, none⟩ = some (.string ((rd_T114 l1 x5_1).f2))) (ds := []) #[false, false, false, false, false, false, false, false, false, false] (by kernel_rfl) rfl rfl ⟨((HB.out.cell (World.block_lt_of_cell? w _ hw101_0)).trans hw101_0), ((HB.out.cell (World.block_lt_of_cell? w _ hw101_1)).trans hw101_1), ((HB.out.cell (World.block_lt_of_cell? w _ hw101_2)).trans hw101_2), ((HB.out.cell (World.block_lt_of_cell? w _ hw102_0)).trans hw102_0), ((HB.out.cell (World.block_lt_of_cell? w _ hw102_1)).trans hw102_1), ((HB.out.cell (World.block_lt_of_cell? w _ hw102_2)).trans hw102_2)⟩ (fun hHeld => ?_); refine with_tabW laws_eqOpS.tab6 laws_eqOpS.bits6 (fun HT_ HW_ => ?_)
                generalize wr.drew = w11 at HB hx101_0 hx101_1 hx101_2 hx102_0 hx102_1 hx102_2 hHeld ⊢
                refine pure_ (i := 0) (N := some 17) (v := ?_) (a' := ?_) #[true, false, false, false, false, false, false, false, false, false] rfl rfl (any_of HT_.out (by kernel_rfl)) (fun _ _ _ h => h) (Or.inl ⟨by rfl, ?_⟩) ?_ ?_
                rotate_left
                · intro w'
                  go_simp
                  with_reducible rfl
                rotate_left
                · simp only [Act.put, List.setIfInBounds_toArray, List.set_cons_zero, List.set_cons_succ, i64_w, i32_w]
                  rfl
                refine pure_ (i := 1) (N := some 18) (v := ?_) (a' := ?_) #[true, true, false, false, false, false, false, false, false, false] rfl rfl (any_of HT_.out (by kernel_rfl)) (fun _ _ _ h => h) (Or.inl ⟨by rfl, ?_⟩) ?_ ?_
                rotate_left
                · intro w'
                  go_simp
                  with_reducible rfl
                rotate_left
                · simp only [Act.put, List.setIfInBounds_toArray, List.set_cons_zero, List.set_cons_succ, i64_w, i32_w]
                  rfl
                refine pure_ (i := 2) (N := some 19) (v := ?_) (a' := ?_) #[true, true, true, false, false, false, false, false, false, false] rfl rfl (any_of HT_.out (by kernel_rfl)) (fun _ _ _ h => h) (Or.inl ⟨by rfl, ?_⟩) ?_ ?_
                rotate_left
                · intro w'
                  go_simp
                  with_reducible rfl
                rotate_left
                · simp only [Act.put, List.setIfInBounds_toArray, List.set_cons_zero, List.set_cons_succ, i64_w, i32_w]
                  rfl
                refine pure_ (i := 4) (N := some 21) (v := ?_) (a' := ?_) #[true, true, true, false, true, false, false, false, false, false] rfl rfl (any_of HT_.out (by kernel_rfl)) (fun _ _ _ h => h) (Or.inl ⟨by rfl, ?_⟩) ?_ ?_
                rotate_left
                · intro w'
                  go_simp
                  with_reducible rfl
                rotate_left
                · simp only [Act.put, List.setIfInBounds_toArray, List.set_cons_zero, List.set_cons_succ, i64_w, i32_w]
                  rfl
                refine pure_ (i := 5) (N := some 22) (v := ?_) (a' := ?_) #[true, true, true, false, true, true, false, false, false, false] rfl rfl (any_of HT_.out (by kernel_rfl)) (fun _ _ _ h => h) (Or.inl ⟨by rfl, ?_⟩) ?_ ?_
                rotate_left
                · intro w'
                  go_simp
                  with_reducible rfl
                rotate_left
                · simp only [Act.put, List.setIfInBounds_toArray, List.set_cons_zero, List.set_cons_succ, i64_w, i32_w]
                  rfl
                refine pure_ (i := 6) (N := some 23) (v := ?_) (a' := ?_) #[true, true, true, false, true, true, true, false, false, false] rfl rfl (any_of HT_.out (by kernel_rfl)) (fun _ _ _ h => h) (Or.inl ⟨by rfl, ?_⟩) ?_ ?_
                rotate_left
                · intro w'
                  go_simp
                  with_reducible rfl
                rotate_left
                · simp only [Act.put, List.setIfInBounds_toArray, List.set_cons_zero, List.set_cons_succ, i64_w, i32_w]
                  rfl
                refine take_ (i := 3) (N := some 20) (v := ?_) (a' := ?_) #[true, true, true, true, true, true, true, false, false, false] rfl rfl (take_ofW HT_.out HW_.out (by kernel_rfl)) (fun _ _ _ h => h) (Or.inl ⟨by rfl, ?_⟩) hHeld ?_ ?_
                rotate_left
                · rintro w' ⟨s0, s1, s2, s3, s4, s5⟩
                  go_simp
                  with_reducible rfl
                rotate_left
                · simp only [Act.put, List.setIfInBounds_toArray, List.set_cons_zero, List.set_cons_succ, i64_w, i32_w]
                  rfl
                refine take_ (i := 7) (N := some 24) (v := ?_) (a' := ?_) #[true, true, true, true, true, true, true, true, false, false] rfl rfl (take_ofW HT_.out HW_.out (by kernel_rfl)) (fun _ _ _ h => h) (Or.inl ⟨by rfl, ?_⟩) hHeld ?_ ?_
                rotate_left
                · rintro w' ⟨s0, s1, s2, s3, s4, s5⟩
                  go_simp
                  with_reducible rfl
                rotate_left
                · simp only [Act.put, List.setIfInBounds_toArray, List.set_cons_zero, List.set_cons_succ, i64_w, i32_w]
                  rfl
                refine one_ (i := 8) (N := some 25) #[true, true, true, true, true, true, true, true, true, false] rfl rfl (one_of HT_.out (by kernel_rfl)) (by decide) (fun K hK => ?_)
                refine goes_ Try.func124 (by kernel_rfl) rfl #[.agg #[.int .i64 ((rd_T114 l0 x5_1).f0), .string ((rd_T114 l0 x5_1).f1), .string ((rd_T114 l0 x5_1).f2)], .agg #[.int .i64 ((rd_T114 l1 x5_1).f0), .string ((rd_T114 l1 x5_1).f1), .string ((rd_T114 l1 x5_1).f2)]] (by rfl) rfl rfl (by (try simp only [List.map_toArray, List.map_cons, List.map_nil]); first | done | rfl | (simp only [List.length_drop, List.length_take]; rfl) | (rw [IntWalk.u64_in _ (by omega)] <;> rfl)) ?_
                with_reducible refine (laws_eqOp.calls ((rd_T114 l0 x5_1).f0) ((rd_T114 l0 x5_1).f1) ((rd_T114 l0 x5_1).f2) ((rd_T114 l1 x5_1).f0) ((rd_T114 l1 x5_1).f1) ((rd_T114 l1 x5_1).f2) false _ A7.out).mono ?_
                rintro e w12 ⟨rfl, hb⟩
                refine ⟨_, rfl, ?_⟩
                have n0_ := Aside0.mk (below_step (by repeat (first | (with_reducible first | exact HB.out | apply below_alloc | apply pw_below_drewN | apply below_drew1) | exact HB.out)) hb)
                clear HB
                have HB := n0_
                clear n0_
                (try clear hb)
                (try clear hb2)
                (try clear hk)
                (try clear hi)
                refine hK.out _ _ ⟨((HB.out.cell (World.block_lt_of_cell? w _ hw101_0)).trans hw101_0), ((HB.out.cell (World.block_lt_of_cell? w _ hw101_1)).trans hw101_1), ((HB.out.cell (World.block_lt_of_cell? w _ hw101_2)).trans hw101_2), ((HB.out.cell (World.block_lt_of_cell? w _ hw102_0)).trans hw102_0), ((HB.out.cell (World.block_lt_of_cell? w _ hw102_1)).trans hw102_1), ((HB.out.cell (World.block_lt_of_cell? w _ hw102_2)).trans hw102_2)⟩ (fun hHeld => ?_)
                clear hK K
                refine norm_ (a' := ?_) ?_ ?_
                rotate_left
                · show Act.put _ (some 25) _ = _
                  simp only [Act.put, List.setIfInBounds_toArray, List.set_cons_zero, List.set_cons_succ, i64_w, i32_w]
                  rfl
                refine pure_ (i := 9) (N := some 26) (v := ?_) (a' := ?_) #[true, true, true, true, true, true, true, true, true, true] rfl rfl (any_of HT_.out (by kernel_rfl)) (fun _ _ _ h => h) (Or.inl ⟨by rfl, ?_⟩) ?_ ?_
                rotate_left
                · intro w'
                  go_simp
                  with_reducible rfl
                rotate_left
                · simp only [Act.put, List.setIfInBounds_toArray, List.set_cons_zero, List.set_cons_succ, i64_w, i32_w]
                  rfl
                refine done_ (done_of HT_.out (by kernel_rfl)) ?_
                try go_wp2
                go_ret
                exact ⟨by first | rfl | (simp [errW_none, errW_some] <;> rfl) | (simp [*, errW_none, errW_some] <;> rfl), by repeat (first | (with_reducible first | exact HB.out | apply below_alloc | apply pw_below_drewN | apply below_drew1) | exact HB.out)⟩
            · rw [if_neg c6] at H
              exact absurd H (by simp)
          · rw [if_neg c5] at H
            exact absurd H (by simp)
        · rw [if_neg c4] at H
          have c4b0 : decide (x5_1 < (l0.length : Int)) = false := decide_eq_false c4
          clear c4
          obtain rfl := Option.some.inj H
          go_wp2
          go_ret
          exact ⟨by first | rfl | (simp [errW_none, errW_some] <;> rfl) | (simp [*, errW_none, errW_some] <;> rfl), by repeat (first | (with_reducible first | exact HB.out | apply below_alloc | apply pw_below_drewN | apply below_drew1) | exact HB.out)⟩
  · rw [if_neg c3] at H
    have c3b0 : ((l0.length : Int) == (l1.length : Int)) = false := beq_eq_false_iff_ne.mpr c3
    have c3b1 : ((l0.length : Int) != (l1.length : Int)) = true := bne_iff_ne.mpr c3
    have c3b2 : (l0.length == l1.length) = false := by first | simpa using c3 | (simp at c3 ⊢; omega)
    obtain rfl := Option.some.inj H
    go_enter Try.func93, Try.ntmps93
    go_wp2
    go_ret
    exact ⟨by first | rfl | (simp [errW_none, errW_some] <;> rfl) | (simp [*, errW_none, errW_some] <;> rfl), by repeat (first | (with_reducible first | exact HB.out | apply below_alloc | apply pw_below_drewN | apply below_drew1) | exact HB.out)⟩

end Go.Proofs.Ytedgdnkbojjbmaa.P
end

section
namespace Go.Proofs.Ytedgdnkbojjbmaa.P
open Go.RowKit Go.Proofs.YtedgdnkbojjbmaaW.PrintWords Go.Proofs.YtedgdnkbojjbmaaW.PrintLast Go.Proofs.YtedgdnkbojjbmaaW.PrintMore
attribute [local go_sem] str_gtr str_leq str_geq max2_int min2_int max_two min_two max_three min_three max_four min_four   -- for this text's walks alone
set_option linter.unusedVariables false
set_option linter.unusedSimpArgs false


/-! ### What the exact laws' own helpers compute (laws.toX, szX, eqX, markX, heldX), type by type -/
theorem strOfNums_size (l : List Int) : (strOfNums l).size = l.length := by
  unfold strOfNums
  simp [ByteArray.size]

theorem markText_ends (n : Int) (h : n < 1099511627776) : ∃ r, Ev (fun k => laws_markText.f k n) r := by
  by_cases h0 : n ≤ 0
  · exact ⟨_, by unfold laws_markText.f; exact Ev.pos h0 (Ev.now _)⟩
  · have key : ∀ (d : Nat) (x : Int) (y : ByteArray), 0 ≤ x → x ≤ d → y.size + d < 2199023255552 → ∃ r, Ev (fun k => laws_markText.l0 k x y) r := by
      intro d
      induction d using Nat.strongRecOn with
      | _ d ih =>
        intro x y hx hd hy
        by_cases hp : x > 0
        · have ht : Int.tdiv x 10 = x / 10 := Int.tdiv_eq_ediv_of_nonneg hx
          obtain ⟨r, hr⟩ := ih (d - 1) (by omega) (x / 10) ((strOfNums [(wrap64 (48 + (Int.tmod x 10))) % 256]) ++ y) (by omega) (by omega) (by
            rw [ByteArray.size_append, strOfNums_size]
            simp only [List.length_cons, List.length_nil]
            omega)
          refine ⟨r, Ev.step (fun k => rfl) (Ev.pos hp (Ev.bindS rfl (Ev.pos (by rw [strOfNums_size]; simp only [List.length_cons, List.length_nil]; omega) ?_)))⟩
          rw [ht, wid (by omega) (by omega)]
          exact hr
        · exact ⟨_, Ev.step (fun k => rfl) (Ev.neg hp (Ev.pos (by omega) (Ev.now _)))⟩
    obtain ⟨r, hr⟩ := key n.toNat n ⟨#[]⟩ (by omega) (by omega) (by
      show 0 + n.toNat < _
      omega)
    exact ⟨r, by unfold laws_markText.f; exact Ev.neg h0 hr⟩
/-- The mark of a number. -/
noncomputable def mt (n : Int) : ByteArray := if h : n < 1099511627776 then (markText_ends n h).choose else ⟨#[]⟩
theorem markText_ev (n : Int) (h : n < 1099511627776) : Ev (fun k => laws_markText.f k n) (mt n) := by
  rw [mt, dif_pos h]
  exact (markText_ends n h).choose_spec
/-- A row whose places are marked one behind the other, c marks for each. -/
theorem markLoop {α : Type} (l : Nat → List α → Int → Int → Option (Int × List α)) (mk : Int → α) (c n : Nat) (hn : n < 2097152) (hc : c ≤ 8)
    (hs : ∀ (ys : List α) (i : Nat) (kk : Int) (r : Int × List α), ys.length = n → i < n → 0 ≤ kk → kk < 549755813888 → Ev (fun k => l k (ys.set i (mk kk)) (kk + c) ((i + 1 : Nat) : Int)) r → Ev (fun k => l k ys kk (i : Int)) r)
    (he : ∀ (ys : List α) (kk : Int), ys.length = n → Ev (fun k => l k ys kk (n : Int)) (kk, ys)) (ys : List α) (hy : ys.length = n) (k0 : Int) (h0 : 0 ≤ k0) (h1 : k0 < 274877906944) :
    Ev (fun k => l k ys k0 0) (k0 + c * n, (List.range n).map fun j : Nat => mk (k0 + (c : Int) * (j : Int))) := by
  have key : ∀ i, i ≤ n → ∀ ys : List α, ys.length = n → Ev (fun k => l k ys (k0 + c * i) (i : Int)) (k0 + c * n, ys.take i ++ (List.range' i (n - i)).map fun j : Nat => mk (k0 + (c : Int) * (j : Int))) := by
    refine downTo n ?_ ?_
    · intro ys hy
      refine Ev.eqr (he ys _ hy) ?_
      rw [Nat.sub_self, List.range'_zero, List.map_nil, List.append_nil, List.take_of_length_le (by omega)]
    · intro i hi ih ys hy
      have hcb : (c : Int) * (i : Int) ≤ 16777216 := by
        have h2 : c * i ≤ 8 * i := Nat.mul_le_mul_right i hc
        have e : (c : Int) * (i : Int) = ((c * i : Nat) : Int) := (Int.natCast_mul c i).symm
        rw [e]
        omega
      have hcp : (0 : Int) ≤ (c : Int) * (i : Int) := Int.mul_nonneg (by omega) (by omega)
      refine hs ys i _ _ hy hi (by omega) (by omega) ?_
      rw [show k0 + (c : Int) * (i : Int) + (c : Int) = k0 + (c : Int) * ((i + 1 : Nat) : Int) from by rw [Int.natCast_add, Int.mul_add]; omega]
      refine Ev.eqr (ih (ys.set i (mk (k0 + (c : Int) * (i : Int)))) (by simpa using hy)) ?_
      rw [set_take _ _ _ (by omega), List.append_assoc, show n - i = (n - (i + 1)) + 1 from by omega, List.range'_succ, List.map_cons]
      rfl
  have := key 0 (Nat.zero_le _) ys hy
  simp only [Int.natCast_zero, Int.mul_zero, Int.add_zero, List.take_zero, List.nil_append, Nat.sub_zero, ← List.range_eq_range'] at this
  exact this
theorem heldLoop {α : Type} (l : Nat → List α → Int → Int → Option Int) (mk : Int → α) (c n : Nat) (d : α) (hn : n < 2097152) (hc : c ≤ 8)
    (hs : ∀ (ys : List α) (i : Nat) (kk : Int) (r : Int), ys.length = n → i < n → 0 ≤ kk → kk < 549755813888 → ys.getD i d = mk kk → Ev (fun k => l k ys (kk + c) ((i + 1 : Nat) : Int)) r → Ev (fun k => l k ys kk (i : Int)) r)
    (he : ∀ (ys : List α) (kk : Int), ys.length = n → Ev (fun k => l k ys kk (n : Int)) kk) (k0 : Int) (h0 : 0 ≤ k0) (h1 : k0 < 274877906944) :
    Ev (fun k => l k ((List.range n).map fun j : Nat => mk (k0 + (c : Int) * (j : Int))) k0 0) (k0 + c * n) := by
  have key : ∀ i, i ≤ n → Ev (fun k => l k ((List.range n).map fun j : Nat => mk (k0 + (c : Int) * (j : Int))) (k0 + c * i) (i : Int)) (k0 + c * n) := by
    refine downTo n (he _ _ (by simp)) ?_
    intro i hi ih
    have hcb : (c : Int) * (i : Int) ≤ 16777216 := by
      have h2 : c * i ≤ 8 * i := Nat.mul_le_mul_right i hc
      have e : (c : Int) * (i : Int) = ((c * i : Nat) : Int) := (Int.natCast_mul c i).symm
      rw [e]
      omega
    have hcp : (0 : Int) ≤ (c : Int) * (i : Int) := Int.mul_nonneg (by omega) (by omega)
    refine hs _ i _ _ (by simp) hi (by omega) (by omega) ?_ ?_
    · rw [List.getD_eq_getElem?_getD, List.getElem?_map, List.getElem?_range hi]
      rfl
    · rw [show k0 + (c : Int) * (i : Int) + (c : Int) = k0 + (c : Int) * ((i + 1 : Nat) : Int) from by rw [Int.natCast_add, Int.mul_add]; omega]
      exact ih
  have := key 0 (Nat.zero_le _)
  simp only [Int.natCast_zero, Int.mul_zero, Int.add_zero] at this
  exact this


/-! #### Op -/
def cv_Op (x : S134) : S114 := ⟨x.f0, x.f1, x.f2⟩
def wf_Op (x : S134) : Prop := -9223372036854775808 ≤ x.f0 ∧ x.f0 ≤ 9223372036854775807 ∧ x.f1.size ≤ 9223372036854775807 ∧ x.f2.size ≤ 9223372036854775807
def sm_Op (x : S134) : Prop := x.f1.size ≤ 1048576 ∧ x.f2.size ≤ 1048576
theorem szOp_ev (x : S134) (a : Int) (hw : wf_Op x) (h0 : 0 ≤ a) (h1 : a ≤ 1048576) : ∃ r, laws_szOp.f (x.f0) (x.f1) (x.f2) a = some r ∧ r ≤ a ∧ (r = -1 ∨ 0 ≤ r ∧ sm_Op x) := by
  unfold wf_Op at hw
  unfold sm_Op
  unfold laws_szOp.f
  rw [wid (x := a - (x.f1.size : Int)) (by omega) (by omega)]
  by_cases c0 : a - (x.f1.size : Int) < 0
  · exact ⟨-1, by rw [if_pos c0], by omega, .inl rfl⟩
  · rw [if_neg c0]
    rw [wid (x := (a - (x.f1.size : Int)) - (x.f2.size : Int)) (by omega) (by omega)]
    by_cases c1 : (a - (x.f1.size : Int)) - (x.f2.size : Int) < 0
    · exact ⟨-1, by rw [if_pos c1], by omega, .inl rfl⟩
    · rw [if_neg c1]
      exact ⟨_, rfl, by omega, .inr ⟨by omega, by omega, by omega⟩⟩
theorem szOpS_ev (l : List S134) (a : Int) (hw : ∀ x ∈ l, wf_Op x) (hl : l.length ≤ 9223372036854775807) (h0 : 0 ≤ a) (h1 : a ≤ 1048576) :
    ∃ r, Ev (fun k => laws_szOpS.f k l a) r ∧ r ≤ a ∧ (r = -1 ∨ 0 ≤ r ∧ (l.length : Int) ≤ a ∧ ∀ x ∈ l, sm_Op x) := by
  unfold laws_szOpS.f
  rw [wid (x := a - (l.length : Int)) (by omega) (by omega)]
  by_cases c : a - (l.length : Int) < 0
  · exact ⟨-1, Ev.pos c (Ev.now _), by omega, .inl rfl⟩
  · have key : ∀ i, i ≤ l.length → ∀ b : Int, 0 ≤ b → b ≤ 1048576 → ∃ r, Ev (fun k => laws_szOpS.l0 k l b (i : Int)) r ∧ r ≤ b ∧ (r = -1 ∨ 0 ≤ r ∧ ∀ j, i ≤ j → j < l.length → sm_Op (l.getD j z134)) := by
      refine downTo l.length ?_ ?_
      · intro b hb _
        exact ⟨b, Ev.step (fun k => rfl) (Ev.neg (by omega) (Ev.now _)), by omega, .inr ⟨hb, fun j h1 h2 => by omega⟩⟩
      · intro i hi ih b hb hb1
        have hmem : l.getD i z134 ∈ l := by rw [List.getD_eq_getElem?_getD, List.getElem?_eq_getElem hi]; exact List.getElem_mem hi
        obtain ⟨q, hq, hqb, hq2⟩ := szOp_ev (l.getD i z134) b (hw _ hmem) hb hb1
        rcases hq2 with rfl | ⟨hq0, hq1⟩
        · exact ⟨-1, Ev.step (fun k => rfl) (Ev.pos (by omega) (Ev.pos (by omega) (Ev.bindS hq (Ev.pos (by omega) (Ev.now _))))), by omega, .inl rfl⟩
        · obtain ⟨r, hr, hrq, hr2⟩ := ih q hq0 (by omega)
          refine ⟨r, Ev.step (fun k => rfl) (Ev.pos (by omega) (Ev.pos (by omega) (Ev.bindS hq (Ev.neg (by omega) ?_)))), by omega, ?_⟩
          · rw [wsucc (by omega)]
            exact hr
          · rcases hr2 with h | ⟨h, h'⟩
            · exact .inl h
            · refine .inr ⟨h, fun j hj1 hj2 => ?_⟩
              by_cases e : j = i
              · rw [e]
                exact hq1
              · exact h' j (by omega) hj2
    obtain ⟨r, hr, hra, hr2⟩ := key 0 (Nat.zero_le _) (a - l.length) (by omega) (by omega)
    refine ⟨r, Ev.neg c hr, by omega, ?_⟩
    rcases hr2 with h | ⟨h, h'⟩
    · exact .inl h
    · refine .inr ⟨h, by omega, fun x hx => ?_⟩
      obtain ⟨j, hj, rfl⟩ := List.getElem_of_mem hx
      have := h' j (Nat.zero_le _) hj
      rwa [List.getD_eq_getElem?_getD, List.getElem?_eq_getElem hj] at this
theorem toOpS_ev (l : List S134) (h : l.length < 2097152) : Ev (fun k => laws_toOpS.f k l) (l.map cv_Op) := by
  unfold laws_toOpS.f
  refine Ev.pos (by omega) (Ev.pos (by omega) ?_)
  refine copyLoop laws_toOpS.l0 cv_Op z134 2097152 (by omega) ?_ ?_ l h _ (by simp)
  · intro xs ys i r hx hi hy h
    refine Ev.step (fun k => rfl) (Ev.pos (by omega) (Ev.pos (by omega) (Ev.bindS rfl (Ev.pos (by omega) ?_))))
    rw [wsucc (by omega)]
    exact h
  · intro xs ys
    exact Ev.step (fun k => rfl) (Ev.neg (by omega) (Ev.now _))
theorem eqOp_self (a0 : Int) (a1 : ByteArray) (a2 : ByteArray) : laws_eqOp.f a0 a1 a2 a0 a1 a2 = some true := by simp [laws_eqOp.f]
theorem eqOpS_ev (l : List S114) (h : l.length < 2097152) : Ev (fun k => laws_eqOpS.f k l l) true := by
  unfold laws_eqOpS.f
  refine Ev.pos rfl ?_
  have key : ∀ i, i ≤ l.length → Ev (fun k => laws_eqOpS.l0 k l l (i : Int)) true := by
    refine downTo l.length (Ev.step (fun k => rfl) (Ev.neg (by omega) (Ev.now _))) ?_
    intro i hi ih
    refine Ev.step (fun k => rfl) (Ev.pos (by omega) (Ev.pos (by omega) (Ev.pos (by omega) (Ev.bindS (eqOp_self _ _ _) (Ev.pos rfl ?_)))))
    rw [wsucc (by omega)]
    exact ih
  exact key 0 (Nat.zero_le _)
noncomputable def mk_Op (k : Int) : S114 := ⟨k, mt (k + 1), mt (k + 2)⟩

/-! #### Slot -/
def cv_Slot (x : S125) : S88 := ⟨x.f0, x.f1, x.f2⟩
def wf_Slot (x : S125) : Prop := x.f0.size ≤ 9223372036854775807 ∧ -9223372036854775808 ≤ x.f1 ∧ x.f1 ≤ 9223372036854775807 ∧ -9223372036854775808 ≤ x.f2 ∧ x.f2 ≤ 9223372036854775807
def sm_Slot (x : S125) : Prop := x.f0.size ≤ 1048576
theorem szSlot_ev (x : S125) (a : Int) (hw : wf_Slot x) (h0 : 0 ≤ a) (h1 : a ≤ 1048576) : ∃ r, laws_szSlot.f (x.f0) (x.f1) (x.f2) a = some r ∧ r ≤ a ∧ (r = -1 ∨ 0 ≤ r ∧ sm_Slot x) := by
  unfold wf_Slot at hw
  unfold sm_Slot
  unfold laws_szSlot.f
  rw [wid (x := a - (x.f0.size : Int)) (by omega) (by omega)]
  by_cases c0 : a - (x.f0.size : Int) < 0
  · exact ⟨-1, by rw [if_pos c0], by omega, .inl rfl⟩
  · rw [if_neg c0]
    exact ⟨_, rfl, by omega, .inr ⟨by omega, by omega⟩⟩
theorem szSlotS_ev (l : List S125) (a : Int) (hw : ∀ x ∈ l, wf_Slot x) (hl : l.length ≤ 9223372036854775807) (h0 : 0 ≤ a) (h1 : a ≤ 1048576) :
    ∃ r, Ev (fun k => laws_szSlotS.f k l a) r ∧ r ≤ a ∧ (r = -1 ∨ 0 ≤ r ∧ (l.length : Int) ≤ a ∧ ∀ x ∈ l, sm_Slot x) := by
  unfold laws_szSlotS.f
  rw [wid (x := a - (l.length : Int)) (by omega) (by omega)]
  by_cases c : a - (l.length : Int) < 0
  · exact ⟨-1, Ev.pos c (Ev.now _), by omega, .inl rfl⟩
  · have key : ∀ i, i ≤ l.length → ∀ b : Int, 0 ≤ b → b ≤ 1048576 → ∃ r, Ev (fun k => laws_szSlotS.l0 k l b (i : Int)) r ∧ r ≤ b ∧ (r = -1 ∨ 0 ≤ r ∧ ∀ j, i ≤ j → j < l.length → sm_Slot (l.getD j z125)) := by
      refine downTo l.length ?_ ?_
      · intro b hb _
        exact ⟨b, Ev.step (fun k => rfl) (Ev.neg (by omega) (Ev.now _)), by omega, .inr ⟨hb, fun j h1 h2 => by omega⟩⟩
      · intro i hi ih b hb hb1
        have hmem : l.getD i z125 ∈ l := by rw [List.getD_eq_getElem?_getD, List.getElem?_eq_getElem hi]; exact List.getElem_mem hi
        obtain ⟨q, hq, hqb, hq2⟩ := szSlot_ev (l.getD i z125) b (hw _ hmem) hb hb1
        rcases hq2 with rfl | ⟨hq0, hq1⟩
        · exact ⟨-1, Ev.step (fun k => rfl) (Ev.pos (by omega) (Ev.pos (by omega) (Ev.bindS hq (Ev.pos (by omega) (Ev.now _))))), by omega, .inl rfl⟩
        · obtain ⟨r, hr, hrq, hr2⟩ := ih q hq0 (by omega)
          refine ⟨r, Ev.step (fun k => rfl) (Ev.pos (by omega) (Ev.pos (by omega) (Ev.bindS hq (Ev.neg (by omega) ?_)))), by omega, ?_⟩
          · rw [wsucc (by omega)]
            exact hr
          · rcases hr2 with h | ⟨h, h'⟩
            · exact .inl h
            · refine .inr ⟨h, fun j hj1 hj2 => ?_⟩
              by_cases e : j = i
              · rw [e]
                exact hq1
              · exact h' j (by omega) hj2
    obtain ⟨r, hr, hra, hr2⟩ := key 0 (Nat.zero_le _) (a - l.length) (by omega) (by omega)
    refine ⟨r, Ev.neg c hr, by omega, ?_⟩
    rcases hr2 with h | ⟨h, h'⟩
    · exact .inl h
    · refine .inr ⟨h, by omega, fun x hx => ?_⟩
      obtain ⟨j, hj, rfl⟩ := List.getElem_of_mem hx
      have := h' j (Nat.zero_le _) hj
      rwa [List.getD_eq_getElem?_getD, List.getElem?_eq_getElem hj] at this
theorem toSlotS_ev (l : List S125) (h : l.length < 2097152) : Ev (fun k => laws_toSlotS.f k l) (l.map cv_Slot) := by
  unfold laws_toSlotS.f
  refine Ev.pos (by omega) (Ev.pos (by omega) ?_)
  refine copyLoop laws_toSlotS.l0 cv_Slot z125 2097152 (by omega) ?_ ?_ l h _ (by simp)
  · intro xs ys i r hx hi hy h
    refine Ev.step (fun k => rfl) (Ev.pos (by omega) (Ev.pos (by omega) (Ev.bindS rfl (Ev.pos (by omega) ?_))))
    rw [wsucc (by omega)]
    exact h
  · intro xs ys
    exact Ev.step (fun k => rfl) (Ev.neg (by omega) (Ev.now _))
theorem eqSlot_self (a0 : ByteArray) (a1 : Int) (a2 : Int) : laws_eqSlot.f a0 a1 a2 a0 a1 a2 = some true := by simp [laws_eqSlot.f]
theorem eqSlotS_ev (l : List S88) (h : l.length < 2097152) : Ev (fun k => laws_eqSlotS.f k l l) true := by
  unfold laws_eqSlotS.f
  refine Ev.pos rfl ?_
  have key : ∀ i, i ≤ l.length → Ev (fun k => laws_eqSlotS.l0 k l l (i : Int)) true := by
    refine downTo l.length (Ev.step (fun k => rfl) (Ev.neg (by omega) (Ev.now _))) ?_
    intro i hi ih
    refine Ev.step (fun k => rfl) (Ev.pos (by omega) (Ev.pos (by omega) (Ev.pos (by omega) (Ev.bindS (eqSlot_self _ _ _) (Ev.pos rfl ?_)))))
    rw [wsucc (by omega)]
    exact ih
  exact key 0 (Nat.zero_le _)
theorem toInt64S_ev (l : List Int) (h : l.length < 2097152) : Ev (fun k => laws_toInt64S.f k l) l := by
  unfold laws_toInt64S.f
  refine Ev.pos (by omega) (Ev.pos (by omega) ?_)
  have := copyLoop laws_toInt64S.l0 (fun x => x) (0 : Int) 2097152 (by omega) ?_ ?_ l h (List.replicate ((l.length : Int)).toNat 0) (by simp)
  · simpa using this
  · intro xs ys i r hx hi hy h
    refine Ev.step (fun k => rfl) (Ev.pos (by omega) (Ev.pos (by omega) (Ev.pos (by omega) ?_)))
    rw [wsucc (by omega)]
    exact h
  · intro xs ys
    exact Ev.step (fun k => rfl) (Ev.neg (by omega) (Ev.now _))
theorem eqInt64S_ev (l : List Int) (h : l.length < 2097152) : Ev (fun k => laws_eqInt64S.f k l l) true := by
  unfold laws_eqInt64S.f
  refine Ev.pos rfl ?_
  have key : ∀ i, i ≤ l.length → Ev (fun k => laws_eqInt64S.l0 k l l (i : Int)) true := by
    refine downTo l.length (Ev.step (fun k => rfl) (Ev.neg (by omega) (Ev.now _))) ?_
    intro i hi ih
    refine Ev.step (fun k => rfl) (Ev.pos (by omega) (Ev.pos (by omega) (Ev.pos (by omega) (Ev.pos rfl ?_))))
    rw [wsucc (by omega)]
    exact ih
  exact key 0 (Nat.zero_le _)
end Go.Proofs.Ytedgdnkbojjbmaa.P
end

section
namespace Go.Proofs.Ytedgdnkbojjbmaa.P
open Go.RowKit Go.Proofs.YtedgdnkbojjbmaaW.PrintWords Go.Proofs.YtedgdnkbojjbmaaW.PrintLast Go.Proofs.YtedgdnkbojjbmaaW.PrintMore
attribute [local go_sem] str_gtr str_leq str_geq max2_int min2_int max_two min_two max_three min_three max_four min_four   -- for this text's walks alone
set_option linter.unusedVariables false
set_option linter.unusedSimpArgs false

/-! ### impl_isUser: function 111 -/
def impl_isUser.f (a0 : ByteArray) : Option (Bool) := if (a0.size : Int) ≥ 1 then (some (decide ((a0.size : Int) ≤ 40))) else (some false)
set_option maxHeartbeats 8000000 in
set_option maxRecDepth 100000 in
theorem impl_isUser.calls (a0 : ByteArray) (r : Bool) (w : World) (h : impl_isUser.f a0 = some r) :
    Calls Try.prog 111 #[.string a0] w fun e w' => e = .returned (.bool r) ∧ Drawn0 w w' := by
  have H : (if (a0.size : Int) ≥ 1 then (some (decide ((a0.size : Int) ≤ 40))) else (some false)) = some r := h
  clear h
  by_cases c2 : (a0.size : Int) ≥ 1
  · rw [if_pos c2] at H
    have c2b0 : decide (1 ≤ (a0.size : Int)) = true := decide_eq_true c2
    have c2b1 : decide (1 ≤ a0.size) = true := decide_eq_true (by omega)
    clear c2
    obtain rfl := Option.some.inj H
    go_enter Try.func111, Try.ntmps111
    go_wp2
    go_ret
    exact ⟨by first | rfl | (simp; done) | (simp [*]; done), by repeat (first | exact Drawn0.refl _ | apply Drawn0.step)⟩
  · rw [if_neg c2] at H
    have c2b0 : decide (1 ≤ (a0.size : Int)) = false := decide_eq_false c2
    have c2b1 : decide (1 ≤ a0.size) = false := decide_eq_false (by omega)
    clear c2
    obtain rfl := Option.some.inj H
    go_enter Try.func111, Try.ntmps111
    go_wp2
    go_ret
    exact ⟨by first | rfl | (simp; done) | (simp [*]; done), by repeat (first | exact Drawn0.refl _ | apply Drawn0.step)⟩

end Go.Proofs.Ytedgdnkbojjbmaa.P
end

section
namespace Go.Proofs.Ytedgdnkbojjbmaa.P
open Go.RowKit Go.Proofs.YtedgdnkbojjbmaaW.PrintWords Go.Proofs.YtedgdnkbojjbmaaW.PrintLast Go.Proofs.YtedgdnkbojjbmaaW.PrintMore
attribute [local go_sem] str_gtr str_leq str_geq max2_int min2_int max_two min_two max_three min_three max_four min_four   -- for this text's walks alone
set_option linter.unusedVariables false
set_option linter.unusedSimpArgs false

/-! ### spec_l2User: function 64 -/
def spec_l2User.f (a0 : ByteArray) : Option (Bool) := if (a0.size : Int) ≥ 1 then (some (decide ((a0.size : Int) ≤ 40))) else (some false)
set_option maxHeartbeats 8000000 in
set_option maxRecDepth 100000 in
theorem spec_l2User.calls (a0 : ByteArray) (r : Bool) (w : World) (h : spec_l2User.f a0 = some r) :
    Calls Try.prog 64 #[.string a0] w fun e w' => e = .returned (.bool r) ∧ Drawn0 w w' := by
  have H : (if (a0.size : Int) ≥ 1 then (some (decide ((a0.size : Int) ≤ 40))) else (some false)) = some r := h
  clear h
  by_cases c2 : (a0.size : Int) ≥ 1
  · rw [if_pos c2] at H
    have c2b0 : decide (1 ≤ (a0.size : Int)) = true := decide_eq_true c2
    have c2b1 : decide (1 ≤ a0.size) = true := decide_eq_true (by omega)
    clear c2
    obtain rfl := Option.some.inj H
    go_enter Try.func64, Try.ntmps64
    go_wp2
    go_ret
    exact ⟨by first | rfl | (simp; done) | (simp [*]; done), by repeat (first | exact Drawn0.refl _ | apply Drawn0.step)⟩
  · rw [if_neg c2] at H
    have c2b0 : decide (1 ≤ (a0.size : Int)) = false := decide_eq_false c2
    have c2b1 : decide (1 ≤ a0.size) = false := decide_eq_false (by omega)
    clear c2
    obtain rfl := Option.some.inj H
    go_enter Try.func64, Try.ntmps64
    go_wp2
    go_ret
    exact ⟨by first | rfl | (simp; done) | (simp [*]; done), by repeat (first | exact Drawn0.refl _ | apply Drawn0.step)⟩

end Go.Proofs.Ytedgdnkbojjbmaa.P
end

section
namespace Go.Proofs.Ytedgdnkbojjbmaa.P
open Go.RowKit Go.Proofs.YtedgdnkbojjbmaaW.PrintWords Go.Proofs.YtedgdnkbojjbmaaW.PrintLast Go.Proofs.YtedgdnkbojjbmaaW.PrintMore
attribute [local go_sem] str_gtr str_leq str_geq max2_int min2_int max_two min_two max_three min_three max_four min_four   -- for this text's walks alone
set_option linter.unusedVariables false
set_option linter.unusedSimpArgs false

/-! ### impl_isSlot: function 66 -/
def impl_isSlot.f (a0 : ByteArray) (a1 : Int) : Option (Bool) := (impl_isUser.f a0).bind fun t101 => (if t101 = true then ((impl_within.f a1 1 100000).bind fun t102 => (some t102)) else (some false))
set_option maxHeartbeats 8000000 in
set_option maxRecDepth 100000 in
theorem impl_isSlot.calls (a0 : ByteArray) (a1 : Int) (r : Bool) (w : World) (h : impl_isSlot.f a0 a1 = some r) :
    Calls Try.prog 66 #[.string a0, .int .i64 a1] w fun e w' => e = .returned (.bool r) ∧ Drawn0 w w' := by
  have H : ((impl_isUser.f a0).bind fun t101 => (if t101 = true then ((impl_within.f a1 1 100000).bind fun t102 => (some t102)) else (some false))) = some r := h
  clear h
  replace H := Option.bind_eq_some_iff.mp H
  obtain ⟨t101, A30, H⟩ := H
  replace H : (if t101 = true then ((impl_within.f a1 1 100000).bind fun t102 => (some t102)) else (some false)) = some r := H
  have A3 := Aside0.mk A30
  clear A30
  by_cases c4 : t101 = true
  · subst c4
    have H1 : ((impl_within.f a1 1 100000).bind fun t102 => (some t102)) = some r := by rw [if_pos rfl] at H; exact H
    clear H
    have H := H1
    clear H1
    replace H := Option.bind_eq_some_iff.mp H
    obtain ⟨t102, A50, H⟩ := H
    replace H : (some t102) = some r := H
    have A5 := Aside0.mk A50
    clear A50
    obtain rfl := Option.some.inj H
    go_enter Try.func66, Try.ntmps66
    go_wp2_with (first | ((with_reducible refine gate_callee (f := 111) rfl ?_); refine goesL_ (some 6) rfl rfl Try.func111 (by kernel_rfl) rfl #[.string a0] rfl (by (try simp only [List.map_toArray, List.map_cons, List.map_nil]); first | done | rfl | (simp only [List.length_drop, List.length_take]; rfl) | (rw [IntWalk.u64_in _ (by omega)] <;> rfl)) ?_; (with_reducible refine (impl_isUser.calls a0 true _ A3.out).mono ?_); rintro e w' ⟨rfl, ⟨nd, rfl⟩⟩; refine ⟨_, rfl, ?_⟩) | (go_at_call 62; (with_reducible refine (impl_within.calls a1 1 100000 t102 _ A5.out).mono ?_); rintro e w' ⟨rfl, ⟨nd, rfl⟩⟩))
    go_ret
    exact ⟨by first | rfl | (simp; done) | (simp [*]; done), by repeat (first | exact Drawn0.refl _ | apply Drawn0.step)⟩
  · replace c4 := Bool.eq_false_iff.mpr c4
    subst c4
    have H1 : (some false) = some r := by rw [if_neg (show ¬ (false = true) by decide)] at H; exact H
    clear H
    have H := H1
    clear H1
    obtain rfl := Option.some.inj H
    go_enter Try.func66, Try.ntmps66
    go_wp2_with (first | ((with_reducible refine gate_callee (f := 111) rfl ?_); refine goesL_ (some 6) rfl rfl Try.func111 (by kernel_rfl) rfl #[.string a0] rfl (by (try simp only [List.map_toArray, List.map_cons, List.map_nil]); first | done | rfl | (simp only [List.length_drop, List.length_take]; rfl) | (rw [IntWalk.u64_in _ (by omega)] <;> rfl)) ?_; (with_reducible refine (impl_isUser.calls a0 false _ A3.out).mono ?_); rintro e w' ⟨rfl, ⟨nd, rfl⟩⟩; refine ⟨_, rfl, ?_⟩))
    go_ret
    exact ⟨by first | rfl | (simp; done) | (simp [*]; done), by repeat (first | exact Drawn0.refl _ | apply Drawn0.step)⟩

end Go.Proofs.Ytedgdnkbojjbmaa.P
end

section
namespace Go.Proofs.Ytedgdnkbojjbmaa.P
open Go.RowKit Go.Proofs.YtedgdnkbojjbmaaW.PrintWords Go.Proofs.YtedgdnkbojjbmaaW.PrintLast Go.Proofs.YtedgdnkbojjbmaaW.PrintMore
attribute [local go_sem] str_gtr str_leq str_geq max2_int min2_int max_two min_two max_three min_three max_four min_four   -- for this text's walks alone
set_option linter.unusedVariables false
set_option linter.unusedSimpArgs false


/-! ### The small functions of both sides -/
theorem within_ev (a b c : Int) : impl_within.f a b c = some (decide (b ≤ a ∧ a ≤ c)) := by
  unfold impl_within.f
  by_cases h : b ≤ a <;> simp [h]
theorem in_ev (a b c : Int) : spec_l1In.f a b c = some (decide (b ≤ a ∧ a ≤ c)) := by
  unfold spec_l1In.f
  by_cases h : b ≤ a <;> simp [h]
/-- A user. -/
def isU (s : ByteArray) : Prop := 1 ≤ s.size ∧ s.size ≤ 40
instance (s : ByteArray) : Decidable (isU s) := by unfold isU; infer_instance
theorem isUser_ev (a : ByteArray) : impl_isUser.f a = some (decide (isU a)) := by
  unfold impl_isUser.f isU
  by_cases h : (a.size : Int) ≥ 1
  · rw [if_pos h]
    congr 1
    exact decide_eq_decide.2 (by omega)
  · rw [if_neg h]
    congr 1
    exact (decide_eq_false (by omega)).symm
theorem l2User_ev (a : ByteArray) : spec_l2User.f a = some (decide (isU a)) := by
  unfold spec_l2User.f isU
  by_cases h : (a.size : Int) ≥ 1
  · rw [if_pos h]
    congr 1
    exact decide_eq_decide.2 (by omega)
  · rw [if_neg h]
    congr 1
    exact (decide_eq_false (by omega)).symm
theorem isSlot_ev (a : ByteArray) (n : Int) : impl_isSlot.f a n = some (decide (isU a ∧ 1 ≤ n ∧ n ≤ 100000)) := by
  unfold impl_isSlot.f
  rw [isUser_ev, within_ev]
  by_cases h : isU a <;> simp [h]
end Go.Proofs.Ytedgdnkbojjbmaa.P
end

section
namespace Go.Proofs.Ytedgdnkbojjbmaa.Pure
open Go.RowKit Go.Proofs.YtedgdnkbojjbmaaW.PrintWords Go.Proofs.YtedgdnkbojjbmaaW.PrintLast Go.Proofs.YtedgdnkbojjbmaaW.PrintMore
open Go.Proofs.Ytedgdnkbojjbmaa.P
set_option linter.unusedVariables false
set_option linter.unusedSimpArgs false

theorem FnExactShapeOk : ∀ (a0_0 : Int) (a0_1 : Int) (a0_2 : Int), (-9223372036854775808 ≤ a0_0 ∧ a0_0 ≤ 9223372036854775807) → (-9223372036854775808 ≤ a0_1 ∧ a0_1 ≤ 9223372036854775807) → (-9223372036854775808 ≤ a0_2 ∧ a0_2 ≤ 9223372036854775807) → laws_FnExactShapeOk.f a0_0 a0_1 a0_2 = some true := by
  intro a b c _ _ _
  have e : spec_ShapeOk.f a b c = impl_ShapeOk.f a b c := by
    unfold spec_ShapeOk.f impl_ShapeOk.f
    simp only [in_ev, within_ev]
  have t : ∃ r, impl_ShapeOk.f a b c = some r := by
    unfold impl_ShapeOk.f
    simp only [within_ev, Option.bind_some]
    split
    · split
      · exact ⟨_, rfl⟩
      · exact ⟨_, rfl⟩
    · exact ⟨_, rfl⟩
  obtain ⟨r, hr⟩ := t
  unfold laws_FnExactShapeOk.f laws_toShape.f
  simp [e, hr]
end Go.Proofs.Ytedgdnkbojjbmaa.Pure
end

section
namespace Go.Proofs.Ytedgdnkbojjbmaa.fnExactShapeOk
open Go.ChangeShapes Go.WideShapes Go.ChangeAt Go.RowKit
open Go.ChangeMaps (open_string shut_string)
open Go.Proofs.Ytedgdnkbojjbmaa.P
open Go.Proofs.YtedgdnkbojjbmaaW.PrintWords Go.Proofs.YtedgdnkbojjbmaaW.PrintLast Go.Proofs.YtedgdnkbojjbmaaW.PrintMore
set_option linter.unusedVariables false
set_option linter.unusedSimpArgs false
theorem own : ownKnob Try.prog.godebug = none := by kernel_rfl
theorem laidOut : laidOutB Try.prog = true := by kernel_rfl
set_option maxRecDepth 100000 in
theorem lifted (os : Os) (started : os.Started) (H : Type) (enc : TypeId × Value → H) :
    ReturnsInHanded {} Try.checked os 4 .any (Rows.fnExactShapeOkSpec.pre6 enc Try.prog Try.f4 Rows.fnExactShapeOkRow.domain false) (Rows.fnExactShapeOkSpec.post enc Try.prog Try.f4 false true false false) := by
  refine returnsInHanded_of_change_sized (C := Try.checked) own started (by kernel_rfl) Try.func4
    (ChangeSpec.witness6 (enc := enc) (C := Try.checked) false ⟨#[], #[.agg #[.int .i64 0, .int .i64 0, .int .i64 0]], []⟩ 8 (by kernel_rfl) (by kernel_rfl) (by kernel_rfl) (by kernel_rfl)) ?_
  intro W base args ds gs before hval0 hW hcnd hsz0 _
  have hval : ∀ (j : Nat) t v, Try.f4.params[j]? = some t → args[j]? = some v → Value.okWide Try.prog W .any base t v := hval0
  have hW' := hW
  obtain ⟨p, q, hA0, hV, rfl, hfz, hnd⟩ := hW
  have hA : DataW.TrodAll enc Try.prog W 0 (fun _ => true) true Try.f4.params.toList args.toList ds p := hA0
  rw [Try.params4] at hA hval
  obtain ⟨v0, vs0, d0, ds0, p0, q0, hargs, rfl, rfl, h0, r0⟩ := trodAll_cons hA
  obtain ⟨rfl, rfl, rfl⟩ := trodAll_nil r0
  obtain rfl : args = #[v0] := by cases args; simp_all
  obtain ⟨rfl, rfl⟩ := trodVars_none hV
  have k0 := h0
  have lt0 : ∀ x ∈ p0, x.block < W.heap.size := by obtain ⟨m, hm⟩ := k0; exact DataW.trod_lt m _ _ _ hm
  obtain ⟨cs0, rfl, _⟩ := okWide_struct Try.underlying25 (hval 0 25 v0 rfl rfl)
  obtain ⟨fuel0, hf0⟩ := h0
  obtain ⟨xs0, n0, _, _, hl0, hx0, hq0⟩ := DataW.trod_struct Try.underlying25 hf0
  obtain ⟨z0_0, z0_1, z0_2, hcs0⟩ : ∃ z0_0 z0_1 z0_2, (Value.agg cs0).cells.toList = [z0_0, z0_1, z0_2] := by
    have hl : (Value.agg cs0).cells.toList.length = 3 := hl0.trans (by kernel_rfl)
    match (Value.agg cs0).cells.toList, hl with
    | [z0_0, z0_1, z0_2], _ => exact ⟨z0_0, z0_1, z0_2, rfl⟩
  rw [hcs0] at hq0
  have e0_0 := hq0 0 _ rfl
  rw [List.getElem?_eq_getElem (show 0 < xs0.length by rw [hx0]; decide)] at e0_0
  obtain ⟨b0_0, hb0_0, hw0_0⟩ := (opens_i64 Try.underlying2) enc W n0 _ _ e0_0
  replace hb0_0 : (Kd.int .i64).K W b0_0 [z0_0] := hb0_0
  obtain rfl := List.head_eq_of_cons_eq hb0_0
  have e0_1 := hq0 1 _ rfl
  rw [List.getElem?_eq_getElem (show 1 < xs0.length by rw [hx0]; decide)] at e0_1
  obtain ⟨b0_1, hb0_1, hw0_1⟩ := (opens_i64 Try.underlying2) enc W n0 _ _ e0_1
  replace hb0_1 : (Kd.int .i64).K W b0_1 [z0_1] := hb0_1
  obtain rfl := List.head_eq_of_cons_eq hb0_1
  have e0_2 := hq0 2 _ rfl
  rw [List.getElem?_eq_getElem (show 2 < xs0.length by rw [hx0]; decide)] at e0_2
  obtain ⟨b0_2, hb0_2, hw0_2⟩ := (opens_i64 Try.underlying2) enc W n0 _ _ e0_2
  replace hb0_2 : (Kd.int .i64).K W b0_2 [z0_2] := hb0_2
  obtain rfl := List.head_eq_of_cons_eq hb0_2
  obtain rfl : cs0 = #[.int .i64 b0_0, .int .i64 b0_1, .int .i64 b0_2] := Array.toList_inj.1 hcs0
  clear hA0 hval0 hsz0
  have hP := Pure.FnExactShapeOk b0_0 b0_1 b0_2 hw0_0 hw0_1 hw0_2
  have hk := hP
  refine (laws_FnExactShapeOk.calls b0_0 b0_1 b0_2 true W  hk).mono fun e W' hE => ?_
  obtain ⟨rfl, bel0⟩ := hE
  have bel : Below W.heap.size W W' := by first | exact bel0 | exact bel0.below
  exact ⟨_, rfl, _, _, _, [], _, [], hW', trodAll_mk1 (shut_bool Try.underlying4 _), (trodAll_cons_mk (Below.trod laidOut (by kernel_rfl) (of_decide_eq_true (by kernel_rfl)) k0 bel lt0) trodAll_mk0), rfl, bel.frame _, fun h => by cases h⟩
theorem over : Rows.fnExactShapeOkRow.holds Try.pinned (OpenSpec.ofChange Rows.fnExactShapeOkSpec) :=
  OpenClaim.holds_of_wide 4 Try.f4 rfl rfl rfl rfl rfl rfl rfl ⟨rfl, rfl, rfl, rfl, rfl⟩ rfl rfl rfl rfl rfl (by kernel_rfl) Try.func4 (by kernel_rfl)
    (of_decide_eq_true (by kernel_rfl)) (by unfold Func.isWrapper; first | (rw [if_pos (by decide +kernel)]; kernel_rfl) | (rw [if_neg (by decide +kernel)]; exact ⟨rfl, rfl⟩))
    (fun os started H enc _ => lifted os started H enc)
theorem proved : Rows.FnExactShapeOkSaid := over
#print axioms proved
end Go.Proofs.Ytedgdnkbojjbmaa.fnExactShapeOk
namespace Go.Proofs.Ytedgdnkbojjbmaa
/-- The row, under a short name, for the claim. -/
theorem fnExactShapeOk_holds : Rows.FnExactShapeOkSaid := fnExactShapeOk.proved
end Go.Proofs.Ytedgdnkbojjbmaa
end
