/- Proved: the law FnExactCacheUsed of the given program returns true for every input of its Go types and leaves each argument as it was; no condition. (Part 3 of 3.) -/
import Derived.Test.YtedgdnkbojjbmaaCFnExactCacheUsed0
import Derived.Test.YtedgdnkbojjbmaaCFnExactCacheUsed1
import Derived.Test.YtedgdnkbojjbmaaRows
import Derived.WalkKit
import Derived.ProofKit
import Derived.OpenShut
import Derived.ShutString
import Derived.ChangeOld
import Derived.Below
import Derived.SizedLaws
section
namespace Go.Proofs.Ytedgdnkbojjbmaa.P
open Go.RowKit Go.Proofs.YtedgdnkbojjbmaaW.PrintWords Go.Proofs.YtedgdnkbojjbmaaW.PrintLast Go.Proofs.YtedgdnkbojjbmaaW.PrintMore
attribute [local go_sem] str_gtr str_leq str_geq max2_int min2_int max_two min_two max_three min_three max_four min_four   -- for this text's walks alone
set_option linter.unusedVariables false
set_option linter.unusedSimpArgs false

/-! ### laws_toOp: function 119 -/
def laws_toOp.f (a0_0 : Int) (a0_1 : ByteArray) (a0_2 : ByteArray) : Option (Int × ByteArray × ByteArray) := some (a0_0, a0_1, a0_2)
set_option maxHeartbeats 8000000 in
set_option maxRecDepth 100000 in
theorem laws_toOp.calls (a0_0 : Int) (a0_1 : ByteArray) (a0_2 : ByteArray) (r1 : Int) (r2 : ByteArray) (r3 : ByteArray) (w : World) (h : laws_toOp.f a0_0 a0_1 a0_2 = some (r1, r2, r3)) :
    Calls Try.prog 119 #[.agg #[.int .i64 a0_0, .string a0_1, .string a0_2]] w fun e w' => e = .returned (.agg #[.int .i64 r1, .string r2, .string r3]) ∧ Below w.heap.size w w' := by
  have hu134 := Try.underlying134
  have hu114 := Try.underlying114
  have HB := Aside0.mk (Below.refl w.heap.size w)
  have H : (some (a0_0, a0_1, a0_2)) = some (r1, r2, r3) := h
  clear h
  simp only [Option.some.injEq, Prod.mk.injEq] at H
  obtain ⟨rfl, rfl, rfl⟩ := H
  go_enter Try.func119, Try.ntmps119
  go_wp2_with (first | ((with_reducible refine gate_dst (N := 1) rfl ?_); refine box_event ?hg (N := 1) ?hd (cs := #[.int .i64 a0_0, .string a0_1, .string a0_2]) (t := 134) ?hr ?_; (case hd => rfl); (case hg => rfl); (case hr => first | (go_simp; done) | (go_simp; rfl)); intro gb101 hg w2 hbox hb; have n0_ := Aside0.mk (below_step (by repeat (first | (with_reducible first | exact HB.out | apply below_alloc | apply pw_below_drewN | apply below_drew1) | exact HB.out)) hb); have n1_ := Aside0.mk (hbox); have n2_ := Aside0.mk ((by rw [hg]; exact (below_size (by repeat (first | (with_reducible first | exact HB.out | apply below_alloc | apply pw_below_drewN | apply below_drew1) | exact HB.out))) : w.heap.size ≤ gb101)); have n3_ := Aside0.mk ((by rw [hg]; exact (below_size (by repeat (first | (with_reducible first | exact HB.out | apply below_alloc | apply pw_below_drewN | apply below_drew1) | exact HB.out))) : w.heap.size ≤ gb101)); clear HB; have HB := n0_; have BK101 := n1_; have GW101 := n2_; have GE101 := n3_; clear n0_ n1_ n2_ n3_; clear hb hbox hg) | ((with_reducible refine gate_dst (N := 2) rfl ?_); refine box_event ?hg (N := 2) ?hd (cs := #[.int .i64 0, .string (⟨#[]⟩ : ByteArray), .string (⟨#[]⟩ : ByteArray)]) (t := 114) ?hr ?_; (case hd => rfl); (case hg => rfl); (case hr => first | (go_simp; done) | (go_simp; rfl)); intro gb102 hg w3 hbox hb; have n0_ := Aside0.mk (blk_below (g := gb101) (o := .cells #[.int .i64 a0_0, .string a0_1, .string a0_2] 134 (0, 0)) (by (with_reducible repeat (first | refine blk_drewN ?_ _ | refine blk_drew ?_ | refine blk_alloc ?_ _)); exact BK101.out) hb); have n1_ := Aside0.mk (below_step (by repeat (first | (with_reducible first | exact HB.out | apply below_alloc | apply pw_below_drewN | apply below_drew1 | refine below_set ?_ GE101.out) | exact HB.out)) hb); have n2_ := Aside0.mk (hbox); have n3_ := Aside0.mk ((by rw [hg]; exact (below_size (by repeat (first | (with_reducible first | exact HB.out | apply below_alloc | apply pw_below_drewN | apply below_drew1 | refine below_set ?_ GE101.out) | exact HB.out))) : w.heap.size ≤ gb102)); have n4_ := Aside0.mk ((by rw [hg]; exact (below_size (by repeat (first | (with_reducible first | exact HB.out | apply below_alloc | apply pw_below_drewN | apply below_drew1 | refine below_set ?_ GE101.out) | exact HB.out))) : w.heap.size ≤ gb102)); have n5_ := Aside0.mk ((by rw [hg]; exact Nat.ne_of_lt (blk_lt (g := gb101) (o := .cells #[.int .i64 a0_0, .string a0_1, .string a0_2] 134 (0, 0)) (by (with_reducible repeat (first | refine blk_drewN ?_ _ | refine blk_drew ?_ | refine blk_alloc ?_ _)); exact BK101.out)) : gb101 ≠ gb102)); have n6_ := Aside0.mk ((by rw [hg]; exact Nat.ne_of_gt (blk_lt (g := gb101) (o := .cells #[.int .i64 a0_0, .string a0_1, .string a0_2] 134 (0, 0)) (by (with_reducible repeat (first | refine blk_drewN ?_ _ | refine blk_drew ?_ | refine blk_alloc ?_ _)); exact BK101.out)) : gb102 ≠ gb101)); clear BK101; clear HB; have BK101 := n0_; have HB := n1_; have BK102 := n2_; have GW102 := n3_; have GE102 := n4_; have NB101_102 := n5_; have NB102_101 := n6_; clear n0_ n1_ n2_ n3_ n4_ n5_ n6_; clear hb hbox hg) | ((with_reducible refine gate_dst (N := 3) rfl ?_); refine box_event ?hg (N := 3) ?hd (cs := #[.int .i64 0, .string (⟨#[]⟩ : ByteArray), .string (⟨#[]⟩ : ByteArray)]) (t := 114) ?hr ?_; (case hd => rfl); (case hg => rfl); (case hr => first | (go_simp; done) | (go_simp; rfl)); intro gb103 hg w4 hbox hb; have n0_ := Aside0.mk (blk_below (g := gb101) (o := .cells #[.int .i64 a0_0, .string a0_1, .string a0_2] 134 (0, 0)) (by (with_reducible repeat (first | refine blk_drewN ?_ _ | refine blk_drew ?_ | refine blk_alloc ?_ _)); exact BK101.out) hb); have n1_ := Aside0.mk (blk_below (g := gb102) (o := .cells #[.int .i64 0, .string (⟨#[]⟩ : ByteArray), .string (⟨#[]⟩ : ByteArray)] 114 (0, 0)) (by (with_reducible repeat (first | refine blk_drewN ?_ _ | refine blk_drew ?_ | refine blk_alloc ?_ _)); exact BK102.out) hb); have n2_ := Aside0.mk (below_step (by repeat (first | (with_reducible first | exact HB.out | apply below_alloc | apply pw_below_drewN | apply below_drew1 | refine below_set ?_ GE101.out | refine below_set ?_ GE102.out) | exact HB.out)) hb); have n3_ := Aside0.mk (hbox); have n4_ := Aside0.mk ((by rw [hg]; exact (below_size (by repeat (first | (with_reducible first | exact HB.out | apply below_alloc | apply pw_below_drewN | apply below_drew1 | refine below_set ?_ GE101.out | refine below_set ?_ GE102.out) | exact HB.out))) : w.heap.size ≤ gb103)); have n5_ := Aside0.mk ((by rw [hg]; exact (below_size (by repeat (first | (with_reducible first | exact HB.out | apply below_alloc | apply pw_below_drewN | apply below_drew1 | refine below_set ?_ GE101.out | refine below_set ?_ GE102.out) | exact HB.out))) : w.heap.size ≤ gb103)); have n6_ := Aside0.mk ((by rw [hg]; exact Nat.ne_of_lt (blk_lt (g := gb101) (o := .cells #[.int .i64 a0_0, .string a0_1, .string a0_2] 134 (0, 0)) (by (with_reducible repeat (first | refine blk_drewN ?_ _ | refine blk_drew ?_ | refine blk_alloc ?_ _)); exact BK101.out)) : gb101 ≠ gb103)); have n7_ := Aside0.mk ((by rw [hg]; exact Nat.ne_of_gt (blk_lt (g := gb101) (o := .cells #[.int .i64 a0_0, .string a0_1, .string a0_2] 134 (0, 0)) (by (with_reducible repeat (first | refine blk_drewN ?_ _ | refine blk_drew ?_ | refine blk_alloc ?_ _)); exact BK101.out)) : gb103 ≠ gb101)); have n8_ := Aside0.mk ((by rw [hg]; exact Nat.ne_of_lt (blk_lt (g := gb102) (o := .cells #[.int .i64 0, .string (⟨#[]⟩ : ByteArray), .string (⟨#[]⟩ : ByteArray)] 114 (0, 0)) (by (with_reducible repeat (first | refine blk_drewN ?_ _ | refine blk_drew ?_ | refine blk_alloc ?_ _)); exact BK102.out)) : gb102 ≠ gb103)); have n9_ := Aside0.mk ((by rw [hg]; exact Nat.ne_of_gt (blk_lt (g := gb102) (o := .cells #[.int .i64 0, .string (⟨#[]⟩ : ByteArray), .string (⟨#[]⟩ : ByteArray)] 114 (0, 0)) (by (with_reducible repeat (first | refine blk_drewN ?_ _ | refine blk_drew ?_ | refine blk_alloc ?_ _)); exact BK102.out)) : gb103 ≠ gb102)); clear BK101; clear BK102; clear HB; have BK101 := n0_; have BK102 := n1_; have HB := n2_; have BK103 := n3_; have GW103 := n4_; have GE103 := n5_; have NB101_103 := n6_; have NB103_101 := n7_; have NB102_103 := n8_; have NB103_102 := n9_; clear n0_ n1_ n2_ n3_ n4_ n5_ n6_ n7_ n8_ n9_; clear hb hbox hg; have hnb5 := NB101_102.out; have hnc5 := NB102_101.out; have hnb6 := NB101_103.out; have hnc6 := NB103_101.out; have hcz7_0 : w4.cell? ⟨gb101, 0, none⟩ = some (.int .i64 a0_0) := (blk_cell BK101.out 0).trans rfl; have hcz7_1 : w4.cell? ⟨gb101, 1, none⟩ = some (.string a0_1) := (blk_cell BK101.out 1).trans rfl; have hcz7_2 : w4.cell? ⟨gb101, 2, none⟩ = some (.string a0_2) := (blk_cell BK101.out 2).trans rfl; have hfz7_0 := blk_frozen BK101.out 0; have hfz7_1 := blk_frozen BK101.out 1; have hfz7_2 := blk_frozen BK101.out 2; have hnb8 := NB103_102.out; have hnc8 := NB102_103.out; have hcz9_0 : w4.cell? ⟨gb103, 0, none⟩ = some (.int .i64 0) := (blk_cell BK103.out 0).trans rfl; have hcz9_1 : w4.cell? ⟨gb103, 1, none⟩ = some (.string (⟨#[]⟩ : ByteArray)) := (blk_cell BK103.out 1).trans rfl; have hcz9_2 : w4.cell? ⟨gb103, 2, none⟩ = some (.string (⟨#[]⟩ : ByteArray)) := (blk_cell BK103.out 2).trans rfl; have hfz9_0 := blk_frozen BK103.out 0; have hfz9_1 := blk_frozen BK103.out 1; have hfz9_2 := blk_frozen BK103.out 2; have hcz10_0 : w4.cell? ⟨gb102, 0, none⟩ = some (.int .i64 0) := (blk_cell BK102.out 0).trans rfl; have hcz10_1 : w4.cell? ⟨gb102, 1, none⟩ = some (.string (⟨#[]⟩ : ByteArray)) := (blk_cell BK102.out 1).trans rfl; have hcz10_2 : w4.cell? ⟨gb102, 2, none⟩ = some (.string (⟨#[]⟩ : ByteArray)) := (blk_cell BK102.out 2).trans rfl; have hfz10_0 := blk_frozen BK102.out 0; have hfz10_1 := blk_frozen BK102.out 1; have hfz10_2 := blk_frozen BK102.out 2))
  refine bodyPost_ret (results_cell_row rfl _ _ gb102 114 #[.int .i64 a0_0, .string a0_1, .string a0_2] (0, 0) _ rfl (by (with_reducible repeat (first | refine blk_drewN ?_ _ | refine blk_drew ?_ | refine blk_alloc ?_ _)); refine blk_put (cs := #[.int .i64 a0_0, .string a0_1, .string (⟨#[]⟩ : ByteArray)]) ?_ 2 _ rfl; (with_reducible repeat (first | refine blk_drewN ?_ _ | refine blk_drew ?_ | refine blk_alloc ?_ _)); refine blk_put (cs := #[.int .i64 a0_0, .string (⟨#[]⟩ : ByteArray), .string (⟨#[]⟩ : ByteArray)]) ?_ 1 _ rfl; (with_reducible repeat (first | refine blk_drewN ?_ _ | refine blk_drew ?_ | refine blk_alloc ?_ _)); refine blk_put (cs := #[.int .i64 0, .string (⟨#[]⟩ : ByteArray), .string (⟨#[]⟩ : ByteArray)]) ?_ 0 _ rfl; (with_reducible repeat (first | refine blk_drewN ?_ _ | refine blk_drew ?_ | refine blk_alloc ?_ _)); refine blk_far ?_ NB102_103.out _; (with_reducible repeat (first | refine blk_drewN ?_ _ | refine blk_drew ?_ | refine blk_alloc ?_ _)); refine blk_far ?_ NB102_103.out _; (with_reducible repeat (first | refine blk_drewN ?_ _ | refine blk_drew ?_ | refine blk_alloc ?_ _)); refine blk_far ?_ NB102_103.out _; (with_reducible repeat (first | refine blk_drewN ?_ _ | refine blk_drew ?_ | refine blk_alloc ?_ _)); exact BK102.out) Try.underlying114 rfl (by kernel_rfl)) rfl ?_
  exact ⟨by first | rfl | (simp [errW_none, errW_some] <;> rfl) | (simp [*, errW_none, errW_some] <;> rfl), by repeat (first | (with_reducible first | exact HB.out | apply below_alloc | apply pw_below_drewN | apply below_drew1 | refine below_set ?_ GE101.out | refine below_set ?_ GE102.out | refine below_set ?_ GE103.out) | exact HB.out)⟩

end Go.Proofs.Ytedgdnkbojjbmaa.P
end

section
namespace Go.Proofs.Ytedgdnkbojjbmaa.P
open Go.RowKit Go.Proofs.YtedgdnkbojjbmaaW.PrintWords Go.Proofs.YtedgdnkbojjbmaaW.PrintLast Go.Proofs.YtedgdnkbojjbmaaW.PrintMore
attribute [local go_sem] str_gtr str_leq str_geq max2_int min2_int max_two min_two max_three min_three max_four min_four   -- for this text's walks alone
set_option linter.unusedVariables false
set_option linter.unusedSimpArgs false

/-! ### laws_toOpS: function 90 -/
def laws_toOpS.l0 : Nat → List (S134) → List (S114) → Int → Option ((List (S114)))
  | 0, _, _, _ => none
  | k + 1, x0, x3, x4 => if x4 < (x0.length : Int) then (if 0 ≤ x4 then ((laws_toOp.f ((rd_T134 x0 x4).f0) ((rd_T134 x0 x4).f1) ((rd_T134 x0 x4).f2)).bind fun bt105 => (if x4 < (x3.length : Int) then (laws_toOpS.l0 k x0 (x3.set (x4 : Int).toNat (⟨bt105.1, bt105.2.1, bt105.2.2⟩ : S114)) (wrap64 (x4 + 1))) else (none))) else (none)) else (some x3)
def laws_toOpS.f (k : Nat) (l0 : List (S134)) : Option ((List (S114))) := if 0 ≤ (l0.length : Int) then (if ((l0.length : Int) : Int).toNat ≤ 7036874417766 then (laws_toOpS.l0 k l0 (List.replicate ((l0.length : Int) : Int).toNat z114) 0) else (none)) else (none)
theorem laws_toOpS.mono_l : ∀ k, (∀ y0 y1 y2, LeO (laws_toOpS.l0 k y0 y1 y2) (laws_toOpS.l0 (k + 1) y0 y1 y2))
  | 0 => fun _ _ _ r h => by simp [laws_toOpS.l0] at h
  | k + 1 => by
    have ih0 := laws_toOpS.mono_l k
    · intro y0 y1 y2
      unfold laws_toOpS.l0
      repeat' first
      | (with_reducible exact ih0 _ _ _)
      | (with_reducible exact LeO.refl _)
      | (with_reducible exact LeO.none _)
      | (with_reducible refine LeO.ite ?_ ?_)
      | (with_reducible refine LeO.bind ?_ (fun _ => ?_))
      | exact ih0 _ _ _
      | exact LeO.none _
      | refine LeO.ite ?_ ?_
      | refine LeO.bind ?_ (fun _ => ?_)
theorem laws_toOpS.mono : ∀ a0 k, LeO (laws_toOpS.f k a0) (laws_toOpS.f (k + 1) a0) := by
  intro a0 k
  have ih0 := laws_toOpS.mono_l k
  unfold laws_toOpS.f
  repeat' first
      | (with_reducible exact ih0 _ _ _)
      | (with_reducible exact LeO.refl _)
      | (with_reducible exact LeO.none _)
      | (with_reducible refine LeO.ite ?_ ?_)
      | (with_reducible refine LeO.bind ?_ (fun _ => ?_))
      | exact ih0 _ _ _
      | exact LeO.none _
      | refine LeO.ite ?_ ?_
      | refine LeO.bind ?_ (fun _ => ?_)
set_option maxHeartbeats 8000000 in
set_option maxRecDepth 100000 in
theorem laws_toOpS.calls (k : Nat) (A0 : Option Addr) (c0 : Nat) (l0 : List (S134)) (r : List (S114)) (w : World) (hr0 : Kd.C k134 w A0 l0.length l0) (hc0 : l0.length ≤ c0) (h : laws_toOpS.f k l0 = some r) :
    Calls Try.prog 90 #[.slice A0 l0.length c0] w fun e w' => ∃ v0_ : Value, e = .returned (v0_) ∧ Kd.R k114 114 w' w.heap.size (fun _ => True) v0_ r ∧ Below w.heap.size w w' := by
  have hu134 := Try.underlying134
  have hu114 := Try.underlying114
  have HR0 := Aside0.mk hr0
  have HC0 := Aside0.mk hc0
  clear hr0 hc0
  have HB := Aside0.mk (Below.refl w.heap.size w)
  have H : (if 0 ≤ (l0.length : Int) then (if ((l0.length : Int) : Int).toNat ≤ 7036874417766 then (laws_toOpS.l0 k l0 (List.replicate ((l0.length : Int) : Int).toNat z114) 0) else (none)) else (none)) = some r := h
  clear h
  by_cases c2 : 0 ≤ (l0.length : Int)
  · rw [if_pos c2] at H
    have c2b0 := eq_true c2
    have c2b1 : decide (0 ≤ (l0.length : Int)) = true := decide_eq_true c2
    clear c2
    by_cases c3 : ((l0.length : Int) : Int).toNat ≤ 7036874417766
    · rw [if_pos c3] at H
      have c3b0 := eq_true c3
      have c3b1 : decide (((l0.length : Int) : Int).toNat ≤ 7036874417766) = true := decide_eq_true c3
      clear c3
      obtain ⟨y101, hy101⟩ : ∃ y_ : List (S114), y_ = (List.replicate ((l0.length : Int) : Int).toNat z114) := ⟨_, rfl⟩
      replace H : (laws_toOpS.l0 k l0 y101 0) = some r := by first | (rw [hy101]; with_reducible exact H) | (have H2_ := (Option.bind_some _ _).symm.trans H; rw [hy101]; with_reducible exact H2_) | (have H2_ := (Option.bind_some _ _).symm.trans H; with_reducible exact H2_) | with_reducible exact H | (rw [hy101]; exact H) | exact H
      have Ny101 := Aside0.mk hy101
      clear hy101
      have H' := Aside0.mk H
      clear H
      go_enter Try.func90, Try.ntmps90
      go_wp2_with (first | ((with_reducible refine gate_dst (N := 7) rfl ?_); refine Kd.R_make k114 _ 114 rfl (N := 7) rfl 68 _ _ rfl (l0.length : Int) rfl rfl Try.underlying68 (.agg #[(.int .i64 0), (.string ⟨#[]⟩), (.string ⟨#[]⟩)]) 40 info114 rfl (by decide) (by omega) z114 (ok := fun _ => True) (okp := fun _ => True) (k114_mkM _ _ _ z114 ) (fun _ hk => hk) trivial (of_decide_eq_true (by first | (with_reducible assumption) | assumption)) (Nat.le_trans (Nat.mul_le_mul_right _ (of_decide_eq_true (by first | (with_reducible assumption) | assumption) : (l0.length : Int).toNat ≤ 7036874417766)) (by omega)) (Below.refl _ _) (Nat.le_refl _) ?_; intro v102 w4 ho5 hb hg_ hnew_; clear hg_ hnew_; (first | rw [← Ny101.out] at ho5 | (simp only [Int.reduceToNat] at ho5; rw [← Ny101.out] at ho5)); have n0_ := Aside0.mk (Kd.R_lower ho5 (below_size (by repeat (first | (with_reducible first | exact HB.out | apply below_alloc | apply pw_below_drewN | apply below_drew1) | exact HB.out)))); have n1_ := Aside0.mk (below_step (by repeat (first | (with_reducible first | exact HB.out | apply below_alloc | apply pw_below_drewN | apply below_drew1) | exact HB.out)) hb); clear HB; have HO103 := n0_; have HB := n1_; clear n0_ n1_; clear hb ho5))
      go_loopg [4] k (fun kq v4 w' => ∃ (x3_1 : List (S114)) (x4_1 : Int), v4 = .int .i64 x4_1 ∧ Aside0 (laws_toOpS.l0 kq l0 x3_1 x4_1 = some r) ∧ Aside0 (kq ≤ k) ∧ Aside0 (Kd.R k114 114 w' w.heap.size (fun _ => True) v102 x3_1) ∧ Aside0 (Below w.heap.size w w'))
      case atStart => exact ⟨(y101), (0), (by first | rfl | (simp; done) | (simp [*]; done)), H', ⟨Nat.le_refl _⟩, ⟨by (with_reducible repeat (first | apply Kd.R_alloc | apply Kd.R_drewN | apply Kd.R_drew)); exact HO103.out⟩, ⟨by repeat (first | (with_reducible first | exact HB.out | apply below_alloc | apply pw_below_drewN | apply below_drew1) | exact HB.out)⟩⟩
      case round =>
        clear H'
        try clear c2
        try clear c2b0
        try clear c2b1
        try clear p2
        try clear c3
        try clear c3b0
        try clear c3b1
        obtain ⟨x3_1, x4_1, rfl, HA, HK1, HO_3, HB⟩ := hrel
        cases gk with
        | zero => exact absurd HA.out (by simp [laws_toOpS.l0])
        | succ k1 =>
          have H := HA.out
          clear HA
          simp only [laws_toOpS.l0] at H
          by_cases c6 : x4_1 < (l0.length : Int)
          · rw [if_pos c6] at H
            have c6b0 : decide (x4_1 < (l0.length : Int)) = true := decide_eq_true c6
            clear c6
            by_cases c7 : 0 ≤ x4_1
            · rw [if_pos c7] at H
              have c7b0 : decide (0 ≤ x4_1) = true := decide_eq_true c7
              clear c7
              replace H := Option.bind_eq_some_iff.mp H
              obtain ⟨⟨t105, t106, t107⟩, A80, H⟩ := H
              replace H : (if x4_1 < (x3_1.length : Int) then (laws_toOpS.l0 k1 l0 (x3_1.set (x4_1 : Int).toNat (⟨t105, t106, t107⟩ : S114)) (wrap64 (x4_1 + 1))) else (none)) = some r := H
              have A8 := Aside0.mk A80
              clear A80
              by_cases c9 : x4_1 < (x3_1.length : Int)
              · rw [if_pos c9] at H
                have c9b0 : decide (x4_1 < (x3_1.length : Int)) = true := decide_eq_true c9
                clear c9
                obtain ⟨y108, hy108⟩ : ∃ y_ : List (S114), y_ = (x3_1.set (x4_1 : Int).toNat (⟨t105, t106, t107⟩ : S114)) := ⟨_, rfl⟩
                replace H : (laws_toOpS.l0 k1 l0 y108 (wrap64 (x4_1 + 1))) = some r := by first | (rw [hy108]; with_reducible exact H) | (have H2_ := (Option.bind_some _ _).symm.trans H; rw [hy108]; with_reducible exact H2_) | (have H2_ := (Option.bind_some _ _).symm.trans H; with_reducible exact H2_) | with_reducible exact H | (rw [hy108]; exact H) | exact H
                have Ny108 := Aside0.mk hy108
                clear hy108
                have H' := Aside0.mk H
                clear H
                have p104 : 0 ≤ (x4_1 : Int) := of_decide_eq_true (by first | (with_reducible assumption) | assumption)
                have q104 : x4_1 < (l0.length : Int) := of_decide_eq_true (by first | (with_reducible assumption) | assumption)
                obtain ⟨ad104, e104, hx104_0, hx104_1, hx104_2⟩ := at_T134 HR0.out x4_1 p104 q104
                cases e104
                replace hx104_0 := (HB.out.cell (World.block_lt_of_cell? w _ hx104_0)).trans hx104_0
                replace hx104_1 := (HB.out.cell (World.block_lt_of_cell? w _ hx104_1)).trans hx104_1
                replace hx104_2 := (HB.out.cell (World.block_lt_of_cell? w _ hx104_2)).trans hx104_2
                replace p104 := eq_true p104
                replace q104 := eq_true q104
                go_wp2_with (first | ((with_reducible refine gate_callee (f := 119) rfl ?_); refine goesL_ (some 20) rfl rfl Try.func119 (by kernel_rfl) rfl #[.agg #[.int .i64 ((rd_T134 l0 x4_1).f0), .string ((rd_T134 l0 x4_1).f1), .string ((rd_T134 l0 x4_1).f2)]] rfl (by (try simp only [List.map_toArray, List.map_cons, List.map_nil]); first | done | rfl | (simp only [List.length_drop, List.length_take]; rfl) | (rw [IntWalk.u64_in _ (by omega)] <;> rfl)) ?_; (with_reducible refine (laws_toOp.calls ((rd_T134 l0 x4_1).f0) ((rd_T134 l0 x4_1).f1) ((rd_T134 l0 x4_1).f2) t105 t106 t107 _ A8.out).mono ?_); rintro e w11 ⟨rfl, hb⟩; refine ⟨_, rfl, ?_⟩; have n0_ := Aside0.mk (Kd.R_below (by (with_reducible repeat (first | apply Kd.R_alloc | apply Kd.R_drewN | apply Kd.R_drew)); exact HO_3.out) hb); have n1_ := Aside0.mk (below_step (by repeat (first | (with_reducible first | exact HB.out | apply below_alloc | apply pw_below_drewN | apply below_drew1) | exact HB.out)) hb); clear HO_3; clear HB; have HO_3 := n0_; have HB := n1_; clear n0_ n1_; (try clear hb); (try clear hb2); (try clear hk); (try clear hi); have p10 : 0 ≤ (x4_1 : Int) := of_decide_eq_true (by first | (with_reducible assumption) | assumption); have q10 : (x4_1 : Int) < ((x3_1.length : Int) : Int) := of_decide_eq_true (by first | (with_reducible assumption) | assumption); obtain ⟨go10, co10, eo10, gb10, gl10, cl10, HG10⟩ := Kd.R_form HO_3.out (by omega); (first | cases eo10 | (injection eo10 with ea_ en_ ec_; (first | subst ea_ | (injection ea_ with ea_; subst ea_)); subst ec_; clear en_)); have GB10 := Aside0.mk gb10; have GG10 := Aside0.mk HG10; clear gb10 gl10 HG10; obtain ⟨ce10, hcl10, hM10, hcc10, hfr10⟩ := Kd.R_elem HO_3.out z114 (x4_1 : Int) p10 q10; obtain rfl := k114_openM hM10; have hx10_0 : w11.cell? ⟨go10, (x4_1 : Int).toNat * 3, none⟩ = some (.int .i64 ((rd_T114 x3_1 x4_1).f0)) := hcc10 0 _ rfl; have hx10_1 : w11.cell? ⟨go10, (x4_1 : Int).toNat * 3 + 1, none⟩ = some (.string ((rd_T114 x3_1 x4_1).f1)) := hcc10 1 _ rfl; have hx10_2 : w11.cell? ⟨go10, (x4_1 : Int).toNat * 3 + 2, none⟩ = some (.string ((rd_T114 x3_1 x4_1).f2)) := hcc10 2 _ rfl; have hf10_0 : w11.frozen? ⟨go10, (x4_1 : Int).toNat * 3, none⟩ = false := hfr10 0; have hf10_1 : w11.frozen? ⟨go10, (x4_1 : Int).toNat * 3 + 1, none⟩ = false := hfr10 1; have hf10_2 : w11.frozen? ⟨go10, (x4_1 : Int).toNat * 3 + 2, none⟩ = false := hfr10 2; clear hcl10 hcc10 hfr10 hM10; replace p10 := eq_true p10; replace q10 := eq_true q10; have HX12 := Aside0.mk (show Kd.R k114 114 w11 w.heap.size (fun _ => True) (.slice (some ⟨go10, 0, none⟩) x3_1.length co10) x3_1 from (by (with_reducible repeat (first | apply Kd.R_alloc | apply Kd.R_drewN | apply Kd.R_drew)); exact HO_3.out)); obtain ⟨ce12, hcl12, hM12, hcc12, hfr12⟩ := Kd.R_elem HX12.out z114 (x4_1 : Int) (of_decide_eq_true (by first | (with_reducible assumption) | assumption)) (by have h_ : (x4_1 : Int) < ((x3_1.length : Int) : Int) := of_decide_eq_true (by first | (with_reducible assumption) | assumption); first | exact h_ | (have e_ := (Kd.R_reads' HO_3.out).1; omega) | simpa using h_); obtain rfl := k114_openM hM12; have HP12 := Kd.R_seg HX12.out (x4_1 : Int) (of_decide_eq_true (by first | (with_reducible assumption) | assumption)) (by have h_ : (x4_1 : Int) < ((x3_1.length : Int) : Int) := of_decide_eq_true (by first | (with_reducible assumption) | assumption); first | exact h_ | (have e_ := (Kd.R_reads' HO_3.out).1; omega) | simpa using h_) (seg := [.int .i64 t105, .string t106, .string t107]) (j := 0) hcl12 hcc12 (show 3 ≤ 3 from by decide) (x' := (⟨t105, t106, t107⟩ : S114)) (k114_mkM _ _ _ (⟨t105, t106, t107⟩ : S114) ) (fun _ hk => hk); have hx12_0 := hcc12 0 _ rfl; (try simp only [show (k114).sz = 3 from rfl, Nat.mul_one, Nat.add_zero] at hx12_0); have hf12_0 := hfr12 0; (try simp only [show (k114).sz = 3 from rfl, Nat.mul_one, Nat.add_zero] at hf12_0); have hx12_1 := hcc12 1 _ rfl; (try simp only [show (k114).sz = 3 from rfl, Nat.mul_one, Nat.add_zero] at hx12_1); have hf12_1 := hfr12 1; (try simp only [show (k114).sz = 3 from rfl, Nat.mul_one, Nat.add_zero] at hf12_1); have hx12_2 := hcc12 2 _ rfl; (try simp only [show (k114).sz = 3 from rfl, Nat.mul_one, Nat.add_zero] at hx12_2); have hf12_2 := hfr12 2; (try simp only [show (k114).sz = 3 from rfl, Nat.mul_one, Nat.add_zero] at hf12_2); clear hcl12 hcc12 hfr12 hM12) | ((with_reducible refine gate_store (t := 114) (p := 21) rfl ?_); refine store_event (t := 114) (p := 21) (v := ?vo_w13) (w1 := (((w11.setCell ⟨go10, (x4_1 : Int).toNat * 3, none⟩ (.int .i64 t105)).setCell ⟨go10, (x4_1 : Int).toNat * 3 + 1, none⟩ (.string t106)).setCell ⟨go10, (x4_1 : Int).toNat * 3 + 2, none⟩ (.string t107))) ?hg ?ho ?hn ?hr ?_; (case ho => rfl); (case hg => rfl); (case hn => rfl); (case hr => first | (go_simp; done) | (go_simp; rfl)); intro w13 hw; have hg : w11.grownBy w13 (some go10) := (by rw [hw]; exact HP12.2); have hp_ : Kd.R k114 114 w13 w.heap.size (fun _ => True) (.slice (some ⟨go10, 0, none⟩) x3_1.length co10) y108 := (by rw [hw, Ny108.out]; exact HP12.1); clear HP12; have n0_ := Aside0.mk (hp_); have n1_ := Aside0.mk ((by rw [hw]; exact below_set (below_set (below_set (HB.out) GB10.out) GB10.out) GB10.out : Below w.heap.size w w13)); clear HO_3; clear HB; have HO_3 := n0_; have HB := n1_; clear n0_ n1_; clear hg hw hp_))
                go_roundg k1
                case measure => have := HK1.out; omega
                case rel => exact ⟨(y108), (wrap64 (x4_1 + 1)), (by first | rfl | (simp; done) | (simp [*]; done)), H', ⟨by have := HK1.out; omega⟩, ⟨by (with_reducible repeat (first | apply Kd.R_alloc | apply Kd.R_drewN | apply Kd.R_drew)); exact HO_3.out⟩, ⟨by repeat (first | (with_reducible first | exact HB.out | apply below_alloc | apply pw_below_drewN | apply below_drew1) | exact HB.out)⟩⟩
              · rw [if_neg c9] at H
                exact absurd H (by simp)
            · rw [if_neg c7] at H
              exact absurd H (by simp)
          · rw [if_neg c6] at H
            have c6b0 : decide (x4_1 < (l0.length : Int)) = false := decide_eq_false c6
            clear c6
            obtain rfl := Option.some.inj H
            go_wp2
            go_ret
            exact ⟨_, by first | rfl | (simp [errW_none, errW_some] <;> rfl) | (simp [*, errW_none, errW_some] <;> rfl), by (with_reducible repeat (first | apply Kd.R_alloc | apply Kd.R_drewN | apply Kd.R_drew)); exact HO_3.out, by repeat (first | (with_reducible first | exact HB.out | apply below_alloc | apply pw_below_drewN | apply below_drew1) | exact HB.out)⟩
    · rw [if_neg c3] at H
      exact absurd H (by simp)
  · rw [if_neg c2] at H
    exact absurd H (by simp)

end Go.Proofs.Ytedgdnkbojjbmaa.P
end

section
namespace Go.Proofs.Ytedgdnkbojjbmaa.P
open Go.RowKit Go.Proofs.YtedgdnkbojjbmaaW.PrintWords Go.Proofs.YtedgdnkbojjbmaaW.PrintLast Go.Proofs.YtedgdnkbojjbmaaW.PrintMore
attribute [local go_sem] str_gtr str_leq str_geq max2_int min2_int max_two min_two max_three min_three max_four min_four   -- for this text's walks alone
set_option linter.unusedVariables false
set_option linter.unusedSimpArgs false

/-! ### laws_eqOpS: function 93 -/
def laws_eqOpS.l0 : Nat → List (S114) → List (S114) → Int → Option (Bool)
  | 0, _, _, _ => none
  | k + 1, x0, x1, x5 => if x5 < (x0.length : Int) then (if 0 ≤ x5 then (if x5 < (x1.length : Int) then ((laws_eqOp.f ((rd_T114 x0 x5).f0) ((rd_T114 x0 x5).f1) ((rd_T114 x0 x5).f2) ((rd_T114 x1 x5).f0) ((rd_T114 x1 x5).f1) ((rd_T114 x1 x5).f2)).bind fun t103 => (if t103 = true then (laws_eqOpS.l0 k x0 x1 (wrap64 (x5 + 1))) else (some false))) else (none)) else (none)) else (some true)
def laws_eqOpS.f (k : Nat) (l0 : List (S114)) (l1 : List (S114)) : Option (Bool) := if (l0.length : Int) = (l1.length : Int) then (laws_eqOpS.l0 k l0 l1 0) else (some false)
theorem laws_eqOpS.mono_l : ∀ k, (∀ y0 y1 y2, LeO (laws_eqOpS.l0 k y0 y1 y2) (laws_eqOpS.l0 (k + 1) y0 y1 y2))
  | 0 => fun _ _ _ r h => by simp [laws_eqOpS.l0] at h
  | k + 1 => by
    have ih0 := laws_eqOpS.mono_l k
    · intro y0 y1 y2
      unfold laws_eqOpS.l0
      repeat' first
      | (with_reducible exact ih0 _ _ _)
      | (with_reducible exact LeO.refl _)
      | (with_reducible exact LeO.none _)
      | (with_reducible refine LeO.ite ?_ ?_)
      | (with_reducible refine LeO.bind ?_ (fun _ => ?_))
      | exact ih0 _ _ _
      | exact LeO.none _
      | refine LeO.ite ?_ ?_
      | refine LeO.bind ?_ (fun _ => ?_)
theorem laws_eqOpS.mono : ∀ a0 a1 k, LeO (laws_eqOpS.f k a0 a1) (laws_eqOpS.f (k + 1) a0 a1) := by
  intro a0 a1 k
  have ih0 := laws_eqOpS.mono_l k
  unfold laws_eqOpS.f
  repeat' first
      | (with_reducible exact ih0 _ _ _)
      | (with_reducible exact LeO.refl _)
      | (with_reducible exact LeO.none _)
      | (with_reducible refine LeO.ite ?_ ?_)
      | (with_reducible refine LeO.bind ?_ (fun _ => ?_))
      | exact ih0 _ _ _
      | exact LeO.none _
      | refine LeO.ite ?_ ?_
      | refine LeO.bind ?_ (fun _ => ?_)
def laws_eqOpS.T6 : Bool × List (List Nat × List Nat) := (true, [([], []), ([], []), ([0, 1], [0, 1]), ([2], [2]), ([], []), ([], []), ([4, 5], [4, 5]), ([6], [6]), ([3, 7], [3, 7]), ([8], [8])])
def laws_eqOpS.B6 : List Nat := [0, 0, 3, 7, 0, 0, 48, 112, 255, 511]
theorem laws_eqOpS.tab6 : rtab .any (opsOf Try.f93 6) = laws_eqOpS.T6 := by kernel_rfl
theorem laws_eqOpS.bits6 : waitsOk laws_eqOpS.T6.2 laws_eqOpS.B6 = true := by kernel_rfl
set_option maxHeartbeats 8000000 in
set_option maxRecDepth 100000 in
theorem laws_eqOpS.calls (k : Nat) (A0 : Option Addr) (c0 : Nat) (l0 : List (S114)) (A1 : Option Addr) (c1 : Nat) (l1 : List (S114)) (r : Bool) (w : World) (hr0 : Kd.C k114 w A0 l0.length l0) (hc0 : l0.length ≤ c0) (hr1 : Kd.C k114 w A1 l1.length l1) (hc1 : l1.length ≤ c1) (h : laws_eqOpS.f k l0 l1 = some r) :
    Calls Try.prog 93 #[.slice A0 l0.length c0, .slice A1 l1.length c1] w fun e w' => e = .returned (.bool r) ∧ Below w.heap.size w w' := by
  have hu114 := Try.underlying114
  have HR0 := Aside0.mk hr0
  have HC0 := Aside0.mk hc0
  clear hr0 hc0
  have HR1 := Aside0.mk hr1
  have HC1 := Aside0.mk hc1
  clear hr1 hc1
  have HB := Aside0.mk (Below.refl w.heap.size w)
  have H : (if (l0.length : Int) = (l1.length : Int) then (laws_eqOpS.l0 k l0 l1 0) else (some false)) = some r := h
  clear h
  by_cases c3 : (l0.length : Int) = (l1.length : Int)
  · rw [if_pos c3] at H
    have c3b0 : ((l0.length : Int) == (l1.length : Int)) = true := beq_iff_eq.mpr c3
    have c3b1 : ((l0.length : Int) != (l1.length : Int)) = false := bne_eq_false_iff_eq.mpr c3
    have c3b2 : (l0.length == l1.length) = true := by first | simpa using c3 | (simp at c3 ⊢; omega)
    clear c3
    have H' := Aside0.mk H
    clear H
    go_enter Try.func93, Try.ntmps93
    go_wp2
    go_loopg [5] k (fun kq v5 w' => ∃ (x5_1 : Int), v5 = .int .i64 x5_1 ∧ Aside0 (laws_eqOpS.l0 kq l0 l1 x5_1 = some r) ∧ Aside0 (kq ≤ k) ∧ Aside0 (Below w.heap.size w w'))
    case atStart => exact ⟨(0), (by first | rfl | (simp; done) | (simp [*]; done)), H', ⟨Nat.le_refl _⟩, ⟨by repeat (first | (with_reducible first | exact HB.out | apply below_alloc | apply pw_below_drewN | apply below_drew1) | exact HB.out)⟩⟩
    case round =>
      clear H'
      try clear c1
      try clear p2
      try clear c3
      try clear c3b0
      try clear c3b1
      try clear c3b2
      obtain ⟨x5_1, rfl, HA, HK1, HB⟩ := hrel
      cases gk with
      | zero => exact absurd HA.out (by simp [laws_eqOpS.l0])
      | succ k1 =>
        have H := HA.out
        clear HA
        simp only [laws_eqOpS.l0] at H
        by_cases c4 : x5_1 < (l0.length : Int)
        · rw [if_pos c4] at H
          have c4b0 : decide (x5_1 < (l0.length : Int)) = true := decide_eq_true c4
          clear c4
          by_cases c5 : 0 ≤ x5_1
          · rw [if_pos c5] at H
            have c5b0 : decide (0 ≤ x5_1) = true := decide_eq_true c5
            clear c5
            by_cases c6 : x5_1 < (l1.length : Int)
            · rw [if_pos c6] at H
              have c6b0 : decide (x5_1 < (l1.length : Int)) = true := decide_eq_true c6
              clear c6
              replace H := Option.bind_eq_some_iff.mp H
              obtain ⟨t103, A70, H⟩ := H
              replace H : (if t103 = true then (laws_eqOpS.l0 k1 l0 l1 (wrap64 (x5_1 + 1))) else (some false)) = some r := H
              have A7 := Aside0.mk A70
              clear A70
              by_cases c8 : t103 = true
              · subst c8
                have H1 : (laws_eqOpS.l0 k1 l0 l1 (wrap64 (x5_1 + 1))) = some r := by rw [if_pos rfl] at H; exact H
                clear H
                have H := H1
                clear H1
                have H' := Aside0.mk H
                clear H
                try go_wp2
                have n0_ := Aside0.mk (below_drew1 HB.out)
                clear HB
                have HB := n0_
                clear n0_
                have p101 : 0 ≤ (x5_1 : Int) := of_decide_eq_true (by first | (with_reducible assumption) | assumption)
                have q101 : x5_1 < (l0.length : Int) := of_decide_eq_true (by first | (with_reducible assumption) | assumption)
                obtain ⟨ad101, e101, hx101_0, hx101_1, hx101_2⟩ := at_T114 HR0.out x5_1 p101 q101
                have hw101_2 := hx101_2
                have hw101_1 := hx101_1
                have hw101_0 := hx101_0
                cases e101
                replace hx101_0 := (HB.out.cell (World.block_lt_of_cell? w _ hx101_0)).trans hx101_0
                replace hx101_1 := (HB.out.cell (World.block_lt_of_cell? w _ hx101_1)).trans hx101_1
                replace hx101_2 := (HB.out.cell (World.block_lt_of_cell? w _ hx101_2)).trans hx101_2
                replace p101 := eq_true p101
                replace q101 := eq_true q101
                have p102 : 0 ≤ (x5_1 : Int) := of_decide_eq_true (by first | (with_reducible assumption) | assumption)
                have q102 : x5_1 < (l1.length : Int) := of_decide_eq_true (by first | (with_reducible assumption) | assumption)
                obtain ⟨ad102, e102, hx102_0, hx102_1, hx102_2⟩ := at_T114 HR1.out x5_1 p102 q102
                have hw102_2 := hx102_2
                have hw102_1 := hx102_1
                have hw102_0 := hx102_0
                cases e102
                replace hx102_0 := (HB.out.cell (World.block_lt_of_cell? w _ hx102_0)).trans hx102_0
                replace hx102_1 := (HB.out.cell (World.block_lt_of_cell? w _ hx102_1)).trans hx102_1
                replace hx102_2 := (HB.out.cell (World.block_lt_of_cell? w _ hx102_2)).trans hx102_2
                replace p102 := eq_true p102
                replace q102 := eq_true q102
                refine start_ (n := 10) (S := fun w' => w'.cell? (ad101.add ((x5_1).toNat * 3)) = some (.int .i64 ((rd_T114 l0 x5_1).f0)) ∧ w'.cell? ⟨(ad101.add ((x5_1).toNat * 3)).block, (ad101.add ((x5_1).toNat * 3)).off + 1, none⟩ = some (.string ((rd_T114 l0 x5_1).f1)) ∧ w'.cell? ⟨(ad101.add ((x5_1).toNat * 3)).block, (ad101.add ((x5_1).toNat * 3)).off + 2, none⟩ = some (.string ((rd_T114 l0 x5_1).f2)) ∧ w'.cell? (ad102.add ((x5_1).toNat * 3)) = some (.int .i64 ((rd_T114 l1 x5_1).f0)) ∧ w'.cell? ⟨(ad102.add ((x5_1).toNat * 3)).block, (ad102.add ((x5_1).toNat * 3)).off + 1, none⟩ = some (.string ((rd_T114 l1 x5_1).f1)) ∧ w'.cell? ⟨(ad102.add ((x5_1).toNat * 3)).block, (ad102.add ((x5_1).toNat * 3)).off + 2, none⟩ = some (.string ((rd_T114 l1 x5_1).f2))) (ds := []) #[false, false, false, false, false, false, false, false, false, false] (by kernel_rfl) rfl rfl ⟨((HB.out.cell (World.block_lt_of_cell? w _ hw101_0)).trans hw101_0), ((HB.out.cell (World.block_lt_of_cell? w _ hw101_1)).trans hw101_1), ((HB.out.cell (World.block_lt_of_cell? w _ hw101_2)).trans hw101_2), ((HB.out.cell (World.block_lt_of_cell? w _ hw102_0)).trans hw102_0), ((HB.out.cell (World.block_lt_of_cell? w _ hw102_1)).trans hw102_1), ((HB.out.cell (World.block_lt_of_cell? w _ hw102_2)).trans hw102_2)⟩ (fun hHeld => ?_); refine with_tabW laws_eqOpS.tab6 laws_eqOpS.bits6 (fun HT_ HW_ => ?_)
                generalize wr.drew = w9 at HB hx101_0 hx101_1 hx101_2 hx102_0 hx102_1 hx102_2 hHeld ⊢
                refine pure_ (i := 0) (N := some 17) (v := ?_) (a' := ?_) #[true, false, false, false, false, false, false, false, false, false] rfl rfl (any_of HT_.out (by kernel_rfl)) (fun _ _ _ h => h) (Or.inl ⟨by rfl, ?_⟩) ?_ ?_
                rotate_left
                · intro w'
                  go_simp
                  with_reducible rfl
                rotate_left
                · simp only [Act.put, List.setIfInBounds_toArray, List.set_cons_zero, List.set_cons_succ, i64_w, i32_w]
                  rfl
                refine pure_ (i := 1) (N := some 18) (v := ?_) (a' := ?_) #[true, true, false, false, false, false, false, false, false, false] rfl rfl (any_of HT_.out (by kernel_rfl)) (fun _ _ _ h => h) (Or.inl ⟨by rfl, ?_⟩) ?_ ?_
                rotate_left
                · intro w'
                  go_simp
                  with_reducible rfl
                rotate_left
                · simp only [Act.put, List.setIfInBounds_toArray, List.set_cons_zero, List.set_cons_succ, i64_w, i32_w]
                  rfl
                refine pure_ (i := 2) (N := some 19) (v := ?_) (a' := ?_) #[true, true, true, false, false, false, false, false, false, false] rfl rfl (any_of HT_.out (by kernel_rfl)) (fun _ _ _ h => h) (Or.inl ⟨by rfl, ?_⟩) ?_ ?_
                rotate_left
                · intro w'
                  go_simp
                  with_reducible rfl
                rotate_left
                · simp only [Act.put, List.setIfInBounds_toArray, List.set_cons_zero, List.set_cons_succ, i64_w, i32_w]
                  rfl
                refine pure_ (i := 4) (N := some 21) (v := ?_) (a' := ?_) #[true, true, true, false, true, false, false, false, false, false] rfl rfl (any_of HT_.out (by kernel_rfl)) (fun _ _ _ h => h) (Or.inl ⟨by rfl, ?_⟩) ?_ ?_
                rotate_left
                · intro w'
                  go_simp
                  with_reducible rfl
                rotate_left
                · simp only [Act.put, List.setIfInBounds_toArray, List.set_cons_zero, List.set_cons_succ, i64_w, i32_w]
                  rfl
                refine pure_ (i := 5) (N := some 22) (v := ?_) (a' := ?_) #[true, true, true, false, true, true, false, false, false, false] rfl rfl (any_of HT_.out (by kernel_rfl)) (fun _ _ _ h => h) (Or.inl ⟨by rfl, ?_⟩) ?_ ?_
                rotate_left
                · intro w'
                  go_simp
                  with_reducible rfl
                rotate_left
                · simp only [Act.put, List.setIfInBounds_toArray, List.set_cons_zero, List.set_cons_succ, i64_w, i32_w]
                  rfl
                refine pure_ (i := 6) (N := some 23) (v := ?_) (a' := ?_) #[true, true, true, false, true, true, true, false, false, false] rfl rfl (any_of HT_.out (by kernel_rfl)) (fun _ _ _ h => h) (Or.inl ⟨by rfl, ?_⟩) ?_ ?_
                rotate_left
                · intro w'
                  go_simp
                  with_reducible rfl
                rotate_left
                · simp only [Act.put, List.setIfInBounds_toArray, List.set_cons_zero, List.set_cons_succ, i64_w, i32_w]
                  rfl
                refine take_ (i := 3) (N := some 20) (v := ?_) (a' := ?_) #[true, true, true, true, true, true, true, false, false, false] rfl rfl (take_ofW HT_.out HW_.out (by kernel_rfl)) (fun _ _ _ h => h) (Or.inl ⟨by rfl, ?_⟩) hHeld ?_ ?_
                rotate_left
                · rintro w' ⟨s0, s1, s2, s3, s4, s5⟩
                  go_simp
                  with_reducible rfl
                rotate_left
                · simp only [Act.put, List.setIfInBounds_toArray, List.set_cons_zero, List.set_cons_succ, i64_w, i32_w]
                  rfl
                refine take_ (i := 7) (N := some 24) (v := ?_) (a' := ?_) #[true, true, true, true, true, true, true, true, false, false] rfl rfl (take_ofW HT_.out HW_.out (by kernel_rfl)) (fun _ _ _ h => h) (Or.inl ⟨by rfl, ?_⟩) hHeld ?_ ?_
                rotate_left
                · rintro w' ⟨s0, s1, s2, s3, s4, s5⟩
                  go_simp
                  with_reducible rfl
                rotate_left
                · simp only [Act.put, List.setIfInBounds_toArray, List.set_cons_zero, List.set_cons_succ, i64_w, i32_w]
                  rfl
                refine one_ (i := 8) (N := some 25) #[true, true, true, true, true, true, true, true, true, false] rfl rfl (one_of HT_.out (by kernel_rfl)) (by decide) (fun K hK => ?_)
                refine goes_ Try.func124 (by kernel_rfl) rfl #[.agg #[.int .i64 ((rd_T114 l0 x5_1).f0), .string ((rd_T114 l0 x5_1).f1), .string ((rd_T114 l0 x5_1).f2)], .agg #[.int .i64 ((rd_T114 l1 x5_1).f0), .string ((rd_T114 l1 x5_1).f1), .string ((rd_T114 l1 x5_1).f2)]] (by rfl) rfl rfl (by (try simp only [List.map_toArray, List.map_cons, List.map_nil]); first | done | rfl | (simp only [List.length_drop, List.length_take]; rfl) | (rw [IntWalk.u64_in _ (by omega)] <;> rfl)) ?_
                with_reducible refine (laws_eqOp.calls ((rd_T114 l0 x5_1).f0) ((rd_T114 l0 x5_1).f1) ((rd_T114 l0 x5_1).f2) ((rd_T114 l1 x5_1).f0) ((rd_T114 l1 x5_1).f1) ((rd_T114 l1 x5_1).f2) true _ A7.out).mono ?_
                rintro e w10 ⟨rfl, hb⟩
                refine ⟨_, rfl, ?_⟩
                have n0_ := Aside0.mk (below_step (by repeat (first | (with_reducible first | exact HB.out | apply below_alloc | apply pw_below_drewN | apply below_drew1) | exact HB.out)) hb)
                clear HB
                have HB := n0_
                clear n0_
                (try clear hb)
                (try clear hb2)
                (try clear hk)
                (try clear hi)
                refine hK.out _ _ ⟨((HB.out.cell (World.block_lt_of_cell? w _ hw101_0)).trans hw101_0), ((HB.out.cell (World.block_lt_of_cell? w _ hw101_1)).trans hw101_1), ((HB.out.cell (World.block_lt_of_cell? w _ hw101_2)).trans hw101_2), ((HB.out.cell (World.block_lt_of_cell? w _ hw102_0)).trans hw102_0), ((HB.out.cell (World.block_lt_of_cell? w _ hw102_1)).trans hw102_1), ((HB.out.cell (World.block_lt_of_cell? w _ hw102_2)).trans hw102_2)⟩ (fun hHeld => ?_)
                clear hK K
                refine norm_ (a' := ?_) ?_ ?_
                rotate_left
                · show Act.put _ (some 25) _ = _
                  simp only [Act.put, List.setIfInBounds_toArray, List.set_cons_zero, List.set_cons_succ, i64_w, i32_w]
                  rfl
                refine pure_ (i := 9) (N := some 26) (v := ?_) (a' := ?_) #[true, true, true, true, true, true, true, true, true, true] rfl rfl (any_of HT_.out (by kernel_rfl)) (fun _ _ _ h => h) (Or.inl ⟨by rfl, ?_⟩) ?_ ?_
                rotate_left
                · intro w'
                  go_simp
                  with_reducible rfl
                rotate_left
                · simp only [Act.put, List.setIfInBounds_toArray, List.set_cons_zero, List.set_cons_succ, i64_w, i32_w]
                  rfl
                refine done_ (done_of HT_.out (by kernel_rfl)) ?_
                try go_wp2
                go_roundg k1
                case measure => have := HK1.out; omega
                case rel => exact ⟨(wrap64 (x5_1 + 1)), (by first | rfl | (simp; done) | (simp [*]; done)), H', ⟨by have := HK1.out; omega⟩, ⟨by repeat (first | (with_reducible first | exact HB.out | apply below_alloc | apply pw_below_drewN | apply below_drew1) | exact HB.out)⟩⟩
              · replace c8 := Bool.eq_false_iff.mpr c8
                subst c8
                have H1 : (some false) = some r := by rw [if_neg (show ¬ (false = true) by decide)] at H; exact H
                clear H
                have H := H1
                clear H1
                obtain rfl := Option.some.inj H
                try go_wp2
                have n0_ := Aside0.mk (below_drew1 HB.out)
                clear HB
                have HB := n0_
                clear n0_
                have p101 : 0 ≤ (x5_1 : Int) := of_decide_eq_true (by first | (with_reducible assumption) | assumption)
                have q101 : x5_1 < (l0.length : Int) := of_decide_eq_true (by first | (with_reducible assumption) | assumption)
                obtain ⟨ad101, e101, hx101_0, hx101_1, hx101_2⟩ := at_T114 HR0.out x5_1 p101 q101
                have hw101_2 := hx101_2
                have hw101_1 := hx101_1
                have hw101_0 := hx101_0
                cases e101
                replace hx101_0 := (HB.out.cell (World.block_lt_of_cell? w _ hx101_0)).trans hx101_0
                replace hx101_1 := (HB.out.cell (World.block_lt_of_cell? w _ hx101_1)).trans hx101_1
                replace hx101_2 := (HB.out.cell (World.block_lt_of_cell? w _ hx101_2)).trans hx101_2
                replace p101 := eq_true p101
                replace q101 := eq_true q101
                have p102 : 0 ≤ (x5_1 : Int) := of_decide_eq_true (by first | (with_reducible assumption) | assumption)
                have q102 : x5_1 < (l1.length : Int) := of_decide_eq_true (by first | (with_reducible assumption) | assumption)
                obtain ⟨ad102, e102, hx102_0, hx102_1, hx102_2⟩ := at_T114 HR1.out x5_1 p102 q102
                have hw102_2 := hx102_2
                have hw102_1 := hx102_1
                have hw102_0 := hx102_0
                cases e102
                replace hx102_0 := (HB.out.cell (World.block_lt_of_cell? w _ hx102_0)).trans hx102_0
                replace hx102_1 := (HB.out.cell (World.block_lt_of_cell? w _ hx102_1)).trans hx102_1
                replace hx102_2 := (HB.out.cell (World.block_lt_of_cell? w _ hx102_2)).trans hx102_2
                replace p102 := eq_true p102
                replace q102 := eq_true q102
                refine start_ (n := 10) (S := fun w' => w'.cell? (ad101.add ((x5_1).toNat * 3)) = some (.int .i64 ((rd_T114 l0 x5_1).f0)) ∧ w'.cell? ⟨(ad101.add ((x5_1).toNat * 3)).block, (ad101.add ((x5_1).toNat * 3)).off + 1, none⟩ = some (.string ((rd_T114 l0 x5_1).f1)) ∧ w'.cell? ⟨(ad101.add ((x5_1).toNat * 3)).block, (ad101.add ((x5_1).toNat * 3)).off + 2, none⟩ = some (.string ((rd_T114 l0 x5_1).f2)) ∧ w'.cell? (ad102.add ((x5_1).toNat * 3)) = some (.int .i64 ((rd_T114 l1 x5_1).f0)) ∧ w'.cell? ⟨(ad102.add ((x5_1).toNat * 3)).block, (ad102.add ((x5_1).toNat * 3)).off + 1, none⟩ = some (.string ((rd_T114 l1 x5_1).f1)) ∧ w'.cell? ⟨(ad102.add ((x5_1).toNat * 3)).block, (ad102.add ((x5_1).toNat * 3)).off + 2, none⟩ = some (.string ((rd_T114 l1 x5_1).f2))) (ds := []) #[false, false, false, false, false, false, false, false, false, false] (by kernel_rfl) rfl rfl ⟨((HB.out.cell (World.block_lt_of_cell? w _ hw101_0)).trans hw101_0), ((HB.out.cell (World.block_lt_of_cell? w _ hw101_1)).trans hw101_1), ((HB.out.cell (World.block_lt_of_cell? w _ hw101_2)).trans hw101_2), ((HB.out.cell (World.block_lt_of_cell? w _ hw102_0)).trans hw102_0), ((HB.out.cell (World.block_lt_of_cell? w _ hw102_1)).trans hw102_1), ((HB.out.cell (World.block_lt_of_cell? w _ hw102_2)).trans hw102_2)⟩ (fun hHeld => ?_); refine with_tabW laws_eqOpS.tab6 laws_eqOpS.bits6 (fun HT_ HW_ => ?_)
                generalize wr.drew = w11 at HB hx101_0 hx101_1 hx101_2 hx102_0 hx102_1 hx102_2 hHeld ⊢
                refine pure_ (i := 0) (N := some 17) (v := ?_) (a' := ?_) #[true, false, false, false, false, false, false, false, false, false] rfl rfl (any_of HT_.out (by kernel_rfl)) (fun _ _ _ h => h) (Or.inl ⟨by rfl, ?_⟩) ?_ ?_
                rotate_left
                · intro w'
                  go_simp
                  with_reducible rfl
                rotate_left
                · simp only [Act.put, List.setIfInBounds_toArray, List.set_cons_zero, List.set_cons_succ, i64_w, i32_w]
                  rfl
                refine pure_ (i := 1) (N := some 18) (v := ?_) (a' := ?_) #[true, true, false, false, false, false, false, false, false, false] rfl rfl (any_of HT_.out (by kernel_rfl)) (fun _ _ _ h => h) (Or.inl ⟨by rfl, ?_⟩) ?_ ?_
                rotate_left
                · intro w'
                  go_simp
                  with_reducible rfl
                rotate_left
                · simp only [Act.put, List.setIfInBounds_toArray, List.set_cons_zero, List.set_cons_succ, i64_w, i32_w]
                  rfl
                refine pure_ (i := 2) (N := some 19) (v := ?_) (a' := ?_) #[true, true, true, false, false, false, false, false, false, false] rfl rfl (any_of HT_.out (by kernel_rfl)) (fun _ _ _ h => h) (Or.inl ⟨by rfl, ?_⟩) ?_ ?_
                rotate_left
                · intro w'
                  go_simp
                  with_reducible rfl
                rotate_left
                · simp only [Act.put, List.setIfInBounds_toArray, List.set_cons_zero, List.set_cons_succ, i64_w, i32_w]
                  rfl
                refine pure_ (i := 4) (N := some 21) (v := ?_) (a' := ?_) #[true, true, true, false, true, false, false, false, false, false] rfl rfl (any_of HT_.out (by kernel_rfl)) (fun _ _ _ h => h) (Or.inl ⟨by rfl, ?_⟩) ?_ ?_
                rotate_left
                · intro w'
                  go_simp
                  with_reducible rfl
                rotate_left
                · simp only [Act.put, List.setIfInBounds_toArray, List.set_cons_zero, List.set_cons_succ, i64_w, i32_w]
                  rfl
                refine pure_ (i := 5) (N := some 22) (v := ?_) (a' := ?_) #[true, true, true, false, true, true, false, false, false, false] rfl rfl (any_of HT_.out (by kernel_rfl)) (fun _ _ _ h => h) (Or.inl ⟨by rfl, ?_⟩) ?_ ?_
                rotate_left
                · intro w'
                  go_simp
                  with_reducible rfl
                rotate_left
                · simp only [Act.put, List.setIfInBounds_toArray, List.set_cons_zero, List.set_cons_succ, i64_w, i32_w]
                  rfl
                refine pure_ (i := 6) (N := some 23) (v := ?_) (a' := ?_) #[true, true, true, false, true, true, true, false, false, false] rfl rfl (any_of HT_.out (by kernel_rfl)) (fun _ _ _ h => h) (Or.inl ⟨by rfl, ?_⟩) ?_ ?_
                rotate_left
                · intro w'
                  go_simp
                  with_reducible rfl
                rotate_left
                · simp only [Act.put, List.setIfInBounds_toArray, List.set_cons_zero, List.set_cons_succ, i64_w, i32_w]
                  rfl
                refine take_ (i := 3) (N := some 20) (v := ?_) (a' := ?_) #[true, true, true, true, true, true, true, false, false, false] rfl rfl (take_ofW HT_.out HW_.out (by kernel_rfl)) (fun _ _ _ h => h) (Or.inl ⟨by rfl, ?_⟩) hHeld ?_ ?_
                rotate_left
                · rintro w' ⟨s0, s1, s2, s3, s4, s5⟩
                  go_simp
                  with_reducible rfl
                rotate_left
                · simp only [Act.put, List.setIfInBounds_toArray, List.set_cons_zero, List.set_cons_succ, i64_w, i32_w]
                  rfl
                refine take_ (i := 7) (N := some 24) (v := ?_) (a' := ?_) #[true, true, true, true, true, true, true, true, false, false] rfl rfl (take_ofW HT_.out HW_.out (by kernel_rfl)) (fun _ _ _ h => h) (Or.inl ⟨by rfl, ?_⟩) hHeld ?_ ?_
                rotate_left
                · rintro w' ⟨s0, s1, s2, s3, s4, s5⟩
                  go_simp
                  with_reducible rfl
                rotate_left
                · simp only [Act.put, List.setIfInBounds_toArray, List.set_cons_zero, List.set_cons_succ, i64_w, i32_w]
                  rfl
                refine one_ (i := 8) (N := some 25) #[true, true, true, true, true, true, true, true, true, false] rfl rfl (one_of HT_.out (by kernel_rfl)) (by decide) (fun K hK => ?_)
                refine goes_ Try.func124 (by kernel_rfl) rfl #[.agg #[.int .i64 ((rd_T114 l0 x5_1).f0), .string ((rd_T114 l0 x5_1).f1), .string ((rd_T114 l0 x5_1).f2)], .agg #[.int .i64 ((rd_T114 l1 x5_1).f0), .string ((rd_T114 l1 x5_1).f1), .string ((rd_T114 l1 x5_1).f2)]] (by rfl) rfl rfl (by (try simp only [List.map_toArray, List.map_cons, List.map_nil]); first | done | rfl | (simp only [List.length_drop, List.length_take]; rfl) | (rw [IntWalk.u64_in _ (by omega)] <;> rfl)) ?_
                with_reducible refine (laws_eqOp.calls ((rd_T114 l0 x5_1).f0) ((rd_T114 l0 x5_1).f1) ((rd_T114 l0 x5_1).f2) ((rd_T114 l1 x5_1).f0) ((rd_T114 l1 x5_1).f1) ((rd_T114 l1 x5_1).f2) false _ A7.out).mono ?_
                rintro e w12 ⟨rfl, hb⟩
                refine ⟨_, rfl, ?_⟩
                have n0_ := Aside0.mk (below_step (by repeat (first | (with_reducible first | exact HB.out | apply below_alloc | apply pw_below_drewN | apply below_drew1) | exact HB.out)) hb)
                clear HB
                have HB := n0_
                clear n0_
                (try clear hb)
                (try clear hb2)
                (try clear hk)
                (try clear hi)
                refine hK.out _ _ ⟨((HB.out.cell (World.block_lt_of_cell? w _ hw101_0)).trans hw101_0), ((HB.out.cell (World.block_lt_of_cell? w _ hw101_1)).trans hw101_1), ((HB.out.cell (World.block_lt_of_cell? w _ hw101_2)).trans hw101_2), ((HB.out.cell (World.block_lt_of_cell? w _ hw102_0)).trans hw102_0), ((HB.out.cell (World.block_lt_of_cell? w _ hw102_1)).trans hw102_1), ((HB.out.cell (World.block_lt_of_cell? w _ hw102_2)).trans hw102_2)⟩ (fun hHeld => ?_)
                clear hK K
                refine norm_ (a' := ?_) ?_ ?_
                rotate_left
                · show Act.put _ (some 25) _ = _
                  simp only [Act.put, List.setIfInBounds_toArray, List.set_cons_zero, List.set_cons_succ, i64_w, i32_w]
                  rfl
                refine pure_ (i := 9) (N := some 26) (v := ?_) (a' := ?_) #[true, true, true, true, true, true, true, true, true, true] rfl rfl (any_of HT_.out (by kernel_rfl)) (fun _ _ _ h => h) (Or.inl ⟨by rfl, ?_⟩) ?_ ?_
                rotate_left
                · intro w'
                  go_simp
                  with_reducible rfl
                rotate_left
                · simp only [Act.put, List.setIfInBounds_toArray, List.set_cons_zero, List.set_cons_succ, i64_w, i32_w]
                  rfl
                refine done_ (done_of HT_.out (by kernel_rfl)) ?_
                try go_wp2
                go_ret
                exact ⟨by first | rfl | (simp [errW_none, errW_some] <;> rfl) | (simp [*, errW_none, errW_some] <;> rfl), by repeat (first | (with_reducible first | exact HB.out | apply below_alloc | apply pw_below_drewN | apply below_drew1) | exact HB.out)⟩
            · rw [if_neg c6] at H
              exact absurd H (by simp)
          · rw [if_neg c5] at H
            exact absurd H (by simp)
        · rw [if_neg c4] at H
          have c4b0 : decide (x5_1 < (l0.length : Int)) = false := decide_eq_false c4
          clear c4
          obtain rfl := Option.some.inj H
          go_wp2
          go_ret
          exact ⟨by first | rfl | (simp [errW_none, errW_some] <;> rfl) | (simp [*, errW_none, errW_some] <;> rfl), by repeat (first | (with_reducible first | exact HB.out | apply below_alloc | apply pw_below_drewN | apply below_drew1) | exact HB.out)⟩
  · rw [if_neg c3] at H
    have c3b0 : ((l0.length : Int) == (l1.length : Int)) = false := beq_eq_false_iff_ne.mpr c3
    have c3b1 : ((l0.length : Int) != (l1.length : Int)) = true := bne_iff_ne.mpr c3
    have c3b2 : (l0.length == l1.length) = false := by first | simpa using c3 | (simp at c3 ⊢; omega)
    obtain rfl := Option.some.inj H
    go_enter Try.func93, Try.ntmps93
    go_wp2
    go_ret
    exact ⟨by first | rfl | (simp [errW_none, errW_some] <;> rfl) | (simp [*, errW_none, errW_some] <;> rfl), by repeat (first | (with_reducible first | exact HB.out | apply below_alloc | apply pw_below_drewN | apply below_drew1) | exact HB.out)⟩

end Go.Proofs.Ytedgdnkbojjbmaa.P
end

section
namespace Go.Proofs.Ytedgdnkbojjbmaa.P
open Go.RowKit Go.Proofs.YtedgdnkbojjbmaaW.PrintWords Go.Proofs.YtedgdnkbojjbmaaW.PrintLast Go.Proofs.YtedgdnkbojjbmaaW.PrintMore
attribute [local go_sem] str_gtr str_leq str_geq max2_int min2_int max_two min_two max_three min_three max_four min_four   -- for this text's walks alone
set_option linter.unusedVariables false
set_option linter.unusedSimpArgs false


/-! ### What the exact laws' own helpers compute (laws.toX, szX, eqX, markX, heldX), type by type -/
theorem strOfNums_size (l : List Int) : (strOfNums l).size = l.length := by
  unfold strOfNums
  simp [ByteArray.size]

theorem markText_ends (n : Int) (h : n < 1099511627776) : ∃ r, Ev (fun k => laws_markText.f k n) r := by
  by_cases h0 : n ≤ 0
  · exact ⟨_, by unfold laws_markText.f; exact Ev.pos h0 (Ev.now _)⟩
  · have key : ∀ (d : Nat) (x : Int) (y : ByteArray), 0 ≤ x → x ≤ d → y.size + d < 2199023255552 → ∃ r, Ev (fun k => laws_markText.l0 k x y) r := by
      intro d
      induction d using Nat.strongRecOn with
      | _ d ih =>
        intro x y hx hd hy
        by_cases hp : x > 0
        · have ht : Int.tdiv x 10 = x / 10 := Int.tdiv_eq_ediv_of_nonneg hx
          obtain ⟨r, hr⟩ := ih (d - 1) (by omega) (x / 10) ((strOfNums [(wrap64 (48 + (Int.tmod x 10))) % 256]) ++ y) (by omega) (by omega) (by
            rw [ByteArray.size_append, strOfNums_size]
            simp only [List.length_cons, List.length_nil]
            omega)
          refine ⟨r, Ev.step (fun k => rfl) (Ev.pos hp (Ev.bindS rfl (Ev.pos (by rw [strOfNums_size]; simp only [List.length_cons, List.length_nil]; omega) ?_)))⟩
          rw [ht, wid (by omega) (by omega)]
          exact hr
        · exact ⟨_, Ev.step (fun k => rfl) (Ev.neg hp (Ev.pos (by omega) (Ev.now _)))⟩
    obtain ⟨r, hr⟩ := key n.toNat n ⟨#[]⟩ (by omega) (by omega) (by
      show 0 + n.toNat < _
      omega)
    exact ⟨r, by unfold laws_markText.f; exact Ev.neg h0 hr⟩
/-- The mark of a number. -/
noncomputable def mt (n : Int) : ByteArray := if h : n < 1099511627776 then (markText_ends n h).choose else ⟨#[]⟩
theorem markText_ev (n : Int) (h : n < 1099511627776) : Ev (fun k => laws_markText.f k n) (mt n) := by
  rw [mt, dif_pos h]
  exact (markText_ends n h).choose_spec
/-- A row whose places are marked one behind the other, c marks for each. -/
theorem markLoop {α : Type} (l : Nat → List α → Int → Int → Option (Int × List α)) (mk : Int → α) (c n : Nat) (hn : n < 2097152) (hc : c ≤ 8)
    (hs : ∀ (ys : List α) (i : Nat) (kk : Int) (r : Int × List α), ys.length = n → i < n → 0 ≤ kk → kk < 549755813888 → Ev (fun k => l k (ys.set i (mk kk)) (kk + c) ((i + 1 : Nat) : Int)) r → Ev (fun k => l k ys kk (i : Int)) r)
    (he : ∀ (ys : List α) (kk : Int), ys.length = n → Ev (fun k => l k ys kk (n : Int)) (kk, ys)) (ys : List α) (hy : ys.length = n) (k0 : Int) (h0 : 0 ≤ k0) (h1 : k0 < 274877906944) :
    Ev (fun k => l k ys k0 0) (k0 + c * n, (List.range n).map fun j : Nat => mk (k0 + (c : Int) * (j : Int))) := by
  have key : ∀ i, i ≤ n → ∀ ys : List α, ys.length = n → Ev (fun k => l k ys (k0 + c * i) (i : Int)) (k0 + c * n, ys.take i ++ (List.range' i (n - i)).map fun j : Nat => mk (k0 + (c : Int) * (j : Int))) := by
    refine downTo n ?_ ?_
    · intro ys hy
      refine Ev.eqr (he ys _ hy) ?_
      rw [Nat.sub_self, List.range'_zero, List.map_nil, List.append_nil, List.take_of_length_le (by omega)]
    · intro i hi ih ys hy
      have hcb : (c : Int) * (i : Int) ≤ 16777216 := by
        have h2 : c * i ≤ 8 * i := Nat.mul_le_mul_right i hc
        have e : (c : Int) * (i : Int) = ((c * i : Nat) : Int) := (Int.natCast_mul c i).symm
        rw [e]
        omega
      have hcp : (0 : Int) ≤ (c : Int) * (i : Int) := Int.mul_nonneg (by omega) (by omega)
      refine hs ys i _ _ hy hi (by omega) (by omega) ?_
      rw [show k0 + (c : Int) * (i : Int) + (c : Int) = k0 + (c : Int) * ((i + 1 : Nat) : Int) from by rw [Int.natCast_add, Int.mul_add]; omega]
      refine Ev.eqr (ih (ys.set i (mk (k0 + (c : Int) * (i : Int)))) (by simpa using hy)) ?_
      rw [set_take _ _ _ (by omega), List.append_assoc, show n - i = (n - (i + 1)) + 1 from by omega, List.range'_succ, List.map_cons]
      rfl
  have := key 0 (Nat.zero_le _) ys hy
  simp only [Int.natCast_zero, Int.mul_zero, Int.add_zero, List.take_zero, List.nil_append, Nat.sub_zero, ← List.range_eq_range'] at this
  exact this
theorem heldLoop {α : Type} (l : Nat → List α → Int → Int → Option Int) (mk : Int → α) (c n : Nat) (d : α) (hn : n < 2097152) (hc : c ≤ 8)
    (hs : ∀ (ys : List α) (i : Nat) (kk : Int) (r : Int), ys.length = n → i < n → 0 ≤ kk → kk < 549755813888 → ys.getD i d = mk kk → Ev (fun k => l k ys (kk + c) ((i + 1 : Nat) : Int)) r → Ev (fun k => l k ys kk (i : Int)) r)
    (he : ∀ (ys : List α) (kk : Int), ys.length = n → Ev (fun k => l k ys kk (n : Int)) kk) (k0 : Int) (h0 : 0 ≤ k0) (h1 : k0 < 274877906944) :
    Ev (fun k => l k ((List.range n).map fun j : Nat => mk (k0 + (c : Int) * (j : Int))) k0 0) (k0 + c * n) := by
  have key : ∀ i, i ≤ n → Ev (fun k => l k ((List.range n).map fun j : Nat => mk (k0 + (c : Int) * (j : Int))) (k0 + c * i) (i : Int)) (k0 + c * n) := by
    refine downTo n (he _ _ (by simp)) ?_
    intro i hi ih
    have hcb : (c : Int) * (i : Int) ≤ 16777216 := by
      have h2 : c * i ≤ 8 * i := Nat.mul_le_mul_right i hc
      have e : (c : Int) * (i : Int) = ((c * i : Nat) : Int) := (Int.natCast_mul c i).symm
      rw [e]
      omega
    have hcp : (0 : Int) ≤ (c : Int) * (i : Int) := Int.mul_nonneg (by omega) (by omega)
    refine hs _ i _ _ (by simp) hi (by omega) (by omega) ?_ ?_
    · rw [List.getD_eq_getElem?_getD, List.getElem?_map, List.getElem?_range hi]
      rfl
    · rw [show k0 + (c : Int) * (i : Int) + (c : Int) = k0 + (c : Int) * ((i + 1 : Nat) : Int) from by rw [Int.natCast_add, Int.mul_add]; omega]
      exact ih
  have := key 0 (Nat.zero_le _)
  simp only [Int.natCast_zero, Int.mul_zero, Int.add_zero] at this
  exact this


/-! #### Op -/
def cv_Op (x : S134) : S114 := ⟨x.f0, x.f1, x.f2⟩
def wf_Op (x : S134) : Prop := -9223372036854775808 ≤ x.f0 ∧ x.f0 ≤ 9223372036854775807 ∧ x.f1.size ≤ 9223372036854775807 ∧ x.f2.size ≤ 9223372036854775807
def sm_Op (x : S134) : Prop := x.f1.size ≤ 1048576 ∧ x.f2.size ≤ 1048576
theorem szOp_ev (x : S134) (a : Int) (hw : wf_Op x) (h0 : 0 ≤ a) (h1 : a ≤ 1048576) : ∃ r, laws_szOp.f (x.f0) (x.f1) (x.f2) a = some r ∧ r ≤ a ∧ (r = -1 ∨ 0 ≤ r ∧ sm_Op x) := by
  unfold wf_Op at hw
  unfold sm_Op
  unfold laws_szOp.f
  rw [wid (x := a - (x.f1.size : Int)) (by omega) (by omega)]
  by_cases c0 : a - (x.f1.size : Int) < 0
  · exact ⟨-1, by rw [if_pos c0], by omega, .inl rfl⟩
  · rw [if_neg c0]
    rw [wid (x := (a - (x.f1.size : Int)) - (x.f2.size : Int)) (by omega) (by omega)]
    by_cases c1 : (a - (x.f1.size : Int)) - (x.f2.size : Int) < 0
    · exact ⟨-1, by rw [if_pos c1], by omega, .inl rfl⟩
    · rw [if_neg c1]
      exact ⟨_, rfl, by omega, .inr ⟨by omega, by omega, by omega⟩⟩
theorem szOpS_ev (l : List S134) (a : Int) (hw : ∀ x ∈ l, wf_Op x) (hl : l.length ≤ 9223372036854775807) (h0 : 0 ≤ a) (h1 : a ≤ 1048576) :
    ∃ r, Ev (fun k => laws_szOpS.f k l a) r ∧ r ≤ a ∧ (r = -1 ∨ 0 ≤ r ∧ (l.length : Int) ≤ a ∧ ∀ x ∈ l, sm_Op x) := by
  unfold laws_szOpS.f
  rw [wid (x := a - (l.length : Int)) (by omega) (by omega)]
  by_cases c : a - (l.length : Int) < 0
  · exact ⟨-1, Ev.pos c (Ev.now _), by omega, .inl rfl⟩
  · have key : ∀ i, i ≤ l.length → ∀ b : Int, 0 ≤ b → b ≤ 1048576 → ∃ r, Ev (fun k => laws_szOpS.l0 k l b (i : Int)) r ∧ r ≤ b ∧ (r = -1 ∨ 0 ≤ r ∧ ∀ j, i ≤ j → j < l.length → sm_Op (l.getD j z134)) := by
      refine downTo l.length ?_ ?_
      · intro b hb _
        exact ⟨b, Ev.step (fun k => rfl) (Ev.neg (by omega) (Ev.now _)), by omega, .inr ⟨hb, fun j h1 h2 => by omega⟩⟩
      · intro i hi ih b hb hb1
        have hmem : l.getD i z134 ∈ l := by rw [List.getD_eq_getElem?_getD, List.getElem?_eq_getElem hi]; exact List.getElem_mem hi
        obtain ⟨q, hq, hqb, hq2⟩ := szOp_ev (l.getD i z134) b (hw _ hmem) hb hb1
        rcases hq2 with rfl | ⟨hq0, hq1⟩
        · exact ⟨-1, Ev.step (fun k => rfl) (Ev.pos (by omega) (Ev.pos (by omega) (Ev.bindS hq (Ev.pos (by omega) (Ev.now _))))), by omega, .inl rfl⟩
        · obtain ⟨r, hr, hrq, hr2⟩ := ih q hq0 (by omega)
          refine ⟨r, Ev.step (fun k => rfl) (Ev.pos (by omega) (Ev.pos (by omega) (Ev.bindS hq (Ev.neg (by omega) ?_)))), by omega, ?_⟩
          · rw [wsucc (by omega)]
            exact hr
          · rcases hr2 with h | ⟨h, h'⟩
            · exact .inl h
            · refine .inr ⟨h, fun j hj1 hj2 => ?_⟩
              by_cases e : j = i
              · rw [e]
                exact hq1
              · exact h' j (by omega) hj2
    obtain ⟨r, hr, hra, hr2⟩ := key 0 (Nat.zero_le _) (a - l.length) (by omega) (by omega)
    refine ⟨r, Ev.neg c hr, by omega, ?_⟩
    rcases hr2 with h | ⟨h, h'⟩
    · exact .inl h
    · refine .inr ⟨h, by omega, fun x hx => ?_⟩
      obtain ⟨j, hj, rfl⟩ := List.getElem_of_mem hx
      have := h' j (Nat.zero_le _) hj
      rwa [List.getD_eq_getElem?_getD, List.getElem?_eq_getElem hj] at this
theorem toOpS_ev (l : List S134) (h : l.length < 2097152) : Ev (fun k => laws_toOpS.f k l) (l.map cv_Op) := by
  unfold laws_toOpS.f
  refine Ev.pos (by omega) (Ev.pos (by omega) ?_)
  refine copyLoop laws_toOpS.l0 cv_Op z134 2097152 (by omega) ?_ ?_ l h _ (by simp)
  · intro xs ys i r hx hi hy h
    refine Ev.step (fun k => rfl) (Ev.pos (by omega) (Ev.pos (by omega) (Ev.bindS rfl (Ev.pos (by omega) ?_))))
    rw [wsucc (by omega)]
    exact h
  · intro xs ys
    exact Ev.step (fun k => rfl) (Ev.neg (by omega) (Ev.now _))
theorem eqOp_self (a0 : Int) (a1 : ByteArray) (a2 : ByteArray) : laws_eqOp.f a0 a1 a2 a0 a1 a2 = some true := by simp [laws_eqOp.f]
theorem eqOpS_ev (l : List S114) (h : l.length < 2097152) : Ev (fun k => laws_eqOpS.f k l l) true := by
  unfold laws_eqOpS.f
  refine Ev.pos rfl ?_
  have key : ∀ i, i ≤ l.length → Ev (fun k => laws_eqOpS.l0 k l l (i : Int)) true := by
    refine downTo l.length (Ev.step (fun k => rfl) (Ev.neg (by omega) (Ev.now _))) ?_
    intro i hi ih
    refine Ev.step (fun k => rfl) (Ev.pos (by omega) (Ev.pos (by omega) (Ev.pos (by omega) (Ev.bindS (eqOp_self _ _ _) (Ev.pos rfl ?_)))))
    rw [wsucc (by omega)]
    exact ih
  exact key 0 (Nat.zero_le _)
noncomputable def mk_Op (k : Int) : S114 := ⟨k, mt (k + 1), mt (k + 2)⟩

/-! #### Slot -/
def cv_Slot (x : S125) : S88 := ⟨x.f0, x.f1, x.f2⟩
def wf_Slot (x : S125) : Prop := x.f0.size ≤ 9223372036854775807 ∧ -9223372036854775808 ≤ x.f1 ∧ x.f1 ≤ 9223372036854775807 ∧ -9223372036854775808 ≤ x.f2 ∧ x.f2 ≤ 9223372036854775807
def sm_Slot (x : S125) : Prop := x.f0.size ≤ 1048576
theorem szSlot_ev (x : S125) (a : Int) (hw : wf_Slot x) (h0 : 0 ≤ a) (h1 : a ≤ 1048576) : ∃ r, laws_szSlot.f (x.f0) (x.f1) (x.f2) a = some r ∧ r ≤ a ∧ (r = -1 ∨ 0 ≤ r ∧ sm_Slot x) := by
  unfold wf_Slot at hw
  unfold sm_Slot
  unfold laws_szSlot.f
  rw [wid (x := a - (x.f0.size : Int)) (by omega) (by omega)]
  by_cases c0 : a - (x.f0.size : Int) < 0
  · exact ⟨-1, by rw [if_pos c0], by omega, .inl rfl⟩
  · rw [if_neg c0]
    exact ⟨_, rfl, by omega, .inr ⟨by omega, by omega⟩⟩
theorem szSlotS_ev (l : List S125) (a : Int) (hw : ∀ x ∈ l, wf_Slot x) (hl : l.length ≤ 9223372036854775807) (h0 : 0 ≤ a) (h1 : a ≤ 1048576) :
    ∃ r, Ev (fun k => laws_szSlotS.f k l a) r ∧ r ≤ a ∧ (r = -1 ∨ 0 ≤ r ∧ (l.length : Int) ≤ a ∧ ∀ x ∈ l, sm_Slot x) := by
  unfold laws_szSlotS.f
  rw [wid (x := a - (l.length : Int)) (by omega) (by omega)]
  by_cases c : a - (l.length : Int) < 0
  · exact ⟨-1, Ev.pos c (Ev.now _), by omega, .inl rfl⟩
  · have key : ∀ i, i ≤ l.length → ∀ b : Int, 0 ≤ b → b ≤ 1048576 → ∃ r, Ev (fun k => laws_szSlotS.l0 k l b (i : Int)) r ∧ r ≤ b ∧ (r = -1 ∨ 0 ≤ r ∧ ∀ j, i ≤ j → j < l.length → sm_Slot (l.getD j z125)) := by
      refine downTo l.length ?_ ?_
      · intro b hb _
        exact ⟨b, Ev.step (fun k => rfl) (Ev.neg (by omega) (Ev.now _)), by omega, .inr ⟨hb, fun j h1 h2 => by omega⟩⟩
      · intro i hi ih b hb hb1
        have hmem : l.getD i z125 ∈ l := by rw [List.getD_eq_getElem?_getD, List.getElem?_eq_getElem hi]; exact List.getElem_mem hi
        obtain ⟨q, hq, hqb, hq2⟩ := szSlot_ev (l.getD i z125) b (hw _ hmem) hb hb1
        rcases hq2 with rfl | ⟨hq0, hq1⟩
        · exact ⟨-1, Ev.step (fun k => rfl) (Ev.pos (by omega) (Ev.pos (by omega) (Ev.bindS hq (Ev.pos (by omega) (Ev.now _))))), by omega, .inl rfl⟩
        · obtain ⟨r, hr, hrq, hr2⟩ := ih q hq0 (by omega)
          refine ⟨r, Ev.step (fun k => rfl) (Ev.pos (by omega) (Ev.pos (by omega) (Ev.bindS hq (Ev.neg (by omega) ?_)))), by omega, ?_⟩
          · rw [wsucc (by omega)]
            exact hr
          · rcases hr2 with h | ⟨h, h'⟩
            · exact .inl h
            · refine .inr ⟨h, fun j hj1 hj2 => ?_⟩
              by_cases e : j = i
              · rw [e]
                exact hq1
              · exact h' j (by omega) hj2
    obtain ⟨r, hr, hra, hr2⟩ := key 0 (Nat.zero_le _) (a - l.length) (by omega) (by omega)
    refine ⟨r, Ev.neg c hr, by omega, ?_⟩
    rcases hr2 with h | ⟨h, h'⟩
    · exact .inl h
    · refine .inr ⟨h, by omega, fun x hx => ?_⟩
      obtain ⟨j, hj, rfl⟩ := List.getElem_of_mem hx
      have := h' j (Nat.zero_le _) hj
      rwa [List.getD_eq_getElem?_getD, List.getElem?_eq_getElem hj] at this
theorem toSlotS_ev (l : List S125) (h : l.length < 2097152) : Ev (fun k => laws_toSlotS.f k l) (l.map cv_Slot) := by
  unfold laws_toSlotS.f
  refine Ev.pos (by omega) (Ev.pos (by omega) ?_)
  refine copyLoop laws_toSlotS.l0 cv_Slot z125 2097152 (by omega) ?_ ?_ l h _ (by simp)
  · intro xs ys i r hx hi hy h
    refine Ev.step (fun k => rfl) (Ev.pos (by omega) (Ev.pos (by omega) (Ev.bindS rfl (Ev.pos (by omega) ?_))))
    rw [wsucc (by omega)]
    exact h
  · intro xs ys
    exact Ev.step (fun k => rfl) (Ev.neg (by omega) (Ev.now _))
theorem eqSlot_self (a0 : ByteArray) (a1 : Int) (a2 : Int) : laws_eqSlot.f a0 a1 a2 a0 a1 a2 = some true := by simp [laws_eqSlot.f]
theorem eqSlotS_ev (l : List S88) (h : l.length < 2097152) : Ev (fun k => laws_eqSlotS.f k l l) true := by
  unfold laws_eqSlotS.f
  refine Ev.pos rfl ?_
  have key : ∀ i, i ≤ l.length → Ev (fun k => laws_eqSlotS.l0 k l l (i : Int)) true := by
    refine downTo l.length (Ev.step (fun k => rfl) (Ev.neg (by omega) (Ev.now _))) ?_
    intro i hi ih
    refine Ev.step (fun k => rfl) (Ev.pos (by omega) (Ev.pos (by omega) (Ev.pos (by omega) (Ev.bindS (eqSlot_self _ _ _) (Ev.pos rfl ?_)))))
    rw [wsucc (by omega)]
    exact ih
  exact key 0 (Nat.zero_le _)
theorem toInt64S_ev (l : List Int) (h : l.length < 2097152) : Ev (fun k => laws_toInt64S.f k l) l := by
  unfold laws_toInt64S.f
  refine Ev.pos (by omega) (Ev.pos (by omega) ?_)
  have := copyLoop laws_toInt64S.l0 (fun x => x) (0 : Int) 2097152 (by omega) ?_ ?_ l h (List.replicate ((l.length : Int)).toNat 0) (by simp)
  · simpa using this
  · intro xs ys i r hx hi hy h
    refine Ev.step (fun k => rfl) (Ev.pos (by omega) (Ev.pos (by omega) (Ev.pos (by omega) ?_)))
    rw [wsucc (by omega)]
    exact h
  · intro xs ys
    exact Ev.step (fun k => rfl) (Ev.neg (by omega) (Ev.now _))
theorem eqInt64S_ev (l : List Int) (h : l.length < 2097152) : Ev (fun k => laws_eqInt64S.f k l l) true := by
  unfold laws_eqInt64S.f
  refine Ev.pos rfl ?_
  have key : ∀ i, i ≤ l.length → Ev (fun k => laws_eqInt64S.l0 k l l (i : Int)) true := by
    refine downTo l.length (Ev.step (fun k => rfl) (Ev.neg (by omega) (Ev.now _))) ?_
    intro i hi ih
    refine Ev.step (fun k => rfl) (Ev.pos (by omega) (Ev.pos (by omega) (Ev.pos (by omega) (Ev.pos rfl ?_))))
    rw [wsucc (by omega)]
    exact ih
  exact key 0 (Nat.zero_le _)
end Go.Proofs.Ytedgdnkbojjbmaa.P
end

section
namespace Go.Proofs.Ytedgdnkbojjbmaa.P
open Go.RowKit Go.Proofs.YtedgdnkbojjbmaaW.PrintWords Go.Proofs.YtedgdnkbojjbmaaW.PrintLast Go.Proofs.YtedgdnkbojjbmaaW.PrintMore
attribute [local go_sem] str_gtr str_leq str_geq max2_int min2_int max_two min_two max_three min_three max_four min_four   -- for this text's walks alone
set_option linter.unusedVariables false
set_option linter.unusedSimpArgs false


/-! ### The small functions of both sides -/
theorem within_ev (a b c : Int) : impl_within.f a b c = some (decide (b ≤ a ∧ a ≤ c)) := by
  unfold impl_within.f
  by_cases h : b ≤ a <;> simp [h]
theorem in_ev (a b c : Int) : spec_l1In.f a b c = some (decide (b ≤ a ∧ a ≤ c)) := by
  unfold spec_l1In.f
  by_cases h : b ≤ a <;> simp [h]
/-- A user. -/
def isU (s : ByteArray) : Prop := 1 ≤ s.size ∧ s.size ≤ 40
instance (s : ByteArray) : Decidable (isU s) := by unfold isU; infer_instance
theorem isUser_ev (a : ByteArray) : impl_isUser.f a = some (decide (isU a)) := by
  unfold impl_isUser.f isU
  by_cases h : (a.size : Int) ≥ 1
  · rw [if_pos h]
    congr 1
    exact decide_eq_decide.2 (by omega)
  · rw [if_neg h]
    congr 1
    exact (decide_eq_false (by omega)).symm
theorem l2User_ev (a : ByteArray) : spec_l2User.f a = some (decide (isU a)) := by
  unfold spec_l2User.f isU
  by_cases h : (a.size : Int) ≥ 1
  · rw [if_pos h]
    congr 1
    exact decide_eq_decide.2 (by omega)
  · rw [if_neg h]
    congr 1
    exact (decide_eq_false (by omega)).symm
theorem isSlot_ev (a : ByteArray) (n : Int) : impl_isSlot.f a n = some (decide (isU a ∧ 1 ≤ n ∧ n ≤ 100000)) := by
  unfold impl_isSlot.f
  rw [isUser_ev, within_ev]
  by_cases h : isU a <;> simp [h]
end Go.Proofs.Ytedgdnkbojjbmaa.P
end

section
namespace Go.Proofs.Ytedgdnkbojjbmaa.Pure
open Go.RowKit Go.Proofs.YtedgdnkbojjbmaaW.PrintWords Go.Proofs.YtedgdnkbojjbmaaW.PrintLast Go.Proofs.YtedgdnkbojjbmaaW.PrintMore
open Go.Proofs.Ytedgdnkbojjbmaa.P
set_option linter.unusedVariables false
set_option linter.unusedSimpArgs false

/-- What the slots take together. -/
def usedF : List S88 → Int → Int
  | [], n => n
  | x :: xs, n => usedF xs (wrap64 (n + x.f1))
theorem rdSlot (l : List S88) (i : Nat) (h : i < l.length) : rd_T88 l (i : Int) = l[i] := by
  unfold rd_T88
  rw [Int.toNat_natCast, List.getD_eq_getElem?_getD, List.getElem?_eq_getElem h]
  rfl
theorem l11Used_ev (m : Int) (l : List S88) (hl : l.length < 2097152) : Ev (fun k => spec_l11Used.f k m l) (usedF l 0) := by
  have key : ∀ i, i ≤ l.length → ∀ n, Ev (fun k => spec_l11Used.l0 k n (i : Int) m l) (usedF (l.drop i) n) := by
    refine downTo l.length ?_ ?_
    · intro n
      rw [List.drop_length]
      exact Ev.step (fun k => rfl) (Ev.neg (by omega) (Ev.now _))
    · intro i hi ih n
      rw [List.drop_eq_getElem_cons hi]
      refine Ev.step (fun k => rfl) (Ev.pos (by omega) (Ev.pos (by omega) ?_))
      rw [wsucc (by omega), rdSlot l i hi]
      exact ih _
  exact key 0 (Nat.zero_le _) 0
theorem used_ev (m : Int) (l : List S88) (hl : l.length < 2097152) : Ev (fun k => impl_Cache_used.f k m l) (usedF l 0) := by
  have key : ∀ i, i ≤ l.length → ∀ n, Ev (fun k => impl_Cache_used.l0 k n l (l.length : Int) (i : Int)) (usedF (l.drop i) n) := by
    refine downTo l.length ?_ ?_
    · intro n
      rw [List.drop_length]
      exact Ev.step (fun k => rfl) (Ev.neg (by omega) (Ev.now _))
    · intro i hi ih n
      rw [List.drop_eq_getElem_cons hi]
      refine Ev.step (fun k => rfl) (Ev.pos (by omega) (Ev.pos (by omega) (Ev.pos (by omega) ?_)))
      rw [wsucc (by omega), rdSlot l i hi]
      exact ih _
  exact key 0 (Nat.zero_le _) 0
theorem idle_ev (l : List S88) : containsFunc_idle.f l = some (l.any fun x => x.f2 == 0) := by
  unfold containsFunc_idle.f
  congr 2
/-- The inner loop: is the name met ahead? -/
theorem dup_ev (n : Int) (fr : Bool) (i : Nat) (m : Int) (l : List S88) (s : ByteArray) (sz pins : Int) (hi : i ≤ l.length) (hl : l.length < 2097152) :
    (∀ r, (∃ k, ∃ h : k < i, (l[k]'(by omega)).f0.toList = s.toList) → r = false → Ev (fun k => spec_CacheOk.l1 k n fr (i : Int) 0 m l s sz pins) r) ∧
    (∀ r, (∀ k, ∀ h : k < i, (l[k]'(by omega)).f0.toList ≠ s.toList) → Ev (fun k => spec_CacheOk.l0 k (wrap64 (n + sz)) (fr || pins == 0) (wrap64 ((i : Int) + 1)) m l) r → Ev (fun k => spec_CacheOk.l1 k n fr (i : Int) 0 m l s sz pins) r) := by
  constructor
  · rintro r ⟨j, hj, hs⟩ rfl
    have key : ∀ q, q ≤ j → Ev (fun k => spec_CacheOk.l1 k n fr (i : Int) (q : Int) m l s sz pins) false := by
      refine downTo j ?_ ?_
      · refine Ev.step (fun k => rfl) (Ev.pos (by omega) (Ev.pos (by omega) (Ev.pos (by omega) (Ev.pos ?_ (Ev.now _)))))
        rw [rdSlot l j (by omega)]
        exact hs
      · intro q hq ih
        refine Ev.step (fun k => rfl) (Ev.pos (by omega) (Ev.pos (by omega) (Ev.pos (by omega) ?_)))
        by_cases c : (rd_T88 l (q : Int)).f0.toList = s.toList
        · exact Ev.pos c (Ev.now _)
        · refine Ev.neg c ?_
          rw [wsucc (by omega)]
          exact ih
    exact key 0 (Nat.zero_le _)
  · intro r hn h
    have key : ∀ q, q ≤ i → Ev (fun k => spec_CacheOk.l1 k n fr (i : Int) (q : Int) m l s sz pins) r := by
      refine downTo i ?_ ?_
      · refine Ev.step (fun k => rfl) (Ev.neg (by omega) ?_)
        cases fr with
        | true => exact Ev.pos rfl (by simpa using h)
        | false => exact Ev.neg (by simp) (by simpa using h)
      · intro q hq ih
        refine Ev.step (fun k => rfl) (Ev.pos (by omega) (Ev.pos (by omega) (Ev.pos (by omega) (Ev.neg ?_ ?_))))
        · rw [rdSlot l q (by omega)]
          exact hn q hq
        · rw [wsucc (by omega)]
          exact ih
    exact key 0 (Nat.zero_le _)
theorem idxf_ge {α : Type} (p : α → Bool) : ∀ (l : List α) (s : Nat), idxf p l s = -1 ∨ (s : Int) ≤ idxf p l s
  | [], _ => .inl rfl
  | x :: xs, s => by
    unfold idxf
    split
    · exact .inr (Int.le_refl _)
    · rcases idxf_ge p xs (s + 1) with h | h
      · exact .inl h
      · exact .inr (by omega)
theorem idxf_ahead {α : Type} (p : α → Bool) : ∀ (l : List α) (s k : Nat), idxf p l s = ((s + k : Nat) : Int) → ∀ j, j < k → ∀ h : j < l.length, p l[j] = false
  | [], _, _, _, _, _, h => absurd h (by simp)
  | x :: xs, s, k, e, j, hj, h => by
    unfold idxf at e
    by_cases c : p x = true
    · rw [if_pos c] at e
      omega
    · rw [if_neg c] at e
      cases j with
      | zero => simpa using c
      | succ j =>
        cases k with
        | zero => omega
        | succ k =>
          have := idxf_ahead p xs (s + 1) k (by rw [e]; congr 1; omega) j (by omega) (by simpa using h)
          simpa using this
theorem find_eq (m : Int) (l : List S88) (i : Nat) (hi : i < l.length) : ∃ r, impl_Cache_find.f m l l[i].f0 = some r ∧ (r = (i : Int) ↔ ∀ k, ∀ h : k < i, (l[k]'(by omega)).f0.toList ≠ l[i].f0.toList) := by
  refine ⟨_, rfl, ?_⟩
  have gd : ∀ j, ∀ h : j < l.length, l.getD j z88 = l[j] := fun j h => by rw [List.getD_eq_getElem?_getD, List.getElem?_eq_getElem h]; rfl
  constructor
  · intro h k hk e
    have := idxf_ahead _ l 0 i (by rw [h]; omega) k hk (by omega)
    simp [e] at this
  · intro h
    have := idxf_hit (fun x : S88 => x.f0.toList == l[i].f0.toList) z88 l i 0 hi (by rw [gd i hi]; simp) (fun j hj => by rw [gd j (by omega)]; simpa using h j hj)
    rw [this]
    omega
theorem CacheOk_ends (m : Int) (l : List S88) (hl : l.length < 2097152) : ∃ r, Ev (fun k => spec_CacheOk.f k m l) r ∧ Ev (fun k => impl_CacheOk.f k m l) r := by
  have key : ∀ i, i ≤ l.length → ∀ (n : Int) (fr : Bool), usedF (l.drop i) n = usedF l 0 → (fr || (l.drop i).any fun x => x.f2 == 0) = (l.any fun x => x.f2 == 0) →
      ∃ r, Ev (fun k => spec_CacheOk.l0 k n fr (i : Int) m l) r ∧ Ev (fun k => impl_CacheOk.l0 k l (l.length : Int) (i : Int) m l) r := by
    refine downTo l.length ?_ ?_
    · intro n fr hn hf
      rw [List.drop_length] at hn hf
      simp only [List.any_nil, Bool.or_false] at hf
      have hn' : n = usedF l 0 := hn
      subst hf hn'
      by_cases c : usedF l 0 ≤ m
      · exact ⟨true, Ev.step (fun k => rfl) (Ev.neg (by omega) (Ev.pos c (Ev.now _))), Ev.step (fun k => rfl) (Ev.neg (by omega) (Ev.bind (used_ev m l hl) (Ev.pos c (Ev.now _))))⟩
      · exact ⟨_, Ev.step (fun k => rfl) (Ev.neg (by omega) (Ev.neg c (Ev.now _))), Ev.step (fun k => rfl) (Ev.neg (by omega) (Ev.bind (used_ev m l hl) (Ev.neg c (Ev.bindS (idle_ev l) (Ev.now _)))))⟩
    · intro i hi ih n fr hn hf
      have hr := rdSlot l i hi
      rw [List.drop_eq_getElem_cons hi] at hn hf
      have ih := ih (wrap64 (n + l[i].f1)) (fr || l[i].f2 == 0) hn (by rw [← hf, List.any_cons, Bool.or_assoc])
      have hu := l2User_ev l[i].f0
      have hi1 := in_ev l[i].f1 1 100000
      have hi2 := in_ev l[i].f2 0 100000
      have hw2 := within_ev l[i].f2 0 100000
      have hs := isSlot_ev l[i].f0 l[i].f1
      have bad : ¬ (isU l[i].f0 ∧ (1 ≤ l[i].f1 ∧ l[i].f1 ≤ 100000) ∧ 0 ≤ l[i].f2 ∧ l[i].f2 ≤ 100000) → ∃ r, Ev (fun k => spec_CacheOk.l0 k n fr (i : Int) m l) r ∧ Ev (fun k => impl_CacheOk.l0 k l (l.length : Int) (i : Int) m l) r := by
        intro hb
        have j2 : Ev (fun k => spec_CacheOk.j2 k n fr (i : Int) true m l l[i].f0 l[i].f1 l[i].f2) false := by refine Ev.step (fun k => rfl) ?_; exact Ev.now _
        refine ⟨false, Ev.step (fun k => rfl) (Ev.pos (by omega) (Ev.pos (by omega) ?_)), Ev.step (fun k => rfl) (Ev.pos (by omega) (Ev.pos (by omega) (Ev.pos (by omega) ?_)))⟩
        · rw [hr]
          refine Ev.bindS hu ?_
          by_cases c1 : isU l[i].f0
          · refine Ev.pos (decide_eq_true c1) (Ev.bindS hi1 ?_)
            by_cases c2 : 1 ≤ l[i].f1 ∧ l[i].f1 ≤ 100000
            · refine Ev.pos (decide_eq_true c2) (Ev.bindS hi2 ?_)
              rw [decide_eq_false (show ¬ (0 ≤ l[i].f2 ∧ l[i].f2 ≤ 100000) from fun c => hb ⟨c1, c2, c⟩)]
              exact j2
            · exact Ev.neg (by simpa using c2) j2
          · exact Ev.neg (by simpa using c1) j2
        · rw [hr]
          refine Ev.bindS hs ?_
          by_cases c1 : isU l[i].f0 ∧ 1 ≤ l[i].f1 ∧ l[i].f1 ≤ 100000
          · refine Ev.pos (decide_eq_true c1) (Ev.bindS hw2 (Ev.neg ?_ (Ev.now _)))
            simp only [decide_eq_true_eq]
            exact fun c => hb ⟨c1.1, c1.2, c⟩
          · exact Ev.neg (by simpa using c1) (Ev.now _)
      by_cases good : isU l[i].f0 ∧ (1 ≤ l[i].f1 ∧ l[i].f1 ≤ 100000) ∧ 0 ≤ l[i].f2 ∧ l[i].f2 ≤ 100000
      · obtain ⟨q, hq, hq2⟩ := find_eq m l i hi
        obtain ⟨d1, d2⟩ := dup_ev n fr i m l l[i].f0 l[i].f1 l[i].f2 (by omega) hl
        have sp : ∀ r, Ev (fun k => spec_CacheOk.l1 k n fr (i : Int) 0 m l l[i].f0 l[i].f1 l[i].f2) r → Ev (fun k => spec_CacheOk.l0 k n fr (i : Int) m l) r := by
          intro r h
          refine Ev.step (fun k => rfl) (Ev.pos (by omega) (Ev.pos (by omega) ?_))
          rw [hr]
          refine Ev.bindS hu (Ev.pos (decide_eq_true good.1) (Ev.bindS hi1 (Ev.pos (decide_eq_true good.2.1) (Ev.bindS hi2 ?_))))
          rw [decide_eq_true good.2.2]
          refine Ev.step (fun k => rfl) ?_
          exact h
        have im : ∀ r, (q = (i : Int) → Ev (fun k => impl_CacheOk.l0 k l (l.length : Int) ((i + 1 : Nat) : Int) m l) r) → (q ≠ (i : Int) → r = false) → Ev (fun k => impl_CacheOk.l0 k l (l.length : Int) (i : Int) m l) r := by
          intro r h h'
          refine Ev.step (fun k => rfl) (Ev.pos (by omega) (Ev.pos (by omega) (Ev.pos (by omega) ?_)))
          rw [hr]
          refine Ev.bindS hs (Ev.pos (decide_eq_true ⟨good.1, good.2.1⟩) (Ev.bindS hw2 (Ev.pos (decide_eq_true good.2.2) (Ev.bindS hq ?_))))
          by_cases c : q = (i : Int)
          · refine Ev.pos c ?_
            rw [wsucc (by omega)]
            exact h c
          · rw [h' c]
            exact Ev.neg c (Ev.now _)
        by_cases hd : ∀ k, ∀ h : k < i, (l[k]'(by omega)).f0.toList ≠ l[i].f0.toList
        · obtain ⟨r, h1, h2⟩ := ih
          refine ⟨r, sp r (d2 r hd ?_), im r (fun _ => h2) (fun c => absurd (hq2.2 hd) c)⟩
          rw [wsucc (by omega)]
          exact h1
        · refine ⟨false, sp false (d1 false ?_ rfl), im false (fun c => absurd (hq2.1 c) hd) (fun _ => rfl)⟩
          apply Classical.byContradiction
          intro hc
          exact hd fun k hk e => hc ⟨k, hk, e⟩
      · exact bad good
  have hin := in_ev m 0 100000
  have hw := within_ev m 0 100000
  by_cases c : 0 ≤ m ∧ m ≤ 100000
  · by_cases c2 : (l.length : Int) > 40
    · refine ⟨false, ?_, ?_⟩
      · unfold spec_CacheOk.f
        exact Ev.bindS hin (Ev.pos (decide_eq_true c) (by rw [decide_eq_true c2]; refine Ev.step (fun k => rfl) ?_; exact Ev.now _))
      · unfold impl_CacheOk.f
        exact Ev.bindS hw (Ev.pos (decide_eq_true c) (by rw [decide_eq_true c2]; refine Ev.step (fun k => rfl) ?_; exact Ev.now _))
    · obtain ⟨r, h1, h2⟩ := key 0 (Nat.zero_le _) 0 false rfl (by simp)
      refine ⟨r, ?_, ?_⟩
      · unfold spec_CacheOk.f
        exact Ev.bindS hin (Ev.pos (decide_eq_true c) (by rw [decide_eq_false c2]; refine Ev.step (fun k => rfl) ?_; exact h1))
      · unfold impl_CacheOk.f
        exact Ev.bindS hw (Ev.pos (decide_eq_true c) (by rw [decide_eq_false c2]; refine Ev.step (fun k => rfl) ?_; exact h2))
  · refine ⟨false, ?_, ?_⟩
    · unfold spec_CacheOk.f
      exact Ev.bindS hin (Ev.neg (by simpa using c) (by refine Ev.step (fun k => rfl) ?_; exact Ev.now _))
    · unfold impl_CacheOk.f
      exact Ev.bindS hw (Ev.neg (by simpa using c) (by refine Ev.step (fun k => rfl) ?_; exact Ev.now _))
end Go.Proofs.Ytedgdnkbojjbmaa.Pure
end

section
namespace Go.Proofs.Ytedgdnkbojjbmaa.Pure
open Go.RowKit Go.Proofs.YtedgdnkbojjbmaaW.PrintWords Go.Proofs.YtedgdnkbojjbmaaW.PrintLast Go.Proofs.YtedgdnkbojjbmaaW.PrintMore
open Go.Proofs.Ytedgdnkbojjbmaa.P
set_option linter.unusedVariables false
set_option linter.unusedSimpArgs false

theorem FnExactCacheUsed : ∀ (a0_0 : Int) (l0_1 : (List S125)), (-9223372036854775808 ≤ a0_0 ∧ a0_0 ≤ 9223372036854775807) → (l0_1.length ≤ 9223372036854775807 ∧ ∀ x ∈ l0_1, wf_Slot x) → Ev (fun k => laws_FnExactCacheUsed.f k a0_0 l0_1) true := by
  intro m l _ hl
  unfold laws_FnExactCacheUsed.f
  obtain ⟨q, hq, hq1, hq2⟩ := szSlotS_ev l 1048576 hl.2 hl.1 (by omega) (by omega)
  rcases hq2 with rfl | ⟨hq0, hlen, hsm⟩
  · have hz : Ev (fun k => laws_szCache.f k m l 1048576) (-1) := by
      unfold laws_szCache.f
      exact Ev.bind hq (Ev.pos (by omega) (Ev.now _))
    exact Ev.bind hz (Ev.pos (by omega) (Ev.now _))
  · have hz : Ev (fun k => laws_szCache.f k m l 1048576) q := by
      unfold laws_szCache.f
      exact Ev.bind hq (Ev.neg (by omega) (Ev.now _))
    have ht : Ev (fun k => laws_toCache.f k m l) (m, l.map cv_Slot) := by
      unfold laws_toCache.f
      exact Ev.bind (toSlotS_ev l (by omega)) (Ev.now _)
    have hm : (l.map cv_Slot).length < 2097152 := by rw [List.length_map]; omega
    obtain ⟨r, h1, h2⟩ := CacheOk_ends m (l.map cv_Slot) hm
    have he : Ev (fun k => laws_eqCache.f k m (l.map cv_Slot) m (l.map cv_Slot)) true := by
      unfold laws_eqCache.f
      exact Ev.pos rfl (Ev.bind (eqSlotS_ev _ hm) (Ev.pos rfl (Ev.now _)))
    obtain ⟨u, s1, s2⟩ : ∃ u, Ev (fun k => spec_CacheUsed.f k m (l.map cv_Slot)) u ∧ Ev (fun k => impl_CacheUsed.f k m (l.map cv_Slot)) u := by
      unfold spec_CacheUsed.f impl_CacheUsed.f
      cases r with
      | true => exact ⟨_, Ev.bind h1 (Ev.pos rfl (Ev.bind (l11Used_ev m _ hm) (Ev.now _))), Ev.bind h2 (Ev.pos rfl (Ev.bind (used_ev m _ hm) (Ev.now _)))⟩
      | false => exact ⟨_, Ev.bind h1 (Ev.neg (by simp) (Ev.now _)), Ev.bind h2 (Ev.neg (by simp) (Ev.now _))⟩
    exact Ev.bind hz (Ev.neg (by omega) (Ev.bind ht (Ev.bind s1 (Ev.bind ht (Ev.bind s2 (Ev.pos rfl (Ev.bind ht (Ev.bind he (Ev.pos rfl (Ev.now _)))))))))) 
end Go.Proofs.Ytedgdnkbojjbmaa.Pure
end

section
namespace Go.Proofs.Ytedgdnkbojjbmaa.fnExactCacheUsed
open Go.ChangeShapes Go.WideShapes Go.ChangeAt Go.RowKit
open Go.ChangeMaps (open_string shut_string)
open Go.Proofs.Ytedgdnkbojjbmaa.P
open Go.Proofs.YtedgdnkbojjbmaaW.PrintWords Go.Proofs.YtedgdnkbojjbmaaW.PrintLast Go.Proofs.YtedgdnkbojjbmaaW.PrintMore
set_option linter.unusedVariables false
set_option linter.unusedSimpArgs false
theorem len3 {α : Type} {l : List α} (h : l.length = 3) : ∃ a0 a1 a2, l = [a0, a1, a2] := by
  match l, h with
  | [a0, a1, a2], _ => exact ⟨a0, a1, a2, rfl⟩
theorem len2 {α : Type} {l : List α} (h : l.length = 2) : ∃ a0 a1, l = [a0, a1] := by
  match l, h with
  | [a0, a1], _ => exact ⟨a0, a1, rfl⟩
set_option maxRecDepth 100000 in
theorem opens125 : Opens Try.prog k125 125 (fun x => wf_Slot x) := by
  intro H enc w fuel cs x h
  obtain ⟨xs, n, _, _, hl, hx, hq⟩ := DataW.trod_struct Try.underlying125 h
  have e0 := hq 0 _ rfl
  rw [List.getElem?_eq_getElem (show 0 < xs.length by rw [hx]; decide)] at e0
  obtain ⟨a0, ha0, hw0⟩ := (opens_str Try.underlying9) enc w n _ _ e0
  have e1 := hq 1 _ rfl
  rw [List.getElem?_eq_getElem (show 1 < xs.length by rw [hx]; decide)] at e1
  obtain ⟨a1, ha1, hw1⟩ := (opens_i64 Try.underlying2) enc w n _ _ e1
  have e2 := hq 2 _ rfl
  rw [List.getElem?_eq_getElem (show 2 < xs.length by rw [hx]; decide)] at e2
  obtain ⟨a2, ha2, hw2⟩ := (opens_i64 Try.underlying2) enc w n _ _ e2
  have hl : cs.length = 3 := hl.trans (by kernel_rfl)
  refine ⟨⟨a0, a1, a2⟩, ?_, ?_⟩
  · obtain ⟨c0, c1, c2, rfl⟩ := len3 hl
    exact ⟨[c0], [c1, c2], rfl, ha0, ⟨[c1], [c2], rfl, ha1, ha2⟩⟩
  · unfold wf_Slot
    simp only [] at *
    exact ⟨hw0, hw1.1, hw1.2, hw2.1, hw2.2⟩
theorem own : ownKnob Try.prog.godebug = none := by kernel_rfl
theorem laidOut : laidOutB Try.prog = true := by kernel_rfl
set_option maxRecDepth 100000 in
theorem lifted (os : Os) (started : os.Started) (H : Type) (enc : TypeId × Value → H) :
    ReturnsInHanded {} Try.checked os 9 .any (Rows.fnExactCacheUsedSpec.pre6 enc Try.prog Try.f9 Rows.fnExactCacheUsedRow.domain false) (Rows.fnExactCacheUsedSpec.post enc Try.prog Try.f9 false true false false) := by
  refine returnsInHanded_of_change_sized (C := Try.checked) own started (by kernel_rfl) Try.func9
    (ChangeSpec.witness6 (enc := enc) (C := Try.checked) false ⟨#[], #[.agg #[.int .i64 0, .slice none 0 0]], []⟩ 8 (by kernel_rfl) (by kernel_rfl) (by kernel_rfl) (by kernel_rfl)) ?_
  intro W base args ds gs before hval0 hW hcnd hsz0 _
  have hval : ∀ (j : Nat) t v, Try.f9.params[j]? = some t → args[j]? = some v → Value.okWide Try.prog W .any base t v := hval0
  have hW' := hW
  obtain ⟨p, q, hA0, hV, rfl, hfz, hnd⟩ := hW
  have hA : DataW.TrodAll enc Try.prog W 0 (fun _ => true) true Try.f9.params.toList args.toList ds p := hA0
  rw [Try.params9] at hA hval
  obtain ⟨v0, vs0, d0, ds0, p0, q0, hargs, rfl, rfl, h0, r0⟩ := trodAll_cons hA
  obtain ⟨rfl, rfl, rfl⟩ := trodAll_nil r0
  obtain rfl : args = #[v0] := by cases args; simp_all
  obtain ⟨rfl, rfl⟩ := trodVars_none hV
  have k0 := h0
  have lt0 : ∀ x ∈ p0, x.block < W.heap.size := by obtain ⟨m, hm⟩ := k0; exact DataW.trod_lt m _ _ _ hm
  obtain ⟨cs0, rfl, _⟩ := okWide_struct Try.underlying36 (hval 0 36 v0 rfl rfl)
  obtain ⟨fuel0, hf0⟩ := h0
  obtain ⟨xs0, n0, _, _, hl0, hx0, hq0⟩ := DataW.trod_struct Try.underlying36 hf0
  obtain ⟨z0_0, z0_1, hcs0⟩ := len2 (hl0.trans (by kernel_rfl) : (Value.agg cs0).cells.toList.length = 2)
  rw [hcs0] at hq0
  have e0_0 := hq0 0 _ rfl
  rw [List.getElem?_eq_getElem (show 0 < xs0.length by rw [hx0]; decide)] at e0_0
  obtain ⟨b0_0, hb0_0, hw0_0⟩ := (opens_i64 Try.underlying2) enc W n0 _ _ e0_0
  replace hb0_0 : (Kd.int .i64).K W b0_0 [z0_0] := hb0_0
  obtain rfl := List.head_eq_of_cons_eq hb0_0
  have e0_1 := hq0 1 _ rfl
  rw [List.getElem?_eq_getElem (show 1 < xs0.length by rw [hx0]; decide)] at e0_1
  obtain ⟨b0_1, hb0_1, hw0_1⟩ := (opens_slice Try.underlying34 (by kernel_rfl) opens125) enc W n0 _ _ e0_1
  replace hb0_1 : (Kd.slice 125 k125).K W b0_1 [z0_1] := hb0_1
  obtain ⟨A0_1, c0_1, hz0_1, hl0_1, hr0_1⟩ := hb0_1
  obtain rfl := List.head_eq_of_cons_eq hz0_1
  obtain rfl : cs0 = #[.int .i64 b0_0, .slice A0_1 b0_1.length c0_1] := Array.toList_inj.1 hcs0
  clear hA0 hval0 hsz0
  have hP := Pure.FnExactCacheUsed b0_0 b0_1 hw0_0 hw0_1
  obtain ⟨k, hk⟩ := Ev.rounds hP
  refine (laws_FnExactCacheUsed.calls k b0_0 A0_1 c0_1 b0_1 true W hr0_1 hl0_1 hk).mono fun e W' hE => ?_
  obtain ⟨rfl, bel0⟩ := hE
  have bel : Below W.heap.size W W' := by first | exact bel0 | exact bel0.below
  exact ⟨_, rfl, _, _, _, [], _, [], hW', trodAll_mk1 (shut_bool Try.underlying4 _), (trodAll_cons_mk (Below.trod laidOut (by kernel_rfl) (of_decide_eq_true (by kernel_rfl)) k0 bel lt0) trodAll_mk0), rfl, bel.frame _, fun h => by cases h⟩
theorem over : Rows.fnExactCacheUsedRow.holds Try.pinned (OpenSpec.ofChange Rows.fnExactCacheUsedSpec) :=
  OpenClaim.holds_of_wide 9 Try.f9 rfl rfl rfl rfl rfl rfl rfl ⟨rfl, rfl, rfl, rfl, rfl⟩ rfl rfl rfl rfl rfl (by kernel_rfl) Try.func9 (by kernel_rfl)
    (of_decide_eq_true (by kernel_rfl)) (by unfold Func.isWrapper; first | (rw [if_pos (by decide +kernel)]; kernel_rfl) | (rw [if_neg (by decide +kernel)]; exact ⟨rfl, rfl⟩))
    (fun os started H enc _ => lifted os started H enc)
theorem proved : Rows.FnExactCacheUsedSaid := over
#print axioms proved
end Go.Proofs.Ytedgdnkbojjbmaa.fnExactCacheUsed
namespace Go.Proofs.Ytedgdnkbojjbmaa
/-- The row, under a short name, for the claim. -/
theorem fnExactCacheUsed_holds : Rows.FnExactCacheUsedSaid := fnExactCacheUsed.proved
end Go.Proofs.Ytedgdnkbojjbmaa
end
