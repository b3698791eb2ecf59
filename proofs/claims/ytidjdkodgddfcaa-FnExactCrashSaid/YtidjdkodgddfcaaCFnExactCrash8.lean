/- Proved: the law FnExactCrash of the given program returns true for every input of its Go types and leaves each argument as it was; no condition. (Part 9 of 12.) -/
import Derived.Test.YtidjdkodgddfcaaCFnExactCrash4
import Derived.Test.YtidjdkodgddfcaaCFnExactCrash7
section
namespace Go.Proofs.Ytidjdkodgddfcaa.P
open Go.RowKit Go.Proofs.YtidjdkodgddfcaaW.PrintWords Go.Proofs.YtidjdkodgddfcaaW.PrintLast Go.Proofs.YtidjdkodgddfcaaW.PrintMore
attribute [local go_sem] str_gtr str_leq str_geq qb1 qz max_two min_two qv qu qa1 qy
set_option linter.unusedVariables false
set_option linter.unusedSimpArgs false
theorem yq64 {P : Prop} (h : P := by repeat (first | (with_reducible first | exact HB.out | apply qc | apply qa | apply qb) | exact HB.out)) : P := h
theorem yq65 {P : Prop} (h : P := by first | (rw [qx]; exact hn104_1) | (show (Addr.add _ _).block ≠ _; rw [qx]; exact hn104_1) | exact hn104_1) : P := h
theorem yq66 {P : Prop} (h : P := by first | (rw [qx]; exact hn104_0) | (show (Addr.add _ _).block ≠ _; rw [qx]; exact hn104_0) | exact hn104_0) : P := h
theorem yq67 {P : Prop} (h : P := by first | (with_reducible assumption) | assumption) : P := h
theorem yq68 {P : Prop} (h : P := by first | (go_simp; done) | (go_simp; rfl)) : P := h
theorem yq69 {P : Prop} (h : P := by repeat (first | exact (Kd.C_below HR0.out HB.out) | (with_reducible refine Kd.C_alloc ?_ _) | (with_reducible refine Kd.C_drewN ?_ _) | (with_reducible refine Kd.C_drew ?_))) : P := h
def impl_areFiles.l0 : Nat → List (S170) → List (S170) → Int → Int → Option (Bool)
 | 0, _, _, _, _ => none
 | k + 1, x0, x5, x6, x7 => if x7 < x6 then (if 0 ≤ x7 then (if x7 < (x5.length : Int) then ((impl_isFile.f ((qj x5 x7).f0)).bind fun t103 => (if t103 = true then (if x7 > 0 then (if 0 ≤ (wrap64 (x7 - 1)) then (if (wrap64 (x7 - 1)) < (x0.length : Int) then (if ((Op.bytesLess (((qj x0 (wrap64 (x7 - 1))).f0).toList) (((qj x5 x7).f0).toList)) = true) then (impl_areFiles.l0 k x0 x5 x6 (wrap64 (x7 + 1))) else (some false)) else (none)) else (none)) else (impl_areFiles.l0 k x0 x5 x6 (wrap64 (x7 + 1)))) else (some false))) else (none)) else (none)) else ((impl_fit.f k x0).bind fun t105 => (some t105))
def impl_areFiles.f (k : Nat) (l0 : List (S170)) : Option (Bool) := impl_areFiles.l0 k l0 l0 (l0.length : Int) 0
set_option maxHeartbeats 8000000 in
set_option maxRecDepth 100000 in
theorem impl_areFiles.calls (k : Nat) (A0 : Option Addr) (c0 : Nat) (l0 : List (S170)) (r : Bool) (w : World) (hr0 : Kd.C k170 w A0 l0.length l0) (hc0 : l0.length ≤ c0) (h : impl_areFiles.f k l0 = some r) :
  Calls Try.prog 136 #[.slice A0 l0.length c0] w fun e w' => e = .returned (.bool r) ∧ Below w.heap.size w w' := by
 have hu170 := Try.underlying170
 have HR0 := Qz.mk hr0
 have HC0 := Qz.mk hc0
 clear hr0 hc0
 have HB := Qz.mk (Below.refl w.heap.size w)
 have H : (impl_areFiles.l0 k l0 l0 (l0.length : Int) 0) = some r := h
 clear h
 have H' := Qz.mk H
 clear H
 go_enter Try.func136, Try.ntmps136
 go_wp2
 repeat (go_quiet (fail); try go_wp2)
 go_loopg [7] k (fun kq v7 w' => ∃ (x7_1 : Int), v7 = .int .i64 x7_1 ∧ Qz (impl_areFiles.l0 kq l0 l0 (l0.length : Int) x7_1 = some r) ∧ Qz (kq ≤ k) ∧ Qz (Below w.heap.size w w'))
 case atStart => exact ⟨(0), (by first | rfl | (simp; done) | (simp [*]; done)), H', ⟨Nat.le_refl _⟩, ⟨by repeat (first | (with_reducible first | exact HB.out | apply qc | apply qa | apply qb) | exact HB.out)⟩⟩
 case round =>
  clear H'
  try clear c1
  obtain ⟨x7_1, rfl, HA, HK1, HB⟩ := hrel
  cases gk with
  | zero => exact absurd HA.out (by simp [impl_areFiles.l0])
  | succ k1 =>
   have H := HA.out
   clear HA
   simp only [impl_areFiles.l0] at H
   by_cases c2 : x7_1 < (l0.length : Int)
   ·rw [if_pos c2] at H
    have c2b0 : decide (x7_1 < (l0.length : Int)) = true := decide_eq_true c2
    clear c2
    by_cases c3 : 0 ≤ x7_1
    ·rw [if_pos c3] at H
     have c3b0 : decide (0 ≤ x7_1) = true := decide_eq_true c3
     clear c3
     by_cases c4 : x7_1 < (l0.length : Int)
     ·rw [if_pos c4] at H
      have c4b0 : decide (x7_1 < (l0.length : Int)) = true := decide_eq_true c4
      clear c4
      replace H := Option.bind_eq_some_iff.mp H
      obtain ⟨t103, A50, H⟩ := H
      replace H : (if t103 = true then (if x7_1 > 0 then (if 0 ≤ (wrap64 (x7_1 - 1)) then (if (wrap64 (x7_1 - 1)) < (l0.length : Int) then (if ((Op.bytesLess (((qj l0 (wrap64 (x7_1 - 1))).f0).toList) (((qj l0 x7_1).f0).toList)) = true) then (impl_areFiles.l0 k1 l0 l0 (l0.length : Int) (wrap64 (x7_1 + 1))) else (some false)) else (none)) else (none)) else (impl_areFiles.l0 k1 l0 l0 (l0.length : Int) (wrap64 (x7_1 + 1)))) else (some false)) = some r := H
      have A5 := Qz.mk A50
      clear A50
      by_cases c6 : t103 = true
      ·subst c6
       have H1 : (if x7_1 > 0 then (if 0 ≤ (wrap64 (x7_1 - 1)) then (if (wrap64 (x7_1 - 1)) < (l0.length : Int) then (if ((Op.bytesLess (((qj l0 (wrap64 (x7_1 - 1))).f0).toList) (((qj l0 x7_1).f0).toList)) = true) then (impl_areFiles.l0 k1 l0 l0 (l0.length : Int) (wrap64 (x7_1 + 1))) else (some false)) else (none)) else (none)) else (impl_areFiles.l0 k1 l0 l0 (l0.length : Int) (wrap64 (x7_1 + 1)))) = some r := by rw [if_pos rfl] at H; exact H
       clear H
       have H := H1
       clear H1
       by_cases c7 : x7_1 > 0
       ·rw [if_pos c7] at H
        have c7b0 : decide (0 < x7_1) = true := decide_eq_true c7
        clear c7
        obtain ⟨ji8, hji8⟩ : ∃ j_ : Int, (wrap64 (x7_1 - 1)) = j_ := ⟨_, rfl⟩
        replace H : (if 0 ≤ (ji8) then (if (ji8) < (l0.length : Int) then (if ((Op.bytesLess (((qj l0 (ji8)).f0).toList) (((qj l0 x7_1).f0).toList)) = true) then (impl_areFiles.l0 k1 l0 l0 (l0.length : Int) (wrap64 (x7_1 + 1))) else (some false)) else (none)) else (none)) = some r := by first | (rw [hji8] at H; exact H) | (simp only [hji8] at H ⊢; exact H)
        (try rw [hji8] at A5)
        have hji8w : (IntKind.i64.wrap (x7_1 - 1)) = ji8 := (i64_w _).trans hji8
        by_cases c9 : 0 ≤ (ji8)
        ·rw [if_pos c9] at H
         have c9b0 : decide (0 ≤ (ji8)) = true := decide_eq_true c9
         clear c9
         by_cases c10 : (ji8) < (l0.length : Int)
         ·rw [if_pos c10] at H
          have c10b0 : decide ((ji8) < (l0.length : Int)) = true := decide_eq_true c10
          clear c10
          by_cases c11 : ((Op.bytesLess (((qj l0 (ji8)).f0).toList) (((qj l0 x7_1).f0).toList)) = true)
          ·rw [if_pos c11] at H
           have c11b0 : (Op.bytesLess (((qj l0 (ji8)).f0).toList) (((qj l0 x7_1).f0).toList)) = true := c11
           clear c11
           have H' := Qz.mk H
           clear H
           have p101 : 0 ≤ (x7_1 : Int) := of_decide_eq_true yq67
           have q101 : x7_1 < (l0.length : Int) := of_decide_eq_true yq67
           obtain ⟨ad101, e101, hx101_0, hx101_1⟩ := at_T170 HR0.out x7_1 p101 q101
           cases e101
           replace hx101_0 := (HB.out.cell (World.block_lt_of_cell? w _ hx101_0)).trans hx101_0
           replace hx101_1 := (HB.out.cell (World.block_lt_of_cell? w _ hx101_1)).trans hx101_1
           replace p101 := eq_true p101
           replace q101 := eq_true q101
           go_wp2_with (first | ((with_reducible refine qt (N := 4) rfl ?_); refine qr ?hg (N := 4) ?hd (cs := #[.string (⟨#[]⟩ : ByteArray), .string (⟨#[]⟩ : ByteArray)]) (t := 170) ?hr ?_; (case hd => rfl); (case hg => rfl); (case hr => exact yq68); intro gb102 hg w12 hbox hb; have BK102 := Qz.mk (hbox); have GW102 := Qz.mk ((by rw [hg]; exact (qo yq64) : w.heap.size ≤ gb102)); have GE102 := GW102; replace HB := Qz.mk (ql yq64 hb); clear hb hbox hg; have hcz13_0 := (qd BK102.out 0).trans rfl; have hcz13_1 := (qd BK102.out 1).trans rfl; have hfz13_0 := qe BK102.out 0; have hfz13_1 := qe BK102.out 1) | (go_at_call 182; (with_reducible refine (impl_isFile.calls ((qj l0 x7_1).f0) true _ A5.out).mono ?_); rintro e w' ⟨rfl, ⟨nd, rfl⟩⟩; (try first | exact ⟨rfl, _, World.drewN_drewN _ _ _⟩ | exact ⟨rfl, _, Eq.trans (World.drewN_drewN _ _ _) (congrArg (World.drewN _) (Nat.add_assoc _ _ _))⟩); have p104 : 0 ≤ ((ji8) : Int) := of_decide_eq_true yq67; have q104 : (ji8) < (l0.length : Int) := of_decide_eq_true yq67; obtain ⟨ad104, e104, hx104_0, hx104_1⟩ := at_T170 HR0.out (ji8) p104 q104; obtain rfl : ad101 = ad104 := (by injection e104); have hn104_0 : ad101.block ≠ gb102 := Nat.ne_of_lt (Nat.lt_of_lt_of_le (by have := World.block_lt_of_cell? _ _ hx104_0; first | rwa [qx] at this | exact this) GW102.out); have hn104_1 : ad101.block ≠ gb102 := Nat.ne_of_lt (Nat.lt_of_lt_of_le (by have := World.block_lt_of_cell? _ _ hx104_0; first | rwa [qx] at this | exact this) GW102.out); replace hx104_0 := (HB.out.cell (World.block_lt_of_cell? w _ hx104_0)).trans hx104_0; replace hx104_1 := (HB.out.cell (World.block_lt_of_cell? w _ hx104_1)).trans hx104_1; replace hx104_0 := (cell_far (p := ⟨gb102, 0, none⟩) yq66 (.string ((qj l0 x7_1).f0))).trans hx104_0; replace hx104_1 := (cell_far (p := ⟨gb102, 0, none⟩) yq66 (.string ((qj l0 x7_1).f0))).trans hx104_1; replace hx104_0 := (cell_far (p := ⟨gb102, 1, none⟩) yq65 (.string ((qj l0 x7_1).f1))).trans hx104_0; replace hx104_1 := (cell_far (p := ⟨gb102, 1, none⟩) yq65 (.string ((qj l0 x7_1).f1))).trans hx104_1; (try have hy104_0 := fun (n_ : Nat) => (show ((((w12.drewN n_).setCell ⟨gb102, 0, none⟩ (.string ((qj l0 x7_1).f0))).setCell ⟨gb102, 1, none⟩ (.string ((qj l0 x7_1).f1)))).cell? _ = some _ from hx104_0)); (try have hy104_1 := fun (n_ : Nat) => (show ((((w12.drewN n_).setCell ⟨gb102, 0, none⟩ (.string ((qj l0 x7_1).f0))).setCell ⟨gb102, 1, none⟩ (.string ((qj l0 x7_1).f1)))).cell? _ = some _ from hx104_1)); clear hn104_0; clear hn104_1; replace p104 := eq_true p104; replace q104 := eq_true q104))
           repeat (go_quiet (first | ((with_reducible refine qt (N := 4) rfl ?_); refine qr ?hg (N := 4) ?hd (cs := #[.string (⟨#[]⟩ : ByteArray), .string (⟨#[]⟩ : ByteArray)]) (t := 170) ?hr ?_; (case hd => rfl); (case hg => rfl); (case hr => exact yq68); intro gb102 hg w12 hbox hb; have BK102 := Qz.mk (hbox); have GW102 := Qz.mk ((by rw [hg]; exact (qo yq64) : w.heap.size ≤ gb102)); have GE102 := GW102; replace HB := Qz.mk (ql yq64 hb); clear hb hbox hg; have hcz13_0 := (qd BK102.out 0).trans rfl; have hcz13_1 := (qd BK102.out 1).trans rfl; have hfz13_0 := qe BK102.out 0; have hfz13_1 := qe BK102.out 1) | (go_at_call 182; (with_reducible refine (impl_isFile.calls ((qj l0 x7_1).f0) true _ A5.out).mono ?_); rintro e w' ⟨rfl, ⟨nd, rfl⟩⟩; (try first | exact ⟨rfl, _, World.drewN_drewN _ _ _⟩ | exact ⟨rfl, _, Eq.trans (World.drewN_drewN _ _ _) (congrArg (World.drewN _) (Nat.add_assoc _ _ _))⟩); have p104 : 0 ≤ ((ji8) : Int) := of_decide_eq_true yq67; have q104 : (ji8) < (l0.length : Int) := of_decide_eq_true yq67; obtain ⟨ad104, e104, hx104_0, hx104_1⟩ := at_T170 HR0.out (ji8) p104 q104; obtain rfl : ad101 = ad104 := (by injection e104); have hn104_0 : ad101.block ≠ gb102 := Nat.ne_of_lt (Nat.lt_of_lt_of_le (by have := World.block_lt_of_cell? _ _ hx104_0; first | rwa [qx] at this | exact this) GW102.out); have hn104_1 : ad101.block ≠ gb102 := Nat.ne_of_lt (Nat.lt_of_lt_of_le (by have := World.block_lt_of_cell? _ _ hx104_0; first | rwa [qx] at this | exact this) GW102.out); replace hx104_0 := (HB.out.cell (World.block_lt_of_cell? w _ hx104_0)).trans hx104_0; replace hx104_1 := (HB.out.cell (World.block_lt_of_cell? w _ hx104_1)).trans hx104_1; replace hx104_0 := (cell_far (p := ⟨gb102, 0, none⟩) yq66 (.string ((qj l0 x7_1).f0))).trans hx104_0; replace hx104_1 := (cell_far (p := ⟨gb102, 0, none⟩) yq66 (.string ((qj l0 x7_1).f0))).trans hx104_1; replace hx104_0 := (cell_far (p := ⟨gb102, 1, none⟩) yq65 (.string ((qj l0 x7_1).f1))).trans hx104_0; replace hx104_1 := (cell_far (p := ⟨gb102, 1, none⟩) yq65 (.string ((qj l0 x7_1).f1))).trans hx104_1; (try have hy104_0 := fun (n_ : Nat) => (show ((((w12.drewN n_).setCell ⟨gb102, 0, none⟩ (.string ((qj l0 x7_1).f0))).setCell ⟨gb102, 1, none⟩ (.string ((qj l0 x7_1).f1)))).cell? _ = some _ from hx104_0)); (try have hy104_1 := fun (n_ : Nat) => (show ((((w12.drewN n_).setCell ⟨gb102, 0, none⟩ (.string ((qj l0 x7_1).f0))).setCell ⟨gb102, 1, none⟩ (.string ((qj l0 x7_1).f1)))).cell? _ = some _ from hx104_1)); clear hn104_0; clear hn104_1; replace p104 := eq_true p104; replace q104 := eq_true q104)); try go_wp2_with (first | ((with_reducible refine qt (N := 4) rfl ?_); refine qr ?hg (N := 4) ?hd (cs := #[.string (⟨#[]⟩ : ByteArray), .string (⟨#[]⟩ : ByteArray)]) (t := 170) ?hr ?_; (case hd => rfl); (case hg => rfl); (case hr => exact yq68); intro gb102 hg w12 hbox hb; have BK102 := Qz.mk (hbox); have GW102 := Qz.mk ((by rw [hg]; exact (qo yq64) : w.heap.size ≤ gb102)); have GE102 := GW102; replace HB := Qz.mk (ql yq64 hb); clear hb hbox hg; have hcz13_0 := (qd BK102.out 0).trans rfl; have hcz13_1 := (qd BK102.out 1).trans rfl; have hfz13_0 := qe BK102.out 0; have hfz13_1 := qe BK102.out 1) | (go_at_call 182; (with_reducible refine (impl_isFile.calls ((qj l0 x7_1).f0) true _ A5.out).mono ?_); rintro e w' ⟨rfl, ⟨nd, rfl⟩⟩; (try first | exact ⟨rfl, _, World.drewN_drewN _ _ _⟩ | exact ⟨rfl, _, Eq.trans (World.drewN_drewN _ _ _) (congrArg (World.drewN _) (Nat.add_assoc _ _ _))⟩); have p104 : 0 ≤ ((ji8) : Int) := of_decide_eq_true yq67; have q104 : (ji8) < (l0.length : Int) := of_decide_eq_true yq67; obtain ⟨ad104, e104, hx104_0, hx104_1⟩ := at_T170 HR0.out (ji8) p104 q104; obtain rfl : ad101 = ad104 := (by injection e104); have hn104_0 : ad101.block ≠ gb102 := Nat.ne_of_lt (Nat.lt_of_lt_of_le (by have := World.block_lt_of_cell? _ _ hx104_0; first | rwa [qx] at this | exact this) GW102.out); have hn104_1 : ad101.block ≠ gb102 := Nat.ne_of_lt (Nat.lt_of_lt_of_le (by have := World.block_lt_of_cell? _ _ hx104_0; first | rwa [qx] at this | exact this) GW102.out); replace hx104_0 := (HB.out.cell (World.block_lt_of_cell? w _ hx104_0)).trans hx104_0; replace hx104_1 := (HB.out.cell (World.block_lt_of_cell? w _ hx104_1)).trans hx104_1; replace hx104_0 := (cell_far (p := ⟨gb102, 0, none⟩) yq66 (.string ((qj l0 x7_1).f0))).trans hx104_0; replace hx104_1 := (cell_far (p := ⟨gb102, 0, none⟩) yq66 (.string ((qj l0 x7_1).f0))).trans hx104_1; replace hx104_0 := (cell_far (p := ⟨gb102, 1, none⟩) yq65 (.string ((qj l0 x7_1).f1))).trans hx104_0; replace hx104_1 := (cell_far (p := ⟨gb102, 1, none⟩) yq65 (.string ((qj l0 x7_1).f1))).trans hx104_1; (try have hy104_0 := fun (n_ : Nat) => (show ((((w12.drewN n_).setCell ⟨gb102, 0, none⟩ (.string ((qj l0 x7_1).f0))).setCell ⟨gb102, 1, none⟩ (.string ((qj l0 x7_1).f1)))).cell? _ = some _ from hx104_0)); (try have hy104_1 := fun (n_ : Nat) => (show ((((w12.drewN n_).setCell ⟨gb102, 0, none⟩ (.string ((qj l0 x7_1).f0))).setCell ⟨gb102, 1, none⟩ (.string ((qj l0 x7_1).f1)))).cell? _ = some _ from hx104_1)); clear hn104_0; clear hn104_1; replace p104 := eq_true p104; replace q104 := eq_true q104)))
           go_roundg k1
           case measure => have := HK1.out; omega
           case rel => exact ⟨(wrap64 (x7_1 + 1)), (by first | rfl | (simp; done) | (simp [*]; done)), H', ⟨by have := HK1.out; omega⟩, ⟨by repeat (first | (with_reducible first | exact HB.out | apply qc | apply qa | apply qb | refine qf ?_ GE102.out) | exact HB.out)⟩⟩
          ·rw [if_neg c11] at H
           have c11b0 : (Op.bytesLess (((qj l0 (ji8)).f0).toList) (((qj l0 x7_1).f0).toList)) = false := by simpa using c11
           clear c11
           obtain rfl := Option.some.inj H
           have p101 : 0 ≤ (x7_1 : Int) := of_decide_eq_true yq67
           have q101 : x7_1 < (l0.length : Int) := of_decide_eq_true yq67
           obtain ⟨ad101, e101, hx101_0, hx101_1⟩ := at_T170 HR0.out x7_1 p101 q101
           cases e101
           replace hx101_0 := (HB.out.cell (World.block_lt_of_cell? w _ hx101_0)).trans hx101_0
           replace hx101_1 := (HB.out.cell (World.block_lt_of_cell? w _ hx101_1)).trans hx101_1
           replace p101 := eq_true p101
           replace q101 := eq_true q101
           go_wp2_with (first | ((with_reducible refine qt (N := 4) rfl ?_); refine qr ?hg (N := 4) ?hd (cs := #[.string (⟨#[]⟩ : ByteArray), .string (⟨#[]⟩ : ByteArray)]) (t := 170) ?hr ?_; (case hd => rfl); (case hg => rfl); (case hr => exact yq68); intro gb102 hg w14 hbox hb; have BK102 := Qz.mk (hbox); have GW102 := Qz.mk ((by rw [hg]; exact (qo yq64) : w.heap.size ≤ gb102)); have GE102 := GW102; replace HB := Qz.mk (ql yq64 hb); clear hb hbox hg; have hcz15_0 := (qd BK102.out 0).trans rfl; have hcz15_1 := (qd BK102.out 1).trans rfl; have hfz15_0 := qe BK102.out 0; have hfz15_1 := qe BK102.out 1) | (go_at_call 182; (with_reducible refine (impl_isFile.calls ((qj l0 x7_1).f0) true _ A5.out).mono ?_); rintro e w' ⟨rfl, ⟨nd, rfl⟩⟩; (try first | exact ⟨rfl, _, World.drewN_drewN _ _ _⟩ | exact ⟨rfl, _, Eq.trans (World.drewN_drewN _ _ _) (congrArg (World.drewN _) (Nat.add_assoc _ _ _))⟩); have p104 : 0 ≤ ((ji8) : Int) := of_decide_eq_true yq67; have q104 : (ji8) < (l0.length : Int) := of_decide_eq_true yq67; obtain ⟨ad104, e104, hx104_0, hx104_1⟩ := at_T170 HR0.out (ji8) p104 q104; obtain rfl : ad101 = ad104 := (by injection e104); have hn104_0 : ad101.block ≠ gb102 := Nat.ne_of_lt (Nat.lt_of_lt_of_le (by have := World.block_lt_of_cell? _ _ hx104_0; first | rwa [qx] at this | exact this) GW102.out); have hn104_1 : ad101.block ≠ gb102 := Nat.ne_of_lt (Nat.lt_of_lt_of_le (by have := World.block_lt_of_cell? _ _ hx104_0; first | rwa [qx] at this | exact this) GW102.out); replace hx104_0 := (HB.out.cell (World.block_lt_of_cell? w _ hx104_0)).trans hx104_0; replace hx104_1 := (HB.out.cell (World.block_lt_of_cell? w _ hx104_1)).trans hx104_1; replace hx104_0 := (cell_far (p := ⟨gb102, 0, none⟩) yq66 (.string ((qj l0 x7_1).f0))).trans hx104_0; replace hx104_1 := (cell_far (p := ⟨gb102, 0, none⟩) yq66 (.string ((qj l0 x7_1).f0))).trans hx104_1; replace hx104_0 := (cell_far (p := ⟨gb102, 1, none⟩) yq65 (.string ((qj l0 x7_1).f1))).trans hx104_0; replace hx104_1 := (cell_far (p := ⟨gb102, 1, none⟩) yq65 (.string ((qj l0 x7_1).f1))).trans hx104_1; (try have hy104_0 := fun (n_ : Nat) => (show ((((w14.drewN n_).setCell ⟨gb102, 0, none⟩ (.string ((qj l0 x7_1).f0))).setCell ⟨gb102, 1, none⟩ (.string ((qj l0 x7_1).f1)))).cell? _ = some _ from hx104_0)); (try have hy104_1 := fun (n_ : Nat) => (show ((((w14.drewN n_).setCell ⟨gb102, 0, none⟩ (.string ((qj l0 x7_1).f0))).setCell ⟨gb102, 1, none⟩ (.string ((qj l0 x7_1).f1)))).cell? _ = some _ from hx104_1)); clear hn104_0; clear hn104_1; replace p104 := eq_true p104; replace q104 := eq_true q104))
           repeat (go_quiet (first | ((with_reducible refine qt (N := 4) rfl ?_); refine qr ?hg (N := 4) ?hd (cs := #[.string (⟨#[]⟩ : ByteArray), .string (⟨#[]⟩ : ByteArray)]) (t := 170) ?hr ?_; (case hd => rfl); (case hg => rfl); (case hr => exact yq68); intro gb102 hg w14 hbox hb; have BK102 := Qz.mk (hbox); have GW102 := Qz.mk ((by rw [hg]; exact (qo yq64) : w.heap.size ≤ gb102)); have GE102 := GW102; replace HB := Qz.mk (ql yq64 hb); clear hb hbox hg; have hcz15_0 := (qd BK102.out 0).trans rfl; have hcz15_1 := (qd BK102.out 1).trans rfl; have hfz15_0 := qe BK102.out 0; have hfz15_1 := qe BK102.out 1) | (go_at_call 182; (with_reducible refine (impl_isFile.calls ((qj l0 x7_1).f0) true _ A5.out).mono ?_); rintro e w' ⟨rfl, ⟨nd, rfl⟩⟩; (try first | exact ⟨rfl, _, World.drewN_drewN _ _ _⟩ | exact ⟨rfl, _, Eq.trans (World.drewN_drewN _ _ _) (congrArg (World.drewN _) (Nat.add_assoc _ _ _))⟩); have p104 : 0 ≤ ((ji8) : Int) := of_decide_eq_true yq67; have q104 : (ji8) < (l0.length : Int) := of_decide_eq_true yq67; obtain ⟨ad104, e104, hx104_0, hx104_1⟩ := at_T170 HR0.out (ji8) p104 q104; obtain rfl : ad101 = ad104 := (by injection e104); have hn104_0 : ad101.block ≠ gb102 := Nat.ne_of_lt (Nat.lt_of_lt_of_le (by have := World.block_lt_of_cell? _ _ hx104_0; first | rwa [qx] at this | exact this) GW102.out); have hn104_1 : ad101.block ≠ gb102 := Nat.ne_of_lt (Nat.lt_of_lt_of_le (by have := World.block_lt_of_cell? _ _ hx104_0; first | rwa [qx] at this | exact this) GW102.out); replace hx104_0 := (HB.out.cell (World.block_lt_of_cell? w _ hx104_0)).trans hx104_0; replace hx104_1 := (HB.out.cell (World.block_lt_of_cell? w _ hx104_1)).trans hx104_1; replace hx104_0 := (cell_far (p := ⟨gb102, 0, none⟩) yq66 (.string ((qj l0 x7_1).f0))).trans hx104_0; replace hx104_1 := (cell_far (p := ⟨gb102, 0, none⟩) yq66 (.string ((qj l0 x7_1).f0))).trans hx104_1; replace hx104_0 := (cell_far (p := ⟨gb102, 1, none⟩) yq65 (.string ((qj l0 x7_1).f1))).trans hx104_0; replace hx104_1 := (cell_far (p := ⟨gb102, 1, none⟩) yq65 (.string ((qj l0 x7_1).f1))).trans hx104_1; (try have hy104_0 := fun (n_ : Nat) => (show ((((w14.drewN n_).setCell ⟨gb102, 0, none⟩ (.string ((qj l0 x7_1).f0))).setCell ⟨gb102, 1, none⟩ (.string ((qj l0 x7_1).f1)))).cell? _ = some _ from hx104_0)); (try have hy104_1 := fun (n_ : Nat) => (show ((((w14.drewN n_).setCell ⟨gb102, 0, none⟩ (.string ((qj l0 x7_1).f0))).setCell ⟨gb102, 1, none⟩ (.string ((qj l0 x7_1).f1)))).cell? _ = some _ from hx104_1)); clear hn104_0; clear hn104_1; replace p104 := eq_true p104; replace q104 := eq_true q104)); try go_wp2_with (first | ((with_reducible refine qt (N := 4) rfl ?_); refine qr ?hg (N := 4) ?hd (cs := #[.string (⟨#[]⟩ : ByteArray), .string (⟨#[]⟩ : ByteArray)]) (t := 170) ?hr ?_; (case hd => rfl); (case hg => rfl); (case hr => exact yq68); intro gb102 hg w14 hbox hb; have BK102 := Qz.mk (hbox); have GW102 := Qz.mk ((by rw [hg]; exact (qo yq64) : w.heap.size ≤ gb102)); have GE102 := GW102; replace HB := Qz.mk (ql yq64 hb); clear hb hbox hg; have hcz15_0 := (qd BK102.out 0).trans rfl; have hcz15_1 := (qd BK102.out 1).trans rfl; have hfz15_0 := qe BK102.out 0; have hfz15_1 := qe BK102.out 1) | (go_at_call 182; (with_reducible refine (impl_isFile.calls ((qj l0 x7_1).f0) true _ A5.out).mono ?_); rintro e w' ⟨rfl, ⟨nd, rfl⟩⟩; (try first | exact ⟨rfl, _, World.drewN_drewN _ _ _⟩ | exact ⟨rfl, _, Eq.trans (World.drewN_drewN _ _ _) (congrArg (World.drewN _) (Nat.add_assoc _ _ _))⟩); have p104 : 0 ≤ ((ji8) : Int) := of_decide_eq_true yq67; have q104 : (ji8) < (l0.length : Int) := of_decide_eq_true yq67; obtain ⟨ad104, e104, hx104_0, hx104_1⟩ := at_T170 HR0.out (ji8) p104 q104; obtain rfl : ad101 = ad104 := (by injection e104); have hn104_0 : ad101.block ≠ gb102 := Nat.ne_of_lt (Nat.lt_of_lt_of_le (by have := World.block_lt_of_cell? _ _ hx104_0; first | rwa [qx] at this | exact this) GW102.out); have hn104_1 : ad101.block ≠ gb102 := Nat.ne_of_lt (Nat.lt_of_lt_of_le (by have := World.block_lt_of_cell? _ _ hx104_0; first | rwa [qx] at this | exact this) GW102.out); replace hx104_0 := (HB.out.cell (World.block_lt_of_cell? w _ hx104_0)).trans hx104_0; replace hx104_1 := (HB.out.cell (World.block_lt_of_cell? w _ hx104_1)).trans hx104_1; replace hx104_0 := (cell_far (p := ⟨gb102, 0, none⟩) yq66 (.string ((qj l0 x7_1).f0))).trans hx104_0; replace hx104_1 := (cell_far (p := ⟨gb102, 0, none⟩) yq66 (.string ((qj l0 x7_1).f0))).trans hx104_1; replace hx104_0 := (cell_far (p := ⟨gb102, 1, none⟩) yq65 (.string ((qj l0 x7_1).f1))).trans hx104_0; replace hx104_1 := (cell_far (p := ⟨gb102, 1, none⟩) yq65 (.string ((qj l0 x7_1).f1))).trans hx104_1; (try have hy104_0 := fun (n_ : Nat) => (show ((((w14.drewN n_).setCell ⟨gb102, 0, none⟩ (.string ((qj l0 x7_1).f0))).setCell ⟨gb102, 1, none⟩ (.string ((qj l0 x7_1).f1)))).cell? _ = some _ from hx104_0)); (try have hy104_1 := fun (n_ : Nat) => (show ((((w14.drewN n_).setCell ⟨gb102, 0, none⟩ (.string ((qj l0 x7_1).f0))).setCell ⟨gb102, 1, none⟩ (.string ((qj l0 x7_1).f1)))).cell? _ = some _ from hx104_1)); clear hn104_0; clear hn104_1; replace p104 := eq_true p104; replace q104 := eq_true q104)))
           go_ret
           exact ⟨by first | rfl | (simp [qn, qm] <;> rfl) | (simp only [← hji8]; first | rfl | (simp [qn, qm] <;> rfl)) | (simp [*, qn, qm] <;> rfl), by repeat (first | (with_reducible first | exact HB.out | apply qc | apply qa | apply qb | refine qf ?_ GE102.out) | exact HB.out)⟩
         ·rw [if_neg c10] at H
          exact absurd H (by simp)
        ·rw [if_neg c9] at H
         exact absurd H (by simp)
       ·rw [if_neg c7] at H
        have c7b0 : decide (0 < x7_1) = false := decide_eq_false c7
        clear c7
        have H' := Qz.mk H
        clear H
        have p101 : 0 ≤ (x7_1 : Int) := of_decide_eq_true yq67
        have q101 : x7_1 < (l0.length : Int) := of_decide_eq_true yq67
        obtain ⟨ad101, e101, hx101_0, hx101_1⟩ := at_T170 HR0.out x7_1 p101 q101
        cases e101
        replace hx101_0 := (HB.out.cell (World.block_lt_of_cell? w _ hx101_0)).trans hx101_0
        replace hx101_1 := (HB.out.cell (World.block_lt_of_cell? w _ hx101_1)).trans hx101_1
        replace p101 := eq_true p101
        replace q101 := eq_true q101
        go_wp2_with (first | ((with_reducible refine qt (N := 4) rfl ?_); refine qr ?hg (N := 4) ?hd (cs := #[.string (⟨#[]⟩ : ByteArray), .string (⟨#[]⟩ : ByteArray)]) (t := 170) ?hr ?_; (case hd => rfl); (case hg => rfl); (case hr => exact yq68); intro gb102 hg w16 hbox hb; have BK102 := Qz.mk (hbox); have GW102 := Qz.mk ((by rw [hg]; exact (qo yq64) : w.heap.size ≤ gb102)); have GE102 := GW102; replace HB := Qz.mk (ql yq64 hb); clear hb hbox hg; have hcz17_0 := (qd BK102.out 0).trans rfl; have hcz17_1 := (qd BK102.out 1).trans rfl; have hfz17_0 := qe BK102.out 0; have hfz17_1 := qe BK102.out 1) | (go_at_call 182; (with_reducible refine (impl_isFile.calls ((qj l0 x7_1).f0) true _ A5.out).mono ?_); rintro e w' ⟨rfl, ⟨nd, rfl⟩⟩; (try first | exact ⟨rfl, _, World.drewN_drewN _ _ _⟩ | exact ⟨rfl, _, Eq.trans (World.drewN_drewN _ _ _) (congrArg (World.drewN _) (Nat.add_assoc _ _ _))⟩)))
        repeat (go_quiet (first | ((with_reducible refine qt (N := 4) rfl ?_); refine qr ?hg (N := 4) ?hd (cs := #[.string (⟨#[]⟩ : ByteArray), .string (⟨#[]⟩ : ByteArray)]) (t := 170) ?hr ?_; (case hd => rfl); (case hg => rfl); (case hr => exact yq68); intro gb102 hg w16 hbox hb; have BK102 := Qz.mk (hbox); have GW102 := Qz.mk ((by rw [hg]; exact (qo yq64) : w.heap.size ≤ gb102)); have GE102 := GW102; replace HB := Qz.mk (ql yq64 hb); clear hb hbox hg; have hcz17_0 := (qd BK102.out 0).trans rfl; have hcz17_1 := (qd BK102.out 1).trans rfl; have hfz17_0 := qe BK102.out 0; have hfz17_1 := qe BK102.out 1) | (go_at_call 182; (with_reducible refine (impl_isFile.calls ((qj l0 x7_1).f0) true _ A5.out).mono ?_); rintro e w' ⟨rfl, ⟨nd, rfl⟩⟩; (try first | exact ⟨rfl, _, World.drewN_drewN _ _ _⟩ | exact ⟨rfl, _, Eq.trans (World.drewN_drewN _ _ _) (congrArg (World.drewN _) (Nat.add_assoc _ _ _))⟩))); try go_wp2_with (first | ((with_reducible refine qt (N := 4) rfl ?_); refine qr ?hg (N := 4) ?hd (cs := #[.string (⟨#[]⟩ : ByteArray), .string (⟨#[]⟩ : ByteArray)]) (t := 170) ?hr ?_; (case hd => rfl); (case hg => rfl); (case hr => exact yq68); intro gb102 hg w16 hbox hb; have BK102 := Qz.mk (hbox); have GW102 := Qz.mk ((by rw [hg]; exact (qo yq64) : w.heap.size ≤ gb102)); have GE102 := GW102; replace HB := Qz.mk (ql yq64 hb); clear hb hbox hg; have hcz17_0 := (qd BK102.out 0).trans rfl; have hcz17_1 := (qd BK102.out 1).trans rfl; have hfz17_0 := qe BK102.out 0; have hfz17_1 := qe BK102.out 1) | (go_at_call 182; (with_reducible refine (impl_isFile.calls ((qj l0 x7_1).f0) true _ A5.out).mono ?_); rintro e w' ⟨rfl, ⟨nd, rfl⟩⟩; (try first | exact ⟨rfl, _, World.drewN_drewN _ _ _⟩ | exact ⟨rfl, _, Eq.trans (World.drewN_drewN _ _ _) (congrArg (World.drewN _) (Nat.add_assoc _ _ _))⟩))))
        go_roundg k1
        case measure => have := HK1.out; omega
        case rel => exact ⟨(wrap64 (x7_1 + 1)), (by first | rfl | (simp; done) | (simp [*]; done)), H', ⟨by have := HK1.out; omega⟩, ⟨by repeat (first | (with_reducible first | exact HB.out | apply qc | apply qa | apply qb | refine qf ?_ GE102.out) | exact HB.out)⟩⟩
      ·replace c6 := Bool.eq_false_iff.mpr c6
       subst c6
       have H1 : (some false) = some r := by rw [if_neg (show ¬ (false = true) by decide)] at H; exact H
       clear H
       have H := H1
       clear H1
       obtain rfl := Option.some.inj H
       have p101 : 0 ≤ (x7_1 : Int) := of_decide_eq_true yq67
       have q101 : x7_1 < (l0.length : Int) := of_decide_eq_true yq67
       obtain ⟨ad101, e101, hx101_0, hx101_1⟩ := at_T170 HR0.out x7_1 p101 q101
       cases e101
       replace hx101_0 := (HB.out.cell (World.block_lt_of_cell? w _ hx101_0)).trans hx101_0
       replace hx101_1 := (HB.out.cell (World.block_lt_of_cell? w _ hx101_1)).trans hx101_1
       replace p101 := eq_true p101
       replace q101 := eq_true q101
       go_wp2_with (first | ((with_reducible refine qt (N := 4) rfl ?_); refine qr ?hg (N := 4) ?hd (cs := #[.string (⟨#[]⟩ : ByteArray), .string (⟨#[]⟩ : ByteArray)]) (t := 170) ?hr ?_; (case hd => rfl); (case hg => rfl); (case hr => exact yq68); intro gb102 hg w18 hbox hb; have BK102 := Qz.mk (hbox); have GW102 := Qz.mk ((by rw [hg]; exact (qo yq64) : w.heap.size ≤ gb102)); have GE102 := GW102; replace HB := Qz.mk (ql yq64 hb); clear hb hbox hg; have hcz19_0 := (qd BK102.out 0).trans rfl; have hcz19_1 := (qd BK102.out 1).trans rfl; have hfz19_0 := qe BK102.out 0; have hfz19_1 := qe BK102.out 1) | (go_at_call 182; (with_reducible refine (impl_isFile.calls ((qj l0 x7_1).f0) false _ A5.out).mono ?_); rintro e w' ⟨rfl, ⟨nd, rfl⟩⟩; (try first | exact ⟨rfl, _, World.drewN_drewN _ _ _⟩ | exact ⟨rfl, _, Eq.trans (World.drewN_drewN _ _ _) (congrArg (World.drewN _) (Nat.add_assoc _ _ _))⟩)))
       repeat (go_quiet (first | ((with_reducible refine qt (N := 4) rfl ?_); refine qr ?hg (N := 4) ?hd (cs := #[.string (⟨#[]⟩ : ByteArray), .string (⟨#[]⟩ : ByteArray)]) (t := 170) ?hr ?_; (case hd => rfl); (case hg => rfl); (case hr => exact yq68); intro gb102 hg w18 hbox hb; have BK102 := Qz.mk (hbox); have GW102 := Qz.mk ((by rw [hg]; exact (qo yq64) : w.heap.size ≤ gb102)); have GE102 := GW102; replace HB := Qz.mk (ql yq64 hb); clear hb hbox hg; have hcz19_0 := (qd BK102.out 0).trans rfl; have hcz19_1 := (qd BK102.out 1).trans rfl; have hfz19_0 := qe BK102.out 0; have hfz19_1 := qe BK102.out 1) | (go_at_call 182; (with_reducible refine (impl_isFile.calls ((qj l0 x7_1).f0) false _ A5.out).mono ?_); rintro e w' ⟨rfl, ⟨nd, rfl⟩⟩; (try first | exact ⟨rfl, _, World.drewN_drewN _ _ _⟩ | exact ⟨rfl, _, Eq.trans (World.drewN_drewN _ _ _) (congrArg (World.drewN _) (Nat.add_assoc _ _ _))⟩))); try go_wp2_with (first | ((with_reducible refine qt (N := 4) rfl ?_); refine qr ?hg (N := 4) ?hd (cs := #[.string (⟨#[]⟩ : ByteArray), .string (⟨#[]⟩ : ByteArray)]) (t := 170) ?hr ?_; (case hd => rfl); (case hg => rfl); (case hr => exact yq68); intro gb102 hg w18 hbox hb; have BK102 := Qz.mk (hbox); have GW102 := Qz.mk ((by rw [hg]; exact (qo yq64) : w.heap.size ≤ gb102)); have GE102 := GW102; replace HB := Qz.mk (ql yq64 hb); clear hb hbox hg; have hcz19_0 := (qd BK102.out 0).trans rfl; have hcz19_1 := (qd BK102.out 1).trans rfl; have hfz19_0 := qe BK102.out 0; have hfz19_1 := qe BK102.out 1) | (go_at_call 182; (with_reducible refine (impl_isFile.calls ((qj l0 x7_1).f0) false _ A5.out).mono ?_); rintro e w' ⟨rfl, ⟨nd, rfl⟩⟩; (try first | exact ⟨rfl, _, World.drewN_drewN _ _ _⟩ | exact ⟨rfl, _, Eq.trans (World.drewN_drewN _ _ _) (congrArg (World.drewN _) (Nat.add_assoc _ _ _))⟩))))
       go_ret
       exact ⟨by first | rfl | (simp [qn, qm] <;> rfl) | (simp [*, qn, qm] <;> rfl), by repeat (first | (with_reducible first | exact HB.out | apply qc | apply qa | apply qb | refine qf ?_ GE102.out) | exact HB.out)⟩
     ·rw [if_neg c4] at H
      exact absurd H (by simp)
    ·rw [if_neg c3] at H
     exact absurd H (by simp)
   ·rw [if_neg c2] at H
    have c2b0 : decide (x7_1 < (l0.length : Int)) = false := decide_eq_false c2
    clear c2
    replace H := Option.bind_eq_some_iff.mp H
    obtain ⟨t105, A200, H⟩ := H
    replace H : (some t105) = some r := H
    have A20 := Qz.mk A200
    clear A200
    obtain rfl := Option.some.inj H
    go_wp2_with (first | (go_at_call 139; (with_reducible refine (impl_fit.calls k1 _ _ l0 t105 _ ?side1 ?side2 A20.out).mono ?_); (case side1 => exact yq69); (case side2 => exact HC0.out); rintro e w21 ⟨rfl, hb⟩; replace HB := Qz.mk (ql yq64 hb); (try clear hb)))
    repeat (go_quiet (first | (go_at_call 139; (with_reducible refine (impl_fit.calls k1 _ _ l0 t105 _ ?side1 ?side2 A20.out).mono ?_); (case side1 => exact yq69); (case side2 => exact HC0.out); rintro e w21 ⟨rfl, hb⟩; replace HB := Qz.mk (ql yq64 hb); (try clear hb))); try go_wp2_with (first | (go_at_call 139; (with_reducible refine (impl_fit.calls k1 _ _ l0 t105 _ ?side1 ?side2 A20.out).mono ?_); (case side1 => exact yq69); (case side2 => exact HC0.out); rintro e w21 ⟨rfl, hb⟩; replace HB := Qz.mk (ql yq64 hb); (try clear hb))))
    go_ret
    exact ⟨by first | rfl | (simp [qn, qm] <;> rfl) | (simp [*, qn, qm] <;> rfl), by repeat (first | (with_reducible first | exact HB.out | apply qc | apply qa | apply qb) | exact HB.out)⟩
end Go.Proofs.Ytidjdkodgddfcaa.P
end

section
namespace Go.Proofs.Ytidjdkodgddfcaa.P
open Go.RowKit Go.Proofs.YtidjdkodgddfcaaW.PrintWords Go.Proofs.YtidjdkodgddfcaaW.PrintLast Go.Proofs.YtidjdkodgddfcaaW.PrintMore
attribute [local go_sem] str_gtr str_leq str_geq qb1 qz max_two min_two qv qu qa1 qy
set_option linter.unusedVariables false
set_option linter.unusedSimpArgs false
attribute [local go_sem high] eqA170
theorem yq70 {P : Prop} (h : P := by first | (with_reducible assumption) | assumption) : P := h
def impl_File_140.l0 : Nat → List (S170) → List (S170) → Int → Int → Option (Bool)
 | 0, _, _, _, _ => none
 | k + 1, x0, x1, x12, x13 => if x13 < x12 then (if 0 ≤ x13 then (if x13 < (x0.length : Int) then (if x13 < (x1.length : Int) then (if (!((((qj x0 x13).f0).toList) == (((qj x1 x13).f0).toList)) || (!((((qj x0 x13).f1).toList) == (((qj x1 x13).f1).toList)))) = true then (some false) else (impl_File_140.l0 k x0 x1 x12 (wrap64 (x13 + 1)))) else (none)) else (none)) else (none)) else (some true)
def impl_File_140.f (k : Nat) (l0 : List (S170)) (l1 : List (S170)) : Option (Bool) := if (l0.length : Int) = (l1.length : Int) then (impl_File_140.l0 k l0 l1 (l0.length : Int) 0) else (some false)
set_option maxHeartbeats 8000000 in
set_option maxRecDepth 100000 in
theorem impl_File_140.calls (k : Nat) (A0 : Option Addr) (c0 : Nat) (l0 : List (S170)) (A1 : Option Addr) (c1 : Nat) (l1 : List (S170)) (r : Bool) (w : World) (hr0 : Kd.C k170 w A0 l0.length l0) (hc0 : l0.length ≤ c0) (hr1 : Kd.C k170 w A1 l1.length l1) (hc1 : l1.length ≤ c1) (h : impl_File_140.f k l0 l1 = some r) :
  Calls Try.prog 140 #[.slice A0 l0.length c0, .slice A1 l1.length c1] w fun e w' => e = .returned (.bool r) ∧ Drawn0 w w' := by
 have hu170 := Try.underlying170
 have HR0 := Qz.mk hr0
 have HC0 := Qz.mk hc0
 clear hr0 hc0
 have HR1 := Qz.mk hr1
 have HC1 := Qz.mk hc1
 clear hr1 hc1
 have H : (if (l0.length : Int) = (l1.length : Int) then (impl_File_140.l0 k l0 l1 (l0.length : Int) 0) else (some false)) = some r := h
 clear h
 by_cases c3 : (l0.length : Int) = (l1.length : Int)
 ·rw [if_pos c3] at H
  have c3b0 : ((l0.length : Int) == (l1.length : Int)) = true := beq_iff_eq.mpr c3
  have c3b1 : ((l0.length : Int) != (l1.length : Int)) = false := bne_eq_false_iff_eq.mpr c3
  have c3b2 : (l0.length == l1.length) = true := by first | simpa using c3 | (simp at c3 ⊢; omega)
  clear c3
  have H' := Qz.mk H
  clear H
  go_enter Try.func140, Try.ntmps140
  go_wp2
  repeat (go_quiet (fail); try go_wp2)
  go_loopg [13] k (fun kq v13 w' => ∃ (x13_1 : Int), v13 = .int .i64 x13_1 ∧ Qz (impl_File_140.l0 kq l0 l1 (l0.length : Int) x13_1 = some r) ∧ Qz (kq ≤ k) ∧ Drawn0 w w')
  case atStart => exact ⟨(0), (by first | rfl | (simp; done) | (simp [*]; done)), H', ⟨Nat.le_refl _⟩, by repeat (first | exact Drawn0.refl _ | apply Drawn0.step)⟩
  case round =>
   clear H'
   (try clear c1);(try clear p2);(try clear c3);(try clear c3b0);(try clear c3b1);(try clear c3b2)
   obtain ⟨x13_1, rfl, HA, HK1, ⟨m1, rfl⟩⟩ := hrel
   cases gk with
   | zero => exact absurd HA.out (by simp [impl_File_140.l0])
   | succ k1 =>
    have H := HA.out
    clear HA
    simp only [impl_File_140.l0] at H
    by_cases c4 : x13_1 < (l0.length : Int)
    ·rw [if_pos c4] at H
     have c4b0 : decide (x13_1 < (l0.length : Int)) = true := decide_eq_true c4
     clear c4
     by_cases c5 : 0 ≤ x13_1
     ·rw [if_pos c5] at H
      have c5b0 : decide (0 ≤ x13_1) = true := decide_eq_true c5
      clear c5
      by_cases c6 : x13_1 < (l0.length : Int)
      ·rw [if_pos c6] at H
       have c6b0 : decide (x13_1 < (l0.length : Int)) = true := decide_eq_true c6
       clear c6
       by_cases c7 : x13_1 < (l1.length : Int)
       ·rw [if_pos c7] at H
        have c7b0 : decide (x13_1 < (l1.length : Int)) = true := decide_eq_true c7
        clear c7
        by_cases c8 : (!((((qj l0 x13_1).f0).toList) == (((qj l1 x13_1).f0).toList)) || (!((((qj l0 x13_1).f1).toList) == (((qj l1 x13_1).f1).toList)))) = true
        ·rw [if_pos c8] at H
         have c8b0 : (!((((qj l0 x13_1).f0).toList) == (((qj l1 x13_1).f0).toList)) || (!((((qj l0 x13_1).f1).toList) == (((qj l1 x13_1).f1).toList)))) = true := c8
         clear c8
         obtain rfl := Option.some.inj H
         have p101 : 0 ≤ (x13_1 : Int) := of_decide_eq_true yq70
         have q101 : x13_1 < (l0.length : Int) := of_decide_eq_true yq70
         obtain ⟨ad101, e101, hx101_0, hx101_1⟩ := at_T170 HR0.out x13_1 p101 q101
         cases e101
         replace p101 := eq_true p101
         replace q101 := eq_true q101
         have p102 : 0 ≤ (x13_1 : Int) := of_decide_eq_true yq70
         have q102 : x13_1 < (l1.length : Int) := of_decide_eq_true yq70
         obtain ⟨ad102, e102, hx102_0, hx102_1⟩ := at_T170 HR1.out x13_1 p102 q102
         cases e102
         replace p102 := eq_true p102
         replace q102 := eq_true q102
         go_wp2
         repeat (go_quiet (fail); try go_wp2)
         go_ret
         exact ⟨by first | rfl | (simp; done) | (simp [*]; done), by repeat (first | exact Drawn0.refl _ | apply Drawn0.step)⟩
        ·rw [if_neg c8] at H
         have c8b0 : (!((((qj l0 x13_1).f0).toList) == (((qj l1 x13_1).f0).toList)) || (!((((qj l0 x13_1).f1).toList) == (((qj l1 x13_1).f1).toList)))) = false := by simpa using c8
         clear c8
         have H' := Qz.mk H
         clear H
         have p101 : 0 ≤ (x13_1 : Int) := of_decide_eq_true yq70
         have q101 : x13_1 < (l0.length : Int) := of_decide_eq_true yq70
         obtain ⟨ad101, e101, hx101_0, hx101_1⟩ := at_T170 HR0.out x13_1 p101 q101
         cases e101
         replace p101 := eq_true p101
         replace q101 := eq_true q101
         have p102 : 0 ≤ (x13_1 : Int) := of_decide_eq_true yq70
         have q102 : x13_1 < (l1.length : Int) := of_decide_eq_true yq70
         obtain ⟨ad102, e102, hx102_0, hx102_1⟩ := at_T170 HR1.out x13_1 p102 q102
         cases e102
         replace p102 := eq_true p102
         replace q102 := eq_true q102
         go_wp2
         repeat (go_quiet (fail); try go_wp2)
         go_roundg k1
         case measure => have := HK1.out; omega
         case rel => exact ⟨(wrap64 (x13_1 + 1)), (by first | rfl | (simp; done) | (simp [*]; done)), H', ⟨by have := HK1.out; omega⟩, by repeat (first | exact Drawn0.refl _ | apply Drawn0.step)⟩
       ·rw [if_neg c7] at H
        exact absurd H (by simp)
      ·rw [if_neg c6] at H
       exact absurd H (by simp)
     ·rw [if_neg c5] at H
      exact absurd H (by simp)
    ·rw [if_neg c4] at H
     have c4b0 : decide (x13_1 < (l0.length : Int)) = false := decide_eq_false c4
     clear c4
     obtain rfl := Option.some.inj H
     go_wp2
     repeat (go_quiet (fail); try go_wp2)
     go_ret
     exact ⟨by first | rfl | (simp; done) | (simp [*]; done), by repeat (first | exact Drawn0.refl _ | apply Drawn0.step)⟩
 ·rw [if_neg c3] at H
  have c3b0 : ((l0.length : Int) == (l1.length : Int)) = false := beq_eq_false_iff_ne.mpr c3
  have c3b1 : ((l0.length : Int) != (l1.length : Int)) = true := bne_iff_ne.mpr c3
  have c3b2 : (l0.length == l1.length) = false := by first | simpa using c3 | (simp at c3 ⊢; omega)
  obtain rfl := Option.some.inj H
  go_enter Try.func140, Try.ntmps140
  go_wp2
  repeat (go_quiet (fail); try go_wp2)
  go_ret
  exact ⟨by first | rfl | (simp; done) | (simp [*]; done), by repeat (first | exact Drawn0.refl _ | apply Drawn0.step)⟩
theorem yq71 {P : Prop} (h : P := by (with_reducible repeat (first | refine qh ?_ _ | refine qk ?_ | refine qg ?_ _)); refine blk_put (cs := #[.int .i64 ((qi l0_2 x29_2).f0), .string ((qi l0_2 x29_2).f1), .string ((qi l0_2 x29_2).f2), .string (⟨#[]⟩ : ByteArray)]) ?_ 3 _ rfl; (with_reducible repeat (first | refine qh ?_ _ | refine qk ?_ | refine qg ?_ _)); refine blk_put (cs := #[.int .i64 ((qi l0_2 x29_2).f0), .string ((qi l0_2 x29_2).f1), .string (⟨#[]⟩ : ByteArray), .string (⟨#[]⟩ : ByteArray)]) ?_ 2 _ rfl; (with_reducible repeat (first | refine qh ?_ _ | refine qk ?_ | refine qg ?_ _)); refine blk_put (cs := #[.int .i64 ((qi l0_2 x29_2).f0), .string (⟨#[]⟩ : ByteArray), .string (⟨#[]⟩ : ByteArray), .string (⟨#[]⟩ : ByteArray)]) ?_ 1 _ rfl; (with_reducible repeat (first | refine qh ?_ _ | refine qk ?_ | refine qg ?_ _)); refine blk_put (cs := #[.int .i64 0, .string (⟨#[]⟩ : ByteArray), .string (⟨#[]⟩ : ByteArray), .string (⟨#[]⟩ : ByteArray)]) ?_ 0 _ rfl; (with_reducible repeat (first | refine qh ?_ _ | refine qk ?_ | refine qg ?_ _)); exact BK106.out) : P := h
theorem yq72 {P : Prop} (h : P := by repeat (first | (with_reducible first | exact HB.out | apply qc | apply qa | apply qb | refine qf ?_ GE101.out | refine qf ?_ GE106.out) | exact HB.out)) : P := h
theorem yq73 {P : Prop} (h : P := by (with_reducible repeat (first | refine qh ?_ _ | refine qk ?_ | refine qg ?_ _)); exact BK101.out) : P := h
theorem yq74 {P : Prop} (h : P := by (with_reducible repeat (first | refine qh ?_ _ | refine qk ?_ | refine qg ?_ _)); refine blk_far ?_ NB101_106.out _; (with_reducible repeat (first | refine qh ?_ _ | refine qk ?_ | refine qg ?_ _)); refine blk_far ?_ NB101_106.out _; (with_reducible repeat (first | refine qh ?_ _ | refine qk ?_ | refine qg ?_ _)); refine blk_far ?_ NB101_106.out _; (with_reducible repeat (first | refine qh ?_ _ | refine qk ?_ | refine qg ?_ _)); refine blk_far ?_ NB101_106.out _; (with_reducible repeat (first | refine qh ?_ _ | refine qk ?_ | refine qg ?_ _)); exact BK101.out) : P := h
theorem yq75 {P : Prop} (h : P := by (with_reducible repeat (first | apply Kd.V_alloc | apply Kd.V_drewN | apply Kd.V_drew)); exact (Kd.V_mono (Kd.V_far (p := ⟨gb106, 3, none⟩) (Kd.V_far (p := ⟨gb106, 2, none⟩) (Kd.V_far (p := ⟨gb106, 1, none⟩) (Kd.V_far (p := ⟨gb106, 0, none⟩) (Kd.V_mono HO_102001.out (fun k_ hk => (⟨hk, hk.2⟩ : _ ∧ k_ ≠ gb106))) (fun _ hk => hk.2) (.int .i64 ((qi l0_2 x29_2).f0))) (fun _ hk => hk.2) (.string ((qi l0_2 x29_2).f1))) (fun _ hk => hk.2) (.string ((qi l0_2 x29_2).f2))) (fun _ hk => hk.2) (.string ((qi l0_2 x29_2).f3))) (fun _ h_ => h_.1))) : P := h
theorem yq76 {P : Prop} (h : P := by (with_reducible repeat (first | apply Kd.V_alloc | apply Kd.V_drewN | apply Kd.V_drew)); exact (Kd.V_mono (Kd.V_far (p := ⟨gb106, 3, none⟩) (Kd.V_far (p := ⟨gb106, 2, none⟩) (Kd.V_far (p := ⟨gb106, 1, none⟩) (Kd.V_far (p := ⟨gb106, 0, none⟩) (Kd.V_mono HO_3.out (fun k_ hk => (⟨hk, hk.2⟩ : _ ∧ k_ ≠ gb106))) (fun _ hk => hk.2) (.int .i64 ((qi l0_2 x29_2).f0))) (fun _ hk => hk.2) (.string ((qi l0_2 x29_2).f1))) (fun _ hk => hk.2) (.string ((qi l0_2 x29_2).f2))) (fun _ hk => hk.2) (.string ((qi l0_2 x29_2).f3))) (fun _ h_ => h_.1))) : P := h
theorem yq77 {P : Prop} (h : P := by repeat (first | (with_reducible first | exact HB.out | apply qc | apply qa | apply qb | refine qf ?_ GE101.out) | exact HB.out)) : P := h
theorem yq78 {P : Prop} (h : P := by (try simp only [List.map_toArray, List.map_cons, List.map_nil]); first | done | rfl | (simp only [List.length_drop, List.length_take]; rfl) | (rw [IntWalk.u64_in _ (by omega)] <;> rfl)) : P := h
theorem yq79 {P : Prop} (h : P := by (with_reducible repeat (first | apply Kd.V_alloc | apply Kd.V_drewN | apply Kd.V_drew)); exact HO_102001.out) : P := h
theorem yq80 {P : Prop} (h : P := by (with_reducible repeat (first | apply Kd.V_alloc | apply Kd.V_drewN | apply Kd.V_drew)); exact HO_3.out) : P := h
theorem yq81 {P : Prop} (h : P := by rw [hg]; exact Nat.ne_of_lt (blk_lt (g := gb101) (o := .cells #[.slice A0_0 l0_0.length c0_0, .slice A0_1 l0_1.length c0_1, .slice (some ad105) l0_2.length c0_2] 85 (0, 0)) yq73)) : P := h
theorem yq82 {P : Prop} (h : P := by rw [hg]; exact Nat.ne_of_gt (blk_lt (g := gb101) (o := .cells #[.slice A0_0 l0_0.length c0_0, .slice A0_1 l0_1.length c0_1, .slice (some ad105) l0_2.length c0_2] 85 (0, 0)) yq73)) : P := h
theorem yq83 {P : Prop} (h : P := by repeat (first | exact (Kd.C_below HR0_0.out HB.out) | (with_reducible refine Kd.C_alloc ?_ _) | (with_reducible refine Kd.C_drewN ?_ _) | (with_reducible refine Kd.C_drew ?_))) : P := h
theorem yq84 {P : Prop} (h : P := by repeat (first | exact (Kd.V_reads' HO_3.out).2.2 | (with_reducible refine Kd.C_alloc ?_ _) | (with_reducible refine Kd.C_drewN ?_ _) | (with_reducible refine Kd.C_drew ?_))) : P := h
theorem yq85 {P : Prop} (h : P := by (with_reducible repeat (first | apply Kd.V_alloc | apply Kd.V_drewN | apply Kd.V_drew)); exact HO0_1.out) : P := h
theorem yq86 {P : Prop} (h : P := by (with_reducible repeat (first | refine qh ?_ _ | refine qk ?_ | refine qg ?_ _)); exact BK106.out) : P := h
theorem yq87 {P : Prop} (h : P := by first | (with_reducible assumption) | assumption) : P := h
theorem yq88 {P : Prop} (h : P := by (try simp only [List.map_toArray, List.map_cons, List.map_nil]); first | done | rfl) : P := h
theorem bkbf64 {w0 W W2 : World} {g : Nat} {o : Obj} (_ : Qz (w0.heap[g]? = some o)) (h : W.heap[g]? = some o) (hb : Below W.heap.size W W2) : Qz (W2.heap[g]? = some o) := Qz.mk (qq h hb)
mutual
def impl_DiskOk.j0 : Nat → Bool → List (S170) → List (S170) → List (S157) → Option (Bool)
 | 0, _, _, _, _ => none
 | k + 1, x23, x102000, x102001, x102002 => if x23 = true then (some false) else (impl_DiskOk.l0 k x102001 x102002 (x102002.length : Int) 0 x102000 x102001 x102002)
def impl_DiskOk.l0 : Nat → List (S170) → List (S157) → Int → Int → List (S170) → List (S170) → List (S157) → Option (Bool)
 | 0, _, _, _, _, _, _, _ => none
 | k + 1, x3, x27, x28, x29, x102000, x102001, x102002 => if x29 < x28 then (if 0 ≤ x29 then (if x29 < (x27.length : Int) then ((impl_DOp_formed.f ((qi x27 x29).f0) ((qi x27 x29).f1) ((qi x27 x29).f2) ((qi x27 x29).f3)).bind fun t107 => (if t107 = true then ((impl_done.f x3 ((qi x27 x29).f0) ((qi x27 x29).f1) ((qi x27 x29).f2) ((qi x27 x29).f3)).bind fun bt108 => (if bt108.2 = true then ((impl_fit.f k bt108.1).bind fun t112 => (if t112 = true then (impl_DiskOk.l0 k bt108.1 x27 x28 (wrap64 (x29 + 1)) x102000 x102001 x102002) else (some false))) else (some false))) else (some false))) else (none)) else (none)) else ((impl_File_140.f k x3 x102000).bind fun t104 => (some t104))
end
def impl_DiskOk.f (k : Nat) (l0_0 : List (S170)) (l0_1 : List (S170)) (l0_2 : List (S157)) : Option (Bool) := (impl_areFiles.f k l0_0).bind fun t102 => (if t102 = true then ((impl_areFiles.f k l0_1).bind fun t103 => (if t103 = true then (impl_DiskOk.j0 k (decide ((l0_2.length : Int) > 200)) l0_0 l0_1 l0_2) else (impl_DiskOk.j0 k true l0_0 l0_1 l0_2))) else (impl_DiskOk.j0 k true l0_0 l0_1 l0_2))
set_option maxHeartbeats 8000000 in
set_option maxRecDepth 100000 in
theorem impl_DiskOk.calls (k : Nat) (A0_0 : Option Addr) (c0_0 : Nat) (l0_0 : List (S170)) (P0_1_ : Nat → Prop) (A0_1 : Option Addr) (c0_1 : Nat) (l0_1 : List (S170)) (A0_2 : Option Addr) (c0_2 : Nat) (l0_2 : List (S157)) (r : Bool) (w : World) (hr0_0 : Kd.C k170 w A0_0 l0_0.length l0_0) (hc0_0 : l0_0.length ≤ c0_0) (hs0_1 : Kd.V k170 170 w w.heap.size (fun k_ => P0_1_ k_) (.slice A0_1 l0_1.length c0_1) l0_1) (hr0_2 : Kd.C k157 w A0_2 l0_2.length l0_2) (hc0_2 : l0_2.length ≤ c0_2) (h : impl_DiskOk.f k l0_0 l0_1 l0_2 = some r) :
  Calls Try.prog 64 #[.agg #[.slice A0_0 l0_0.length c0_0, .slice A0_1 l0_1.length c0_1, .slice A0_2 l0_2.length c0_2]] w fun e w' => e = .returned (.bool r) ∧ Below w.heap.size w w' := by
 have hu85 := Try.underlying85
 have hu157 := Try.underlying157
 have HR0_0 := Qz.mk hr0_0
 have HC0_0 := Qz.mk hc0_0
 clear hr0_0 hc0_0
 have HO0_1 := Qz.mk (show Kd.V k170 170 w w.heap.size (fun k_ => (P0_1_ k_ ∨ w.heap.size ≤ k_)) (.slice A0_1 l0_1.length c0_1) l0_1 from Kd.V_mono hs0_1 (fun k_ hk => .inl hk))
 have HR0_2 := Qz.mk hr0_2
 have HC0_2 := Qz.mk hc0_2
 clear hr0_2 hc0_2
 have HB := Qz.mk (Below.refl w.heap.size w)
 have H : ((impl_areFiles.f k l0_0).bind fun t102 => (if t102 = true then ((impl_areFiles.f k l0_1).bind fun t103 => (if t103 = true then (impl_DiskOk.j0 k (decide ((l0_2.length : Int) > 200)) l0_0 l0_1 l0_2) else (impl_DiskOk.j0 k true l0_0 l0_1 l0_2))) else (impl_DiskOk.j0 k true l0_0 l0_1 l0_2))) = some r := h
 clear h
 have HC2 := Qz.mk H
 clear H
 go_enter Try.func64, Try.ntmps64
 go_upto_region 1 with (first | ((with_reducible refine qt (N := 1) rfl ?_); (try (refine gate_guard (by rfl) ?_; dsimp only)); refine qr ?hg (N := 1) ?hd (cs := #[.slice A0_0 l0_0.length c0_0, .slice A0_1 l0_1.length c0_1, .slice A0_2 l0_2.length c0_2]) (t := 85) ?hr ?_; (case hd => rfl); (case hg => rfl); (case hr => first | (go_simp; done) | (go_simp; rfl)); intro gb101 hg w3 hbox hb; replace HO0_1 := Qz.mk (Kd.V_below (Kd.V_elderB yq85 gb101 (Nat.le_of_eq hg.symm)) hb); have BK101 := Qz.mk (hbox); have GW101 := Qz.mk ((by rw [hg]; exact (qo (by repeat (first | (with_reducible first | exact HB.out | apply qc | apply qa | apply qb) | exact HB.out))) : w.heap.size ≤ gb101)); have GE101 := GW101; replace HB := Qz.mk (ql (by repeat (first | (with_reducible first | exact HB.out | apply qc | apply qa | apply qb) | exact HB.out)) hb); clear hb hbox hg))
 (try simp only [Act.put, sq1, sq2, sq3])
 go_cut [23] (fun v23 wc => ∃ (kq : Nat) (x23_1 : Bool), v23 = .bool x23_1 ∧ Qz (impl_DiskOk.j0 kq x23_1 l0_0 l0_1 l0_2 = some r) ∧ Qz (kq ≤ k) ∧ Qz (Kd.V k170 170 wc w.heap.size (fun k_ => (P0_1_ k_ ∨ w.heap.size ≤ k_) ∧ k_ ≠ gb101) (.slice A0_1 l0_1.length c0_1) l0_1) ∧ Qz (wc.heap[gb101]? = some (.cells #[(.slice A0_0 l0_0.length c0_0), (.slice A0_1 l0_1.length c0_1), (.slice A0_2 l0_2.length c0_2)] 85 (0, 0))) ∧ Qz (Below w.heap.size w wc))
 case first =>
  have H := HC2.out
  clear HC2
  replace H := Option.bind_eq_some_iff.mp H
  obtain ⟨t102, A40, H⟩ := H
  replace H : (if t102 = true then ((impl_areFiles.f k l0_1).bind fun t103 => (if t103 = true then (impl_DiskOk.j0 k (decide ((l0_2.length : Int) > 200)) l0_0 l0_1 l0_2) else (impl_DiskOk.j0 k true l0_0 l0_1 l0_2))) else (impl_DiskOk.j0 k true l0_0 l0_1 l0_2)) = some r := H
  have A4 := Qz.mk A40
  clear A40
  by_cases c5 : t102 = true
  ·subst c5
   have H1 : ((impl_areFiles.f k l0_1).bind fun t103 => (if t103 = true then (impl_DiskOk.j0 k (decide ((l0_2.length : Int) > 200)) l0_0 l0_1 l0_2) else (impl_DiskOk.j0 k true l0_0 l0_1 l0_2))) = some r := by rw [if_pos rfl] at H; exact H
   clear H
   have H := H1
   clear H1
   replace H := Option.bind_eq_some_iff.mp H
   obtain ⟨t103, A60, H⟩ := H
   replace H : (if t103 = true then (impl_DiskOk.j0 k (decide ((l0_2.length : Int) > 200)) l0_0 l0_1 l0_2) else (impl_DiskOk.j0 k true l0_0 l0_1 l0_2)) = some r := H
   have A6 := Qz.mk A60
   clear A60
   by_cases c7 : t103 = true
   ·subst c7
    have H1 : (impl_DiskOk.j0 k (decide ((l0_2.length : Int) > 200)) l0_0 l0_1 l0_2) = some r := by rw [if_pos rfl] at H; exact H
    clear H
    have H := H1
    clear H1
    have H' := Qz.mk H
    clear H
    have hcz8_0 := (qd BK101.out 0).trans rfl
    have hcz8_1 := (qd BK101.out 1).trans rfl
    have hcz8_2 := (qd BK101.out 2).trans rfl
    have hfz8_0 := qe BK101.out 0
    have hfz8_1 := qe BK101.out 1
    have hfz8_2 := qe BK101.out 2
    go_wp2_with (first | ((with_reducible refine qp (f := 136) rfl ?_); refine qc1 (some 10) rfl rfl Try.func136 (by kernel_rfl) rfl #[.slice A0_0 l0_0.length c0_0] rfl yq78 ?_; (with_reducible refine (impl_areFiles.calls k _ _ l0_0 true _ ?side1 ?side2 A4.out).mono ?_); (case side1 => exact yq83); (case side2 => exact HC0_0.out); rintro e w9 ⟨rfl, hb⟩; refine ⟨_, rfl, ?_⟩; replace HO0_1 := Qz.mk (Kd.V_below yq85 hb); replace BK101 := bkbf64 BK101 yq73 hb; replace HB := Qz.mk (ql yq77 hb); (try clear hb); (try clear hk); have hcz10_0 := (qd BK101.out 0).trans rfl; have hcz10_1 := (qd BK101.out 1).trans rfl; have hcz10_2 := (qd BK101.out 2).trans rfl; have hfz10_0 := qe BK101.out 0; have hfz10_1 := qe BK101.out 1; have hfz10_2 := qe BK101.out 2) | (go_at_call 136; (with_reducible refine (impl_areFiles.calls k _ _ l0_1 true _ ?side1 ?side2 A6.out).mono ?_); (case side1 => repeat (first | exact (Kd.V_reads' HO0_1.out).2.2 | (with_reducible refine Kd.C_alloc ?_ _) | (with_reducible refine Kd.C_drewN ?_ _) | (with_reducible refine Kd.C_drew ?_))); (case side2 => exact (Kd.V_reads' HO0_1.out).2.1); rintro e w11 ⟨rfl, hb⟩; replace HO0_1 := Qz.mk (Kd.V_below yq85 hb); replace BK101 := bkbf64 BK101 yq73 hb; replace HB := Qz.mk (ql yq77 hb); (try clear hb); (try clear hk); have hcz12_0 := (qd BK101.out 0).trans rfl; have hcz12_1 := (qd BK101.out 1).trans rfl; have hcz12_2 := (qd BK101.out 2).trans rfl; have hfz12_0 := qe BK101.out 0; have hfz12_1 := qe BK101.out 1; have hfz12_2 := qe BK101.out 2))
    go_meet
    case rel => exact ⟨_, (decide ((l0_2.length : Int) > 200)), (by first | rfl | (simp; done) | (simp [*]; done)), H', ⟨by first | omega | exact Nat.le_refl _⟩, ⟨by (with_reducible repeat (first | apply Kd.V_alloc | apply Kd.V_drewN | apply Kd.V_drew)); exact HO0_1.out⟩, ⟨by (with_reducible repeat (first | refine qh ?_ _ | refine qk ?_ | refine qg ?_ _)); exact BK101.out⟩, ⟨by repeat (first | (with_reducible first | exact HB.out | apply qc | apply qa | apply qb | refine qf ?_ GE101.out) | exact HB.out)⟩⟩
   ·replace c7 := Bool.eq_false_iff.mpr c7
    subst c7
    have H1 : (impl_DiskOk.j0 k true l0_0 l0_1 l0_2) = some r := by rw [if_neg (show ¬ (false = true) by decide)] at H; exact H
    clear H
    have H := H1
    clear H1
    have H' := Qz.mk H
    clear H
    have hcz13_0 := (qd BK101.out 0).trans rfl
    have hcz13_1 := (qd BK101.out 1).trans rfl
    have hcz13_2 := (qd BK101.out 2).trans rfl
    have hfz13_0 := qe BK101.out 0
    have hfz13_1 := qe BK101.out 1
    have hfz13_2 := qe BK101.out 2
    go_wp2_with (first | ((with_reducible refine qp (f := 136) rfl ?_); refine qc1 (some 10) rfl rfl Try.func136 (by kernel_rfl) rfl #[.slice A0_0 l0_0.length c0_0] rfl yq78 ?_; (with_reducible refine (impl_areFiles.calls k _ _ l0_0 true _ ?side1 ?side2 A4.out).mono ?_); (case side1 => exact yq83); (case side2 => exact HC0_0.out); rintro e w14 ⟨rfl, hb⟩; refine ⟨_, rfl, ?_⟩; replace HO0_1 := Qz.mk (Kd.V_below yq85 hb); replace BK101 := bkbf64 BK101 yq73 hb; replace HB := Qz.mk (ql yq77 hb); (try clear hb); (try clear hk); have hcz15_0 := (qd BK101.out 0).trans rfl; have hcz15_1 := (qd BK101.out 1).trans rfl; have hcz15_2 := (qd BK101.out 2).trans rfl; have hfz15_0 := qe BK101.out 0; have hfz15_1 := qe BK101.out 1; have hfz15_2 := qe BK101.out 2) | (go_at_call 136; (with_reducible refine (impl_areFiles.calls k _ _ l0_1 false _ ?side1 ?side2 A6.out).mono ?_); (case side1 => repeat (first | exact (Kd.V_reads' HO0_1.out).2.2 | (with_reducible refine Kd.C_alloc ?_ _) | (with_reducible refine Kd.C_drewN ?_ _) | (with_reducible refine Kd.C_drew ?_))); (case side2 => exact (Kd.V_reads' HO0_1.out).2.1); rintro e w16 ⟨rfl, hb⟩; replace HO0_1 := Qz.mk (Kd.V_below yq85 hb); replace BK101 := bkbf64 BK101 yq73 hb; replace HB := Qz.mk (ql yq77 hb); (try clear hb); (try clear hk)))
    go_meet
    case rel => exact ⟨_, (true), (by first | rfl | (simp; done) | (simp [*]; done)), H', ⟨by first | omega | exact Nat.le_refl _⟩, ⟨by (with_reducible repeat (first | apply Kd.V_alloc | apply Kd.V_drewN | apply Kd.V_drew)); exact HO0_1.out⟩, ⟨by (with_reducible repeat (first | refine qh ?_ _ | refine qk ?_ | refine qg ?_ _)); exact BK101.out⟩, ⟨by repeat (first | (with_reducible first | exact HB.out | apply qc | apply qa | apply qb | refine qf ?_ GE101.out) | exact HB.out)⟩⟩
  ·replace c5 := Bool.eq_false_iff.mpr c5
   subst c5
   have H1 : (impl_DiskOk.j0 k true l0_0 l0_1 l0_2) = some r := by rw [if_neg (show ¬ (false = true) by decide)] at H; exact H
   clear H
   have H := H1
   clear H1
   have H' := Qz.mk H
   clear H
   have hcz17_0 := (qd BK101.out 0).trans rfl
   have hcz17_1 := (qd BK101.out 1).trans rfl
   have hcz17_2 := (qd BK101.out 2).trans rfl
   have hfz17_0 := qe BK101.out 0
   have hfz17_1 := qe BK101.out 1
   have hfz17_2 := qe BK101.out 2
   go_wp2_with (first | ((with_reducible refine qp (f := 136) rfl ?_); refine qc1 (some 10) rfl rfl Try.func136 (by kernel_rfl) rfl #[.slice A0_0 l0_0.length c0_0] rfl yq78 ?_; (with_reducible refine (impl_areFiles.calls k _ _ l0_0 false _ ?side1 ?side2 A4.out).mono ?_); (case side1 => exact yq83); (case side2 => exact HC0_0.out); rintro e w18 ⟨rfl, hb⟩; refine ⟨_, rfl, ?_⟩; replace HO0_1 := Qz.mk (Kd.V_below yq85 hb); replace BK101 := bkbf64 BK101 yq73 hb; replace HB := Qz.mk (ql yq77 hb); (try clear hb); (try clear hk)))
   go_meet
   case rel => exact ⟨_, (true), (by first | rfl | (simp; done) | (simp [*]; done)), H', ⟨by first | omega | exact Nat.le_refl _⟩, ⟨by (with_reducible repeat (first | apply Kd.V_alloc | apply Kd.V_drewN | apply Kd.V_drew)); exact HO0_1.out⟩, ⟨by (with_reducible repeat (first | refine qh ?_ _ | refine qk ?_ | refine qg ?_ _)); exact BK101.out⟩, ⟨by repeat (first | (with_reducible first | exact HB.out | apply qc | apply qa | apply qb | refine qf ?_ GE101.out) | exact HB.out)⟩⟩
 case rest =>
  clear HC2
  (try clear c1);(try clear p2);(try clear c5);(try clear c6);(try clear c7);(try clear c13);(try clear hcz10_0);(try clear hcz10_1);(try clear hcz10_2);(try clear hcz12_0);(try clear hcz12_1);(try clear hcz12_2);(try clear hcz13_0);(try clear hcz13_1);(try clear hcz13_2);(try clear hcz15_0);(try clear hcz15_1);(try clear hcz15_2);(try clear hcz17_0);(try clear hcz17_1);(try clear hcz17_2);(try clear hcz8_0);(try clear hcz8_1);(try clear hcz8_2);(try clear hfz10_0);(try clear hfz10_1);(try clear hfz10_2);(try clear hfz12_0);(try clear hfz12_1);(try clear hfz12_2);(try clear hfz13_0);(try clear hfz13_1);(try clear hfz13_2);(try clear hfz15_0);(try clear hfz15_1);(try clear hfz15_2);(try clear hfz17_0);(try clear hfz17_1);(try clear hfz17_2);(try clear hfz8_0);(try clear hfz8_1);(try clear hfz8_2)
  obtain ⟨kq, x23_1, rfl, HA, HJ1, HO_102001, BK101, HB⟩ := hcut
  cases kq with
  | zero => exact absurd HA.out (by simp [impl_DiskOk.j0])
  | succ kj1 =>
   have H := HA.out
   clear HA
   simp only [impl_DiskOk.j0] at H
   by_cases c19 : x23_1 = true
   ·subst c19
    have H1 : (some false) = some r := by rw [if_pos rfl] at H; exact H
    clear H
    have H := H1
    clear H1
    obtain rfl := Option.some.inj H
    go_wp2
    go_ret
    exact ⟨by first | rfl | (simp [qn, qm] <;> rfl) | (simp [*, qn, qm] <;> rfl), by repeat (first | (with_reducible first | exact HB.out | apply qc | apply qa | apply qb | refine qf ?_ GE101.out) | exact HB.out)⟩
   ·replace c19 := Bool.eq_false_iff.mpr c19
    subst c19
    have H1 : (impl_DiskOk.l0 kj1 l0_1 l0_2 (l0_2.length : Int) 0 l0_0 l0_1 l0_2) = some r := by rw [if_neg (show ¬ (false = true) by decide)] at H; exact H
    clear H
    have H := H1
    clear H1
    have H' := Qz.mk H
    clear H
    have hcz20_0 := (qd BK101.out 0).trans rfl
    have hcz20_1 := (qd BK101.out 1).trans rfl
    have hcz20_2 := (qd BK101.out 2).trans rfl
    have hfz20_0 := qe BK101.out 0
    have hfz20_1 := qe BK101.out 1
    have hfz20_2 := qe BK101.out 2
    go_wp2
    go_loopg [3, 29] kj1 (fun kq v3 v29 w' => ∃ (x3_2 : List (S170)) (x29_2 : Int), v29 = .int .i64 x29_2 ∧ Qz (impl_DiskOk.l0 kq x3_2 l0_2 (l0_2.length : Int) x29_2 l0_0 l0_1 l0_2 = some r) ∧ Qz (kq ≤ kj1) ∧ Qz (Kd.V k170 170 w' w.heap.size (fun k_ => (P0_1_ k_ ∨ w.heap.size ≤ k_) ∧ k_ ≠ gb101) v3 x3_2) ∧ Qz (Kd.V k170 170 w' w.heap.size (fun k_ => (P0_1_ k_ ∨ w.heap.size ≤ k_) ∧ k_ ≠ gb101) (.slice A0_1 l0_1.length c0_1) l0_1) ∧ Qz (w'.heap[gb101]? = some (.cells #[(.slice A0_0 l0_0.length c0_0), (.slice A0_1 l0_1.length c0_1), (.slice A0_2 l0_2.length c0_2)] 85 (0, 0))) ∧ Qz (Below w.heap.size w w'))
    case atStart => exact ⟨(l0_1), (0), (by first | rfl | (simp; done) | (simp [*]; done)), H', ⟨Nat.le_refl _⟩, ⟨by (with_reducible repeat (first | apply Kd.V_alloc | apply Kd.V_drewN | apply Kd.V_drew)); exact HO_102001.out⟩, ⟨by (with_reducible repeat (first | apply Kd.V_alloc | apply Kd.V_drewN | apply Kd.V_drew)); exact HO_102001.out⟩, ⟨by (with_reducible repeat (first | refine qh ?_ _ | refine qk ?_ | refine qg ?_ _)); exact BK101.out⟩, ⟨by repeat (first | (with_reducible first | exact HB.out | apply qc | apply qa | apply qb | refine qf ?_ GE101.out) | exact HB.out)⟩⟩
    case round =>
     clear H'
     (try clear c1);(try clear p2);(try clear c5);(try clear c6);(try clear c7);(try clear c13);(try clear c19);(try clear hcz10_0);(try clear hcz10_1);(try clear hcz10_2);(try clear hcz12_0);(try clear hcz12_1);(try clear hcz12_2);(try clear hcz13_0);(try clear hcz13_1);(try clear hcz13_2);(try clear hcz15_0);(try clear hcz15_1);(try clear hcz15_2);(try clear hcz17_0);(try clear hcz17_1);(try clear hcz17_2);(try clear hcz20_0);(try clear hcz20_1);(try clear hcz20_2);(try clear hcz8_0);(try clear hcz8_1);(try clear hcz8_2);(try clear hfz10_0);(try clear hfz10_1);(try clear hfz10_2);(try clear hfz12_0);(try clear hfz12_1);(try clear hfz12_2);(try clear hfz13_0);(try clear hfz13_1);(try clear hfz13_2);(try clear hfz15_0);(try clear hfz15_1);(try clear hfz15_2);(try clear hfz17_0);(try clear hfz17_1);(try clear hfz17_2);(try clear hfz20_0);(try clear hfz20_1);(try clear hfz20_2);(try clear hfz8_0);(try clear hfz8_1);(try clear hfz8_2);(try clear p2)
     obtain ⟨x3_2, x29_2, rfl, HA, HK2, HO_3, HO_102001, BK101, HB⟩ := hrel
     cases gk with
     | zero => exact absurd HA.out (by simp [impl_DiskOk.l0])
     | succ k2 =>
      have H := HA.out
      clear HA
      simp only [impl_DiskOk.l0] at H
      by_cases c21 : x29_2 < (l0_2.length : Int)
      ·rw [if_pos c21] at H
       have c21b0 : decide (x29_2 < (l0_2.length : Int)) = true := decide_eq_true c21
       clear c21
       by_cases c22 : 0 ≤ x29_2
       ·rw [if_pos c22] at H
        have c22b0 : decide (0 ≤ x29_2) = true := decide_eq_true c22
        clear c22
        by_cases c23 : x29_2 < (l0_2.length : Int)
        ·rw [if_pos c23] at H
         have c23b0 : decide (x29_2 < (l0_2.length : Int)) = true := decide_eq_true c23
         clear c23
         replace H := Option.bind_eq_some_iff.mp H
         obtain ⟨t107, A240, H⟩ := H
         replace H : (if t107 = true then ((impl_done.f x3_2 ((qi l0_2 x29_2).f0) ((qi l0_2 x29_2).f1) ((qi l0_2 x29_2).f2) ((qi l0_2 x29_2).f3)).bind fun bt108 => (if bt108.2 = true then ((impl_fit.f k2 bt108.1).bind fun t112 => (if t112 = true then (impl_DiskOk.l0 k2 bt108.1 l0_2 (l0_2.length : Int) (wrap64 (x29_2 + 1)) l0_0 l0_1 l0_2) else (some false))) else (some false))) else (some false)) = some r := H
         have A24 := Qz.mk A240
         clear A240
         by_cases c25 : t107 = true
         ·subst c25
          have H1 : ((impl_done.f x3_2 ((qi l0_2 x29_2).f0) ((qi l0_2 x29_2).f1) ((qi l0_2 x29_2).f2) ((qi l0_2 x29_2).f3)).bind fun bt108 => (if bt108.2 = true then ((impl_fit.f k2 bt108.1).bind fun t112 => (if t112 = true then (impl_DiskOk.l0 k2 bt108.1 l0_2 (l0_2.length : Int) (wrap64 (x29_2 + 1)) l0_0 l0_1 l0_2) else (some false))) else (some false))) = some r := by rw [if_pos rfl] at H; exact H
          clear H
          have H := H1
          clear H1
          replace H := Option.bind_eq_some_iff.mp H
          obtain ⟨⟨t108, t111⟩, A260, H⟩ := H
          replace H : (if t111 = true then ((impl_fit.f k2 t108).bind fun t112 => (if t112 = true then (impl_DiskOk.l0 k2 t108 l0_2 (l0_2.length : Int) (wrap64 (x29_2 + 1)) l0_0 l0_1 l0_2) else (some false))) else (some false)) = some r := H
          have A26 := Qz.mk A260
          clear A260
          by_cases c27 : t111 = true
          ·subst c27
           have H1 : ((impl_fit.f k2 t108).bind fun t112 => (if t112 = true then (impl_DiskOk.l0 k2 t108 l0_2 (l0_2.length : Int) (wrap64 (x29_2 + 1)) l0_0 l0_1 l0_2) else (some false))) = some r := by rw [if_pos rfl] at H; exact H
           clear H
           have H := H1
           clear H1
           replace H := Option.bind_eq_some_iff.mp H
           obtain ⟨t112, A280, H⟩ := H
           replace H : (if t112 = true then (impl_DiskOk.l0 k2 t108 l0_2 (l0_2.length : Int) (wrap64 (x29_2 + 1)) l0_0 l0_1 l0_2) else (some false)) = some r := H
           have A28 := Qz.mk A280
           clear A280
           by_cases c29 : t112 = true
           ·subst c29
            have H1 : (impl_DiskOk.l0 k2 t108 l0_2 (l0_2.length : Int) (wrap64 (x29_2 + 1)) l0_0 l0_1 l0_2) = some r := by rw [if_pos rfl] at H; exact H
            clear H
            have H := H1
            clear H1
            have H' := Qz.mk H
            clear H
            have p105 : 0 ≤ (x29_2 : Int) := of_decide_eq_true yq87
            have q105 : x29_2 < (l0_2.length : Int) := of_decide_eq_true yq87
            obtain ⟨ad105, e105, hx105_0, hx105_1, hx105_2, hx105_3⟩ := at_T157 HR0_2.out x29_2 p105 q105
            cases e105
            replace hx105_0 := (HB.out.cell (World.block_lt_of_cell? w _ hx105_0)).trans hx105_0
            replace hx105_1 := (HB.out.cell (World.block_lt_of_cell? w _ hx105_1)).trans hx105_1
            replace hx105_2 := (HB.out.cell (World.block_lt_of_cell? w _ hx105_2)).trans hx105_2
            replace hx105_3 := (HB.out.cell (World.block_lt_of_cell? w _ hx105_3)).trans hx105_3
            replace p105 := eq_true p105
            replace q105 := eq_true q105
            go_wp2_with (first | ((with_reducible refine qt (N := 5) rfl ?_); (try (refine gate_guard (by rfl) ?_; dsimp only)); refine qr ?hg (N := 5) ?hd (cs := #[.int .i64 0, .string (⟨#[]⟩ : ByteArray), .string (⟨#[]⟩ : ByteArray), .string (⟨#[]⟩ : ByteArray)]) (t := 157) ?hr ?_; (case hd => rfl); (case hg => rfl); (case hr => first | (go_simp; done) | (go_simp; rfl)); intro gb106 hg w30 hbox hb; replace HO_3 := Qz.mk (Kd.V_below (Kd.V_elderB yq80 gb106 (Nat.le_of_eq hg.symm)) hb); replace HO_102001 := Qz.mk (Kd.V_below (Kd.V_elderB yq79 gb106 (Nat.le_of_eq hg.symm)) hb); have BK106 := Qz.mk (hbox); have GW106 := Qz.mk ((by rw [hg]; exact (qo yq77) : w.heap.size ≤ gb106)); have GE106 := GW106; replace HB := Qz.mk (ql yq77 hb); have NB101_106 := Qz.mk ((yq81 : gb101 ≠ gb106)); have NB106_101 := Qz.mk ((yq82 : gb106 ≠ gb101)); replace BK101 := bkbf64 BK101 yq73 hb; clear hb hbox hg; have hnb31 := NB106_101.out; have hnc31 := NB101_106.out; have hcz32_0 := (qd BK106.out 0).trans rfl; have hcz32_1 := (qd BK106.out 1).trans rfl; have hcz32_2 := (qd BK106.out 2).trans rfl; have hcz32_3 := (qd BK106.out 3).trans rfl; have hfz32_0 := qe BK106.out 0; have hfz32_1 := qe BK106.out 1; have hfz32_2 := qe BK106.out 2; have hfz32_3 := qe BK106.out 3) | ((with_reducible refine qp (f := 137) rfl ?_); refine qc1 (some 34) rfl rfl Try.func137 (by kernel_rfl) rfl #[.agg #[.int .i64 ((qi l0_2 x29_2).f0), .string ((qi l0_2 x29_2).f1), .string ((qi l0_2 x29_2).f2), .string ((qi l0_2 x29_2).f3)]] rfl yq88 ?_; (with_reducible refine (impl_DOp_formed.calls ((qi l0_2 x29_2).f0) ((qi l0_2 x29_2).f1) ((qi l0_2 x29_2).f2) ((qi l0_2 x29_2).f3) true _ A24.out).mono ?_); rintro e w33 ⟨rfl, hb⟩; refine ⟨_, rfl, ?_⟩; replace HO_3 := Qz.mk (Kd.V_below yq76 hb); replace HO_102001 := Qz.mk (Kd.V_below yq75 hb); replace BK101 := Qz.mk (qq (g := gb101) (o := .cells #[.slice A0_0 l0_0.length c0_0, .slice A0_1 l0_1.length c0_1, .slice (some ad105) l0_2.length c0_2] 85 (0, 0)) yq74 hb); replace BK106 := Qz.mk (qq (g := gb106) (o := .cells #[.int .i64 ((qi l0_2 x29_2).f0), .string ((qi l0_2 x29_2).f1), .string ((qi l0_2 x29_2).f2), .string ((qi l0_2 x29_2).f3)] 157 (0, 0)) yq71 hb); replace HB := Qz.mk (ql yq72 hb); (try clear hb); (try clear hk); have hcz34_0 : w33.cell? ⟨gb106, 0, none⟩ = some (.int .i64 ((qi l0_2 x29_2).f0)) := (qd BK106.out 0).trans rfl; have hcz34_1 : w33.cell? ⟨gb106, 1, none⟩ = some (.string ((qi l0_2 x29_2).f1)) := (qd BK106.out 1).trans rfl; have hcz34_2 : w33.cell? ⟨gb106, 2, none⟩ = some (.string ((qi l0_2 x29_2).f2)) := (qd BK106.out 2).trans rfl; have hcz34_3 : w33.cell? ⟨gb106, 3, none⟩ = some (.string ((qi l0_2 x29_2).f3)) := (qd BK106.out 3).trans rfl; have hfz34_0 := qe BK106.out 0; have hfz34_1 := qe BK106.out 1; have hfz34_2 := qe BK106.out 2; have hfz34_3 := qe BK106.out 3; obtain ⟨Ao35, co35, eo35⟩ := Kd.V_slice HO_3.out; subst eo35) | ((with_reducible refine qp (f := 138) rfl ?_); refine qc1 (some 39) rfl rfl Try.func138 (by kernel_rfl) rfl #[.slice Ao35 x3_2.length co35, .agg #[.int .i64 ((qi l0_2 x29_2).f0), .string ((qi l0_2 x29_2).f1), .string ((qi l0_2 x29_2).f2), .string ((qi l0_2 x29_2).f3)]] rfl yq78 ?_; (with_reducible refine (impl_done.calls _ _ x3_2 ((qi l0_2 x29_2).f0) ((qi l0_2 x29_2).f1) ((qi l0_2 x29_2).f2) ((qi l0_2 x29_2).f3) t108 true _ ?side1 ?side2 A26.out).mono ?_); (case side1 => exact yq84); (case side2 => exact (Kd.V_reads' HO_3.out).2.1); rintro e w36 ⟨v109, rfl, ho0, hb⟩; refine ⟨_, rfl, ?_⟩; replace HO_3 := Qz.mk (Kd.V_elder' yq80 (Kd.R_base ho0) hb); replace HO_102001 := Qz.mk (Kd.V_elder' yq79 (Kd.R_base ho0) hb); have HO110 := Qz.mk (Kd.R_lower (Kd.R_newM (M := fun k_ => (w.heap.size ≤ k_)) ho0 (qo yq72) (fun k_ h_ => h_)) (qo yq72)); replace BK101 := bkbf64 BK101 yq73 hb; replace BK106 := bkbf64 BK106 yq86 hb; replace HB := Qz.mk (ql yq72 hb); (try clear hb); (try clear hk); (try clear ho0); obtain ⟨Ao37, co37, eo37⟩ := Kd.R_slice HO110.out; subst eo37) | (go_at_call 139; (with_reducible refine (impl_fit.calls k2 _ _ t108 true _ ?side1 ?side2 A28.out).mono ?_); (case side1 => repeat (first | exact (Kd.R_reads' HO110.out).2.2 | (with_reducible refine Kd.C_alloc ?_ _) | (with_reducible refine Kd.C_drewN ?_ _) | (with_reducible refine Kd.C_drew ?_))); (case side2 => exact (Kd.R_reads' HO110.out).2.1); rintro e w38 ⟨rfl, hb⟩; replace HO_3 := Qz.mk (Kd.V_below yq80 hb); replace HO_102001 := Qz.mk (Kd.V_below yq79 hb); replace HO110 := Qz.mk (Kd.R_below (by (with_reducible repeat (first | apply Kd.R_alloc | apply Kd.R_drewN | apply Kd.R_drew)); exact HO110.out) hb); replace BK101 := bkbf64 BK101 yq73 hb; replace BK106 := bkbf64 BK106 yq86 hb; replace HB := Qz.mk (ql yq72 hb); (try clear hb); (try clear hk)))
            go_roundg k2
            case measure => have := HJ1.out; have := HK2.out; omega
            case rel => exact ⟨(t108), (wrap64 (x29_2 + 1)), (by first | rfl | (simp; done) | (simp [*]; done)), H', ⟨by have := HJ1.out; have := HK2.out; omega⟩, ⟨Kd.V_mono (Kd.R_V (by (with_reducible repeat (first | apply Kd.R_alloc | apply Kd.R_drewN | apply Kd.R_drew)); exact Kd.R_mono (ok' := fun k_ => w.heap.size ≤ k_ ∧ k_ ≠ gb101) (Kd.R_types HO110.out BK101.out (by decide)) (fun _ hk => ⟨hk.1.1, hk.2⟩))) (fun k_ hk => by first | exact ⟨(.inr (hk.1)), hk.2⟩ | exact (.inr (hk)))⟩, ⟨by (with_reducible repeat (first | apply Kd.V_alloc | apply Kd.V_drewN | apply Kd.V_drew)); exact Kd.V_mono HO_102001.out (fun _ hk => ⟨hk.1.1.1, hk.1.1.2⟩)⟩, ⟨by (with_reducible repeat (first | refine qh ?_ _ | refine qk ?_ | refine qg ?_ _)); exact BK101.out⟩, ⟨by repeat (first | (with_reducible first | exact HB.out | apply qc | apply qa | apply qb | refine qf ?_ GE101.out | refine qf ?_ GE106.out) | exact HB.out)⟩⟩
           ·replace c29 := Bool.eq_false_iff.mpr c29
            subst c29
            have H1 : (some false) = some r := by rw [if_neg (show ¬ (false = true) by decide)] at H; exact H
            clear H
            have H := H1
            clear H1
            obtain rfl := Option.some.inj H
            have p105 : 0 ≤ (x29_2 : Int) := of_decide_eq_true yq87
            have q105 : x29_2 < (l0_2.length : Int) := of_decide_eq_true yq87
            obtain ⟨ad105, e105, hx105_0, hx105_1, hx105_2, hx105_3⟩ := at_T157 HR0_2.out x29_2 p105 q105
            cases e105
            replace hx105_0 := (HB.out.cell (World.block_lt_of_cell? w _ hx105_0)).trans hx105_0
            replace hx105_1 := (HB.out.cell (World.block_lt_of_cell? w _ hx105_1)).trans hx105_1
            replace hx105_2 := (HB.out.cell (World.block_lt_of_cell? w _ hx105_2)).trans hx105_2
            replace hx105_3 := (HB.out.cell (World.block_lt_of_cell? w _ hx105_3)).trans hx105_3
            replace p105 := eq_true p105
            replace q105 := eq_true q105
            go_wp2_with (first | ((with_reducible refine qt (N := 5) rfl ?_); (try (refine gate_guard (by rfl) ?_; dsimp only)); refine qr ?hg (N := 5) ?hd (cs := #[.int .i64 0, .string (⟨#[]⟩ : ByteArray), .string (⟨#[]⟩ : ByteArray), .string (⟨#[]⟩ : ByteArray)]) (t := 157) ?hr ?_; (case hd => rfl); (case hg => rfl); (case hr => first | (go_simp; done) | (go_simp; rfl)); intro gb106 hg w39 hbox hb; replace HO_3 := Qz.mk (Kd.V_below (Kd.V_elderB yq80 gb106 (Nat.le_of_eq hg.symm)) hb); replace HO_102001 := Qz.mk (Kd.V_below (Kd.V_elderB yq79 gb106 (Nat.le_of_eq hg.symm)) hb); have BK106 := Qz.mk (hbox); have GW106 := Qz.mk ((by rw [hg]; exact (qo yq77) : w.heap.size ≤ gb106)); have GE106 := GW106; replace HB := Qz.mk (ql yq77 hb); have NB101_106 := Qz.mk ((yq81 : gb101 ≠ gb106)); have NB106_101 := Qz.mk ((yq82 : gb106 ≠ gb101)); replace BK101 := bkbf64 BK101 yq73 hb; clear hb hbox hg; have hnb40 := NB106_101.out; have hnc40 := NB101_106.out; have hcz41_0 := (qd BK106.out 0).trans rfl; have hcz41_1 := (qd BK106.out 1).trans rfl; have hcz41_2 := (qd BK106.out 2).trans rfl; have hcz41_3 := (qd BK106.out 3).trans rfl; have hfz41_0 := qe BK106.out 0; have hfz41_1 := qe BK106.out 1; have hfz41_2 := qe BK106.out 2; have hfz41_3 := qe BK106.out 3) | ((with_reducible refine qp (f := 137) rfl ?_); refine qc1 (some 34) rfl rfl Try.func137 (by kernel_rfl) rfl #[.agg #[.int .i64 ((qi l0_2 x29_2).f0), .string ((qi l0_2 x29_2).f1), .string ((qi l0_2 x29_2).f2), .string ((qi l0_2 x29_2).f3)]] rfl yq88 ?_; (with_reducible refine (impl_DOp_formed.calls ((qi l0_2 x29_2).f0) ((qi l0_2 x29_2).f1) ((qi l0_2 x29_2).f2) ((qi l0_2 x29_2).f3) true _ A24.out).mono ?_); rintro e w42 ⟨rfl, hb⟩; refine ⟨_, rfl, ?_⟩; replace HO_3 := Qz.mk (Kd.V_below yq76 hb); replace HO_102001 := Qz.mk (Kd.V_below yq75 hb); replace BK101 := Qz.mk (qq (g := gb101) (o := .cells #[.slice A0_0 l0_0.length c0_0, .slice A0_1 l0_1.length c0_1, .slice (some ad105) l0_2.length c0_2] 85 (0, 0)) yq74 hb); replace BK106 := Qz.mk (qq (g := gb106) (o := .cells #[.int .i64 ((qi l0_2 x29_2).f0), .string ((qi l0_2 x29_2).f1), .string ((qi l0_2 x29_2).f2), .string ((qi l0_2 x29_2).f3)] 157 (0, 0)) yq71 hb); replace HB := Qz.mk (ql yq72 hb); (try clear hb); (try clear hk); have hcz43_0 : w42.cell? ⟨gb106, 0, none⟩ = some (.int .i64 ((qi l0_2 x29_2).f0)) := (qd BK106.out 0).trans rfl; have hcz43_1 : w42.cell? ⟨gb106, 1, none⟩ = some (.string ((qi l0_2 x29_2).f1)) := (qd BK106.out 1).trans rfl; have hcz43_2 : w42.cell? ⟨gb106, 2, none⟩ = some (.string ((qi l0_2 x29_2).f2)) := (qd BK106.out 2).trans rfl; have hcz43_3 : w42.cell? ⟨gb106, 3, none⟩ = some (.string ((qi l0_2 x29_2).f3)) := (qd BK106.out 3).trans rfl; have hfz43_0 := qe BK106.out 0; have hfz43_1 := qe BK106.out 1; have hfz43_2 := qe BK106.out 2; have hfz43_3 := qe BK106.out 3; obtain ⟨Ao44, co44, eo44⟩ := Kd.V_slice HO_3.out; subst eo44) | ((with_reducible refine qp (f := 138) rfl ?_); refine qc1 (some 39) rfl rfl Try.func138 (by kernel_rfl) rfl #[.slice Ao44 x3_2.length co44, .agg #[.int .i64 ((qi l0_2 x29_2).f0), .string ((qi l0_2 x29_2).f1), .string ((qi l0_2 x29_2).f2), .string ((qi l0_2 x29_2).f3)]] rfl yq78 ?_; (with_reducible refine (impl_done.calls _ _ x3_2 ((qi l0_2 x29_2).f0) ((qi l0_2 x29_2).f1) ((qi l0_2 x29_2).f2) ((qi l0_2 x29_2).f3) t108 true _ ?side1 ?side2 A26.out).mono ?_); (case side1 => exact yq84); (case side2 => exact (Kd.V_reads' HO_3.out).2.1); rintro e w45 ⟨v109, rfl, ho0, hb⟩; refine ⟨_, rfl, ?_⟩; replace HO_3 := Qz.mk (Kd.V_elder' yq80 (Kd.R_base ho0) hb); replace HO_102001 := Qz.mk (Kd.V_elder' yq79 (Kd.R_base ho0) hb); have HO110 := Qz.mk (Kd.R_lower (Kd.R_newM (M := fun k_ => (w.heap.size ≤ k_)) ho0 (qo yq72) (fun k_ h_ => h_)) (qo yq72)); replace BK101 := bkbf64 BK101 yq73 hb; replace BK106 := bkbf64 BK106 yq86 hb; replace HB := Qz.mk (ql yq72 hb); (try clear hb); (try clear hk); (try clear ho0); obtain ⟨Ao46, co46, eo46⟩ := Kd.R_slice HO110.out; subst eo46) | (go_at_call 139; (with_reducible refine (impl_fit.calls k2 _ _ t108 false _ ?side1 ?side2 A28.out).mono ?_); (case side1 => repeat (first | exact (Kd.R_reads' HO110.out).2.2 | (with_reducible refine Kd.C_alloc ?_ _) | (with_reducible refine Kd.C_drewN ?_ _) | (with_reducible refine Kd.C_drew ?_))); (case side2 => exact (Kd.R_reads' HO110.out).2.1); rintro e w47 ⟨rfl, hb⟩; replace HO_3 := Qz.mk (Kd.V_below yq80 hb); replace HO_102001 := Qz.mk (Kd.V_below yq79 hb); replace HO110 := Qz.mk (Kd.R_below (by (with_reducible repeat (first | apply Kd.R_alloc | apply Kd.R_drewN | apply Kd.R_drew)); exact HO110.out) hb); replace BK101 := bkbf64 BK101 yq73 hb; replace BK106 := bkbf64 BK106 yq86 hb; replace HB := Qz.mk (ql yq72 hb); (try clear hb); (try clear hk)))
            go_ret
            exact ⟨by first | rfl | (simp [qn, qm] <;> rfl) | (simp [*, qn, qm] <;> rfl), by repeat (first | (with_reducible first | exact HB.out | apply qc | apply qa | apply qb | refine qf ?_ GE101.out | refine qf ?_ GE106.out) | exact HB.out)⟩
          ·replace c27 := Bool.eq_false_iff.mpr c27
           subst c27
           have H1 : (some false) = some r := by rw [if_neg (show ¬ (false = true) by decide)] at H; exact H
           clear H
           have H := H1
           clear H1
           obtain rfl := Option.some.inj H
           have p105 : 0 ≤ (x29_2 : Int) := of_decide_eq_true yq87
           have q105 : x29_2 < (l0_2.length : Int) := of_decide_eq_true yq87
           obtain ⟨ad105, e105, hx105_0, hx105_1, hx105_2, hx105_3⟩ := at_T157 HR0_2.out x29_2 p105 q105
           cases e105
           replace hx105_0 := (HB.out.cell (World.block_lt_of_cell? w _ hx105_0)).trans hx105_0
           replace hx105_1 := (HB.out.cell (World.block_lt_of_cell? w _ hx105_1)).trans hx105_1
           replace hx105_2 := (HB.out.cell (World.block_lt_of_cell? w _ hx105_2)).trans hx105_2
           replace hx105_3 := (HB.out.cell (World.block_lt_of_cell? w _ hx105_3)).trans hx105_3
           replace p105 := eq_true p105
           replace q105 := eq_true q105
           go_wp2_with (first | ((with_reducible refine qt (N := 5) rfl ?_); (try (refine gate_guard (by rfl) ?_; dsimp only)); refine qr ?hg (N := 5) ?hd (cs := #[.int .i64 0, .string (⟨#[]⟩ : ByteArray), .string (⟨#[]⟩ : ByteArray), .string (⟨#[]⟩ : ByteArray)]) (t := 157) ?hr ?_; (case hd => rfl); (case hg => rfl); (case hr => first | (go_simp; done) | (go_simp; rfl)); intro gb106 hg w48 hbox hb; replace HO_3 := Qz.mk (Kd.V_below (Kd.V_elderB yq80 gb106 (Nat.le_of_eq hg.symm)) hb); replace HO_102001 := Qz.mk (Kd.V_below (Kd.V_elderB yq79 gb106 (Nat.le_of_eq hg.symm)) hb); have BK106 := Qz.mk (hbox); have GW106 := Qz.mk ((by rw [hg]; exact (qo yq77) : w.heap.size ≤ gb106)); have GE106 := GW106; replace HB := Qz.mk (ql yq77 hb); have NB101_106 := Qz.mk ((yq81 : gb101 ≠ gb106)); have NB106_101 := Qz.mk ((yq82 : gb106 ≠ gb101)); replace BK101 := bkbf64 BK101 yq73 hb; clear hb hbox hg; have hnb49 := NB106_101.out; have hnc49 := NB101_106.out; have hcz50_0 := (qd BK106.out 0).trans rfl; have hcz50_1 := (qd BK106.out 1).trans rfl; have hcz50_2 := (qd BK106.out 2).trans rfl; have hcz50_3 := (qd BK106.out 3).trans rfl; have hfz50_0 := qe BK106.out 0; have hfz50_1 := qe BK106.out 1; have hfz50_2 := qe BK106.out 2; have hfz50_3 := qe BK106.out 3) | ((with_reducible refine qp (f := 137) rfl ?_); refine qc1 (some 34) rfl rfl Try.func137 (by kernel_rfl) rfl #[.agg #[.int .i64 ((qi l0_2 x29_2).f0), .string ((qi l0_2 x29_2).f1), .string ((qi l0_2 x29_2).f2), .string ((qi l0_2 x29_2).f3)]] rfl yq88 ?_; (with_reducible refine (impl_DOp_formed.calls ((qi l0_2 x29_2).f0) ((qi l0_2 x29_2).f1) ((qi l0_2 x29_2).f2) ((qi l0_2 x29_2).f3) true _ A24.out).mono ?_); rintro e w51 ⟨rfl, hb⟩; refine ⟨_, rfl, ?_⟩; replace HO_3 := Qz.mk (Kd.V_below yq76 hb); replace HO_102001 := Qz.mk (Kd.V_below yq75 hb); replace BK101 := Qz.mk (qq (g := gb101) (o := .cells #[.slice A0_0 l0_0.length c0_0, .slice A0_1 l0_1.length c0_1, .slice (some ad105) l0_2.length c0_2] 85 (0, 0)) yq74 hb); replace BK106 := Qz.mk (qq (g := gb106) (o := .cells #[.int .i64 ((qi l0_2 x29_2).f0), .string ((qi l0_2 x29_2).f1), .string ((qi l0_2 x29_2).f2), .string ((qi l0_2 x29_2).f3)] 157 (0, 0)) yq71 hb); replace HB := Qz.mk (ql yq72 hb); (try clear hb); (try clear hk); have hcz52_0 : w51.cell? ⟨gb106, 0, none⟩ = some (.int .i64 ((qi l0_2 x29_2).f0)) := (qd BK106.out 0).trans rfl; have hcz52_1 : w51.cell? ⟨gb106, 1, none⟩ = some (.string ((qi l0_2 x29_2).f1)) := (qd BK106.out 1).trans rfl; have hcz52_2 : w51.cell? ⟨gb106, 2, none⟩ = some (.string ((qi l0_2 x29_2).f2)) := (qd BK106.out 2).trans rfl; have hcz52_3 : w51.cell? ⟨gb106, 3, none⟩ = some (.string ((qi l0_2 x29_2).f3)) := (qd BK106.out 3).trans rfl; have hfz52_0 := qe BK106.out 0; have hfz52_1 := qe BK106.out 1; have hfz52_2 := qe BK106.out 2; have hfz52_3 := qe BK106.out 3; obtain ⟨Ao53, co53, eo53⟩ := Kd.V_slice HO_3.out; subst eo53) | ((with_reducible refine qp (f := 138) rfl ?_); refine qc1 (some 39) rfl rfl Try.func138 (by kernel_rfl) rfl #[.slice Ao53 x3_2.length co53, .agg #[.int .i64 ((qi l0_2 x29_2).f0), .string ((qi l0_2 x29_2).f1), .string ((qi l0_2 x29_2).f2), .string ((qi l0_2 x29_2).f3)]] rfl yq78 ?_; (with_reducible refine (impl_done.calls _ _ x3_2 ((qi l0_2 x29_2).f0) ((qi l0_2 x29_2).f1) ((qi l0_2 x29_2).f2) ((qi l0_2 x29_2).f3) t108 false _ ?side1 ?side2 A26.out).mono ?_); (case side1 => exact yq84); (case side2 => exact (Kd.V_reads' HO_3.out).2.1); rintro e w54 ⟨v109, rfl, ho0, hb⟩; refine ⟨_, rfl, ?_⟩; replace HO_3 := Qz.mk (Kd.V_elder' yq80 (Kd.R_base ho0) hb); replace HO_102001 := Qz.mk (Kd.V_elder' yq79 (Kd.R_base ho0) hb); have HO110 := Qz.mk (Kd.R_lower (Kd.R_newM (M := fun k_ => (w.heap.size ≤ k_)) ho0 (qo yq72) (fun k_ h_ => h_)) (qo yq72)); replace BK101 := bkbf64 BK101 yq73 hb; replace BK106 := bkbf64 BK106 yq86 hb; replace HB := Qz.mk (ql yq72 hb); (try clear hb); (try clear hk); (try clear ho0)))
           go_ret
           exact ⟨by first | rfl | (simp [qn, qm] <;> rfl) | (simp [*, qn, qm] <;> rfl), by repeat (first | (with_reducible first | exact HB.out | apply qc | apply qa | apply qb | refine qf ?_ GE101.out | refine qf ?_ GE106.out) | exact HB.out)⟩
         ·replace c25 := Bool.eq_false_iff.mpr c25
          subst c25
          have H1 : (some false) = some r := by rw [if_neg (show ¬ (false = true) by decide)] at H; exact H
          clear H
          have H := H1
          clear H1
          obtain rfl := Option.some.inj H
          have p105 : 0 ≤ (x29_2 : Int) := of_decide_eq_true yq87
          have q105 : x29_2 < (l0_2.length : Int) := of_decide_eq_true yq87
          obtain ⟨ad105, e105, hx105_0, hx105_1, hx105_2, hx105_3⟩ := at_T157 HR0_2.out x29_2 p105 q105
          cases e105
          replace hx105_0 := (HB.out.cell (World.block_lt_of_cell? w _ hx105_0)).trans hx105_0
          replace hx105_1 := (HB.out.cell (World.block_lt_of_cell? w _ hx105_1)).trans hx105_1
          replace hx105_2 := (HB.out.cell (World.block_lt_of_cell? w _ hx105_2)).trans hx105_2
          replace hx105_3 := (HB.out.cell (World.block_lt_of_cell? w _ hx105_3)).trans hx105_3
          replace p105 := eq_true p105
          replace q105 := eq_true q105
          go_wp2_with (first | ((with_reducible refine qt (N := 5) rfl ?_); (try (refine gate_guard (by rfl) ?_; dsimp only)); refine qr ?hg (N := 5) ?hd (cs := #[.int .i64 0, .string (⟨#[]⟩ : ByteArray), .string (⟨#[]⟩ : ByteArray), .string (⟨#[]⟩ : ByteArray)]) (t := 157) ?hr ?_; (case hd => rfl); (case hg => rfl); (case hr => first | (go_simp; done) | (go_simp; rfl)); intro gb106 hg w55 hbox hb; replace HO_3 := Qz.mk (Kd.V_below (Kd.V_elderB yq80 gb106 (Nat.le_of_eq hg.symm)) hb); replace HO_102001 := Qz.mk (Kd.V_below (Kd.V_elderB yq79 gb106 (Nat.le_of_eq hg.symm)) hb); have BK106 := Qz.mk (hbox); have GW106 := Qz.mk ((by rw [hg]; exact (qo yq77) : w.heap.size ≤ gb106)); have GE106 := GW106; replace HB := Qz.mk (ql yq77 hb); have NB101_106 := Qz.mk ((yq81 : gb101 ≠ gb106)); have NB106_101 := Qz.mk ((yq82 : gb106 ≠ gb101)); replace BK101 := bkbf64 BK101 yq73 hb; clear hb hbox hg; have hnb56 := NB106_101.out; have hnc56 := NB101_106.out; have hcz57_0 := (qd BK106.out 0).trans rfl; have hcz57_1 := (qd BK106.out 1).trans rfl; have hcz57_2 := (qd BK106.out 2).trans rfl; have hcz57_3 := (qd BK106.out 3).trans rfl; have hfz57_0 := qe BK106.out 0; have hfz57_1 := qe BK106.out 1; have hfz57_2 := qe BK106.out 2; have hfz57_3 := qe BK106.out 3) | ((with_reducible refine qp (f := 137) rfl ?_); refine qc1 (some 34) rfl rfl Try.func137 (by kernel_rfl) rfl #[.agg #[.int .i64 ((qi l0_2 x29_2).f0), .string ((qi l0_2 x29_2).f1), .string ((qi l0_2 x29_2).f2), .string ((qi l0_2 x29_2).f3)]] rfl yq88 ?_; (with_reducible refine (impl_DOp_formed.calls ((qi l0_2 x29_2).f0) ((qi l0_2 x29_2).f1) ((qi l0_2 x29_2).f2) ((qi l0_2 x29_2).f3) false _ A24.out).mono ?_); rintro e w58 ⟨rfl, hb⟩; refine ⟨_, rfl, ?_⟩; replace HO_3 := Qz.mk (Kd.V_below yq76 hb); replace HO_102001 := Qz.mk (Kd.V_below yq75 hb); replace BK101 := Qz.mk (qq (g := gb101) (o := .cells #[.slice A0_0 l0_0.length c0_0, .slice A0_1 l0_1.length c0_1, .slice (some ad105) l0_2.length c0_2] 85 (0, 0)) yq74 hb); replace BK106 := Qz.mk (qq (g := gb106) (o := .cells #[.int .i64 ((qi l0_2 x29_2).f0), .string ((qi l0_2 x29_2).f1), .string ((qi l0_2 x29_2).f2), .string ((qi l0_2 x29_2).f3)] 157 (0, 0)) yq71 hb); replace HB := Qz.mk (ql yq72 hb); (try clear hb); (try clear hk)))
          go_ret
          exact ⟨by first | rfl | (simp [qn, qm] <;> rfl) | (simp [*, qn, qm] <;> rfl), by repeat (first | (with_reducible first | exact HB.out | apply qc | apply qa | apply qb | refine qf ?_ GE101.out | refine qf ?_ GE106.out) | exact HB.out)⟩
        ·rw [if_neg c23] at H
         exact absurd H (by simp)
       ·rw [if_neg c22] at H
        exact absurd H (by simp)
      ·rw [if_neg c21] at H
       have c21b0 : decide (x29_2 < (l0_2.length : Int)) = false := decide_eq_false c21
       clear c21
       replace H := Option.bind_eq_some_iff.mp H
       obtain ⟨t104, A590, H⟩ := H
       replace H : (some t104) = some r := H
       have A59 := Qz.mk A590
       clear A590
       obtain rfl := Option.some.inj H
       have hcz60_0 := (qd BK101.out 0).trans rfl
       have hcz60_1 := (qd BK101.out 1).trans rfl
       have hcz60_2 := (qd BK101.out 2).trans rfl
       have hfz60_0 := qe BK101.out 0
       have hfz60_1 := qe BK101.out 1
       have hfz60_2 := qe BK101.out 2
       obtain ⟨Ao61, co61, eo61⟩ := Kd.V_slice HO_3.out
       subst eo61
       go_wp2_with (first | ((with_reducible refine qp (f := 140) rfl ?_); refine qc1 (some 54) rfl rfl Try.func140 (by kernel_rfl) rfl #[.slice Ao61 x3_2.length co61, .slice A0_0 l0_0.length c0_0] rfl yq78 ?_; (with_reducible refine (impl_File_140.calls k2 _ _ x3_2 _ _ l0_0 t104 _ ?side1 ?side2 ?side3 ?side4 A59.out).mono ?_); (case side1 => exact yq84); (case side2 => exact (Kd.V_reads' HO_3.out).2.1); (case side3 => exact yq83); (case side4 => exact HC0_0.out); rintro e w' ⟨rfl, ⟨nd, rfl⟩⟩; refine ⟨_, rfl, ?_⟩))
       go_ret
       exact ⟨by first | rfl | (simp [qn, qm] <;> rfl) | (simp [*, qn, qm] <;> rfl), by repeat (first | (with_reducible first | exact HB.out | apply qc | apply qa | apply qb | refine qf ?_ GE101.out) | exact HB.out)⟩
theorem yq89 {P : Prop} (h : P := by repeat (first | (with_reducible first | exact HB.out | apply qc | apply qa | apply qb | refine qf ?_ GE101.out | refine qf ?_ GE102.out) | exact HB.out)) : P := h
theorem yq90 {P : Prop} (h : P := by (with_reducible repeat (first | refine qh ?_ _ | refine qk ?_ | refine qg ?_ _)); exact BK101.out) : P := h
theorem yq91 {P : Prop} (h : P := by repeat (first | (with_reducible first | exact HB.out | apply qc | apply qa | apply qb | refine qf ?_ GE101.out) | exact HB.out)) : P := h
theorem yq92 {P : Prop} (h : P := by (try simp only [List.map_toArray, List.map_cons, List.map_nil]); first | done | rfl | (simp only [List.length_drop, List.length_take]; rfl) | (rw [IntWalk.u64_in _ (by omega)] <;> rfl)) : P := h
theorem yq93 {P : Prop} (h : P := by repeat (first | exact (Kd.C_below HR0_2.out HB.out) | (with_reducible refine Kd.C_alloc ?_ _) | (with_reducible refine Kd.C_drewN ?_ _) | (with_reducible refine Kd.C_drew ?_))) : P := h
theorem yq94 {P : Prop} (h : P := by repeat (first | exact (Kd.C_below HR0_0.out HB.out) | (with_reducible refine Kd.C_alloc ?_ _) | (with_reducible refine Kd.C_drewN ?_ _) | (with_reducible refine Kd.C_drew ?_))) : P := h
theorem yq95 {P : Prop} (h : P := by repeat (first | (with_reducible first | exact HB.out | apply qc | apply qa | apply qb) | exact HB.out)) : P := h
theorem bkbf57 {w0 W W2 : World} {g : Nat} {o : Obj} (_ : Qz (w0.heap[g]? = some o)) (h : W.heap[g]? = some o) (hb : Below W.heap.size W W2) : Qz (W2.heap[g]? = some o) := Qz.mk (qq h hb)
def impl_Crash.f (k : Nat) (l0_0 : List (S170)) (l0_1 : List (S170)) (l0_2 : List (S157)) (l1 : List Int) (a2 : Int) : Option ((List (S170)) × (List (S170)) × (List (S157)) × Bool) := (impl_DiskOk.f k l0_0 l0_1 l0_2).bind fun t103 => (if t103 = true then ((impl_Disk_crash.f k l0_0 l0_1 l0_2 l1 a2).bind fun bt104 => (some (bt104.1, bt104.2.1, bt104.2.2.1, bt104.2.2.2))) else (some (([] : List (S170)), ([] : List (S170)), ([] : List (S157)), false)))
set_option maxHeartbeats 8000000 in
set_option maxRecDepth 100000 in
theorem impl_Crash.calls (k : Nat) (A0_0 : Option Addr) (c0_0 : Nat) (l0_0 : List (S170)) (A0_1 : Option Addr) (c0_1 : Nat) (l0_1 : List (S170)) (A0_2 : Option Addr) (c0_2 : Nat) (l0_2 : List (S157)) (A1 : Option Addr) (c1 : Nat) (l1 : List Int) (a2 : Int) (r1 : List (S170)) (r2 : List (S170)) (r3 : List (S157)) (r4 : Bool) (w : World) (hr0_0 : Kd.C k170 w A0_0 l0_0.length l0_0) (hc0_0 : l0_0.length ≤ c0_0) (hr0_1 : Kd.C k170 w A0_1 l0_1.length l0_1) (hc0_1 : l0_1.length ≤ c0_1) (hr0_2 : Kd.C k157 w A0_2 l0_2.length l0_2) (hc0_2 : l0_2.length ≤ c0_2) (hr1 : Kd.C (Kd.int .i64) w A1 l1.length l1) (hc1 : l1.length ≤ c1) (h : impl_Crash.f k l0_0 l0_1 l0_2 l1 a2 = some (r1, r2, r3, r4)) :
  Calls Try.prog 57 #[.agg #[.slice A0_0 l0_0.length c0_0, .slice A0_1 l0_1.length c0_1, .slice A0_2 l0_2.length c0_2], .slice A1 l1.length c1, .int .i64 a2] w fun e w' => ∃ v0_ v1_ v2_ : Value, e = .returned (.tuple #[.agg #[v0_, v1_, v2_], .bool r4]) ∧ Kd.R k170 170 w' w.heap.size (fun k_ => some k_ ≠ (v1_ : Value).ownBlock) v0_ r1 ∧ Kd.R k170 170 w' w.heap.size (fun k_ => some k_ ≠ (v0_ : Value).ownBlock) v1_ r2 ∧ Kd.R k157 157 w' w.heap.size (fun _ => True) v2_ r3 ∧ Below w.heap.size w w' := by
 have hu85 := Try.underlying85
 have HR0_0 := Qz.mk hr0_0
 have HC0_0 := Qz.mk hc0_0
 clear hr0_0 hc0_0
 have HR0_1 := Qz.mk hr0_1
 have HC0_1 := Qz.mk hc0_1
 clear hr0_1 hc0_1
 have HR0_2 := Qz.mk hr0_2
 have HC0_2 := Qz.mk hc0_2
 clear hr0_2 hc0_2
 have HR1 := Qz.mk hr1
 have HC1 := Qz.mk hc1
 clear hr1 hc1
 have HB := Qz.mk (Below.refl w.heap.size w)
 have H : ((impl_DiskOk.f k l0_0 l0_1 l0_2).bind fun t103 => (if t103 = true then ((impl_Disk_crash.f k l0_0 l0_1 l0_2 l1 a2).bind fun bt104 => (some (bt104.1, bt104.2.1, bt104.2.2.1, bt104.2.2.2))) else (some (([] : List (S170)), ([] : List (S170)), ([] : List (S157)), false)))) = some (r1, r2, r3, r4) := h
 clear h
 replace H := Option.bind_eq_some_iff.mp H
 obtain ⟨t103, A40, H⟩ := H
 replace H : (if t103 = true then ((impl_Disk_crash.f k l0_0 l0_1 l0_2 l1 a2).bind fun bt104 => (some (bt104.1, bt104.2.1, bt104.2.2.1, bt104.2.2.2))) else (some (([] : List (S170)), ([] : List (S170)), ([] : List (S157)), false))) = some (r1, r2, r3, r4) := H
 have A4 := Qz.mk A40
 clear A40
 by_cases c5 : t103 = true
 ·subst c5
  have H1 : ((impl_Disk_crash.f k l0_0 l0_1 l0_2 l1 a2).bind fun bt104 => (some (bt104.1, bt104.2.1, bt104.2.2.1, bt104.2.2.2))) = some (r1, r2, r3, r4) := by rw [if_pos rfl] at H; exact H
  clear H
  have H := H1
  clear H1
  replace H := Option.bind_eq_some_iff.mp H
  obtain ⟨⟨t104, t107, t110, t113⟩, A60, H⟩ := H
  replace H : (some (t104, t107, t110, t113)) = some (r1, r2, r3, r4) := H
  have A6 := Qz.mk A60
  clear A60
  simp only [Option.some.injEq, Prod.mk.injEq] at H
  obtain ⟨rfl, rfl, rfl, rfl⟩ := H
  go_enter Try.func57, Try.ntmps57
  go_wp2_with (first | ((with_reducible refine qt (N := 3) rfl ?_); refine qr ?hg (N := 3) ?hd (cs := #[.slice A0_0 l0_0.length c0_0, .slice A0_1 l0_1.length c0_1, .slice A0_2 l0_2.length c0_2]) (t := 85) ?hr ?_; (case hd => rfl); (case hg => rfl); (case hr => first | (go_simp; done) | (go_simp; rfl)); intro gb101 hg w7 hbox hb; have BK101 := Qz.mk (hbox); have GW101 := Qz.mk ((by rw [hg]; exact (qo yq95) : w.heap.size ≤ gb101)); have GE101 := GW101; replace HB := Qz.mk (ql yq95 hb); clear hb hbox hg) | ((with_reducible refine qt (N := 6) rfl ?_); refine qr ?hg (N := 6) ?hd (cs := #[.slice none 0 0, .slice none 0 0, .slice none 0 0]) (t := 85) ?hr ?_; (case hd => rfl); (case hg => rfl); (case hr => first | (go_simp; done) | (go_simp; rfl)); intro gb102 hg w8 hbox hb; have BK102 := Qz.mk (hbox); have GW102 := Qz.mk ((by rw [hg]; exact (qo yq91) : w.heap.size ≤ gb102)); have GE102 := GW102; replace HB := Qz.mk (ql yq91 hb); have NB101_102 := Qz.mk ((by rw [hg]; exact Nat.ne_of_lt (blk_lt (g := gb101) (o := .cells #[.slice A0_0 l0_0.length c0_0, .slice A0_1 l0_1.length c0_1, .slice A0_2 l0_2.length c0_2] 85 (0, 0)) yq90) : gb101 ≠ gb102)); have NB102_101 := Qz.mk ((by rw [hg]; exact Nat.ne_of_gt (blk_lt (g := gb101) (o := .cells #[.slice A0_0 l0_0.length c0_0, .slice A0_1 l0_1.length c0_1, .slice A0_2 l0_2.length c0_2] 85 (0, 0)) yq90) : gb102 ≠ gb101)); replace BK101 := bkbf57 BK101 yq90 hb; clear hb hbox hg; have hnb9 := NB101_102.out; have hnc9 := NB102_101.out; have hcz10_0 := (qd BK101.out 0).trans rfl; have hcz10_1 := (qd BK101.out 1).trans rfl; have hcz10_2 := (qd BK101.out 2).trans rfl; have hfz10_0 := qe BK101.out 0; have hfz10_1 := qe BK101.out 1; have hfz10_2 := qe BK101.out 2) | ((with_reducible refine qp (f := 64) rfl ?_); refine qc1 (some 9) rfl rfl Try.func64 (by kernel_rfl) rfl #[.agg #[.slice A0_0 l0_0.length c0_0, .slice A0_1 l0_1.length c0_1, .slice A0_2 l0_2.length c0_2]] rfl yq92 ?_; (with_reducible refine (impl_DiskOk.calls k _ _ l0_0 (fun k_ => k_ < w.heap.size) _ _ l0_1 _ _ l0_2 true _ ?side1 ?side2 ?side3 ?side4 ?side5 A4.out).mono ?_); (case side1 => exact yq94); (case side2 => exact HC0_0.out); (case side3 => exact Kd.V_mk HC0_1.out (Kd.F_below (Kd.C_F k170_heap HR0_1.out) yq89)); (case side4 => exact yq93); (case side5 => exact HC0_2.out); rintro e w11 ⟨rfl, hb⟩; refine ⟨_, rfl, ?_⟩; replace BK101 := bkbf57 BK101 yq90 hb; replace BK102 := bkbf57 BK102 (by (with_reducible repeat (first | refine qh ?_ _ | refine qk ?_ | refine qg ?_ _)); exact BK102.out) hb; replace HB := Qz.mk (ql yq89 hb); (try clear hb); (try clear hk); have hcz12_0 := (qd BK101.out 0).trans rfl; have hcz12_1 := (qd BK101.out 1).trans rfl; have hcz12_2 := (qd BK101.out 2).trans rfl; have hfz12_0 := qe BK101.out 0; have hfz12_1 := qe BK101.out 1; have hfz12_2 := qe BK101.out 2) | ((with_reducible refine qp (f := 127) rfl ?_); refine qc1 (some 15) rfl rfl Try.func127 (by kernel_rfl) rfl #[.agg #[.slice A0_0 l0_0.length c0_0, .slice A0_1 l0_1.length c0_1, .slice A0_2 l0_2.length c0_2], .slice A1 l1.length c1, .int .i64 a2] rfl yq92 ?_; (with_reducible refine (impl_Disk_crash.calls k _ _ l0_0 _ _ l0_1 _ _ l0_2 _ _ l1 a2 t104 t107 t110 t113 _ ?side1 ?side2 ?side3 ?side4 ?side5 ?side6 ?side7 ?side8 A6.out).mono ?_); (case side1 => exact yq94); (case side2 => exact HC0_0.out); (case side3 => repeat (first | exact (Kd.C_below HR0_1.out HB.out) | (with_reducible refine Kd.C_alloc ?_ _) | (with_reducible refine Kd.C_drewN ?_ _) | (with_reducible refine Kd.C_drew ?_))); (case side4 => exact HC0_1.out); (case side5 => exact yq93); (case side6 => exact HC0_2.out); (case side7 => repeat (first | exact (Kd.C_below HR1.out HB.out) | (with_reducible refine Kd.C_alloc ?_ _) | (with_reducible refine Kd.C_drewN ?_ _) | (with_reducible refine Kd.C_drew ?_))); (case side8 => exact HC1.out); rintro e w13 ⟨v105, v108, v111, rfl, ho0, ho1, ho2, hb⟩; refine ⟨_, rfl, ?_⟩; have HO106 := Qz.mk (Kd.R_lower ho0 (qo yq89)); have HO109 := Qz.mk (Kd.R_lower ho1 (qo yq89)); have HO112 := Qz.mk (Kd.R_lower ho2 (qo yq89)); replace BK101 := bkbf57 BK101 yq90 hb; replace BK102 := bkbf57 BK102 (by (with_reducible repeat (first | refine qh ?_ _ | refine qk ?_ | refine qg ?_ _)); exact BK102.out) hb; replace HB := Qz.mk (ql yq89 hb); (try clear hb); (try clear hk); (try clear ho0); (try clear ho1); (try clear ho2); obtain ⟨Ao14, co14, eo14⟩ := Kd.R_slice HO106.out; subst eo14; have hcz15_0 := (qd BK102.out 0).trans rfl; have hcz15_1 := (qd BK102.out 1).trans rfl; have hcz15_2 := (qd BK102.out 2).trans rfl; have hfz15_0 := qe BK102.out 0; have hfz15_1 := qe BK102.out 1; have hfz15_2 := qe BK102.out 2; obtain ⟨Ao16, co16, eo16⟩ := Kd.R_slice HO109.out; subst eo16; obtain ⟨Ao17, co17, eo17⟩ := Kd.R_slice HO112.out; subst eo17))
  refine bodyPost_ret (results_ct rfl _ _ gb102 85 #[.slice Ao14 t104.length co14, .slice Ao16 t107.length co16, .slice Ao17 t110.length co17] (0, 0) _ rfl (by (with_reducible repeat (first | refine qh ?_ _ | refine qk ?_ | refine qg ?_ _)); refine blk_put (cs := #[.slice Ao14 t104.length co14, .slice Ao16 t107.length co16, .slice none 0 0]) ?_ 2 _ rfl; (with_reducible repeat (first | refine qh ?_ _ | refine qk ?_ | refine qg ?_ _)); refine blk_put (cs := #[.slice Ao14 t104.length co14, .slice none 0 0, .slice none 0 0]) ?_ 1 _ rfl; (with_reducible repeat (first | refine qh ?_ _ | refine qk ?_ | refine qg ?_ _)); refine blk_put (cs := #[.slice none 0 0, .slice none 0 0, .slice none 0 0]) ?_ 0 _ rfl; (with_reducible repeat (first | refine qh ?_ _ | refine qk ?_ | refine qg ?_ _)); exact BK102.out) Try.underlying85 rfl (by kernel_rfl)) rfl ?_
  exact ⟨_, _, _, by first | rfl | (simp [qn, qm] <;> rfl) | (simp [*, qn, qm] <;> rfl), by (with_reducible repeat (first | apply Kd.R_alloc | apply Kd.R_drewN | apply Kd.R_drew)); exact Kd.R_mono (Kd.R_far (p := ⟨gb102, 2, none⟩) (Kd.R_far (p := ⟨gb102, 1, none⟩) (Kd.R_far (p := ⟨gb102, 0, none⟩) (Kd.R_types HO106.out BK102.out (by decide)) (fun _ hk => hk.2) (.slice Ao14 t104.length co14)) (fun _ hk => hk.2) (.slice Ao16 t107.length co16)) (fun _ hk => hk.2) (.slice Ao17 t110.length co17)) (fun _ hk => hk.1), by (with_reducible repeat (first | apply Kd.R_alloc | apply Kd.R_drewN | apply Kd.R_drew)); exact Kd.R_mono (Kd.R_far (p := ⟨gb102, 2, none⟩) (Kd.R_far (p := ⟨gb102, 1, none⟩) (Kd.R_far (p := ⟨gb102, 0, none⟩) (Kd.R_types HO109.out BK102.out (by decide)) (fun _ hk => hk.2) (.slice Ao14 t104.length co14)) (fun _ hk => hk.2) (.slice Ao16 t107.length co16)) (fun _ hk => hk.2) (.slice Ao17 t110.length co17)) (fun _ hk => hk.1), by (with_reducible repeat (first | apply Kd.R_alloc | apply Kd.R_drewN | apply Kd.R_drew)); exact Kd.R_mono (Kd.R_far (p := ⟨gb102, 2, none⟩) (Kd.R_far (p := ⟨gb102, 1, none⟩) (Kd.R_far (p := ⟨gb102, 0, none⟩) (Kd.R_types HO112.out BK102.out (by decide)) (fun _ hk => hk.2) (.slice Ao14 t104.length co14)) (fun _ hk => hk.2) (.slice Ao16 t107.length co16)) (fun _ hk => hk.2) (.slice Ao17 t110.length co17)) (fun _ hk => trivial), by repeat (first | (with_reducible first | exact HB.out | apply qc | apply qa | apply qb | refine qf ?_ GE101.out | refine qf ?_ GE102.out) | exact HB.out)⟩
 ·replace c5 := Bool.eq_false_iff.mpr c5
  subst c5
  have H1 : (some (([] : List (S170)), ([] : List (S170)), ([] : List (S157)), false)) = some (r1, r2, r3, r4) := by rw [if_neg (show ¬ (false = true) by decide)] at H; exact H
  clear H
  have H := H1
  clear H1
  simp only [Option.some.injEq, Prod.mk.injEq] at H
  obtain ⟨rfl, rfl, rfl, rfl⟩ := H
  go_enter Try.func57, Try.ntmps57
  go_wp2_with (first | ((with_reducible refine qt (N := 3) rfl ?_); refine qr ?hg (N := 3) ?hd (cs := #[.slice A0_0 l0_0.length c0_0, .slice A0_1 l0_1.length c0_1, .slice A0_2 l0_2.length c0_2]) (t := 85) ?hr ?_; (case hd => rfl); (case hg => rfl); (case hr => first | (go_simp; done) | (go_simp; rfl)); intro gb101 hg w18 hbox hb; have BK101 := Qz.mk (hbox); have GW101 := Qz.mk ((by rw [hg]; exact (qo yq95) : w.heap.size ≤ gb101)); have GE101 := GW101; replace HB := Qz.mk (ql yq95 hb); clear hb hbox hg) | ((with_reducible refine qt (N := 6) rfl ?_); refine qr ?hg (N := 6) ?hd (cs := #[.slice none 0 0, .slice none 0 0, .slice none 0 0]) (t := 85) ?hr ?_; (case hd => rfl); (case hg => rfl); (case hr => first | (go_simp; done) | (go_simp; rfl)); intro gb102 hg w19 hbox hb; have BK102 := Qz.mk (hbox); have GW102 := Qz.mk ((by rw [hg]; exact (qo yq91) : w.heap.size ≤ gb102)); have GE102 := GW102; replace HB := Qz.mk (ql yq91 hb); have NB101_102 := Qz.mk ((by rw [hg]; exact Nat.ne_of_lt (blk_lt (g := gb101) (o := .cells #[.slice A0_0 l0_0.length c0_0, .slice A0_1 l0_1.length c0_1, .slice A0_2 l0_2.length c0_2] 85 (0, 0)) yq90) : gb101 ≠ gb102)); have NB102_101 := Qz.mk ((by rw [hg]; exact Nat.ne_of_gt (blk_lt (g := gb101) (o := .cells #[.slice A0_0 l0_0.length c0_0, .slice A0_1 l0_1.length c0_1, .slice A0_2 l0_2.length c0_2] 85 (0, 0)) yq90) : gb102 ≠ gb101)); replace BK101 := bkbf57 BK101 yq90 hb; clear hb hbox hg; have hnb20 := NB101_102.out; have hnc20 := NB102_101.out; have hcz21_0 := (qd BK101.out 0).trans rfl; have hcz21_1 := (qd BK101.out 1).trans rfl; have hcz21_2 := (qd BK101.out 2).trans rfl; have hfz21_0 := qe BK101.out 0; have hfz21_1 := qe BK101.out 1; have hfz21_2 := qe BK101.out 2) | ((with_reducible refine qp (f := 64) rfl ?_); refine qc1 (some 9) rfl rfl Try.func64 (by kernel_rfl) rfl #[.agg #[.slice A0_0 l0_0.length c0_0, .slice A0_1 l0_1.length c0_1, .slice A0_2 l0_2.length c0_2]] rfl yq92 ?_; (with_reducible refine (impl_DiskOk.calls k _ _ l0_0 (fun k_ => k_ < w.heap.size) _ _ l0_1 _ _ l0_2 false _ ?side1 ?side2 ?side3 ?side4 ?side5 A4.out).mono ?_); (case side1 => exact yq94); (case side2 => exact HC0_0.out); (case side3 => exact Kd.V_mk HC0_1.out (Kd.F_below (Kd.C_F k170_heap HR0_1.out) yq89)); (case side4 => exact yq93); (case side5 => exact HC0_2.out); rintro e w22 ⟨rfl, hb⟩; refine ⟨_, rfl, ?_⟩; replace BK101 := bkbf57 BK101 yq90 hb; replace BK102 := bkbf57 BK102 (by (with_reducible repeat (first | refine qh ?_ _ | refine qk ?_ | refine qg ?_ _)); exact BK102.out) hb; replace HB := Qz.mk (ql yq89 hb); (try clear hb); (try clear hk); have hcz23_0 := (qd BK102.out 0).trans rfl; have hcz23_1 := (qd BK102.out 1).trans rfl; have hcz23_2 := (qd BK102.out 2).trans rfl; have hfz23_0 := qe BK102.out 0; have hfz23_1 := qe BK102.out 1; have hfz23_2 := qe BK102.out 2))
  refine bodyPost_ret (results_ct rfl _ _ gb102 85 #[.slice none 0 0, .slice none 0 0, .slice none 0 0] (0, 0) _ rfl (by (with_reducible repeat (first | refine qh ?_ _ | refine qk ?_ | refine qg ?_ _)); refine blk_put (cs := #[.slice none 0 0, .slice none 0 0, .slice none 0 0]) ?_ 2 _ rfl; (with_reducible repeat (first | refine qh ?_ _ | refine qk ?_ | refine qg ?_ _)); refine blk_put (cs := #[.slice none 0 0, .slice none 0 0, .slice none 0 0]) ?_ 1 _ rfl; (with_reducible repeat (first | refine qh ?_ _ | refine qk ?_ | refine qg ?_ _)); refine blk_put (cs := #[.slice none 0 0, .slice none 0 0, .slice none 0 0]) ?_ 0 _ rfl; (with_reducible repeat (first | refine qh ?_ _ | refine qk ?_ | refine qg ?_ _)); exact BK102.out) Try.underlying85 rfl (by kernel_rfl)) rfl ?_
  exact ⟨_, _, _, by first | rfl | (simp [qn, qm] <;> rfl) | (simp [*, qn, qm] <;> rfl), by first | exact Kd.R_nil _ _ _ _ _ | exact Kd.N_nil _ _ _ _ _ | exact Kd.V_nil _ _ _ _ _ | exact Kd.Q_nil _ _ _ _ _ | exact Kd.S_nil _ _ _ _ _, by first | exact Kd.R_nil _ _ _ _ _ | exact Kd.N_nil _ _ _ _ _ | exact Kd.V_nil _ _ _ _ _ | exact Kd.Q_nil _ _ _ _ _ | exact Kd.S_nil _ _ _ _ _, by first | exact Kd.R_nil _ _ _ _ _ | exact Kd.N_nil _ _ _ _ _ | exact Kd.V_nil _ _ _ _ _ | exact Kd.Q_nil _ _ _ _ _ | exact Kd.S_nil _ _ _ _ _, by repeat (first | (with_reducible first | exact HB.out | apply qc | apply qa | apply qb | refine qf ?_ GE101.out | refine qf ?_ GE102.out) | exact HB.out)⟩
theorem yq96 {P : Prop} (h : P := by (with_reducible repeat (first | refine qh ?_ _ | refine qk ?_ | refine qg ?_ _)); exact BK101.out) : P := h
theorem yq97 {P : Prop} (h : P := by repeat (first | (with_reducible first | exact HB.out | apply qc | apply qa | apply qb | refine qf ?_ GE101.out) | exact HB.out)) : P := h
theorem yq98 {P : Prop} (h : P := by repeat (first | (with_reducible first | exact HB.out | apply qc | apply qa | apply qb) | exact HB.out)) : P := h
theorem yq99 {P : Prop} (h : P := by rw [hg]; exact Nat.ne_of_lt (blk_lt (g := gb101) (o := .cells #[.string a0_0, .string a0_1] 170 (0, 0)) yq96)) : P := h
theorem yq100 {P : Prop} (h : P := by rw [hg]; exact Nat.ne_of_gt (blk_lt (g := gb101) (o := .cells #[.string a0_0, .string a0_1] 170 (0, 0)) yq96)) : P := h
def laws_eqFile.f (a0_0 : ByteArray) (a0_1 : ByteArray) (a1_0 : ByteArray) (a1_1 : ByteArray) : Option (Bool) := if a0_0.toList = a1_0.toList then (if a0_1.toList = a1_1.toList then (some true) else (some false)) else (some false)
set_option maxHeartbeats 8000000 in
set_option maxRecDepth 100000 in
theorem laws_eqFile.calls (a0_0 : ByteArray) (a0_1 : ByteArray) (a1_0 : ByteArray) (a1_1 : ByteArray) (r : Bool) (w : World) (h : laws_eqFile.f a0_0 a0_1 a1_0 a1_1 = some r) :
  Calls Try.prog 180 #[.agg #[.string a0_0, .string a0_1], .agg #[.string a1_0, .string a1_1]] w fun e w' => e = .returned (.bool r) ∧ Below w.heap.size w w' := by
 have hu170 := Try.underlying170
 have HB := Qz.mk (Below.refl w.heap.size w)
 have H : (if a0_0.toList = a1_0.toList then (if a0_1.toList = a1_1.toList then (some true) else (some false)) else (some false)) = some r := h
 clear h
 by_cases c3 : a0_0.toList = a1_0.toList
 ·rw [if_pos c3] at H
  have c3b0 : (a0_0.toList == a1_0.toList) = true := beq_iff_eq.mpr c3
  have c3b1 : (a0_0.toList != a1_0.toList) = false := bne_eq_false_iff_eq.mpr c3
  clear c3
  by_cases c4 : a0_1.toList = a1_1.toList
  ·rw [if_pos c4] at H
   have c4b0 : (a0_1.toList == a1_1.toList) = true := beq_iff_eq.mpr c4
   have c4b1 : (a0_1.toList != a1_1.toList) = false := bne_eq_false_iff_eq.mpr c4
   clear c4
   obtain rfl := Option.some.inj H
   go_enter Try.func180, Try.ntmps180
   go_wp2_with (first | ((with_reducible refine qt (N := 2) rfl ?_); refine qr ?hg (N := 2) ?hd (cs := #[.string a0_0, .string a0_1]) (t := 170) ?hr ?_; (case hd => rfl); (case hg => rfl); (case hr => first | (go_simp; done) | (go_simp; rfl)); intro gb101 hg w5 hbox hb; have BK101 := Qz.mk (hbox); have GW101 := Qz.mk ((by rw [hg]; exact (qo yq98) : w.heap.size ≤ gb101)); have GE101 := GW101; replace HB := Qz.mk (ql yq98 hb); clear hb hbox hg) | ((with_reducible refine qt (N := 3) rfl ?_); refine qr ?hg (N := 3) ?hd (cs := #[.string a1_0, .string a1_1]) (t := 170) ?hr ?_; (case hd => rfl); (case hg => rfl); (case hr => first | (go_simp; done) | (go_simp; rfl)); intro gb102 hg w6 hbox hb; have BK102 := Qz.mk (hbox); have GW102 := Qz.mk ((by rw [hg]; exact (qo yq97) : w.heap.size ≤ gb102)); have GE102 := GW102; replace HB := Qz.mk (ql yq97 hb); have NB101_102 := Qz.mk ((yq99 : gb101 ≠ gb102)); have NB102_101 := Qz.mk ((yq100 : gb102 ≠ gb101)); replace BK101 := Qz.mk (qq (g := gb101) (o := .cells #[.string a0_0, .string a0_1] 170 (0, 0)) yq96 hb); clear hb hbox hg; have hnb7 := NB101_102.out; have hnc7 := NB102_101.out; have hcz8_0 := (qd BK101.out 0).trans rfl; have hcz8_1 := (qd BK101.out 1).trans rfl; have hfz8_0 := qe BK101.out 0; have hfz8_1 := qe BK101.out 1; have hcz9_0 := (qd BK102.out 0).trans rfl; have hcz9_1 := (qd BK102.out 1).trans rfl; have hfz9_0 := qe BK102.out 0; have hfz9_1 := qe BK102.out 1))
   go_ret
   exact ⟨by first | rfl | (simp [qn, qm] <;> rfl) | (simp [*, qn, qm] <;> rfl), by repeat (first | (with_reducible first | exact HB.out | apply qc | apply qa | apply qb | refine qf ?_ GE101.out | refine qf ?_ GE102.out) | exact HB.out)⟩
  ·rw [if_neg c4] at H
   have c4b0 : (a0_1.toList == a1_1.toList) = false := beq_eq_false_iff_ne.mpr c4
   have c4b1 : (a0_1.toList != a1_1.toList) = true := bne_iff_ne.mpr c4
   obtain rfl := Option.some.inj H
   go_enter Try.func180, Try.ntmps180
   go_wp2_with (first | ((with_reducible refine qt (N := 2) rfl ?_); refine qr ?hg (N := 2) ?hd (cs := #[.string a0_0, .string a0_1]) (t := 170) ?hr ?_; (case hd => rfl); (case hg => rfl); (case hr => first | (go_simp; done) | (go_simp; rfl)); intro gb101 hg w10 hbox hb; have BK101 := Qz.mk (hbox); have GW101 := Qz.mk ((by rw [hg]; exact (qo yq98) : w.heap.size ≤ gb101)); have GE101 := GW101; replace HB := Qz.mk (ql yq98 hb); clear hb hbox hg) | ((with_reducible refine qt (N := 3) rfl ?_); refine qr ?hg (N := 3) ?hd (cs := #[.string a1_0, .string a1_1]) (t := 170) ?hr ?_; (case hd => rfl); (case hg => rfl); (case hr => first | (go_simp; done) | (go_simp; rfl)); intro gb102 hg w11 hbox hb; have BK102 := Qz.mk (hbox); have GW102 := Qz.mk ((by rw [hg]; exact (qo yq97) : w.heap.size ≤ gb102)); have GE102 := GW102; replace HB := Qz.mk (ql yq97 hb); have NB101_102 := Qz.mk ((yq99 : gb101 ≠ gb102)); have NB102_101 := Qz.mk ((yq100 : gb102 ≠ gb101)); replace BK101 := Qz.mk (qq (g := gb101) (o := .cells #[.string a0_0, .string a0_1] 170 (0, 0)) yq96 hb); clear hb hbox hg; have hnb12 := NB101_102.out; have hnc12 := NB102_101.out; have hcz13_0 := (qd BK101.out 0).trans rfl; have hcz13_1 := (qd BK101.out 1).trans rfl; have hfz13_0 := qe BK101.out 0; have hfz13_1 := qe BK101.out 1; have hcz14_0 := (qd BK102.out 0).trans rfl; have hcz14_1 := (qd BK102.out 1).trans rfl; have hfz14_0 := qe BK102.out 0; have hfz14_1 := qe BK102.out 1))
   go_ret
   exact ⟨by first | rfl | (simp [qn, qm] <;> rfl) | (simp [*, qn, qm] <;> rfl), by repeat (first | (with_reducible first | exact HB.out | apply qc | apply qa | apply qb | refine qf ?_ GE101.out | refine qf ?_ GE102.out) | exact HB.out)⟩
 ·rw [if_neg c3] at H
  have c3b0 : (a0_0.toList == a1_0.toList) = false := beq_eq_false_iff_ne.mpr c3
  have c3b1 : (a0_0.toList != a1_0.toList) = true := bne_iff_ne.mpr c3
  obtain rfl := Option.some.inj H
  go_enter Try.func180, Try.ntmps180
  go_wp2_with (first | ((with_reducible refine qt (N := 2) rfl ?_); refine qr ?hg (N := 2) ?hd (cs := #[.string a0_0, .string a0_1]) (t := 170) ?hr ?_; (case hd => rfl); (case hg => rfl); (case hr => first | (go_simp; done) | (go_simp; rfl)); intro gb101 hg w15 hbox hb; have BK101 := Qz.mk (hbox); have GW101 := Qz.mk ((by rw [hg]; exact (qo yq98) : w.heap.size ≤ gb101)); have GE101 := GW101; replace HB := Qz.mk (ql yq98 hb); clear hb hbox hg) | ((with_reducible refine qt (N := 3) rfl ?_); refine qr ?hg (N := 3) ?hd (cs := #[.string a1_0, .string a1_1]) (t := 170) ?hr ?_; (case hd => rfl); (case hg => rfl); (case hr => first | (go_simp; done) | (go_simp; rfl)); intro gb102 hg w16 hbox hb; have BK102 := Qz.mk (hbox); have GW102 := Qz.mk ((by rw [hg]; exact (qo yq97) : w.heap.size ≤ gb102)); have GE102 := GW102; replace HB := Qz.mk (ql yq97 hb); have NB101_102 := Qz.mk ((yq99 : gb101 ≠ gb102)); have NB102_101 := Qz.mk ((yq100 : gb102 ≠ gb101)); replace BK101 := Qz.mk (qq (g := gb101) (o := .cells #[.string a0_0, .string a0_1] 170 (0, 0)) yq96 hb); clear hb hbox hg; have hnb17 := NB101_102.out; have hnc17 := NB102_101.out; have hcz18_0 := (qd BK101.out 0).trans rfl; have hcz18_1 := (qd BK101.out 1).trans rfl; have hfz18_0 := qe BK101.out 0; have hfz18_1 := qe BK101.out 1; have hcz19_0 := (qd BK102.out 0).trans rfl; have hcz19_1 := (qd BK102.out 1).trans rfl; have hfz19_0 := qe BK102.out 0; have hfz19_1 := qe BK102.out 1))
  go_ret
  exact ⟨by first | rfl | (simp [qn, qm] <;> rfl) | (simp [*, qn, qm] <;> rfl), by repeat (first | (with_reducible first | exact HB.out | apply qc | apply qa | apply qb | refine qf ?_ GE101.out | refine qf ?_ GE102.out) | exact HB.out)⟩
theorem yq101 {P : Prop} (h : P := by first | (with_reducible assumption) | assumption) : P := h
def laws_eqFileS.l0 : Nat → List (S170) → List (S170) → Int → Option (Bool)
 | 0, _, _, _ => none
 | k + 1, x0, x1, x5 => if x5 < (x0.length : Int) then (if 0 ≤ x5 then (if x5 < (x1.length : Int) then ((laws_eqFile.f ((qj x0 x5).f0) ((qj x0 x5).f1) ((qj x1 x5).f0) ((qj x1 x5).f1)).bind fun t103 => (if t103 = true then (laws_eqFileS.l0 k x0 x1 (wrap64 (x5 + 1))) else (some false))) else (none)) else (none)) else (some true)
def laws_eqFileS.f (k : Nat) (l0 : List (S170)) (l1 : List (S170)) : Option (Bool) := if (l0.length : Int) = (l1.length : Int) then (laws_eqFileS.l0 k l0 l1 0) else (some false)
def laws_eqFileS.T6 : Bool × List (List Nat × List Nat) := (true, [([], []), ([], []), ([0, 1], [0, 1]), ([2], [2]), ([], []), ([], []), ([4, 5], [4, 5]), ([6], [6]), ([3, 7], [3, 7]), ([8], [8])])
def laws_eqFileS.B6 : List Nat := [0, 0, 3, 7, 0, 0, 48, 112, 255, 511]
theorem laws_eqFileS.tab6 : rtab .any (opsOf Try.f128 6) = laws_eqFileS.T6 := by kernel_rfl
theorem laws_eqFileS.bits6 : waitsOk laws_eqFileS.T6.2 laws_eqFileS.B6 = true := by kernel_rfl
set_option maxHeartbeats 8000000 in
set_option maxRecDepth 100000 in
theorem laws_eqFileS.calls (k : Nat) (A0 : Option Addr) (c0 : Nat) (l0 : List (S170)) (A1 : Option Addr) (c1 : Nat) (l1 : List (S170)) (r : Bool) (w : World) (hr0 : Kd.C k170 w A0 l0.length l0) (hc0 : l0.length ≤ c0) (hr1 : Kd.C k170 w A1 l1.length l1) (hc1 : l1.length ≤ c1) (h : laws_eqFileS.f k l0 l1 = some r) :
  Calls Try.prog 128 #[.slice A0 l0.length c0, .slice A1 l1.length c1] w fun e w' => e = .returned (.bool r) ∧ Below w.heap.size w w' := by
 have hu170 := Try.underlying170
 have HR0 := Qz.mk hr0
 have HC0 := Qz.mk hc0
 clear hr0 hc0
 have HR1 := Qz.mk hr1
 have HC1 := Qz.mk hc1
 clear hr1 hc1
 have HB := Qz.mk (Below.refl w.heap.size w)
 have H : (if (l0.length : Int) = (l1.length : Int) then (laws_eqFileS.l0 k l0 l1 0) else (some false)) = some r := h
 clear h
 by_cases c3 : (l0.length : Int) = (l1.length : Int)
 ·rw [if_pos c3] at H
  have c3b0 : ((l0.length : Int) == (l1.length : Int)) = true := beq_iff_eq.mpr c3
  have c3b1 : ((l0.length : Int) != (l1.length : Int)) = false := bne_eq_false_iff_eq.mpr c3
  have c3b2 : (l0.length == l1.length) = true := by first | simpa using c3 | (simp at c3 ⊢; omega)
  clear c3
  have H' := Qz.mk H
  clear H
  go_enter Try.func128, Try.ntmps128
  go_wp2
  go_loopg [5] k (fun kq v5 w' => ∃ (x5_1 : Int), v5 = .int .i64 x5_1 ∧ Qz (laws_eqFileS.l0 kq l0 l1 x5_1 = some r) ∧ Qz (kq ≤ k) ∧ Qz (Below w.heap.size w w'))
  case atStart => exact ⟨(0), (by first | rfl | (simp; done) | (simp [*]; done)), H', ⟨Nat.le_refl _⟩, ⟨by repeat (first | (with_reducible first | exact HB.out | apply qc | apply qa | apply qb) | exact HB.out)⟩⟩
  case round =>
   clear H'
   (try clear c1);(try clear p2);(try clear c3);(try clear c3b0);(try clear c3b1);(try clear c3b2)
   obtain ⟨x5_1, rfl, HA, HK1, HB⟩ := hrel
   cases gk with
   | zero => exact absurd HA.out (by simp [laws_eqFileS.l0])
   | succ k1 =>
    have H := HA.out
    clear HA
    simp only [laws_eqFileS.l0] at H
    by_cases c4 : x5_1 < (l0.length : Int)
    ·rw [if_pos c4] at H
     have c4b0 : decide (x5_1 < (l0.length : Int)) = true := decide_eq_true c4
     clear c4
     by_cases c5 : 0 ≤ x5_1
     ·rw [if_pos c5] at H
      have c5b0 : decide (0 ≤ x5_1) = true := decide_eq_true c5
      clear c5
      by_cases c6 : x5_1 < (l1.length : Int)
      ·rw [if_pos c6] at H
       have c6b0 : decide (x5_1 < (l1.length : Int)) = true := decide_eq_true c6
       clear c6
       replace H := Option.bind_eq_some_iff.mp H
       obtain ⟨t103, A70, H⟩ := H
       replace H : (if t103 = true then (laws_eqFileS.l0 k1 l0 l1 (wrap64 (x5_1 + 1))) else (some false)) = some r := H
       have A7 := Qz.mk A70
       clear A70
       by_cases c8 : t103 = true
       ·subst c8
        have H1 : (laws_eqFileS.l0 k1 l0 l1 (wrap64 (x5_1 + 1))) = some r := by rw [if_pos rfl] at H; exact H
        clear H
        have H := H1
        clear H1
        have H' := Qz.mk H
        clear H
        try go_wp2
        replace HB := Qz.mk (qb HB.out)
        have p101 : 0 ≤ (x5_1 : Int) := of_decide_eq_true yq101
        have q101 : x5_1 < (l0.length : Int) := of_decide_eq_true yq101
        obtain ⟨ad101, e101, hx101_0, hx101_1⟩ := at_T170 HR0.out x5_1 p101 q101
        have hw101_1 := hx101_1
        have hw101_0 := hx101_0
        cases e101
        replace hx101_0 := (HB.out.cell (World.block_lt_of_cell? w _ hx101_0)).trans hx101_0
        replace hx101_1 := (HB.out.cell (World.block_lt_of_cell? w _ hx101_1)).trans hx101_1
        replace p101 := eq_true p101
        replace q101 := eq_true q101
        have p102 : 0 ≤ (x5_1 : Int) := of_decide_eq_true yq101
        have q102 : x5_1 < (l1.length : Int) := of_decide_eq_true yq101
        obtain ⟨ad102, e102, hx102_0, hx102_1⟩ := at_T170 HR1.out x5_1 p102 q102
        have hw102_1 := hx102_1
        have hw102_0 := hx102_0
        cases e102
        replace hx102_0 := (HB.out.cell (World.block_lt_of_cell? w _ hx102_0)).trans hx102_0
        replace hx102_1 := (HB.out.cell (World.block_lt_of_cell? w _ hx102_1)).trans hx102_1
        replace p102 := eq_true p102
        replace q102 := eq_true q102
        refine start_ (n := 10) (S := fun w' => w'.cell? (ad101.add ((x5_1).toNat * 2)) = some (.string ((qj l0 x5_1).f0)) ∧ w'.cell? ⟨(ad101.add ((x5_1).toNat * 2)).block, (ad101.add ((x5_1).toNat * 2)).off + 1, none⟩ = some (.string ((qj l0 x5_1).f1)) ∧ w'.cell? (ad102.add ((x5_1).toNat * 2)) = some (.string ((qj l1 x5_1).f0)) ∧ w'.cell? ⟨(ad102.add ((x5_1).toNat * 2)).block, (ad102.add ((x5_1).toNat * 2)).off + 1, none⟩ = some (.string ((qj l1 x5_1).f1))) (ds := []) bq1 (by kernel_rfl) rfl rfl ⟨((HB.out.cell (World.block_lt_of_cell? w _ hw101_0)).trans hw101_0), ((HB.out.cell (World.block_lt_of_cell? w _ hw101_1)).trans hw101_1), ((HB.out.cell (World.block_lt_of_cell? w _ hw102_0)).trans hw102_0), ((HB.out.cell (World.block_lt_of_cell? w _ hw102_1)).trans hw102_1)⟩ (fun hHeld => ?_); refine with_tabW laws_eqFileS.tab6 laws_eqFileS.bits6 (fun HT_ HW_ => ?_)
        generalize wr.drew = w9 at HB hx101_0 hx101_1 hx102_0 hx102_1 hHeld ⊢
        refine pure_ (i := 0) (N := some 17) (v := ?_) (a' := ?_) bq4 rfl rfl (qw HT_.out (by kernel_rfl)) (fun _ _ _ h => h) (Or.inl ⟨by rfl, ?_⟩) ?_ ?_
        rotate_left
        ·intro w'
         go_simp
         with_reducible rfl
        rotate_left
        ·simp only [Act.put, sq1, sq2, sq3, i64_w, i32_w]
         rfl
        refine pure_ (i := 1) (N := some 18) (v := ?_) (a' := ?_) bq7 rfl rfl (qw HT_.out (by kernel_rfl)) (fun _ _ _ h => h) (Or.inl ⟨by rfl, ?_⟩) ?_ ?_
        rotate_left
        ·intro w'
         go_simp
         with_reducible rfl
        rotate_left
        ·simp only [Act.put, sq1, sq2, sq3, i64_w, i32_w]
         rfl
        refine pure_ (i := 2) (N := some 19) (v := ?_) (a' := ?_) bq10 rfl rfl (qw HT_.out (by kernel_rfl)) (fun _ _ _ h => h) (Or.inl ⟨by rfl, ?_⟩) ?_ ?_
        rotate_left
        ·intro w'
         go_simp
         with_reducible rfl
        rotate_left
        ·simp only [Act.put, sq1, sq2, sq3, i64_w, i32_w]
         rfl
        refine pure_ (i := 4) (N := some 21) (v := ?_) (a' := ?_) bq12 rfl rfl (qw HT_.out (by kernel_rfl)) (fun _ _ _ h => h) (Or.inl ⟨by rfl, ?_⟩) ?_ ?_
        rotate_left
        ·intro w'
         go_simp
         with_reducible rfl
        rotate_left
        ·simp only [Act.put, sq1, sq2, sq3, i64_w, i32_w]
         rfl
        refine pure_ (i := 5) (N := some 22) (v := ?_) (a' := ?_) bq13 rfl rfl (qw HT_.out (by kernel_rfl)) (fun _ _ _ h => h) (Or.inl ⟨by rfl, ?_⟩) ?_ ?_
        rotate_left
        ·intro w'
         go_simp
         with_reducible rfl
        rotate_left
        ·simp only [Act.put, sq1, sq2, sq3, i64_w, i32_w]
         rfl
        refine pure_ (i := 6) (N := some 23) (v := ?_) (a' := ?_) bq14 rfl rfl (qw HT_.out (by kernel_rfl)) (fun _ _ _ h => h) (Or.inl ⟨by rfl, ?_⟩) ?_ ?_
        rotate_left
        ·intro w'
         go_simp
         with_reducible rfl
        rotate_left
        ·simp only [Act.put, sq1, sq2, sq3, i64_w, i32_w]
         rfl
        refine take_ (i := 3) (N := some 20) (v := ?_) (a' := ?_) bq22 rfl rfl (take_ofW HT_.out HW_.out (by kernel_rfl)) (fun _ _ _ h => h) (Or.inl ⟨by rfl, ?_⟩) hHeld ?_ ?_
        rotate_left
        ·rintro w' ⟨s0, s1, s2, s3⟩
         go_simp
         with_reducible rfl
        rotate_left
        ·simp only [Act.put, sq1, sq2, sq3, i64_w, i32_w]
         rfl
        refine take_ (i := 7) (N := some 24) (v := ?_) (a' := ?_) bq25 rfl rfl (take_ofW HT_.out HW_.out (by kernel_rfl)) (fun _ _ _ h => h) (Or.inl ⟨by rfl, ?_⟩) hHeld ?_ ?_
        rotate_left
        ·rintro w' ⟨s0, s1, s2, s3⟩
         go_simp
         with_reducible rfl
        rotate_left
        ·simp only [Act.put, sq1, sq2, sq3, i64_w, i32_w]
         rfl
        refine one_ (i := 8) (N := some 25) bq27 rfl rfl (one_of HT_.out (by kernel_rfl)) (by decide) (fun K hK => ?_)
        refine goes_ Try.func180 (by kernel_rfl) rfl #[.agg #[.string ((qj l0 x5_1).f0), .string ((qj l0 x5_1).f1)], .agg #[.string ((qj l1 x5_1).f0), .string ((qj l1 x5_1).f1)]] (by rfl) rfl rfl (by (try simp only [List.map_toArray, List.map_cons, List.map_nil]); first | done | rfl) ?_
        with_reducible refine (laws_eqFile.calls ((qj l0 x5_1).f0) ((qj l0 x5_1).f1) ((qj l1 x5_1).f0) ((qj l1 x5_1).f1) true _ A7.out).mono ?_
        rintro e w10 ⟨rfl, hb⟩
        refine ⟨_, rfl, ?_⟩
        replace HB := Qz.mk (ql (by repeat (first | (with_reducible first | exact HB.out | apply qc | apply qa | apply qb) | exact HB.out)) hb)
        (try clear hb)
        refine hK.out _ _ ⟨((HB.out.cell (World.block_lt_of_cell? w _ hw101_0)).trans hw101_0), ((HB.out.cell (World.block_lt_of_cell? w _ hw101_1)).trans hw101_1), ((HB.out.cell (World.block_lt_of_cell? w _ hw102_0)).trans hw102_0), ((HB.out.cell (World.block_lt_of_cell? w _ hw102_1)).trans hw102_1)⟩ (fun hHeld => ?_)
        clear hK K
        refine norm_ (a' := ?_) ?_ ?_
        rotate_left
        ·show Act.put _ (some 25) _ = _
         simp only [Act.put, sq1, sq2, sq3, i64_w, i32_w]
         rfl
        refine pure_ (i := 9) (N := some 26) (v := ?_) (a' := ?_) bq30 rfl rfl (qw HT_.out (by kernel_rfl)) (fun _ _ _ h => h) (Or.inl ⟨by rfl, ?_⟩) ?_ ?_
        rotate_left
        ·intro w'
         go_simp
         with_reducible rfl
        rotate_left
        ·simp only [Act.put, sq1, sq2, sq3, i64_w, i32_w]
         rfl
        refine done_ (done_of HT_.out (by kernel_rfl)) ?_
        try go_wp2
        go_roundg k1
        case measure => have := HK1.out; omega
        case rel => exact ⟨(wrap64 (x5_1 + 1)), (by first | rfl | (simp; done) | (simp [*]; done)), H', ⟨by have := HK1.out; omega⟩, ⟨by repeat (first | (with_reducible first | exact HB.out | apply qc | apply qa | apply qb) | exact HB.out)⟩⟩
       ·replace c8 := Bool.eq_false_iff.mpr c8
        subst c8
        have H1 : (some false) = some r := by rw [if_neg (show ¬ (false = true) by decide)] at H; exact H
        clear H
        have H := H1
        clear H1
        obtain rfl := Option.some.inj H
        try go_wp2
        replace HB := Qz.mk (qb HB.out)
        have p101 : 0 ≤ (x5_1 : Int) := of_decide_eq_true yq101
        have q101 : x5_1 < (l0.length : Int) := of_decide_eq_true yq101
        obtain ⟨ad101, e101, hx101_0, hx101_1⟩ := at_T170 HR0.out x5_1 p101 q101
        have hw101_1 := hx101_1
        have hw101_0 := hx101_0
        cases e101
        replace hx101_0 := (HB.out.cell (World.block_lt_of_cell? w _ hx101_0)).trans hx101_0
        replace hx101_1 := (HB.out.cell (World.block_lt_of_cell? w _ hx101_1)).trans hx101_1
        replace p101 := eq_true p101
        replace q101 := eq_true q101
        have p102 : 0 ≤ (x5_1 : Int) := of_decide_eq_true yq101
        have q102 : x5_1 < (l1.length : Int) := of_decide_eq_true yq101
        obtain ⟨ad102, e102, hx102_0, hx102_1⟩ := at_T170 HR1.out x5_1 p102 q102
        have hw102_1 := hx102_1
        have hw102_0 := hx102_0
        cases e102
        replace hx102_0 := (HB.out.cell (World.block_lt_of_cell? w _ hx102_0)).trans hx102_0
        replace hx102_1 := (HB.out.cell (World.block_lt_of_cell? w _ hx102_1)).trans hx102_1
        replace p102 := eq_true p102
        replace q102 := eq_true q102
        refine start_ (n := 10) (S := fun w' => w'.cell? (ad101.add ((x5_1).toNat * 2)) = some (.string ((qj l0 x5_1).f0)) ∧ w'.cell? ⟨(ad101.add ((x5_1).toNat * 2)).block, (ad101.add ((x5_1).toNat * 2)).off + 1, none⟩ = some (.string ((qj l0 x5_1).f1)) ∧ w'.cell? (ad102.add ((x5_1).toNat * 2)) = some (.string ((qj l1 x5_1).f0)) ∧ w'.cell? ⟨(ad102.add ((x5_1).toNat * 2)).block, (ad102.add ((x5_1).toNat * 2)).off + 1, none⟩ = some (.string ((qj l1 x5_1).f1))) (ds := []) bq1 (by kernel_rfl) rfl rfl ⟨((HB.out.cell (World.block_lt_of_cell? w _ hw101_0)).trans hw101_0), ((HB.out.cell (World.block_lt_of_cell? w _ hw101_1)).trans hw101_1), ((HB.out.cell (World.block_lt_of_cell? w _ hw102_0)).trans hw102_0), ((HB.out.cell (World.block_lt_of_cell? w _ hw102_1)).trans hw102_1)⟩ (fun hHeld => ?_); refine with_tabW laws_eqFileS.tab6 laws_eqFileS.bits6 (fun HT_ HW_ => ?_)
        generalize wr.drew = w11 at HB hx101_0 hx101_1 hx102_0 hx102_1 hHeld ⊢
        refine pure_ (i := 0) (N := some 17) (v := ?_) (a' := ?_) bq4 rfl rfl (qw HT_.out (by kernel_rfl)) (fun _ _ _ h => h) (Or.inl ⟨by rfl, ?_⟩) ?_ ?_
        rotate_left
        ·intro w'
         go_simp
         with_reducible rfl
        rotate_left
        ·simp only [Act.put, sq1, sq2, sq3, i64_w, i32_w]
         rfl
        refine pure_ (i := 1) (N := some 18) (v := ?_) (a' := ?_) bq7 rfl rfl (qw HT_.out (by kernel_rfl)) (fun _ _ _ h => h) (Or.inl ⟨by rfl, ?_⟩) ?_ ?_
        rotate_left
        ·intro w'
         go_simp
         with_reducible rfl
        rotate_left
        ·simp only [Act.put, sq1, sq2, sq3, i64_w, i32_w]
         rfl
        refine pure_ (i := 2) (N := some 19) (v := ?_) (a' := ?_) bq10 rfl rfl (qw HT_.out (by kernel_rfl)) (fun _ _ _ h => h) (Or.inl ⟨by rfl, ?_⟩) ?_ ?_
        rotate_left
        ·intro w'
         go_simp
         with_reducible rfl
        rotate_left
        ·simp only [Act.put, sq1, sq2, sq3, i64_w, i32_w]
         rfl
        refine pure_ (i := 4) (N := some 21) (v := ?_) (a' := ?_) bq12 rfl rfl (qw HT_.out (by kernel_rfl)) (fun _ _ _ h => h) (Or.inl ⟨by rfl, ?_⟩) ?_ ?_
        rotate_left
        ·intro w'
         go_simp
         with_reducible rfl
        rotate_left
        ·simp only [Act.put, sq1, sq2, sq3, i64_w, i32_w]
         rfl
        refine pure_ (i := 5) (N := some 22) (v := ?_) (a' := ?_) bq13 rfl rfl (qw HT_.out (by kernel_rfl)) (fun _ _ _ h => h) (Or.inl ⟨by rfl, ?_⟩) ?_ ?_
        rotate_left
        ·intro w'
         go_simp
         with_reducible rfl
        rotate_left
        ·simp only [Act.put, sq1, sq2, sq3, i64_w, i32_w]
         rfl
        refine pure_ (i := 6) (N := some 23) (v := ?_) (a' := ?_) bq14 rfl rfl (qw HT_.out (by kernel_rfl)) (fun _ _ _ h => h) (Or.inl ⟨by rfl, ?_⟩) ?_ ?_
        rotate_left
        ·intro w'
         go_simp
         with_reducible rfl
        rotate_left
        ·simp only [Act.put, sq1, sq2, sq3, i64_w, i32_w]
         rfl
        refine take_ (i := 3) (N := some 20) (v := ?_) (a' := ?_) bq22 rfl rfl (take_ofW HT_.out HW_.out (by kernel_rfl)) (fun _ _ _ h => h) (Or.inl ⟨by rfl, ?_⟩) hHeld ?_ ?_
        rotate_left
        ·rintro w' ⟨s0, s1, s2, s3⟩
         go_simp
         with_reducible rfl
        rotate_left
        ·simp only [Act.put, sq1, sq2, sq3, i64_w, i32_w]
         rfl
        refine take_ (i := 7) (N := some 24) (v := ?_) (a' := ?_) bq25 rfl rfl (take_ofW HT_.out HW_.out (by kernel_rfl)) (fun _ _ _ h => h) (Or.inl ⟨by rfl, ?_⟩) hHeld ?_ ?_
        rotate_left
        ·rintro w' ⟨s0, s1, s2, s3⟩
         go_simp
         with_reducible rfl
        rotate_left
        ·simp only [Act.put, sq1, sq2, sq3, i64_w, i32_w]
         rfl
        refine one_ (i := 8) (N := some 25) bq27 rfl rfl (one_of HT_.out (by kernel_rfl)) (by decide) (fun K hK => ?_)
        refine goes_ Try.func180 (by kernel_rfl) rfl #[.agg #[.string ((qj l0 x5_1).f0), .string ((qj l0 x5_1).f1)], .agg #[.string ((qj l1 x5_1).f0), .string ((qj l1 x5_1).f1)]] (by rfl) rfl rfl (by (try simp only [List.map_toArray, List.map_cons, List.map_nil]); first | done | rfl) ?_
        with_reducible refine (laws_eqFile.calls ((qj l0 x5_1).f0) ((qj l0 x5_1).f1) ((qj l1 x5_1).f0) ((qj l1 x5_1).f1) false _ A7.out).mono ?_
        rintro e w12 ⟨rfl, hb⟩
        refine ⟨_, rfl, ?_⟩
        replace HB := Qz.mk (ql (by repeat (first | (with_reducible first | exact HB.out | apply qc | apply qa | apply qb) | exact HB.out)) hb)
        (try clear hb)
        refine hK.out _ _ ⟨((HB.out.cell (World.block_lt_of_cell? w _ hw101_0)).trans hw101_0), ((HB.out.cell (World.block_lt_of_cell? w _ hw101_1)).trans hw101_1), ((HB.out.cell (World.block_lt_of_cell? w _ hw102_0)).trans hw102_0), ((HB.out.cell (World.block_lt_of_cell? w _ hw102_1)).trans hw102_1)⟩ (fun hHeld => ?_)
        clear hK K
        refine norm_ (a' := ?_) ?_ ?_
        rotate_left
        ·show Act.put _ (some 25) _ = _
         simp only [Act.put, sq1, sq2, sq3, i64_w, i32_w]
         rfl
        refine pure_ (i := 9) (N := some 26) (v := ?_) (a' := ?_) bq30 rfl rfl (qw HT_.out (by kernel_rfl)) (fun _ _ _ h => h) (Or.inl ⟨by rfl, ?_⟩) ?_ ?_
        rotate_left
        ·intro w'
         go_simp
         with_reducible rfl
        rotate_left
        ·simp only [Act.put, sq1, sq2, sq3, i64_w, i32_w]
         rfl
        refine done_ (done_of HT_.out (by kernel_rfl)) ?_
        try go_wp2
        go_ret
        exact ⟨by first | rfl | (simp [qn, qm] <;> rfl) | (simp [*, qn, qm] <;> rfl), by repeat (first | (with_reducible first | exact HB.out | apply qc | apply qa | apply qb) | exact HB.out)⟩
      ·rw [if_neg c6] at H
       exact absurd H (by simp)
     ·rw [if_neg c5] at H
      exact absurd H (by simp)
    ·rw [if_neg c4] at H
     have c4b0 : decide (x5_1 < (l0.length : Int)) = false := decide_eq_false c4
     clear c4
     obtain rfl := Option.some.inj H
     go_wp2
     go_ret
     exact ⟨by first | rfl | (simp [qn, qm] <;> rfl) | (simp [*, qn, qm] <;> rfl), by repeat (first | (with_reducible first | exact HB.out | apply qc | apply qa | apply qb) | exact HB.out)⟩
 ·rw [if_neg c3] at H
  have c3b0 : ((l0.length : Int) == (l1.length : Int)) = false := beq_eq_false_iff_ne.mpr c3
  have c3b1 : ((l0.length : Int) != (l1.length : Int)) = true := bne_iff_ne.mpr c3
  have c3b2 : (l0.length == l1.length) = false := by first | simpa using c3 | (simp at c3 ⊢; omega)
  obtain rfl := Option.some.inj H
  go_enter Try.func128, Try.ntmps128
  go_wp2
  go_ret
  exact ⟨by first | rfl | (simp [qn, qm] <;> rfl) | (simp [*, qn, qm] <;> rfl), by repeat (first | (with_reducible first | exact HB.out | apply qc | apply qa | apply qb) | exact HB.out)⟩
theorem yq102 {P : Prop} (h : P := by (with_reducible repeat (first | refine qh ?_ _ | refine qk ?_ | refine qg ?_ _)); exact BK101.out) : P := h
theorem yq103 {P : Prop} (h : P := by repeat (first | (with_reducible first | exact HB.out | apply qc | apply qa | apply qb | refine qf ?_ GE101.out) | exact HB.out)) : P := h
theorem yq104 {P : Prop} (h : P := by repeat (first | (with_reducible first | exact HB.out | apply qc | apply qa | apply qb) | exact HB.out)) : P := h
theorem yq105 {P : Prop} (h : P := by rw [hg]; exact Nat.ne_of_lt (blk_lt (g := gb101) (o := .cells #[.int .i64 a0_0, .string a0_1, .string a0_2, .string a0_3] 157 (0, 0)) yq102)) : P := h
theorem yq106 {P : Prop} (h : P := by rw [hg]; exact Nat.ne_of_gt (blk_lt (g := gb101) (o := .cells #[.int .i64 a0_0, .string a0_1, .string a0_2, .string a0_3] 157 (0, 0)) yq102)) : P := h
theorem yq107 {P : Prop} (h : P := by first | (go_simp; done) | (go_simp; rfl)) : P := h
def laws_eqDOp.f (a0_0 : Int) (a0_1 : ByteArray) (a0_2 : ByteArray) (a0_3 : ByteArray) (a1_0 : Int) (a1_1 : ByteArray) (a1_2 : ByteArray) (a1_3 : ByteArray) : Option (Bool) := if a0_0 = a1_0 then (if a0_1.toList = a1_1.toList then (if a0_2.toList = a1_2.toList then (if a0_3.toList = a1_3.toList then (some true) else (some false)) else (some false)) else (some false)) else (some false)
set_option maxHeartbeats 8000000 in
set_option maxRecDepth 100000 in
theorem laws_eqDOp.calls (a0_0 : Int) (a0_1 : ByteArray) (a0_2 : ByteArray) (a0_3 : ByteArray) (a1_0 : Int) (a1_1 : ByteArray) (a1_2 : ByteArray) (a1_3 : ByteArray) (r : Bool) (w : World) (h : laws_eqDOp.f a0_0 a0_1 a0_2 a0_3 a1_0 a1_1 a1_2 a1_3 = some r) :
  Calls Try.prog 181 #[.agg #[.int .i64 a0_0, .string a0_1, .string a0_2, .string a0_3], .agg #[.int .i64 a1_0, .string a1_1, .string a1_2, .string a1_3]] w fun e w' => e = .returned (.bool r) ∧ Below w.heap.size w w' := by
 have hu157 := Try.underlying157
 have HB := Qz.mk (Below.refl w.heap.size w)
 have H : (if a0_0 = a1_0 then (if a0_1.toList = a1_1.toList then (if a0_2.toList = a1_2.toList then (if a0_3.toList = a1_3.toList then (some true) else (some false)) else (some false)) else (some false)) else (some false)) = some r := h
 clear h
 by_cases c3 : a0_0 = a1_0
 ·rw [if_pos c3] at H
  have c3b0 : (a0_0 == a1_0) = true := beq_iff_eq.mpr c3
  have c3b1 : (a0_0 != a1_0) = false := bne_eq_false_iff_eq.mpr c3
  clear c3
  by_cases c4 : a0_1.toList = a1_1.toList
  ·rw [if_pos c4] at H
   have c4b0 : (a0_1.toList == a1_1.toList) = true := beq_iff_eq.mpr c4
   have c4b1 : (a0_1.toList != a1_1.toList) = false := bne_eq_false_iff_eq.mpr c4
   clear c4
   by_cases c5 : a0_2.toList = a1_2.toList
   ·rw [if_pos c5] at H
    have c5b0 : (a0_2.toList == a1_2.toList) = true := beq_iff_eq.mpr c5
    have c5b1 : (a0_2.toList != a1_2.toList) = false := bne_eq_false_iff_eq.mpr c5
    clear c5
    by_cases c6 : a0_3.toList = a1_3.toList
    ·rw [if_pos c6] at H
     have c6b0 : (a0_3.toList == a1_3.toList) = true := beq_iff_eq.mpr c6
     have c6b1 : (a0_3.toList != a1_3.toList) = false := bne_eq_false_iff_eq.mpr c6
     clear c6
     obtain rfl := Option.some.inj H
     go_enter Try.func181, Try.ntmps181
     go_wp2_with (first | ((with_reducible refine qt (N := 2) rfl ?_); refine qr ?hg (N := 2) ?hd (cs := #[.int .i64 a0_0, .string a0_1, .string a0_2, .string a0_3]) (t := 157) ?hr ?_; (case hd => rfl); (case hg => rfl); (case hr => exact yq107); intro gb101 hg w7 hbox hb; have BK101 := Qz.mk (hbox); have GW101 := Qz.mk ((by rw [hg]; exact (qo yq104) : w.heap.size ≤ gb101)); have GE101 := GW101; replace HB := Qz.mk (ql yq104 hb); clear hb hbox hg) | ((with_reducible refine qt (N := 3) rfl ?_); refine qr ?hg (N := 3) ?hd (cs := #[.int .i64 a1_0, .string a1_1, .string a1_2, .string a1_3]) (t := 157) ?hr ?_; (case hd => rfl); (case hg => rfl); (case hr => exact yq107); intro gb102 hg w8 hbox hb; have BK102 := Qz.mk (hbox); have GW102 := Qz.mk ((by rw [hg]; exact (qo yq103) : w.heap.size ≤ gb102)); have GE102 := GW102; replace HB := Qz.mk (ql yq103 hb); have NB101_102 := Qz.mk ((yq105 : gb101 ≠ gb102)); have NB102_101 := Qz.mk ((yq106 : gb102 ≠ gb101)); replace BK101 := Qz.mk (qq (g := gb101) (o := .cells #[.int .i64 a0_0, .string a0_1, .string a0_2, .string a0_3] 157 (0, 0)) yq102 hb); clear hb hbox hg; have hnb9 := NB101_102.out; have hnc9 := NB102_101.out; have hcz10_0 := (qd BK101.out 0).trans rfl; have hcz10_1 := (qd BK101.out 1).trans rfl; have hcz10_2 := (qd BK101.out 2).trans rfl; have hcz10_3 := (qd BK101.out 3).trans rfl; have hfz10_0 := qe BK101.out 0; have hfz10_1 := qe BK101.out 1; have hfz10_2 := qe BK101.out 2; have hfz10_3 := qe BK101.out 3; have hcz11_0 := (qd BK102.out 0).trans rfl; have hcz11_1 := (qd BK102.out 1).trans rfl; have hcz11_2 := (qd BK102.out 2).trans rfl; have hcz11_3 := (qd BK102.out 3).trans rfl; have hfz11_0 := qe BK102.out 0; have hfz11_1 := qe BK102.out 1; have hfz11_2 := qe BK102.out 2; have hfz11_3 := qe BK102.out 3))
     go_ret
     exact ⟨by first | rfl | (simp [qn, qm] <;> rfl) | (simp [*, qn, qm] <;> rfl), by repeat (first | (with_reducible first | exact HB.out | apply qc | apply qa | apply qb | refine qf ?_ GE101.out | refine qf ?_ GE102.out) | exact HB.out)⟩
    ·rw [if_neg c6] at H
     have c6b0 : (a0_3.toList == a1_3.toList) = false := beq_eq_false_iff_ne.mpr c6
     have c6b1 : (a0_3.toList != a1_3.toList) = true := bne_iff_ne.mpr c6
     obtain rfl := Option.some.inj H
     go_enter Try.func181, Try.ntmps181
     go_wp2_with (first | ((with_reducible refine qt (N := 2) rfl ?_); refine qr ?hg (N := 2) ?hd (cs := #[.int .i64 a0_0, .string a0_1, .string a0_2, .string a0_3]) (t := 157) ?hr ?_; (case hd => rfl); (case hg => rfl); (case hr => exact yq107); intro gb101 hg w12 hbox hb; have BK101 := Qz.mk (hbox); have GW101 := Qz.mk ((by rw [hg]; exact (qo yq104) : w.heap.size ≤ gb101)); have GE101 := GW101; replace HB := Qz.mk (ql yq104 hb); clear hb hbox hg) | ((with_reducible refine qt (N := 3) rfl ?_); refine qr ?hg (N := 3) ?hd (cs := #[.int .i64 a1_0, .string a1_1, .string a1_2, .string a1_3]) (t := 157) ?hr ?_; (case hd => rfl); (case hg => rfl); (case hr => exact yq107); intro gb102 hg w13 hbox hb; have BK102 := Qz.mk (hbox); have GW102 := Qz.mk ((by rw [hg]; exact (qo yq103) : w.heap.size ≤ gb102)); have GE102 := GW102; replace HB := Qz.mk (ql yq103 hb); have NB101_102 := Qz.mk ((yq105 : gb101 ≠ gb102)); have NB102_101 := Qz.mk ((yq106 : gb102 ≠ gb101)); replace BK101 := Qz.mk (qq (g := gb101) (o := .cells #[.int .i64 a0_0, .string a0_1, .string a0_2, .string a0_3] 157 (0, 0)) yq102 hb); clear hb hbox hg; have hnb14 := NB101_102.out; have hnc14 := NB102_101.out; have hcz15_0 := (qd BK101.out 0).trans rfl; have hcz15_1 := (qd BK101.out 1).trans rfl; have hcz15_2 := (qd BK101.out 2).trans rfl; have hcz15_3 := (qd BK101.out 3).trans rfl; have hfz15_0 := qe BK101.out 0; have hfz15_1 := qe BK101.out 1; have hfz15_2 := qe BK101.out 2; have hfz15_3 := qe BK101.out 3; have hcz16_0 := (qd BK102.out 0).trans rfl; have hcz16_1 := (qd BK102.out 1).trans rfl; have hcz16_2 := (qd BK102.out 2).trans rfl; have hcz16_3 := (qd BK102.out 3).trans rfl; have hfz16_0 := qe BK102.out 0; have hfz16_1 := qe BK102.out 1; have hfz16_2 := qe BK102.out 2; have hfz16_3 := qe BK102.out 3))
     go_ret
     exact ⟨by first | rfl | (simp [qn, qm] <;> rfl) | (simp [*, qn, qm] <;> rfl), by repeat (first | (with_reducible first | exact HB.out | apply qc | apply qa | apply qb | refine qf ?_ GE101.out | refine qf ?_ GE102.out) | exact HB.out)⟩
   ·rw [if_neg c5] at H
    have c5b0 : (a0_2.toList == a1_2.toList) = false := beq_eq_false_iff_ne.mpr c5
    have c5b1 : (a0_2.toList != a1_2.toList) = true := bne_iff_ne.mpr c5
    obtain rfl := Option.some.inj H
    go_enter Try.func181, Try.ntmps181
    go_wp2_with (first | ((with_reducible refine qt (N := 2) rfl ?_); refine qr ?hg (N := 2) ?hd (cs := #[.int .i64 a0_0, .string a0_1, .string a0_2, .string a0_3]) (t := 157) ?hr ?_; (case hd => rfl); (case hg => rfl); (case hr => exact yq107); intro gb101 hg w17 hbox hb; have BK101 := Qz.mk (hbox); have GW101 := Qz.mk ((by rw [hg]; exact (qo yq104) : w.heap.size ≤ gb101)); have GE101 := GW101; replace HB := Qz.mk (ql yq104 hb); clear hb hbox hg) | ((with_reducible refine qt (N := 3) rfl ?_); refine qr ?hg (N := 3) ?hd (cs := #[.int .i64 a1_0, .string a1_1, .string a1_2, .string a1_3]) (t := 157) ?hr ?_; (case hd => rfl); (case hg => rfl); (case hr => exact yq107); intro gb102 hg w18 hbox hb; have BK102 := Qz.mk (hbox); have GW102 := Qz.mk ((by rw [hg]; exact (qo yq103) : w.heap.size ≤ gb102)); have GE102 := GW102; replace HB := Qz.mk (ql yq103 hb); have NB101_102 := Qz.mk ((yq105 : gb101 ≠ gb102)); have NB102_101 := Qz.mk ((yq106 : gb102 ≠ gb101)); replace BK101 := Qz.mk (qq (g := gb101) (o := .cells #[.int .i64 a0_0, .string a0_1, .string a0_2, .string a0_3] 157 (0, 0)) yq102 hb); clear hb hbox hg; have hnb19 := NB101_102.out; have hnc19 := NB102_101.out; have hcz20_0 := (qd BK101.out 0).trans rfl; have hcz20_1 := (qd BK101.out 1).trans rfl; have hcz20_2 := (qd BK101.out 2).trans rfl; have hcz20_3 := (qd BK101.out 3).trans rfl; have hfz20_0 := qe BK101.out 0; have hfz20_1 := qe BK101.out 1; have hfz20_2 := qe BK101.out 2; have hfz20_3 := qe BK101.out 3; have hcz21_0 := (qd BK102.out 0).trans rfl; have hcz21_1 := (qd BK102.out 1).trans rfl; have hcz21_2 := (qd BK102.out 2).trans rfl; have hcz21_3 := (qd BK102.out 3).trans rfl; have hfz21_0 := qe BK102.out 0; have hfz21_1 := qe BK102.out 1; have hfz21_2 := qe BK102.out 2; have hfz21_3 := qe BK102.out 3))
    go_ret
    exact ⟨by first | rfl | (simp [qn, qm] <;> rfl) | (simp [*, qn, qm] <;> rfl), by repeat (first | (with_reducible first | exact HB.out | apply qc | apply qa | apply qb | refine qf ?_ GE101.out | refine qf ?_ GE102.out) | exact HB.out)⟩
  ·rw [if_neg c4] at H
   have c4b0 : (a0_1.toList == a1_1.toList) = false := beq_eq_false_iff_ne.mpr c4
   have c4b1 : (a0_1.toList != a1_1.toList) = true := bne_iff_ne.mpr c4
   obtain rfl := Option.some.inj H
   go_enter Try.func181, Try.ntmps181
   go_wp2_with (first | ((with_reducible refine qt (N := 2) rfl ?_); refine qr ?hg (N := 2) ?hd (cs := #[.int .i64 a0_0, .string a0_1, .string a0_2, .string a0_3]) (t := 157) ?hr ?_; (case hd => rfl); (case hg => rfl); (case hr => exact yq107); intro gb101 hg w22 hbox hb; have BK101 := Qz.mk (hbox); have GW101 := Qz.mk ((by rw [hg]; exact (qo yq104) : w.heap.size ≤ gb101)); have GE101 := GW101; replace HB := Qz.mk (ql yq104 hb); clear hb hbox hg) | ((with_reducible refine qt (N := 3) rfl ?_); refine qr ?hg (N := 3) ?hd (cs := #[.int .i64 a1_0, .string a1_1, .string a1_2, .string a1_3]) (t := 157) ?hr ?_; (case hd => rfl); (case hg => rfl); (case hr => exact yq107); intro gb102 hg w23 hbox hb; have BK102 := Qz.mk (hbox); have GW102 := Qz.mk ((by rw [hg]; exact (qo yq103) : w.heap.size ≤ gb102)); have GE102 := GW102; replace HB := Qz.mk (ql yq103 hb); have NB101_102 := Qz.mk ((yq105 : gb101 ≠ gb102)); have NB102_101 := Qz.mk ((yq106 : gb102 ≠ gb101)); replace BK101 := Qz.mk (qq (g := gb101) (o := .cells #[.int .i64 a0_0, .string a0_1, .string a0_2, .string a0_3] 157 (0, 0)) yq102 hb); clear hb hbox hg; have hnb24 := NB101_102.out; have hnc24 := NB102_101.out; have hcz25_0 := (qd BK101.out 0).trans rfl; have hcz25_1 := (qd BK101.out 1).trans rfl; have hcz25_2 := (qd BK101.out 2).trans rfl; have hcz25_3 := (qd BK101.out 3).trans rfl; have hfz25_0 := qe BK101.out 0; have hfz25_1 := qe BK101.out 1; have hfz25_2 := qe BK101.out 2; have hfz25_3 := qe BK101.out 3; have hcz26_0 := (qd BK102.out 0).trans rfl; have hcz26_1 := (qd BK102.out 1).trans rfl; have hcz26_2 := (qd BK102.out 2).trans rfl; have hcz26_3 := (qd BK102.out 3).trans rfl; have hfz26_0 := qe BK102.out 0; have hfz26_1 := qe BK102.out 1; have hfz26_2 := qe BK102.out 2; have hfz26_3 := qe BK102.out 3))
   go_ret
   exact ⟨by first | rfl | (simp [qn, qm] <;> rfl) | (simp [*, qn, qm] <;> rfl), by repeat (first | (with_reducible first | exact HB.out | apply qc | apply qa | apply qb | refine qf ?_ GE101.out | refine qf ?_ GE102.out) | exact HB.out)⟩
 ·rw [if_neg c3] at H
  have c3b0 : (a0_0 == a1_0) = false := beq_eq_false_iff_ne.mpr c3
  have c3b1 : (a0_0 != a1_0) = true := bne_iff_ne.mpr c3
  obtain rfl := Option.some.inj H
  go_enter Try.func181, Try.ntmps181
  go_wp2_with (first | ((with_reducible refine qt (N := 2) rfl ?_); refine qr ?hg (N := 2) ?hd (cs := #[.int .i64 a0_0, .string a0_1, .string a0_2, .string a0_3]) (t := 157) ?hr ?_; (case hd => rfl); (case hg => rfl); (case hr => exact yq107); intro gb101 hg w27 hbox hb; have BK101 := Qz.mk (hbox); have GW101 := Qz.mk ((by rw [hg]; exact (qo yq104) : w.heap.size ≤ gb101)); have GE101 := GW101; replace HB := Qz.mk (ql yq104 hb); clear hb hbox hg) | ((with_reducible refine qt (N := 3) rfl ?_); refine qr ?hg (N := 3) ?hd (cs := #[.int .i64 a1_0, .string a1_1, .string a1_2, .string a1_3]) (t := 157) ?hr ?_; (case hd => rfl); (case hg => rfl); (case hr => exact yq107); intro gb102 hg w28 hbox hb; have BK102 := Qz.mk (hbox); have GW102 := Qz.mk ((by rw [hg]; exact (qo yq103) : w.heap.size ≤ gb102)); have GE102 := GW102; replace HB := Qz.mk (ql yq103 hb); have NB101_102 := Qz.mk ((yq105 : gb101 ≠ gb102)); have NB102_101 := Qz.mk ((yq106 : gb102 ≠ gb101)); replace BK101 := Qz.mk (qq (g := gb101) (o := .cells #[.int .i64 a0_0, .string a0_1, .string a0_2, .string a0_3] 157 (0, 0)) yq102 hb); clear hb hbox hg; have hnb29 := NB101_102.out; have hnc29 := NB102_101.out; have hcz30_0 := (qd BK101.out 0).trans rfl; have hcz30_1 := (qd BK101.out 1).trans rfl; have hcz30_2 := (qd BK101.out 2).trans rfl; have hcz30_3 := (qd BK101.out 3).trans rfl; have hfz30_0 := qe BK101.out 0; have hfz30_1 := qe BK101.out 1; have hfz30_2 := qe BK101.out 2; have hfz30_3 := qe BK101.out 3; have hcz31_0 := (qd BK102.out 0).trans rfl; have hcz31_1 := (qd BK102.out 1).trans rfl; have hcz31_2 := (qd BK102.out 2).trans rfl; have hcz31_3 := (qd BK102.out 3).trans rfl; have hfz31_0 := qe BK102.out 0; have hfz31_1 := qe BK102.out 1; have hfz31_2 := qe BK102.out 2; have hfz31_3 := qe BK102.out 3))
  go_ret
  exact ⟨by first | rfl | (simp [qn, qm] <;> rfl) | (simp [*, qn, qm] <;> rfl), by repeat (first | (with_reducible first | exact HB.out | apply qc | apply qa | apply qb | refine qf ?_ GE101.out | refine qf ?_ GE102.out) | exact HB.out)⟩
theorem yq108 {P : Prop} (h : P := by first | (with_reducible assumption) | assumption) : P := h
def laws_eqDOpS.l0 : Nat → List (S157) → List (S157) → Int → Option (Bool)
 | 0, _, _, _ => none
 | k + 1, x0, x1, x5 => if x5 < (x0.length : Int) then (if 0 ≤ x5 then (if x5 < (x1.length : Int) then ((laws_eqDOp.f ((qi x0 x5).f0) ((qi x0 x5).f1) ((qi x0 x5).f2) ((qi x0 x5).f3) ((qi x1 x5).f0) ((qi x1 x5).f1) ((qi x1 x5).f2) ((qi x1 x5).f3)).bind fun t103 => (if t103 = true then (laws_eqDOpS.l0 k x0 x1 (wrap64 (x5 + 1))) else (some false))) else (none)) else (none)) else (some true)
def laws_eqDOpS.f (k : Nat) (l0 : List (S157)) (l1 : List (S157)) : Option (Bool) := if (l0.length : Int) = (l1.length : Int) then (laws_eqDOpS.l0 k l0 l1 0) else (some false)
def laws_eqDOpS.T6 : Bool × List (List Nat × List Nat) := (true, [([], []), ([], []), ([0, 1], [0, 1]), ([2], [2]), ([], []), ([], []), ([4, 5], [4, 5]), ([6], [6]), ([3, 7], [3, 7]), ([8], [8])])
def laws_eqDOpS.B6 : List Nat := [0, 0, 3, 7, 0, 0, 48, 112, 255, 511]
theorem laws_eqDOpS.tab6 : rtab .any (opsOf Try.f129 6) = laws_eqDOpS.T6 := by kernel_rfl
theorem laws_eqDOpS.bits6 : waitsOk laws_eqDOpS.T6.2 laws_eqDOpS.B6 = true := by kernel_rfl
set_option maxHeartbeats 8000000 in
set_option maxRecDepth 100000 in
theorem laws_eqDOpS.calls (k : Nat) (A0 : Option Addr) (c0 : Nat) (l0 : List (S157)) (A1 : Option Addr) (c1 : Nat) (l1 : List (S157)) (r : Bool) (w : World) (hr0 : Kd.C k157 w A0 l0.length l0) (hc0 : l0.length ≤ c0) (hr1 : Kd.C k157 w A1 l1.length l1) (hc1 : l1.length ≤ c1) (h : laws_eqDOpS.f k l0 l1 = some r) :
  Calls Try.prog 129 #[.slice A0 l0.length c0, .slice A1 l1.length c1] w fun e w' => e = .returned (.bool r) ∧ Below w.heap.size w w' := by
 have hu157 := Try.underlying157
 have HR0 := Qz.mk hr0
 have HC0 := Qz.mk hc0
 clear hr0 hc0
 have HR1 := Qz.mk hr1
 have HC1 := Qz.mk hc1
 clear hr1 hc1
 have HB := Qz.mk (Below.refl w.heap.size w)
 have H : (if (l0.length : Int) = (l1.length : Int) then (laws_eqDOpS.l0 k l0 l1 0) else (some false)) = some r := h
 clear h
 by_cases c3 : (l0.length : Int) = (l1.length : Int)
 ·rw [if_pos c3] at H
  have c3b0 : ((l0.length : Int) == (l1.length : Int)) = true := beq_iff_eq.mpr c3
  have c3b1 : ((l0.length : Int) != (l1.length : Int)) = false := bne_eq_false_iff_eq.mpr c3
  have c3b2 : (l0.length == l1.length) = true := by first | simpa using c3 | (simp at c3 ⊢; omega)
  clear c3
  have H' := Qz.mk H
  clear H
  go_enter Try.func129, Try.ntmps129
  go_wp2
  go_loopg [5] k (fun kq v5 w' => ∃ (x5_1 : Int), v5 = .int .i64 x5_1 ∧ Qz (laws_eqDOpS.l0 kq l0 l1 x5_1 = some r) ∧ Qz (kq ≤ k) ∧ Qz (Below w.heap.size w w'))
  case atStart => exact ⟨(0), (by first | rfl | (simp; done) | (simp [*]; done)), H', ⟨Nat.le_refl _⟩, ⟨by repeat (first | (with_reducible first | exact HB.out | apply qc | apply qa | apply qb) | exact HB.out)⟩⟩
  case round =>
   clear H'
   (try clear c1);(try clear p2);(try clear c3);(try clear c3b0);(try clear c3b1);(try clear c3b2)
   obtain ⟨x5_1, rfl, HA, HK1, HB⟩ := hrel
   cases gk with
   | zero => exact absurd HA.out (by simp [laws_eqDOpS.l0])
   | succ k1 =>
    have H := HA.out
    clear HA
    simp only [laws_eqDOpS.l0] at H
    by_cases c4 : x5_1 < (l0.length : Int)
    ·rw [if_pos c4] at H
     have c4b0 : decide (x5_1 < (l0.length : Int)) = true := decide_eq_true c4
     clear c4
     by_cases c5 : 0 ≤ x5_1
     ·rw [if_pos c5] at H
      have c5b0 : decide (0 ≤ x5_1) = true := decide_eq_true c5
      clear c5
      by_cases c6 : x5_1 < (l1.length : Int)
      ·rw [if_pos c6] at H
       have c6b0 : decide (x5_1 < (l1.length : Int)) = true := decide_eq_true c6
       clear c6
       replace H := Option.bind_eq_some_iff.mp H
       obtain ⟨t103, A70, H⟩ := H
       replace H : (if t103 = true then (laws_eqDOpS.l0 k1 l0 l1 (wrap64 (x5_1 + 1))) else (some false)) = some r := H
       have A7 := Qz.mk A70
       clear A70
       by_cases c8 : t103 = true
       ·subst c8
        have H1 : (laws_eqDOpS.l0 k1 l0 l1 (wrap64 (x5_1 + 1))) = some r := by rw [if_pos rfl] at H; exact H
        clear H
        have H := H1
        clear H1
        have H' := Qz.mk H
        clear H
        try go_wp2
        replace HB := Qz.mk (qb HB.out)
        have p101 : 0 ≤ (x5_1 : Int) := of_decide_eq_true yq108
        have q101 : x5_1 < (l0.length : Int) := of_decide_eq_true yq108
        obtain ⟨ad101, e101, hx101_0, hx101_1, hx101_2, hx101_3⟩ := at_T157 HR0.out x5_1 p101 q101
        have hw101_3 := hx101_3
        have hw101_2 := hx101_2
        have hw101_1 := hx101_1
        have hw101_0 := hx101_0
        cases e101
        replace hx101_0 := (HB.out.cell (World.block_lt_of_cell? w _ hx101_0)).trans hx101_0
        replace hx101_1 := (HB.out.cell (World.block_lt_of_cell? w _ hx101_1)).trans hx101_1
        replace hx101_2 := (HB.out.cell (World.block_lt_of_cell? w _ hx101_2)).trans hx101_2
        replace hx101_3 := (HB.out.cell (World.block_lt_of_cell? w _ hx101_3)).trans hx101_3
        replace p101 := eq_true p101
        replace q101 := eq_true q101
        have p102 : 0 ≤ (x5_1 : Int) := of_decide_eq_true yq108
        have q102 : x5_1 < (l1.length : Int) := of_decide_eq_true yq108
        obtain ⟨ad102, e102, hx102_0, hx102_1, hx102_2, hx102_3⟩ := at_T157 HR1.out x5_1 p102 q102
        have hw102_3 := hx102_3
        have hw102_2 := hx102_2
        have hw102_1 := hx102_1
        have hw102_0 := hx102_0
        cases e102
        replace hx102_0 := (HB.out.cell (World.block_lt_of_cell? w _ hx102_0)).trans hx102_0
        replace hx102_1 := (HB.out.cell (World.block_lt_of_cell? w _ hx102_1)).trans hx102_1
        replace hx102_2 := (HB.out.cell (World.block_lt_of_cell? w _ hx102_2)).trans hx102_2
        replace hx102_3 := (HB.out.cell (World.block_lt_of_cell? w _ hx102_3)).trans hx102_3
        replace p102 := eq_true p102
        replace q102 := eq_true q102
        refine start_ (n := 10) (S := fun w' => w'.cell? (ad101.add ((x5_1).toNat * 4)) = some (.int .i64 ((qi l0 x5_1).f0)) ∧ w'.cell? ⟨(ad101.add ((x5_1).toNat * 4)).block, (ad101.add ((x5_1).toNat * 4)).off + 1, none⟩ = some (.string ((qi l0 x5_1).f1)) ∧ w'.cell? ⟨(ad101.add ((x5_1).toNat * 4)).block, (ad101.add ((x5_1).toNat * 4)).off + 2, none⟩ = some (.string ((qi l0 x5_1).f2)) ∧ w'.cell? ⟨(ad101.add ((x5_1).toNat * 4)).block, (ad101.add ((x5_1).toNat * 4)).off + 3, none⟩ = some (.string ((qi l0 x5_1).f3)) ∧ w'.cell? (ad102.add ((x5_1).toNat * 4)) = some (.int .i64 ((qi l1 x5_1).f0)) ∧ w'.cell? ⟨(ad102.add ((x5_1).toNat * 4)).block, (ad102.add ((x5_1).toNat * 4)).off + 1, none⟩ = some (.string ((qi l1 x5_1).f1)) ∧ w'.cell? ⟨(ad102.add ((x5_1).toNat * 4)).block, (ad102.add ((x5_1).toNat * 4)).off + 2, none⟩ = some (.string ((qi l1 x5_1).f2)) ∧ w'.cell? ⟨(ad102.add ((x5_1).toNat * 4)).block, (ad102.add ((x5_1).toNat * 4)).off + 3, none⟩ = some (.string ((qi l1 x5_1).f3))) (ds := []) bq1 (by kernel_rfl) rfl rfl ⟨((HB.out.cell (World.block_lt_of_cell? w _ hw101_0)).trans hw101_0), ((HB.out.cell (World.block_lt_of_cell? w _ hw101_1)).trans hw101_1), ((HB.out.cell (World.block_lt_of_cell? w _ hw101_2)).trans hw101_2), ((HB.out.cell (World.block_lt_of_cell? w _ hw101_3)).trans hw101_3), ((HB.out.cell (World.block_lt_of_cell? w _ hw102_0)).trans hw102_0), ((HB.out.cell (World.block_lt_of_cell? w _ hw102_1)).trans hw102_1), ((HB.out.cell (World.block_lt_of_cell? w _ hw102_2)).trans hw102_2), ((HB.out.cell (World.block_lt_of_cell? w _ hw102_3)).trans hw102_3)⟩ (fun hHeld => ?_); refine with_tabW laws_eqDOpS.tab6 laws_eqDOpS.bits6 (fun HT_ HW_ => ?_)
        generalize wr.drew = w9 at HB hx101_0 hx101_1 hx101_2 hx101_3 hx102_0 hx102_1 hx102_2 hx102_3 hHeld ⊢
        refine pure_ (i := 0) (N := some 17) (v := ?_) (a' := ?_) bq4 rfl rfl (qw HT_.out (by kernel_rfl)) (fun _ _ _ h => h) (Or.inl ⟨by rfl, ?_⟩) ?_ ?_
        rotate_left
        ·intro w'
         go_simp
         with_reducible rfl
        rotate_left
        ·simp only [Act.put, sq1, sq2, sq3, i64_w, i32_w]
         rfl
        refine pure_ (i := 1) (N := some 18) (v := ?_) (a' := ?_) bq7 rfl rfl (qw HT_.out (by kernel_rfl)) (fun _ _ _ h => h) (Or.inl ⟨by rfl, ?_⟩) ?_ ?_
        rotate_left
        ·intro w'
         go_simp
         with_reducible rfl
        rotate_left
        ·simp only [Act.put, sq1, sq2, sq3, i64_w, i32_w]
         rfl
        refine pure_ (i := 2) (N := some 19) (v := ?_) (a' := ?_) bq10 rfl rfl (qw HT_.out (by kernel_rfl)) (fun _ _ _ h => h) (Or.inl ⟨by rfl, ?_⟩) ?_ ?_
        rotate_left
        ·intro w'
         go_simp
         with_reducible rfl
        rotate_left
        ·simp only [Act.put, sq1, sq2, sq3, i64_w, i32_w]
         rfl
        refine pure_ (i := 4) (N := some 21) (v := ?_) (a' := ?_) bq12 rfl rfl (qw HT_.out (by kernel_rfl)) (fun _ _ _ h => h) (Or.inl ⟨by rfl, ?_⟩) ?_ ?_
        rotate_left
        ·intro w'
         go_simp
         with_reducible rfl
        rotate_left
        ·simp only [Act.put, sq1, sq2, sq3, i64_w, i32_w]
         rfl
        refine pure_ (i := 5) (N := some 22) (v := ?_) (a' := ?_) bq13 rfl rfl (qw HT_.out (by kernel_rfl)) (fun _ _ _ h => h) (Or.inl ⟨by rfl, ?_⟩) ?_ ?_
        rotate_left
        ·intro w'
         go_simp
         with_reducible rfl
        rotate_left
        ·simp only [Act.put, sq1, sq2, sq3, i64_w, i32_w]
         rfl
        refine pure_ (i := 6) (N := some 23) (v := ?_) (a' := ?_) bq14 rfl rfl (qw HT_.out (by kernel_rfl)) (fun _ _ _ h => h) (Or.inl ⟨by rfl, ?_⟩) ?_ ?_
        rotate_left
        ·intro w'
         go_simp
         with_reducible rfl
        rotate_left
        ·simp only [Act.put, sq1, sq2, sq3, i64_w, i32_w]
         rfl
        refine take_ (i := 3) (N := some 20) (v := ?_) (a' := ?_) bq22 rfl rfl (take_ofW HT_.out HW_.out (by kernel_rfl)) (fun _ _ _ h => h) (Or.inl ⟨by rfl, ?_⟩) hHeld ?_ ?_
        rotate_left
        ·rintro w' ⟨s0, s1, s2, s3, s4, s5, s6, s7⟩
         go_simp
         with_reducible rfl
        rotate_left
        ·simp only [Act.put, sq1, sq2, sq3, i64_w, i32_w]
         rfl
        refine take_ (i := 7) (N := some 24) (v := ?_) (a' := ?_) bq25 rfl rfl (take_ofW HT_.out HW_.out (by kernel_rfl)) (fun _ _ _ h => h) (Or.inl ⟨by rfl, ?_⟩) hHeld ?_ ?_
        rotate_left
        ·rintro w' ⟨s0, s1, s2, s3, s4, s5, s6, s7⟩
         go_simp
         with_reducible rfl
        rotate_left
        ·simp only [Act.put, sq1, sq2, sq3, i64_w, i32_w]
         rfl
        refine one_ (i := 8) (N := some 25) bq27 rfl rfl (one_of HT_.out (by kernel_rfl)) (by decide) (fun K hK => ?_)
        refine goes_ Try.func181 (by kernel_rfl) rfl #[.agg #[.int .i64 ((qi l0 x5_1).f0), .string ((qi l0 x5_1).f1), .string ((qi l0 x5_1).f2), .string ((qi l0 x5_1).f3)], .agg #[.int .i64 ((qi l1 x5_1).f0), .string ((qi l1 x5_1).f1), .string ((qi l1 x5_1).f2), .string ((qi l1 x5_1).f3)]] (by rfl) rfl rfl (by (try simp only [List.map_toArray, List.map_cons, List.map_nil]); first | done | rfl) ?_
        with_reducible refine (laws_eqDOp.calls ((qi l0 x5_1).f0) ((qi l0 x5_1).f1) ((qi l0 x5_1).f2) ((qi l0 x5_1).f3) ((qi l1 x5_1).f0) ((qi l1 x5_1).f1) ((qi l1 x5_1).f2) ((qi l1 x5_1).f3) true _ A7.out).mono ?_
        rintro e w10 ⟨rfl, hb⟩
        refine ⟨_, rfl, ?_⟩
        replace HB := Qz.mk (ql (by repeat (first | (with_reducible first | exact HB.out | apply qc | apply qa | apply qb) | exact HB.out)) hb)
        (try clear hb)
        refine hK.out _ _ ⟨((HB.out.cell (World.block_lt_of_cell? w _ hw101_0)).trans hw101_0), ((HB.out.cell (World.block_lt_of_cell? w _ hw101_1)).trans hw101_1), ((HB.out.cell (World.block_lt_of_cell? w _ hw101_2)).trans hw101_2), ((HB.out.cell (World.block_lt_of_cell? w _ hw101_3)).trans hw101_3), ((HB.out.cell (World.block_lt_of_cell? w _ hw102_0)).trans hw102_0), ((HB.out.cell (World.block_lt_of_cell? w _ hw102_1)).trans hw102_1), ((HB.out.cell (World.block_lt_of_cell? w _ hw102_2)).trans hw102_2), ((HB.out.cell (World.block_lt_of_cell? w _ hw102_3)).trans hw102_3)⟩ (fun hHeld => ?_)
        clear hK K
        refine norm_ (a' := ?_) ?_ ?_
        rotate_left
        ·show Act.put _ (some 25) _ = _
         simp only [Act.put, sq1, sq2, sq3, i64_w, i32_w]
         rfl
        refine pure_ (i := 9) (N := some 26) (v := ?_) (a' := ?_) bq30 rfl rfl (qw HT_.out (by kernel_rfl)) (fun _ _ _ h => h) (Or.inl ⟨by rfl, ?_⟩) ?_ ?_
        rotate_left
        ·intro w'
         go_simp
         with_reducible rfl
        rotate_left
        ·simp only [Act.put, sq1, sq2, sq3, i64_w, i32_w]
         rfl
        refine done_ (done_of HT_.out (by kernel_rfl)) ?_
        try go_wp2
        go_roundg k1
        case measure => have := HK1.out; omega
        case rel => exact ⟨(wrap64 (x5_1 + 1)), (by first | rfl | (simp; done) | (simp [*]; done)), H', ⟨by have := HK1.out; omega⟩, ⟨by repeat (first | (with_reducible first | exact HB.out | apply qc | apply qa | apply qb) | exact HB.out)⟩⟩
       ·replace c8 := Bool.eq_false_iff.mpr c8
        subst c8
        have H1 : (some false) = some r := by rw [if_neg (show ¬ (false = true) by decide)] at H; exact H
        clear H
        have H := H1
        clear H1
        obtain rfl := Option.some.inj H
        try go_wp2
        replace HB := Qz.mk (qb HB.out)
        have p101 : 0 ≤ (x5_1 : Int) := of_decide_eq_true yq108
        have q101 : x5_1 < (l0.length : Int) := of_decide_eq_true yq108
        obtain ⟨ad101, e101, hx101_0, hx101_1, hx101_2, hx101_3⟩ := at_T157 HR0.out x5_1 p101 q101
        have hw101_3 := hx101_3
        have hw101_2 := hx101_2
        have hw101_1 := hx101_1
        have hw101_0 := hx101_0
        cases e101
        replace hx101_0 := (HB.out.cell (World.block_lt_of_cell? w _ hx101_0)).trans hx101_0
        replace hx101_1 := (HB.out.cell (World.block_lt_of_cell? w _ hx101_1)).trans hx101_1
        replace hx101_2 := (HB.out.cell (World.block_lt_of_cell? w _ hx101_2)).trans hx101_2
        replace hx101_3 := (HB.out.cell (World.block_lt_of_cell? w _ hx101_3)).trans hx101_3
        replace p101 := eq_true p101
        replace q101 := eq_true q101
        have p102 : 0 ≤ (x5_1 : Int) := of_decide_eq_true yq108
        have q102 : x5_1 < (l1.length : Int) := of_decide_eq_true yq108
        obtain ⟨ad102, e102, hx102_0, hx102_1, hx102_2, hx102_3⟩ := at_T157 HR1.out x5_1 p102 q102
        have hw102_3 := hx102_3
        have hw102_2 := hx102_2
        have hw102_1 := hx102_1
        have hw102_0 := hx102_0
        cases e102
        replace hx102_0 := (HB.out.cell (World.block_lt_of_cell? w _ hx102_0)).trans hx102_0
        replace hx102_1 := (HB.out.cell (World.block_lt_of_cell? w _ hx102_1)).trans hx102_1
        replace hx102_2 := (HB.out.cell (World.block_lt_of_cell? w _ hx102_2)).trans hx102_2
        replace hx102_3 := (HB.out.cell (World.block_lt_of_cell? w _ hx102_3)).trans hx102_3
        replace p102 := eq_true p102
        replace q102 := eq_true q102
        refine start_ (n := 10) (S := fun w' => w'.cell? (ad101.add ((x5_1).toNat * 4)) = some (.int .i64 ((qi l0 x5_1).f0)) ∧ w'.cell? ⟨(ad101.add ((x5_1).toNat * 4)).block, (ad101.add ((x5_1).toNat * 4)).off + 1, none⟩ = some (.string ((qi l0 x5_1).f1)) ∧ w'.cell? ⟨(ad101.add ((x5_1).toNat * 4)).block, (ad101.add ((x5_1).toNat * 4)).off + 2, none⟩ = some (.string ((qi l0 x5_1).f2)) ∧ w'.cell? ⟨(ad101.add ((x5_1).toNat * 4)).block, (ad101.add ((x5_1).toNat * 4)).off + 3, none⟩ = some (.string ((qi l0 x5_1).f3)) ∧ w'.cell? (ad102.add ((x5_1).toNat * 4)) = some (.int .i64 ((qi l1 x5_1).f0)) ∧ w'.cell? ⟨(ad102.add ((x5_1).toNat * 4)).block, (ad102.add ((x5_1).toNat * 4)).off + 1, none⟩ = some (.string ((qi l1 x5_1).f1)) ∧ w'.cell? ⟨(ad102.add ((x5_1).toNat * 4)).block, (ad102.add ((x5_1).toNat * 4)).off + 2, none⟩ = some (.string ((qi l1 x5_1).f2)) ∧ w'.cell? ⟨(ad102.add ((x5_1).toNat * 4)).block, (ad102.add ((x5_1).toNat * 4)).off + 3, none⟩ = some (.string ((qi l1 x5_1).f3))) (ds := []) bq1 (by kernel_rfl) rfl rfl ⟨((HB.out.cell (World.block_lt_of_cell? w _ hw101_0)).trans hw101_0), ((HB.out.cell (World.block_lt_of_cell? w _ hw101_1)).trans hw101_1), ((HB.out.cell (World.block_lt_of_cell? w _ hw101_2)).trans hw101_2), ((HB.out.cell (World.block_lt_of_cell? w _ hw101_3)).trans hw101_3), ((HB.out.cell (World.block_lt_of_cell? w _ hw102_0)).trans hw102_0), ((HB.out.cell (World.block_lt_of_cell? w _ hw102_1)).trans hw102_1), ((HB.out.cell (World.block_lt_of_cell? w _ hw102_2)).trans hw102_2), ((HB.out.cell (World.block_lt_of_cell? w _ hw102_3)).trans hw102_3)⟩ (fun hHeld => ?_); refine with_tabW laws_eqDOpS.tab6 laws_eqDOpS.bits6 (fun HT_ HW_ => ?_)
        generalize wr.drew = w11 at HB hx101_0 hx101_1 hx101_2 hx101_3 hx102_0 hx102_1 hx102_2 hx102_3 hHeld ⊢
        refine pure_ (i := 0) (N := some 17) (v := ?_) (a' := ?_) bq4 rfl rfl (qw HT_.out (by kernel_rfl)) (fun _ _ _ h => h) (Or.inl ⟨by rfl, ?_⟩) ?_ ?_
        rotate_left
        ·intro w'
         go_simp
         with_reducible rfl
        rotate_left
        ·simp only [Act.put, sq1, sq2, sq3, i64_w, i32_w]
         rfl
        refine pure_ (i := 1) (N := some 18) (v := ?_) (a' := ?_) bq7 rfl rfl (qw HT_.out (by kernel_rfl)) (fun _ _ _ h => h) (Or.inl ⟨by rfl, ?_⟩) ?_ ?_
        rotate_left
        ·intro w'
         go_simp
         with_reducible rfl
        rotate_left
        ·simp only [Act.put, sq1, sq2, sq3, i64_w, i32_w]
         rfl
        refine pure_ (i := 2) (N := some 19) (v := ?_) (a' := ?_) bq10 rfl rfl (qw HT_.out (by kernel_rfl)) (fun _ _ _ h => h) (Or.inl ⟨by rfl, ?_⟩) ?_ ?_
        rotate_left
        ·intro w'
         go_simp
         with_reducible rfl
        rotate_left
        ·simp only [Act.put, sq1, sq2, sq3, i64_w, i32_w]
         rfl
        refine pure_ (i := 4) (N := some 21) (v := ?_) (a' := ?_) bq12 rfl rfl (qw HT_.out (by kernel_rfl)) (fun _ _ _ h => h) (Or.inl ⟨by rfl, ?_⟩) ?_ ?_
        rotate_left
        ·intro w'
         go_simp
         with_reducible rfl
        rotate_left
        ·simp only [Act.put, sq1, sq2, sq3, i64_w, i32_w]
         rfl
        refine pure_ (i := 5) (N := some 22) (v := ?_) (a' := ?_) bq13 rfl rfl (qw HT_.out (by kernel_rfl)) (fun _ _ _ h => h) (Or.inl ⟨by rfl, ?_⟩) ?_ ?_
        rotate_left
        ·intro w'
         go_simp
         with_reducible rfl
        rotate_left
        ·simp only [Act.put, sq1, sq2, sq3, i64_w, i32_w]
         rfl
        refine pure_ (i := 6) (N := some 23) (v := ?_) (a' := ?_) bq14 rfl rfl (qw HT_.out (by kernel_rfl)) (fun _ _ _ h => h) (Or.inl ⟨by rfl, ?_⟩) ?_ ?_
        rotate_left
        ·intro w'
         go_simp
         with_reducible rfl
        rotate_left
        ·simp only [Act.put, sq1, sq2, sq3, i64_w, i32_w]
         rfl
        refine take_ (i := 3) (N := some 20) (v := ?_) (a' := ?_) bq22 rfl rfl (take_ofW HT_.out HW_.out (by kernel_rfl)) (fun _ _ _ h => h) (Or.inl ⟨by rfl, ?_⟩) hHeld ?_ ?_
        rotate_left
        ·rintro w' ⟨s0, s1, s2, s3, s4, s5, s6, s7⟩
         go_simp
         with_reducible rfl
        rotate_left
        ·simp only [Act.put, sq1, sq2, sq3, i64_w, i32_w]
         rfl
        refine take_ (i := 7) (N := some 24) (v := ?_) (a' := ?_) bq25 rfl rfl (take_ofW HT_.out HW_.out (by kernel_rfl)) (fun _ _ _ h => h) (Or.inl ⟨by rfl, ?_⟩) hHeld ?_ ?_
        rotate_left
        ·rintro w' ⟨s0, s1, s2, s3, s4, s5, s6, s7⟩
         go_simp
         with_reducible rfl
        rotate_left
        ·simp only [Act.put, sq1, sq2, sq3, i64_w, i32_w]
         rfl
        refine one_ (i := 8) (N := some 25) bq27 rfl rfl (one_of HT_.out (by kernel_rfl)) (by decide) (fun K hK => ?_)
        refine goes_ Try.func181 (by kernel_rfl) rfl #[.agg #[.int .i64 ((qi l0 x5_1).f0), .string ((qi l0 x5_1).f1), .string ((qi l0 x5_1).f2), .string ((qi l0 x5_1).f3)], .agg #[.int .i64 ((qi l1 x5_1).f0), .string ((qi l1 x5_1).f1), .string ((qi l1 x5_1).f2), .string ((qi l1 x5_1).f3)]] (by rfl) rfl rfl (by (try simp only [List.map_toArray, List.map_cons, List.map_nil]); first | done | rfl) ?_
        with_reducible refine (laws_eqDOp.calls ((qi l0 x5_1).f0) ((qi l0 x5_1).f1) ((qi l0 x5_1).f2) ((qi l0 x5_1).f3) ((qi l1 x5_1).f0) ((qi l1 x5_1).f1) ((qi l1 x5_1).f2) ((qi l1 x5_1).f3) false _ A7.out).mono ?_
        rintro e w12 ⟨rfl, hb⟩
        refine ⟨_, rfl, ?_⟩
        replace HB := Qz.mk (ql (by repeat (first | (with_reducible first | exact HB.out | apply qc | apply qa | apply qb) | exact HB.out)) hb)
        (try clear hb)
        refine hK.out _ _ ⟨((HB.out.cell (World.block_lt_of_cell? w _ hw101_0)).trans hw101_0), ((HB.out.cell (World.block_lt_of_cell? w _ hw101_1)).trans hw101_1), ((HB.out.cell (World.block_lt_of_cell? w _ hw101_2)).trans hw101_2), ((HB.out.cell (World.block_lt_of_cell? w _ hw101_3)).trans hw101_3), ((HB.out.cell (World.block_lt_of_cell? w _ hw102_0)).trans hw102_0), ((HB.out.cell (World.block_lt_of_cell? w _ hw102_1)).trans hw102_1), ((HB.out.cell (World.block_lt_of_cell? w _ hw102_2)).trans hw102_2), ((HB.out.cell (World.block_lt_of_cell? w _ hw102_3)).trans hw102_3)⟩ (fun hHeld => ?_)
        clear hK K
        refine norm_ (a' := ?_) ?_ ?_
        rotate_left
        ·show Act.put _ (some 25) _ = _
         simp only [Act.put, sq1, sq2, sq3, i64_w, i32_w]
         rfl
        refine pure_ (i := 9) (N := some 26) (v := ?_) (a' := ?_) bq30 rfl rfl (qw HT_.out (by kernel_rfl)) (fun _ _ _ h => h) (Or.inl ⟨by rfl, ?_⟩) ?_ ?_
        rotate_left
        ·intro w'
         go_simp
         with_reducible rfl
        rotate_left
        ·simp only [Act.put, sq1, sq2, sq3, i64_w, i32_w]
         rfl
        refine done_ (done_of HT_.out (by kernel_rfl)) ?_
        try go_wp2
        go_ret
        exact ⟨by first | rfl | (simp [qn, qm] <;> rfl) | (simp [*, qn, qm] <;> rfl), by repeat (first | (with_reducible first | exact HB.out | apply qc | apply qa | apply qb) | exact HB.out)⟩
      ·rw [if_neg c6] at H
       exact absurd H (by simp)
     ·rw [if_neg c5] at H
      exact absurd H (by simp)
    ·rw [if_neg c4] at H
     have c4b0 : decide (x5_1 < (l0.length : Int)) = false := decide_eq_false c4
     clear c4
     obtain rfl := Option.some.inj H
     go_wp2
     go_ret
     exact ⟨by first | rfl | (simp [qn, qm] <;> rfl) | (simp [*, qn, qm] <;> rfl), by repeat (first | (with_reducible first | exact HB.out | apply qc | apply qa | apply qb) | exact HB.out)⟩
 ·rw [if_neg c3] at H
  have c3b0 : ((l0.length : Int) == (l1.length : Int)) = false := beq_eq_false_iff_ne.mpr c3
  have c3b1 : ((l0.length : Int) != (l1.length : Int)) = true := bne_iff_ne.mpr c3
  have c3b2 : (l0.length == l1.length) = false := by first | simpa using c3 | (simp at c3 ⊢; omega)
  obtain rfl := Option.some.inj H
  go_enter Try.func129, Try.ntmps129
  go_wp2
  go_ret
  exact ⟨by first | rfl | (simp [qn, qm] <;> rfl) | (simp [*, qn, qm] <;> rfl), by repeat (first | (with_reducible first | exact HB.out | apply qc | apply qa | apply qb) | exact HB.out)⟩
theorem yq109 {P : Prop} (h : P := by (with_reducible repeat (first | refine qh ?_ _ | refine qk ?_ | refine qg ?_ _)); exact BK101.out) : P := h
theorem yq110 {P : Prop} (h : P := by (try simp only [List.map_toArray, List.map_cons, List.map_nil]); first | done | rfl | (simp only [List.length_drop, List.length_take]; rfl) | (rw [IntWalk.u64_in _ (by omega)] <;> rfl)) : P := h
theorem yq111 {P : Prop} (h : P := by repeat (first | (with_reducible first | exact HB.out | apply qc | apply qa | apply qb | refine qf ?_ GE101.out | refine qf ?_ GE102.out) | exact HB.out)) : P := h
theorem yq112 {P : Prop} (h : P := by repeat (first | (with_reducible first | exact HB.out | apply qc | apply qa | apply qb | refine qf ?_ GE101.out) | exact HB.out)) : P := h
theorem yq113 {P : Prop} (h : P := by (with_reducible repeat (first | refine qh ?_ _ | refine qk ?_ | refine qg ?_ _)); exact BK102.out) : P := h
theorem yq114 {P : Prop} (h : P := by repeat (first | (with_reducible first | exact HB.out | apply qc | apply qa | apply qb) | exact HB.out)) : P := h
theorem yq115 {P : Prop} (h : P := by repeat (first | exact (Kd.C_below HR1_0.out HB.out) | (with_reducible refine Kd.C_alloc ?_ _) | (with_reducible refine Kd.C_drewN ?_ _) | (with_reducible refine Kd.C_drew ?_))) : P := h
theorem yq116 {P : Prop} (h : P := by repeat (first | exact (Kd.C_below HR0_0.out HB.out) | (with_reducible refine Kd.C_alloc ?_ _) | (with_reducible refine Kd.C_drewN ?_ _) | (with_reducible refine Kd.C_drew ?_))) : P := h
theorem yq117 {P : Prop} (h : P := by rw [hg]; exact Nat.ne_of_lt (blk_lt (g := gb101) (o := .cells #[.slice A0_0 l0_0.length c0_0, .slice A0_1 l0_1.length c0_1, .slice A0_2 l0_2.length c0_2] 85 (0, 0)) yq109)) : P := h
theorem yq118 {P : Prop} (h : P := by rw [hg]; exact Nat.ne_of_gt (blk_lt (g := gb101) (o := .cells #[.slice A0_0 l0_0.length c0_0, .slice A0_1 l0_1.length c0_1, .slice A0_2 l0_2.length c0_2] 85 (0, 0)) yq109)) : P := h
theorem yq119 {P : Prop} (h : P := by repeat (first | exact (Kd.C_below HR1_1.out HB.out) | (with_reducible refine Kd.C_alloc ?_ _) | (with_reducible refine Kd.C_drewN ?_ _) | (with_reducible refine Kd.C_drew ?_))) : P := h
theorem yq120 {P : Prop} (h : P := by repeat (first | exact (Kd.C_below HR0_1.out HB.out) | (with_reducible refine Kd.C_alloc ?_ _) | (with_reducible refine Kd.C_drewN ?_ _) | (with_reducible refine Kd.C_drew ?_))) : P := h
theorem yq121 {P : Prop} (h : P := by first | (go_simp; done) | (go_simp; rfl)) : P := h
theorem bkbf58 {w0 W W2 : World} {g : Nat} {o : Obj} (_ : Qz (w0.heap[g]? = some o)) (h : W.heap[g]? = some o) (hb : Below W.heap.size W W2) : Qz (W2.heap[g]? = some o) := Qz.mk (qq h hb)
def laws_eqDisk.f (k : Nat) (l0_0 : List (S170)) (l0_1 : List (S170)) (l0_2 : List (S157)) (l1_0 : List (S170)) (l1_1 : List (S170)) (l1_2 : List (S157)) : Option (Bool) := (laws_eqFileS.f k l0_0 l1_0).bind fun t103 => (if t103 = true then ((laws_eqFileS.f k l0_1 l1_1).bind fun t104 => (if t104 = true then ((laws_eqDOpS.f k l0_2 l1_2).bind fun t105 => (if t105 = true then (some true) else (some false))) else (some false))) else (some false))
set_option maxHeartbeats 8000000 in
set_option maxRecDepth 100000 in
theorem laws_eqDisk.calls (k : Nat) (A0_0 : Option Addr) (c0_0 : Nat) (l0_0 : List (S170)) (A0_1 : Option Addr) (c0_1 : Nat) (l0_1 : List (S170)) (A0_2 : Option Addr) (c0_2 : Nat) (l0_2 : List (S157)) (A1_0 : Option Addr) (c1_0 : Nat) (l1_0 : List (S170)) (A1_1 : Option Addr) (c1_1 : Nat) (l1_1 : List (S170)) (A1_2 : Option Addr) (c1_2 : Nat) (l1_2 : List (S157)) (r : Bool) (w : World) (hr0_0 : Kd.C k170 w A0_0 l0_0.length l0_0) (hc0_0 : l0_0.length ≤ c0_0) (hr0_1 : Kd.C k170 w A0_1 l0_1.length l0_1) (hc0_1 : l0_1.length ≤ c0_1) (hr0_2 : Kd.C k157 w A0_2 l0_2.length l0_2) (hc0_2 : l0_2.length ≤ c0_2) (hr1_0 : Kd.C k170 w A1_0 l1_0.length l1_0) (hc1_0 : l1_0.length ≤ c1_0) (hr1_1 : Kd.C k170 w A1_1 l1_1.length l1_1) (hc1_1 : l1_1.length ≤ c1_1) (hr1_2 : Kd.C k157 w A1_2 l1_2.length l1_2) (hc1_2 : l1_2.length ≤ c1_2) (h : laws_eqDisk.f k l0_0 l0_1 l0_2 l1_0 l1_1 l1_2 = some r) :
  Calls Try.prog 58 #[.agg #[.slice A0_0 l0_0.length c0_0, .slice A0_1 l0_1.length c0_1, .slice A0_2 l0_2.length c0_2], .agg #[.slice A1_0 l1_0.length c1_0, .slice A1_1 l1_1.length c1_1, .slice A1_2 l1_2.length c1_2]] w fun e w' => e = .returned (.bool r) ∧ Below w.heap.size w w' := by
 have hu85 := Try.underlying85
 have HR0_0 := Qz.mk hr0_0
 have HC0_0 := Qz.mk hc0_0
 clear hr0_0 hc0_0
 have HR0_1 := Qz.mk hr0_1
 have HC0_1 := Qz.mk hc0_1
 clear hr0_1 hc0_1
 have HR0_2 := Qz.mk hr0_2
 have HC0_2 := Qz.mk hc0_2
 clear hr0_2 hc0_2
 have HR1_0 := Qz.mk hr1_0
 have HC1_0 := Qz.mk hc1_0
 clear hr1_0 hc1_0
 have HR1_1 := Qz.mk hr1_1
 have HC1_1 := Qz.mk hc1_1
 clear hr1_1 hc1_1
 have HR1_2 := Qz.mk hr1_2
 have HC1_2 := Qz.mk hc1_2
 clear hr1_2 hc1_2
 have HB := Qz.mk (Below.refl w.heap.size w)
 have H : ((laws_eqFileS.f k l0_0 l1_0).bind fun t103 => (if t103 = true then ((laws_eqFileS.f k l0_1 l1_1).bind fun t104 => (if t104 = true then ((laws_eqDOpS.f k l0_2 l1_2).bind fun t105 => (if t105 = true then (some true) else (some false))) else (some false))) else (some false))) = some r := h
 clear h
 replace H := Option.bind_eq_some_iff.mp H
 obtain ⟨t103, A30, H⟩ := H
 replace H : (if t103 = true then ((laws_eqFileS.f k l0_1 l1_1).bind fun t104 => (if t104 = true then ((laws_eqDOpS.f k l0_2 l1_2).bind fun t105 => (if t105 = true then (some true) else (some false))) else (some false))) else (some false)) = some r := H
 have A3 := Qz.mk A30
 clear A30
 by_cases c4 : t103 = true
 ·subst c4
  have H1 : ((laws_eqFileS.f k l0_1 l1_1).bind fun t104 => (if t104 = true then ((laws_eqDOpS.f k l0_2 l1_2).bind fun t105 => (if t105 = true then (some true) else (some false))) else (some false))) = some r := by rw [if_pos rfl] at H; exact H
  clear H
  have H := H1
  clear H1
  replace H := Option.bind_eq_some_iff.mp H
  obtain ⟨t104, A50, H⟩ := H
  replace H : (if t104 = true then ((laws_eqDOpS.f k l0_2 l1_2).bind fun t105 => (if t105 = true then (some true) else (some false))) else (some false)) = some r := H
  have A5 := Qz.mk A50
  clear A50
  by_cases c6 : t104 = true
  ·subst c6
   have H1 : ((laws_eqDOpS.f k l0_2 l1_2).bind fun t105 => (if t105 = true then (some true) else (some false))) = some r := by rw [if_pos rfl] at H; exact H
   clear H
   have H := H1
   clear H1
   replace H := Option.bind_eq_some_iff.mp H
   obtain ⟨t105, A70, H⟩ := H
   replace H : (if t105 = true then (some true) else (some false)) = some r := H
   have A7 := Qz.mk A70
   clear A70
   by_cases c8 : t105 = true
   ·subst c8
    have H1 : (some true) = some r := by rw [if_pos rfl] at H; exact H
    clear H
    have H := H1
    clear H1
    obtain rfl := Option.some.inj H
    go_enter Try.func58, Try.ntmps58
    go_wp2_with (first | ((with_reducible refine qt (N := 2) rfl ?_); refine qr ?hg (N := 2) ?hd (cs := #[.slice A0_0 l0_0.length c0_0, .slice A0_1 l0_1.length c0_1, .slice A0_2 l0_2.length c0_2]) (t := 85) ?hr ?_; (case hd => rfl); (case hg => rfl); (case hr => exact yq121); intro gb101 hg w9 hbox hb; have BK101 := Qz.mk (hbox); have GW101 := Qz.mk ((by rw [hg]; exact (qo yq114) : w.heap.size ≤ gb101)); have GE101 := GW101; replace HB := Qz.mk (ql yq114 hb); clear hb hbox hg) | ((with_reducible refine qt (N := 3) rfl ?_); refine qr ?hg (N := 3) ?hd (cs := #[.slice A1_0 l1_0.length c1_0, .slice A1_1 l1_1.length c1_1, .slice A1_2 l1_2.length c1_2]) (t := 85) ?hr ?_; (case hd => rfl); (case hg => rfl); (case hr => exact yq121); intro gb102 hg w10 hbox hb; have BK102 := Qz.mk (hbox); have GW102 := Qz.mk ((by rw [hg]; exact (qo yq112) : w.heap.size ≤ gb102)); have GE102 := GW102; replace HB := Qz.mk (ql yq112 hb); have NB101_102 := Qz.mk ((yq117 : gb101 ≠ gb102)); have NB102_101 := Qz.mk ((yq118 : gb102 ≠ gb101)); replace BK101 := bkbf58 BK101 yq109 hb; clear hb hbox hg; have hnb11 := NB101_102.out; have hnc11 := NB102_101.out; have hcz12_0 := (qd BK101.out 0).trans rfl; have hcz12_1 := (qd BK101.out 1).trans rfl; have hcz12_2 := (qd BK101.out 2).trans rfl; have hfz12_0 := qe BK101.out 0; have hfz12_1 := qe BK101.out 1; have hfz12_2 := qe BK101.out 2; have hcz13_0 := (qd BK102.out 0).trans rfl; have hcz13_1 := (qd BK102.out 1).trans rfl; have hcz13_2 := (qd BK102.out 2).trans rfl; have hfz13_0 := qe BK102.out 0; have hfz13_1 := qe BK102.out 1; have hfz13_2 := qe BK102.out 2) | ((with_reducible refine qp (f := 128) rfl ?_); refine qc1 (some 9) rfl rfl Try.func128 (by kernel_rfl) rfl #[.slice A0_0 l0_0.length c0_0, .slice A1_0 l1_0.length c1_0] rfl yq110 ?_; (with_reducible refine (laws_eqFileS.calls k _ _ l0_0 _ _ l1_0 true _ ?side1 ?side2 ?side3 ?side4 A3.out).mono ?_); (case side1 => exact yq116); (case side2 => exact HC0_0.out); (case side3 => exact yq115); (case side4 => exact HC1_0.out); rintro e w14 ⟨rfl, hb⟩; refine ⟨_, rfl, ?_⟩; replace BK101 := bkbf58 BK101 yq109 hb; replace BK102 := bkbf58 BK102 yq113 hb; replace HB := Qz.mk (ql yq111 hb); (try clear hb); have hcz15_0 := (qd BK101.out 0).trans rfl; have hcz15_1 := (qd BK101.out 1).trans rfl; have hcz15_2 := (qd BK101.out 2).trans rfl; have hfz15_0 := qe BK101.out 0; have hfz15_1 := qe BK101.out 1; have hfz15_2 := qe BK101.out 2; have hcz16_0 := (qd BK102.out 0).trans rfl; have hcz16_1 := (qd BK102.out 1).trans rfl; have hcz16_2 := (qd BK102.out 2).trans rfl; have hfz16_0 := qe BK102.out 0; have hfz16_1 := qe BK102.out 1; have hfz16_2 := qe BK102.out 2) | ((with_reducible refine qp (f := 128) rfl ?_); refine qc1 (some 15) rfl rfl Try.func128 (by kernel_rfl) rfl #[.slice A0_1 l0_1.length c0_1, .slice A1_1 l1_1.length c1_1] rfl yq110 ?_; (with_reducible refine (laws_eqFileS.calls k _ _ l0_1 _ _ l1_1 true _ ?side1 ?side2 ?side3 ?side4 A5.out).mono ?_); (case side1 => exact yq120); (case side2 => exact HC0_1.out); (case side3 => exact yq119); (case side4 => exact HC1_1.out); rintro e w17 ⟨rfl, hb⟩; refine ⟨_, rfl, ?_⟩; replace BK101 := bkbf58 BK101 yq109 hb; replace BK102 := bkbf58 BK102 yq113 hb; replace HB := Qz.mk (ql yq111 hb); (try clear hb); have hcz18_0 := (qd BK101.out 0).trans rfl; have hcz18_1 := (qd BK101.out 1).trans rfl; have hcz18_2 := (qd BK101.out 2).trans rfl; have hfz18_0 := qe BK101.out 0; have hfz18_1 := qe BK101.out 1; have hfz18_2 := qe BK101.out 2; have hcz19_0 := (qd BK102.out 0).trans rfl; have hcz19_1 := (qd BK102.out 1).trans rfl; have hcz19_2 := (qd BK102.out 2).trans rfl; have hfz19_0 := qe BK102.out 0; have hfz19_1 := qe BK102.out 1; have hfz19_2 := qe BK102.out 2) | ((with_reducible refine qp (f := 129) rfl ?_); refine qc1 (some 21) rfl rfl Try.func129 (by kernel_rfl) rfl #[.slice A0_2 l0_2.length c0_2, .slice A1_2 l1_2.length c1_2] rfl yq110 ?_; (with_reducible refine (laws_eqDOpS.calls k _ _ l0_2 _ _ l1_2 true _ ?side1 ?side2 ?side3 ?side4 A7.out).mono ?_); (case side1 => repeat (first | exact (Kd.C_below HR0_2.out HB.out) | (with_reducible refine Kd.C_alloc ?_ _) | (with_reducible refine Kd.C_drewN ?_ _) | (with_reducible refine Kd.C_drew ?_))); (case side2 => exact HC0_2.out); (case side3 => repeat (first | exact (Kd.C_below HR1_2.out HB.out) | (with_reducible refine Kd.C_alloc ?_ _) | (with_reducible refine Kd.C_drewN ?_ _) | (with_reducible refine Kd.C_drew ?_))); (case side4 => exact HC1_2.out); rintro e w20 ⟨rfl, hb⟩; refine ⟨_, rfl, ?_⟩; replace BK101 := bkbf58 BK101 yq109 hb; replace BK102 := bkbf58 BK102 yq113 hb; replace HB := Qz.mk (ql yq111 hb); (try clear hb)))
    go_ret
    exact ⟨by first | rfl | (simp [qn, qm] <;> rfl) | (simp [*, qn, qm] <;> rfl), by repeat (first | (with_reducible first | exact HB.out | apply qc | apply qa | apply qb | refine qf ?_ GE101.out | refine qf ?_ GE102.out) | exact HB.out)⟩
   ·replace c8 := Bool.eq_false_iff.mpr c8
    subst c8
    have H1 : (some false) = some r := by rw [if_neg (show ¬ (false = true) by decide)] at H; exact H
    clear H
    have H := H1
    clear H1
    obtain rfl := Option.some.inj H
    go_enter Try.func58, Try.ntmps58
    go_wp2_with (first | ((with_reducible refine qt (N := 2) rfl ?_); refine qr ?hg (N := 2) ?hd (cs := #[.slice A0_0 l0_0.length c0_0, .slice A0_1 l0_1.length c0_1, .slice A0_2 l0_2.length c0_2]) (t := 85) ?hr ?_; (case hd => rfl); (case hg => rfl); (case hr => exact yq121); intro gb101 hg w21 hbox hb; have BK101 := Qz.mk (hbox); have GW101 := Qz.mk ((by rw [hg]; exact (qo yq114) : w.heap.size ≤ gb101)); have GE101 := GW101; replace HB := Qz.mk (ql yq114 hb); clear hb hbox hg) | ((with_reducible refine qt (N := 3) rfl ?_); refine qr ?hg (N := 3) ?hd (cs := #[.slice A1_0 l1_0.length c1_0, .slice A1_1 l1_1.length c1_1, .slice A1_2 l1_2.length c1_2]) (t := 85) ?hr ?_; (case hd => rfl); (case hg => rfl); (case hr => exact yq121); intro gb102 hg w22 hbox hb; have BK102 := Qz.mk (hbox); have GW102 := Qz.mk ((by rw [hg]; exact (qo yq112) : w.heap.size ≤ gb102)); have GE102 := GW102; replace HB := Qz.mk (ql yq112 hb); have NB101_102 := Qz.mk ((yq117 : gb101 ≠ gb102)); have NB102_101 := Qz.mk ((yq118 : gb102 ≠ gb101)); replace BK101 := bkbf58 BK101 yq109 hb; clear hb hbox hg; have hnb23 := NB101_102.out; have hnc23 := NB102_101.out; have hcz24_0 := (qd BK101.out 0).trans rfl; have hcz24_1 := (qd BK101.out 1).trans rfl; have hcz24_2 := (qd BK101.out 2).trans rfl; have hfz24_0 := qe BK101.out 0; have hfz24_1 := qe BK101.out 1; have hfz24_2 := qe BK101.out 2; have hcz25_0 := (qd BK102.out 0).trans rfl; have hcz25_1 := (qd BK102.out 1).trans rfl; have hcz25_2 := (qd BK102.out 2).trans rfl; have hfz25_0 := qe BK102.out 0; have hfz25_1 := qe BK102.out 1; have hfz25_2 := qe BK102.out 2) | ((with_reducible refine qp (f := 128) rfl ?_); refine qc1 (some 9) rfl rfl Try.func128 (by kernel_rfl) rfl #[.slice A0_0 l0_0.length c0_0, .slice A1_0 l1_0.length c1_0] rfl yq110 ?_; (with_reducible refine (laws_eqFileS.calls k _ _ l0_0 _ _ l1_0 true _ ?side1 ?side2 ?side3 ?side4 A3.out).mono ?_); (case side1 => exact yq116); (case side2 => exact HC0_0.out); (case side3 => exact yq115); (case side4 => exact HC1_0.out); rintro e w26 ⟨rfl, hb⟩; refine ⟨_, rfl, ?_⟩; replace BK101 := bkbf58 BK101 yq109 hb; replace BK102 := bkbf58 BK102 yq113 hb; replace HB := Qz.mk (ql yq111 hb); (try clear hb); have hcz27_0 := (qd BK101.out 0).trans rfl; have hcz27_1 := (qd BK101.out 1).trans rfl; have hcz27_2 := (qd BK101.out 2).trans rfl; have hfz27_0 := qe BK101.out 0; have hfz27_1 := qe BK101.out 1; have hfz27_2 := qe BK101.out 2; have hcz28_0 := (qd BK102.out 0).trans rfl; have hcz28_1 := (qd BK102.out 1).trans rfl; have hcz28_2 := (qd BK102.out 2).trans rfl; have hfz28_0 := qe BK102.out 0; have hfz28_1 := qe BK102.out 1; have hfz28_2 := qe BK102.out 2) | ((with_reducible refine qp (f := 128) rfl ?_); refine qc1 (some 15) rfl rfl Try.func128 (by kernel_rfl) rfl #[.slice A0_1 l0_1.length c0_1, .slice A1_1 l1_1.length c1_1] rfl yq110 ?_; (with_reducible refine (laws_eqFileS.calls k _ _ l0_1 _ _ l1_1 true _ ?side1 ?side2 ?side3 ?side4 A5.out).mono ?_); (case side1 => exact yq120); (case side2 => exact HC0_1.out); (case side3 => exact yq119); (case side4 => exact HC1_1.out); rintro e w29 ⟨rfl, hb⟩; refine ⟨_, rfl, ?_⟩; replace BK101 := bkbf58 BK101 yq109 hb; replace BK102 := bkbf58 BK102 yq113 hb; replace HB := Qz.mk (ql yq111 hb); (try clear hb); have hcz30_0 := (qd BK101.out 0).trans rfl; have hcz30_1 := (qd BK101.out 1).trans rfl; have hcz30_2 := (qd BK101.out 2).trans rfl; have hfz30_0 := qe BK101.out 0; have hfz30_1 := qe BK101.out 1; have hfz30_2 := qe BK101.out 2; have hcz31_0 := (qd BK102.out 0).trans rfl; have hcz31_1 := (qd BK102.out 1).trans rfl; have hcz31_2 := (qd BK102.out 2).trans rfl; have hfz31_0 := qe BK102.out 0; have hfz31_1 := qe BK102.out 1; have hfz31_2 := qe BK102.out 2) | ((with_reducible refine qp (f := 129) rfl ?_); refine qc1 (some 21) rfl rfl Try.func129 (by kernel_rfl) rfl #[.slice A0_2 l0_2.length c0_2, .slice A1_2 l1_2.length c1_2] rfl yq110 ?_; (with_reducible refine (laws_eqDOpS.calls k _ _ l0_2 _ _ l1_2 false _ ?side1 ?side2 ?side3 ?side4 A7.out).mono ?_); (case side1 => repeat (first | exact (Kd.C_below HR0_2.out HB.out) | (with_reducible refine Kd.C_alloc ?_ _) | (with_reducible refine Kd.C_drewN ?_ _) | (with_reducible refine Kd.C_drew ?_))); (case side2 => exact HC0_2.out); (case side3 => repeat (first | exact (Kd.C_below HR1_2.out HB.out) | (with_reducible refine Kd.C_alloc ?_ _) | (with_reducible refine Kd.C_drewN ?_ _) | (with_reducible refine Kd.C_drew ?_))); (case side4 => exact HC1_2.out); rintro e w32 ⟨rfl, hb⟩; refine ⟨_, rfl, ?_⟩; replace BK101 := bkbf58 BK101 yq109 hb; replace BK102 := bkbf58 BK102 yq113 hb; replace HB := Qz.mk (ql yq111 hb); (try clear hb)))
    go_ret
    exact ⟨by first | rfl | (simp [qn, qm] <;> rfl) | (simp [*, qn, qm] <;> rfl), by repeat (first | (with_reducible first | exact HB.out | apply qc | apply qa | apply qb | refine qf ?_ GE101.out | refine qf ?_ GE102.out) | exact HB.out)⟩
  ·replace c6 := Bool.eq_false_iff.mpr c6
   subst c6
   have H1 : (some false) = some r := by rw [if_neg (show ¬ (false = true) by decide)] at H; exact H
   clear H
   have H := H1
   clear H1
   obtain rfl := Option.some.inj H
   go_enter Try.func58, Try.ntmps58
   go_wp2_with (first | ((with_reducible refine qt (N := 2) rfl ?_); refine qr ?hg (N := 2) ?hd (cs := #[.slice A0_0 l0_0.length c0_0, .slice A0_1 l0_1.length c0_1, .slice A0_2 l0_2.length c0_2]) (t := 85) ?hr ?_; (case hd => rfl); (case hg => rfl); (case hr => exact yq121); intro gb101 hg w33 hbox hb; have BK101 := Qz.mk (hbox); have GW101 := Qz.mk ((by rw [hg]; exact (qo yq114) : w.heap.size ≤ gb101)); have GE101 := GW101; replace HB := Qz.mk (ql yq114 hb); clear hb hbox hg) | ((with_reducible refine qt (N := 3) rfl ?_); refine qr ?hg (N := 3) ?hd (cs := #[.slice A1_0 l1_0.length c1_0, .slice A1_1 l1_1.length c1_1, .slice A1_2 l1_2.length c1_2]) (t := 85) ?hr ?_; (case hd => rfl); (case hg => rfl); (case hr => exact yq121); intro gb102 hg w34 hbox hb; have BK102 := Qz.mk (hbox); have GW102 := Qz.mk ((by rw [hg]; exact (qo yq112) : w.heap.size ≤ gb102)); have GE102 := GW102; replace HB := Qz.mk (ql yq112 hb); have NB101_102 := Qz.mk ((yq117 : gb101 ≠ gb102)); have NB102_101 := Qz.mk ((yq118 : gb102 ≠ gb101)); replace BK101 := bkbf58 BK101 yq109 hb; clear hb hbox hg; have hnb35 := NB101_102.out; have hnc35 := NB102_101.out; have hcz36_0 := (qd BK101.out 0).trans rfl; have hcz36_1 := (qd BK101.out 1).trans rfl; have hcz36_2 := (qd BK101.out 2).trans rfl; have hfz36_0 := qe BK101.out 0; have hfz36_1 := qe BK101.out 1; have hfz36_2 := qe BK101.out 2; have hcz37_0 := (qd BK102.out 0).trans rfl; have hcz37_1 := (qd BK102.out 1).trans rfl; have hcz37_2 := (qd BK102.out 2).trans rfl; have hfz37_0 := qe BK102.out 0; have hfz37_1 := qe BK102.out 1; have hfz37_2 := qe BK102.out 2) | ((with_reducible refine qp (f := 128) rfl ?_); refine qc1 (some 9) rfl rfl Try.func128 (by kernel_rfl) rfl #[.slice A0_0 l0_0.length c0_0, .slice A1_0 l1_0.length c1_0] rfl yq110 ?_; (with_reducible refine (laws_eqFileS.calls k _ _ l0_0 _ _ l1_0 true _ ?side1 ?side2 ?side3 ?side4 A3.out).mono ?_); (case side1 => exact yq116); (case side2 => exact HC0_0.out); (case side3 => exact yq115); (case side4 => exact HC1_0.out); rintro e w38 ⟨rfl, hb⟩; refine ⟨_, rfl, ?_⟩; replace BK101 := bkbf58 BK101 yq109 hb; replace BK102 := bkbf58 BK102 yq113 hb; replace HB := Qz.mk (ql yq111 hb); (try clear hb); have hcz39_0 := (qd BK101.out 0).trans rfl; have hcz39_1 := (qd BK101.out 1).trans rfl; have hcz39_2 := (qd BK101.out 2).trans rfl; have hfz39_0 := qe BK101.out 0; have hfz39_1 := qe BK101.out 1; have hfz39_2 := qe BK101.out 2; have hcz40_0 := (qd BK102.out 0).trans rfl; have hcz40_1 := (qd BK102.out 1).trans rfl; have hcz40_2 := (qd BK102.out 2).trans rfl; have hfz40_0 := qe BK102.out 0; have hfz40_1 := qe BK102.out 1; have hfz40_2 := qe BK102.out 2) | ((with_reducible refine qp (f := 128) rfl ?_); refine qc1 (some 15) rfl rfl Try.func128 (by kernel_rfl) rfl #[.slice A0_1 l0_1.length c0_1, .slice A1_1 l1_1.length c1_1] rfl yq110 ?_; (with_reducible refine (laws_eqFileS.calls k _ _ l0_1 _ _ l1_1 false _ ?side1 ?side2 ?side3 ?side4 A5.out).mono ?_); (case side1 => exact yq120); (case side2 => exact HC0_1.out); (case side3 => exact yq119); (case side4 => exact HC1_1.out); rintro e w41 ⟨rfl, hb⟩; refine ⟨_, rfl, ?_⟩; replace BK101 := bkbf58 BK101 yq109 hb; replace BK102 := bkbf58 BK102 yq113 hb; replace HB := Qz.mk (ql yq111 hb); (try clear hb)))
   go_ret
   exact ⟨by first | rfl | (simp [qn, qm] <;> rfl) | (simp [*, qn, qm] <;> rfl), by repeat (first | (with_reducible first | exact HB.out | apply qc | apply qa | apply qb | refine qf ?_ GE101.out | refine qf ?_ GE102.out) | exact HB.out)⟩
 ·replace c4 := Bool.eq_false_iff.mpr c4
  subst c4
  have H1 : (some false) = some r := by rw [if_neg (show ¬ (false = true) by decide)] at H; exact H
  clear H
  have H := H1
  clear H1
  obtain rfl := Option.some.inj H
  go_enter Try.func58, Try.ntmps58
  go_wp2_with (first | ((with_reducible refine qt (N := 2) rfl ?_); refine qr ?hg (N := 2) ?hd (cs := #[.slice A0_0 l0_0.length c0_0, .slice A0_1 l0_1.length c0_1, .slice A0_2 l0_2.length c0_2]) (t := 85) ?hr ?_; (case hd => rfl); (case hg => rfl); (case hr => exact yq121); intro gb101 hg w42 hbox hb; have BK101 := Qz.mk (hbox); have GW101 := Qz.mk ((by rw [hg]; exact (qo yq114) : w.heap.size ≤ gb101)); have GE101 := GW101; replace HB := Qz.mk (ql yq114 hb); clear hb hbox hg) | ((with_reducible refine qt (N := 3) rfl ?_); refine qr ?hg (N := 3) ?hd (cs := #[.slice A1_0 l1_0.length c1_0, .slice A1_1 l1_1.length c1_1, .slice A1_2 l1_2.length c1_2]) (t := 85) ?hr ?_; (case hd => rfl); (case hg => rfl); (case hr => exact yq121); intro gb102 hg w43 hbox hb; have BK102 := Qz.mk (hbox); have GW102 := Qz.mk ((by rw [hg]; exact (qo yq112) : w.heap.size ≤ gb102)); have GE102 := GW102; replace HB := Qz.mk (ql yq112 hb); have NB101_102 := Qz.mk ((yq117 : gb101 ≠ gb102)); have NB102_101 := Qz.mk ((yq118 : gb102 ≠ gb101)); replace BK101 := bkbf58 BK101 yq109 hb; clear hb hbox hg; have hnb44 := NB101_102.out; have hnc44 := NB102_101.out; have hcz45_0 := (qd BK101.out 0).trans rfl; have hcz45_1 := (qd BK101.out 1).trans rfl; have hcz45_2 := (qd BK101.out 2).trans rfl; have hfz45_0 := qe BK101.out 0; have hfz45_1 := qe BK101.out 1; have hfz45_2 := qe BK101.out 2; have hcz46_0 := (qd BK102.out 0).trans rfl; have hcz46_1 := (qd BK102.out 1).trans rfl; have hcz46_2 := (qd BK102.out 2).trans rfl; have hfz46_0 := qe BK102.out 0; have hfz46_1 := qe BK102.out 1; have hfz46_2 := qe BK102.out 2) | ((with_reducible refine qp (f := 128) rfl ?_); refine qc1 (some 9) rfl rfl Try.func128 (by kernel_rfl) rfl #[.slice A0_0 l0_0.length c0_0, .slice A1_0 l1_0.length c1_0] rfl yq110 ?_; (with_reducible refine (laws_eqFileS.calls k _ _ l0_0 _ _ l1_0 false _ ?side1 ?side2 ?side3 ?side4 A3.out).mono ?_); (case side1 => exact yq116); (case side2 => exact HC0_0.out); (case side3 => exact yq115); (case side4 => exact HC1_0.out); rintro e w47 ⟨rfl, hb⟩; refine ⟨_, rfl, ?_⟩; replace BK101 := bkbf58 BK101 yq109 hb; replace BK102 := bkbf58 BK102 yq113 hb; replace HB := Qz.mk (ql yq111 hb); (try clear hb)))
  go_ret
  exact ⟨by first | rfl | (simp [qn, qm] <;> rfl) | (simp [*, qn, qm] <;> rfl), by repeat (first | (with_reducible first | exact HB.out | apply qc | apply qa | apply qb | refine qf ?_ GE101.out | refine qf ?_ GE102.out) | exact HB.out)⟩
theorem yq122 {P : Prop} (h : P := by first | (with_reducible assumption) | assumption) : P := h
def laws_eqInt64S.l0 : Nat → List Int → List Int → Int → Option (Bool)
 | 0, _, _, _ => none
 | k + 1, x0, x1, x5 => if x5 < (x0.length : Int) then (if 0 ≤ x5 then (if x5 < (x1.length : Int) then (if (rd x0 x5) = (rd x1 x5) then (laws_eqInt64S.l0 k x0 x1 (wrap64 (x5 + 1))) else (some false)) else (none)) else (none)) else (some true)
def laws_eqInt64S.f (k : Nat) (l0 : List Int) (l1 : List Int) : Option (Bool) := if (l0.length : Int) = (l1.length : Int) then (laws_eqInt64S.l0 k l0 l1 0) else (some false)
set_option maxHeartbeats 8000000 in
set_option maxRecDepth 100000 in
theorem laws_eqInt64S.calls (k : Nat) (A0 : Option Addr) (c0 : Nat) (l0 : List Int) (A1 : Option Addr) (c1 : Nat) (l1 : List Int) (r : Bool) (w : World) (hr0 : Kd.C (Kd.int .i64) w A0 l0.length l0) (hc0 : l0.length ≤ c0) (hr1 : Kd.C (Kd.int .i64) w A1 l1.length l1) (hc1 : l1.length ≤ c1) (h : laws_eqInt64S.f k l0 l1 = some r) :
  Calls Try.prog 59 #[.slice A0 l0.length c0, .slice A1 l1.length c1] w fun e w' => e = .returned (.bool r) ∧ Drawn0 w w' := by
 have HR0 := Qz.mk hr0
 have HC0 := Qz.mk hc0
 clear hr0 hc0
 have HR1 := Qz.mk hr1
 have HC1 := Qz.mk hc1
 clear hr1 hc1
 have H : (if (l0.length : Int) = (l1.length : Int) then (laws_eqInt64S.l0 k l0 l1 0) else (some false)) = some r := h
 clear h
 by_cases c3 : (l0.length : Int) = (l1.length : Int)
 ·rw [if_pos c3] at H
  have c3b0 : ((l0.length : Int) == (l1.length : Int)) = true := beq_iff_eq.mpr c3
  have c3b1 : ((l0.length : Int) != (l1.length : Int)) = false := bne_eq_false_iff_eq.mpr c3
  have c3b2 : (l0.length == l1.length) = true := by first | simpa using c3 | (simp at c3 ⊢; omega)
  clear c3
  have H' := Qz.mk H
  clear H
  go_enter Try.func59, Try.ntmps59
  go_wp2
  repeat (go_quiet (fail); try go_wp2)
  go_loopg [5] k (fun kq v5 w' => ∃ (x5_1 : Int), v5 = .int .i64 x5_1 ∧ Qz (laws_eqInt64S.l0 kq l0 l1 x5_1 = some r) ∧ Qz (kq ≤ k) ∧ Drawn0 w w')
  case atStart => exact ⟨(0), (by first | rfl | (simp; done) | (simp [*]; done)), H', ⟨Nat.le_refl _⟩, by repeat (first | exact Drawn0.refl _ | apply Drawn0.step)⟩
  case round =>
   clear H'
   (try clear c1);(try clear p2);(try clear c3);(try clear c3b0);(try clear c3b1);(try clear c3b2)
   obtain ⟨x5_1, rfl, HA, HK1, ⟨m1, rfl⟩⟩ := hrel
   cases gk with
   | zero => exact absurd HA.out (by simp [laws_eqInt64S.l0])
   | succ k1 =>
    have H := HA.out
    clear HA
    simp only [laws_eqInt64S.l0] at H
    by_cases c4 : x5_1 < (l0.length : Int)
    ·rw [if_pos c4] at H
     have c4b0 : decide (x5_1 < (l0.length : Int)) = true := decide_eq_true c4
     clear c4
     by_cases c5 : 0 ≤ x5_1
     ·rw [if_pos c5] at H
      have c5b0 : decide (0 ≤ x5_1) = true := decide_eq_true c5
      clear c5
      by_cases c6 : x5_1 < (l1.length : Int)
      ·rw [if_pos c6] at H
       have c6b0 : decide (x5_1 < (l1.length : Int)) = true := decide_eq_true c6
       clear c6
       by_cases c7 : (rd l0 x5_1) = (rd l1 x5_1)
       ·rw [if_pos c7] at H
        have c7b0 : ((rd l0 x5_1) == (rd l1 x5_1)) = true := beq_iff_eq.mpr c7
        have c7b1 : ((rd l0 x5_1) != (rd l1 x5_1)) = false := bne_eq_false_iff_eq.mpr c7
        clear c7
        have H' := Qz.mk H
        clear H
        have p101 : 0 ≤ (x5_1 : Int) := of_decide_eq_true yq122
        have q101 : x5_1 < (l0.length : Int) := of_decide_eq_true yq122
        obtain ⟨ad101, e101, hx101_0⟩ := Kd.at_int HR0.out x5_1 p101 q101
        cases e101
        replace p101 := eq_true p101
        replace q101 := eq_true q101
        have p102 : 0 ≤ (x5_1 : Int) := of_decide_eq_true yq122
        have q102 : x5_1 < (l1.length : Int) := of_decide_eq_true yq122
        obtain ⟨ad102, e102, hx102_0⟩ := Kd.at_int HR1.out x5_1 p102 q102
        cases e102
        replace p102 := eq_true p102
        replace q102 := eq_true q102
        go_wp2
        repeat (go_quiet (fail); try go_wp2)
        go_roundg k1
        case measure => have := HK1.out; omega
        case rel => exact ⟨(wrap64 (x5_1 + 1)), (by first | rfl | (simp; done) | (simp [*]; done)), H', ⟨by have := HK1.out; omega⟩, by repeat (first | exact Drawn0.refl _ | apply Drawn0.step)⟩
       ·rw [if_neg c7] at H
        have c7b0 : ((rd l0 x5_1) == (rd l1 x5_1)) = false := beq_eq_false_iff_ne.mpr c7
        have c7b1 : ((rd l0 x5_1) != (rd l1 x5_1)) = true := bne_iff_ne.mpr c7
        obtain rfl := Option.some.inj H
        have p101 : 0 ≤ (x5_1 : Int) := of_decide_eq_true yq122
        have q101 : x5_1 < (l0.length : Int) := of_decide_eq_true yq122
        obtain ⟨ad101, e101, hx101_0⟩ := Kd.at_int HR0.out x5_1 p101 q101
        cases e101
        replace p101 := eq_true p101
        replace q101 := eq_true q101
        have p102 : 0 ≤ (x5_1 : Int) := of_decide_eq_true yq122
        have q102 : x5_1 < (l1.length : Int) := of_decide_eq_true yq122
        obtain ⟨ad102, e102, hx102_0⟩ := Kd.at_int HR1.out x5_1 p102 q102
        cases e102
        replace p102 := eq_true p102
        replace q102 := eq_true q102
        go_wp2
        repeat (go_quiet (fail); try go_wp2)
        go_ret
        exact ⟨by first | rfl | (simp; done) | (simp [*]; done), by repeat (first | exact Drawn0.refl _ | apply Drawn0.step)⟩
      ·rw [if_neg c6] at H
       exact absurd H (by simp)
     ·rw [if_neg c5] at H
      exact absurd H (by simp)
    ·rw [if_neg c4] at H
     have c4b0 : decide (x5_1 < (l0.length : Int)) = false := decide_eq_false c4
     clear c4
     obtain rfl := Option.some.inj H
     go_wp2
     repeat (go_quiet (fail); try go_wp2)
     go_ret
     exact ⟨by first | rfl | (simp; done) | (simp [*]; done), by repeat (first | exact Drawn0.refl _ | apply Drawn0.step)⟩
 ·rw [if_neg c3] at H
  have c3b0 : ((l0.length : Int) == (l1.length : Int)) = false := beq_eq_false_iff_ne.mpr c3
  have c3b1 : ((l0.length : Int) != (l1.length : Int)) = true := bne_iff_ne.mpr c3
  have c3b2 : (l0.length == l1.length) = false := by first | simpa using c3 | (simp at c3 ⊢; omega)
  obtain rfl := Option.some.inj H
  go_enter Try.func59, Try.ntmps59
  go_wp2
  repeat (go_quiet (fail); try go_wp2)
  go_ret
  exact ⟨by first | rfl | (simp; done) | (simp [*]; done), by repeat (first | exact Drawn0.refl _ | apply Drawn0.step)⟩
def laws_markText.l0 : Nat → Int → ByteArray → Option (ByteArray)
 | 0, _, _ => none
 | k + 1, x0, x3 => if x0 > 0 then ((some (([(wrap64 (48 + (Int.tmod x0 10))) % 256] : List Int) : List Int)).bind fun y101 => (if (strOfNums y101).size + x3.size ≤ 9223372036854775807 then (laws_markText.l0 k (wrap64 (Int.tdiv x0 10)) ((strOfNums y101) ++ x3)) else (none))) else (if 1 + x3.size ≤ 9223372036854775807 then (some ((⟨#[109]⟩ : ByteArray) ++ x3)) else (none))
def laws_markText.f (k : Nat) (a0 : Int) : Option (ByteArray) := if a0 ≤ 0 then (some (⟨#[109, 48]⟩ : ByteArray)) else (laws_markText.l0 k a0 (⟨#[]⟩ : ByteArray))
set_option maxHeartbeats 8000000 in
set_option maxRecDepth 100000 in
theorem laws_markText.calls (k : Nat) (a0 : Int) (r : ByteArray) (w : World) (h : laws_markText.f k a0 = some r) :
  Calls Try.prog 89 #[.int .i64 a0] w fun e w' => e = .returned (.string r) ∧ Below w.heap.size w w' := by
 have HB := Qz.mk (Below.refl w.heap.size w)
 have H : (if a0 ≤ 0 then (some (⟨#[109, 48]⟩ : ByteArray)) else (laws_markText.l0 k a0 (⟨#[]⟩ : ByteArray))) = some r := h
 clear h
 by_cases c2 : a0 ≤ 0
 ·rw [if_pos c2] at H
  have c2b0 : decide (a0 ≤ 0) = true := decide_eq_true c2
  clear c2
  obtain rfl := Option.some.inj H
  go_enter Try.func89, Try.ntmps89
  go_wp2
  go_ret
  exact ⟨by first | rfl | (simp [qn, qm] <;> rfl) | (simp [*, qn, qm] <;> rfl), by repeat (first | (with_reducible first | exact HB.out | apply qc | apply qa | apply qb) | exact HB.out)⟩
 ·rw [if_neg c2] at H
  have c2b0 : decide (a0 ≤ 0) = false := decide_eq_false c2
  clear c2
  have H' := Qz.mk H
  clear H
  go_enter Try.func89, Try.ntmps89
  go_wp2
  go_loopg [0, 3] k (fun kq v0 v3 w' => ∃ (x0_1 : Int) (x3_1 : ByteArray), v0 = .int .i64 x0_1 ∧ v3 = .string x3_1 ∧ Qz (laws_markText.l0 kq x0_1 x3_1 = some r) ∧ Qz (kq ≤ k) ∧ Qz (Below w.heap.size w w'))
  case atStart => exact ⟨(a0), ((⟨#[]⟩ : ByteArray)), (by first | rfl | (simp; done) | (simp [*]; done)), (by first | rfl | (simp; done) | (simp [*]; done)), H', ⟨Nat.le_refl _⟩, ⟨by repeat (first | (with_reducible first | exact HB.out | apply qc | apply qa | apply qb) | exact HB.out)⟩⟩
  case round =>
   clear H'
   (try clear c2);(try clear c2b0);(try clear p2)
   obtain ⟨x0_1, x3_1, rfl, rfl, HA, HK1, HB⟩ := hrel
   cases gk with
   | zero => exact absurd HA.out (by simp [laws_markText.l0])
   | succ k1 =>
    have H := HA.out
    clear HA
    simp only [laws_markText.l0] at H
    by_cases c3 : x0_1 > 0
    ·rw [if_pos c3] at H
     have c3b0 : decide (0 < x0_1) = true := decide_eq_true c3
     clear c3
     obtain ⟨y101, hy101⟩ : ∃ y_ : List Int, y_ = (([(wrap64 (48 + (Int.tmod x0_1 10))) % 256] : List Int)) := ⟨_, rfl⟩
     replace H : (if (strOfNums y101).size + x3_1.size ≤ 9223372036854775807 then (laws_markText.l0 k1 (wrap64 (Int.tdiv x0_1 10)) ((strOfNums y101) ++ x3_1)) else (none)) = some r := by first | (rw [hy101]; with_reducible exact H) | (have H2_ := (Option.bind_some _ _).symm.trans H; rw [hy101]; with_reducible exact H2_) | (have H2_ := (Option.bind_some _ _).symm.trans H; with_reducible exact H2_) | with_reducible exact H | (rw [hy101]; exact H) | exact H
     have Ny101 := Qz.mk hy101
     clear hy101
     by_cases c4 : (strOfNums y101).size + x3_1.size ≤ 9223372036854775807
     ·rw [if_pos c4] at H
      have c4b0 := eq_true c4
      have c4b1 : decide ((strOfNums y101).size + x3_1.size ≤ 9223372036854775807) = true := decide_eq_true c4
      try have c4b2 : (9223372036854775807 < (strOfNums y101).size + x3_1.size) = False := eq_false (Nat.not_lt.2 c4)
      have H' := Qz.mk H
      clear H
      go_wp2_with (first | ((with_reducible refine qt (N := 12) rfl ?_); refine Kd.R_lit (Kd.int .u8) _ 5 ?hg (N := 12) ?hd (xs := ([(wrap64 (48 + (Int.tmod x0_1 10))) % 256] : List Int)) (inner := [.int .u8 ((wrap64 (48 + (Int.tmod x0_1 10))) % 256)]) (ok := fun _ => True) (okp := fun _ => True) ?hr ?hp (fun _ hk => hk) trivial (Below.refl _ _) (Nat.le_refl _) (by simp) ?_; (case hd => rfl); (case hg => rfl); (case hr => first | (go_simp; done) | (go_simp; rfl)); (case hp => exact (Reps.one (show Kd.M (Kd.int .u8) _ _ _ ((wrap64 (48 + (Int.tmod x0_1 10))) % 256) [.int .u8 ((wrap64 (48 + (Int.tmod x0_1 10))) % 256)] from rfl) (Reps.none _ _))); intro v102 w5 ho6 hb hg_ hnew_; clear hg_ hnew_; (first | rw [← Ny101.out] at ho6 | (simp only [Int.reduceToNat] at ho6; rw [← Ny101.out] at ho6)); have HO103 := Qz.mk (Kd.R_lower ho6 (qo (by repeat (first | (with_reducible first | exact HB.out | apply qc | apply qa | apply qb) | exact HB.out)))); replace HB := Qz.mk (ql (by repeat (first | (with_reducible first | exact HB.out | apply qc | apply qa | apply qb) | exact HB.out)) hb); clear hb ho6; have hcv7 := own_string (P := Try.prog) Try.underlying42 Try.underlying5 Try.underlying9 (Kd.own_of_R HO103.out)))
      go_roundg k1
      case measure => have := HK1.out; omega
      case rel => exact ⟨(wrap64 (Int.tdiv x0_1 10)), ((strOfNums y101) ++ x3_1), (by first | rfl | (simp; done) | (simp [*]; done)), (by first | rfl | (simp; done) | (simp [*]; done)), H', ⟨by have := HK1.out; omega⟩, ⟨by repeat (first | (with_reducible first | exact HB.out | apply qc | apply qa | apply qb) | exact HB.out)⟩⟩
     ·rw [if_neg c4] at H
      exact absurd H (by simp)
    ·rw [if_neg c3] at H
     have c3b0 : decide (0 < x0_1) = false := decide_eq_false c3
     clear c3
     by_cases c8 : 1 + x3_1.size ≤ 9223372036854775807
     ·rw [if_pos c8] at H
      have c8b0 := eq_true c8
      have c8b1 : decide (1 + x3_1.size ≤ 9223372036854775807) = true := decide_eq_true c8
      try have c8b2 : (9223372036854775807 < 1 + x3_1.size) = False := eq_false (Nat.not_lt.2 c8)
      obtain rfl := Option.some.inj H
      go_wp2
      go_ret
      exact ⟨by first | rfl | (simp [qn, qm] <;> rfl) | (simp [*, qn, qm] <;> rfl), by repeat (first | (with_reducible first | exact HB.out | apply qc | apply qa | apply qb) | exact HB.out)⟩
     ·rw [if_neg c8] at H
      exact absurd H (by simp)
theorem yq123 {P : Prop} (h : P := by first | (with_reducible assumption) | assumption) : P := h
theorem yq124 {P : Prop} (h : P := by repeat (first | (with_reducible first | exact HK.out | apply Kept.alloc | apply Kept.drewN | apply Kept.drew) | exact HK.out)) : P := h
theorem yq125 {P : Prop} (h : P := by (with_reducible repeat (first | apply Kd.R_alloc | apply Kd.R_drewN | apply Kd.R_drew)); exact HO_0.out) : P := h
def laws_markFileS.l0 : Nat → List (S170) → Int → Int → Option (Int × (List (S170)))
 | 0, _, _, _ => none
 | k + 1, x0, x1, x5 => if x5 < (x0.length : Int) then ((laws_markText.f k x1).bind fun t101 => (if 0 ≤ x5 then ((some (x0.set (x5 : Int).toNat (⟨t101, (qj x0 x5).f1⟩ : S170) : List (S170))).bind fun y102 => ((laws_markText.f k (wrap64 (x1 + 1))).bind fun t103 => (laws_markFileS.l0 k (y102.set (x5 : Int).toNat (⟨(qj y102 x5).f0, t103⟩ : S170)) (wrap64 ((wrap64 (x1 + 1)) + 1)) (wrap64 (x5 + 1))))) else (none))) else (some (x1, x0))
def laws_markFileS.f (k : Nat) (l0 : List (S170)) (a1 : Int) : Option (Int × (List (S170))) := laws_markFileS.l0 k l0 a1 0
set_option maxHeartbeats 8000000 in
set_option maxRecDepth 100000 in
theorem laws_markFileS.calls (k : Nat) (P0_ : Nat → Prop) (u9000_ : Value) (l0 : List (S170)) (a1 : Int) (r1 : Int) (r2 : List (S170)) (w0 w : World) (hB : Below w0.heap.size w0 w) (ho0 : Kd.R k170 170 w w0.heap.size P0_ u9000_ l0) (h : laws_markFileS.f k l0 a1 = some (r1, r2)) :
  Calls Try.prog 130 #[u9000_, .int .i64 a1] w fun e w' => e = .returned (.int .i64 r1) ∧ Kd.R k170 170 w' w0.heap.size (fun k_ => (P0_ k_ ∨ w.heap.size ≤ k_)) u9000_ r2 ∧ Below w0.heap.size w0 w' ∧ Kept w w' (fun k_ => P0_ k_) := by
 have HO0 := Qz.mk (show Kd.R k170 170 w w0.heap.size (fun k_ => (P0_ k_ ∨ w.heap.size ≤ k_)) u9000_ l0 from Kd.R_mono ho0 (fun k_ hk => (.inl hk)))
 have HK := Qz.mk (Kept.refl w (fun k_ => P0_ k_))
 have HW0 := Qz.mk hB.size
 have HB := Qz.mk hB
 clear hB
 have H : (laws_markFileS.l0 k l0 a1 0) = some (r1, r2) := h
 clear h
 have H' := Qz.mk H
 clear H
 go_enter Try.func130, Try.ntmps130
 go_wp2
 go_loopg [1, 5] k (fun kq v1 v5 w' => ∃ (x0_1 : List (S170)) (x1_1 : Int) (x5_1 : Int), v1 = .int .i64 x1_1 ∧ v5 = .int .i64 x5_1 ∧ Qz (laws_markFileS.l0 kq x0_1 x1_1 x5_1 = some (r1, r2)) ∧ Qz (kq ≤ k) ∧ Qz (Kd.R k170 170 w' w0.heap.size (fun k_ => (P0_ k_ ∨ w.heap.size ≤ k_)) u9000_ x0_1) ∧ Qz (Kept w w' (fun k_ => P0_ k_)) ∧ Qz (Below w0.heap.size w0 w'))
 case atStart => exact ⟨(l0), (a1), (0), (by first | rfl | (simp; done) | (simp [*]; done)), (by first | rfl | (simp; done) | (simp [*]; done)), H', ⟨Nat.le_refl _⟩, ⟨by (with_reducible repeat (first | apply Kd.R_alloc | apply Kd.R_drewN | apply Kd.R_drew)); exact HO0.out⟩, ⟨by repeat (first | (with_reducible first | exact HK.out | apply Kept.alloc | apply Kept.drewN | apply Kept.drew) | exact HK.out)⟩, ⟨by repeat (first | (with_reducible first | exact HB.out | apply qc | apply qa | apply qb) | exact HB.out)⟩⟩
 case round =>
  clear H'
  (try clear c1);(try clear p2)
  obtain ⟨x0_1, x1_1, x5_1, rfl, rfl, HA, HK1, HO_0, HK, HB⟩ := hrel
  cases gk with
  | zero => exact absurd HA.out (by simp [laws_markFileS.l0])
  | succ k1 =>
   have H := HA.out
   clear HA
   simp only [laws_markFileS.l0] at H
   by_cases c3 : x5_1 < (x0_1.length : Int)
   ·rw [if_pos c3] at H
    have c3b0 : decide (x5_1 < (x0_1.length : Int)) = true := decide_eq_true c3
    clear c3
    replace H := Option.bind_eq_some_iff.mp H
    obtain ⟨t101, A40, H⟩ := H
    replace H : (if 0 ≤ x5_1 then ((some (x0_1.set (x5_1 : Int).toNat (⟨t101, (qj x0_1 x5_1).f1⟩ : S170) : List (S170))).bind fun y102 => ((laws_markText.f k1 (wrap64 (x1_1 + 1))).bind fun t103 => (laws_markFileS.l0 k1 (y102.set (x5_1 : Int).toNat (⟨(qj y102 x5_1).f0, t103⟩ : S170)) (wrap64 ((wrap64 (x1_1 + 1)) + 1)) (wrap64 (x5_1 + 1))))) else (none)) = some (r1, r2) := H
    have A4 := Qz.mk A40
    clear A40
    by_cases c5 : 0 ≤ x5_1
    ·rw [if_pos c5] at H
     have c5b0 : decide (0 ≤ x5_1) = true := decide_eq_true c5
     clear c5
     obtain ⟨y102, hy102⟩ : ∃ y_ : List (S170), y_ = (x0_1.set (x5_1 : Int).toNat (⟨t101, (qj x0_1 x5_1).f1⟩ : S170)) := ⟨_, rfl⟩
     replace H : ((laws_markText.f k1 (wrap64 (x1_1 + 1))).bind fun t103 => (laws_markFileS.l0 k1 (y102.set (x5_1 : Int).toNat (⟨(qj y102 x5_1).f0, t103⟩ : S170)) (wrap64 ((wrap64 (x1_1 + 1)) + 1)) (wrap64 (x5_1 + 1)))) = some (r1, r2) := by first | (rw [hy102]; with_reducible exact H) | (have H2_ := (Option.bind_some _ _).symm.trans H; rw [hy102]; with_reducible exact H2_) | (have H2_ := (Option.bind_some _ _).symm.trans H; with_reducible exact H2_) | with_reducible exact H | (rw [hy102]; exact H) | exact H
     have Ny102 := Qz.mk hy102
     clear hy102
     replace H := Option.bind_eq_some_iff.mp H
     obtain ⟨t103, A70, H⟩ := H
     replace H : (laws_markFileS.l0 k1 (y102.set (x5_1 : Int).toNat (⟨(qj y102 x5_1).f0, t103⟩ : S170)) (wrap64 ((wrap64 (x1_1 + 1)) + 1)) (wrap64 (x5_1 + 1))) = some (r1, r2) := H
     have A7 := Qz.mk A70
     clear A70
     obtain ⟨y104, hy104⟩ : ∃ y_ : List (S170), y_ = (y102.set (x5_1 : Int).toNat (⟨(qj y102 x5_1).f0, t103⟩ : S170)) := ⟨_, rfl⟩
     replace H : (laws_markFileS.l0 k1 y104 (wrap64 ((wrap64 (x1_1 + 1)) + 1)) (wrap64 (x5_1 + 1))) = some (r1, r2) := by first | (rw [hy104]; with_reducible exact H) | (have H2_ := (Option.bind_some _ _).symm.trans H; rw [hy104]; with_reducible exact H2_) | (have H2_ := (Option.bind_some _ _).symm.trans H; with_reducible exact H2_) | with_reducible exact H | (rw [hy104]; exact H) | exact H
     have Ny104 := Qz.mk hy104
     clear hy104
     have H' := Qz.mk H
     clear H
     obtain ⟨Ao9, co9, eo9⟩ := Kd.R_slice HO_0.out
     subst eo9
     go_wp2_with (first | ((with_reducible refine qp (f := 89) rfl ?_); refine qc1 (some 15) rfl rfl Try.func89 (by kernel_rfl) rfl #[.int .i64 x1_1] rfl (by (try simp only [List.map_toArray, List.map_cons, List.map_nil]); first | done | rfl) ?_; (with_reducible refine (laws_markText.calls k1 x1_1 t101 _ A4.out).mono ?_); rintro e w10 ⟨rfl, hb⟩; refine ⟨_, rfl, ?_⟩; replace HO_0 := Qz.mk (Kd.R_below yq125 hb); replace HK := Qz.mk (Kept.below (S := (fun k_ => P0_ k_)) yq124 hb); replace HB := Qz.mk (ql (by repeat (first | (with_reducible first | exact HB.out | apply qc | apply qa | apply qb) | exact HB.out)) hb); (try clear hb); (try clear hk); have p6 : 0 ≤ (x5_1 : Int) := of_decide_eq_true yq123; have q6 : (x5_1 : Int) < ((x0_1.length : Int) : Int) := of_decide_eq_true yq123; obtain ⟨go6, co6, eo6, gb6, gl6, cl6, HG6⟩ := Kd.R_form HO_0.out (by omega); (first | cases eo6 | (injection eo6 with ea_ en_ ec_; (first | subst ea_ | (injection ea_ with ea_; subst ea_)); subst ec_; clear en_)); have GB6 := Qz.mk gb6; have GG6 := Qz.mk HG6; clear gb6 gl6 HG6; have HMgo6 := Qz.mk (show (P0_ go6 ∨ w.heap.size ≤ go6) from (HO_0.out.1 _ rfl)); obtain ⟨ce6, hcl6, hM6, hcc6, hfr6⟩ := Kd.R_elem HO_0.out z170 (x5_1 : Int) p6 q6; obtain rfl := k170_openM hM6; have hx6_0 : w10.cell? ⟨go6, (x5_1 : Int).toNat * 2, none⟩ = some (.string ((qj x0_1 x5_1).f0)) := hcc6 0 _ rfl; have hx6_1 : w10.cell? ⟨go6, (x5_1 : Int).toNat * 2 + 1, none⟩ = some (.string ((qj x0_1 x5_1).f1)) := hcc6 1 _ rfl; have hf6_0 : w10.frozen? ⟨go6, (x5_1 : Int).toNat * 2, none⟩ = false := hfr6 0; have hf6_1 : w10.frozen? ⟨go6, (x5_1 : Int).toNat * 2 + 1, none⟩ = false := hfr6 1; clear hcl6 hcc6 hfr6 hM6; replace p6 := eq_true p6; replace q6 := eq_true q6; have HX11 := Qz.mk (show Kd.R k170 170 w10 w0.heap.size (fun k_ => (P0_ k_ ∨ w.heap.size ≤ k_)) (.slice (some ⟨go6, 0, none⟩) x0_1.length co9) x0_1 from yq125); obtain ⟨ce11, hcl11, hM11, hcc11, hfr11⟩ := Kd.R_elem HX11.out z170 (x5_1 : Int) (of_decide_eq_true yq123) (by have h_ : (x5_1 : Int) < ((x0_1.length : Int) : Int) := of_decide_eq_true yq123; first | exact h_ | (have e_ := (Kd.R_reads' HO_0.out).1; omega) | simpa using h_); obtain rfl := k170_openM hM11; have HP11 := Kd.R_seg HX11.out (x5_1 : Int) (of_decide_eq_true yq123) (by have h_ : (x5_1 : Int) < ((x0_1.length : Int) : Int) := of_decide_eq_true yq123; first | exact h_ | (have e_ := (Kd.R_reads' HO_0.out).1; omega) | simpa using h_) (seg := [.string t101]) (j := 0) hcl11 hcc11 (show 1 ≤ 2 from by decide) (x' := (⟨t101, (qj x0_1 x5_1).f1⟩ : S170)) (k170_mkM _ _ _ (⟨t101, (qj x0_1 x5_1).f1⟩ : S170) ) (fun _ hk => hk); have hx11_0 := hcc11 0 _ rfl; (try simp only [show (k170).sz = 2 from rfl, Nat.mul_one, Nat.add_zero] at hx11_0); have hf11_0 := hfr11 0; (try simp only [show (k170).sz = 2 from rfl, Nat.mul_one, Nat.add_zero] at hf11_0); clear hcl11 hcc11 hfr11 hM11) | ((with_reducible refine gate_store (t := 9) (p := 17) rfl ?_); refine store_event (t := 9) (p := 17) (v := ?vo_w12) (w1 := (w10.setCell ⟨go6, (x5_1 : Int).toNat * 2, none⟩ (.string t101))) ?hg ?ho ?hn ?hr ?_; (case ho => rfl); (case hg => rfl); (case hn => rfl); (case hr => first | (go_simp; done) | (go_simp; rfl)); intro w12 hw; have hg : w10.grownBy w12 (some go6) := (by rw [hw]; exact HP11.2); have hp_ : Kd.R k170 170 w12 w0.heap.size (fun k_ => (P0_ k_ ∨ w.heap.size ≤ k_)) (.slice (some ⟨go6, 0, none⟩) x0_1.length co9) y102 := (by rw [hw, Ny102.out]; exact HP11.1); clear HP11; replace HB := Qz.mk ((by rw [hw]; exact qf (HB.out) GB6.out : Below w0.heap.size w0 w12)); replace HK := Qz.mk (Kept.of_grown (S := (fun k_ => P0_ k_)) hg yq124 (fun k_ e_ => (HO_0.out.1 k_ e_))); replace HO_0 := Qz.mk (hp_); clear hg hw hp_) | ((with_reducible refine qp (f := 89) rfl ?_); refine qc1 (some 23) rfl rfl Try.func89 (by kernel_rfl) rfl #[.int .i64 (wrap64 (x1_1 + 1))] rfl (by (try simp only [List.map_toArray, List.map_cons, List.map_nil]); first | done | rfl | (simp only [List.length_drop, List.length_take]; rfl) | (rw [IntWalk.u64_in _ (by omega)] <;> rfl)) ?_; (with_reducible refine (laws_markText.calls k1 (wrap64 (x1_1 + 1)) t103 _ A7.out).mono ?_); rintro e w13 ⟨rfl, hb⟩; refine ⟨_, rfl, ?_⟩; replace HO_0 := Qz.mk (Kd.R_below yq125 hb); replace HK := Qz.mk (Kept.below (S := (fun k_ => P0_ k_)) yq124 hb); replace HB := Qz.mk (ql (by repeat (first | (with_reducible first | exact HB.out | apply qc | apply qa | apply qb) | exact HB.out)) hb); (try clear hb); (try clear hk); have p8 : 0 ≤ (x5_1 : Int) := of_decide_eq_true yq123; have q8 : (x5_1 : Int) < ((x0_1.length : Int) : Int) := of_decide_eq_true yq123; obtain ⟨ce8, hcl8, hM8, hcc8, hfr8⟩ := Kd.R_elem HO_0.out z170 (x5_1 : Int) p8 q8; obtain rfl := k170_openM hM8; have hx8_0 : w13.cell? ⟨go6, (x5_1 : Int).toNat * 2, none⟩ = some (.string ((qj y102 x5_1).f0)) := hcc8 0 _ rfl; have hx8_1 : w13.cell? ⟨go6, (x5_1 : Int).toNat * 2 + 1, none⟩ = some (.string ((qj y102 x5_1).f1)) := hcc8 1 _ rfl; have hf8_0 : w13.frozen? ⟨go6, (x5_1 : Int).toNat * 2, none⟩ = false := hfr8 0; have hf8_1 : w13.frozen? ⟨go6, (x5_1 : Int).toNat * 2 + 1, none⟩ = false := hfr8 1; clear hcl8 hcc8 hfr8 hM8; replace p8 := eq_true p8; replace q8 := eq_true q8; have HX14 := Qz.mk (show Kd.R k170 170 w13 w0.heap.size (fun k_ => (P0_ k_ ∨ w.heap.size ≤ k_)) (.slice (some ⟨go6, 0, none⟩) x0_1.length co9) y102 from yq125); obtain ⟨ce14, hcl14, hM14, hcc14, hfr14⟩ := Kd.R_elem HX14.out z170 (x5_1 : Int) (of_decide_eq_true yq123) (by have h_ : (x5_1 : Int) < ((x0_1.length : Int) : Int) := of_decide_eq_true yq123; first | exact h_ | (have e_ := (Kd.R_reads' HO_0.out).1; omega) | simpa using h_); obtain rfl := k170_openM hM14; have HP14 := Kd.R_seg HX14.out (x5_1 : Int) (of_decide_eq_true yq123) (by have h_ : (x5_1 : Int) < ((x0_1.length : Int) : Int) := of_decide_eq_true yq123; first | exact h_ | (have e_ := (Kd.R_reads' HO_0.out).1; omega) | simpa using h_) (seg := [.string t103]) (j := 1) hcl14 hcc14 (show 2 ≤ 2 from by decide) (x' := (⟨(qj y102 x5_1).f0, t103⟩ : S170)) (k170_mkM _ _ _ (⟨(qj y102 x5_1).f0, t103⟩ : S170) ) (fun _ hk => hk); have hx14_1 := hcc14 1 _ rfl; (try simp only [show (k170).sz = 2 from rfl, Nat.mul_one, Nat.add_zero] at hx14_1); have hf14_1 := hfr14 1; (try simp only [show (k170).sz = 2 from rfl, Nat.mul_one, Nat.add_zero] at hf14_1); clear hcl14 hcc14 hfr14 hM14) | ((with_reducible refine gate_store (t := 9) (p := 25) rfl ?_); refine store_event (t := 9) (p := 25) (v := ?vo_w15) (w1 := (w13.setCell ⟨go6, (x5_1 : Int).toNat * 2 + 1, none⟩ (.string t103))) ?hg ?ho ?hn ?hr ?_; (case ho => rfl); (case hg => rfl); (case hn => rfl); (case hr => first | (go_simp; done) | (go_simp; rfl)); intro w15 hw; have hg : w13.grownBy w15 (some go6) := (by rw [hw]; exact HP14.2); have hp_ : Kd.R k170 170 w15 w0.heap.size (fun k_ => (P0_ k_ ∨ w.heap.size ≤ k_)) (.slice (some ⟨go6, 0, none⟩) x0_1.length co9) y104 := (by rw [hw, Ny104.out]; exact HP14.1); clear HP14; replace HB := Qz.mk ((by rw [hw]; exact qf (HB.out) GB6.out : Below w0.heap.size w0 w15)); replace HK := Qz.mk (Kept.of_grown (S := (fun k_ => P0_ k_)) hg yq124 (fun k_ e_ => (HO_0.out.1 k_ e_))); replace HO_0 := Qz.mk (hp_); clear hg hw hp_))
     go_roundg k1
     case measure => have := HK1.out; omega
     case rel => exact ⟨(y104), (wrap64 ((wrap64 (x1_1 + 1)) + 1)), (wrap64 (x5_1 + 1)), (by first | rfl | (simp; done) | (simp [*]; done)), (by first | rfl | (simp; done) | (simp [*]; done)), H', ⟨by have := HK1.out; omega⟩, ⟨by (with_reducible repeat (first | apply Kd.R_alloc | apply Kd.R_drewN | apply Kd.R_drew)); exact HO_0.out⟩, ⟨by repeat (first | (with_reducible first | exact HK.out | apply Kept.alloc | apply Kept.drewN | apply Kept.drew) | exact HK.out)⟩, ⟨by repeat (first | (with_reducible first | exact HB.out | apply qc | apply qa | apply qb) | exact HB.out)⟩⟩
    ·rw [if_neg c5] at H
     exact absurd H (by simp)
   ·rw [if_neg c3] at H
    have c3b0 : decide (x5_1 < (x0_1.length : Int)) = false := decide_eq_false c3
    clear c3
    simp only [Option.some.injEq, Prod.mk.injEq] at H
    obtain ⟨rfl, rfl⟩ := H
    obtain ⟨Ao16, co16, eo16⟩ := Kd.R_slice HO_0.out
    subst eo16
    go_wp2
    go_ret
    exact ⟨by first | rfl | (simp [qn, qm] <;> rfl) | (simp [*, qn, qm] <;> rfl), by (with_reducible repeat (first | apply Kd.R_alloc | apply Kd.R_drewN | apply Kd.R_drew)); exact HO_0.out, by repeat (first | (with_reducible first | exact HB.out | apply qc | apply qa | apply qb) | exact HB.out), by repeat (first | (with_reducible first | exact HK.out | apply Kept.alloc | apply Kept.drewN | apply Kept.drew) | exact HK.out)⟩
theorem yq126 {P : Prop} (h : P := by first | (with_reducible assumption) | assumption) : P := h
theorem yq127 {P : Prop} (h : P := by repeat (first | (with_reducible first | exact HK.out | apply Kept.alloc | apply Kept.drewN | apply Kept.drew) | exact HK.out)) : P := h
theorem yq128 {P : Prop} (h : P := by (with_reducible repeat (first | apply Kd.R_alloc | apply Kd.R_drewN | apply Kd.R_drew)); exact HO_0.out) : P := h
theorem yq129 {P : Prop} (h : P := by (try simp only [List.map_toArray, List.map_cons, List.map_nil]); first | done | rfl | (simp only [List.length_drop, List.length_take]; rfl) | (rw [IntWalk.u64_in _ (by omega)] <;> rfl)) : P := h
def laws_markDOpS.l0 : Nat → List (S157) → Int → Int → Option (Int × (List (S157)))
 | 0, _, _, _ => none
 | k + 1, x0, x1, x5 => if x5 < (x0.length : Int) then (if 0 ≤ x5 then ((some (x0.set (x5 : Int).toNat (⟨x1, (qi x0 x5).f1, (qi x0 x5).f2, (qi x0 x5).f3⟩ : S157) : List (S157))).bind fun y101 => ((laws_markText.f k (wrap64 (x1 + 1))).bind fun t102 => ((some (y101.set (x5 : Int).toNat (⟨(qi y101 x5).f0, t102, (qi y101 x5).f2, (qi y101 x5).f3⟩ : S157) : List (S157))).bind fun y103 => ((laws_markText.f k (wrap64 ((wrap64 (x1 + 1)) + 1))).bind fun t104 => ((some (y103.set (x5 : Int).toNat (⟨(qi y103 x5).f0, (qi y103 x5).f1, t104, (qi y103 x5).f3⟩ : S157) : List (S157))).bind fun y105 => ((laws_markText.f k (wrap64 ((wrap64 ((wrap64 (x1 + 1)) + 1)) + 1))).bind fun t106 => (laws_markDOpS.l0 k (y105.set (x5 : Int).toNat (⟨(qi y105 x5).f0, (qi y105 x5).f1, (qi y105 x5).f2, t106⟩ : S157)) (wrap64 ((wrap64 ((wrap64 ((wrap64 (x1 + 1)) + 1)) + 1)) + 1)) (wrap64 (x5 + 1))))))))) else (none)) else (some (x1, x0))
def laws_markDOpS.f (k : Nat) (l0 : List (S157)) (a1 : Int) : Option (Int × (List (S157))) := laws_markDOpS.l0 k l0 a1 0
set_option maxHeartbeats 8000000 in
set_option maxRecDepth 100000 in
theorem laws_markDOpS.calls (k : Nat) (P0_ : Nat → Prop) (u9000_ : Value) (l0 : List (S157)) (a1 : Int) (r1 : Int) (r2 : List (S157)) (w0 w : World) (hB : Below w0.heap.size w0 w) (ho0 : Kd.R k157 157 w w0.heap.size P0_ u9000_ l0) (h : laws_markDOpS.f k l0 a1 = some (r1, r2)) :
  Calls Try.prog 131 #[u9000_, .int .i64 a1] w fun e w' => e = .returned (.int .i64 r1) ∧ Kd.R k157 157 w' w0.heap.size (fun k_ => (P0_ k_ ∨ w.heap.size ≤ k_)) u9000_ r2 ∧ Below w0.heap.size w0 w' ∧ Kept w w' (fun k_ => P0_ k_) := by
 have HO0 := Qz.mk (show Kd.R k157 157 w w0.heap.size (fun k_ => (P0_ k_ ∨ w.heap.size ≤ k_)) u9000_ l0 from Kd.R_mono ho0 (fun k_ hk => (.inl hk)))
 have HK := Qz.mk (Kept.refl w (fun k_ => P0_ k_))
 have HW0 := Qz.mk hB.size
 have HB := Qz.mk hB
 clear hB
 have H : (laws_markDOpS.l0 k l0 a1 0) = some (r1, r2) := h
 clear h
 have H' := Qz.mk H
 clear H
 go_enter Try.func131, Try.ntmps131
 go_wp2
 go_loopg [1, 5] k (fun kq v1 v5 w' => ∃ (x0_1 : List (S157)) (x1_1 : Int) (x5_1 : Int), v1 = .int .i64 x1_1 ∧ v5 = .int .i64 x5_1 ∧ Qz (laws_markDOpS.l0 kq x0_1 x1_1 x5_1 = some (r1, r2)) ∧ Qz (kq ≤ k) ∧ Qz (Kd.R k157 157 w' w0.heap.size (fun k_ => (P0_ k_ ∨ w.heap.size ≤ k_)) u9000_ x0_1) ∧ Qz (Kept w w' (fun k_ => P0_ k_)) ∧ Qz (Below w0.heap.size w0 w'))
 case atStart => exact ⟨(l0), (a1), (0), (by first | rfl | (simp; done) | (simp [*]; done)), (by first | rfl | (simp; done) | (simp [*]; done)), H', ⟨Nat.le_refl _⟩, ⟨by (with_reducible repeat (first | apply Kd.R_alloc | apply Kd.R_drewN | apply Kd.R_drew)); exact HO0.out⟩, ⟨by repeat (first | (with_reducible first | exact HK.out | apply Kept.alloc | apply Kept.drewN | apply Kept.drew) | exact HK.out)⟩, ⟨by repeat (first | (with_reducible first | exact HB.out | apply qc | apply qa | apply qb) | exact HB.out)⟩⟩
 case round =>
  clear H'
  (try clear c1);(try clear p2)
  obtain ⟨x0_1, x1_1, x5_1, rfl, rfl, HA, HK1, HO_0, HK, HB⟩ := hrel
  cases gk with
  | zero => exact absurd HA.out (by simp [laws_markDOpS.l0])
  | succ k1 =>
   have H := HA.out
   clear HA
   simp only [laws_markDOpS.l0] at H
   by_cases c3 : x5_1 < (x0_1.length : Int)
   ·rw [if_pos c3] at H
    have c3b0 : decide (x5_1 < (x0_1.length : Int)) = true := decide_eq_true c3
    clear c3
    by_cases c4 : 0 ≤ x5_1
    ·rw [if_pos c4] at H
     have c4b0 : decide (0 ≤ x5_1) = true := decide_eq_true c4
     clear c4
     obtain ⟨y101, hy101⟩ : ∃ y_ : List (S157), y_ = (x0_1.set (x5_1 : Int).toNat (⟨x1_1, (qi x0_1 x5_1).f1, (qi x0_1 x5_1).f2, (qi x0_1 x5_1).f3⟩ : S157)) := ⟨_, rfl⟩
     replace H : ((laws_markText.f k1 (wrap64 (x1_1 + 1))).bind fun t102 => ((some (y101.set (x5_1 : Int).toNat (⟨(qi y101 x5_1).f0, t102, (qi y101 x5_1).f2, (qi y101 x5_1).f3⟩ : S157) : List (S157))).bind fun y103 => ((laws_markText.f k1 (wrap64 ((wrap64 (x1_1 + 1)) + 1))).bind fun t104 => ((some (y103.set (x5_1 : Int).toNat (⟨(qi y103 x5_1).f0, (qi y103 x5_1).f1, t104, (qi y103 x5_1).f3⟩ : S157) : List (S157))).bind fun y105 => ((laws_markText.f k1 (wrap64 ((wrap64 ((wrap64 (x1_1 + 1)) + 1)) + 1))).bind fun t106 => (laws_markDOpS.l0 k1 (y105.set (x5_1 : Int).toNat (⟨(qi y105 x5_1).f0, (qi y105 x5_1).f1, (qi y105 x5_1).f2, t106⟩ : S157)) (wrap64 ((wrap64 ((wrap64 ((wrap64 (x1_1 + 1)) + 1)) + 1)) + 1)) (wrap64 (x5_1 + 1)))))))) = some (r1, r2) := by first | (rw [hy101]; with_reducible exact H) | (have H2_ := (Option.bind_some _ _).symm.trans H; rw [hy101]; with_reducible exact H2_) | (have H2_ := (Option.bind_some _ _).symm.trans H; with_reducible exact H2_) | with_reducible exact H | (rw [hy101]; exact H) | exact H
     have Ny101 := Qz.mk hy101
     clear hy101
     replace H := Option.bind_eq_some_iff.mp H
     obtain ⟨t102, A60, H⟩ := H
     replace H : ((some (y101.set (x5_1 : Int).toNat (⟨(qi y101 x5_1).f0, t102, (qi y101 x5_1).f2, (qi y101 x5_1).f3⟩ : S157) : List (S157))).bind fun y103 => ((laws_markText.f k1 (wrap64 ((wrap64 (x1_1 + 1)) + 1))).bind fun t104 => ((some (y103.set (x5_1 : Int).toNat (⟨(qi y103 x5_1).f0, (qi y103 x5_1).f1, t104, (qi y103 x5_1).f3⟩ : S157) : List (S157))).bind fun y105 => ((laws_markText.f k1 (wrap64 ((wrap64 ((wrap64 (x1_1 + 1)) + 1)) + 1))).bind fun t106 => (laws_markDOpS.l0 k1 (y105.set (x5_1 : Int).toNat (⟨(qi y105 x5_1).f0, (qi y105 x5_1).f1, (qi y105 x5_1).f2, t106⟩ : S157)) (wrap64 ((wrap64 ((wrap64 ((wrap64 (x1_1 + 1)) + 1)) + 1)) + 1)) (wrap64 (x5_1 + 1))))))) = some (r1, r2) := H
     have A6 := Qz.mk A60
     clear A60
     obtain ⟨y103, hy103⟩ : ∃ y_ : List (S157), y_ = (y101.set (x5_1 : Int).toNat (⟨(qi y101 x5_1).f0, t102, (qi y101 x5_1).f2, (qi y101 x5_1).f3⟩ : S157)) := ⟨_, rfl⟩
     replace H : ((laws_markText.f k1 (wrap64 ((wrap64 (x1_1 + 1)) + 1))).bind fun t104 => ((some (y103.set (x5_1 : Int).toNat (⟨(qi y103 x5_1).f0, (qi y103 x5_1).f1, t104, (qi y103 x5_1).f3⟩ : S157) : List (S157))).bind fun y105 => ((laws_markText.f k1 (wrap64 ((wrap64 ((wrap64 (x1_1 + 1)) + 1)) + 1))).bind fun t106 => (laws_markDOpS.l0 k1 (y105.set (x5_1 : Int).toNat (⟨(qi y105 x5_1).f0, (qi y105 x5_1).f1, (qi y105 x5_1).f2, t106⟩ : S157)) (wrap64 ((wrap64 ((wrap64 ((wrap64 (x1_1 + 1)) + 1)) + 1)) + 1)) (wrap64 (x5_1 + 1)))))) = some (r1, r2) := by first | (rw [hy103]; with_reducible exact H) | (have H2_ := (Option.bind_some _ _).symm.trans H; rw [hy103]; with_reducible exact H2_) | (have H2_ := (Option.bind_some _ _).symm.trans H; with_reducible exact H2_) | with_reducible exact H | (rw [hy103]; exact H) | exact H
     have Ny103 := Qz.mk hy103
     clear hy103
     replace H := Option.bind_eq_some_iff.mp H
     obtain ⟨t104, A80, H⟩ := H
     replace H : ((some (y103.set (x5_1 : Int).toNat (⟨(qi y103 x5_1).f0, (qi y103 x5_1).f1, t104, (qi y103 x5_1).f3⟩ : S157) : List (S157))).bind fun y105 => ((laws_markText.f k1 (wrap64 ((wrap64 ((wrap64 (x1_1 + 1)) + 1)) + 1))).bind fun t106 => (laws_markDOpS.l0 k1 (y105.set (x5_1 : Int).toNat (⟨(qi y105 x5_1).f0, (qi y105 x5_1).f1, (qi y105 x5_1).f2, t106⟩ : S157)) (wrap64 ((wrap64 ((wrap64 ((wrap64 (x1_1 + 1)) + 1)) + 1)) + 1)) (wrap64 (x5_1 + 1))))) = some (r1, r2) := H
     have A8 := Qz.mk A80
     clear A80
     obtain ⟨y105, hy105⟩ : ∃ y_ : List (S157), y_ = (y103.set (x5_1 : Int).toNat (⟨(qi y103 x5_1).f0, (qi y103 x5_1).f1, t104, (qi y103 x5_1).f3⟩ : S157)) := ⟨_, rfl⟩
     replace H : ((laws_markText.f k1 (wrap64 ((wrap64 ((wrap64 (x1_1 + 1)) + 1)) + 1))).bind fun t106 => (laws_markDOpS.l0 k1 (y105.set (x5_1 : Int).toNat (⟨(qi y105 x5_1).f0, (qi y105 x5_1).f1, (qi y105 x5_1).f2, t106⟩ : S157)) (wrap64 ((wrap64 ((wrap64 ((wrap64 (x1_1 + 1)) + 1)) + 1)) + 1)) (wrap64 (x5_1 + 1)))) = some (r1, r2) := by first | (rw [hy105]; with_reducible exact H) | (have H2_ := (Option.bind_some _ _).symm.trans H; rw [hy105]; with_reducible exact H2_) | (have H2_ := (Option.bind_some _ _).symm.trans H; with_reducible exact H2_) | with_reducible exact H | (rw [hy105]; exact H) | exact H
     have Ny105 := Qz.mk hy105
     clear hy105
     replace H := Option.bind_eq_some_iff.mp H
     obtain ⟨t106, A100, H⟩ := H
     replace H : (laws_markDOpS.l0 k1 (y105.set (x5_1 : Int).toNat (⟨(qi y105 x5_1).f0, (qi y105 x5_1).f1, (qi y105 x5_1).f2, t106⟩ : S157)) (wrap64 ((wrap64 ((wrap64 ((wrap64 (x1_1 + 1)) + 1)) + 1)) + 1)) (wrap64 (x5_1 + 1))) = some (r1, r2) := H
     have A10 := Qz.mk A100
     clear A100
     obtain ⟨y107, hy107⟩ : ∃ y_ : List (S157), y_ = (y105.set (x5_1 : Int).toNat (⟨(qi y105 x5_1).f0, (qi y105 x5_1).f1, (qi y105 x5_1).f2, t106⟩ : S157)) := ⟨_, rfl⟩
     replace H : (laws_markDOpS.l0 k1 y107 (wrap64 ((wrap64 ((wrap64 ((wrap64 (x1_1 + 1)) + 1)) + 1)) + 1)) (wrap64 (x5_1 + 1))) = some (r1, r2) := by first | (rw [hy107]; with_reducible exact H) | (have H2_ := (Option.bind_some _ _).symm.trans H; rw [hy107]; with_reducible exact H2_) | (have H2_ := (Option.bind_some _ _).symm.trans H; with_reducible exact H2_) | with_reducible exact H | (rw [hy107]; exact H) | exact H
     have Ny107 := Qz.mk hy107
     clear hy107
     have H' := Qz.mk H
     clear H
     obtain ⟨Ao12, co12, eo12⟩ := Kd.R_slice HO_0.out
     subst eo12
     have p5 : 0 ≤ (x5_1 : Int) := of_decide_eq_true yq126
     have q5 : (x5_1 : Int) < ((x0_1.length : Int) : Int) := of_decide_eq_true yq126
     obtain ⟨go5, co5, eo5, gb5, gl5, cl5, HG5⟩ := Kd.R_form HO_0.out (by omega)
     (first | cases eo5 | (injection eo5 with ea_ en_ ec_; (first | subst ea_ | (injection ea_ with ea_; subst ea_)); subst ec_; clear en_))
     have GB5 := Qz.mk gb5
     have GG5 := Qz.mk HG5
     clear gb5 gl5 HG5
     have HMgo5 := Qz.mk (show (P0_ go5 ∨ w.heap.size ≤ go5) from (HO_0.out.1 _ rfl))
     obtain ⟨ce5, hcl5, hM5, hcc5, hfr5⟩ := Kd.R_elem HO_0.out z157 (x5_1 : Int) p5 q5
     obtain rfl := k157_openM hM5
     have hx5_0 : wr.cell? ⟨go5, (x5_1 : Int).toNat * 4, none⟩ = some (.int .i64 ((qi x0_1 x5_1).f0)) := hcc5 0 _ rfl
     have hx5_1 : wr.cell? ⟨go5, (x5_1 : Int).toNat * 4 + 1, none⟩ = some (.string ((qi x0_1 x5_1).f1)) := hcc5 1 _ rfl
     have hx5_2 : wr.cell? ⟨go5, (x5_1 : Int).toNat * 4 + 2, none⟩ = some (.string ((qi x0_1 x5_1).f2)) := hcc5 2 _ rfl
     have hx5_3 : wr.cell? ⟨go5, (x5_1 : Int).toNat * 4 + 3, none⟩ = some (.string ((qi x0_1 x5_1).f3)) := hcc5 3 _ rfl
     have hf5_0 : wr.frozen? ⟨go5, (x5_1 : Int).toNat * 4, none⟩ = false := hfr5 0
     have hf5_1 : wr.frozen? ⟨go5, (x5_1 : Int).toNat * 4 + 1, none⟩ = false := hfr5 1
     have hf5_2 : wr.frozen? ⟨go5, (x5_1 : Int).toNat * 4 + 2, none⟩ = false := hfr5 2
     have hf5_3 : wr.frozen? ⟨go5, (x5_1 : Int).toNat * 4 + 3, none⟩ = false := hfr5 3
     clear hcl5 hcc5 hfr5 hM5
     replace p5 := eq_true p5
     replace q5 := eq_true q5
     have HX13 := Qz.mk (show Kd.R k157 157 wr w0.heap.size (fun k_ => (P0_ k_ ∨ w.heap.size ≤ k_)) (.slice (some ⟨go5, 0, none⟩) x0_1.length co12) x0_1 from yq128)
     obtain ⟨ce13, hcl13, hM13, hcc13, hfr13⟩ := Kd.R_elem HX13.out z157 (x5_1 : Int) (of_decide_eq_true yq126) (by have h_ : (x5_1 : Int) < ((x0_1.length : Int) : Int) := of_decide_eq_true yq126; first | exact h_ | (have e_ := (Kd.R_reads' HO_0.out).1; omega) | simpa using h_)
     obtain rfl := k157_openM hM13
     have HP13 := Kd.R_seg HX13.out (x5_1 : Int) (of_decide_eq_true yq126) (by have h_ : (x5_1 : Int) < ((x0_1.length : Int) : Int) := of_decide_eq_true yq126; first | exact h_ | (have e_ := (Kd.R_reads' HO_0.out).1; omega) | simpa using h_) (seg := [.int .i64 x1_1]) (j := 0) hcl13 hcc13 (show 1 ≤ 4 from by decide) (x' := (⟨x1_1, (qi x0_1 x5_1).f1, (qi x0_1 x5_1).f2, (qi x0_1 x5_1).f3⟩ : S157)) (k157_mkM _ _ _ (⟨x1_1, (qi x0_1 x5_1).f1, (qi x0_1 x5_1).f2, (qi x0_1 x5_1).f3⟩ : S157) ) (fun _ hk => hk)
     have hx13_0 := hcc13 0 _ rfl
     (try simp only [show (k157).sz = 4 from rfl, Nat.mul_one, Nat.add_zero] at hx13_0)
     have hf13_0 := hfr13 0
     (try simp only [show (k157).sz = 4 from rfl, Nat.mul_one, Nat.add_zero] at hf13_0)
     clear hcl13 hcc13 hfr13 hM13
     go_wp2_with (first | ((with_reducible refine gate_store (t := 2) (p := 16) rfl ?_); refine store_event (t := 2) (p := 16) (v := ?vo_w14) (w1 := (wr.setCell ⟨go5, (x5_1 : Int).toNat * 4, none⟩ (.int .i64 x1_1))) ?hg ?ho ?hn ?hr ?_; (case ho => rfl); (case hg => rfl); (case hn => rfl); (case hr => first | (go_simp; done) | (go_simp; rfl)); intro w14 hw; have hg : wr.grownBy w14 (some go5) := (by rw [hw]; exact HP13.2); have hp_ : Kd.R k157 157 w14 w0.heap.size (fun k_ => (P0_ k_ ∨ w.heap.size ≤ k_)) (.slice (some ⟨go5, 0, none⟩) x0_1.length co12) y101 := (by rw [hw, Ny101.out]; exact HP13.1); clear HP13; replace HB := Qz.mk ((by rw [hw]; exact qf (HB.out) GB5.out : Below w0.heap.size w0 w14)); replace HK := Qz.mk (Kept.of_grown (S := (fun k_ => P0_ k_)) hg yq127 (fun k_ e_ => (HO_0.out.1 k_ e_))); replace HO_0 := Qz.mk (hp_); clear hg hw hp_) | ((with_reducible refine qp (f := 89) rfl ?_); refine qc1 (some 22) rfl rfl Try.func89 (by kernel_rfl) rfl #[.int .i64 (wrap64 (x1_1 + 1))] rfl yq129 ?_; (with_reducible refine (laws_markText.calls k1 (wrap64 (x1_1 + 1)) t102 _ A6.out).mono ?_); rintro e w15 ⟨rfl, hb⟩; refine ⟨_, rfl, ?_⟩; replace HO_0 := Qz.mk (Kd.R_below yq128 hb); replace HK := Qz.mk (Kept.below (S := (fun k_ => P0_ k_)) yq127 hb); replace HB := Qz.mk (ql (by repeat (first | (with_reducible first | exact HB.out | apply qc | apply qa | apply qb) | exact HB.out)) hb); (try clear hb); (try clear hk); have p7 : 0 ≤ (x5_1 : Int) := of_decide_eq_true yq126; have q7 : (x5_1 : Int) < ((x0_1.length : Int) : Int) := of_decide_eq_true yq126; obtain ⟨ce7, hcl7, hM7, hcc7, hfr7⟩ := Kd.R_elem HO_0.out z157 (x5_1 : Int) p7 q7; obtain rfl := k157_openM hM7; have hx7_0 : w15.cell? ⟨go5, (x5_1 : Int).toNat * 4, none⟩ = some (.int .i64 ((qi y101 x5_1).f0)) := hcc7 0 _ rfl; have hx7_1 : w15.cell? ⟨go5, (x5_1 : Int).toNat * 4 + 1, none⟩ = some (.string ((qi y101 x5_1).f1)) := hcc7 1 _ rfl; have hx7_2 : w15.cell? ⟨go5, (x5_1 : Int).toNat * 4 + 2, none⟩ = some (.string ((qi y101 x5_1).f2)) := hcc7 2 _ rfl; have hx7_3 : w15.cell? ⟨go5, (x5_1 : Int).toNat * 4 + 3, none⟩ = some (.string ((qi y101 x5_1).f3)) := hcc7 3 _ rfl; have hf7_0 : w15.frozen? ⟨go5, (x5_1 : Int).toNat * 4, none⟩ = false := hfr7 0; have hf7_1 : w15.frozen? ⟨go5, (x5_1 : Int).toNat * 4 + 1, none⟩ = false := hfr7 1; have hf7_2 : w15.frozen? ⟨go5, (x5_1 : Int).toNat * 4 + 2, none⟩ = false := hfr7 2; have hf7_3 : w15.frozen? ⟨go5, (x5_1 : Int).toNat * 4 + 3, none⟩ = false := hfr7 3; clear hcl7 hcc7 hfr7 hM7; replace p7 := eq_true p7; replace q7 := eq_true q7; have HX16 := Qz.mk (show Kd.R k157 157 w15 w0.heap.size (fun k_ => (P0_ k_ ∨ w.heap.size ≤ k_)) (.slice (some ⟨go5, 0, none⟩) x0_1.length co12) y101 from yq128); obtain ⟨ce16, hcl16, hM16, hcc16, hfr16⟩ := Kd.R_elem HX16.out z157 (x5_1 : Int) (of_decide_eq_true yq126) (by have h_ : (x5_1 : Int) < ((x0_1.length : Int) : Int) := of_decide_eq_true yq126; first | exact h_ | (have e_ := (Kd.R_reads' HO_0.out).1; omega) | simpa using h_); obtain rfl := k157_openM hM16; have HP16 := Kd.R_seg HX16.out (x5_1 : Int) (of_decide_eq_true yq126) (by have h_ : (x5_1 : Int) < ((x0_1.length : Int) : Int) := of_decide_eq_true yq126; first | exact h_ | (have e_ := (Kd.R_reads' HO_0.out).1; omega) | simpa using h_) (seg := [.string t102]) (j := 1) hcl16 hcc16 (show 2 ≤ 4 from by decide) (x' := (⟨(qi y101 x5_1).f0, t102, (qi y101 x5_1).f2, (qi y101 x5_1).f3⟩ : S157)) (k157_mkM _ _ _ (⟨(qi y101 x5_1).f0, t102, (qi y101 x5_1).f2, (qi y101 x5_1).f3⟩ : S157) ) (fun _ hk => hk); have hx16_1 := hcc16 1 _ rfl; (try simp only [show (k157).sz = 4 from rfl, Nat.mul_one, Nat.add_zero] at hx16_1); have hf16_1 := hfr16 1; (try simp only [show (k157).sz = 4 from rfl, Nat.mul_one, Nat.add_zero] at hf16_1); clear hcl16 hcc16 hfr16 hM16) | ((with_reducible refine gate_store (t := 9) (p := 24) rfl ?_); refine store_event (t := 9) (p := 24) (v := ?vo_w17) (w1 := (w15.setCell ⟨go5, (x5_1 : Int).toNat * 4 + 1, none⟩ (.string t102))) ?hg ?ho ?hn ?hr ?_; (case ho => rfl); (case hg => rfl); (case hn => rfl); (case hr => first | (go_simp; done) | (go_simp; rfl)); intro w17 hw; have hg : w15.grownBy w17 (some go5) := (by rw [hw]; exact HP16.2); have hp_ : Kd.R k157 157 w17 w0.heap.size (fun k_ => (P0_ k_ ∨ w.heap.size ≤ k_)) (.slice (some ⟨go5, 0, none⟩) x0_1.length co12) y103 := (by rw [hw, Ny103.out]; exact HP16.1); clear HP16; replace HB := Qz.mk ((by rw [hw]; exact qf (HB.out) GB5.out : Below w0.heap.size w0 w17)); replace HK := Qz.mk (Kept.of_grown (S := (fun k_ => P0_ k_)) hg yq127 (fun k_ e_ => (HO_0.out.1 k_ e_))); replace HO_0 := Qz.mk (hp_); clear hg hw hp_) | ((with_reducible refine qp (f := 89) rfl ?_); refine qc1 (some 30) rfl rfl Try.func89 (by kernel_rfl) rfl #[.int .i64 (wrap64 ((wrap64 (x1_1 + 1)) + 1))] rfl yq129 ?_; (with_reducible refine (laws_markText.calls k1 (wrap64 ((wrap64 (x1_1 + 1)) + 1)) t104 _ A8.out).mono ?_); rintro e w18 ⟨rfl, hb⟩; refine ⟨_, rfl, ?_⟩; replace HO_0 := Qz.mk (Kd.R_below yq128 hb); replace HK := Qz.mk (Kept.below (S := (fun k_ => P0_ k_)) yq127 hb); replace HB := Qz.mk (ql (by repeat (first | (with_reducible first | exact HB.out | apply qc | apply qa | apply qb) | exact HB.out)) hb); (try clear hb); (try clear hk); have p9 : 0 ≤ (x5_1 : Int) := of_decide_eq_true yq126; have q9 : (x5_1 : Int) < ((x0_1.length : Int) : Int) := of_decide_eq_true yq126; obtain ⟨ce9, hcl9, hM9, hcc9, hfr9⟩ := Kd.R_elem HO_0.out z157 (x5_1 : Int) p9 q9; obtain rfl := k157_openM hM9; have hx9_0 : w18.cell? ⟨go5, (x5_1 : Int).toNat * 4, none⟩ = some (.int .i64 ((qi y103 x5_1).f0)) := hcc9 0 _ rfl; have hx9_1 : w18.cell? ⟨go5, (x5_1 : Int).toNat * 4 + 1, none⟩ = some (.string ((qi y103 x5_1).f1)) := hcc9 1 _ rfl; have hx9_2 : w18.cell? ⟨go5, (x5_1 : Int).toNat * 4 + 2, none⟩ = some (.string ((qi y103 x5_1).f2)) := hcc9 2 _ rfl; have hx9_3 : w18.cell? ⟨go5, (x5_1 : Int).toNat * 4 + 3, none⟩ = some (.string ((qi y103 x5_1).f3)) := hcc9 3 _ rfl; have hf9_0 : w18.frozen? ⟨go5, (x5_1 : Int).toNat * 4, none⟩ = false := hfr9 0; have hf9_1 : w18.frozen? ⟨go5, (x5_1 : Int).toNat * 4 + 1, none⟩ = false := hfr9 1; have hf9_2 : w18.frozen? ⟨go5, (x5_1 : Int).toNat * 4 + 2, none⟩ = false := hfr9 2; have hf9_3 : w18.frozen? ⟨go5, (x5_1 : Int).toNat * 4 + 3, none⟩ = false := hfr9 3; clear hcl9 hcc9 hfr9 hM9; replace p9 := eq_true p9; replace q9 := eq_true q9; have HX19 := Qz.mk (show Kd.R k157 157 w18 w0.heap.size (fun k_ => (P0_ k_ ∨ w.heap.size ≤ k_)) (.slice (some ⟨go5, 0, none⟩) x0_1.length co12) y103 from yq128); obtain ⟨ce19, hcl19, hM19, hcc19, hfr19⟩ := Kd.R_elem HX19.out z157 (x5_1 : Int) (of_decide_eq_true yq126) (by have h_ : (x5_1 : Int) < ((x0_1.length : Int) : Int) := of_decide_eq_true yq126; first | exact h_ | (have e_ := (Kd.R_reads' HO_0.out).1; omega) | simpa using h_); obtain rfl := k157_openM hM19; have HP19 := Kd.R_seg HX19.out (x5_1 : Int) (of_decide_eq_true yq126) (by have h_ : (x5_1 : Int) < ((x0_1.length : Int) : Int) := of_decide_eq_true yq126; first | exact h_ | (have e_ := (Kd.R_reads' HO_0.out).1; omega) | simpa using h_) (seg := [.string t104]) (j := 2) hcl19 hcc19 (show 3 ≤ 4 from by decide) (x' := (⟨(qi y103 x5_1).f0, (qi y103 x5_1).f1, t104, (qi y103 x5_1).f3⟩ : S157)) (k157_mkM _ _ _ (⟨(qi y103 x5_1).f0, (qi y103 x5_1).f1, t104, (qi y103 x5_1).f3⟩ : S157) ) (fun _ hk => hk); have hx19_2 := hcc19 2 _ rfl; (try simp only [show (k157).sz = 4 from rfl, Nat.mul_one, Nat.add_zero] at hx19_2); have hf19_2 := hfr19 2; (try simp only [show (k157).sz = 4 from rfl, Nat.mul_one, Nat.add_zero] at hf19_2); clear hcl19 hcc19 hfr19 hM19) | ((with_reducible refine gate_store (t := 9) (p := 32) rfl ?_); refine store_event (t := 9) (p := 32) (v := ?vo_w20) (w1 := (w18.setCell ⟨go5, (x5_1 : Int).toNat * 4 + 2, none⟩ (.string t104))) ?hg ?ho ?hn ?hr ?_; (case ho => rfl); (case hg => rfl); (case hn => rfl); (case hr => first | (go_simp; done) | (go_simp; rfl)); intro w20 hw; have hg : w18.grownBy w20 (some go5) := (by rw [hw]; exact HP19.2); have hp_ : Kd.R k157 157 w20 w0.heap.size (fun k_ => (P0_ k_ ∨ w.heap.size ≤ k_)) (.slice (some ⟨go5, 0, none⟩) x0_1.length co12) y105 := (by rw [hw, Ny105.out]; exact HP19.1); clear HP19; replace HB := Qz.mk ((by rw [hw]; exact qf (HB.out) GB5.out : Below w0.heap.size w0 w20)); replace HK := Qz.mk (Kept.of_grown (S := (fun k_ => P0_ k_)) hg yq127 (fun k_ e_ => (HO_0.out.1 k_ e_))); replace HO_0 := Qz.mk (hp_); clear hg hw hp_) | ((with_reducible refine qp (f := 89) rfl ?_); refine qc1 (some 38) rfl rfl Try.func89 (by kernel_rfl) rfl #[.int .i64 (wrap64 ((wrap64 ((wrap64 (x1_1 + 1)) + 1)) + 1))] rfl yq129 ?_; (with_reducible refine (laws_markText.calls k1 (wrap64 ((wrap64 ((wrap64 (x1_1 + 1)) + 1)) + 1)) t106 _ A10.out).mono ?_); rintro e w21 ⟨rfl, hb⟩; refine ⟨_, rfl, ?_⟩; replace HO_0 := Qz.mk (Kd.R_below yq128 hb); replace HK := Qz.mk (Kept.below (S := (fun k_ => P0_ k_)) yq127 hb); replace HB := Qz.mk (ql (by repeat (first | (with_reducible first | exact HB.out | apply qc | apply qa | apply qb) | exact HB.out)) hb); (try clear hb); (try clear hk); have p11 : 0 ≤ (x5_1 : Int) := of_decide_eq_true yq126; have q11 : (x5_1 : Int) < ((x0_1.length : Int) : Int) := of_decide_eq_true yq126; obtain ⟨ce11, hcl11, hM11, hcc11, hfr11⟩ := Kd.R_elem HO_0.out z157 (x5_1 : Int) p11 q11; obtain rfl := k157_openM hM11; have hx11_0 : w21.cell? ⟨go5, (x5_1 : Int).toNat * 4, none⟩ = some (.int .i64 ((qi y105 x5_1).f0)) := hcc11 0 _ rfl; have hx11_1 : w21.cell? ⟨go5, (x5_1 : Int).toNat * 4 + 1, none⟩ = some (.string ((qi y105 x5_1).f1)) := hcc11 1 _ rfl; have hx11_2 : w21.cell? ⟨go5, (x5_1 : Int).toNat * 4 + 2, none⟩ = some (.string ((qi y105 x5_1).f2)) := hcc11 2 _ rfl; have hx11_3 : w21.cell? ⟨go5, (x5_1 : Int).toNat * 4 + 3, none⟩ = some (.string ((qi y105 x5_1).f3)) := hcc11 3 _ rfl; have hf11_0 : w21.frozen? ⟨go5, (x5_1 : Int).toNat * 4, none⟩ = false := hfr11 0; have hf11_1 : w21.frozen? ⟨go5, (x5_1 : Int).toNat * 4 + 1, none⟩ = false := hfr11 1; have hf11_2 : w21.frozen? ⟨go5, (x5_1 : Int).toNat * 4 + 2, none⟩ = false := hfr11 2; have hf11_3 : w21.frozen? ⟨go5, (x5_1 : Int).toNat * 4 + 3, none⟩ = false := hfr11 3; clear hcl11 hcc11 hfr11 hM11; replace p11 := eq_true p11; replace q11 := eq_true q11; have HX22 := Qz.mk (show Kd.R k157 157 w21 w0.heap.size (fun k_ => (P0_ k_ ∨ w.heap.size ≤ k_)) (.slice (some ⟨go5, 0, none⟩) x0_1.length co12) y105 from yq128); obtain ⟨ce22, hcl22, hM22, hcc22, hfr22⟩ := Kd.R_elem HX22.out z157 (x5_1 : Int) (of_decide_eq_true yq126) (by have h_ : (x5_1 : Int) < ((x0_1.length : Int) : Int) := of_decide_eq_true yq126; first | exact h_ | (have e_ := (Kd.R_reads' HO_0.out).1; omega) | simpa using h_); obtain rfl := k157_openM hM22; have HP22 := Kd.R_seg HX22.out (x5_1 : Int) (of_decide_eq_true yq126) (by have h_ : (x5_1 : Int) < ((x0_1.length : Int) : Int) := of_decide_eq_true yq126; first | exact h_ | (have e_ := (Kd.R_reads' HO_0.out).1; omega) | simpa using h_) (seg := [.string t106]) (j := 3) hcl22 hcc22 (show 4 ≤ 4 from by decide) (x' := (⟨(qi y105 x5_1).f0, (qi y105 x5_1).f1, (qi y105 x5_1).f2, t106⟩ : S157)) (k157_mkM _ _ _ (⟨(qi y105 x5_1).f0, (qi y105 x5_1).f1, (qi y105 x5_1).f2, t106⟩ : S157) ) (fun _ hk => hk); have hx22_3 := hcc22 3 _ rfl; (try simp only [show (k157).sz = 4 from rfl, Nat.mul_one, Nat.add_zero] at hx22_3); have hf22_3 := hfr22 3; (try simp only [show (k157).sz = 4 from rfl, Nat.mul_one, Nat.add_zero] at hf22_3); clear hcl22 hcc22 hfr22 hM22) | ((with_reducible refine gate_store (t := 9) (p := 40) rfl ?_); refine store_event (t := 9) (p := 40) (v := ?vo_w23) (w1 := (w21.setCell ⟨go5, (x5_1 : Int).toNat * 4 + 3, none⟩ (.string t106))) ?hg ?ho ?hn ?hr ?_; (case ho => rfl); (case hg => rfl); (case hn => rfl); (case hr => first | (go_simp; done) | (go_simp; rfl)); intro w23 hw; have hg : w21.grownBy w23 (some go5) := (by rw [hw]; exact HP22.2); have hp_ : Kd.R k157 157 w23 w0.heap.size (fun k_ => (P0_ k_ ∨ w.heap.size ≤ k_)) (.slice (some ⟨go5, 0, none⟩) x0_1.length co12) y107 := (by rw [hw, Ny107.out]; exact HP22.1); clear HP22; replace HB := Qz.mk ((by rw [hw]; exact qf (HB.out) GB5.out : Below w0.heap.size w0 w23)); replace HK := Qz.mk (Kept.of_grown (S := (fun k_ => P0_ k_)) hg yq127 (fun k_ e_ => (HO_0.out.1 k_ e_))); replace HO_0 := Qz.mk (hp_); clear hg hw hp_))
     go_roundg k1
     case measure => have := HK1.out; omega
     case rel => exact ⟨(y107), (wrap64 ((wrap64 ((wrap64 ((wrap64 (x1_1 + 1)) + 1)) + 1)) + 1)), (wrap64 (x5_1 + 1)), (by first | rfl | (simp; done) | (simp [*]; done)), (by first | rfl | (simp; done) | (simp [*]; done)), H', ⟨by have := HK1.out; omega⟩, ⟨by (with_reducible repeat (first | apply Kd.R_alloc | apply Kd.R_drewN | apply Kd.R_drew)); exact HO_0.out⟩, ⟨by repeat (first | (with_reducible first | exact HK.out | apply Kept.alloc | apply Kept.drewN | apply Kept.drew) | exact HK.out)⟩, ⟨by repeat (first | (with_reducible first | exact HB.out | apply qc | apply qa | apply qb) | exact HB.out)⟩⟩
    ·rw [if_neg c4] at H
     exact absurd H (by simp)
   ·rw [if_neg c3] at H
    have c3b0 : decide (x5_1 < (x0_1.length : Int)) = false := decide_eq_false c3
    clear c3
    simp only [Option.some.injEq, Prod.mk.injEq] at H
    obtain ⟨rfl, rfl⟩ := H
    obtain ⟨Ao24, co24, eo24⟩ := Kd.R_slice HO_0.out
    subst eo24
    go_wp2
    go_ret
    exact ⟨by first | rfl | (simp [qn, qm] <;> rfl) | (simp [*, qn, qm] <;> rfl), by (with_reducible repeat (first | apply Kd.R_alloc | apply Kd.R_drewN | apply Kd.R_drew)); exact HO_0.out, by repeat (first | (with_reducible first | exact HB.out | apply qc | apply qa | apply qb) | exact HB.out), by repeat (first | (with_reducible first | exact HK.out | apply Kept.alloc | apply Kept.drewN | apply Kept.drew) | exact HK.out)⟩
theorem yq130 {P : Prop} (h : P := by (try simp only [List.map_toArray, List.map_cons, List.map_nil]); first | done | rfl | (simp only [List.length_drop, List.length_take]; rfl) | (rw [IntWalk.u64_in _ (by omega)] <;> rfl)) : P := h
theorem yq131 {P : Prop} (h : P := by repeat (first | (with_reducible first | exact HK.out | apply Kept.alloc | apply Kept.drewN | apply Kept.drew | refine Kept.setCell ?_ (.inr GW101.out) _) | exact HK.out)) : P := h
theorem yq132 {P : Prop} (h : P := by repeat (first | (with_reducible first | exact HB.out | apply qc | apply qa | apply qb | refine qf ?_ GE101.out) | exact HB.out)) : P := h
def laws_markDisk.f (k : Nat) (l0_0 : List (S170)) (l0_1 : List (S170)) (l0_2 : List (S157)) (a1 : Int) : Option (Int × (List (S170)) × (List (S170)) × (List (S157))) := (laws_markFileS.f k l0_0 a1).bind fun bt102 => ((laws_markFileS.f k l0_1 bt102.1).bind fun bt104 => ((laws_markDOpS.f k l0_2 bt104.1).bind fun bt106 => (some (bt106.1, bt102.2, bt104.2, bt106.2))))
set_option maxHeartbeats 8000000 in
set_option maxRecDepth 100000 in
theorem laws_markDisk.calls (k : Nat) (P0_0_ : Nat → Prop) (u9000_ : Value) (l0_0 : List (S170)) (P0_1_ : Nat → Prop) (u9001_ : Value) (l0_1 : List (S170)) (P0_2_ : Nat → Prop) (u9002_ : Value) (l0_2 : List (S157)) (a1 : Int) (r1 : Int) (r2 : List (S170)) (r3 : List (S170)) (r4 : List (S157)) (w0 w : World) (hB : Below w0.heap.size w0 w) (ho0_0 : Kd.R k170 170 w w0.heap.size P0_0_ u9000_ l0_0) (hp0_0_0_1 : ∀ k_, P0_0_ k_ → ¬ P0_1_ k_) (ho0_1 : Kd.R k170 170 w w0.heap.size P0_1_ u9001_ l0_1) (hp0_1_0_0 : ∀ k_, P0_1_ k_ → ¬ P0_0_ k_) (ho0_2 : Kd.R k157 157 w w0.heap.size P0_2_ u9002_ l0_2) (h : laws_markDisk.f k l0_0 l0_1 l0_2 a1 = some (r1, r2, r3, r4)) :
  Calls Try.prog 60 #[.agg #[u9000_, u9001_, u9002_], .int .i64 a1] w fun e w' => e = .returned (.int .i64 r1) ∧ Kd.R k170 170 w' w0.heap.size (fun k_ => ((P0_0_ k_ ∨ P0_1_ k_ ∨ P0_2_ k_) ∨ w.heap.size ≤ k_)) u9000_ r2 ∧ Kd.R k170 170 w' w0.heap.size (fun k_ => ((P0_0_ k_ ∨ P0_1_ k_ ∨ P0_2_ k_) ∨ w.heap.size ≤ k_)) u9001_ r3 ∧ Kd.R k157 157 w' w0.heap.size (fun k_ => ((P0_0_ k_ ∨ P0_1_ k_ ∨ P0_2_ k_) ∨ w.heap.size ≤ k_)) u9002_ r4 ∧ Below w0.heap.size w0 w' ∧ Kept w w' (fun k_ => P0_0_ k_ ∨ P0_1_ k_ ∨ P0_2_ k_) := by
 have hu85 := Try.underlying85
 have HO0_0 := Qz.mk (show Kd.R k170 170 w w0.heap.size (fun k_ => ((P0_0_ k_ ∨ P0_1_ k_ ∨ P0_2_ k_) ∨ w.heap.size ≤ k_) ∧ some k_ ≠ (u9001_ : Value).ownBlock) u9000_ l0_0 from Kd.R_mono ho0_0 (fun k_ hk => ⟨(.inl (.inl hk)), fun e_ => hp0_0_0_1 k_ hk (ho0_1.1 k_ e_.symm)⟩))
 have HO0_1 := Qz.mk (show Kd.R k170 170 w w0.heap.size (fun k_ => ((P0_0_ k_ ∨ P0_1_ k_ ∨ P0_2_ k_) ∨ w.heap.size ≤ k_) ∧ some k_ ≠ (u9000_ : Value).ownBlock) u9001_ l0_1 from Kd.R_mono ho0_1 (fun k_ hk => ⟨(.inl (.inr (.inl hk))), fun e_ => hp0_1_0_0 k_ hk (ho0_0.1 k_ e_.symm)⟩))
 have HO0_2 := Qz.mk (show Kd.R k157 157 w w0.heap.size (fun k_ => ((P0_0_ k_ ∨ P0_1_ k_ ∨ P0_2_ k_) ∨ w.heap.size ≤ k_)) u9002_ l0_2 from Kd.R_mono ho0_2 (fun k_ hk => (.inl (.inr (.inr hk)))))
 have HK := Qz.mk (Kept.refl w (fun k_ => P0_0_ k_ ∨ P0_1_ k_ ∨ P0_2_ k_))
 have HW0 := Qz.mk hB.size
 have HB := Qz.mk hB
 clear hB
 have H : ((laws_markFileS.f k l0_0 a1).bind fun bt102 => ((laws_markFileS.f k l0_1 bt102.1).bind fun bt104 => ((laws_markDOpS.f k l0_2 bt104.1).bind fun bt106 => (some (bt106.1, bt102.2, bt104.2, bt106.2))))) = some (r1, r2, r3, r4) := h
 clear h
 replace H := Option.bind_eq_some_iff.mp H
 obtain ⟨⟨t102, t103⟩, A30, H⟩ := H
 replace H : ((laws_markFileS.f k l0_1 t102).bind fun bt104 => ((laws_markDOpS.f k l0_2 bt104.1).bind fun bt106 => (some (bt106.1, t103, bt104.2, bt106.2)))) = some (r1, r2, r3, r4) := H
 have A3 := Qz.mk A30
 clear A30
 replace H := Option.bind_eq_some_iff.mp H
 obtain ⟨⟨t104, t105⟩, A40, H⟩ := H
 replace H : ((laws_markDOpS.f k l0_2 t104).bind fun bt106 => (some (bt106.1, t103, t105, bt106.2))) = some (r1, r2, r3, r4) := H
 have A4 := Qz.mk A40
 clear A40
 replace H := Option.bind_eq_some_iff.mp H
 obtain ⟨⟨t106, t107⟩, A50, H⟩ := H
 replace H : (some (t106, t103, t105, t107)) = some (r1, r2, r3, r4) := H
 have A5 := Qz.mk A50
 clear A50
 simp only [Option.some.injEq, Prod.mk.injEq] at H
 obtain ⟨rfl, rfl, rfl, rfl⟩ := H
 obtain ⟨Ao6, co6, eo6⟩ := Kd.R_slice HO0_0.out
 subst eo6
 obtain ⟨Ao7, co7, eo7⟩ := Kd.R_slice HO0_1.out
 subst eo7
 obtain ⟨Ao8, co8, eo8⟩ := Kd.R_slice HO0_2.out
 subst eo8
 go_enter Try.func60, Try.ntmps60
 go_wp2_with (first | ((with_reducible refine qt (N := 2) rfl ?_); refine qr ?hg (N := 2) ?hd (cs := #[.slice Ao6 l0_0.length co6, .slice Ao7 l0_1.length co7, .slice Ao8 l0_2.length co8]) (t := 85) ?hr ?_; (case hd => rfl); (case hg => rfl); (case hr => first | (go_simp; done) | (go_simp; rfl)); intro gb101 hg w9 hbox hb; replace HO0_0 := Qz.mk (Kd.R_below (by (with_reducible repeat (first | apply Kd.R_alloc | apply Kd.R_drewN | apply Kd.R_drew)); exact HO0_0.out) hb); replace HO0_1 := Qz.mk (Kd.R_below (by (with_reducible repeat (first | apply Kd.R_alloc | apply Kd.R_drewN | apply Kd.R_drew)); exact HO0_1.out) hb); replace HO0_2 := Qz.mk (Kd.R_below (by (with_reducible repeat (first | apply Kd.R_alloc | apply Kd.R_drewN | apply Kd.R_drew)); exact HO0_2.out) hb); have BK101 := Qz.mk (hbox); have GW101 := Qz.mk ((by rw [hg]; exact (by first | exact HK.out.1 | exact (show Kept w _ (fun k_ => P0_0_ k_ ∨ P0_1_ k_ ∨ P0_2_ k_) from by repeat (first | (with_reducible first | exact HK.out | apply Kept.alloc | apply Kept.drewN | apply Kept.drew) | exact HK.out)).1) : w.heap.size ≤ gb101)); replace HK := Qz.mk (Kept.below (S := (fun k_ => P0_0_ k_ ∨ P0_1_ k_ ∨ P0_2_ k_)) (by repeat (first | (with_reducible first | exact HK.out | apply Kept.alloc | apply Kept.drewN | apply Kept.drew) | exact HK.out)) hb); have GE101 := Qz.mk ((by rw [hg]; exact (qo (by repeat (first | (with_reducible first | exact HB.out | apply qc | apply qa | apply qb) | exact HB.out))) : w0.heap.size ≤ gb101)); replace HB := Qz.mk (ql (by repeat (first | (with_reducible first | exact HB.out | apply qc | apply qa | apply qb) | exact HB.out)) hb); clear hb hbox hg; have hcz10_0 := (qd BK101.out 0).trans rfl; have hcz10_1 := (qd BK101.out 1).trans rfl; have hcz10_2 := (qd BK101.out 2).trans rfl; have hfz10_0 := qe BK101.out 0; have hfz10_1 := qe BK101.out 1; have hfz10_2 := qe BK101.out 2) | ((with_reducible refine qp (f := 130) rfl ?_); refine qc1 (some 8) rfl rfl Try.func130 (by kernel_rfl) rfl #[.slice Ao6 l0_0.length co6, .int .i64 a1] rfl yq130 ?_; (with_reducible refine (laws_markFileS.calls k (fun k_ => some k_ = (.slice Ao6 l0_0.length co6 : Value).ownBlock) (.slice Ao6 l0_0.length co6) l0_0 a1 t102 t103 w0 _ ?side1 ?side2 A3.out).mono ?_); (case side1 => exact yq132); (case side2 => exact Kd.R_tight rfl HO0_0.out); rintro e w11 ⟨rfl, hy0, hb, hkp⟩; refine ⟨_, rfl, ?_⟩; replace HO0_1 := Qz.mk (Kd.R_mono (ok' := fun k_ => ((P0_0_ k_ ∨ P0_1_ k_ ∨ P0_2_ k_) ∨ w.heap.size ≤ k_) ∧ some k_ ≠ (.slice Ao6 l0_0.length co6 : Value).ownBlock) (Kd.R_keptB (HO0_1.out) hkp (fun k_ hk_ hs_ => (hk_.2) hs_)) (fun k_ hk_ => ⟨hk_.1.1, hk_.1.2⟩)); replace HO0_2 := Qz.mk (Kd.R_mono (ok' := fun k_ => ((P0_0_ k_ ∨ P0_1_ k_ ∨ P0_2_ k_) ∨ w.heap.size ≤ k_)) (Kd.R_keptB ((Kd.R_apart' HO0_2.out (Kd.R_typed HO0_0.out) (by decide))) hkp (fun k_ hk_ hs_ => (hk_.2) hs_)) (fun k_ hk_ => hk_.1.1)); replace BK101 := Qz.mk (blk_kept (by (with_reducible repeat (first | refine qh ?_ _ | refine qk ?_ | refine qg ?_ _)); exact BK101.out) hkp (fun hs_ => (fun e_ => (Kd.R_ne HO0_0.out BK101.out (by decide)) e_) hs_)); replace HK := Qz.mk (Kept.then_ (S := (fun k_ => P0_0_ k_ ∨ P0_1_ k_ ∨ P0_2_ k_)) yq131 hkp (fun k_ hs_ => (fun e_ => (HO0_0.out.1 k_ e_.symm).1) hs_)); replace HO0_0 := Qz.mk (Kd.R_reok rfl hy0 (fun k_ e_ => HO0_0.out.1 k_ e_)); replace HB := Qz.mk (hb); (try clear hb); (try clear hkp); (try clear hy0); have hcz12_0 := (qd BK101.out 0).trans rfl; have hcz12_1 := (qd BK101.out 1).trans rfl; have hcz12_2 := (qd BK101.out 2).trans rfl; have hfz12_0 := qe BK101.out 0; have hfz12_1 := qe BK101.out 1; have hfz12_2 := qe BK101.out 2) | ((with_reducible refine qp (f := 130) rfl ?_); refine qc1 (some 12) rfl rfl Try.func130 (by kernel_rfl) rfl #[.slice Ao7 l0_1.length co7, .int .i64 t102] rfl yq130 ?_; (with_reducible refine (laws_markFileS.calls k (fun k_ => some k_ = (.slice Ao7 l0_1.length co7 : Value).ownBlock) (.slice Ao7 l0_1.length co7) l0_1 t102 t104 t105 w0 _ ?side1 ?side2 A4.out).mono ?_); (case side1 => exact yq132); (case side2 => exact Kd.R_tight rfl HO0_1.out); rintro e w13 ⟨rfl, hy0, hb, hkp⟩; refine ⟨_, rfl, ?_⟩; replace HO0_0 := Qz.mk (Kd.R_mono (ok' := fun k_ => ((P0_0_ k_ ∨ P0_1_ k_ ∨ P0_2_ k_) ∨ w.heap.size ≤ k_) ∧ some k_ ≠ (.slice Ao7 l0_1.length co7 : Value).ownBlock) (Kd.R_keptB (HO0_0.out) hkp (fun k_ hk_ hs_ => (hk_.2) hs_)) (fun k_ hk_ => ⟨hk_.1.1, hk_.1.2⟩)); replace HO0_2 := Qz.mk (Kd.R_mono (ok' := fun k_ => ((P0_0_ k_ ∨ P0_1_ k_ ∨ P0_2_ k_) ∨ w.heap.size ≤ k_)) (Kd.R_keptB ((Kd.R_apart' HO0_2.out (Kd.R_typed HO0_1.out) (by decide))) hkp (fun k_ hk_ hs_ => (hk_.2) hs_)) (fun k_ hk_ => hk_.1.1)); replace BK101 := Qz.mk (blk_kept (by (with_reducible repeat (first | refine qh ?_ _ | refine qk ?_ | refine qg ?_ _)); exact BK101.out) hkp (fun hs_ => (fun e_ => (Kd.R_ne HO0_1.out BK101.out (by decide)) e_) hs_)); replace HK := Qz.mk (Kept.then_ (S := (fun k_ => P0_0_ k_ ∨ P0_1_ k_ ∨ P0_2_ k_)) yq131 hkp (fun k_ hs_ => (fun e_ => (HO0_1.out.1 k_ e_.symm).1) hs_)); replace HO0_1 := Qz.mk (Kd.R_reok rfl hy0 (fun k_ e_ => HO0_1.out.1 k_ e_)); replace HB := Qz.mk (hb); (try clear hb); (try clear hkp); (try clear hy0); have hcz14_0 := (qd BK101.out 0).trans rfl; have hcz14_1 := (qd BK101.out 1).trans rfl; have hcz14_2 := (qd BK101.out 2).trans rfl; have hfz14_0 := qe BK101.out 0; have hfz14_1 := qe BK101.out 1; have hfz14_2 := qe BK101.out 2) | ((with_reducible refine qp (f := 131) rfl ?_); refine qc1 (some 16) rfl rfl Try.func131 (by kernel_rfl) rfl #[.slice Ao8 l0_2.length co8, .int .i64 t104] rfl yq130 ?_; (with_reducible refine (laws_markDOpS.calls k (fun k_ => some k_ = (.slice Ao8 l0_2.length co8 : Value).ownBlock) (.slice Ao8 l0_2.length co8) l0_2 t104 t106 t107 w0 _ ?side1 ?side2 A5.out).mono ?_); (case side1 => exact yq132); (case side2 => exact Kd.R_tight rfl HO0_2.out); rintro e w15 ⟨rfl, hy0, hb, hkp⟩; refine ⟨_, rfl, ?_⟩; replace HO0_0 := Qz.mk (Kd.R_mono (ok' := fun k_ => ((P0_0_ k_ ∨ P0_1_ k_ ∨ P0_2_ k_) ∨ w.heap.size ≤ k_) ∧ some k_ ≠ (.slice Ao7 l0_1.length co7 : Value).ownBlock) (Kd.R_keptB ((Kd.R_apart' HO0_0.out (Kd.R_typed HO0_2.out) (by decide))) hkp (fun k_ hk_ hs_ => (hk_.2) hs_)) (fun k_ hk_ => ⟨hk_.1.1.1, hk_.1.1.2⟩)); replace HO0_1 := Qz.mk (Kd.R_mono (ok' := fun k_ => ((P0_0_ k_ ∨ P0_1_ k_ ∨ P0_2_ k_) ∨ w.heap.size ≤ k_) ∧ some k_ ≠ (.slice Ao6 l0_0.length co6 : Value).ownBlock) (Kd.R_keptB ((Kd.R_apart' HO0_1.out (Kd.R_typed HO0_2.out) (by decide))) hkp (fun k_ hk_ hs_ => (hk_.2) hs_)) (fun k_ hk_ => ⟨hk_.1.1.1, hk_.1.1.2⟩)); replace BK101 := Qz.mk (blk_kept (by (with_reducible repeat (first | refine qh ?_ _ | refine qk ?_ | refine qg ?_ _)); exact BK101.out) hkp (fun hs_ => (fun e_ => (Kd.R_ne HO0_2.out BK101.out (by decide)) e_) hs_)); replace HK := Qz.mk (Kept.then_ (S := (fun k_ => P0_0_ k_ ∨ P0_1_ k_ ∨ P0_2_ k_)) yq131 hkp (fun k_ hs_ => (fun e_ => (HO0_2.out.1 k_ e_.symm)) hs_)); replace HO0_2 := Qz.mk (Kd.R_reok rfl hy0 (fun k_ e_ => HO0_2.out.1 k_ e_)); replace HB := Qz.mk (hb); (try clear hb); (try clear hkp); (try clear hy0)))
 go_ret
 exact ⟨by first | rfl | (simp [qn, qm] <;> rfl) | (simp [*, qn, qm] <;> rfl), by (with_reducible repeat (first | apply Kd.R_alloc | apply Kd.R_drewN | apply Kd.R_drew)); exact Kd.R_mono HO0_0.out (fun _ hk => hk.1), by (with_reducible repeat (first | apply Kd.R_alloc | apply Kd.R_drewN | apply Kd.R_drew)); exact Kd.R_mono HO0_1.out (fun _ hk => hk.1), by (with_reducible repeat (first | apply Kd.R_alloc | apply Kd.R_drewN | apply Kd.R_drew)); exact HO0_2.out, by repeat (first | (with_reducible first | exact HB.out | apply qc | apply qa | apply qb | refine qf ?_ GE101.out) | exact HB.out), by repeat (first | (with_reducible first | exact HK.out | apply Kept.alloc | apply Kept.drewN | apply Kept.drew | refine Kept.setCell ?_ (.inr GW101.out) _) | exact HK.out)⟩
def laws_markInt64S.l0 : Nat → List Int → Int → Int → Option (Int × List Int)
 | 0, _, _, _ => none
 | k + 1, x0, x1, x5 => if x5 < (x0.length : Int) then (if 0 ≤ x5 then (laws_markInt64S.l0 k (x0.set (x5 : Int).toNat x1) (wrap64 (x1 + 1)) (wrap64 (x5 + 1))) else (none)) else (some (x1, x0))
def laws_markInt64S.f (k : Nat) (l0 : List Int) (a1 : Int) : Option (Int × List Int) := laws_markInt64S.l0 k l0 a1 0
set_option maxHeartbeats 8000000 in
set_option maxRecDepth 100000 in
theorem laws_markInt64S.calls (k : Nat) (P0_ : Nat → Prop) (u9000_ : Value) (l0 : List Int) (a1 : Int) (r1 : Int) (r2 : List Int) (w0 w : World) (hB : Below w0.heap.size w0 w) (ho0 : Kd.R (Kd.int .i64) 2 w w0.heap.size P0_ u9000_ l0) (h : laws_markInt64S.f k l0 a1 = some (r1, r2)) :
  Calls Try.prog 61 #[u9000_, .int .i64 a1] w fun e w' => e = .returned (.int .i64 r1) ∧ Kd.R (Kd.int .i64) 2 w' w0.heap.size (fun k_ => (P0_ k_ ∨ w.heap.size ≤ k_)) u9000_ r2 ∧ Below w0.heap.size w0 w' ∧ Kept w w' (fun k_ => P0_ k_) := by
 have HO0 := Qz.mk (show Kd.R (Kd.int .i64) 2 w w0.heap.size (fun k_ => (P0_ k_ ∨ w.heap.size ≤ k_)) u9000_ l0 from Kd.R_mono ho0 (fun k_ hk => (.inl hk)))
 have HK := Qz.mk (Kept.refl w (fun k_ => P0_ k_))
 have HW0 := Qz.mk hB.size
 have HB := Qz.mk hB
 clear hB
 have H : (laws_markInt64S.l0 k l0 a1 0) = some (r1, r2) := h
 clear h
 have H' := Qz.mk H
 clear H
 go_enter Try.func61, Try.ntmps61
 go_wp2
 go_loopg [1, 5] k (fun kq v1 v5 w' => ∃ (x0_1 : List Int) (x1_1 : Int) (x5_1 : Int), v1 = .int .i64 x1_1 ∧ v5 = .int .i64 x5_1 ∧ Qz (laws_markInt64S.l0 kq x0_1 x1_1 x5_1 = some (r1, r2)) ∧ Qz (kq ≤ k) ∧ Qz (Kd.R (Kd.int .i64) 2 w' w0.heap.size (fun k_ => (P0_ k_ ∨ w.heap.size ≤ k_)) u9000_ x0_1) ∧ Qz (Kept w w' (fun k_ => P0_ k_)) ∧ Qz (Below w0.heap.size w0 w'))
 case atStart => exact ⟨(l0), (a1), (0), (by first | rfl | (simp; done) | (simp [*]; done)), (by first | rfl | (simp; done) | (simp [*]; done)), H', ⟨Nat.le_refl _⟩, ⟨by (with_reducible repeat (first | apply Kd.R_alloc | apply Kd.R_drewN | apply Kd.R_drew)); exact HO0.out⟩, ⟨by repeat (first | (with_reducible first | exact HK.out | apply Kept.alloc | apply Kept.drewN | apply Kept.drew) | exact HK.out)⟩, ⟨by repeat (first | (with_reducible first | exact HB.out | apply qc | apply qa | apply qb) | exact HB.out)⟩⟩
 case round =>
  clear H'
  try clear p2
  obtain ⟨x0_1, x1_1, x5_1, rfl, rfl, HA, HK1, HO_0, HK, HB⟩ := hrel
  cases gk with
  | zero => exact absurd HA.out (by simp [laws_markInt64S.l0])
  | succ k1 =>
   have H := HA.out
   clear HA
   simp only [laws_markInt64S.l0] at H
   by_cases c3 : x5_1 < (x0_1.length : Int)
   ·rw [if_pos c3] at H
    have c3b0 : decide (x5_1 < (x0_1.length : Int)) = true := decide_eq_true c3
    clear c3
    by_cases c4 : 0 ≤ x5_1
    ·rw [if_pos c4] at H
     have c4b0 : decide (0 ≤ x5_1) = true := decide_eq_true c4
     clear c4
     obtain ⟨y101, hy101⟩ : ∃ y_ : List Int, y_ = (x0_1.set (x5_1 : Int).toNat x1_1) := ⟨_, rfl⟩
     replace H : (laws_markInt64S.l0 k1 y101 (wrap64 (x1_1 + 1)) (wrap64 (x5_1 + 1))) = some (r1, r2) := by first | (rw [hy101]; with_reducible exact H) | (have H2_ := (Option.bind_some _ _).symm.trans H; rw [hy101]; with_reducible exact H2_) | (have H2_ := (Option.bind_some _ _).symm.trans H; with_reducible exact H2_) | with_reducible exact H | (rw [hy101]; exact H) | exact H
     have Ny101 := Qz.mk hy101
     clear hy101
     have H' := Qz.mk H
     clear H
     obtain ⟨Ao6, co6, eo6⟩ := Kd.R_slice HO_0.out
     subst eo6
     have p5 : 0 ≤ (x5_1 : Int) := of_decide_eq_true (by first | (with_reducible assumption) | assumption)
     have q5 : (x5_1 : Int) < ((x0_1.length : Int) : Int) := of_decide_eq_true (by first | (with_reducible assumption) | assumption)
     obtain ⟨go5, co5, eo5, gb5, gl5, cl5, HG5⟩ := Kd.R_form HO_0.out (by omega)
     (first | cases eo5 | (injection eo5 with ea_ en_ ec_; (first | subst ea_ | (injection ea_ with ea_; subst ea_)); subst ec_; clear en_))
     have GB5 := Qz.mk gb5
     have GG5 := Qz.mk HG5
     clear gb5 gl5 HG5
     have HMgo5 := Qz.mk (show (P0_ go5 ∨ w.heap.size ≤ go5) from (HO_0.out.1 _ rfl))
     obtain ⟨hx5_0, hf5_0⟩ := Kd.R_celln 0 HO_0.out (x5_1 : Int) p5 q5
     replace p5 := eq_true p5
     replace q5 := eq_true q5
     have HP7 := Kd.R_putg HO_0.out (x5_1 : Int) x1_1
     go_wp2_with (first | ((with_reducible refine gate_store (t := 2) (p := 15) rfl ?_); refine store_event (t := 2) (p := 15) (v := ?vo_w8) (w1 := (wr.setCell ⟨go5, (x5_1 : Int).toNat, none⟩ (.int .i64 x1_1))) ?hg ?ho ?hn ?hr ?_; (case ho => rfl); (case hg => rfl); (case hn => rfl); (case hr => first | (go_simp; done) | (go_simp; rfl)); intro w8 hw; have hg : wr.grownBy w8 (some go5) := (by rw [hw]; exact HP7.2); have hp_ : Kd.R (Kd.int .i64) 2 w8 w0.heap.size (fun k_ => (P0_ k_ ∨ w.heap.size ≤ k_)) (.slice (some ⟨go5, 0, none⟩) x0_1.length co6) y101 := (by rw [hw, Ny101.out]; exact HP7.1); clear HP7; replace HB := Qz.mk ((by rw [hw]; exact qf (HB.out) GB5.out : Below w0.heap.size w0 w8)); replace HK := Qz.mk (Kept.of_grown (S := (fun k_ => P0_ k_)) hg (by repeat (first | (with_reducible first | exact HK.out | apply Kept.alloc | apply Kept.drewN | apply Kept.drew) | exact HK.out)) (fun k_ e_ => (HO_0.out.1 k_ e_))); replace HO_0 := Qz.mk (hp_); clear hg hw hp_))
     go_roundg k1
     case measure => have := HK1.out; omega
     case rel => exact ⟨(y101), (wrap64 (x1_1 + 1)), (wrap64 (x5_1 + 1)), (by first | rfl | (simp; done) | (simp [*]; done)), (by first | rfl | (simp; done) | (simp [*]; done)), H', ⟨by have := HK1.out; omega⟩, ⟨by (with_reducible repeat (first | apply Kd.R_alloc | apply Kd.R_drewN | apply Kd.R_drew)); exact HO_0.out⟩, ⟨by repeat (first | (with_reducible first | exact HK.out | apply Kept.alloc | apply Kept.drewN | apply Kept.drew) | exact HK.out)⟩, ⟨by repeat (first | (with_reducible first | exact HB.out | apply qc | apply qa | apply qb) | exact HB.out)⟩⟩
    ·rw [if_neg c4] at H
     exact absurd H (by simp)
   ·rw [if_neg c3] at H
    have c3b0 : decide (x5_1 < (x0_1.length : Int)) = false := decide_eq_false c3
    clear c3
    simp only [Option.some.injEq, Prod.mk.injEq] at H
    obtain ⟨rfl, rfl⟩ := H
    obtain ⟨Ao9, co9, eo9⟩ := Kd.R_slice HO_0.out
    subst eo9
    go_wp2
    go_ret
    exact ⟨by first | rfl | (simp [qn, qm] <;> rfl) | (simp [*, qn, qm] <;> rfl), by (with_reducible repeat (first | apply Kd.R_alloc | apply Kd.R_drewN | apply Kd.R_drew)); exact HO_0.out, by repeat (first | (with_reducible first | exact HB.out | apply qc | apply qa | apply qb) | exact HB.out), by repeat (first | (with_reducible first | exact HK.out | apply Kept.alloc | apply Kept.drewN | apply Kept.drew) | exact HK.out)⟩
end Go.Proofs.Ytidjdkodgddfcaa.P
end
