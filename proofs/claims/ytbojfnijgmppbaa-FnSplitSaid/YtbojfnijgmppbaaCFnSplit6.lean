/- Proved: the law FnSplit of the given program returns true for every input of its Go types and leaves each argument as it was; no condition. (Part 7 of 12.) -/
import Derived.Test.YtbojfnijgmppbaaCFnSplit4
import Derived.Test.YtbojfnijgmppbaaCFnSplit5
section
namespace Go.Proofs.Ytbojfnijgmppbaa.P
open Go.RowKit Go.Proofs.YtbojfnijgmppbaaW.PrintWords Go.Proofs.YtbojfnijgmppbaaW.PrintLast Go.Proofs.YtbojfnijgmppbaaW.PrintMore
attribute [local go_sem] str_gtr str_leq str_geq max2_int min2_int max_two min_two max_three min_three max_four min_four
set_option linter.unusedVariables false
set_option linter.unusedSimpArgs false
def impl_EntriesOk.l0 : Nat → List (S48) → List (S48) → Int → Int → Option (Bool)
 | 0, _, _, _, _ => none
 | k + 1, x0, x8, x9, x10 => if x10 < x9 then (if 0 ≤ x10 then (if x10 < (x8.length : Int) then ((impl_EntryOk.f ((qb x8 x10).f0.f0) ((qb x8 x10).f0.f1) ((qb x8 x10).f0.f2) ((qb x8 x10).f1)).bind fun t103 => (if t103 = true then (if x10 > 0 then (if 0 ≤ (wrap64 (x10 - 1)) then (if (wrap64 (x10 - 1)) < (x0.length : Int) then ((impl_cmpKeys.f k ((qb x0 (wrap64 (x10 - 1))).f0.f0) ((qb x0 (wrap64 (x10 - 1))).f0.f1) ((qb x0 (wrap64 (x10 - 1))).f0.f2) ((qb x8 x10).f0.f0) ((qb x8 x10).f0.f1) ((qb x8 x10).f0.f2)).bind fun t105 => (if t105 ≥ 0 then (some false) else (impl_EntriesOk.l0 k x0 x8 x9 (wrap64 (x10 + 1))))) else (none)) else (none)) else (impl_EntriesOk.l0 k x0 x8 x9 (wrap64 (x10 + 1)))) else (some false))) else (none)) else (none)) else (some true)
def impl_EntriesOk.f (k : Nat) (l0 : List (S48)) : Option (Bool) := if (l0.length : Int) > 400 then (some false) else (impl_EntriesOk.l0 k l0 l0 (l0.length : Int) 0)
def impl_EntriesOk.T6 : Bool × List (List Nat × List Nat) := (true, [([], []), ([0], [0]), ([1], [1]), ([2, 1], [2]), ([3], [3]), ([4, 3], [3, 4]), ([5, 3, 3], [3, 5]), ([6], [6]), ([6], [6]), ([8, 6], [6, 8]), ([7, 9, 6], [6, 7, 9]), ([10, 6], [6, 10]), ([11, 6], [6, 11]), ([6], [6]), ([13, 6], [6, 13]), ([12, 14, 6, 6], [6, 12, 14]), ([15, 6], [6, 15]), ([6, 16, 3], [3, 6, 16]), ([3, 17], [3, 17])])
def impl_EntriesOk.B6 : List Nat := [0, 1, 3, 7, 15, 31, 63, 127, 127, 383, 1023, 2047, 4095, 127, 8319, 32767, 65535, 131071, 262143]
theorem impl_EntriesOk.tab6 : rtab .any (opsOf Try.f44 6) = impl_EntriesOk.T6 := by kernel_rfl
theorem impl_EntriesOk.bits6 : waitsOk impl_EntriesOk.T6.2 impl_EntriesOk.B6 = true := by kernel_rfl
set_option maxHeartbeats 8000000 in
set_option maxRecDepth 100000 in
theorem impl_EntriesOk.calls (k : Nat) (A0 : Option Addr) (c0 : Nat) (l0 : List (S48)) (r : Bool) (w : World) (hr0 : Kd.C k48 w A0 l0.length l0) (hc0 : l0.length ≤ c0) (h : impl_EntriesOk.f k l0 = some r) :
  Calls Try.prog 44 #[.slice A0 l0.length c0] w fun e w' => e = .returned (.bool r) ∧ Below w.heap.size w w' := by
 have hu48 := Try.underlying48
 have hu46 := Try.underlying46
 have HR0 := Qz.mk hr0
 have HC0 := Qz.mk hc0
 clear hr0 hc0
 have HB := Qz.mk (Below.refl w.heap.size w)
 have H : (if (l0.length : Int) > 400 then (some false) else (impl_EntriesOk.l0 k l0 l0 (l0.length : Int) 0)) = some r := h
 clear h
 by_cases c2 : (l0.length : Int) > 400
 ·rw [if_pos c2] at H
  have c2b0 : decide (400 < (l0.length : Int)) = true := decide_eq_true c2
  have c2b1 : decide (400 < l0.length) = true := decide_eq_true (by omega)
  clear c2
  obtain rfl := Option.some.inj H
  go_enter Try.func44, Try.ntmps44
  go_wp2
  go_ret
  exact ⟨by first | rfl | (simp [qq, qp] <;> rfl) | (simp [*, qq, qp] <;> rfl), by repeat (first | (with_reducible first | exact HB.out | apply qd | apply qa | apply qc) | exact HB.out)⟩
 ·rw [if_neg c2] at H
  have c2b0 : decide (400 < (l0.length : Int)) = false := decide_eq_false c2
  have c2b1 : decide (400 < l0.length) = false := decide_eq_false (by omega)
  clear c2
  have H' := Qz.mk H
  clear H
  go_enter Try.func44, Try.ntmps44
  go_wp2
  go_loopg [10] k (fun kq v10 w' => ∃ (x10_1 : Int), v10 = .int .i64 x10_1 ∧ Qz (impl_EntriesOk.l0 kq l0 l0 (l0.length : Int) x10_1 = some r) ∧ Qz (kq ≤ k) ∧ Qz (Below w.heap.size w w'))
  case atStart => exact ⟨(0), (by first | rfl | (simp; done) | (simp [*]; done)), H', ⟨Nat.le_refl _⟩, ⟨by repeat (first | (with_reducible first | exact HB.out | apply qd | apply qa | apply qc) | exact HB.out)⟩⟩
  case round =>
   clear H'
   try clear c2
   try clear c2b0
   try clear c2b1
   try clear p2
   obtain ⟨x10_1, rfl, HA, HK1, HB⟩ := hrel
   cases gk with
   | zero => exact absurd HA.out (by simp [impl_EntriesOk.l0])
   | succ k1 =>
    have H := HA.out
    clear HA
    simp only [impl_EntriesOk.l0] at H
    by_cases c3 : x10_1 < (l0.length : Int)
    ·rw [if_pos c3] at H
     have c3b0 : decide (x10_1 < (l0.length : Int)) = true := decide_eq_true c3
     clear c3
     by_cases c4 : 0 ≤ x10_1
     ·rw [if_pos c4] at H
      have c4b0 : decide (0 ≤ x10_1) = true := decide_eq_true c4
      clear c4
      by_cases c5 : x10_1 < (l0.length : Int)
      ·rw [if_pos c5] at H
       have c5b0 : decide (x10_1 < (l0.length : Int)) = true := decide_eq_true c5
       clear c5
       replace H := Option.bind_eq_some_iff.mp H
       obtain ⟨t103, A60, H⟩ := H
       replace H : (if t103 = true then (if x10_1 > 0 then (if 0 ≤ (wrap64 (x10_1 - 1)) then (if (wrap64 (x10_1 - 1)) < (l0.length : Int) then ((impl_cmpKeys.f k1 ((qb l0 (wrap64 (x10_1 - 1))).f0.f0) ((qb l0 (wrap64 (x10_1 - 1))).f0.f1) ((qb l0 (wrap64 (x10_1 - 1))).f0.f2) ((qb l0 x10_1).f0.f0) ((qb l0 x10_1).f0.f1) ((qb l0 x10_1).f0.f2)).bind fun t105 => (if t105 ≥ 0 then (some false) else (impl_EntriesOk.l0 k1 l0 l0 (l0.length : Int) (wrap64 (x10_1 + 1))))) else (none)) else (none)) else (impl_EntriesOk.l0 k1 l0 l0 (l0.length : Int) (wrap64 (x10_1 + 1)))) else (some false)) = some r := H
       have A6 := Qz.mk A60
       clear A60
       by_cases c7 : t103 = true
       ·subst c7
        have H1 : (if x10_1 > 0 then (if 0 ≤ (wrap64 (x10_1 - 1)) then (if (wrap64 (x10_1 - 1)) < (l0.length : Int) then ((impl_cmpKeys.f k1 ((qb l0 (wrap64 (x10_1 - 1))).f0.f0) ((qb l0 (wrap64 (x10_1 - 1))).f0.f1) ((qb l0 (wrap64 (x10_1 - 1))).f0.f2) ((qb l0 x10_1).f0.f0) ((qb l0 x10_1).f0.f1) ((qb l0 x10_1).f0.f2)).bind fun t105 => (if t105 ≥ 0 then (some false) else (impl_EntriesOk.l0 k1 l0 l0 (l0.length : Int) (wrap64 (x10_1 + 1))))) else (none)) else (none)) else (impl_EntriesOk.l0 k1 l0 l0 (l0.length : Int) (wrap64 (x10_1 + 1)))) = some r := by rw [if_pos rfl] at H; exact H
        clear H
        have H := H1
        clear H1
        by_cases c8 : x10_1 > 0
        ·rw [if_pos c8] at H
         have c8b0 : decide (0 < x10_1) = true := decide_eq_true c8
         clear c8
         obtain ⟨ji9, hji9⟩ : ∃ j_ : Int, (wrap64 (x10_1 - 1)) = j_ := ⟨_, rfl⟩
         replace H : (if 0 ≤ (ji9) then (if (ji9) < (l0.length : Int) then ((impl_cmpKeys.f k1 ((qb l0 (ji9)).f0.f0) ((qb l0 (ji9)).f0.f1) ((qb l0 (ji9)).f0.f2) ((qb l0 x10_1).f0.f0) ((qb l0 x10_1).f0.f1) ((qb l0 x10_1).f0.f2)).bind fun t105 => (if t105 ≥ 0 then (some false) else (impl_EntriesOk.l0 k1 l0 l0 (l0.length : Int) (wrap64 (x10_1 + 1))))) else (none)) else (none)) = some r := by first | (rw [hji9] at H; exact H) | (simp only [hji9] at H ⊢; exact H)
         (try rw [hji9] at A6)
         have hji9w : (IntKind.i64.wrap (x10_1 - 1)) = ji9 := (i64_w _).trans hji9
         by_cases c10 : 0 ≤ (ji9)
         ·rw [if_pos c10] at H
          have c10b0 : decide (0 ≤ (ji9)) = true := decide_eq_true c10
          clear c10
          by_cases c11 : (ji9) < (l0.length : Int)
          ·rw [if_pos c11] at H
           have c11b0 : decide ((ji9) < (l0.length : Int)) = true := decide_eq_true c11
           clear c11
           replace H := Option.bind_eq_some_iff.mp H
           obtain ⟨t105, A120, H⟩ := H
           replace H : (if t105 ≥ 0 then (some false) else (impl_EntriesOk.l0 k1 l0 l0 (l0.length : Int) (wrap64 (x10_1 + 1)))) = some r := H
           have A12 := Qz.mk A120
           clear A120
           by_cases c13 : t105 ≥ 0
           ·rw [if_pos c13] at H
            have c13b0 : decide (0 ≤ t105) = true := decide_eq_true c13
            clear c13
            obtain rfl := Option.some.inj H
            have p101 : 0 ≤ (x10_1 : Int) := of_decide_eq_true (by first | (with_reducible assumption) | assumption)
            have q101 : x10_1 < (l0.length : Int) := of_decide_eq_true (by first | (with_reducible assumption) | assumption)
            obtain ⟨ad101, e101, hx101_0, hx101_1, hx101_2, hx101_3⟩ := at_T48 HR0.out x10_1 p101 q101
            cases e101
            replace hx101_0 := (HB.out.cell (World.block_lt_of_cell? w _ hx101_0)).trans hx101_0
            replace hx101_1 := (HB.out.cell (World.block_lt_of_cell? w _ hx101_1)).trans hx101_1
            replace hx101_2 := (HB.out.cell (World.block_lt_of_cell? w _ hx101_2)).trans hx101_2
            replace hx101_3 := (HB.out.cell (World.block_lt_of_cell? w _ hx101_3)).trans hx101_3
            replace p101 := eq_true p101
            replace q101 := eq_true q101
            try go_wp2_with (first | ((with_reducible refine qx (N := 4) rfl ?_); refine qa1 ?hg (N := 4) ?hd (cs := #[.string (⟨#[]⟩ : ByteArray), .int .i64 0, .int .i64 0, .string (⟨#[]⟩ : ByteArray)]) (t := 48) ?hr ?_; (case hd => rfl); (case hg => rfl); (case hr => first | (go_simp; done) | (go_simp; rfl)); intro gb102 hg w14 hbox hb; have BK102 := Qz.mk (hbox); have GW102 := Qz.mk ((by rw [hg]; exact (qu (by repeat (first | (with_reducible first | exact HB.out | apply qd | apply qa | apply qc) | exact HB.out))) : w.heap.size ≤ gb102)); have GE102 := GW102; replace HB := Qz.mk (qo (by repeat (first | (with_reducible first | exact HB.out | apply qd | apply qa | apply qc) | exact HB.out)) hb); clear hb hbox hg; have hcz15_0 : w14.cell? ⟨gb102, 0, none⟩ = some (.string (⟨#[]⟩ : ByteArray)) := (qh BK102.out 0).trans rfl; have hcz15_1 : w14.cell? ⟨gb102, 1, none⟩ = some (.int .i64 0) := (qh BK102.out 1).trans rfl; have hcz15_2 : w14.cell? ⟨gb102, 2, none⟩ = some (.int .i64 0) := (qh BK102.out 2).trans rfl; have hcz15_3 : w14.cell? ⟨gb102, 3, none⟩ = some (.string (⟨#[]⟩ : ByteArray)) := (qh BK102.out 3).trans rfl; have hfz15_0 := qg BK102.out 0; have hfz15_1 := qg BK102.out 1; have hfz15_2 := qg BK102.out 2; have hfz15_3 := qg BK102.out 3))
            have n0_ : Qz (((((w14.setCell ⟨gb102, 0, none⟩ (.string ((qb l0 x10_1).f0.f0))).setCell ⟨gb102, 1, none⟩ (.int .i64 ((qb l0 x10_1).f0.f1))).setCell ⟨gb102, 2, none⟩ (.int .i64 ((qb l0 x10_1).f0.f2))).setCell ⟨gb102, 3, none⟩ (.string ((qb l0 x10_1).f1))).heap[gb102]? = some (.cells #[.string ((qb l0 x10_1).f0.f0), .int .i64 ((qb l0 x10_1).f0.f1), .int .i64 ((qb l0 x10_1).f0.f2), .string ((qb l0 x10_1).f1)] 48 (0, 0))) := ⟨by (with_reducible repeat (first | refine qe ?_ _ | refine qj ?_ | refine qf ?_ _)); refine qt (cs := #[.string ((qb l0 x10_1).f0.f0), .int .i64 ((qb l0 x10_1).f0.f1), .int .i64 ((qb l0 x10_1).f0.f2), .string (⟨#[]⟩ : ByteArray)]) ?_ 3 _ rfl; (with_reducible repeat (first | refine qe ?_ _ | refine qj ?_ | refine qf ?_ _)); refine qt (cs := #[.string ((qb l0 x10_1).f0.f0), .int .i64 ((qb l0 x10_1).f0.f1), .int .i64 0, .string (⟨#[]⟩ : ByteArray)]) ?_ 2 _ rfl; (with_reducible repeat (first | refine qe ?_ _ | refine qj ?_ | refine qf ?_ _)); refine qt (cs := #[.string ((qb l0 x10_1).f0.f0), .int .i64 0, .int .i64 0, .string (⟨#[]⟩ : ByteArray)]) ?_ 1 _ rfl; (with_reducible repeat (first | refine qe ?_ _ | refine qj ?_ | refine qf ?_ _)); refine qt (cs := #[.string (⟨#[]⟩ : ByteArray), .int .i64 0, .int .i64 0, .string (⟨#[]⟩ : ByteArray)]) ?_ 0 _ rfl; (with_reducible repeat (first | refine qe ?_ _ | refine qj ?_ | refine qf ?_ _)); exact BK102.out⟩
            have n1_ : Qz (Below w.heap.size w ((((w14.setCell ⟨gb102, 0, none⟩ (.string ((qb l0 x10_1).f0.f0))).setCell ⟨gb102, 1, none⟩ (.int .i64 ((qb l0 x10_1).f0.f1))).setCell ⟨gb102, 2, none⟩ (.int .i64 ((qb l0 x10_1).f0.f2))).setCell ⟨gb102, 3, none⟩ (.string ((qb l0 x10_1).f1)))) := ⟨by repeat (first | (with_reducible first | exact HB.out | apply qd | apply qa | apply qc | refine qi ?_ GE102.out) | exact HB.out)⟩
            (try clear BK102)
            (try clear HB)
            generalize ((((w14.setCell ⟨gb102, 0, none⟩ (.string ((qb l0 x10_1).f0.f0))).setCell ⟨gb102, 1, none⟩ (.int .i64 ((qb l0 x10_1).f0.f1))).setCell ⟨gb102, 2, none⟩ (.int .i64 ((qb l0 x10_1).f0.f2))).setCell ⟨gb102, 3, none⟩ (.string ((qb l0 x10_1).f1))) = w16 at n0_ n1_ ⊢
            have BK102 := n0_
            have HB := n1_
            clear n0_ n1_
            replace BK102 := Qz.mk (qj BK102.out)
            replace HB := Qz.mk (qc HB.out)
            have p104 : 0 ≤ ((ji9) : Int) := of_decide_eq_true (by first | (with_reducible assumption) | assumption)
            have q104 : (ji9) < (l0.length : Int) := of_decide_eq_true (by first | (with_reducible assumption) | assumption)
            obtain ⟨ad104, e104, hx104_0, hx104_1, hx104_2, hx104_3⟩ := at_T48 HR0.out (ji9) p104 q104
            have hw104_3 := hx104_3
            have hw104_2 := hx104_2
            have hw104_1 := hx104_1
            have hw104_0 := hx104_0
            obtain rfl : ad101 = ad104 := (by injection e104)
            replace hx104_0 := (HB.out.cell (World.block_lt_of_cell? w _ hx104_0)).trans hx104_0
            replace hx104_1 := (HB.out.cell (World.block_lt_of_cell? w _ hx104_1)).trans hx104_1
            replace hx104_2 := (HB.out.cell (World.block_lt_of_cell? w _ hx104_2)).trans hx104_2
            replace hx104_3 := (HB.out.cell (World.block_lt_of_cell? w _ hx104_3)).trans hx104_3
            replace p104 := eq_true p104
            replace q104 := eq_true q104
            refine start_ (n := 19) (S := fun w' => w'.cell? ⟨gb102, 0, none⟩ = some (.string ((qb l0 x10_1).f0.f0)) ∧ w'.cell? ⟨gb102, 1, none⟩ = some (.int .i64 ((qb l0 x10_1).f0.f1)) ∧ w'.cell? ⟨gb102, 2, none⟩ = some (.int .i64 ((qb l0 x10_1).f0.f2)) ∧ w'.cell? ⟨gb102, 3, none⟩ = some (.string ((qb l0 x10_1).f1)) ∧ w'.cell? (ad101.add (((ji9)).toNat * 4)) = some (.string ((qb l0 (ji9)).f0.f0)) ∧ w'.cell? ⟨(ad101.add (((ji9)).toNat * 4)).block, (ad101.add (((ji9)).toNat * 4)).off + 1, none⟩ = some (.int .i64 ((qb l0 (ji9)).f0.f1)) ∧ w'.cell? ⟨(ad101.add (((ji9)).toNat * 4)).block, (ad101.add (((ji9)).toNat * 4)).off + 2, none⟩ = some (.int .i64 ((qb l0 (ji9)).f0.f2)) ∧ w'.cell? ⟨(ad101.add (((ji9)).toNat * 4)).block, (ad101.add (((ji9)).toNat * 4)).off + 3, none⟩ = some (.string ((qb l0 (ji9)).f1))) (ds := []) bq2 (by kernel_rfl) rfl rfl ⟨(qh BK102.out 0).trans rfl, (qh BK102.out 1).trans rfl, (qh BK102.out 2).trans rfl, (qh BK102.out 3).trans rfl, ((HB.out.cell (World.block_lt_of_cell? w _ hw104_0)).trans hw104_0), ((HB.out.cell (World.block_lt_of_cell? w _ hw104_1)).trans hw104_1), ((HB.out.cell (World.block_lt_of_cell? w _ hw104_2)).trans hw104_2), ((HB.out.cell (World.block_lt_of_cell? w _ hw104_3)).trans hw104_3)⟩ (fun hHeld => ?_); refine with_tabW impl_EntriesOk.tab6 impl_EntriesOk.bits6 (fun HT_ HW_ => ?_)
            generalize w16.drew = w17 at BK102 HB hx104_0 hx104_1 hx104_2 hx104_3 hHeld ⊢
            refine take_ (i := 0) (N := some 15) (v := ?_) (a' := ?_) bq8 rfl rfl (take_ofW HT_.out HW_.out (by kernel_rfl)) (fun _ _ _ h => h) (Or.inl ⟨by rfl, ?_⟩) hHeld ?_ ?_
            rotate_left
            ·rintro w' ⟨s0, s1, s2, s3, s4, s5, s6, s7⟩
             go_simp
             with_reducible rfl
            rotate_left
            ·simp only [Act.put, sq1, sq2, sq3, i64_w, i32_w]
             rfl
            refine one_ (i := 1) (N := some 16) bq14 rfl rfl (one_of HT_.out (by kernel_rfl)) (by decide) (fun K hK => ?_)
            refine goes_ Try.func79 (by kernel_rfl) rfl #[.agg #[.string ((qb l0 x10_1).f0.f0), .int .i64 ((qb l0 x10_1).f0.f1), .int .i64 ((qb l0 x10_1).f0.f2), .string ((qb l0 x10_1).f1)]] (by rfl) rfl rfl (by (try simp only [List.map_toArray, List.map_cons, List.map_nil]); first | done | rfl) ?_
            with_reducible refine (impl_EntryOk.calls ((qb l0 x10_1).f0.f0) ((qb l0 x10_1).f0.f1) ((qb l0 x10_1).f0.f2) ((qb l0 x10_1).f1) true _ A6.out).mono ?_
            rintro e w18 ⟨rfl, hb⟩
            refine ⟨_, rfl, ?_⟩
            replace BK102 := Qz.mk (blk_below (g := gb102) (o := .cells #[.string ((qb l0 x10_1).f0.f0), .int .i64 ((qb l0 x10_1).f0.f1), .int .i64 ((qb l0 x10_1).f0.f2), .string ((qb l0 x10_1).f1)] 48 (0, 0)) (by (with_reducible repeat (first | refine qe ?_ _ | refine qj ?_ | refine qf ?_ _)); exact BK102.out) hb)
            replace HB := Qz.mk (qo (by repeat (first | (with_reducible first | exact HB.out | apply qd | apply qa | apply qc | refine qi ?_ GE102.out) | exact HB.out)) hb)
            (try clear hb)
            refine hK.out _ _ ⟨(qh BK102.out 0).trans rfl, (qh BK102.out 1).trans rfl, (qh BK102.out 2).trans rfl, (qh BK102.out 3).trans rfl, ((HB.out.cell (World.block_lt_of_cell? w _ hw104_0)).trans hw104_0), ((HB.out.cell (World.block_lt_of_cell? w _ hw104_1)).trans hw104_1), ((HB.out.cell (World.block_lt_of_cell? w _ hw104_2)).trans hw104_2), ((HB.out.cell (World.block_lt_of_cell? w _ hw104_3)).trans hw104_3)⟩ (fun hHeld => ?_)
            clear hK K
            refine norm_ (a' := ?_) ?_ ?_
            rotate_left
            ·show Act.put _ (some 16) _ = _
             simp only [Act.put, sq1, sq2, sq3, i64_w, i32_w]
             rfl
            refine pure_ (i := 2) (N := some 17) (v := ?_) (a' := ?_) bq20 rfl rfl (qm HT_.out (by kernel_rfl)) (fun _ _ _ h => h) (Or.inl ⟨by rfl, ?_⟩) ?_ ?_
            rotate_left
            ·intro w'
             go_simp
             with_reducible rfl
            rotate_left
            ·simp only [Act.put, sq1, sq2, sq3, i64_w, i32_w]
             rfl
            refine pure_ (i := 3) (N := some 18) (v := ?_) (a' := ?_) bq26 rfl rfl (qm HT_.out (by kernel_rfl)) (fun _ _ _ h => h) (Or.inl ⟨by rfl, ?_⟩) ?_ ?_
            rotate_left
            ·intro w'
             go_simp
             with_reducible rfl
            rotate_left
            ·simp only [Act.put, sq1, sq2, sq3, i64_w, i32_w]
             rfl
            refine pure_ (i := 4) (N := some 19) (v := ?_) (a' := ?_) bq32 rfl rfl (qm HT_.out (by kernel_rfl)) (fun _ _ _ h => h) (Or.inl ⟨by rfl, ?_⟩) ?_ ?_
            rotate_left
            ·intro w'
             go_simp
             with_reducible rfl
            rotate_left
            ·simp only [Act.put, sq1, sq2, sq3, i64_w, i32_w]
             rfl
            refine pure_ (i := 5) (N := some 20) (v := ?_) (a' := ?_) bq38 rfl rfl (qm HT_.out (by kernel_rfl)) (fun _ _ _ h => h) (Or.inl ⟨by rfl, ?_⟩) ?_ ?_
            rotate_left
            ·intro w'
             go_simp
             with_reducible rfl
            rotate_left
            ·simp only [Act.put, sq1, sq2, sq3, i64_w, i32_w]
             rfl
            refine pure_ (i := 6) (N := some 21) (v := ?_) (a' := ?_) bq47 rfl rfl (qm HT_.out (by kernel_rfl)) (fun _ _ _ h => h) (Or.inl ⟨by rfl, ?_⟩) ?_ ?_
            rotate_left
            ·intro w'
             go_simp
             with_reducible rfl
            rotate_left
            ·simp only [Act.put, sq1, sq2, sq3, i64_w, i32_w]
             rfl
            refine pure_ (i := 7) (N := some 22) (v := ?_) (a' := ?_) bq52 rfl rfl (qm HT_.out (by kernel_rfl)) (fun _ _ _ h => h) (Or.inl ⟨by rfl, ?_⟩) ?_ ?_
            rotate_left
            ·intro w'
             go_simp
             with_reducible rfl
            rotate_left
            ·simp only [Act.put, sq1, sq2, sq3, i64_w, i32_w]
             rfl
            refine pure_ (i := 8) (N := some 23) (v := ?_) (a' := ?_) bq57 rfl rfl (qm HT_.out (by kernel_rfl)) (fun _ _ _ h => h) (Or.inl ⟨by rfl, ?_⟩) ?_ ?_
            rotate_left
            ·intro w'
             go_simp
             with_reducible rfl
            rotate_left
            ·simp only [Act.put, sq1, sq2, sq3, i64_w, i32_w]
             rfl
            refine pure_ (i := 9) (N := some 24) (v := ?_) (a' := ?_) bq64 rfl rfl (qm HT_.out (by kernel_rfl)) (fun _ _ _ h => h) (Or.inl ⟨by rfl, ?_⟩) ?_ ?_
            rotate_left
            ·intro w'
             go_simp
             with_reducible rfl
            rotate_left
            ·simp only [Act.put, sq1, sq2, sq3, i64_w, i32_w]
             rfl
            refine pure_ (i := 10) (N := some 25) (v := ?_) (a' := ?_) bq68 rfl rfl (qm HT_.out (by kernel_rfl)) (fun _ _ _ h => h) (Or.inl ⟨by rfl, ?_⟩) ?_ ?_
            rotate_left
            ·intro w'
             go_simp
             with_reducible rfl
            rotate_left
            ·simp only [Act.put, sq1, sq2, sq3, i64_w, i32_w]
             rfl
            refine pure_ (i := 11) (N := some 26) (v := ?_) (a' := ?_) bq74 rfl rfl (qm HT_.out (by kernel_rfl)) (fun _ _ _ h => h) (Or.inl ⟨by rfl, ?_⟩) ?_ ?_
            rotate_left
            ·intro w'
             go_simp
             with_reducible rfl
            rotate_left
            ·simp only [Act.put, sq1, sq2, sq3, i64_w, i32_w]
             rfl
            refine pure_ (i := 13) (N := some 28) (v := ?_) (a' := ?_) bq78 rfl rfl (qm HT_.out (by kernel_rfl)) (fun _ _ _ h => h) (Or.inl ⟨by rfl, ?_⟩) ?_ ?_
            rotate_left
            ·intro w'
             go_simp
             with_reducible rfl
            rotate_left
            ·simp only [Act.put, sq1, sq2, sq3, i64_w, i32_w]
             rfl
            refine take_ (i := 12) (N := some 27) (v := ?_) (a' := ?_) bq87 rfl rfl (take_ofW HT_.out HW_.out (by kernel_rfl)) (fun _ _ _ h => h) (Or.inl ⟨by rfl, ?_⟩) hHeld ?_ ?_
            rotate_left
            ·rintro w' ⟨s0, s1, s2, s3, s4, s5, s6, s7⟩
             go_simp
             with_reducible rfl
            rotate_left
            ·simp only [Act.put, sq1, sq2, sq3, i64_w, i32_w]
             rfl
            refine take_ (i := 14) (N := some 29) (v := ?_) (a' := ?_) bq92 rfl rfl (take_ofW HT_.out HW_.out (by kernel_rfl)) (fun _ _ _ h => h) (Or.inl ⟨by rfl, ?_⟩) hHeld ?_ ?_
            rotate_left
            ·rintro w' ⟨s0, s1, s2, s3, s4, s5, s6, s7⟩
             go_simp
             with_reducible rfl
            rotate_left
            ·simp only [Act.put, sq1, sq2, sq3, i64_w, i32_w]
             rfl
            refine one_ (i := 15) (N := some 30) bq100 rfl rfl (one_of HT_.out (by kernel_rfl)) (by decide) (fun K hK => ?_)
            refine goes_ Try.func86 (by kernel_rfl) rfl #[.agg #[.string ((qb l0 (ji9)).f0.f0), .int .i64 ((qb l0 (ji9)).f0.f1), .int .i64 ((qb l0 (ji9)).f0.f2)], .agg #[.string ((qb l0 x10_1).f0.f0), .int .i64 ((qb l0 x10_1).f0.f1), .int .i64 ((qb l0 x10_1).f0.f2)]] (by rfl) rfl rfl (by (try simp only [List.map_toArray, List.map_cons, List.map_nil]); first | done | (simp only [hji9]; rfl) | rfl | (simp only [List.length_drop, List.length_take]; rfl) | (rw [IntWalk.u64_in _ (by omega)] <;> rfl)) ?_
            with_reducible refine (impl_cmpKeys.calls k1 ((qb l0 (ji9)).f0.f0) ((qb l0 (ji9)).f0.f1) ((qb l0 (ji9)).f0.f2) ((qb l0 x10_1).f0.f0) ((qb l0 x10_1).f0.f1) ((qb l0 x10_1).f0.f2) t105 _ A12.out).mono ?_
            rintro e w19 ⟨rfl, hb⟩
            refine ⟨_, rfl, ?_⟩
            replace BK102 := Qz.mk (blk_below (g := gb102) (o := .cells #[.string ((qb l0 x10_1).f0.f0), .int .i64 ((qb l0 x10_1).f0.f1), .int .i64 ((qb l0 x10_1).f0.f2), .string ((qb l0 x10_1).f1)] 48 (0, 0)) (by (with_reducible repeat (first | refine qe ?_ _ | refine qj ?_ | refine qf ?_ _)); exact BK102.out) hb)
            replace HB := Qz.mk (qo (by repeat (first | (with_reducible first | exact HB.out | apply qd | apply qa | apply qc | refine qi ?_ GE102.out) | exact HB.out)) hb)
            (try clear hb)
            refine hK.out _ _ ⟨(qh BK102.out 0).trans rfl, (qh BK102.out 1).trans rfl, (qh BK102.out 2).trans rfl, (qh BK102.out 3).trans rfl, ((HB.out.cell (World.block_lt_of_cell? w _ hw104_0)).trans hw104_0), ((HB.out.cell (World.block_lt_of_cell? w _ hw104_1)).trans hw104_1), ((HB.out.cell (World.block_lt_of_cell? w _ hw104_2)).trans hw104_2), ((HB.out.cell (World.block_lt_of_cell? w _ hw104_3)).trans hw104_3)⟩ (fun hHeld => ?_)
            clear hK K
            refine norm_ (a' := ?_) ?_ ?_
            rotate_left
            ·show Act.put _ (some 30) _ = _
             simp only [Act.put, sq1, sq2, sq3, i64_w, i32_w]
             rfl
            refine pure_ (i := 16) (N := some 31) (v := ?_) (a' := ?_) bq103 rfl rfl (qm HT_.out (by kernel_rfl)) (fun _ _ _ h => h) (Or.inl ⟨by rfl, ?_⟩) ?_ ?_
            rotate_left
            ·intro w'
             go_simp
             with_reducible rfl
            rotate_left
            ·simp only [Act.put, sq1, sq2, sq3, i64_w, i32_w]
             rfl
            refine pure_ (i := 17) (N := some 32) (v := ?_) (a' := ?_) bq111 rfl rfl (qm HT_.out (by kernel_rfl)) (fun _ _ _ h => h) (Or.inl ⟨by rfl, ?_⟩) ?_ ?_
            rotate_left
            ·intro w'
             go_simp
             with_reducible rfl
            rotate_left
            ·simp only [Act.put, sq1, sq2, sq3, i64_w, i32_w]
             rfl
            refine pure_ (i := 18) (N := some 33) (v := ?_) (a' := ?_) bq129 rfl rfl (qm HT_.out (by kernel_rfl)) (fun _ _ _ h => h) (Or.inl ⟨by rfl, ?_⟩) ?_ ?_
            rotate_left
            ·intro w'
             go_simp
             with_reducible rfl
            rotate_left
            ·simp only [Act.put, sq1, sq2, sq3, i64_w, i32_w]
             rfl
            refine done_ (done_of HT_.out (by kernel_rfl)) ?_
            try go_wp2
            go_ret
            exact ⟨by first | rfl | (simp [qq, qp] <;> rfl) | (simp only [← hji9]; first | rfl | (simp [qq, qp] <;> rfl)) | (simp [*, qq, qp] <;> rfl), by repeat (first | (with_reducible first | exact HB.out | apply qd | apply qa | apply qc | refine qi ?_ GE102.out) | exact HB.out)⟩
           ·rw [if_neg c13] at H
            have c13b0 : decide (0 ≤ t105) = false := decide_eq_false c13
            clear c13
            have H' := Qz.mk H
            clear H
            have p101 : 0 ≤ (x10_1 : Int) := of_decide_eq_true (by first | (with_reducible assumption) | assumption)
            have q101 : x10_1 < (l0.length : Int) := of_decide_eq_true (by first | (with_reducible assumption) | assumption)
            obtain ⟨ad101, e101, hx101_0, hx101_1, hx101_2, hx101_3⟩ := at_T48 HR0.out x10_1 p101 q101
            cases e101
            replace hx101_0 := (HB.out.cell (World.block_lt_of_cell? w _ hx101_0)).trans hx101_0
            replace hx101_1 := (HB.out.cell (World.block_lt_of_cell? w _ hx101_1)).trans hx101_1
            replace hx101_2 := (HB.out.cell (World.block_lt_of_cell? w _ hx101_2)).trans hx101_2
            replace hx101_3 := (HB.out.cell (World.block_lt_of_cell? w _ hx101_3)).trans hx101_3
            replace p101 := eq_true p101
            replace q101 := eq_true q101
            try go_wp2_with (first | ((with_reducible refine qx (N := 4) rfl ?_); refine qa1 ?hg (N := 4) ?hd (cs := #[.string (⟨#[]⟩ : ByteArray), .int .i64 0, .int .i64 0, .string (⟨#[]⟩ : ByteArray)]) (t := 48) ?hr ?_; (case hd => rfl); (case hg => rfl); (case hr => first | (go_simp; done) | (go_simp; rfl)); intro gb102 hg w20 hbox hb; have BK102 := Qz.mk (hbox); have GW102 := Qz.mk ((by rw [hg]; exact (qu (by repeat (first | (with_reducible first | exact HB.out | apply qd | apply qa | apply qc) | exact HB.out))) : w.heap.size ≤ gb102)); have GE102 := GW102; replace HB := Qz.mk (qo (by repeat (first | (with_reducible first | exact HB.out | apply qd | apply qa | apply qc) | exact HB.out)) hb); clear hb hbox hg; have hcz21_0 : w20.cell? ⟨gb102, 0, none⟩ = some (.string (⟨#[]⟩ : ByteArray)) := (qh BK102.out 0).trans rfl; have hcz21_1 : w20.cell? ⟨gb102, 1, none⟩ = some (.int .i64 0) := (qh BK102.out 1).trans rfl; have hcz21_2 : w20.cell? ⟨gb102, 2, none⟩ = some (.int .i64 0) := (qh BK102.out 2).trans rfl; have hcz21_3 : w20.cell? ⟨gb102, 3, none⟩ = some (.string (⟨#[]⟩ : ByteArray)) := (qh BK102.out 3).trans rfl; have hfz21_0 := qg BK102.out 0; have hfz21_1 := qg BK102.out 1; have hfz21_2 := qg BK102.out 2; have hfz21_3 := qg BK102.out 3))
            have n0_ : Qz (((((w20.setCell ⟨gb102, 0, none⟩ (.string ((qb l0 x10_1).f0.f0))).setCell ⟨gb102, 1, none⟩ (.int .i64 ((qb l0 x10_1).f0.f1))).setCell ⟨gb102, 2, none⟩ (.int .i64 ((qb l0 x10_1).f0.f2))).setCell ⟨gb102, 3, none⟩ (.string ((qb l0 x10_1).f1))).heap[gb102]? = some (.cells #[.string ((qb l0 x10_1).f0.f0), .int .i64 ((qb l0 x10_1).f0.f1), .int .i64 ((qb l0 x10_1).f0.f2), .string ((qb l0 x10_1).f1)] 48 (0, 0))) := ⟨by (with_reducible repeat (first | refine qe ?_ _ | refine qj ?_ | refine qf ?_ _)); refine qt (cs := #[.string ((qb l0 x10_1).f0.f0), .int .i64 ((qb l0 x10_1).f0.f1), .int .i64 ((qb l0 x10_1).f0.f2), .string (⟨#[]⟩ : ByteArray)]) ?_ 3 _ rfl; (with_reducible repeat (first | refine qe ?_ _ | refine qj ?_ | refine qf ?_ _)); refine qt (cs := #[.string ((qb l0 x10_1).f0.f0), .int .i64 ((qb l0 x10_1).f0.f1), .int .i64 0, .string (⟨#[]⟩ : ByteArray)]) ?_ 2 _ rfl; (with_reducible repeat (first | refine qe ?_ _ | refine qj ?_ | refine qf ?_ _)); refine qt (cs := #[.string ((qb l0 x10_1).f0.f0), .int .i64 0, .int .i64 0, .string (⟨#[]⟩ : ByteArray)]) ?_ 1 _ rfl; (with_reducible repeat (first | refine qe ?_ _ | refine qj ?_ | refine qf ?_ _)); refine qt (cs := #[.string (⟨#[]⟩ : ByteArray), .int .i64 0, .int .i64 0, .string (⟨#[]⟩ : ByteArray)]) ?_ 0 _ rfl; (with_reducible repeat (first | refine qe ?_ _ | refine qj ?_ | refine qf ?_ _)); exact BK102.out⟩
            have n1_ : Qz (Below w.heap.size w ((((w20.setCell ⟨gb102, 0, none⟩ (.string ((qb l0 x10_1).f0.f0))).setCell ⟨gb102, 1, none⟩ (.int .i64 ((qb l0 x10_1).f0.f1))).setCell ⟨gb102, 2, none⟩ (.int .i64 ((qb l0 x10_1).f0.f2))).setCell ⟨gb102, 3, none⟩ (.string ((qb l0 x10_1).f1)))) := ⟨by repeat (first | (with_reducible first | exact HB.out | apply qd | apply qa | apply qc | refine qi ?_ GE102.out) | exact HB.out)⟩
            (try clear BK102)
            (try clear HB)
            generalize ((((w20.setCell ⟨gb102, 0, none⟩ (.string ((qb l0 x10_1).f0.f0))).setCell ⟨gb102, 1, none⟩ (.int .i64 ((qb l0 x10_1).f0.f1))).setCell ⟨gb102, 2, none⟩ (.int .i64 ((qb l0 x10_1).f0.f2))).setCell ⟨gb102, 3, none⟩ (.string ((qb l0 x10_1).f1))) = w22 at n0_ n1_ ⊢
            have BK102 := n0_
            have HB := n1_
            clear n0_ n1_
            replace BK102 := Qz.mk (qj BK102.out)
            replace HB := Qz.mk (qc HB.out)
            have p104 : 0 ≤ ((ji9) : Int) := of_decide_eq_true (by first | (with_reducible assumption) | assumption)
            have q104 : (ji9) < (l0.length : Int) := of_decide_eq_true (by first | (with_reducible assumption) | assumption)
            obtain ⟨ad104, e104, hx104_0, hx104_1, hx104_2, hx104_3⟩ := at_T48 HR0.out (ji9) p104 q104
            have hw104_3 := hx104_3
            have hw104_2 := hx104_2
            have hw104_1 := hx104_1
            have hw104_0 := hx104_0
            obtain rfl : ad101 = ad104 := (by injection e104)
            replace hx104_0 := (HB.out.cell (World.block_lt_of_cell? w _ hx104_0)).trans hx104_0
            replace hx104_1 := (HB.out.cell (World.block_lt_of_cell? w _ hx104_1)).trans hx104_1
            replace hx104_2 := (HB.out.cell (World.block_lt_of_cell? w _ hx104_2)).trans hx104_2
            replace hx104_3 := (HB.out.cell (World.block_lt_of_cell? w _ hx104_3)).trans hx104_3
            replace p104 := eq_true p104
            replace q104 := eq_true q104
            refine start_ (n := 19) (S := fun w' => w'.cell? ⟨gb102, 0, none⟩ = some (.string ((qb l0 x10_1).f0.f0)) ∧ w'.cell? ⟨gb102, 1, none⟩ = some (.int .i64 ((qb l0 x10_1).f0.f1)) ∧ w'.cell? ⟨gb102, 2, none⟩ = some (.int .i64 ((qb l0 x10_1).f0.f2)) ∧ w'.cell? ⟨gb102, 3, none⟩ = some (.string ((qb l0 x10_1).f1)) ∧ w'.cell? (ad101.add (((ji9)).toNat * 4)) = some (.string ((qb l0 (ji9)).f0.f0)) ∧ w'.cell? ⟨(ad101.add (((ji9)).toNat * 4)).block, (ad101.add (((ji9)).toNat * 4)).off + 1, none⟩ = some (.int .i64 ((qb l0 (ji9)).f0.f1)) ∧ w'.cell? ⟨(ad101.add (((ji9)).toNat * 4)).block, (ad101.add (((ji9)).toNat * 4)).off + 2, none⟩ = some (.int .i64 ((qb l0 (ji9)).f0.f2)) ∧ w'.cell? ⟨(ad101.add (((ji9)).toNat * 4)).block, (ad101.add (((ji9)).toNat * 4)).off + 3, none⟩ = some (.string ((qb l0 (ji9)).f1))) (ds := []) bq2 (by kernel_rfl) rfl rfl ⟨(qh BK102.out 0).trans rfl, (qh BK102.out 1).trans rfl, (qh BK102.out 2).trans rfl, (qh BK102.out 3).trans rfl, ((HB.out.cell (World.block_lt_of_cell? w _ hw104_0)).trans hw104_0), ((HB.out.cell (World.block_lt_of_cell? w _ hw104_1)).trans hw104_1), ((HB.out.cell (World.block_lt_of_cell? w _ hw104_2)).trans hw104_2), ((HB.out.cell (World.block_lt_of_cell? w _ hw104_3)).trans hw104_3)⟩ (fun hHeld => ?_); refine with_tabW impl_EntriesOk.tab6 impl_EntriesOk.bits6 (fun HT_ HW_ => ?_)
            generalize w22.drew = w23 at BK102 HB hx104_0 hx104_1 hx104_2 hx104_3 hHeld ⊢
            refine take_ (i := 0) (N := some 15) (v := ?_) (a' := ?_) bq8 rfl rfl (take_ofW HT_.out HW_.out (by kernel_rfl)) (fun _ _ _ h => h) (Or.inl ⟨by rfl, ?_⟩) hHeld ?_ ?_
            rotate_left
            ·rintro w' ⟨s0, s1, s2, s3, s4, s5, s6, s7⟩
             go_simp
             with_reducible rfl
            rotate_left
            ·simp only [Act.put, sq1, sq2, sq3, i64_w, i32_w]
             rfl
            refine one_ (i := 1) (N := some 16) bq14 rfl rfl (one_of HT_.out (by kernel_rfl)) (by decide) (fun K hK => ?_)
            refine goes_ Try.func79 (by kernel_rfl) rfl #[.agg #[.string ((qb l0 x10_1).f0.f0), .int .i64 ((qb l0 x10_1).f0.f1), .int .i64 ((qb l0 x10_1).f0.f2), .string ((qb l0 x10_1).f1)]] (by rfl) rfl rfl (by (try simp only [List.map_toArray, List.map_cons, List.map_nil]); first | done | rfl) ?_
            with_reducible refine (impl_EntryOk.calls ((qb l0 x10_1).f0.f0) ((qb l0 x10_1).f0.f1) ((qb l0 x10_1).f0.f2) ((qb l0 x10_1).f1) true _ A6.out).mono ?_
            rintro e w24 ⟨rfl, hb⟩
            refine ⟨_, rfl, ?_⟩
            replace BK102 := Qz.mk (blk_below (g := gb102) (o := .cells #[.string ((qb l0 x10_1).f0.f0), .int .i64 ((qb l0 x10_1).f0.f1), .int .i64 ((qb l0 x10_1).f0.f2), .string ((qb l0 x10_1).f1)] 48 (0, 0)) (by (with_reducible repeat (first | refine qe ?_ _ | refine qj ?_ | refine qf ?_ _)); exact BK102.out) hb)
            replace HB := Qz.mk (qo (by repeat (first | (with_reducible first | exact HB.out | apply qd | apply qa | apply qc | refine qi ?_ GE102.out) | exact HB.out)) hb)
            (try clear hb)
            refine hK.out _ _ ⟨(qh BK102.out 0).trans rfl, (qh BK102.out 1).trans rfl, (qh BK102.out 2).trans rfl, (qh BK102.out 3).trans rfl, ((HB.out.cell (World.block_lt_of_cell? w _ hw104_0)).trans hw104_0), ((HB.out.cell (World.block_lt_of_cell? w _ hw104_1)).trans hw104_1), ((HB.out.cell (World.block_lt_of_cell? w _ hw104_2)).trans hw104_2), ((HB.out.cell (World.block_lt_of_cell? w _ hw104_3)).trans hw104_3)⟩ (fun hHeld => ?_)
            clear hK K
            refine norm_ (a' := ?_) ?_ ?_
            rotate_left
            ·show Act.put _ (some 16) _ = _
             simp only [Act.put, sq1, sq2, sq3, i64_w, i32_w]
             rfl
            refine pure_ (i := 2) (N := some 17) (v := ?_) (a' := ?_) bq20 rfl rfl (qm HT_.out (by kernel_rfl)) (fun _ _ _ h => h) (Or.inl ⟨by rfl, ?_⟩) ?_ ?_
            rotate_left
            ·intro w'
             go_simp
             with_reducible rfl
            rotate_left
            ·simp only [Act.put, sq1, sq2, sq3, i64_w, i32_w]
             rfl
            refine pure_ (i := 3) (N := some 18) (v := ?_) (a' := ?_) bq26 rfl rfl (qm HT_.out (by kernel_rfl)) (fun _ _ _ h => h) (Or.inl ⟨by rfl, ?_⟩) ?_ ?_
            rotate_left
            ·intro w'
             go_simp
             with_reducible rfl
            rotate_left
            ·simp only [Act.put, sq1, sq2, sq3, i64_w, i32_w]
             rfl
            refine pure_ (i := 4) (N := some 19) (v := ?_) (a' := ?_) bq32 rfl rfl (qm HT_.out (by kernel_rfl)) (fun _ _ _ h => h) (Or.inl ⟨by rfl, ?_⟩) ?_ ?_
            rotate_left
            ·intro w'
             go_simp
             with_reducible rfl
            rotate_left
            ·simp only [Act.put, sq1, sq2, sq3, i64_w, i32_w]
             rfl
            refine pure_ (i := 5) (N := some 20) (v := ?_) (a' := ?_) bq38 rfl rfl (qm HT_.out (by kernel_rfl)) (fun _ _ _ h => h) (Or.inl ⟨by rfl, ?_⟩) ?_ ?_
            rotate_left
            ·intro w'
             go_simp
             with_reducible rfl
            rotate_left
            ·simp only [Act.put, sq1, sq2, sq3, i64_w, i32_w]
             rfl
            refine pure_ (i := 6) (N := some 21) (v := ?_) (a' := ?_) bq47 rfl rfl (qm HT_.out (by kernel_rfl)) (fun _ _ _ h => h) (Or.inl ⟨by rfl, ?_⟩) ?_ ?_
            rotate_left
            ·intro w'
             go_simp
             with_reducible rfl
            rotate_left
            ·simp only [Act.put, sq1, sq2, sq3, i64_w, i32_w]
             rfl
            refine pure_ (i := 7) (N := some 22) (v := ?_) (a' := ?_) bq52 rfl rfl (qm HT_.out (by kernel_rfl)) (fun _ _ _ h => h) (Or.inl ⟨by rfl, ?_⟩) ?_ ?_
            rotate_left
            ·intro w'
             go_simp
             with_reducible rfl
            rotate_left
            ·simp only [Act.put, sq1, sq2, sq3, i64_w, i32_w]
             rfl
            refine pure_ (i := 8) (N := some 23) (v := ?_) (a' := ?_) bq57 rfl rfl (qm HT_.out (by kernel_rfl)) (fun _ _ _ h => h) (Or.inl ⟨by rfl, ?_⟩) ?_ ?_
            rotate_left
            ·intro w'
             go_simp
             with_reducible rfl
            rotate_left
            ·simp only [Act.put, sq1, sq2, sq3, i64_w, i32_w]
             rfl
            refine pure_ (i := 9) (N := some 24) (v := ?_) (a' := ?_) bq64 rfl rfl (qm HT_.out (by kernel_rfl)) (fun _ _ _ h => h) (Or.inl ⟨by rfl, ?_⟩) ?_ ?_
            rotate_left
            ·intro w'
             go_simp
             with_reducible rfl
            rotate_left
            ·simp only [Act.put, sq1, sq2, sq3, i64_w, i32_w]
             rfl
            refine pure_ (i := 10) (N := some 25) (v := ?_) (a' := ?_) bq68 rfl rfl (qm HT_.out (by kernel_rfl)) (fun _ _ _ h => h) (Or.inl ⟨by rfl, ?_⟩) ?_ ?_
            rotate_left
            ·intro w'
             go_simp
             with_reducible rfl
            rotate_left
            ·simp only [Act.put, sq1, sq2, sq3, i64_w, i32_w]
             rfl
            refine pure_ (i := 11) (N := some 26) (v := ?_) (a' := ?_) bq74 rfl rfl (qm HT_.out (by kernel_rfl)) (fun _ _ _ h => h) (Or.inl ⟨by rfl, ?_⟩) ?_ ?_
            rotate_left
            ·intro w'
             go_simp
             with_reducible rfl
            rotate_left
            ·simp only [Act.put, sq1, sq2, sq3, i64_w, i32_w]
             rfl
            refine pure_ (i := 13) (N := some 28) (v := ?_) (a' := ?_) bq78 rfl rfl (qm HT_.out (by kernel_rfl)) (fun _ _ _ h => h) (Or.inl ⟨by rfl, ?_⟩) ?_ ?_
            rotate_left
            ·intro w'
             go_simp
             with_reducible rfl
            rotate_left
            ·simp only [Act.put, sq1, sq2, sq3, i64_w, i32_w]
             rfl
            refine take_ (i := 12) (N := some 27) (v := ?_) (a' := ?_) bq87 rfl rfl (take_ofW HT_.out HW_.out (by kernel_rfl)) (fun _ _ _ h => h) (Or.inl ⟨by rfl, ?_⟩) hHeld ?_ ?_
            rotate_left
            ·rintro w' ⟨s0, s1, s2, s3, s4, s5, s6, s7⟩
             go_simp
             with_reducible rfl
            rotate_left
            ·simp only [Act.put, sq1, sq2, sq3, i64_w, i32_w]
             rfl
            refine take_ (i := 14) (N := some 29) (v := ?_) (a' := ?_) bq92 rfl rfl (take_ofW HT_.out HW_.out (by kernel_rfl)) (fun _ _ _ h => h) (Or.inl ⟨by rfl, ?_⟩) hHeld ?_ ?_
            rotate_left
            ·rintro w' ⟨s0, s1, s2, s3, s4, s5, s6, s7⟩
             go_simp
             with_reducible rfl
            rotate_left
            ·simp only [Act.put, sq1, sq2, sq3, i64_w, i32_w]
             rfl
            refine one_ (i := 15) (N := some 30) bq100 rfl rfl (one_of HT_.out (by kernel_rfl)) (by decide) (fun K hK => ?_)
            refine goes_ Try.func86 (by kernel_rfl) rfl #[.agg #[.string ((qb l0 (ji9)).f0.f0), .int .i64 ((qb l0 (ji9)).f0.f1), .int .i64 ((qb l0 (ji9)).f0.f2)], .agg #[.string ((qb l0 x10_1).f0.f0), .int .i64 ((qb l0 x10_1).f0.f1), .int .i64 ((qb l0 x10_1).f0.f2)]] (by rfl) rfl rfl (by (try simp only [List.map_toArray, List.map_cons, List.map_nil]); first | done | (simp only [hji9]; rfl) | rfl | (simp only [List.length_drop, List.length_take]; rfl) | (rw [IntWalk.u64_in _ (by omega)] <;> rfl)) ?_
            with_reducible refine (impl_cmpKeys.calls k1 ((qb l0 (ji9)).f0.f0) ((qb l0 (ji9)).f0.f1) ((qb l0 (ji9)).f0.f2) ((qb l0 x10_1).f0.f0) ((qb l0 x10_1).f0.f1) ((qb l0 x10_1).f0.f2) t105 _ A12.out).mono ?_
            rintro e w25 ⟨rfl, hb⟩
            refine ⟨_, rfl, ?_⟩
            replace BK102 := Qz.mk (blk_below (g := gb102) (o := .cells #[.string ((qb l0 x10_1).f0.f0), .int .i64 ((qb l0 x10_1).f0.f1), .int .i64 ((qb l0 x10_1).f0.f2), .string ((qb l0 x10_1).f1)] 48 (0, 0)) (by (with_reducible repeat (first | refine qe ?_ _ | refine qj ?_ | refine qf ?_ _)); exact BK102.out) hb)
            replace HB := Qz.mk (qo (by repeat (first | (with_reducible first | exact HB.out | apply qd | apply qa | apply qc | refine qi ?_ GE102.out) | exact HB.out)) hb)
            (try clear hb)
            refine hK.out _ _ ⟨(qh BK102.out 0).trans rfl, (qh BK102.out 1).trans rfl, (qh BK102.out 2).trans rfl, (qh BK102.out 3).trans rfl, ((HB.out.cell (World.block_lt_of_cell? w _ hw104_0)).trans hw104_0), ((HB.out.cell (World.block_lt_of_cell? w _ hw104_1)).trans hw104_1), ((HB.out.cell (World.block_lt_of_cell? w _ hw104_2)).trans hw104_2), ((HB.out.cell (World.block_lt_of_cell? w _ hw104_3)).trans hw104_3)⟩ (fun hHeld => ?_)
            clear hK K
            refine norm_ (a' := ?_) ?_ ?_
            rotate_left
            ·show Act.put _ (some 30) _ = _
             simp only [Act.put, sq1, sq2, sq3, i64_w, i32_w]
             rfl
            refine pure_ (i := 16) (N := some 31) (v := ?_) (a' := ?_) bq103 rfl rfl (qm HT_.out (by kernel_rfl)) (fun _ _ _ h => h) (Or.inl ⟨by rfl, ?_⟩) ?_ ?_
            rotate_left
            ·intro w'
             go_simp
             with_reducible rfl
            rotate_left
            ·simp only [Act.put, sq1, sq2, sq3, i64_w, i32_w]
             rfl
            refine pure_ (i := 17) (N := some 32) (v := ?_) (a' := ?_) bq111 rfl rfl (qm HT_.out (by kernel_rfl)) (fun _ _ _ h => h) (Or.inl ⟨by rfl, ?_⟩) ?_ ?_
            rotate_left
            ·intro w'
             go_simp
             with_reducible rfl
            rotate_left
            ·simp only [Act.put, sq1, sq2, sq3, i64_w, i32_w]
             rfl
            refine pure_ (i := 18) (N := some 33) (v := ?_) (a' := ?_) bq129 rfl rfl (qm HT_.out (by kernel_rfl)) (fun _ _ _ h => h) (Or.inl ⟨by rfl, ?_⟩) ?_ ?_
            rotate_left
            ·intro w'
             go_simp
             with_reducible rfl
            rotate_left
            ·simp only [Act.put, sq1, sq2, sq3, i64_w, i32_w]
             rfl
            refine done_ (done_of HT_.out (by kernel_rfl)) ?_
            try go_wp2
            go_roundg k1
            case measure => have := HK1.out; omega
            case rel => exact ⟨(wrap64 (x10_1 + 1)), (by first | rfl | (simp; done) | (simp [*]; done)), H', ⟨by have := HK1.out; omega⟩, ⟨by repeat (first | (with_reducible first | exact HB.out | apply qd | apply qa | apply qc | refine qi ?_ GE102.out) | exact HB.out)⟩⟩
          ·rw [if_neg c11] at H
           exact absurd H (by simp)
         ·rw [if_neg c10] at H
          exact absurd H (by simp)
        ·rw [if_neg c8] at H
         have c8b0 : decide (0 < x10_1) = false := decide_eq_false c8
         clear c8
         have H' := Qz.mk H
         clear H
         have p101 : 0 ≤ (x10_1 : Int) := of_decide_eq_true (by first | (with_reducible assumption) | assumption)
         have q101 : x10_1 < (l0.length : Int) := of_decide_eq_true (by first | (with_reducible assumption) | assumption)
         obtain ⟨ad101, e101, hx101_0, hx101_1, hx101_2, hx101_3⟩ := at_T48 HR0.out x10_1 p101 q101
         cases e101
         replace hx101_0 := (HB.out.cell (World.block_lt_of_cell? w _ hx101_0)).trans hx101_0
         replace hx101_1 := (HB.out.cell (World.block_lt_of_cell? w _ hx101_1)).trans hx101_1
         replace hx101_2 := (HB.out.cell (World.block_lt_of_cell? w _ hx101_2)).trans hx101_2
         replace hx101_3 := (HB.out.cell (World.block_lt_of_cell? w _ hx101_3)).trans hx101_3
         replace p101 := eq_true p101
         replace q101 := eq_true q101
         try go_wp2_with (first | ((with_reducible refine qx (N := 4) rfl ?_); refine qa1 ?hg (N := 4) ?hd (cs := #[.string (⟨#[]⟩ : ByteArray), .int .i64 0, .int .i64 0, .string (⟨#[]⟩ : ByteArray)]) (t := 48) ?hr ?_; (case hd => rfl); (case hg => rfl); (case hr => first | (go_simp; done) | (go_simp; rfl)); intro gb102 hg w26 hbox hb; have BK102 := Qz.mk (hbox); have GW102 := Qz.mk ((by rw [hg]; exact (qu (by repeat (first | (with_reducible first | exact HB.out | apply qd | apply qa | apply qc) | exact HB.out))) : w.heap.size ≤ gb102)); have GE102 := GW102; replace HB := Qz.mk (qo (by repeat (first | (with_reducible first | exact HB.out | apply qd | apply qa | apply qc) | exact HB.out)) hb); clear hb hbox hg; have hcz27_0 : w26.cell? ⟨gb102, 0, none⟩ = some (.string (⟨#[]⟩ : ByteArray)) := (qh BK102.out 0).trans rfl; have hcz27_1 : w26.cell? ⟨gb102, 1, none⟩ = some (.int .i64 0) := (qh BK102.out 1).trans rfl; have hcz27_2 : w26.cell? ⟨gb102, 2, none⟩ = some (.int .i64 0) := (qh BK102.out 2).trans rfl; have hcz27_3 : w26.cell? ⟨gb102, 3, none⟩ = some (.string (⟨#[]⟩ : ByteArray)) := (qh BK102.out 3).trans rfl; have hfz27_0 := qg BK102.out 0; have hfz27_1 := qg BK102.out 1; have hfz27_2 := qg BK102.out 2; have hfz27_3 := qg BK102.out 3))
         have n0_ : Qz (((((w26.setCell ⟨gb102, 0, none⟩ (.string ((qb l0 x10_1).f0.f0))).setCell ⟨gb102, 1, none⟩ (.int .i64 ((qb l0 x10_1).f0.f1))).setCell ⟨gb102, 2, none⟩ (.int .i64 ((qb l0 x10_1).f0.f2))).setCell ⟨gb102, 3, none⟩ (.string ((qb l0 x10_1).f1))).heap[gb102]? = some (.cells #[.string ((qb l0 x10_1).f0.f0), .int .i64 ((qb l0 x10_1).f0.f1), .int .i64 ((qb l0 x10_1).f0.f2), .string ((qb l0 x10_1).f1)] 48 (0, 0))) := ⟨by (with_reducible repeat (first | refine qe ?_ _ | refine qj ?_ | refine qf ?_ _)); refine qt (cs := #[.string ((qb l0 x10_1).f0.f0), .int .i64 ((qb l0 x10_1).f0.f1), .int .i64 ((qb l0 x10_1).f0.f2), .string (⟨#[]⟩ : ByteArray)]) ?_ 3 _ rfl; (with_reducible repeat (first | refine qe ?_ _ | refine qj ?_ | refine qf ?_ _)); refine qt (cs := #[.string ((qb l0 x10_1).f0.f0), .int .i64 ((qb l0 x10_1).f0.f1), .int .i64 0, .string (⟨#[]⟩ : ByteArray)]) ?_ 2 _ rfl; (with_reducible repeat (first | refine qe ?_ _ | refine qj ?_ | refine qf ?_ _)); refine qt (cs := #[.string ((qb l0 x10_1).f0.f0), .int .i64 0, .int .i64 0, .string (⟨#[]⟩ : ByteArray)]) ?_ 1 _ rfl; (with_reducible repeat (first | refine qe ?_ _ | refine qj ?_ | refine qf ?_ _)); refine qt (cs := #[.string (⟨#[]⟩ : ByteArray), .int .i64 0, .int .i64 0, .string (⟨#[]⟩ : ByteArray)]) ?_ 0 _ rfl; (with_reducible repeat (first | refine qe ?_ _ | refine qj ?_ | refine qf ?_ _)); exact BK102.out⟩
         have n1_ : Qz (Below w.heap.size w ((((w26.setCell ⟨gb102, 0, none⟩ (.string ((qb l0 x10_1).f0.f0))).setCell ⟨gb102, 1, none⟩ (.int .i64 ((qb l0 x10_1).f0.f1))).setCell ⟨gb102, 2, none⟩ (.int .i64 ((qb l0 x10_1).f0.f2))).setCell ⟨gb102, 3, none⟩ (.string ((qb l0 x10_1).f1)))) := ⟨by repeat (first | (with_reducible first | exact HB.out | apply qd | apply qa | apply qc | refine qi ?_ GE102.out) | exact HB.out)⟩
         (try clear BK102)
         (try clear HB)
         generalize ((((w26.setCell ⟨gb102, 0, none⟩ (.string ((qb l0 x10_1).f0.f0))).setCell ⟨gb102, 1, none⟩ (.int .i64 ((qb l0 x10_1).f0.f1))).setCell ⟨gb102, 2, none⟩ (.int .i64 ((qb l0 x10_1).f0.f2))).setCell ⟨gb102, 3, none⟩ (.string ((qb l0 x10_1).f1))) = w28 at n0_ n1_ ⊢
         have BK102 := n0_
         have HB := n1_
         clear n0_ n1_
         replace BK102 := Qz.mk (qj BK102.out)
         replace HB := Qz.mk (qc HB.out)
         refine start_ (n := 19) (S := fun w' => w'.cell? ⟨gb102, 0, none⟩ = some (.string ((qb l0 x10_1).f0.f0)) ∧ w'.cell? ⟨gb102, 1, none⟩ = some (.int .i64 ((qb l0 x10_1).f0.f1)) ∧ w'.cell? ⟨gb102, 2, none⟩ = some (.int .i64 ((qb l0 x10_1).f0.f2)) ∧ w'.cell? ⟨gb102, 3, none⟩ = some (.string ((qb l0 x10_1).f1))) (ds := []) bq2 (by kernel_rfl) rfl rfl ⟨(qh BK102.out 0).trans rfl, (qh BK102.out 1).trans rfl, (qh BK102.out 2).trans rfl, (qh BK102.out 3).trans rfl⟩ (fun hHeld => ?_); refine with_tabW impl_EntriesOk.tab6 impl_EntriesOk.bits6 (fun HT_ HW_ => ?_)
         generalize w28.drew = w29 at BK102 HB hHeld ⊢
         refine take_ (i := 0) (N := some 15) (v := ?_) (a' := ?_) bq8 rfl rfl (take_ofW HT_.out HW_.out (by kernel_rfl)) (fun _ _ _ h => h) (Or.inl ⟨by rfl, ?_⟩) hHeld ?_ ?_
         rotate_left
         ·rintro w' ⟨s0, s1, s2, s3⟩
          go_simp
          with_reducible rfl
         rotate_left
         ·simp only [Act.put, sq1, sq2, sq3, i64_w, i32_w]
          rfl
         refine one_ (i := 1) (N := some 16) bq14 rfl rfl (one_of HT_.out (by kernel_rfl)) (by decide) (fun K hK => ?_)
         refine goes_ Try.func79 (by kernel_rfl) rfl #[.agg #[.string ((qb l0 x10_1).f0.f0), .int .i64 ((qb l0 x10_1).f0.f1), .int .i64 ((qb l0 x10_1).f0.f2), .string ((qb l0 x10_1).f1)]] (by rfl) rfl rfl (by (try simp only [List.map_toArray, List.map_cons, List.map_nil]); first | done | rfl) ?_
         with_reducible refine (impl_EntryOk.calls ((qb l0 x10_1).f0.f0) ((qb l0 x10_1).f0.f1) ((qb l0 x10_1).f0.f2) ((qb l0 x10_1).f1) true _ A6.out).mono ?_
         rintro e w30 ⟨rfl, hb⟩
         refine ⟨_, rfl, ?_⟩
         replace BK102 := Qz.mk (blk_below (g := gb102) (o := .cells #[.string ((qb l0 x10_1).f0.f0), .int .i64 ((qb l0 x10_1).f0.f1), .int .i64 ((qb l0 x10_1).f0.f2), .string ((qb l0 x10_1).f1)] 48 (0, 0)) (by (with_reducible repeat (first | refine qe ?_ _ | refine qj ?_ | refine qf ?_ _)); exact BK102.out) hb)
         replace HB := Qz.mk (qo (by repeat (first | (with_reducible first | exact HB.out | apply qd | apply qa | apply qc | refine qi ?_ GE102.out) | exact HB.out)) hb)
         (try clear hb)
         refine hK.out _ _ ⟨(qh BK102.out 0).trans rfl, (qh BK102.out 1).trans rfl, (qh BK102.out 2).trans rfl, (qh BK102.out 3).trans rfl⟩ (fun hHeld => ?_)
         clear hK K
         refine norm_ (a' := ?_) ?_ ?_
         rotate_left
         ·show Act.put _ (some 16) _ = _
          simp only [Act.put, sq1, sq2, sq3, i64_w, i32_w]
          rfl
         refine pure_ (i := 2) (N := some 17) (v := ?_) (a' := ?_) bq20 rfl rfl (qm HT_.out (by kernel_rfl)) (fun _ _ _ h => h) (Or.inl ⟨by rfl, ?_⟩) ?_ ?_
         rotate_left
         ·intro w'
          go_simp
          with_reducible rfl
         rotate_left
         ·simp only [Act.put, sq1, sq2, sq3, i64_w, i32_w]
          rfl
         refine pure_ (i := 3) (N := some 18) (v := ?_) (a' := ?_) bq26 rfl rfl (qm HT_.out (by kernel_rfl)) (fun _ _ _ h => h) (Or.inl ⟨by rfl, ?_⟩) ?_ ?_
         rotate_left
         ·intro w'
          go_simp
          with_reducible rfl
         rotate_left
         ·simp only [Act.put, sq1, sq2, sq3, i64_w, i32_w]
          rfl
         refine pure_ (i := 4) (N := some 19) (v := ?_) (a' := ?_) bq32 rfl rfl (qm HT_.out (by kernel_rfl)) (fun _ _ _ h => h) (Or.inl ⟨by rfl, ?_⟩) ?_ ?_
         rotate_left
         ·intro w'
          go_simp
          with_reducible rfl
         rotate_left
         ·simp only [Act.put, sq1, sq2, sq3, i64_w, i32_w]
          rfl
         refine pure_ (i := 5) (N := some 20) (v := ?_) (a' := ?_) bq38 rfl rfl (qm HT_.out (by kernel_rfl)) (fun _ _ _ h => h) (Or.inl ⟨by rfl, ?_⟩) ?_ ?_
         rotate_left
         ·intro w'
          go_simp
          with_reducible rfl
         rotate_left
         ·simp only [Act.put, sq1, sq2, sq3, i64_w, i32_w]
          rfl
         refine pure_ (i := 6) (N := some 21) (v := ?_) (a' := ?_) bq47 rfl rfl (qm HT_.out (by kernel_rfl)) (fun _ _ _ h => h) (Or.inl ⟨by rfl, ?_⟩) ?_ ?_
         rotate_left
         ·intro w'
          go_simp
          with_reducible rfl
         rotate_left
         ·simp only [Act.put, sq1, sq2, sq3, i64_w, i32_w]
          rfl
         refine pure_ (i := 7) (N := some 22) (v := undef) (a' := ?_) bq52 rfl rfl (qm HT_.out (by kernel_rfl)) (fun _ _ _ h => h) (Or.inr ⟨by rfl, rfl⟩) ?_ ?_
         rotate_left
         ·simp only [Act.put, sq1, sq2, sq3, i64_w, i32_w]
          rfl
         refine pure_ (i := 8) (N := some 23) (v := undef) (a' := ?_) bq57 rfl rfl (qm HT_.out (by kernel_rfl)) (fun _ _ _ h => h) (Or.inr ⟨by rfl, rfl⟩) ?_ ?_
         rotate_left
         ·simp only [Act.put, sq1, sq2, sq3, i64_w, i32_w]
          rfl
         refine pure_ (i := 9) (N := some 24) (v := undef) (a' := ?_) bq64 rfl rfl (qm HT_.out (by kernel_rfl)) (fun _ _ _ h => h) (Or.inr ⟨by rfl, rfl⟩) ?_ ?_
         rotate_left
         ·simp only [Act.put, sq1, sq2, sq3, i64_w, i32_w]
          rfl
         refine pure_ (i := 10) (N := some 25) (v := undef) (a' := ?_) bq68 rfl rfl (qm HT_.out (by kernel_rfl)) (fun _ _ _ h => h) (Or.inr ⟨by rfl, rfl⟩) ?_ ?_
         rotate_left
         ·simp only [Act.put, sq1, sq2, sq3, i64_w, i32_w]
          rfl
         refine pure_ (i := 11) (N := some 26) (v := undef) (a' := ?_) bq74 rfl rfl (qm HT_.out (by kernel_rfl)) (fun _ _ _ h => h) (Or.inr ⟨by rfl, rfl⟩) ?_ ?_
         rotate_left
         ·simp only [Act.put, sq1, sq2, sq3, i64_w, i32_w]
          rfl
         refine pure_ (i := 12) (N := some 27) (v := undef) (a' := ?_) bq81 rfl rfl (qm HT_.out (by kernel_rfl)) (fun _ _ _ h => h) (Or.inr ⟨by rfl, rfl⟩) ?_ ?_
         rotate_left
         ·simp only [Act.put, sq1, sq2, sq3, i64_w, i32_w]
          rfl
         refine pure_ (i := 13) (N := some 28) (v := undef) (a' := ?_) bq87 rfl rfl (qm HT_.out (by kernel_rfl)) (fun _ _ _ h => h) (Or.inr ⟨by rfl, rfl⟩) ?_ ?_
         rotate_left
         ·simp only [Act.put, sq1, sq2, sq3, i64_w, i32_w]
          rfl
         refine pure_ (i := 14) (N := some 29) (v := undef) (a' := ?_) bq92 rfl rfl (qm HT_.out (by kernel_rfl)) (fun _ _ _ h => h) (Or.inr ⟨by rfl, rfl⟩) ?_ ?_
         rotate_left
         ·simp only [Act.put, sq1, sq2, sq3, i64_w, i32_w]
          rfl
         refine pure_ (i := 15) (N := some 30) (v := undef) (a' := ?_) bq100 rfl rfl (qm HT_.out (by kernel_rfl)) (fun _ _ _ h => h) (Or.inr ⟨by rfl, rfl⟩) ?_ ?_
         rotate_left
         ·simp only [Act.put, sq1, sq2, sq3, i64_w, i32_w]
          rfl
         refine pure_ (i := 16) (N := some 31) (v := undef) (a' := ?_) bq103 rfl rfl (qm HT_.out (by kernel_rfl)) (fun _ _ _ h => h) (Or.inr ⟨by rfl, rfl⟩) ?_ ?_
         rotate_left
         ·simp only [Act.put, sq1, sq2, sq3, i64_w, i32_w]
          rfl
         refine pure_ (i := 17) (N := some 32) (v := ?_) (a' := ?_) bq111 rfl rfl (qm HT_.out (by kernel_rfl)) (fun _ _ _ h => h) (Or.inl ⟨by rfl, ?_⟩) ?_ ?_
         rotate_left
         ·intro w'
          go_simp
          with_reducible rfl
         rotate_left
         ·simp only [Act.put, sq1, sq2, sq3, i64_w, i32_w]
          rfl
         refine pure_ (i := 18) (N := some 33) (v := ?_) (a' := ?_) bq129 rfl rfl (qm HT_.out (by kernel_rfl)) (fun _ _ _ h => h) (Or.inl ⟨by rfl, ?_⟩) ?_ ?_
         rotate_left
         ·intro w'
          go_simp
          with_reducible rfl
         rotate_left
         ·simp only [Act.put, sq1, sq2, sq3, i64_w, i32_w]
          rfl
         refine done_ (done_of HT_.out (by kernel_rfl)) ?_
         try go_wp2
         go_roundg k1
         case measure => have := HK1.out; omega
         case rel => exact ⟨(wrap64 (x10_1 + 1)), (by first | rfl | (simp; done) | (simp [*]; done)), H', ⟨by have := HK1.out; omega⟩, ⟨by repeat (first | (with_reducible first | exact HB.out | apply qd | apply qa | apply qc | refine qi ?_ GE102.out) | exact HB.out)⟩⟩
       ·replace c7 := Bool.eq_false_iff.mpr c7
        subst c7
        have H1 : (some false) = some r := by rw [if_neg (show ¬ (false = true) by decide)] at H; exact H
        clear H
        have H := H1
        clear H1
        obtain rfl := Option.some.inj H
        have p101 : 0 ≤ (x10_1 : Int) := of_decide_eq_true (by first | (with_reducible assumption) | assumption)
        have q101 : x10_1 < (l0.length : Int) := of_decide_eq_true (by first | (with_reducible assumption) | assumption)
        obtain ⟨ad101, e101, hx101_0, hx101_1, hx101_2, hx101_3⟩ := at_T48 HR0.out x10_1 p101 q101
        cases e101
        replace hx101_0 := (HB.out.cell (World.block_lt_of_cell? w _ hx101_0)).trans hx101_0
        replace hx101_1 := (HB.out.cell (World.block_lt_of_cell? w _ hx101_1)).trans hx101_1
        replace hx101_2 := (HB.out.cell (World.block_lt_of_cell? w _ hx101_2)).trans hx101_2
        replace hx101_3 := (HB.out.cell (World.block_lt_of_cell? w _ hx101_3)).trans hx101_3
        replace p101 := eq_true p101
        replace q101 := eq_true q101
        try go_wp2_with (first | ((with_reducible refine qx (N := 4) rfl ?_); refine qa1 ?hg (N := 4) ?hd (cs := #[.string (⟨#[]⟩ : ByteArray), .int .i64 0, .int .i64 0, .string (⟨#[]⟩ : ByteArray)]) (t := 48) ?hr ?_; (case hd => rfl); (case hg => rfl); (case hr => first | (go_simp; done) | (go_simp; rfl)); intro gb102 hg w31 hbox hb; have BK102 := Qz.mk (hbox); have GW102 := Qz.mk ((by rw [hg]; exact (qu (by repeat (first | (with_reducible first | exact HB.out | apply qd | apply qa | apply qc) | exact HB.out))) : w.heap.size ≤ gb102)); have GE102 := GW102; replace HB := Qz.mk (qo (by repeat (first | (with_reducible first | exact HB.out | apply qd | apply qa | apply qc) | exact HB.out)) hb); clear hb hbox hg; have hcz32_0 : w31.cell? ⟨gb102, 0, none⟩ = some (.string (⟨#[]⟩ : ByteArray)) := (qh BK102.out 0).trans rfl; have hcz32_1 : w31.cell? ⟨gb102, 1, none⟩ = some (.int .i64 0) := (qh BK102.out 1).trans rfl; have hcz32_2 : w31.cell? ⟨gb102, 2, none⟩ = some (.int .i64 0) := (qh BK102.out 2).trans rfl; have hcz32_3 : w31.cell? ⟨gb102, 3, none⟩ = some (.string (⟨#[]⟩ : ByteArray)) := (qh BK102.out 3).trans rfl; have hfz32_0 := qg BK102.out 0; have hfz32_1 := qg BK102.out 1; have hfz32_2 := qg BK102.out 2; have hfz32_3 := qg BK102.out 3))
        have n0_ : Qz (((((w31.setCell ⟨gb102, 0, none⟩ (.string ((qb l0 x10_1).f0.f0))).setCell ⟨gb102, 1, none⟩ (.int .i64 ((qb l0 x10_1).f0.f1))).setCell ⟨gb102, 2, none⟩ (.int .i64 ((qb l0 x10_1).f0.f2))).setCell ⟨gb102, 3, none⟩ (.string ((qb l0 x10_1).f1))).heap[gb102]? = some (.cells #[.string ((qb l0 x10_1).f0.f0), .int .i64 ((qb l0 x10_1).f0.f1), .int .i64 ((qb l0 x10_1).f0.f2), .string ((qb l0 x10_1).f1)] 48 (0, 0))) := ⟨by (with_reducible repeat (first | refine qe ?_ _ | refine qj ?_ | refine qf ?_ _)); refine qt (cs := #[.string ((qb l0 x10_1).f0.f0), .int .i64 ((qb l0 x10_1).f0.f1), .int .i64 ((qb l0 x10_1).f0.f2), .string (⟨#[]⟩ : ByteArray)]) ?_ 3 _ rfl; (with_reducible repeat (first | refine qe ?_ _ | refine qj ?_ | refine qf ?_ _)); refine qt (cs := #[.string ((qb l0 x10_1).f0.f0), .int .i64 ((qb l0 x10_1).f0.f1), .int .i64 0, .string (⟨#[]⟩ : ByteArray)]) ?_ 2 _ rfl; (with_reducible repeat (first | refine qe ?_ _ | refine qj ?_ | refine qf ?_ _)); refine qt (cs := #[.string ((qb l0 x10_1).f0.f0), .int .i64 0, .int .i64 0, .string (⟨#[]⟩ : ByteArray)]) ?_ 1 _ rfl; (with_reducible repeat (first | refine qe ?_ _ | refine qj ?_ | refine qf ?_ _)); refine qt (cs := #[.string (⟨#[]⟩ : ByteArray), .int .i64 0, .int .i64 0, .string (⟨#[]⟩ : ByteArray)]) ?_ 0 _ rfl; (with_reducible repeat (first | refine qe ?_ _ | refine qj ?_ | refine qf ?_ _)); exact BK102.out⟩
        have n1_ : Qz (Below w.heap.size w ((((w31.setCell ⟨gb102, 0, none⟩ (.string ((qb l0 x10_1).f0.f0))).setCell ⟨gb102, 1, none⟩ (.int .i64 ((qb l0 x10_1).f0.f1))).setCell ⟨gb102, 2, none⟩ (.int .i64 ((qb l0 x10_1).f0.f2))).setCell ⟨gb102, 3, none⟩ (.string ((qb l0 x10_1).f1)))) := ⟨by repeat (first | (with_reducible first | exact HB.out | apply qd | apply qa | apply qc | refine qi ?_ GE102.out) | exact HB.out)⟩
        (try clear BK102)
        (try clear HB)
        generalize ((((w31.setCell ⟨gb102, 0, none⟩ (.string ((qb l0 x10_1).f0.f0))).setCell ⟨gb102, 1, none⟩ (.int .i64 ((qb l0 x10_1).f0.f1))).setCell ⟨gb102, 2, none⟩ (.int .i64 ((qb l0 x10_1).f0.f2))).setCell ⟨gb102, 3, none⟩ (.string ((qb l0 x10_1).f1))) = w33 at n0_ n1_ ⊢
        have BK102 := n0_
        have HB := n1_
        clear n0_ n1_
        replace BK102 := Qz.mk (qj BK102.out)
        replace HB := Qz.mk (qc HB.out)
        refine start_ (n := 19) (S := fun w' => w'.cell? ⟨gb102, 0, none⟩ = some (.string ((qb l0 x10_1).f0.f0)) ∧ w'.cell? ⟨gb102, 1, none⟩ = some (.int .i64 ((qb l0 x10_1).f0.f1)) ∧ w'.cell? ⟨gb102, 2, none⟩ = some (.int .i64 ((qb l0 x10_1).f0.f2)) ∧ w'.cell? ⟨gb102, 3, none⟩ = some (.string ((qb l0 x10_1).f1))) (ds := []) bq2 (by kernel_rfl) rfl rfl ⟨(qh BK102.out 0).trans rfl, (qh BK102.out 1).trans rfl, (qh BK102.out 2).trans rfl, (qh BK102.out 3).trans rfl⟩ (fun hHeld => ?_); refine with_tabW impl_EntriesOk.tab6 impl_EntriesOk.bits6 (fun HT_ HW_ => ?_)
        generalize w33.drew = w34 at BK102 HB hHeld ⊢
        refine take_ (i := 0) (N := some 15) (v := ?_) (a' := ?_) bq8 rfl rfl (take_ofW HT_.out HW_.out (by kernel_rfl)) (fun _ _ _ h => h) (Or.inl ⟨by rfl, ?_⟩) hHeld ?_ ?_
        rotate_left
        ·rintro w' ⟨s0, s1, s2, s3⟩
         go_simp
         with_reducible rfl
        rotate_left
        ·simp only [Act.put, sq1, sq2, sq3, i64_w, i32_w]
         rfl
        refine one_ (i := 1) (N := some 16) bq14 rfl rfl (one_of HT_.out (by kernel_rfl)) (by decide) (fun K hK => ?_)
        refine goes_ Try.func79 (by kernel_rfl) rfl #[.agg #[.string ((qb l0 x10_1).f0.f0), .int .i64 ((qb l0 x10_1).f0.f1), .int .i64 ((qb l0 x10_1).f0.f2), .string ((qb l0 x10_1).f1)]] (by rfl) rfl rfl (by (try simp only [List.map_toArray, List.map_cons, List.map_nil]); first | done | rfl) ?_
        with_reducible refine (impl_EntryOk.calls ((qb l0 x10_1).f0.f0) ((qb l0 x10_1).f0.f1) ((qb l0 x10_1).f0.f2) ((qb l0 x10_1).f1) false _ A6.out).mono ?_
        rintro e w35 ⟨rfl, hb⟩
        refine ⟨_, rfl, ?_⟩
        replace BK102 := Qz.mk (blk_below (g := gb102) (o := .cells #[.string ((qb l0 x10_1).f0.f0), .int .i64 ((qb l0 x10_1).f0.f1), .int .i64 ((qb l0 x10_1).f0.f2), .string ((qb l0 x10_1).f1)] 48 (0, 0)) (by (with_reducible repeat (first | refine qe ?_ _ | refine qj ?_ | refine qf ?_ _)); exact BK102.out) hb)
        replace HB := Qz.mk (qo (by repeat (first | (with_reducible first | exact HB.out | apply qd | apply qa | apply qc | refine qi ?_ GE102.out) | exact HB.out)) hb)
        (try clear hb)
        refine hK.out _ _ ⟨(qh BK102.out 0).trans rfl, (qh BK102.out 1).trans rfl, (qh BK102.out 2).trans rfl, (qh BK102.out 3).trans rfl⟩ (fun hHeld => ?_)
        clear hK K
        refine norm_ (a' := ?_) ?_ ?_
        rotate_left
        ·show Act.put _ (some 16) _ = _
         simp only [Act.put, sq1, sq2, sq3, i64_w, i32_w]
         rfl
        refine pure_ (i := 2) (N := some 17) (v := ?_) (a' := ?_) bq20 rfl rfl (qm HT_.out (by kernel_rfl)) (fun _ _ _ h => h) (Or.inl ⟨by rfl, ?_⟩) ?_ ?_
        rotate_left
        ·intro w'
         go_simp
         with_reducible rfl
        rotate_left
        ·simp only [Act.put, sq1, sq2, sq3, i64_w, i32_w]
         rfl
        refine pure_ (i := 3) (N := some 18) (v := ?_) (a' := ?_) bq26 rfl rfl (qm HT_.out (by kernel_rfl)) (fun _ _ _ h => h) (Or.inl ⟨by rfl, ?_⟩) ?_ ?_
        rotate_left
        ·intro w'
         go_simp
         with_reducible rfl
        rotate_left
        ·simp only [Act.put, sq1, sq2, sq3, i64_w, i32_w]
         rfl
        refine pure_ (i := 4) (N := some 19) (v := undef) (a' := ?_) bq32 rfl rfl (qm HT_.out (by kernel_rfl)) (fun _ _ _ h => h) (Or.inr ⟨by rfl, rfl⟩) ?_ ?_
        rotate_left
        ·simp only [Act.put, sq1, sq2, sq3, i64_w, i32_w]
         rfl
        refine pure_ (i := 5) (N := some 20) (v := undef) (a' := ?_) bq38 rfl rfl (qm HT_.out (by kernel_rfl)) (fun _ _ _ h => h) (Or.inr ⟨by rfl, rfl⟩) ?_ ?_
        rotate_left
        ·simp only [Act.put, sq1, sq2, sq3, i64_w, i32_w]
         rfl
        refine pure_ (i := 6) (N := some 21) (v := undef) (a' := ?_) bq47 rfl rfl (qm HT_.out (by kernel_rfl)) (fun _ _ _ h => h) (Or.inr ⟨by rfl, rfl⟩) ?_ ?_
        rotate_left
        ·simp only [Act.put, sq1, sq2, sq3, i64_w, i32_w]
         rfl
        refine pure_ (i := 7) (N := some 22) (v := undef) (a' := ?_) bq52 rfl rfl (qm HT_.out (by kernel_rfl)) (fun _ _ _ h => h) (Or.inr ⟨by rfl, rfl⟩) ?_ ?_
        rotate_left
        ·simp only [Act.put, sq1, sq2, sq3, i64_w, i32_w]
         rfl
        refine pure_ (i := 8) (N := some 23) (v := undef) (a' := ?_) bq57 rfl rfl (qm HT_.out (by kernel_rfl)) (fun _ _ _ h => h) (Or.inr ⟨by rfl, rfl⟩) ?_ ?_
        rotate_left
        ·simp only [Act.put, sq1, sq2, sq3, i64_w, i32_w]
         rfl
        refine pure_ (i := 9) (N := some 24) (v := undef) (a' := ?_) bq64 rfl rfl (qm HT_.out (by kernel_rfl)) (fun _ _ _ h => h) (Or.inr ⟨by rfl, rfl⟩) ?_ ?_
        rotate_left
        ·simp only [Act.put, sq1, sq2, sq3, i64_w, i32_w]
         rfl
        refine pure_ (i := 10) (N := some 25) (v := undef) (a' := ?_) bq68 rfl rfl (qm HT_.out (by kernel_rfl)) (fun _ _ _ h => h) (Or.inr ⟨by rfl, rfl⟩) ?_ ?_
        rotate_left
        ·simp only [Act.put, sq1, sq2, sq3, i64_w, i32_w]
         rfl
        refine pure_ (i := 11) (N := some 26) (v := undef) (a' := ?_) bq74 rfl rfl (qm HT_.out (by kernel_rfl)) (fun _ _ _ h => h) (Or.inr ⟨by rfl, rfl⟩) ?_ ?_
        rotate_left
        ·simp only [Act.put, sq1, sq2, sq3, i64_w, i32_w]
         rfl
        refine pure_ (i := 12) (N := some 27) (v := undef) (a' := ?_) bq81 rfl rfl (qm HT_.out (by kernel_rfl)) (fun _ _ _ h => h) (Or.inr ⟨by rfl, rfl⟩) ?_ ?_
        rotate_left
        ·simp only [Act.put, sq1, sq2, sq3, i64_w, i32_w]
         rfl
        refine pure_ (i := 13) (N := some 28) (v := undef) (a' := ?_) bq87 rfl rfl (qm HT_.out (by kernel_rfl)) (fun _ _ _ h => h) (Or.inr ⟨by rfl, rfl⟩) ?_ ?_
        rotate_left
        ·simp only [Act.put, sq1, sq2, sq3, i64_w, i32_w]
         rfl
        refine pure_ (i := 14) (N := some 29) (v := undef) (a' := ?_) bq92 rfl rfl (qm HT_.out (by kernel_rfl)) (fun _ _ _ h => h) (Or.inr ⟨by rfl, rfl⟩) ?_ ?_
        rotate_left
        ·simp only [Act.put, sq1, sq2, sq3, i64_w, i32_w]
         rfl
        refine pure_ (i := 15) (N := some 30) (v := undef) (a' := ?_) bq100 rfl rfl (qm HT_.out (by kernel_rfl)) (fun _ _ _ h => h) (Or.inr ⟨by rfl, rfl⟩) ?_ ?_
        rotate_left
        ·simp only [Act.put, sq1, sq2, sq3, i64_w, i32_w]
         rfl
        refine pure_ (i := 16) (N := some 31) (v := undef) (a' := ?_) bq103 rfl rfl (qm HT_.out (by kernel_rfl)) (fun _ _ _ h => h) (Or.inr ⟨by rfl, rfl⟩) ?_ ?_
        rotate_left
        ·simp only [Act.put, sq1, sq2, sq3, i64_w, i32_w]
         rfl
        refine pure_ (i := 17) (N := some 32) (v := undef) (a' := ?_) bq111 rfl rfl (qm HT_.out (by kernel_rfl)) (fun _ _ _ h => h) (Or.inr ⟨by rfl, rfl⟩) ?_ ?_
        rotate_left
        ·simp only [Act.put, sq1, sq2, sq3, i64_w, i32_w]
         rfl
        refine pure_ (i := 18) (N := some 33) (v := ?_) (a' := ?_) bq129 rfl rfl (qm HT_.out (by kernel_rfl)) (fun _ _ _ h => h) (Or.inl ⟨by rfl, ?_⟩) ?_ ?_
        rotate_left
        ·intro w'
         go_simp
         with_reducible rfl
        rotate_left
        ·simp only [Act.put, sq1, sq2, sq3, i64_w, i32_w]
         rfl
        refine done_ (done_of HT_.out (by kernel_rfl)) ?_
        try go_wp2
        go_ret
        exact ⟨by first | rfl | (simp [qq, qp] <;> rfl) | (simp [*, qq, qp] <;> rfl), by repeat (first | (with_reducible first | exact HB.out | apply qd | apply qa | apply qc | refine qi ?_ GE102.out) | exact HB.out)⟩
      ·rw [if_neg c5] at H
       exact absurd H (by simp)
     ·rw [if_neg c4] at H
      exact absurd H (by simp)
    ·rw [if_neg c3] at H
     have c3b0 : decide (x10_1 < (l0.length : Int)) = false := decide_eq_false c3
     clear c3
     obtain rfl := Option.some.inj H
     go_wp2
     go_ret
     exact ⟨by first | rfl | (simp [qq, qp] <;> rfl) | (simp [*, qq, qp] <;> rfl), by repeat (first | (with_reducible first | exact HB.out | apply qd | apply qa | apply qc) | exact HB.out)⟩
mutual
def impl_SplitRun.j0 : Nat → List (S48) → Int → Bool → Option ((List (S44)))
 | 0, _, _, _ => none
 | k + 1, x0, x1, x15 => if x15 = true then (some ([] : List (S44))) else (impl_SplitRun.l0 k x0 x1 (([] : List (S44))) (([] : List (S48))) x0 (x0.length : Int) 0)
def impl_SplitRun.l0 : Nat → List (S48) → Int → List (S44) → List (S48) → List (S48) → Int → Int → Option ((List (S44)))
 | 0, _, _, _, _, _, _, _ => none
 | k + 1, x0, x1, x5, x6, x18, x19, x20 => if x20 < x19 then (if 0 ≤ x20 then (if x20 < (x18.length : Int) then (if x6.length < 2932031007402 then ((some (x6 ++ [(⟨(⟨(qb x18 x20).f0.f0, (qb x18 x20).f0.f1, (qb x18 x20).f0.f2⟩ : S46), (qb x18 x20).f1⟩ : S48)] : List (S48))).bind fun y110 => (if x20 = (wrap64 ((x0.length : Int) - 1)) then (if x5.length < 5864062014805 then (impl_SplitRun.l0 k x0 x1 (x5 ++ [(⟨y110⟩ : S44)]) (([] : List (S48))) x18 x19 (wrap64 (x20 + 1))) else (none)) else (if (y110.length : Int) ≥ x1 then (if 0 ≤ (wrap64 (x20 + 1)) then (if (wrap64 (x20 + 1)) < (x0.length : Int) then (if ((qb x0 (wrap64 (x20 + 1))).f0.f0).toList = ((qb x18 x20).f0.f0).toList then (impl_SplitRun.l0 k x0 x1 x5 y110 x18 x19 (wrap64 (x20 + 1))) else (if x5.length < 5864062014805 then (impl_SplitRun.l0 k x0 x1 (x5 ++ [(⟨y110⟩ : S44)]) (([] : List (S48))) x18 x19 (wrap64 (x20 + 1))) else (none))) else (none)) else (none)) else (impl_SplitRun.l0 k x0 x1 x5 y110 x18 x19 (wrap64 (x20 + 1)))))) else (none)) else (none)) else (none)) else (some x5)
end
def impl_SplitRun.f (k : Nat) (l0 : List (S48)) (a1 : Int) : Option ((List (S44))) := (impl_EntriesOk.f k l0).bind fun t101 => (if t101 = true then (impl_SplitRun.j0 k l0 a1 (decide (a1 < 1))) else (impl_SplitRun.j0 k l0 a1 true))
set_option maxHeartbeats 8000000 in
set_option maxRecDepth 100000 in
theorem impl_SplitRun.calls (k : Nat) (A0 : Option Addr) (c0 : Nat) (l0 : List (S48)) (a1 : Int) (r : List (S44)) (w : World) (hr0 : Kd.C k48 w A0 l0.length l0) (hc0 : l0.length ≤ c0) (h : impl_SplitRun.f k l0 a1 = some r) :
  Calls Try.prog 23 #[.slice A0 l0.length c0, .int .i64 a1] w fun e w' => ∃ v0_ : Value, e = .returned (v0_) ∧ Kd.S k44 44 w' w.heap.size (fun _ => True) v0_ r ∧ Below w.heap.size w w' := by
 have hu48 := Try.underlying48
 have hu44 := Try.underlying44
 have HR0 := Qz.mk hr0
 have HC0 := Qz.mk hc0
 clear hr0 hc0
 have HB := Qz.mk (Below.refl w.heap.size w)
 have H : ((impl_EntriesOk.f k l0).bind fun t101 => (if t101 = true then (impl_SplitRun.j0 k l0 a1 (decide (a1 < 1))) else (impl_SplitRun.j0 k l0 a1 true))) = some r := h
 clear h
 have HC3 := Qz.mk H
 clear H
 go_enter Try.func23, Try.ntmps23
 go_upto_region 1 with (fail)
 repeat (go_quiet (fail); go_upto_region 1 with (fail))
 go_cut [15] (fun v15 wc => ∃ (kq : Nat) (x15_2 : Bool), v15 = .bool x15_2 ∧ Qz (impl_SplitRun.j0 kq l0 a1 x15_2 = some r) ∧ Qz (kq ≤ k) ∧ Qz (Below w.heap.size w wc))
 case first =>
  have H := HC3.out
  clear HC3
  replace H := Option.bind_eq_some_iff.mp H
  obtain ⟨t101, A40, H⟩ := H
  replace H : (if t101 = true then (impl_SplitRun.j0 k l0 a1 (decide (a1 < 1))) else (impl_SplitRun.j0 k l0 a1 true)) = some r := H
  have A4 := Qz.mk A40
  clear A40
  by_cases c5 : t101 = true
  ·subst c5
   have H1 : (impl_SplitRun.j0 k l0 a1 (decide (a1 < 1))) = some r := by rw [if_pos rfl] at H; exact H
   clear H
   have H := H1
   clear H1
   have H' := Qz.mk H
   clear H
   go_wp2_with (first | (go_at_call 44; (with_reducible refine (impl_EntriesOk.calls k _ _ l0 true _ ?side1 ?side2 A4.out).mono ?_); (case side1 => repeat (first | exact (Kd.C_below HR0.out HB.out) | (with_reducible refine Kd.C_alloc ?_ _) | (with_reducible refine Kd.C_drewN ?_ _) | (with_reducible refine Kd.C_drew ?_))); (case side2 => exact HC0.out); rintro e w6 ⟨rfl, hb⟩; replace HB := Qz.mk (qo (by repeat (first | (with_reducible first | exact HB.out | apply qd | apply qa | apply qc) | exact HB.out)) hb); (try clear hb); (try clear hk)))
   repeat (go_quiet (first | (go_at_call 44; (with_reducible refine (impl_EntriesOk.calls k _ _ l0 true _ ?side1 ?side2 A4.out).mono ?_); (case side1 => repeat (first | exact (Kd.C_below HR0.out HB.out) | (with_reducible refine Kd.C_alloc ?_ _) | (with_reducible refine Kd.C_drewN ?_ _) | (with_reducible refine Kd.C_drew ?_))); (case side2 => exact HC0.out); rintro e w6 ⟨rfl, hb⟩; replace HB := Qz.mk (qo (by repeat (first | (with_reducible first | exact HB.out | apply qd | apply qa | apply qc) | exact HB.out)) hb); (try clear hb); (try clear hk))); try go_wp2_with (first | (go_at_call 44; (with_reducible refine (impl_EntriesOk.calls k _ _ l0 true _ ?side1 ?side2 A4.out).mono ?_); (case side1 => repeat (first | exact (Kd.C_below HR0.out HB.out) | (with_reducible refine Kd.C_alloc ?_ _) | (with_reducible refine Kd.C_drewN ?_ _) | (with_reducible refine Kd.C_drew ?_))); (case side2 => exact HC0.out); rintro e w6 ⟨rfl, hb⟩; replace HB := Qz.mk (qo (by repeat (first | (with_reducible first | exact HB.out | apply qd | apply qa | apply qc) | exact HB.out)) hb); (try clear hb); (try clear hk))))
   go_meet
   case rel => exact ⟨_, (decide (a1 < 1)), (by first | rfl | (simp; done) | (simp [*]; done)), H', ⟨by first | omega | exact Nat.le_refl _⟩, ⟨by repeat (first | (with_reducible first | exact HB.out | apply qd | apply qa | apply qc) | exact HB.out)⟩⟩
  ·replace c5 := Bool.eq_false_iff.mpr c5
   subst c5
   have H1 : (impl_SplitRun.j0 k l0 a1 true) = some r := by rw [if_neg (show ¬ (false = true) by decide)] at H; exact H
   clear H
   have H := H1
   clear H1
   have H' := Qz.mk H
   clear H
   go_wp2_with (first | (go_at_call 44; (with_reducible refine (impl_EntriesOk.calls k _ _ l0 false _ ?side1 ?side2 A4.out).mono ?_); (case side1 => repeat (first | exact (Kd.C_below HR0.out HB.out) | (with_reducible refine Kd.C_alloc ?_ _) | (with_reducible refine Kd.C_drewN ?_ _) | (with_reducible refine Kd.C_drew ?_))); (case side2 => exact HC0.out); rintro e w7 ⟨rfl, hb⟩; replace HB := Qz.mk (qo (by repeat (first | (with_reducible first | exact HB.out | apply qd | apply qa | apply qc) | exact HB.out)) hb); (try clear hb); (try clear hk)))
   repeat (go_quiet (first | (go_at_call 44; (with_reducible refine (impl_EntriesOk.calls k _ _ l0 false _ ?side1 ?side2 A4.out).mono ?_); (case side1 => repeat (first | exact (Kd.C_below HR0.out HB.out) | (with_reducible refine Kd.C_alloc ?_ _) | (with_reducible refine Kd.C_drewN ?_ _) | (with_reducible refine Kd.C_drew ?_))); (case side2 => exact HC0.out); rintro e w7 ⟨rfl, hb⟩; replace HB := Qz.mk (qo (by repeat (first | (with_reducible first | exact HB.out | apply qd | apply qa | apply qc) | exact HB.out)) hb); (try clear hb); (try clear hk))); try go_wp2_with (first | (go_at_call 44; (with_reducible refine (impl_EntriesOk.calls k _ _ l0 false _ ?side1 ?side2 A4.out).mono ?_); (case side1 => repeat (first | exact (Kd.C_below HR0.out HB.out) | (with_reducible refine Kd.C_alloc ?_ _) | (with_reducible refine Kd.C_drewN ?_ _) | (with_reducible refine Kd.C_drew ?_))); (case side2 => exact HC0.out); rintro e w7 ⟨rfl, hb⟩; replace HB := Qz.mk (qo (by repeat (first | (with_reducible first | exact HB.out | apply qd | apply qa | apply qc) | exact HB.out)) hb); (try clear hb); (try clear hk))))
   go_meet
   case rel => exact ⟨_, (true), (by first | rfl | (simp; done) | (simp [*]; done)), H', ⟨by first | omega | exact Nat.le_refl _⟩, ⟨by repeat (first | (with_reducible first | exact HB.out | apply qd | apply qa | apply qc) | exact HB.out)⟩⟩
 case rest =>
  clear HC3
  try clear c2
  try clear p2
  try clear c5
  obtain ⟨kq, x15_2, rfl, HA, HJ2, HB⟩ := hcut
  cases kq with
  | zero => exact absurd HA.out (by simp [impl_SplitRun.j0])
  | succ kj2 =>
   have H := HA.out
   clear HA
   simp only [impl_SplitRun.j0] at H
   by_cases c8 : x15_2 = true
   ·subst c8
    have H1 : (some ([] : List (S44))) = some r := by rw [if_pos rfl] at H; exact H
    clear H
    have H := H1
    clear H1
    obtain rfl := Option.some.inj H
    go_wp2
    repeat (go_quiet (fail); try go_wp2)
    go_ret
    exact ⟨_, by first | rfl | (simp [qq, qp] <;> rfl) | (simp [*, qq, qp] <;> rfl), by first | exact Kd.S_nil _ _ _ _ _ | exact Kd.N_nil _ _ _ _ _ | exact Kd.V_nil _ _ _ _ _ | exact Kd.Q_nil _ _ _ _ _ | exact Kd.R_nil _ _ _ _ _, by repeat (first | (with_reducible first | exact HB.out | apply qd | apply qa | apply qc) | exact HB.out)⟩
   ·replace c8 := Bool.eq_false_iff.mpr c8
    subst c8
    have H1 : (impl_SplitRun.l0 kj2 l0 a1 (([] : List (S44))) (([] : List (S48))) l0 (l0.length : Int) 0) = some r := by rw [if_neg (show ¬ (false = true) by decide)] at H; exact H
    clear H
    have H := H1
    clear H1
    obtain ⟨y102, hy102⟩ : ∃ y_ : List (S44), y_ = (([] : List (S44))) := ⟨_, rfl⟩
    replace H : (impl_SplitRun.l0 kj2 l0 a1 y102 (([] : List (S48))) l0 (l0.length : Int) 0) = some r := by first | (rw [hy102]; with_reducible exact H) | (have H2_ := (Option.bind_some _ _).symm.trans H; rw [hy102]; with_reducible exact H2_) | (have H2_ := (Option.bind_some _ _).symm.trans H; with_reducible exact H2_) | with_reducible exact H | (rw [hy102]; exact H) | exact H
    have Ny102 := Qz.mk hy102
    clear hy102
    obtain ⟨y105, hy105⟩ : ∃ y_ : List (S48), y_ = (([] : List (S48))) := ⟨_, rfl⟩
    replace H : (impl_SplitRun.l0 kj2 l0 a1 y102 y105 l0 (l0.length : Int) 0) = some r := by first | (rw [hy105]; with_reducible exact H) | (have H2_ := (Option.bind_some _ _).symm.trans H; rw [hy105]; with_reducible exact H2_) | (have H2_ := (Option.bind_some _ _).symm.trans H; with_reducible exact H2_) | with_reducible exact H | (rw [hy105]; exact H) | exact H
    have Ny105 := Qz.mk hy105
    clear hy105
    have H' := Qz.mk H
    clear H
    go_wp2_with (first | ((with_reducible refine qx (N := 16) rfl ?_); (try (refine qw (by rfl) ?_; dsimp only)); refine Kd.S_lit k44 _ 44 ?hg (N := 16) ?hd (xs := ([] : List (S44))) (inner := []) (ok := fun _ => True) (okp := fun _ => True) ?hr ?hp (fun _ hk => hk) trivial (Below.refl _ _) (Nat.le_refl _) (by simp) ?_; (case hd => rfl); (case hg => rfl); (case hr => first | (go_simp; done) | (go_simp; rfl)); (case hp => exact (Reps.none _ _)); intro v103 w9 ho10 hb hg_ hnew_; clear hg_ hnew_; (first | rw [← Ny102.out] at ho10 | (simp only [Int.reduceToNat] at ho10; rw [← Ny102.out] at ho10)); have HO104 := Qz.mk (Kd.S_lower ho10 (qu (by repeat (first | (with_reducible first | exact HB.out | apply qd | apply qa | apply qc) | exact HB.out)))); replace HB := Qz.mk (qo (by repeat (first | (with_reducible first | exact HB.out | apply qd | apply qa | apply qc) | exact HB.out)) hb); clear hb ho10) | ((with_reducible refine qx (N := 17) rfl ?_); (try (refine qw (by rfl) ?_; dsimp only)); refine Kd.R_lit k48 _ 48 ?hg (N := 17) ?hd (xs := ([] : List (S48))) (inner := []) (ok := fun _ => True) (okp := fun _ => True) ?hr ?hp (fun _ hk => hk) trivial (Below.refl _ _) (Nat.le_refl _) (by simp) ?_; (case hd => rfl); (case hg => rfl); (case hr => first | (go_simp; done) | (go_simp; rfl)); (case hp => exact (Reps.none _ _)); intro v106 w11 ho12 hb hg_ hnew_; clear hg_ hnew_; (first | rw [← Ny105.out] at ho12 | (simp only [Int.reduceToNat] at ho12; rw [← Ny105.out] at ho12)); replace HO104 := Qz.mk (Kd.S_elder' (by (with_reducible repeat (first | apply Kd.S_alloc | apply Kd.S_drewN | apply Kd.S_drew)); exact HO104.out) (Kd.R_base ho12) hb); have HO107 := Qz.mk (Kd.R_lower ho12 (qu (by repeat (first | (with_reducible first | exact HB.out | apply qd | apply qa | apply qc) | exact HB.out)))); replace HB := Qz.mk (qo (by repeat (first | (with_reducible first | exact HB.out | apply qd | apply qa | apply qc) | exact HB.out)) hb); clear hb ho12))
    repeat (go_quiet (first | ((with_reducible refine qx (N := 16) rfl ?_); (try (refine qw (by rfl) ?_; dsimp only)); refine Kd.S_lit k44 _ 44 ?hg (N := 16) ?hd (xs := ([] : List (S44))) (inner := []) (ok := fun _ => True) (okp := fun _ => True) ?hr ?hp (fun _ hk => hk) trivial (Below.refl _ _) (Nat.le_refl _) (by simp) ?_; (case hd => rfl); (case hg => rfl); (case hr => first | (go_simp; done) | (go_simp; rfl)); (case hp => exact (Reps.none _ _)); intro v103 w9 ho10 hb hg_ hnew_; clear hg_ hnew_; (first | rw [← Ny102.out] at ho10 | (simp only [Int.reduceToNat] at ho10; rw [← Ny102.out] at ho10)); have HO104 := Qz.mk (Kd.S_lower ho10 (qu (by repeat (first | (with_reducible first | exact HB.out | apply qd | apply qa | apply qc) | exact HB.out)))); replace HB := Qz.mk (qo (by repeat (first | (with_reducible first | exact HB.out | apply qd | apply qa | apply qc) | exact HB.out)) hb); clear hb ho10) | ((with_reducible refine qx (N := 17) rfl ?_); (try (refine qw (by rfl) ?_; dsimp only)); refine Kd.R_lit k48 _ 48 ?hg (N := 17) ?hd (xs := ([] : List (S48))) (inner := []) (ok := fun _ => True) (okp := fun _ => True) ?hr ?hp (fun _ hk => hk) trivial (Below.refl _ _) (Nat.le_refl _) (by simp) ?_; (case hd => rfl); (case hg => rfl); (case hr => first | (go_simp; done) | (go_simp; rfl)); (case hp => exact (Reps.none _ _)); intro v106 w11 ho12 hb hg_ hnew_; clear hg_ hnew_; (first | rw [← Ny105.out] at ho12 | (simp only [Int.reduceToNat] at ho12; rw [← Ny105.out] at ho12)); replace HO104 := Qz.mk (Kd.S_elder' (by (with_reducible repeat (first | apply Kd.S_alloc | apply Kd.S_drewN | apply Kd.S_drew)); exact HO104.out) (Kd.R_base ho12) hb); have HO107 := Qz.mk (Kd.R_lower ho12 (qu (by repeat (first | (with_reducible first | exact HB.out | apply qd | apply qa | apply qc) | exact HB.out)))); replace HB := Qz.mk (qo (by repeat (first | (with_reducible first | exact HB.out | apply qd | apply qa | apply qc) | exact HB.out)) hb); clear hb ho12)); try go_wp2_with (first | ((with_reducible refine qx (N := 16) rfl ?_); (try (refine qw (by rfl) ?_; dsimp only)); refine Kd.S_lit k44 _ 44 ?hg (N := 16) ?hd (xs := ([] : List (S44))) (inner := []) (ok := fun _ => True) (okp := fun _ => True) ?hr ?hp (fun _ hk => hk) trivial (Below.refl _ _) (Nat.le_refl _) (by simp) ?_; (case hd => rfl); (case hg => rfl); (case hr => first | (go_simp; done) | (go_simp; rfl)); (case hp => exact (Reps.none _ _)); intro v103 w9 ho10 hb hg_ hnew_; clear hg_ hnew_; (first | rw [← Ny102.out] at ho10 | (simp only [Int.reduceToNat] at ho10; rw [← Ny102.out] at ho10)); have HO104 := Qz.mk (Kd.S_lower ho10 (qu (by repeat (first | (with_reducible first | exact HB.out | apply qd | apply qa | apply qc) | exact HB.out)))); replace HB := Qz.mk (qo (by repeat (first | (with_reducible first | exact HB.out | apply qd | apply qa | apply qc) | exact HB.out)) hb); clear hb ho10) | ((with_reducible refine qx (N := 17) rfl ?_); (try (refine qw (by rfl) ?_; dsimp only)); refine Kd.R_lit k48 _ 48 ?hg (N := 17) ?hd (xs := ([] : List (S48))) (inner := []) (ok := fun _ => True) (okp := fun _ => True) ?hr ?hp (fun _ hk => hk) trivial (Below.refl _ _) (Nat.le_refl _) (by simp) ?_; (case hd => rfl); (case hg => rfl); (case hr => first | (go_simp; done) | (go_simp; rfl)); (case hp => exact (Reps.none _ _)); intro v106 w11 ho12 hb hg_ hnew_; clear hg_ hnew_; (first | rw [← Ny105.out] at ho12 | (simp only [Int.reduceToNat] at ho12; rw [← Ny105.out] at ho12)); replace HO104 := Qz.mk (Kd.S_elder' (by (with_reducible repeat (first | apply Kd.S_alloc | apply Kd.S_drewN | apply Kd.S_drew)); exact HO104.out) (Kd.R_base ho12) hb); have HO107 := Qz.mk (Kd.R_lower ho12 (qu (by repeat (first | (with_reducible first | exact HB.out | apply qd | apply qa | apply qc) | exact HB.out)))); replace HB := Qz.mk (qo (by repeat (first | (with_reducible first | exact HB.out | apply qd | apply qa | apply qc) | exact HB.out)) hb); clear hb ho12)))
    go_loopg [5, 6, 20] kj2 (fun kq v5 v6 v20 w' => ∃ (x5_2 : List (S44)) (x6_2 : List (S48)) (x20_2 : Int), v20 = .int .i64 x20_2 ∧ Qz (impl_SplitRun.l0 kq l0 a1 x5_2 x6_2 l0 (l0.length : Int) x20_2 = some r) ∧ Qz (kq ≤ kj2) ∧ Qz (Kd.S k44 44 w' w.heap.size (fun k_ => some k_ ≠ (v6 : Value).ownBlock) v5 x5_2) ∧ Qz (Kd.R k48 48 w' w.heap.size (fun _ => True) v6 x6_2) ∧ Qz (Below w.heap.size w w'))
    case atStart => exact ⟨(y102), (y105), (0), (by first | rfl | (simp; done) | (simp [*]; done)), H', ⟨Nat.le_refl _⟩, ⟨by (with_reducible repeat (first | apply Kd.S_alloc | apply Kd.S_drewN | apply Kd.S_drew)); exact Kd.S_mono HO104.out (fun _ hk => hk.2)⟩, ⟨by (with_reducible repeat (first | apply Kd.R_alloc | apply Kd.R_drewN | apply Kd.R_drew)); exact HO107.out⟩, ⟨by repeat (first | (with_reducible first | exact HB.out | apply qd | apply qa | apply qc) | exact HB.out)⟩⟩
    case round =>
     clear H'
     try clear c2
     try clear p2
     try clear c5
     try clear c8
     try clear p2
     obtain ⟨x5_2, x6_2, x20_2, rfl, HA, HK2, HO_5, HO_6, HB⟩ := hrel
     cases gk with
     | zero => exact absurd HA.out (by simp [impl_SplitRun.l0])
     | succ k2 =>
      have H := HA.out
      clear HA
      simp only [impl_SplitRun.l0] at H
      by_cases c13 : x20_2 < (l0.length : Int)
      ·rw [if_pos c13] at H
       have c13b0 : decide (x20_2 < (l0.length : Int)) = true := decide_eq_true c13
       clear c13
       by_cases c14 : 0 ≤ x20_2
       ·rw [if_pos c14] at H
        have c14b0 : decide (0 ≤ x20_2) = true := decide_eq_true c14
        clear c14
        by_cases c15 : x20_2 < (l0.length : Int)
        ·rw [if_pos c15] at H
         have c15b0 : decide (x20_2 < (l0.length : Int)) = true := decide_eq_true c15
         clear c15
         by_cases c16 : x6_2.length < 2932031007402
         ·rw [if_pos c16] at H
          have LMc16 := Qz.mk c16
          clear c16
          obtain ⟨y110, hy110⟩ : ∃ y_ : List (S48), y_ = (x6_2 ++ [(⟨(⟨(qb l0 x20_2).f0.f0, (qb l0 x20_2).f0.f1, (qb l0 x20_2).f0.f2⟩ : S46), (qb l0 x20_2).f1⟩ : S48)]) := ⟨_, rfl⟩
          replace H : (if x20_2 = (wrap64 ((l0.length : Int) - 1)) then (if x5_2.length < 5864062014805 then (impl_SplitRun.l0 k2 l0 a1 (x5_2 ++ [(⟨y110⟩ : S44)]) (([] : List (S48))) l0 (l0.length : Int) (wrap64 (x20_2 + 1))) else (none)) else (if (y110.length : Int) ≥ a1 then (if 0 ≤ (wrap64 (x20_2 + 1)) then (if (wrap64 (x20_2 + 1)) < (l0.length : Int) then (if ((qb l0 (wrap64 (x20_2 + 1))).f0.f0).toList = ((qb l0 x20_2).f0.f0).toList then (impl_SplitRun.l0 k2 l0 a1 x5_2 y110 l0 (l0.length : Int) (wrap64 (x20_2 + 1))) else (if x5_2.length < 5864062014805 then (impl_SplitRun.l0 k2 l0 a1 (x5_2 ++ [(⟨y110⟩ : S44)]) (([] : List (S48))) l0 (l0.length : Int) (wrap64 (x20_2 + 1))) else (none))) else (none)) else (none)) else (impl_SplitRun.l0 k2 l0 a1 x5_2 y110 l0 (l0.length : Int) (wrap64 (x20_2 + 1))))) = some r := by first | (rw [hy110]; with_reducible exact H) | (have H2_ := (Option.bind_some _ _).symm.trans H; rw [hy110]; with_reducible exact H2_) | (have H2_ := (Option.bind_some _ _).symm.trans H; with_reducible exact H2_) | with_reducible exact H | (rw [hy110]; exact H) | exact H
          have Ny110 := Qz.mk hy110
          clear hy110
          by_cases c17 : x20_2 = (wrap64 ((l0.length : Int) - 1))
          ·rw [if_pos c17] at H
           have c17b0 : (x20_2 == (wrap64 ((l0.length : Int) - 1))) = true := beq_iff_eq.mpr c17
           have c17b1 : (x20_2 != (wrap64 ((l0.length : Int) - 1))) = false := bne_eq_false_iff_eq.mpr c17
           clear c17
           by_cases c18 : x5_2.length < 5864062014805
           ·rw [if_pos c18] at H
            have LMc18 := Qz.mk c18
            clear c18
            obtain ⟨y113, hy113⟩ : ∃ y_ : List (S44), y_ = (x5_2 ++ [(⟨y110⟩ : S44)]) := ⟨_, rfl⟩
            replace H : (impl_SplitRun.l0 k2 l0 a1 y113 (([] : List (S48))) l0 (l0.length : Int) (wrap64 (x20_2 + 1))) = some r := by first | (rw [hy113]; with_reducible exact H) | (have H2_ := (Option.bind_some _ _).symm.trans H; rw [hy113]; with_reducible exact H2_) | (have H2_ := (Option.bind_some _ _).symm.trans H; with_reducible exact H2_) | with_reducible exact H | (rw [hy113]; exact H) | exact H
            have Ny113 := Qz.mk hy113
            clear hy113
            obtain ⟨y116, hy116⟩ : ∃ y_ : List (S48), y_ = (([] : List (S48))) := ⟨_, rfl⟩
            replace H : (impl_SplitRun.l0 k2 l0 a1 y113 y116 l0 (l0.length : Int) (wrap64 (x20_2 + 1))) = some r := by first | (rw [hy116]; with_reducible exact H) | (have H2_ := (Option.bind_some _ _).symm.trans H; rw [hy116]; with_reducible exact H2_) | (have H2_ := (Option.bind_some _ _).symm.trans H; with_reducible exact H2_) | with_reducible exact H | (rw [hy116]; exact H) | exact H
            have Ny116 := Qz.mk hy116
            clear hy116
            have H' := Qz.mk H
            clear H
            have p108 : 0 ≤ (x20_2 : Int) := of_decide_eq_true (by first | (with_reducible assumption) | assumption)
            have q108 : x20_2 < (l0.length : Int) := of_decide_eq_true (by first | (with_reducible assumption) | assumption)
            obtain ⟨ad108, e108, hx108_0, hx108_1, hx108_2, hx108_3⟩ := at_T48 HR0.out x20_2 p108 q108
            cases e108
            replace hx108_0 := (HB.out.cell (World.block_lt_of_cell? w _ hx108_0)).trans hx108_0
            replace hx108_1 := (HB.out.cell (World.block_lt_of_cell? w _ hx108_1)).trans hx108_1
            replace hx108_2 := (HB.out.cell (World.block_lt_of_cell? w _ hx108_2)).trans hx108_2
            replace hx108_3 := (HB.out.cell (World.block_lt_of_cell? w _ hx108_3)).trans hx108_3
            replace p108 := eq_true p108
            replace q108 := eq_true q108
            go_wp2_with (first | ((with_reducible refine qx (N := 8) rfl ?_); (try (refine qw (by rfl) ?_; dsimp only)); refine qa1 ?hg (N := 8) ?hd (cs := #[.string (⟨#[]⟩ : ByteArray), .int .i64 0, .int .i64 0, .string (⟨#[]⟩ : ByteArray)]) (t := 48) ?hr ?_; (case hd => rfl); (case hg => rfl); (case hr => first | (go_simp; done) | (go_simp; rfl)); intro gb109 hg w19 hbox hb; replace HO_5 := Qz.mk (Kd.S_below (Kd.S_elderB (by (with_reducible repeat (first | apply Kd.S_alloc | apply Kd.S_drewN | apply Kd.S_drew)); exact HO_5.out) gb109 (Nat.le_of_eq hg.symm)) hb); replace HO_6 := Qz.mk (Kd.R_below (Kd.R_elderB (by (with_reducible repeat (first | apply Kd.R_alloc | apply Kd.R_drewN | apply Kd.R_drew)); exact HO_6.out) gb109 (Nat.le_of_eq hg.symm)) hb); have BK109 := Qz.mk (hbox); have GW109 := Qz.mk ((by rw [hg]; exact (qu (by repeat (first | (with_reducible first | exact HB.out | apply qd | apply qa | apply qc) | exact HB.out))) : w.heap.size ≤ gb109)); have GE109 := GW109; replace HB := Qz.mk (qo (by repeat (first | (with_reducible first | exact HB.out | apply qd | apply qa | apply qc) | exact HB.out)) hb); clear hb hbox hg; have hcz20_0 : w19.cell? ⟨gb109, 0, none⟩ = some (.string (⟨#[]⟩ : ByteArray)) := (qh BK109.out 0).trans rfl; have hcz20_1 : w19.cell? ⟨gb109, 1, none⟩ = some (.int .i64 0) := (qh BK109.out 1).trans rfl; have hcz20_2 : w19.cell? ⟨gb109, 2, none⟩ = some (.int .i64 0) := (qh BK109.out 2).trans rfl; have hcz20_3 : w19.cell? ⟨gb109, 3, none⟩ = some (.string (⟨#[]⟩ : ByteArray)) := (qh BK109.out 3).trans rfl; have hfz20_0 := qg BK109.out 0; have hfz20_1 := qg BK109.out 1; have hfz20_2 := qg BK109.out 2; have hfz20_3 := qg BK109.out 3) | ((with_reducible refine qz (b := .append) (xs := #[.tmp 25, .tmp 27]) rfl ?_); (try (refine qw (by rfl) ?_; dsimp only)); at_builtin; refine Kd.R_append k48 (w0 := w) w.heap.size rfl (.tmp 25) (.tmp 27) 32 48 (.agg #[(.string ⟨#[]⟩), (.int .i64 0), (.int .i64 0), (.string ⟨#[]⟩)]) 48 rfl Try.underlying32 info48 rfl (by decide) (by omega) u6 x6_2 (⟨(⟨(qb l0 x20_2).f0.f0, (qb l0 x20_2).f0.f1, (qb l0 x20_2).f0.f2⟩ : S46), (qb l0 x20_2).f1⟩ : S48) [.string ((qb l0 x20_2).f0.f0), .int .i64 ((qb l0 x20_2).f0.f1), .int .i64 ((qb l0 x20_2).f0.f2), .string ((qb l0 x20_2).f1)] (fun k_ => k_ ≠ gb109) (fun _ => False) rfl (by first | (go_simp; done) | (go_simp; rfl)) ?aP (fun _ hk => hk.elim) ?aF ?aO ?aB ?aS ?aL ?_; (case aP => exact k48_mkM _ _ _ (⟨(⟨(qb l0 x20_2).f0.f0, (qb l0 x20_2).f0.f1, (qb l0 x20_2).f0.f2⟩ : S46), (qb l0 x20_2).f1⟩ : S48)); (case aB => exact (by repeat (first | (with_reducible first | exact HB.out | apply qd | apply qa | apply qc | refine qi ?_ GE109.out) | exact HB.out))); (case aF => exact (fun k_ hk => Kd.freshB (g := gb109) (o := .cells #[.string ((qb l0 x20_2).f0.f0), .int .i64 ((qb l0 x20_2).f0.f1), .int .i64 ((qb l0 x20_2).f0.f2), .string ((qb l0 x20_2).f1)] 48 (0, 0)) (by (with_reducible repeat (first | refine qe ?_ _ | refine qj ?_ | refine qf ?_ _)); refine qt (cs := #[.string ((qb l0 x20_2).f0.f0), .int .i64 ((qb l0 x20_2).f0.f1), .int .i64 ((qb l0 x20_2).f0.f2), .string (⟨#[]⟩ : ByteArray)]) ?_ 3 _ rfl; (with_reducible repeat (first | refine qe ?_ _ | refine qj ?_ | refine qf ?_ _)); refine qt (cs := #[.string ((qb l0 x20_2).f0.f0), .int .i64 ((qb l0 x20_2).f0.f1), .int .i64 0, .string (⟨#[]⟩ : ByteArray)]) ?_ 2 _ rfl; (with_reducible repeat (first | refine qe ?_ _ | refine qj ?_ | refine qf ?_ _)); refine qt (cs := #[.string ((qb l0 x20_2).f0.f0), .int .i64 0, .int .i64 0, .string (⟨#[]⟩ : ByteArray)]) ?_ 1 _ rfl; (with_reducible repeat (first | refine qe ?_ _ | refine qj ?_ | refine qf ?_ _)); refine qt (cs := #[.string (⟨#[]⟩ : ByteArray), .int .i64 0, .int .i64 0, .string (⟨#[]⟩ : ByteArray)]) ?_ 0 _ rfl; (with_reducible repeat (first | refine qe ?_ _ | refine qj ?_ | refine qf ?_ _)); exact BK109.out) k_ hk)); (case aO => exact (by (with_reducible repeat (first | apply Kd.R_alloc | apply Kd.R_drewN | apply Kd.R_drew)); exact Kd.R_mono (Kd.R_far (p := ⟨gb109, 3, none⟩) (Kd.R_far (p := ⟨gb109, 2, none⟩) (Kd.R_far (p := ⟨gb109, 1, none⟩) (Kd.R_far (p := ⟨gb109, 0, none⟩) (Kd.R_mono HO_6.out (fun k_ hk => (⟨hk, hk.2⟩ : _ ∧ k_ ≠ gb109))) (fun _ hk => hk.2) (.string ((qb l0 x20_2).f0.f0))) (fun _ hk => hk.2) (.int .i64 ((qb l0 x20_2).f0.f1))) (fun _ hk => hk.2) (.int .i64 ((qb l0 x20_2).f0.f2))) (fun _ hk => hk.2) (.string ((qb l0 x20_2).f1))) (fun _ hk => hk.1.2))); (case aS => exact (qu (by repeat (first | (with_reducible first | exact HB.out | apply qd | apply qa | apply qc | refine qi ?_ GE109.out) | exact HB.out)))); (case aL => have := LMc16.out; omega); intro v111 w21 ho hb hg hat; rw [← Ny110.out] at ho; have n0_ := Qz.mk (Kd.S_after (ok := (fun k_ => k_ ≠ gb109)) (by (with_reducible repeat (first | apply Kd.S_alloc | apply Kd.S_drewN | apply Kd.S_drew)); exact Kd.S_mono (Kd.S_far (p := ⟨gb109, 3, none⟩) (Kd.S_far (p := ⟨gb109, 2, none⟩) (Kd.S_far (p := ⟨gb109, 1, none⟩) (Kd.S_far (p := ⟨gb109, 0, none⟩) (Kd.S_mono HO_5.out (fun k_ hk => (⟨hk, hk.2⟩ : _ ∧ k_ ≠ gb109))) (fun _ hk => hk.2) (.string ((qb l0 x20_2).f0.f0))) (fun _ hk => hk.2) (.int .i64 ((qb l0 x20_2).f0.f1))) (fun _ hk => hk.2) (.int .i64 ((qb l0 x20_2).f0.f2))) (fun _ hk => hk.2) (.string ((qb l0 x20_2).f1))) (fun _ hk => ⟨hk.1.2, hk.1.1⟩)) hg hat); have n1_ := Qz.mk (blk_grown (g := gb109) (o := .cells #[.string ((qb l0 x20_2).f0.f0), .int .i64 ((qb l0 x20_2).f0.f1), .int .i64 ((qb l0 x20_2).f0.f2), .string ((qb l0 x20_2).f1)] 48 (0, 0)) (by (with_reducible repeat (first | refine qe ?_ _ | refine qj ?_ | refine qf ?_ _)); refine qt (cs := #[.string ((qb l0 x20_2).f0.f0), .int .i64 ((qb l0 x20_2).f0.f1), .int .i64 ((qb l0 x20_2).f0.f2), .string (⟨#[]⟩ : ByteArray)]) ?_ 3 _ rfl; (with_reducible repeat (first | refine qe ?_ _ | refine qj ?_ | refine qf ?_ _)); refine qt (cs := #[.string ((qb l0 x20_2).f0.f0), .int .i64 ((qb l0 x20_2).f0.f1), .int .i64 0, .string (⟨#[]⟩ : ByteArray)]) ?_ 2 _ rfl; (with_reducible repeat (first | refine qe ?_ _ | refine qj ?_ | refine qf ?_ _)); refine qt (cs := #[.string ((qb l0 x20_2).f0.f0), .int .i64 0, .int .i64 0, .string (⟨#[]⟩ : ByteArray)]) ?_ 1 _ rfl; (with_reducible repeat (first | refine qe ?_ _ | refine qj ?_ | refine qf ?_ _)); refine qt (cs := #[.string (⟨#[]⟩ : ByteArray), .int .i64 0, .int .i64 0, .string (⟨#[]⟩ : ByteArray)]) ?_ 0 _ rfl; (with_reducible repeat (first | refine qe ?_ _ | refine qj ?_ | refine qf ?_ _)); exact BK109.out) hg (Kd.R_away HO_6.out (fun _ hk => hk.2))); have n2_ := Qz.mk (hb); have n3_ := Qz.mk (ho); clear HO_5; clear BK109; clear HB; clear HO_6; have HO_5 := n0_; have BK109 := n1_; have HB := n2_; have HO112 := n3_; clear n0_ n1_ n2_ n3_; clear ho hb hg hat; obtain ⟨Ao22, co22, eo22⟩ := Kd.R_slice HO112.out; subst eo22) | ((with_reducible refine qz (b := .append) (xs := #[.tmp 53, .tmp 56]) rfl ?_); (try (refine qw (by rfl) ?_; dsimp only)); at_builtin; refine Kd.S_append k44 (w0 := w) w.heap.size rfl (.tmp 53) (.tmp 56) 25 44 (.agg #[(.slice none 0 0)]) 24 rfl Try.underlying25 info44 rfl (by decide) (by omega) u5 x5_2 (⟨y110⟩ : S44) [.slice Ao22 y110.length co22] (fun k_ => k_ ≠ gb109) (fun k_ => some k_ = (.slice Ao22 y110.length co22 : Value).ownBlock) rfl rfl ?aP (fun k_ hk_ => ((Kd.R_mono (ok' := fun k_ => ((fun k_ => k_ ≠ gb109)) k_ ∧ some k_ ≠ (u5 : Value).ownBlock) (Kd.R_apart' (HO112.out) (Kd.S_typed HO_5.out) (by decide)) (fun k_ hk => ⟨hk.1, hk.2⟩))).1 k_ hk_.symm) ?aF ?aO ?aB ?aS ?aL ?_; (case aP => exact k44_mkM _ _ _ (⟨y110⟩ : S44) (Kd.R_mono (Kd.R_tight rfl (Kd.R_mono (ok' := fun k_ => ((fun k_ => k_ ≠ gb109)) k_ ∧ some k_ ≠ (u5 : Value).ownBlock) (Kd.R_apart' (HO112.out) (Kd.S_typed HO_5.out) (by decide)) (fun k_ hk => ⟨hk.1, hk.2⟩))) (fun _ h_ => h_))); (case aB => exact (by repeat (first | (with_reducible first | exact HB.out | apply qd | apply qa | apply qc | refine qi ?_ GE109.out) | exact HB.out))); (case aF => exact (fun k_ hk => Kd.freshB (g := gb109) (o := .cells #[.string ((qb l0 x20_2).f0.f0), .int .i64 ((qb l0 x20_2).f0.f1), .int .i64 ((qb l0 x20_2).f0.f2), .string ((qb l0 x20_2).f1)] 48 (0, 0)) (by (with_reducible repeat (first | refine qe ?_ _ | refine qj ?_ | refine qf ?_ _)); exact BK109.out) k_ hk)); (case aO => exact (by (with_reducible repeat (first | apply Kd.S_alloc | apply Kd.S_drewN | apply Kd.S_drew)); exact Kd.S_mono HO_5.out (fun k_ hk => ⟨hk.1, fun e_ => hk.2 e_⟩))); (case aS => exact (qu (by repeat (first | (with_reducible first | exact HB.out | apply qd | apply qa | apply qc | refine qi ?_ GE109.out) | exact HB.out)))); (case aL => have := LMc18.out; omega); intro v114 w23 ho hb hg hat; rw [← Ny113.out] at ho; have n0_ := Qz.mk (blk_grown (g := gb109) (o := .cells #[.string ((qb l0 x20_2).f0.f0), .int .i64 ((qb l0 x20_2).f0.f1), .int .i64 ((qb l0 x20_2).f0.f2), .string ((qb l0 x20_2).f1)] 48 (0, 0)) (by (with_reducible repeat (first | refine qe ?_ _ | refine qj ?_ | refine qf ?_ _)); exact BK109.out) hg (Kd.S_ne HO_5.out BK109.out (by decide))); have n1_ := Qz.mk (hb); have n2_ := Qz.mk (ho); clear BK109; clear HB; clear HO_5; clear HO112; have BK109 := n0_; have HB := n1_; have HO115 := n2_; clear n0_ n1_ n2_; clear ho hb hg hat) | ((with_reducible refine qx (N := 58) rfl ?_); (try (refine qw (by rfl) ?_; dsimp only)); refine Kd.R_lit k48 _ 48 ?hg (N := 58) ?hd (xs := ([] : List (S48))) (inner := []) (ok := fun _ => True) (okp := fun _ => True) ?hr ?hp (fun _ hk => hk) trivial (Below.refl _ _) (Nat.le_refl _) (by simp) ?_; (case hd => rfl); (case hg => rfl); (case hr => first | (go_simp; done) | (go_simp; rfl)); (case hp => exact (Reps.none _ _)); intro v117 w24 ho25 hb hg_ hnew_; clear hg_ hnew_; (first | rw [← Ny116.out] at ho25 | (simp only [Int.reduceToNat] at ho25; rw [← Ny116.out] at ho25)); replace HO115 := Qz.mk (Kd.S_elder' (by (with_reducible repeat (first | apply Kd.S_alloc | apply Kd.S_drewN | apply Kd.S_drew)); exact HO115.out) (Kd.R_base ho25) hb); have HO118 := Qz.mk (Kd.R_lower (Kd.R_newB ho25 (g := gb109) (o := .cells #[.string ((qb l0 x20_2).f0.f0), .int .i64 ((qb l0 x20_2).f0.f1), .int .i64 ((qb l0 x20_2).f0.f2), .string ((qb l0 x20_2).f1)] 48 (0, 0)) (by (with_reducible repeat (first | refine qe ?_ _ | refine qj ?_ | refine qf ?_ _)); exact BK109.out)) (qu (by repeat (first | (with_reducible first | exact HB.out | apply qd | apply qa | apply qc | refine qi ?_ GE109.out) | exact HB.out)))); replace BK109 := Qz.mk (blk_below (g := gb109) (o := .cells #[.string ((qb l0 x20_2).f0.f0), .int .i64 ((qb l0 x20_2).f0.f1), .int .i64 ((qb l0 x20_2).f0.f2), .string ((qb l0 x20_2).f1)] 48 (0, 0)) (by (with_reducible repeat (first | refine qe ?_ _ | refine qj ?_ | refine qf ?_ _)); exact BK109.out) hb); replace HB := Qz.mk (qo (by repeat (first | (with_reducible first | exact HB.out | apply qd | apply qa | apply qc | refine qi ?_ GE109.out) | exact HB.out)) hb); clear hb ho25))
            repeat (go_quiet (first | ((with_reducible refine qx (N := 8) rfl ?_); (try (refine qw (by rfl) ?_; dsimp only)); refine qa1 ?hg (N := 8) ?hd (cs := #[.string (⟨#[]⟩ : ByteArray), .int .i64 0, .int .i64 0, .string (⟨#[]⟩ : ByteArray)]) (t := 48) ?hr ?_; (case hd => rfl); (case hg => rfl); (case hr => first | (go_simp; done) | (go_simp; rfl)); intro gb109 hg w19 hbox hb; replace HO_5 := Qz.mk (Kd.S_below (Kd.S_elderB (by (with_reducible repeat (first | apply Kd.S_alloc | apply Kd.S_drewN | apply Kd.S_drew)); exact HO_5.out) gb109 (Nat.le_of_eq hg.symm)) hb); replace HO_6 := Qz.mk (Kd.R_below (Kd.R_elderB (by (with_reducible repeat (first | apply Kd.R_alloc | apply Kd.R_drewN | apply Kd.R_drew)); exact HO_6.out) gb109 (Nat.le_of_eq hg.symm)) hb); have BK109 := Qz.mk (hbox); have GW109 := Qz.mk ((by rw [hg]; exact (qu (by repeat (first | (with_reducible first | exact HB.out | apply qd | apply qa | apply qc) | exact HB.out))) : w.heap.size ≤ gb109)); have GE109 := GW109; replace HB := Qz.mk (qo (by repeat (first | (with_reducible first | exact HB.out | apply qd | apply qa | apply qc) | exact HB.out)) hb); clear hb hbox hg; have hcz20_0 : w19.cell? ⟨gb109, 0, none⟩ = some (.string (⟨#[]⟩ : ByteArray)) := (qh BK109.out 0).trans rfl; have hcz20_1 : w19.cell? ⟨gb109, 1, none⟩ = some (.int .i64 0) := (qh BK109.out 1).trans rfl; have hcz20_2 : w19.cell? ⟨gb109, 2, none⟩ = some (.int .i64 0) := (qh BK109.out 2).trans rfl; have hcz20_3 : w19.cell? ⟨gb109, 3, none⟩ = some (.string (⟨#[]⟩ : ByteArray)) := (qh BK109.out 3).trans rfl; have hfz20_0 := qg BK109.out 0; have hfz20_1 := qg BK109.out 1; have hfz20_2 := qg BK109.out 2; have hfz20_3 := qg BK109.out 3) | ((with_reducible refine qz (b := .append) (xs := #[.tmp 25, .tmp 27]) rfl ?_); (try (refine qw (by rfl) ?_; dsimp only)); at_builtin; refine Kd.R_append k48 (w0 := w) w.heap.size rfl (.tmp 25) (.tmp 27) 32 48 (.agg #[(.string ⟨#[]⟩), (.int .i64 0), (.int .i64 0), (.string ⟨#[]⟩)]) 48 rfl Try.underlying32 info48 rfl (by decide) (by omega) u6 x6_2 (⟨(⟨(qb l0 x20_2).f0.f0, (qb l0 x20_2).f0.f1, (qb l0 x20_2).f0.f2⟩ : S46), (qb l0 x20_2).f1⟩ : S48) [.string ((qb l0 x20_2).f0.f0), .int .i64 ((qb l0 x20_2).f0.f1), .int .i64 ((qb l0 x20_2).f0.f2), .string ((qb l0 x20_2).f1)] (fun k_ => k_ ≠ gb109) (fun _ => False) rfl (by first | (go_simp; done) | (go_simp; rfl)) ?aP (fun _ hk => hk.elim) ?aF ?aO ?aB ?aS ?aL ?_; (case aP => exact k48_mkM _ _ _ (⟨(⟨(qb l0 x20_2).f0.f0, (qb l0 x20_2).f0.f1, (qb l0 x20_2).f0.f2⟩ : S46), (qb l0 x20_2).f1⟩ : S48)); (case aB => exact (by repeat (first | (with_reducible first | exact HB.out | apply qd | apply qa | apply qc | refine qi ?_ GE109.out) | exact HB.out))); (case aF => exact (fun k_ hk => Kd.freshB (g := gb109) (o := .cells #[.string ((qb l0 x20_2).f0.f0), .int .i64 ((qb l0 x20_2).f0.f1), .int .i64 ((qb l0 x20_2).f0.f2), .string ((qb l0 x20_2).f1)] 48 (0, 0)) (by (with_reducible repeat (first | refine qe ?_ _ | refine qj ?_ | refine qf ?_ _)); refine qt (cs := #[.string ((qb l0 x20_2).f0.f0), .int .i64 ((qb l0 x20_2).f0.f1), .int .i64 ((qb l0 x20_2).f0.f2), .string (⟨#[]⟩ : ByteArray)]) ?_ 3 _ rfl; (with_reducible repeat (first | refine qe ?_ _ | refine qj ?_ | refine qf ?_ _)); refine qt (cs := #[.string ((qb l0 x20_2).f0.f0), .int .i64 ((qb l0 x20_2).f0.f1), .int .i64 0, .string (⟨#[]⟩ : ByteArray)]) ?_ 2 _ rfl; (with_reducible repeat (first | refine qe ?_ _ | refine qj ?_ | refine qf ?_ _)); refine qt (cs := #[.string ((qb l0 x20_2).f0.f0), .int .i64 0, .int .i64 0, .string (⟨#[]⟩ : ByteArray)]) ?_ 1 _ rfl; (with_reducible repeat (first | refine qe ?_ _ | refine qj ?_ | refine qf ?_ _)); refine qt (cs := #[.string (⟨#[]⟩ : ByteArray), .int .i64 0, .int .i64 0, .string (⟨#[]⟩ : ByteArray)]) ?_ 0 _ rfl; (with_reducible repeat (first | refine qe ?_ _ | refine qj ?_ | refine qf ?_ _)); exact BK109.out) k_ hk)); (case aO => exact (by (with_reducible repeat (first | apply Kd.R_alloc | apply Kd.R_drewN | apply Kd.R_drew)); exact Kd.R_mono (Kd.R_far (p := ⟨gb109, 3, none⟩) (Kd.R_far (p := ⟨gb109, 2, none⟩) (Kd.R_far (p := ⟨gb109, 1, none⟩) (Kd.R_far (p := ⟨gb109, 0, none⟩) (Kd.R_mono HO_6.out (fun k_ hk => (⟨hk, hk.2⟩ : _ ∧ k_ ≠ gb109))) (fun _ hk => hk.2) (.string ((qb l0 x20_2).f0.f0))) (fun _ hk => hk.2) (.int .i64 ((qb l0 x20_2).f0.f1))) (fun _ hk => hk.2) (.int .i64 ((qb l0 x20_2).f0.f2))) (fun _ hk => hk.2) (.string ((qb l0 x20_2).f1))) (fun _ hk => hk.1.2))); (case aS => exact (qu (by repeat (first | (with_reducible first | exact HB.out | apply qd | apply qa | apply qc | refine qi ?_ GE109.out) | exact HB.out)))); (case aL => have := LMc16.out; omega); intro v111 w21 ho hb hg hat; rw [← Ny110.out] at ho; have n0_ := Qz.mk (Kd.S_after (ok := (fun k_ => k_ ≠ gb109)) (by (with_reducible repeat (first | apply Kd.S_alloc | apply Kd.S_drewN | apply Kd.S_drew)); exact Kd.S_mono (Kd.S_far (p := ⟨gb109, 3, none⟩) (Kd.S_far (p := ⟨gb109, 2, none⟩) (Kd.S_far (p := ⟨gb109, 1, none⟩) (Kd.S_far (p := ⟨gb109, 0, none⟩) (Kd.S_mono HO_5.out (fun k_ hk => (⟨hk, hk.2⟩ : _ ∧ k_ ≠ gb109))) (fun _ hk => hk.2) (.string ((qb l0 x20_2).f0.f0))) (fun _ hk => hk.2) (.int .i64 ((qb l0 x20_2).f0.f1))) (fun _ hk => hk.2) (.int .i64 ((qb l0 x20_2).f0.f2))) (fun _ hk => hk.2) (.string ((qb l0 x20_2).f1))) (fun _ hk => ⟨hk.1.2, hk.1.1⟩)) hg hat); have n1_ := Qz.mk (blk_grown (g := gb109) (o := .cells #[.string ((qb l0 x20_2).f0.f0), .int .i64 ((qb l0 x20_2).f0.f1), .int .i64 ((qb l0 x20_2).f0.f2), .string ((qb l0 x20_2).f1)] 48 (0, 0)) (by (with_reducible repeat (first | refine qe ?_ _ | refine qj ?_ | refine qf ?_ _)); refine qt (cs := #[.string ((qb l0 x20_2).f0.f0), .int .i64 ((qb l0 x20_2).f0.f1), .int .i64 ((qb l0 x20_2).f0.f2), .string (⟨#[]⟩ : ByteArray)]) ?_ 3 _ rfl; (with_reducible repeat (first | refine qe ?_ _ | refine qj ?_ | refine qf ?_ _)); refine qt (cs := #[.string ((qb l0 x20_2).f0.f0), .int .i64 ((qb l0 x20_2).f0.f1), .int .i64 0, .string (⟨#[]⟩ : ByteArray)]) ?_ 2 _ rfl; (with_reducible repeat (first | refine qe ?_ _ | refine qj ?_ | refine qf ?_ _)); refine qt (cs := #[.string ((qb l0 x20_2).f0.f0), .int .i64 0, .int .i64 0, .string (⟨#[]⟩ : ByteArray)]) ?_ 1 _ rfl; (with_reducible repeat (first | refine qe ?_ _ | refine qj ?_ | refine qf ?_ _)); refine qt (cs := #[.string (⟨#[]⟩ : ByteArray), .int .i64 0, .int .i64 0, .string (⟨#[]⟩ : ByteArray)]) ?_ 0 _ rfl; (with_reducible repeat (first | refine qe ?_ _ | refine qj ?_ | refine qf ?_ _)); exact BK109.out) hg (Kd.R_away HO_6.out (fun _ hk => hk.2))); have n2_ := Qz.mk (hb); have n3_ := Qz.mk (ho); clear HO_5; clear BK109; clear HB; clear HO_6; have HO_5 := n0_; have BK109 := n1_; have HB := n2_; have HO112 := n3_; clear n0_ n1_ n2_ n3_; clear ho hb hg hat; obtain ⟨Ao22, co22, eo22⟩ := Kd.R_slice HO112.out; subst eo22) | ((with_reducible refine qz (b := .append) (xs := #[.tmp 53, .tmp 56]) rfl ?_); (try (refine qw (by rfl) ?_; dsimp only)); at_builtin; refine Kd.S_append k44 (w0 := w) w.heap.size rfl (.tmp 53) (.tmp 56) 25 44 (.agg #[(.slice none 0 0)]) 24 rfl Try.underlying25 info44 rfl (by decide) (by omega) u5 x5_2 (⟨y110⟩ : S44) [.slice Ao22 y110.length co22] (fun k_ => k_ ≠ gb109) (fun k_ => some k_ = (.slice Ao22 y110.length co22 : Value).ownBlock) rfl rfl ?aP (fun k_ hk_ => ((Kd.R_mono (ok' := fun k_ => ((fun k_ => k_ ≠ gb109)) k_ ∧ some k_ ≠ (u5 : Value).ownBlock) (Kd.R_apart' (HO112.out) (Kd.S_typed HO_5.out) (by decide)) (fun k_ hk => ⟨hk.1, hk.2⟩))).1 k_ hk_.symm) ?aF ?aO ?aB ?aS ?aL ?_; (case aP => exact k44_mkM _ _ _ (⟨y110⟩ : S44) (Kd.R_mono (Kd.R_tight rfl (Kd.R_mono (ok' := fun k_ => ((fun k_ => k_ ≠ gb109)) k_ ∧ some k_ ≠ (u5 : Value).ownBlock) (Kd.R_apart' (HO112.out) (Kd.S_typed HO_5.out) (by decide)) (fun k_ hk => ⟨hk.1, hk.2⟩))) (fun _ h_ => h_))); (case aB => exact (by repeat (first | (with_reducible first | exact HB.out | apply qd | apply qa | apply qc | refine qi ?_ GE109.out) | exact HB.out))); (case aF => exact (fun k_ hk => Kd.freshB (g := gb109) (o := .cells #[.string ((qb l0 x20_2).f0.f0), .int .i64 ((qb l0 x20_2).f0.f1), .int .i64 ((qb l0 x20_2).f0.f2), .string ((qb l0 x20_2).f1)] 48 (0, 0)) (by (with_reducible repeat (first | refine qe ?_ _ | refine qj ?_ | refine qf ?_ _)); exact BK109.out) k_ hk)); (case aO => exact (by (with_reducible repeat (first | apply Kd.S_alloc | apply Kd.S_drewN | apply Kd.S_drew)); exact Kd.S_mono HO_5.out (fun k_ hk => ⟨hk.1, fun e_ => hk.2 e_⟩))); (case aS => exact (qu (by repeat (first | (with_reducible first | exact HB.out | apply qd | apply qa | apply qc | refine qi ?_ GE109.out) | exact HB.out)))); (case aL => have := LMc18.out; omega); intro v114 w23 ho hb hg hat; rw [← Ny113.out] at ho; have n0_ := Qz.mk (blk_grown (g := gb109) (o := .cells #[.string ((qb l0 x20_2).f0.f0), .int .i64 ((qb l0 x20_2).f0.f1), .int .i64 ((qb l0 x20_2).f0.f2), .string ((qb l0 x20_2).f1)] 48 (0, 0)) (by (with_reducible repeat (first | refine qe ?_ _ | refine qj ?_ | refine qf ?_ _)); exact BK109.out) hg (Kd.S_ne HO_5.out BK109.out (by decide))); have n1_ := Qz.mk (hb); have n2_ := Qz.mk (ho); clear BK109; clear HB; clear HO_5; clear HO112; have BK109 := n0_; have HB := n1_; have HO115 := n2_; clear n0_ n1_ n2_; clear ho hb hg hat) | ((with_reducible refine qx (N := 58) rfl ?_); (try (refine qw (by rfl) ?_; dsimp only)); refine Kd.R_lit k48 _ 48 ?hg (N := 58) ?hd (xs := ([] : List (S48))) (inner := []) (ok := fun _ => True) (okp := fun _ => True) ?hr ?hp (fun _ hk => hk) trivial (Below.refl _ _) (Nat.le_refl _) (by simp) ?_; (case hd => rfl); (case hg => rfl); (case hr => first | (go_simp; done) | (go_simp; rfl)); (case hp => exact (Reps.none _ _)); intro v117 w24 ho25 hb hg_ hnew_; clear hg_ hnew_; (first | rw [← Ny116.out] at ho25 | (simp only [Int.reduceToNat] at ho25; rw [← Ny116.out] at ho25)); replace HO115 := Qz.mk (Kd.S_elder' (by (with_reducible repeat (first | apply Kd.S_alloc | apply Kd.S_drewN | apply Kd.S_drew)); exact HO115.out) (Kd.R_base ho25) hb); have HO118 := Qz.mk (Kd.R_lower (Kd.R_newB ho25 (g := gb109) (o := .cells #[.string ((qb l0 x20_2).f0.f0), .int .i64 ((qb l0 x20_2).f0.f1), .int .i64 ((qb l0 x20_2).f0.f2), .string ((qb l0 x20_2).f1)] 48 (0, 0)) (by (with_reducible repeat (first | refine qe ?_ _ | refine qj ?_ | refine qf ?_ _)); exact BK109.out)) (qu (by repeat (first | (with_reducible first | exact HB.out | apply qd | apply qa | apply qc | refine qi ?_ GE109.out) | exact HB.out)))); replace BK109 := Qz.mk (blk_below (g := gb109) (o := .cells #[.string ((qb l0 x20_2).f0.f0), .int .i64 ((qb l0 x20_2).f0.f1), .int .i64 ((qb l0 x20_2).f0.f2), .string ((qb l0 x20_2).f1)] 48 (0, 0)) (by (with_reducible repeat (first | refine qe ?_ _ | refine qj ?_ | refine qf ?_ _)); exact BK109.out) hb); replace HB := Qz.mk (qo (by repeat (first | (with_reducible first | exact HB.out | apply qd | apply qa | apply qc | refine qi ?_ GE109.out) | exact HB.out)) hb); clear hb ho25)); try go_wp2_with (first | ((with_reducible refine qx (N := 8) rfl ?_); (try (refine qw (by rfl) ?_; dsimp only)); refine qa1 ?hg (N := 8) ?hd (cs := #[.string (⟨#[]⟩ : ByteArray), .int .i64 0, .int .i64 0, .string (⟨#[]⟩ : ByteArray)]) (t := 48) ?hr ?_; (case hd => rfl); (case hg => rfl); (case hr => first | (go_simp; done) | (go_simp; rfl)); intro gb109 hg w19 hbox hb; replace HO_5 := Qz.mk (Kd.S_below (Kd.S_elderB (by (with_reducible repeat (first | apply Kd.S_alloc | apply Kd.S_drewN | apply Kd.S_drew)); exact HO_5.out) gb109 (Nat.le_of_eq hg.symm)) hb); replace HO_6 := Qz.mk (Kd.R_below (Kd.R_elderB (by (with_reducible repeat (first | apply Kd.R_alloc | apply Kd.R_drewN | apply Kd.R_drew)); exact HO_6.out) gb109 (Nat.le_of_eq hg.symm)) hb); have BK109 := Qz.mk (hbox); have GW109 := Qz.mk ((by rw [hg]; exact (qu (by repeat (first | (with_reducible first | exact HB.out | apply qd | apply qa | apply qc) | exact HB.out))) : w.heap.size ≤ gb109)); have GE109 := GW109; replace HB := Qz.mk (qo (by repeat (first | (with_reducible first | exact HB.out | apply qd | apply qa | apply qc) | exact HB.out)) hb); clear hb hbox hg; have hcz20_0 : w19.cell? ⟨gb109, 0, none⟩ = some (.string (⟨#[]⟩ : ByteArray)) := (qh BK109.out 0).trans rfl; have hcz20_1 : w19.cell? ⟨gb109, 1, none⟩ = some (.int .i64 0) := (qh BK109.out 1).trans rfl; have hcz20_2 : w19.cell? ⟨gb109, 2, none⟩ = some (.int .i64 0) := (qh BK109.out 2).trans rfl; have hcz20_3 : w19.cell? ⟨gb109, 3, none⟩ = some (.string (⟨#[]⟩ : ByteArray)) := (qh BK109.out 3).trans rfl; have hfz20_0 := qg BK109.out 0; have hfz20_1 := qg BK109.out 1; have hfz20_2 := qg BK109.out 2; have hfz20_3 := qg BK109.out 3) | ((with_reducible refine qz (b := .append) (xs := #[.tmp 25, .tmp 27]) rfl ?_); (try (refine qw (by rfl) ?_; dsimp only)); at_builtin; refine Kd.R_append k48 (w0 := w) w.heap.size rfl (.tmp 25) (.tmp 27) 32 48 (.agg #[(.string ⟨#[]⟩), (.int .i64 0), (.int .i64 0), (.string ⟨#[]⟩)]) 48 rfl Try.underlying32 info48 rfl (by decide) (by omega) u6 x6_2 (⟨(⟨(qb l0 x20_2).f0.f0, (qb l0 x20_2).f0.f1, (qb l0 x20_2).f0.f2⟩ : S46), (qb l0 x20_2).f1⟩ : S48) [.string ((qb l0 x20_2).f0.f0), .int .i64 ((qb l0 x20_2).f0.f1), .int .i64 ((qb l0 x20_2).f0.f2), .string ((qb l0 x20_2).f1)] (fun k_ => k_ ≠ gb109) (fun _ => False) rfl (by first | (go_simp; done) | (go_simp; rfl)) ?aP (fun _ hk => hk.elim) ?aF ?aO ?aB ?aS ?aL ?_; (case aP => exact k48_mkM _ _ _ (⟨(⟨(qb l0 x20_2).f0.f0, (qb l0 x20_2).f0.f1, (qb l0 x20_2).f0.f2⟩ : S46), (qb l0 x20_2).f1⟩ : S48)); (case aB => exact (by repeat (first | (with_reducible first | exact HB.out | apply qd | apply qa | apply qc | refine qi ?_ GE109.out) | exact HB.out))); (case aF => exact (fun k_ hk => Kd.freshB (g := gb109) (o := .cells #[.string ((qb l0 x20_2).f0.f0), .int .i64 ((qb l0 x20_2).f0.f1), .int .i64 ((qb l0 x20_2).f0.f2), .string ((qb l0 x20_2).f1)] 48 (0, 0)) (by (with_reducible repeat (first | refine qe ?_ _ | refine qj ?_ | refine qf ?_ _)); refine qt (cs := #[.string ((qb l0 x20_2).f0.f0), .int .i64 ((qb l0 x20_2).f0.f1), .int .i64 ((qb l0 x20_2).f0.f2), .string (⟨#[]⟩ : ByteArray)]) ?_ 3 _ rfl; (with_reducible repeat (first | refine qe ?_ _ | refine qj ?_ | refine qf ?_ _)); refine qt (cs := #[.string ((qb l0 x20_2).f0.f0), .int .i64 ((qb l0 x20_2).f0.f1), .int .i64 0, .string (⟨#[]⟩ : ByteArray)]) ?_ 2 _ rfl; (with_reducible repeat (first | refine qe ?_ _ | refine qj ?_ | refine qf ?_ _)); refine qt (cs := #[.string ((qb l0 x20_2).f0.f0), .int .i64 0, .int .i64 0, .string (⟨#[]⟩ : ByteArray)]) ?_ 1 _ rfl; (with_reducible repeat (first | refine qe ?_ _ | refine qj ?_ | refine qf ?_ _)); refine qt (cs := #[.string (⟨#[]⟩ : ByteArray), .int .i64 0, .int .i64 0, .string (⟨#[]⟩ : ByteArray)]) ?_ 0 _ rfl; (with_reducible repeat (first | refine qe ?_ _ | refine qj ?_ | refine qf ?_ _)); exact BK109.out) k_ hk)); (case aO => exact (by (with_reducible repeat (first | apply Kd.R_alloc | apply Kd.R_drewN | apply Kd.R_drew)); exact Kd.R_mono (Kd.R_far (p := ⟨gb109, 3, none⟩) (Kd.R_far (p := ⟨gb109, 2, none⟩) (Kd.R_far (p := ⟨gb109, 1, none⟩) (Kd.R_far (p := ⟨gb109, 0, none⟩) (Kd.R_mono HO_6.out (fun k_ hk => (⟨hk, hk.2⟩ : _ ∧ k_ ≠ gb109))) (fun _ hk => hk.2) (.string ((qb l0 x20_2).f0.f0))) (fun _ hk => hk.2) (.int .i64 ((qb l0 x20_2).f0.f1))) (fun _ hk => hk.2) (.int .i64 ((qb l0 x20_2).f0.f2))) (fun _ hk => hk.2) (.string ((qb l0 x20_2).f1))) (fun _ hk => hk.1.2))); (case aS => exact (qu (by repeat (first | (with_reducible first | exact HB.out | apply qd | apply qa | apply qc | refine qi ?_ GE109.out) | exact HB.out)))); (case aL => have := LMc16.out; omega); intro v111 w21 ho hb hg hat; rw [← Ny110.out] at ho; have n0_ := Qz.mk (Kd.S_after (ok := (fun k_ => k_ ≠ gb109)) (by (with_reducible repeat (first | apply Kd.S_alloc | apply Kd.S_drewN | apply Kd.S_drew)); exact Kd.S_mono (Kd.S_far (p := ⟨gb109, 3, none⟩) (Kd.S_far (p := ⟨gb109, 2, none⟩) (Kd.S_far (p := ⟨gb109, 1, none⟩) (Kd.S_far (p := ⟨gb109, 0, none⟩) (Kd.S_mono HO_5.out (fun k_ hk => (⟨hk, hk.2⟩ : _ ∧ k_ ≠ gb109))) (fun _ hk => hk.2) (.string ((qb l0 x20_2).f0.f0))) (fun _ hk => hk.2) (.int .i64 ((qb l0 x20_2).f0.f1))) (fun _ hk => hk.2) (.int .i64 ((qb l0 x20_2).f0.f2))) (fun _ hk => hk.2) (.string ((qb l0 x20_2).f1))) (fun _ hk => ⟨hk.1.2, hk.1.1⟩)) hg hat); have n1_ := Qz.mk (blk_grown (g := gb109) (o := .cells #[.string ((qb l0 x20_2).f0.f0), .int .i64 ((qb l0 x20_2).f0.f1), .int .i64 ((qb l0 x20_2).f0.f2), .string ((qb l0 x20_2).f1)] 48 (0, 0)) (by (with_reducible repeat (first | refine qe ?_ _ | refine qj ?_ | refine qf ?_ _)); refine qt (cs := #[.string ((qb l0 x20_2).f0.f0), .int .i64 ((qb l0 x20_2).f0.f1), .int .i64 ((qb l0 x20_2).f0.f2), .string (⟨#[]⟩ : ByteArray)]) ?_ 3 _ rfl; (with_reducible repeat (first | refine qe ?_ _ | refine qj ?_ | refine qf ?_ _)); refine qt (cs := #[.string ((qb l0 x20_2).f0.f0), .int .i64 ((qb l0 x20_2).f0.f1), .int .i64 0, .string (⟨#[]⟩ : ByteArray)]) ?_ 2 _ rfl; (with_reducible repeat (first | refine qe ?_ _ | refine qj ?_ | refine qf ?_ _)); refine qt (cs := #[.string ((qb l0 x20_2).f0.f0), .int .i64 0, .int .i64 0, .string (⟨#[]⟩ : ByteArray)]) ?_ 1 _ rfl; (with_reducible repeat (first | refine qe ?_ _ | refine qj ?_ | refine qf ?_ _)); refine qt (cs := #[.string (⟨#[]⟩ : ByteArray), .int .i64 0, .int .i64 0, .string (⟨#[]⟩ : ByteArray)]) ?_ 0 _ rfl; (with_reducible repeat (first | refine qe ?_ _ | refine qj ?_ | refine qf ?_ _)); exact BK109.out) hg (Kd.R_away HO_6.out (fun _ hk => hk.2))); have n2_ := Qz.mk (hb); have n3_ := Qz.mk (ho); clear HO_5; clear BK109; clear HB; clear HO_6; have HO_5 := n0_; have BK109 := n1_; have HB := n2_; have HO112 := n3_; clear n0_ n1_ n2_ n3_; clear ho hb hg hat; obtain ⟨Ao22, co22, eo22⟩ := Kd.R_slice HO112.out; subst eo22) | ((with_reducible refine qz (b := .append) (xs := #[.tmp 53, .tmp 56]) rfl ?_); (try (refine qw (by rfl) ?_; dsimp only)); at_builtin; refine Kd.S_append k44 (w0 := w) w.heap.size rfl (.tmp 53) (.tmp 56) 25 44 (.agg #[(.slice none 0 0)]) 24 rfl Try.underlying25 info44 rfl (by decide) (by omega) u5 x5_2 (⟨y110⟩ : S44) [.slice Ao22 y110.length co22] (fun k_ => k_ ≠ gb109) (fun k_ => some k_ = (.slice Ao22 y110.length co22 : Value).ownBlock) rfl rfl ?aP (fun k_ hk_ => ((Kd.R_mono (ok' := fun k_ => ((fun k_ => k_ ≠ gb109)) k_ ∧ some k_ ≠ (u5 : Value).ownBlock) (Kd.R_apart' (HO112.out) (Kd.S_typed HO_5.out) (by decide)) (fun k_ hk => ⟨hk.1, hk.2⟩))).1 k_ hk_.symm) ?aF ?aO ?aB ?aS ?aL ?_; (case aP => exact k44_mkM _ _ _ (⟨y110⟩ : S44) (Kd.R_mono (Kd.R_tight rfl (Kd.R_mono (ok' := fun k_ => ((fun k_ => k_ ≠ gb109)) k_ ∧ some k_ ≠ (u5 : Value).ownBlock) (Kd.R_apart' (HO112.out) (Kd.S_typed HO_5.out) (by decide)) (fun k_ hk => ⟨hk.1, hk.2⟩))) (fun _ h_ => h_))); (case aB => exact (by repeat (first | (with_reducible first | exact HB.out | apply qd | apply qa | apply qc | refine qi ?_ GE109.out) | exact HB.out))); (case aF => exact (fun k_ hk => Kd.freshB (g := gb109) (o := .cells #[.string ((qb l0 x20_2).f0.f0), .int .i64 ((qb l0 x20_2).f0.f1), .int .i64 ((qb l0 x20_2).f0.f2), .string ((qb l0 x20_2).f1)] 48 (0, 0)) (by (with_reducible repeat (first | refine qe ?_ _ | refine qj ?_ | refine qf ?_ _)); exact BK109.out) k_ hk)); (case aO => exact (by (with_reducible repeat (first | apply Kd.S_alloc | apply Kd.S_drewN | apply Kd.S_drew)); exact Kd.S_mono HO_5.out (fun k_ hk => ⟨hk.1, fun e_ => hk.2 e_⟩))); (case aS => exact (qu (by repeat (first | (with_reducible first | exact HB.out | apply qd | apply qa | apply qc | refine qi ?_ GE109.out) | exact HB.out)))); (case aL => have := LMc18.out; omega); intro v114 w23 ho hb hg hat; rw [← Ny113.out] at ho; have n0_ := Qz.mk (blk_grown (g := gb109) (o := .cells #[.string ((qb l0 x20_2).f0.f0), .int .i64 ((qb l0 x20_2).f0.f1), .int .i64 ((qb l0 x20_2).f0.f2), .string ((qb l0 x20_2).f1)] 48 (0, 0)) (by (with_reducible repeat (first | refine qe ?_ _ | refine qj ?_ | refine qf ?_ _)); exact BK109.out) hg (Kd.S_ne HO_5.out BK109.out (by decide))); have n1_ := Qz.mk (hb); have n2_ := Qz.mk (ho); clear BK109; clear HB; clear HO_5; clear HO112; have BK109 := n0_; have HB := n1_; have HO115 := n2_; clear n0_ n1_ n2_; clear ho hb hg hat) | ((with_reducible refine qx (N := 58) rfl ?_); (try (refine qw (by rfl) ?_; dsimp only)); refine Kd.R_lit k48 _ 48 ?hg (N := 58) ?hd (xs := ([] : List (S48))) (inner := []) (ok := fun _ => True) (okp := fun _ => True) ?hr ?hp (fun _ hk => hk) trivial (Below.refl _ _) (Nat.le_refl _) (by simp) ?_; (case hd => rfl); (case hg => rfl); (case hr => first | (go_simp; done) | (go_simp; rfl)); (case hp => exact (Reps.none _ _)); intro v117 w24 ho25 hb hg_ hnew_; clear hg_ hnew_; (first | rw [← Ny116.out] at ho25 | (simp only [Int.reduceToNat] at ho25; rw [← Ny116.out] at ho25)); replace HO115 := Qz.mk (Kd.S_elder' (by (with_reducible repeat (first | apply Kd.S_alloc | apply Kd.S_drewN | apply Kd.S_drew)); exact HO115.out) (Kd.R_base ho25) hb); have HO118 := Qz.mk (Kd.R_lower (Kd.R_newB ho25 (g := gb109) (o := .cells #[.string ((qb l0 x20_2).f0.f0), .int .i64 ((qb l0 x20_2).f0.f1), .int .i64 ((qb l0 x20_2).f0.f2), .string ((qb l0 x20_2).f1)] 48 (0, 0)) (by (with_reducible repeat (first | refine qe ?_ _ | refine qj ?_ | refine qf ?_ _)); exact BK109.out)) (qu (by repeat (first | (with_reducible first | exact HB.out | apply qd | apply qa | apply qc | refine qi ?_ GE109.out) | exact HB.out)))); replace BK109 := Qz.mk (blk_below (g := gb109) (o := .cells #[.string ((qb l0 x20_2).f0.f0), .int .i64 ((qb l0 x20_2).f0.f1), .int .i64 ((qb l0 x20_2).f0.f2), .string ((qb l0 x20_2).f1)] 48 (0, 0)) (by (with_reducible repeat (first | refine qe ?_ _ | refine qj ?_ | refine qf ?_ _)); exact BK109.out) hb); replace HB := Qz.mk (qo (by repeat (first | (with_reducible first | exact HB.out | apply qd | apply qa | apply qc | refine qi ?_ GE109.out) | exact HB.out)) hb); clear hb ho25)))
            go_roundg k2
            case measure => have := HJ2.out; have := HK2.out; omega
            case rel => exact ⟨(y113), (y116), (wrap64 (x20_2 + 1)), (by first | rfl | (simp; done) | (simp [*]; done)), H', ⟨by have := HJ2.out; have := HK2.out; omega⟩, ⟨by (with_reducible repeat (first | apply Kd.S_alloc | apply Kd.S_drewN | apply Kd.S_drew)); exact Kd.S_mono HO115.out (fun _ hk => hk.2)⟩, ⟨by (with_reducible repeat (first | apply Kd.R_alloc | apply Kd.R_drewN | apply Kd.R_drew)); exact Kd.R_mono HO118.out (fun _ hk => trivial)⟩, ⟨by repeat (first | (with_reducible first | exact HB.out | apply qd | apply qa | apply qc | refine qi ?_ GE109.out) | exact HB.out)⟩⟩
           ·rw [if_neg c18] at H
            exact absurd H (by simp)
          ·rw [if_neg c17] at H
           have c17b0 : (x20_2 == (wrap64 ((l0.length : Int) - 1))) = false := beq_eq_false_iff_ne.mpr c17
           have c17b1 : (x20_2 != (wrap64 ((l0.length : Int) - 1))) = true := bne_iff_ne.mpr c17
           by_cases c26 : (y110.length : Int) ≥ a1
           ·rw [if_pos c26] at H
            have c26b0 : decide (a1 ≤ (y110.length : Int)) = true := decide_eq_true c26
            clear c26
            obtain ⟨ji27, hji27⟩ : ∃ j_ : Int, (wrap64 (x20_2 + 1)) = j_ := ⟨_, rfl⟩
            replace H : (if 0 ≤ (ji27) then (if (ji27) < (l0.length : Int) then (if ((qb l0 (ji27)).f0.f0).toList = ((qb l0 x20_2).f0.f0).toList then (impl_SplitRun.l0 k2 l0 a1 x5_2 y110 l0 (l0.length : Int) ji27) else (if x5_2.length < 5864062014805 then (impl_SplitRun.l0 k2 l0 a1 (x5_2 ++ [(⟨y110⟩ : S44)]) (([] : List (S48))) l0 (l0.length : Int) ji27) else (none))) else (none)) else (none)) = some r := by first | (rw [hji27] at H; exact H) | (simp only [hji27] at H ⊢; exact H)
            have hji27w : (IntKind.i64.wrap (x20_2 + 1)) = ji27 := (i64_w _).trans hji27
            by_cases c28 : 0 ≤ (ji27)
            ·rw [if_pos c28] at H
             have c28b0 : decide (0 ≤ (ji27)) = true := decide_eq_true c28
             clear c28
             by_cases c29 : (ji27) < (l0.length : Int)
             ·rw [if_pos c29] at H
              have c29b0 : decide ((ji27) < (l0.length : Int)) = true := decide_eq_true c29
              clear c29
              by_cases c30 : ((qb l0 (ji27)).f0.f0).toList = ((qb l0 x20_2).f0.f0).toList
              ·rw [if_pos c30] at H
               have c30b0 : (((qb l0 (ji27)).f0.f0).toList == ((qb l0 x20_2).f0.f0).toList) = true := beq_iff_eq.mpr c30
               have c30b1 : (((qb l0 (ji27)).f0.f0).toList != ((qb l0 x20_2).f0.f0).toList) = false := bne_eq_false_iff_eq.mpr c30
               clear c30
               have H' := Qz.mk H
               clear H
               have p108 : 0 ≤ (x20_2 : Int) := of_decide_eq_true (by first | (with_reducible assumption) | assumption)
               have q108 : x20_2 < (l0.length : Int) := of_decide_eq_true (by first | (with_reducible assumption) | assumption)
               obtain ⟨ad108, e108, hx108_0, hx108_1, hx108_2, hx108_3⟩ := at_T48 HR0.out x20_2 p108 q108
               cases e108
               replace hx108_0 := (HB.out.cell (World.block_lt_of_cell? w _ hx108_0)).trans hx108_0
               replace hx108_1 := (HB.out.cell (World.block_lt_of_cell? w _ hx108_1)).trans hx108_1
               replace hx108_2 := (HB.out.cell (World.block_lt_of_cell? w _ hx108_2)).trans hx108_2
               replace hx108_3 := (HB.out.cell (World.block_lt_of_cell? w _ hx108_3)).trans hx108_3
               replace p108 := eq_true p108
               replace q108 := eq_true q108
               go_wp2_with (first | ((with_reducible refine qx (N := 8) rfl ?_); (try (refine qw (by rfl) ?_; dsimp only)); refine qa1 ?hg (N := 8) ?hd (cs := #[.string (⟨#[]⟩ : ByteArray), .int .i64 0, .int .i64 0, .string (⟨#[]⟩ : ByteArray)]) (t := 48) ?hr ?_; (case hd => rfl); (case hg => rfl); (case hr => first | (go_simp; done) | (go_simp; rfl)); intro gb109 hg w31 hbox hb; replace HO_5 := Qz.mk (Kd.S_below (Kd.S_elderB (by (with_reducible repeat (first | apply Kd.S_alloc | apply Kd.S_drewN | apply Kd.S_drew)); exact HO_5.out) gb109 (Nat.le_of_eq hg.symm)) hb); replace HO_6 := Qz.mk (Kd.R_below (Kd.R_elderB (by (with_reducible repeat (first | apply Kd.R_alloc | apply Kd.R_drewN | apply Kd.R_drew)); exact HO_6.out) gb109 (Nat.le_of_eq hg.symm)) hb); have BK109 := Qz.mk (hbox); have GW109 := Qz.mk ((by rw [hg]; exact (qu (by repeat (first | (with_reducible first | exact HB.out | apply qd | apply qa | apply qc) | exact HB.out))) : w.heap.size ≤ gb109)); have GE109 := GW109; replace HB := Qz.mk (qo (by repeat (first | (with_reducible first | exact HB.out | apply qd | apply qa | apply qc) | exact HB.out)) hb); clear hb hbox hg; have hcz32_0 : w31.cell? ⟨gb109, 0, none⟩ = some (.string (⟨#[]⟩ : ByteArray)) := (qh BK109.out 0).trans rfl; have hcz32_1 : w31.cell? ⟨gb109, 1, none⟩ = some (.int .i64 0) := (qh BK109.out 1).trans rfl; have hcz32_2 : w31.cell? ⟨gb109, 2, none⟩ = some (.int .i64 0) := (qh BK109.out 2).trans rfl; have hcz32_3 : w31.cell? ⟨gb109, 3, none⟩ = some (.string (⟨#[]⟩ : ByteArray)) := (qh BK109.out 3).trans rfl; have hfz32_0 := qg BK109.out 0; have hfz32_1 := qg BK109.out 1; have hfz32_2 := qg BK109.out 2; have hfz32_3 := qg BK109.out 3) | ((with_reducible refine qz (b := .append) (xs := #[.tmp 25, .tmp 27]) rfl ?_); (try (refine qw (by rfl) ?_; dsimp only)); at_builtin; refine Kd.R_append k48 (w0 := w) w.heap.size rfl (.tmp 25) (.tmp 27) 32 48 (.agg #[(.string ⟨#[]⟩), (.int .i64 0), (.int .i64 0), (.string ⟨#[]⟩)]) 48 rfl Try.underlying32 info48 rfl (by decide) (by omega) u6 x6_2 (⟨(⟨(qb l0 x20_2).f0.f0, (qb l0 x20_2).f0.f1, (qb l0 x20_2).f0.f2⟩ : S46), (qb l0 x20_2).f1⟩ : S48) [.string ((qb l0 x20_2).f0.f0), .int .i64 ((qb l0 x20_2).f0.f1), .int .i64 ((qb l0 x20_2).f0.f2), .string ((qb l0 x20_2).f1)] (fun k_ => k_ ≠ gb109) (fun _ => False) rfl (by first | (go_simp; done) | (go_simp; rfl)) ?aP (fun _ hk => hk.elim) ?aF ?aO ?aB ?aS ?aL ?_; (case aP => exact k48_mkM _ _ _ (⟨(⟨(qb l0 x20_2).f0.f0, (qb l0 x20_2).f0.f1, (qb l0 x20_2).f0.f2⟩ : S46), (qb l0 x20_2).f1⟩ : S48)); (case aB => exact (by repeat (first | (with_reducible first | exact HB.out | apply qd | apply qa | apply qc | refine qi ?_ GE109.out) | exact HB.out))); (case aF => exact (fun k_ hk => Kd.freshB (g := gb109) (o := .cells #[.string ((qb l0 x20_2).f0.f0), .int .i64 ((qb l0 x20_2).f0.f1), .int .i64 ((qb l0 x20_2).f0.f2), .string ((qb l0 x20_2).f1)] 48 (0, 0)) (by (with_reducible repeat (first | refine qe ?_ _ | refine qj ?_ | refine qf ?_ _)); refine qt (cs := #[.string ((qb l0 x20_2).f0.f0), .int .i64 ((qb l0 x20_2).f0.f1), .int .i64 ((qb l0 x20_2).f0.f2), .string (⟨#[]⟩ : ByteArray)]) ?_ 3 _ rfl; (with_reducible repeat (first | refine qe ?_ _ | refine qj ?_ | refine qf ?_ _)); refine qt (cs := #[.string ((qb l0 x20_2).f0.f0), .int .i64 ((qb l0 x20_2).f0.f1), .int .i64 0, .string (⟨#[]⟩ : ByteArray)]) ?_ 2 _ rfl; (with_reducible repeat (first | refine qe ?_ _ | refine qj ?_ | refine qf ?_ _)); refine qt (cs := #[.string ((qb l0 x20_2).f0.f0), .int .i64 0, .int .i64 0, .string (⟨#[]⟩ : ByteArray)]) ?_ 1 _ rfl; (with_reducible repeat (first | refine qe ?_ _ | refine qj ?_ | refine qf ?_ _)); refine qt (cs := #[.string (⟨#[]⟩ : ByteArray), .int .i64 0, .int .i64 0, .string (⟨#[]⟩ : ByteArray)]) ?_ 0 _ rfl; (with_reducible repeat (first | refine qe ?_ _ | refine qj ?_ | refine qf ?_ _)); exact BK109.out) k_ hk)); (case aO => exact (by (with_reducible repeat (first | apply Kd.R_alloc | apply Kd.R_drewN | apply Kd.R_drew)); exact Kd.R_mono (Kd.R_far (p := ⟨gb109, 3, none⟩) (Kd.R_far (p := ⟨gb109, 2, none⟩) (Kd.R_far (p := ⟨gb109, 1, none⟩) (Kd.R_far (p := ⟨gb109, 0, none⟩) (Kd.R_mono HO_6.out (fun k_ hk => (⟨hk, hk.2⟩ : _ ∧ k_ ≠ gb109))) (fun _ hk => hk.2) (.string ((qb l0 x20_2).f0.f0))) (fun _ hk => hk.2) (.int .i64 ((qb l0 x20_2).f0.f1))) (fun _ hk => hk.2) (.int .i64 ((qb l0 x20_2).f0.f2))) (fun _ hk => hk.2) (.string ((qb l0 x20_2).f1))) (fun _ hk => hk.1.2))); (case aS => exact (qu (by repeat (first | (with_reducible first | exact HB.out | apply qd | apply qa | apply qc | refine qi ?_ GE109.out) | exact HB.out)))); (case aL => have := LMc16.out; omega); intro v111 w33 ho hb hg hat; rw [← Ny110.out] at ho; have n0_ := Qz.mk (Kd.S_after (ok := (fun k_ => k_ ≠ gb109)) (by (with_reducible repeat (first | apply Kd.S_alloc | apply Kd.S_drewN | apply Kd.S_drew)); exact Kd.S_mono (Kd.S_far (p := ⟨gb109, 3, none⟩) (Kd.S_far (p := ⟨gb109, 2, none⟩) (Kd.S_far (p := ⟨gb109, 1, none⟩) (Kd.S_far (p := ⟨gb109, 0, none⟩) (Kd.S_mono HO_5.out (fun k_ hk => (⟨hk, hk.2⟩ : _ ∧ k_ ≠ gb109))) (fun _ hk => hk.2) (.string ((qb l0 x20_2).f0.f0))) (fun _ hk => hk.2) (.int .i64 ((qb l0 x20_2).f0.f1))) (fun _ hk => hk.2) (.int .i64 ((qb l0 x20_2).f0.f2))) (fun _ hk => hk.2) (.string ((qb l0 x20_2).f1))) (fun _ hk => ⟨hk.1.2, hk.1.1⟩)) hg hat); have n1_ := Qz.mk (blk_grown (g := gb109) (o := .cells #[.string ((qb l0 x20_2).f0.f0), .int .i64 ((qb l0 x20_2).f0.f1), .int .i64 ((qb l0 x20_2).f0.f2), .string ((qb l0 x20_2).f1)] 48 (0, 0)) (by (with_reducible repeat (first | refine qe ?_ _ | refine qj ?_ | refine qf ?_ _)); refine qt (cs := #[.string ((qb l0 x20_2).f0.f0), .int .i64 ((qb l0 x20_2).f0.f1), .int .i64 ((qb l0 x20_2).f0.f2), .string (⟨#[]⟩ : ByteArray)]) ?_ 3 _ rfl; (with_reducible repeat (first | refine qe ?_ _ | refine qj ?_ | refine qf ?_ _)); refine qt (cs := #[.string ((qb l0 x20_2).f0.f0), .int .i64 ((qb l0 x20_2).f0.f1), .int .i64 0, .string (⟨#[]⟩ : ByteArray)]) ?_ 2 _ rfl; (with_reducible repeat (first | refine qe ?_ _ | refine qj ?_ | refine qf ?_ _)); refine qt (cs := #[.string ((qb l0 x20_2).f0.f0), .int .i64 0, .int .i64 0, .string (⟨#[]⟩ : ByteArray)]) ?_ 1 _ rfl; (with_reducible repeat (first | refine qe ?_ _ | refine qj ?_ | refine qf ?_ _)); refine qt (cs := #[.string (⟨#[]⟩ : ByteArray), .int .i64 0, .int .i64 0, .string (⟨#[]⟩ : ByteArray)]) ?_ 0 _ rfl; (with_reducible repeat (first | refine qe ?_ _ | refine qj ?_ | refine qf ?_ _)); exact BK109.out) hg (Kd.R_away HO_6.out (fun _ hk => hk.2))); have n2_ := Qz.mk (hb); have n3_ := Qz.mk (ho); clear HO_5; clear BK109; clear HB; clear HO_6; have HO_5 := n0_; have BK109 := n1_; have HB := n2_; have HO112 := n3_; clear n0_ n1_ n2_ n3_; clear ho hb hg hat; obtain ⟨Ao34, co34, eo34⟩ := Kd.R_slice HO112.out; subst eo34; have p119 : 0 ≤ ((ji27) : Int) := of_decide_eq_true (by first | (with_reducible assumption) | assumption); have q119 : (ji27) < (l0.length : Int) := of_decide_eq_true (by first | (with_reducible assumption) | assumption); obtain ⟨ad119, e119, hx119_0, hx119_1, hx119_2, hx119_3⟩ := at_T48 HR0.out (ji27) p119 q119; obtain rfl : ad108 = ad119 := (by injection e119); replace hx119_0 := (HB.out.cell (World.block_lt_of_cell? w _ hx119_0)).trans hx119_0; replace hx119_1 := (HB.out.cell (World.block_lt_of_cell? w _ hx119_1)).trans hx119_1; replace hx119_2 := (HB.out.cell (World.block_lt_of_cell? w _ hx119_2)).trans hx119_2; replace hx119_3 := (HB.out.cell (World.block_lt_of_cell? w _ hx119_3)).trans hx119_3; replace p119 := eq_true p119; replace q119 := eq_true q119; have hcz35_0 : w33.cell? ⟨gb109, 0, none⟩ = some (.string ((qb l0 x20_2).f0.f0)) := (qh BK109.out 0).trans rfl; have hcz35_1 : w33.cell? ⟨gb109, 1, none⟩ = some (.int .i64 ((qb l0 x20_2).f0.f1)) := (qh BK109.out 1).trans rfl; have hcz35_2 : w33.cell? ⟨gb109, 2, none⟩ = some (.int .i64 ((qb l0 x20_2).f0.f2)) := (qh BK109.out 2).trans rfl; have hcz35_3 : w33.cell? ⟨gb109, 3, none⟩ = some (.string ((qb l0 x20_2).f1)) := (qh BK109.out 3).trans rfl; have hfz35_0 := qg BK109.out 0; have hfz35_1 := qg BK109.out 1; have hfz35_2 := qg BK109.out 2; have hfz35_3 := qg BK109.out 3))
               repeat (go_quiet (first | ((with_reducible refine qx (N := 8) rfl ?_); (try (refine qw (by rfl) ?_; dsimp only)); refine qa1 ?hg (N := 8) ?hd (cs := #[.string (⟨#[]⟩ : ByteArray), .int .i64 0, .int .i64 0, .string (⟨#[]⟩ : ByteArray)]) (t := 48) ?hr ?_; (case hd => rfl); (case hg => rfl); (case hr => first | (go_simp; done) | (go_simp; rfl)); intro gb109 hg w31 hbox hb; replace HO_5 := Qz.mk (Kd.S_below (Kd.S_elderB (by (with_reducible repeat (first | apply Kd.S_alloc | apply Kd.S_drewN | apply Kd.S_drew)); exact HO_5.out) gb109 (Nat.le_of_eq hg.symm)) hb); replace HO_6 := Qz.mk (Kd.R_below (Kd.R_elderB (by (with_reducible repeat (first | apply Kd.R_alloc | apply Kd.R_drewN | apply Kd.R_drew)); exact HO_6.out) gb109 (Nat.le_of_eq hg.symm)) hb); have BK109 := Qz.mk (hbox); have GW109 := Qz.mk ((by rw [hg]; exact (qu (by repeat (first | (with_reducible first | exact HB.out | apply qd | apply qa | apply qc) | exact HB.out))) : w.heap.size ≤ gb109)); have GE109 := GW109; replace HB := Qz.mk (qo (by repeat (first | (with_reducible first | exact HB.out | apply qd | apply qa | apply qc) | exact HB.out)) hb); clear hb hbox hg; have hcz32_0 : w31.cell? ⟨gb109, 0, none⟩ = some (.string (⟨#[]⟩ : ByteArray)) := (qh BK109.out 0).trans rfl; have hcz32_1 : w31.cell? ⟨gb109, 1, none⟩ = some (.int .i64 0) := (qh BK109.out 1).trans rfl; have hcz32_2 : w31.cell? ⟨gb109, 2, none⟩ = some (.int .i64 0) := (qh BK109.out 2).trans rfl; have hcz32_3 : w31.cell? ⟨gb109, 3, none⟩ = some (.string (⟨#[]⟩ : ByteArray)) := (qh BK109.out 3).trans rfl; have hfz32_0 := qg BK109.out 0; have hfz32_1 := qg BK109.out 1; have hfz32_2 := qg BK109.out 2; have hfz32_3 := qg BK109.out 3) | ((with_reducible refine qz (b := .append) (xs := #[.tmp 25, .tmp 27]) rfl ?_); (try (refine qw (by rfl) ?_; dsimp only)); at_builtin; refine Kd.R_append k48 (w0 := w) w.heap.size rfl (.tmp 25) (.tmp 27) 32 48 (.agg #[(.string ⟨#[]⟩), (.int .i64 0), (.int .i64 0), (.string ⟨#[]⟩)]) 48 rfl Try.underlying32 info48 rfl (by decide) (by omega) u6 x6_2 (⟨(⟨(qb l0 x20_2).f0.f0, (qb l0 x20_2).f0.f1, (qb l0 x20_2).f0.f2⟩ : S46), (qb l0 x20_2).f1⟩ : S48) [.string ((qb l0 x20_2).f0.f0), .int .i64 ((qb l0 x20_2).f0.f1), .int .i64 ((qb l0 x20_2).f0.f2), .string ((qb l0 x20_2).f1)] (fun k_ => k_ ≠ gb109) (fun _ => False) rfl (by first | (go_simp; done) | (go_simp; rfl)) ?aP (fun _ hk => hk.elim) ?aF ?aO ?aB ?aS ?aL ?_; (case aP => exact k48_mkM _ _ _ (⟨(⟨(qb l0 x20_2).f0.f0, (qb l0 x20_2).f0.f1, (qb l0 x20_2).f0.f2⟩ : S46), (qb l0 x20_2).f1⟩ : S48)); (case aB => exact (by repeat (first | (with_reducible first | exact HB.out | apply qd | apply qa | apply qc | refine qi ?_ GE109.out) | exact HB.out))); (case aF => exact (fun k_ hk => Kd.freshB (g := gb109) (o := .cells #[.string ((qb l0 x20_2).f0.f0), .int .i64 ((qb l0 x20_2).f0.f1), .int .i64 ((qb l0 x20_2).f0.f2), .string ((qb l0 x20_2).f1)] 48 (0, 0)) (by (with_reducible repeat (first | refine qe ?_ _ | refine qj ?_ | refine qf ?_ _)); refine qt (cs := #[.string ((qb l0 x20_2).f0.f0), .int .i64 ((qb l0 x20_2).f0.f1), .int .i64 ((qb l0 x20_2).f0.f2), .string (⟨#[]⟩ : ByteArray)]) ?_ 3 _ rfl; (with_reducible repeat (first | refine qe ?_ _ | refine qj ?_ | refine qf ?_ _)); refine qt (cs := #[.string ((qb l0 x20_2).f0.f0), .int .i64 ((qb l0 x20_2).f0.f1), .int .i64 0, .string (⟨#[]⟩ : ByteArray)]) ?_ 2 _ rfl; (with_reducible repeat (first | refine qe ?_ _ | refine qj ?_ | refine qf ?_ _)); refine qt (cs := #[.string ((qb l0 x20_2).f0.f0), .int .i64 0, .int .i64 0, .string (⟨#[]⟩ : ByteArray)]) ?_ 1 _ rfl; (with_reducible repeat (first | refine qe ?_ _ | refine qj ?_ | refine qf ?_ _)); refine qt (cs := #[.string (⟨#[]⟩ : ByteArray), .int .i64 0, .int .i64 0, .string (⟨#[]⟩ : ByteArray)]) ?_ 0 _ rfl; (with_reducible repeat (first | refine qe ?_ _ | refine qj ?_ | refine qf ?_ _)); exact BK109.out) k_ hk)); (case aO => exact (by (with_reducible repeat (first | apply Kd.R_alloc | apply Kd.R_drewN | apply Kd.R_drew)); exact Kd.R_mono (Kd.R_far (p := ⟨gb109, 3, none⟩) (Kd.R_far (p := ⟨gb109, 2, none⟩) (Kd.R_far (p := ⟨gb109, 1, none⟩) (Kd.R_far (p := ⟨gb109, 0, none⟩) (Kd.R_mono HO_6.out (fun k_ hk => (⟨hk, hk.2⟩ : _ ∧ k_ ≠ gb109))) (fun _ hk => hk.2) (.string ((qb l0 x20_2).f0.f0))) (fun _ hk => hk.2) (.int .i64 ((qb l0 x20_2).f0.f1))) (fun _ hk => hk.2) (.int .i64 ((qb l0 x20_2).f0.f2))) (fun _ hk => hk.2) (.string ((qb l0 x20_2).f1))) (fun _ hk => hk.1.2))); (case aS => exact (qu (by repeat (first | (with_reducible first | exact HB.out | apply qd | apply qa | apply qc | refine qi ?_ GE109.out) | exact HB.out)))); (case aL => have := LMc16.out; omega); intro v111 w33 ho hb hg hat; rw [← Ny110.out] at ho; have n0_ := Qz.mk (Kd.S_after (ok := (fun k_ => k_ ≠ gb109)) (by (with_reducible repeat (first | apply Kd.S_alloc | apply Kd.S_drewN | apply Kd.S_drew)); exact Kd.S_mono (Kd.S_far (p := ⟨gb109, 3, none⟩) (Kd.S_far (p := ⟨gb109, 2, none⟩) (Kd.S_far (p := ⟨gb109, 1, none⟩) (Kd.S_far (p := ⟨gb109, 0, none⟩) (Kd.S_mono HO_5.out (fun k_ hk => (⟨hk, hk.2⟩ : _ ∧ k_ ≠ gb109))) (fun _ hk => hk.2) (.string ((qb l0 x20_2).f0.f0))) (fun _ hk => hk.2) (.int .i64 ((qb l0 x20_2).f0.f1))) (fun _ hk => hk.2) (.int .i64 ((qb l0 x20_2).f0.f2))) (fun _ hk => hk.2) (.string ((qb l0 x20_2).f1))) (fun _ hk => ⟨hk.1.2, hk.1.1⟩)) hg hat); have n1_ := Qz.mk (blk_grown (g := gb109) (o := .cells #[.string ((qb l0 x20_2).f0.f0), .int .i64 ((qb l0 x20_2).f0.f1), .int .i64 ((qb l0 x20_2).f0.f2), .string ((qb l0 x20_2).f1)] 48 (0, 0)) (by (with_reducible repeat (first | refine qe ?_ _ | refine qj ?_ | refine qf ?_ _)); refine qt (cs := #[.string ((qb l0 x20_2).f0.f0), .int .i64 ((qb l0 x20_2).f0.f1), .int .i64 ((qb l0 x20_2).f0.f2), .string (⟨#[]⟩ : ByteArray)]) ?_ 3 _ rfl; (with_reducible repeat (first | refine qe ?_ _ | refine qj ?_ | refine qf ?_ _)); refine qt (cs := #[.string ((qb l0 x20_2).f0.f0), .int .i64 ((qb l0 x20_2).f0.f1), .int .i64 0, .string (⟨#[]⟩ : ByteArray)]) ?_ 2 _ rfl; (with_reducible repeat (first | refine qe ?_ _ | refine qj ?_ | refine qf ?_ _)); refine qt (cs := #[.string ((qb l0 x20_2).f0.f0), .int .i64 0, .int .i64 0, .string (⟨#[]⟩ : ByteArray)]) ?_ 1 _ rfl; (with_reducible repeat (first | refine qe ?_ _ | refine qj ?_ | refine qf ?_ _)); refine qt (cs := #[.string (⟨#[]⟩ : ByteArray), .int .i64 0, .int .i64 0, .string (⟨#[]⟩ : ByteArray)]) ?_ 0 _ rfl; (with_reducible repeat (first | refine qe ?_ _ | refine qj ?_ | refine qf ?_ _)); exact BK109.out) hg (Kd.R_away HO_6.out (fun _ hk => hk.2))); have n2_ := Qz.mk (hb); have n3_ := Qz.mk (ho); clear HO_5; clear BK109; clear HB; clear HO_6; have HO_5 := n0_; have BK109 := n1_; have HB := n2_; have HO112 := n3_; clear n0_ n1_ n2_ n3_; clear ho hb hg hat; obtain ⟨Ao34, co34, eo34⟩ := Kd.R_slice HO112.out; subst eo34; have p119 : 0 ≤ ((ji27) : Int) := of_decide_eq_true (by first | (with_reducible assumption) | assumption); have q119 : (ji27) < (l0.length : Int) := of_decide_eq_true (by first | (with_reducible assumption) | assumption); obtain ⟨ad119, e119, hx119_0, hx119_1, hx119_2, hx119_3⟩ := at_T48 HR0.out (ji27) p119 q119; obtain rfl : ad108 = ad119 := (by injection e119); replace hx119_0 := (HB.out.cell (World.block_lt_of_cell? w _ hx119_0)).trans hx119_0; replace hx119_1 := (HB.out.cell (World.block_lt_of_cell? w _ hx119_1)).trans hx119_1; replace hx119_2 := (HB.out.cell (World.block_lt_of_cell? w _ hx119_2)).trans hx119_2; replace hx119_3 := (HB.out.cell (World.block_lt_of_cell? w _ hx119_3)).trans hx119_3; replace p119 := eq_true p119; replace q119 := eq_true q119; have hcz35_0 : w33.cell? ⟨gb109, 0, none⟩ = some (.string ((qb l0 x20_2).f0.f0)) := (qh BK109.out 0).trans rfl; have hcz35_1 : w33.cell? ⟨gb109, 1, none⟩ = some (.int .i64 ((qb l0 x20_2).f0.f1)) := (qh BK109.out 1).trans rfl; have hcz35_2 : w33.cell? ⟨gb109, 2, none⟩ = some (.int .i64 ((qb l0 x20_2).f0.f2)) := (qh BK109.out 2).trans rfl; have hcz35_3 : w33.cell? ⟨gb109, 3, none⟩ = some (.string ((qb l0 x20_2).f1)) := (qh BK109.out 3).trans rfl; have hfz35_0 := qg BK109.out 0; have hfz35_1 := qg BK109.out 1; have hfz35_2 := qg BK109.out 2; have hfz35_3 := qg BK109.out 3)); try go_wp2_with (first | ((with_reducible refine qx (N := 8) rfl ?_); (try (refine qw (by rfl) ?_; dsimp only)); refine qa1 ?hg (N := 8) ?hd (cs := #[.string (⟨#[]⟩ : ByteArray), .int .i64 0, .int .i64 0, .string (⟨#[]⟩ : ByteArray)]) (t := 48) ?hr ?_; (case hd => rfl); (case hg => rfl); (case hr => first | (go_simp; done) | (go_simp; rfl)); intro gb109 hg w31 hbox hb; replace HO_5 := Qz.mk (Kd.S_below (Kd.S_elderB (by (with_reducible repeat (first | apply Kd.S_alloc | apply Kd.S_drewN | apply Kd.S_drew)); exact HO_5.out) gb109 (Nat.le_of_eq hg.symm)) hb); replace HO_6 := Qz.mk (Kd.R_below (Kd.R_elderB (by (with_reducible repeat (first | apply Kd.R_alloc | apply Kd.R_drewN | apply Kd.R_drew)); exact HO_6.out) gb109 (Nat.le_of_eq hg.symm)) hb); have BK109 := Qz.mk (hbox); have GW109 := Qz.mk ((by rw [hg]; exact (qu (by repeat (first | (with_reducible first | exact HB.out | apply qd | apply qa | apply qc) | exact HB.out))) : w.heap.size ≤ gb109)); have GE109 := GW109; replace HB := Qz.mk (qo (by repeat (first | (with_reducible first | exact HB.out | apply qd | apply qa | apply qc) | exact HB.out)) hb); clear hb hbox hg; have hcz32_0 : w31.cell? ⟨gb109, 0, none⟩ = some (.string (⟨#[]⟩ : ByteArray)) := (qh BK109.out 0).trans rfl; have hcz32_1 : w31.cell? ⟨gb109, 1, none⟩ = some (.int .i64 0) := (qh BK109.out 1).trans rfl; have hcz32_2 : w31.cell? ⟨gb109, 2, none⟩ = some (.int .i64 0) := (qh BK109.out 2).trans rfl; have hcz32_3 : w31.cell? ⟨gb109, 3, none⟩ = some (.string (⟨#[]⟩ : ByteArray)) := (qh BK109.out 3).trans rfl; have hfz32_0 := qg BK109.out 0; have hfz32_1 := qg BK109.out 1; have hfz32_2 := qg BK109.out 2; have hfz32_3 := qg BK109.out 3) | ((with_reducible refine qz (b := .append) (xs := #[.tmp 25, .tmp 27]) rfl ?_); (try (refine qw (by rfl) ?_; dsimp only)); at_builtin; refine Kd.R_append k48 (w0 := w) w.heap.size rfl (.tmp 25) (.tmp 27) 32 48 (.agg #[(.string ⟨#[]⟩), (.int .i64 0), (.int .i64 0), (.string ⟨#[]⟩)]) 48 rfl Try.underlying32 info48 rfl (by decide) (by omega) u6 x6_2 (⟨(⟨(qb l0 x20_2).f0.f0, (qb l0 x20_2).f0.f1, (qb l0 x20_2).f0.f2⟩ : S46), (qb l0 x20_2).f1⟩ : S48) [.string ((qb l0 x20_2).f0.f0), .int .i64 ((qb l0 x20_2).f0.f1), .int .i64 ((qb l0 x20_2).f0.f2), .string ((qb l0 x20_2).f1)] (fun k_ => k_ ≠ gb109) (fun _ => False) rfl (by first | (go_simp; done) | (go_simp; rfl)) ?aP (fun _ hk => hk.elim) ?aF ?aO ?aB ?aS ?aL ?_; (case aP => exact k48_mkM _ _ _ (⟨(⟨(qb l0 x20_2).f0.f0, (qb l0 x20_2).f0.f1, (qb l0 x20_2).f0.f2⟩ : S46), (qb l0 x20_2).f1⟩ : S48)); (case aB => exact (by repeat (first | (with_reducible first | exact HB.out | apply qd | apply qa | apply qc | refine qi ?_ GE109.out) | exact HB.out))); (case aF => exact (fun k_ hk => Kd.freshB (g := gb109) (o := .cells #[.string ((qb l0 x20_2).f0.f0), .int .i64 ((qb l0 x20_2).f0.f1), .int .i64 ((qb l0 x20_2).f0.f2), .string ((qb l0 x20_2).f1)] 48 (0, 0)) (by (with_reducible repeat (first | refine qe ?_ _ | refine qj ?_ | refine qf ?_ _)); refine qt (cs := #[.string ((qb l0 x20_2).f0.f0), .int .i64 ((qb l0 x20_2).f0.f1), .int .i64 ((qb l0 x20_2).f0.f2), .string (⟨#[]⟩ : ByteArray)]) ?_ 3 _ rfl; (with_reducible repeat (first | refine qe ?_ _ | refine qj ?_ | refine qf ?_ _)); refine qt (cs := #[.string ((qb l0 x20_2).f0.f0), .int .i64 ((qb l0 x20_2).f0.f1), .int .i64 0, .string (⟨#[]⟩ : ByteArray)]) ?_ 2 _ rfl; (with_reducible repeat (first | refine qe ?_ _ | refine qj ?_ | refine qf ?_ _)); refine qt (cs := #[.string ((qb l0 x20_2).f0.f0), .int .i64 0, .int .i64 0, .string (⟨#[]⟩ : ByteArray)]) ?_ 1 _ rfl; (with_reducible repeat (first | refine qe ?_ _ | refine qj ?_ | refine qf ?_ _)); refine qt (cs := #[.string (⟨#[]⟩ : ByteArray), .int .i64 0, .int .i64 0, .string (⟨#[]⟩ : ByteArray)]) ?_ 0 _ rfl; (with_reducible repeat (first | refine qe ?_ _ | refine qj ?_ | refine qf ?_ _)); exact BK109.out) k_ hk)); (case aO => exact (by (with_reducible repeat (first | apply Kd.R_alloc | apply Kd.R_drewN | apply Kd.R_drew)); exact Kd.R_mono (Kd.R_far (p := ⟨gb109, 3, none⟩) (Kd.R_far (p := ⟨gb109, 2, none⟩) (Kd.R_far (p := ⟨gb109, 1, none⟩) (Kd.R_far (p := ⟨gb109, 0, none⟩) (Kd.R_mono HO_6.out (fun k_ hk => (⟨hk, hk.2⟩ : _ ∧ k_ ≠ gb109))) (fun _ hk => hk.2) (.string ((qb l0 x20_2).f0.f0))) (fun _ hk => hk.2) (.int .i64 ((qb l0 x20_2).f0.f1))) (fun _ hk => hk.2) (.int .i64 ((qb l0 x20_2).f0.f2))) (fun _ hk => hk.2) (.string ((qb l0 x20_2).f1))) (fun _ hk => hk.1.2))); (case aS => exact (qu (by repeat (first | (with_reducible first | exact HB.out | apply qd | apply qa | apply qc | refine qi ?_ GE109.out) | exact HB.out)))); (case aL => have := LMc16.out; omega); intro v111 w33 ho hb hg hat; rw [← Ny110.out] at ho; have n0_ := Qz.mk (Kd.S_after (ok := (fun k_ => k_ ≠ gb109)) (by (with_reducible repeat (first | apply Kd.S_alloc | apply Kd.S_drewN | apply Kd.S_drew)); exact Kd.S_mono (Kd.S_far (p := ⟨gb109, 3, none⟩) (Kd.S_far (p := ⟨gb109, 2, none⟩) (Kd.S_far (p := ⟨gb109, 1, none⟩) (Kd.S_far (p := ⟨gb109, 0, none⟩) (Kd.S_mono HO_5.out (fun k_ hk => (⟨hk, hk.2⟩ : _ ∧ k_ ≠ gb109))) (fun _ hk => hk.2) (.string ((qb l0 x20_2).f0.f0))) (fun _ hk => hk.2) (.int .i64 ((qb l0 x20_2).f0.f1))) (fun _ hk => hk.2) (.int .i64 ((qb l0 x20_2).f0.f2))) (fun _ hk => hk.2) (.string ((qb l0 x20_2).f1))) (fun _ hk => ⟨hk.1.2, hk.1.1⟩)) hg hat); have n1_ := Qz.mk (blk_grown (g := gb109) (o := .cells #[.string ((qb l0 x20_2).f0.f0), .int .i64 ((qb l0 x20_2).f0.f1), .int .i64 ((qb l0 x20_2).f0.f2), .string ((qb l0 x20_2).f1)] 48 (0, 0)) (by (with_reducible repeat (first | refine qe ?_ _ | refine qj ?_ | refine qf ?_ _)); refine qt (cs := #[.string ((qb l0 x20_2).f0.f0), .int .i64 ((qb l0 x20_2).f0.f1), .int .i64 ((qb l0 x20_2).f0.f2), .string (⟨#[]⟩ : ByteArray)]) ?_ 3 _ rfl; (with_reducible repeat (first | refine qe ?_ _ | refine qj ?_ | refine qf ?_ _)); refine qt (cs := #[.string ((qb l0 x20_2).f0.f0), .int .i64 ((qb l0 x20_2).f0.f1), .int .i64 0, .string (⟨#[]⟩ : ByteArray)]) ?_ 2 _ rfl; (with_reducible repeat (first | refine qe ?_ _ | refine qj ?_ | refine qf ?_ _)); refine qt (cs := #[.string ((qb l0 x20_2).f0.f0), .int .i64 0, .int .i64 0, .string (⟨#[]⟩ : ByteArray)]) ?_ 1 _ rfl; (with_reducible repeat (first | refine qe ?_ _ | refine qj ?_ | refine qf ?_ _)); refine qt (cs := #[.string (⟨#[]⟩ : ByteArray), .int .i64 0, .int .i64 0, .string (⟨#[]⟩ : ByteArray)]) ?_ 0 _ rfl; (with_reducible repeat (first | refine qe ?_ _ | refine qj ?_ | refine qf ?_ _)); exact BK109.out) hg (Kd.R_away HO_6.out (fun _ hk => hk.2))); have n2_ := Qz.mk (hb); have n3_ := Qz.mk (ho); clear HO_5; clear BK109; clear HB; clear HO_6; have HO_5 := n0_; have BK109 := n1_; have HB := n2_; have HO112 := n3_; clear n0_ n1_ n2_ n3_; clear ho hb hg hat; obtain ⟨Ao34, co34, eo34⟩ := Kd.R_slice HO112.out; subst eo34; have p119 : 0 ≤ ((ji27) : Int) := of_decide_eq_true (by first | (with_reducible assumption) | assumption); have q119 : (ji27) < (l0.length : Int) := of_decide_eq_true (by first | (with_reducible assumption) | assumption); obtain ⟨ad119, e119, hx119_0, hx119_1, hx119_2, hx119_3⟩ := at_T48 HR0.out (ji27) p119 q119; obtain rfl : ad108 = ad119 := (by injection e119); replace hx119_0 := (HB.out.cell (World.block_lt_of_cell? w _ hx119_0)).trans hx119_0; replace hx119_1 := (HB.out.cell (World.block_lt_of_cell? w _ hx119_1)).trans hx119_1; replace hx119_2 := (HB.out.cell (World.block_lt_of_cell? w _ hx119_2)).trans hx119_2; replace hx119_3 := (HB.out.cell (World.block_lt_of_cell? w _ hx119_3)).trans hx119_3; replace p119 := eq_true p119; replace q119 := eq_true q119; have hcz35_0 : w33.cell? ⟨gb109, 0, none⟩ = some (.string ((qb l0 x20_2).f0.f0)) := (qh BK109.out 0).trans rfl; have hcz35_1 : w33.cell? ⟨gb109, 1, none⟩ = some (.int .i64 ((qb l0 x20_2).f0.f1)) := (qh BK109.out 1).trans rfl; have hcz35_2 : w33.cell? ⟨gb109, 2, none⟩ = some (.int .i64 ((qb l0 x20_2).f0.f2)) := (qh BK109.out 2).trans rfl; have hcz35_3 : w33.cell? ⟨gb109, 3, none⟩ = some (.string ((qb l0 x20_2).f1)) := (qh BK109.out 3).trans rfl; have hfz35_0 := qg BK109.out 0; have hfz35_1 := qg BK109.out 1; have hfz35_2 := qg BK109.out 2; have hfz35_3 := qg BK109.out 3)))
               go_roundg k2
               case measure => have := HJ2.out; have := HK2.out; omega
               case rel => exact ⟨(x5_2), (y110), (ji27), (by first | rfl | (simp; done) | (simp only [← hji27] <;> (first | rfl | simp)) | (simp [*]; done)), H', ⟨by have := HJ2.out; have := HK2.out; omega⟩, ⟨by (with_reducible repeat (first | apply Kd.S_alloc | apply Kd.S_drewN | apply Kd.S_drew)); exact Kd.S_mono HO_5.out (fun _ hk => hk.2)⟩, ⟨by (with_reducible repeat (first | apply Kd.R_alloc | apply Kd.R_drewN | apply Kd.R_drew)); exact Kd.R_mono HO112.out (fun _ hk => trivial)⟩, ⟨by repeat (first | (with_reducible first | exact HB.out | apply qd | apply qa | apply qc | refine qi ?_ GE109.out) | exact HB.out)⟩⟩
              ·rw [if_neg c30] at H
               have c30b0 : (((qb l0 (ji27)).f0.f0).toList == ((qb l0 x20_2).f0.f0).toList) = false := beq_eq_false_iff_ne.mpr c30
               have c30b1 : (((qb l0 (ji27)).f0.f0).toList != ((qb l0 x20_2).f0.f0).toList) = true := bne_iff_ne.mpr c30
               by_cases c36 : x5_2.length < 5864062014805
               ·rw [if_pos c36] at H
                have LMc36 := Qz.mk c36
                clear c36
                obtain ⟨y120, hy120⟩ : ∃ y_ : List (S44), y_ = (x5_2 ++ [(⟨y110⟩ : S44)]) := ⟨_, rfl⟩
                replace H : (impl_SplitRun.l0 k2 l0 a1 y120 (([] : List (S48))) l0 (l0.length : Int) ji27) = some r := by first | (rw [hy120]; with_reducible exact H) | (have H2_ := (Option.bind_some _ _).symm.trans H; rw [hy120]; with_reducible exact H2_) | (have H2_ := (Option.bind_some _ _).symm.trans H; with_reducible exact H2_) | with_reducible exact H | (rw [hy120]; exact H) | exact H
                have Ny120 := Qz.mk hy120
                clear hy120
                obtain ⟨y123, hy123⟩ : ∃ y_ : List (S48), y_ = (([] : List (S48))) := ⟨_, rfl⟩
                replace H : (impl_SplitRun.l0 k2 l0 a1 y120 y123 l0 (l0.length : Int) ji27) = some r := by first | (rw [hy123]; with_reducible exact H) | (have H2_ := (Option.bind_some _ _).symm.trans H; rw [hy123]; with_reducible exact H2_) | (have H2_ := (Option.bind_some _ _).symm.trans H; with_reducible exact H2_) | with_reducible exact H | (rw [hy123]; exact H) | exact H
                have Ny123 := Qz.mk hy123
                clear hy123
                have H' := Qz.mk H
                clear H
                have p108 : 0 ≤ (x20_2 : Int) := of_decide_eq_true (by first | (with_reducible assumption) | assumption)
                have q108 : x20_2 < (l0.length : Int) := of_decide_eq_true (by first | (with_reducible assumption) | assumption)
                obtain ⟨ad108, e108, hx108_0, hx108_1, hx108_2, hx108_3⟩ := at_T48 HR0.out x20_2 p108 q108
                cases e108
                replace hx108_0 := (HB.out.cell (World.block_lt_of_cell? w _ hx108_0)).trans hx108_0
                replace hx108_1 := (HB.out.cell (World.block_lt_of_cell? w _ hx108_1)).trans hx108_1
                replace hx108_2 := (HB.out.cell (World.block_lt_of_cell? w _ hx108_2)).trans hx108_2
                replace hx108_3 := (HB.out.cell (World.block_lt_of_cell? w _ hx108_3)).trans hx108_3
                replace p108 := eq_true p108
                replace q108 := eq_true q108
                go_wp2_with (first | ((with_reducible refine qx (N := 8) rfl ?_); (try (refine qw (by rfl) ?_; dsimp only)); refine qa1 ?hg (N := 8) ?hd (cs := #[.string (⟨#[]⟩ : ByteArray), .int .i64 0, .int .i64 0, .string (⟨#[]⟩ : ByteArray)]) (t := 48) ?hr ?_; (case hd => rfl); (case hg => rfl); (case hr => first | (go_simp; done) | (go_simp; rfl)); intro gb109 hg w37 hbox hb; replace HO_5 := Qz.mk (Kd.S_below (Kd.S_elderB (by (with_reducible repeat (first | apply Kd.S_alloc | apply Kd.S_drewN | apply Kd.S_drew)); exact HO_5.out) gb109 (Nat.le_of_eq hg.symm)) hb); replace HO_6 := Qz.mk (Kd.R_below (Kd.R_elderB (by (with_reducible repeat (first | apply Kd.R_alloc | apply Kd.R_drewN | apply Kd.R_drew)); exact HO_6.out) gb109 (Nat.le_of_eq hg.symm)) hb); have BK109 := Qz.mk (hbox); have GW109 := Qz.mk ((by rw [hg]; exact (qu (by repeat (first | (with_reducible first | exact HB.out | apply qd | apply qa | apply qc) | exact HB.out))) : w.heap.size ≤ gb109)); have GE109 := GW109; replace HB := Qz.mk (qo (by repeat (first | (with_reducible first | exact HB.out | apply qd | apply qa | apply qc) | exact HB.out)) hb); clear hb hbox hg; have hcz38_0 : w37.cell? ⟨gb109, 0, none⟩ = some (.string (⟨#[]⟩ : ByteArray)) := (qh BK109.out 0).trans rfl; have hcz38_1 : w37.cell? ⟨gb109, 1, none⟩ = some (.int .i64 0) := (qh BK109.out 1).trans rfl; have hcz38_2 : w37.cell? ⟨gb109, 2, none⟩ = some (.int .i64 0) := (qh BK109.out 2).trans rfl; have hcz38_3 : w37.cell? ⟨gb109, 3, none⟩ = some (.string (⟨#[]⟩ : ByteArray)) := (qh BK109.out 3).trans rfl; have hfz38_0 := qg BK109.out 0; have hfz38_1 := qg BK109.out 1; have hfz38_2 := qg BK109.out 2; have hfz38_3 := qg BK109.out 3) | ((with_reducible refine qz (b := .append) (xs := #[.tmp 25, .tmp 27]) rfl ?_); (try (refine qw (by rfl) ?_; dsimp only)); at_builtin; refine Kd.R_append k48 (w0 := w) w.heap.size rfl (.tmp 25) (.tmp 27) 32 48 (.agg #[(.string ⟨#[]⟩), (.int .i64 0), (.int .i64 0), (.string ⟨#[]⟩)]) 48 rfl Try.underlying32 info48 rfl (by decide) (by omega) u6 x6_2 (⟨(⟨(qb l0 x20_2).f0.f0, (qb l0 x20_2).f0.f1, (qb l0 x20_2).f0.f2⟩ : S46), (qb l0 x20_2).f1⟩ : S48) [.string ((qb l0 x20_2).f0.f0), .int .i64 ((qb l0 x20_2).f0.f1), .int .i64 ((qb l0 x20_2).f0.f2), .string ((qb l0 x20_2).f1)] (fun k_ => k_ ≠ gb109) (fun _ => False) rfl (by first | (go_simp; done) | (go_simp; rfl)) ?aP (fun _ hk => hk.elim) ?aF ?aO ?aB ?aS ?aL ?_; (case aP => exact k48_mkM _ _ _ (⟨(⟨(qb l0 x20_2).f0.f0, (qb l0 x20_2).f0.f1, (qb l0 x20_2).f0.f2⟩ : S46), (qb l0 x20_2).f1⟩ : S48)); (case aB => exact (by repeat (first | (with_reducible first | exact HB.out | apply qd | apply qa | apply qc | refine qi ?_ GE109.out) | exact HB.out))); (case aF => exact (fun k_ hk => Kd.freshB (g := gb109) (o := .cells #[.string ((qb l0 x20_2).f0.f0), .int .i64 ((qb l0 x20_2).f0.f1), .int .i64 ((qb l0 x20_2).f0.f2), .string ((qb l0 x20_2).f1)] 48 (0, 0)) (by (with_reducible repeat (first | refine qe ?_ _ | refine qj ?_ | refine qf ?_ _)); refine qt (cs := #[.string ((qb l0 x20_2).f0.f0), .int .i64 ((qb l0 x20_2).f0.f1), .int .i64 ((qb l0 x20_2).f0.f2), .string (⟨#[]⟩ : ByteArray)]) ?_ 3 _ rfl; (with_reducible repeat (first | refine qe ?_ _ | refine qj ?_ | refine qf ?_ _)); refine qt (cs := #[.string ((qb l0 x20_2).f0.f0), .int .i64 ((qb l0 x20_2).f0.f1), .int .i64 0, .string (⟨#[]⟩ : ByteArray)]) ?_ 2 _ rfl; (with_reducible repeat (first | refine qe ?_ _ | refine qj ?_ | refine qf ?_ _)); refine qt (cs := #[.string ((qb l0 x20_2).f0.f0), .int .i64 0, .int .i64 0, .string (⟨#[]⟩ : ByteArray)]) ?_ 1 _ rfl; (with_reducible repeat (first | refine qe ?_ _ | refine qj ?_ | refine qf ?_ _)); refine qt (cs := #[.string (⟨#[]⟩ : ByteArray), .int .i64 0, .int .i64 0, .string (⟨#[]⟩ : ByteArray)]) ?_ 0 _ rfl; (with_reducible repeat (first | refine qe ?_ _ | refine qj ?_ | refine qf ?_ _)); exact BK109.out) k_ hk)); (case aO => exact (by (with_reducible repeat (first | apply Kd.R_alloc | apply Kd.R_drewN | apply Kd.R_drew)); exact Kd.R_mono (Kd.R_far (p := ⟨gb109, 3, none⟩) (Kd.R_far (p := ⟨gb109, 2, none⟩) (Kd.R_far (p := ⟨gb109, 1, none⟩) (Kd.R_far (p := ⟨gb109, 0, none⟩) (Kd.R_mono HO_6.out (fun k_ hk => (⟨hk, hk.2⟩ : _ ∧ k_ ≠ gb109))) (fun _ hk => hk.2) (.string ((qb l0 x20_2).f0.f0))) (fun _ hk => hk.2) (.int .i64 ((qb l0 x20_2).f0.f1))) (fun _ hk => hk.2) (.int .i64 ((qb l0 x20_2).f0.f2))) (fun _ hk => hk.2) (.string ((qb l0 x20_2).f1))) (fun _ hk => hk.1.2))); (case aS => exact (qu (by repeat (first | (with_reducible first | exact HB.out | apply qd | apply qa | apply qc | refine qi ?_ GE109.out) | exact HB.out)))); (case aL => have := LMc16.out; omega); intro v111 w39 ho hb hg hat; rw [← Ny110.out] at ho; have n0_ := Qz.mk (Kd.S_after (ok := (fun k_ => k_ ≠ gb109)) (by (with_reducible repeat (first | apply Kd.S_alloc | apply Kd.S_drewN | apply Kd.S_drew)); exact Kd.S_mono (Kd.S_far (p := ⟨gb109, 3, none⟩) (Kd.S_far (p := ⟨gb109, 2, none⟩) (Kd.S_far (p := ⟨gb109, 1, none⟩) (Kd.S_far (p := ⟨gb109, 0, none⟩) (Kd.S_mono HO_5.out (fun k_ hk => (⟨hk, hk.2⟩ : _ ∧ k_ ≠ gb109))) (fun _ hk => hk.2) (.string ((qb l0 x20_2).f0.f0))) (fun _ hk => hk.2) (.int .i64 ((qb l0 x20_2).f0.f1))) (fun _ hk => hk.2) (.int .i64 ((qb l0 x20_2).f0.f2))) (fun _ hk => hk.2) (.string ((qb l0 x20_2).f1))) (fun _ hk => ⟨hk.1.2, hk.1.1⟩)) hg hat); have n1_ := Qz.mk (blk_grown (g := gb109) (o := .cells #[.string ((qb l0 x20_2).f0.f0), .int .i64 ((qb l0 x20_2).f0.f1), .int .i64 ((qb l0 x20_2).f0.f2), .string ((qb l0 x20_2).f1)] 48 (0, 0)) (by (with_reducible repeat (first | refine qe ?_ _ | refine qj ?_ | refine qf ?_ _)); refine qt (cs := #[.string ((qb l0 x20_2).f0.f0), .int .i64 ((qb l0 x20_2).f0.f1), .int .i64 ((qb l0 x20_2).f0.f2), .string (⟨#[]⟩ : ByteArray)]) ?_ 3 _ rfl; (with_reducible repeat (first | refine qe ?_ _ | refine qj ?_ | refine qf ?_ _)); refine qt (cs := #[.string ((qb l0 x20_2).f0.f0), .int .i64 ((qb l0 x20_2).f0.f1), .int .i64 0, .string (⟨#[]⟩ : ByteArray)]) ?_ 2 _ rfl; (with_reducible repeat (first | refine qe ?_ _ | refine qj ?_ | refine qf ?_ _)); refine qt (cs := #[.string ((qb l0 x20_2).f0.f0), .int .i64 0, .int .i64 0, .string (⟨#[]⟩ : ByteArray)]) ?_ 1 _ rfl; (with_reducible repeat (first | refine qe ?_ _ | refine qj ?_ | refine qf ?_ _)); refine qt (cs := #[.string (⟨#[]⟩ : ByteArray), .int .i64 0, .int .i64 0, .string (⟨#[]⟩ : ByteArray)]) ?_ 0 _ rfl; (with_reducible repeat (first | refine qe ?_ _ | refine qj ?_ | refine qf ?_ _)); exact BK109.out) hg (Kd.R_away HO_6.out (fun _ hk => hk.2))); have n2_ := Qz.mk (hb); have n3_ := Qz.mk (ho); clear HO_5; clear BK109; clear HB; clear HO_6; have HO_5 := n0_; have BK109 := n1_; have HB := n2_; have HO112 := n3_; clear n0_ n1_ n2_ n3_; clear ho hb hg hat; obtain ⟨Ao40, co40, eo40⟩ := Kd.R_slice HO112.out; subst eo40; have p119 : 0 ≤ ((ji27) : Int) := of_decide_eq_true (by first | (with_reducible assumption) | assumption); have q119 : (ji27) < (l0.length : Int) := of_decide_eq_true (by first | (with_reducible assumption) | assumption); obtain ⟨ad119, e119, hx119_0, hx119_1, hx119_2, hx119_3⟩ := at_T48 HR0.out (ji27) p119 q119; obtain rfl : ad108 = ad119 := (by injection e119); replace hx119_0 := (HB.out.cell (World.block_lt_of_cell? w _ hx119_0)).trans hx119_0; replace hx119_1 := (HB.out.cell (World.block_lt_of_cell? w _ hx119_1)).trans hx119_1; replace hx119_2 := (HB.out.cell (World.block_lt_of_cell? w _ hx119_2)).trans hx119_2; replace hx119_3 := (HB.out.cell (World.block_lt_of_cell? w _ hx119_3)).trans hx119_3; replace p119 := eq_true p119; replace q119 := eq_true q119; have hcz41_0 : w39.cell? ⟨gb109, 0, none⟩ = some (.string ((qb l0 x20_2).f0.f0)) := (qh BK109.out 0).trans rfl; have hcz41_1 : w39.cell? ⟨gb109, 1, none⟩ = some (.int .i64 ((qb l0 x20_2).f0.f1)) := (qh BK109.out 1).trans rfl; have hcz41_2 : w39.cell? ⟨gb109, 2, none⟩ = some (.int .i64 ((qb l0 x20_2).f0.f2)) := (qh BK109.out 2).trans rfl; have hcz41_3 : w39.cell? ⟨gb109, 3, none⟩ = some (.string ((qb l0 x20_2).f1)) := (qh BK109.out 3).trans rfl; have hfz41_0 := qg BK109.out 0; have hfz41_1 := qg BK109.out 1; have hfz41_2 := qg BK109.out 2; have hfz41_3 := qg BK109.out 3) | ((with_reducible refine qz (b := .append) (xs := #[.tmp 53, .tmp 56]) rfl ?_); (try (refine qw (by rfl) ?_; dsimp only)); at_builtin; refine Kd.S_append k44 (w0 := w) w.heap.size rfl (.tmp 53) (.tmp 56) 25 44 (.agg #[(.slice none 0 0)]) 24 rfl Try.underlying25 info44 rfl (by decide) (by omega) u5 x5_2 (⟨y110⟩ : S44) [.slice Ao40 y110.length co40] (fun k_ => k_ ≠ gb109) (fun k_ => some k_ = (.slice Ao40 y110.length co40 : Value).ownBlock) rfl rfl ?aP (fun k_ hk_ => ((Kd.R_mono (ok' := fun k_ => ((fun k_ => k_ ≠ gb109)) k_ ∧ some k_ ≠ (u5 : Value).ownBlock) (Kd.R_apart' (HO112.out) (Kd.S_typed HO_5.out) (by decide)) (fun k_ hk => ⟨hk.1, hk.2⟩))).1 k_ hk_.symm) ?aF ?aO ?aB ?aS ?aL ?_; (case aP => exact k44_mkM _ _ _ (⟨y110⟩ : S44) (Kd.R_mono (Kd.R_tight rfl (Kd.R_mono (ok' := fun k_ => ((fun k_ => k_ ≠ gb109)) k_ ∧ some k_ ≠ (u5 : Value).ownBlock) (Kd.R_apart' (HO112.out) (Kd.S_typed HO_5.out) (by decide)) (fun k_ hk => ⟨hk.1, hk.2⟩))) (fun _ h_ => h_))); (case aB => exact (by repeat (first | (with_reducible first | exact HB.out | apply qd | apply qa | apply qc | refine qi ?_ GE109.out) | exact HB.out))); (case aF => exact (fun k_ hk => Kd.freshB (g := gb109) (o := .cells #[.string ((qb l0 x20_2).f0.f0), .int .i64 ((qb l0 x20_2).f0.f1), .int .i64 ((qb l0 x20_2).f0.f2), .string ((qb l0 x20_2).f1)] 48 (0, 0)) (by (with_reducible repeat (first | refine qe ?_ _ | refine qj ?_ | refine qf ?_ _)); exact BK109.out) k_ hk)); (case aO => exact (by (with_reducible repeat (first | apply Kd.S_alloc | apply Kd.S_drewN | apply Kd.S_drew)); exact Kd.S_mono HO_5.out (fun k_ hk => ⟨hk.1, fun e_ => hk.2 e_⟩))); (case aS => exact (qu (by repeat (first | (with_reducible first | exact HB.out | apply qd | apply qa | apply qc | refine qi ?_ GE109.out) | exact HB.out)))); (case aL => have := LMc36.out; omega); intro v121 w42 ho hb hg hat; rw [← Ny120.out] at ho; have n0_ := Qz.mk (blk_grown (g := gb109) (o := .cells #[.string ((qb l0 x20_2).f0.f0), .int .i64 ((qb l0 x20_2).f0.f1), .int .i64 ((qb l0 x20_2).f0.f2), .string ((qb l0 x20_2).f1)] 48 (0, 0)) (by (with_reducible repeat (first | refine qe ?_ _ | refine qj ?_ | refine qf ?_ _)); exact BK109.out) hg (Kd.S_ne HO_5.out BK109.out (by decide))); have n1_ := Qz.mk (hb); have n2_ := Qz.mk (ho); clear BK109; clear HB; clear HO_5; clear HO112; have BK109 := n0_; have HB := n1_; have HO122 := n2_; clear n0_ n1_ n2_; clear ho hb hg hat) | ((with_reducible refine qx (N := 58) rfl ?_); (try (refine qw (by rfl) ?_; dsimp only)); refine Kd.R_lit k48 _ 48 ?hg (N := 58) ?hd (xs := ([] : List (S48))) (inner := []) (ok := fun _ => True) (okp := fun _ => True) ?hr ?hp (fun _ hk => hk) trivial (Below.refl _ _) (Nat.le_refl _) (by simp) ?_; (case hd => rfl); (case hg => rfl); (case hr => first | (go_simp; done) | (go_simp; rfl)); (case hp => exact (Reps.none _ _)); intro v124 w43 ho44 hb hg_ hnew_; clear hg_ hnew_; (first | rw [← Ny123.out] at ho44 | (simp only [Int.reduceToNat] at ho44; rw [← Ny123.out] at ho44)); replace HO122 := Qz.mk (Kd.S_elder' (by (with_reducible repeat (first | apply Kd.S_alloc | apply Kd.S_drewN | apply Kd.S_drew)); exact HO122.out) (Kd.R_base ho44) hb); have HO125 := Qz.mk (Kd.R_lower (Kd.R_newB ho44 (g := gb109) (o := .cells #[.string ((qb l0 x20_2).f0.f0), .int .i64 ((qb l0 x20_2).f0.f1), .int .i64 ((qb l0 x20_2).f0.f2), .string ((qb l0 x20_2).f1)] 48 (0, 0)) (by (with_reducible repeat (first | refine qe ?_ _ | refine qj ?_ | refine qf ?_ _)); exact BK109.out)) (qu (by repeat (first | (with_reducible first | exact HB.out | apply qd | apply qa | apply qc | refine qi ?_ GE109.out) | exact HB.out)))); replace BK109 := Qz.mk (blk_below (g := gb109) (o := .cells #[.string ((qb l0 x20_2).f0.f0), .int .i64 ((qb l0 x20_2).f0.f1), .int .i64 ((qb l0 x20_2).f0.f2), .string ((qb l0 x20_2).f1)] 48 (0, 0)) (by (with_reducible repeat (first | refine qe ?_ _ | refine qj ?_ | refine qf ?_ _)); exact BK109.out) hb); replace HB := Qz.mk (qo (by repeat (first | (with_reducible first | exact HB.out | apply qd | apply qa | apply qc | refine qi ?_ GE109.out) | exact HB.out)) hb); clear hb ho44))
                repeat (go_quiet (first | ((with_reducible refine qx (N := 8) rfl ?_); (try (refine qw (by rfl) ?_; dsimp only)); refine qa1 ?hg (N := 8) ?hd (cs := #[.string (⟨#[]⟩ : ByteArray), .int .i64 0, .int .i64 0, .string (⟨#[]⟩ : ByteArray)]) (t := 48) ?hr ?_; (case hd => rfl); (case hg => rfl); (case hr => first | (go_simp; done) | (go_simp; rfl)); intro gb109 hg w37 hbox hb; replace HO_5 := Qz.mk (Kd.S_below (Kd.S_elderB (by (with_reducible repeat (first | apply Kd.S_alloc | apply Kd.S_drewN | apply Kd.S_drew)); exact HO_5.out) gb109 (Nat.le_of_eq hg.symm)) hb); replace HO_6 := Qz.mk (Kd.R_below (Kd.R_elderB (by (with_reducible repeat (first | apply Kd.R_alloc | apply Kd.R_drewN | apply Kd.R_drew)); exact HO_6.out) gb109 (Nat.le_of_eq hg.symm)) hb); have BK109 := Qz.mk (hbox); have GW109 := Qz.mk ((by rw [hg]; exact (qu (by repeat (first | (with_reducible first | exact HB.out | apply qd | apply qa | apply qc) | exact HB.out))) : w.heap.size ≤ gb109)); have GE109 := GW109; replace HB := Qz.mk (qo (by repeat (first | (with_reducible first | exact HB.out | apply qd | apply qa | apply qc) | exact HB.out)) hb); clear hb hbox hg; have hcz38_0 : w37.cell? ⟨gb109, 0, none⟩ = some (.string (⟨#[]⟩ : ByteArray)) := (qh BK109.out 0).trans rfl; have hcz38_1 : w37.cell? ⟨gb109, 1, none⟩ = some (.int .i64 0) := (qh BK109.out 1).trans rfl; have hcz38_2 : w37.cell? ⟨gb109, 2, none⟩ = some (.int .i64 0) := (qh BK109.out 2).trans rfl; have hcz38_3 : w37.cell? ⟨gb109, 3, none⟩ = some (.string (⟨#[]⟩ : ByteArray)) := (qh BK109.out 3).trans rfl; have hfz38_0 := qg BK109.out 0; have hfz38_1 := qg BK109.out 1; have hfz38_2 := qg BK109.out 2; have hfz38_3 := qg BK109.out 3) | ((with_reducible refine qz (b := .append) (xs := #[.tmp 25, .tmp 27]) rfl ?_); (try (refine qw (by rfl) ?_; dsimp only)); at_builtin; refine Kd.R_append k48 (w0 := w) w.heap.size rfl (.tmp 25) (.tmp 27) 32 48 (.agg #[(.string ⟨#[]⟩), (.int .i64 0), (.int .i64 0), (.string ⟨#[]⟩)]) 48 rfl Try.underlying32 info48 rfl (by decide) (by omega) u6 x6_2 (⟨(⟨(qb l0 x20_2).f0.f0, (qb l0 x20_2).f0.f1, (qb l0 x20_2).f0.f2⟩ : S46), (qb l0 x20_2).f1⟩ : S48) [.string ((qb l0 x20_2).f0.f0), .int .i64 ((qb l0 x20_2).f0.f1), .int .i64 ((qb l0 x20_2).f0.f2), .string ((qb l0 x20_2).f1)] (fun k_ => k_ ≠ gb109) (fun _ => False) rfl (by first | (go_simp; done) | (go_simp; rfl)) ?aP (fun _ hk => hk.elim) ?aF ?aO ?aB ?aS ?aL ?_; (case aP => exact k48_mkM _ _ _ (⟨(⟨(qb l0 x20_2).f0.f0, (qb l0 x20_2).f0.f1, (qb l0 x20_2).f0.f2⟩ : S46), (qb l0 x20_2).f1⟩ : S48)); (case aB => exact (by repeat (first | (with_reducible first | exact HB.out | apply qd | apply qa | apply qc | refine qi ?_ GE109.out) | exact HB.out))); (case aF => exact (fun k_ hk => Kd.freshB (g := gb109) (o := .cells #[.string ((qb l0 x20_2).f0.f0), .int .i64 ((qb l0 x20_2).f0.f1), .int .i64 ((qb l0 x20_2).f0.f2), .string ((qb l0 x20_2).f1)] 48 (0, 0)) (by (with_reducible repeat (first | refine qe ?_ _ | refine qj ?_ | refine qf ?_ _)); refine qt (cs := #[.string ((qb l0 x20_2).f0.f0), .int .i64 ((qb l0 x20_2).f0.f1), .int .i64 ((qb l0 x20_2).f0.f2), .string (⟨#[]⟩ : ByteArray)]) ?_ 3 _ rfl; (with_reducible repeat (first | refine qe ?_ _ | refine qj ?_ | refine qf ?_ _)); refine qt (cs := #[.string ((qb l0 x20_2).f0.f0), .int .i64 ((qb l0 x20_2).f0.f1), .int .i64 0, .string (⟨#[]⟩ : ByteArray)]) ?_ 2 _ rfl; (with_reducible repeat (first | refine qe ?_ _ | refine qj ?_ | refine qf ?_ _)); refine qt (cs := #[.string ((qb l0 x20_2).f0.f0), .int .i64 0, .int .i64 0, .string (⟨#[]⟩ : ByteArray)]) ?_ 1 _ rfl; (with_reducible repeat (first | refine qe ?_ _ | refine qj ?_ | refine qf ?_ _)); refine qt (cs := #[.string (⟨#[]⟩ : ByteArray), .int .i64 0, .int .i64 0, .string (⟨#[]⟩ : ByteArray)]) ?_ 0 _ rfl; (with_reducible repeat (first | refine qe ?_ _ | refine qj ?_ | refine qf ?_ _)); exact BK109.out) k_ hk)); (case aO => exact (by (with_reducible repeat (first | apply Kd.R_alloc | apply Kd.R_drewN | apply Kd.R_drew)); exact Kd.R_mono (Kd.R_far (p := ⟨gb109, 3, none⟩) (Kd.R_far (p := ⟨gb109, 2, none⟩) (Kd.R_far (p := ⟨gb109, 1, none⟩) (Kd.R_far (p := ⟨gb109, 0, none⟩) (Kd.R_mono HO_6.out (fun k_ hk => (⟨hk, hk.2⟩ : _ ∧ k_ ≠ gb109))) (fun _ hk => hk.2) (.string ((qb l0 x20_2).f0.f0))) (fun _ hk => hk.2) (.int .i64 ((qb l0 x20_2).f0.f1))) (fun _ hk => hk.2) (.int .i64 ((qb l0 x20_2).f0.f2))) (fun _ hk => hk.2) (.string ((qb l0 x20_2).f1))) (fun _ hk => hk.1.2))); (case aS => exact (qu (by repeat (first | (with_reducible first | exact HB.out | apply qd | apply qa | apply qc | refine qi ?_ GE109.out) | exact HB.out)))); (case aL => have := LMc16.out; omega); intro v111 w39 ho hb hg hat; rw [← Ny110.out] at ho; have n0_ := Qz.mk (Kd.S_after (ok := (fun k_ => k_ ≠ gb109)) (by (with_reducible repeat (first | apply Kd.S_alloc | apply Kd.S_drewN | apply Kd.S_drew)); exact Kd.S_mono (Kd.S_far (p := ⟨gb109, 3, none⟩) (Kd.S_far (p := ⟨gb109, 2, none⟩) (Kd.S_far (p := ⟨gb109, 1, none⟩) (Kd.S_far (p := ⟨gb109, 0, none⟩) (Kd.S_mono HO_5.out (fun k_ hk => (⟨hk, hk.2⟩ : _ ∧ k_ ≠ gb109))) (fun _ hk => hk.2) (.string ((qb l0 x20_2).f0.f0))) (fun _ hk => hk.2) (.int .i64 ((qb l0 x20_2).f0.f1))) (fun _ hk => hk.2) (.int .i64 ((qb l0 x20_2).f0.f2))) (fun _ hk => hk.2) (.string ((qb l0 x20_2).f1))) (fun _ hk => ⟨hk.1.2, hk.1.1⟩)) hg hat); have n1_ := Qz.mk (blk_grown (g := gb109) (o := .cells #[.string ((qb l0 x20_2).f0.f0), .int .i64 ((qb l0 x20_2).f0.f1), .int .i64 ((qb l0 x20_2).f0.f2), .string ((qb l0 x20_2).f1)] 48 (0, 0)) (by (with_reducible repeat (first | refine qe ?_ _ | refine qj ?_ | refine qf ?_ _)); refine qt (cs := #[.string ((qb l0 x20_2).f0.f0), .int .i64 ((qb l0 x20_2).f0.f1), .int .i64 ((qb l0 x20_2).f0.f2), .string (⟨#[]⟩ : ByteArray)]) ?_ 3 _ rfl; (with_reducible repeat (first | refine qe ?_ _ | refine qj ?_ | refine qf ?_ _)); refine qt (cs := #[.string ((qb l0 x20_2).f0.f0), .int .i64 ((qb l0 x20_2).f0.f1), .int .i64 0, .string (⟨#[]⟩ : ByteArray)]) ?_ 2 _ rfl; (with_reducible repeat (first | refine qe ?_ _ | refine qj ?_ | refine qf ?_ _)); refine qt (cs := #[.string ((qb l0 x20_2).f0.f0), .int .i64 0, .int .i64 0, .string (⟨#[]⟩ : ByteArray)]) ?_ 1 _ rfl; (with_reducible repeat (first | refine qe ?_ _ | refine qj ?_ | refine qf ?_ _)); refine qt (cs := #[.string (⟨#[]⟩ : ByteArray), .int .i64 0, .int .i64 0, .string (⟨#[]⟩ : ByteArray)]) ?_ 0 _ rfl; (with_reducible repeat (first | refine qe ?_ _ | refine qj ?_ | refine qf ?_ _)); exact BK109.out) hg (Kd.R_away HO_6.out (fun _ hk => hk.2))); have n2_ := Qz.mk (hb); have n3_ := Qz.mk (ho); clear HO_5; clear BK109; clear HB; clear HO_6; have HO_5 := n0_; have BK109 := n1_; have HB := n2_; have HO112 := n3_; clear n0_ n1_ n2_ n3_; clear ho hb hg hat; obtain ⟨Ao40, co40, eo40⟩ := Kd.R_slice HO112.out; subst eo40; have p119 : 0 ≤ ((ji27) : Int) := of_decide_eq_true (by first | (with_reducible assumption) | assumption); have q119 : (ji27) < (l0.length : Int) := of_decide_eq_true (by first | (with_reducible assumption) | assumption); obtain ⟨ad119, e119, hx119_0, hx119_1, hx119_2, hx119_3⟩ := at_T48 HR0.out (ji27) p119 q119; obtain rfl : ad108 = ad119 := (by injection e119); replace hx119_0 := (HB.out.cell (World.block_lt_of_cell? w _ hx119_0)).trans hx119_0; replace hx119_1 := (HB.out.cell (World.block_lt_of_cell? w _ hx119_1)).trans hx119_1; replace hx119_2 := (HB.out.cell (World.block_lt_of_cell? w _ hx119_2)).trans hx119_2; replace hx119_3 := (HB.out.cell (World.block_lt_of_cell? w _ hx119_3)).trans hx119_3; replace p119 := eq_true p119; replace q119 := eq_true q119; have hcz41_0 : w39.cell? ⟨gb109, 0, none⟩ = some (.string ((qb l0 x20_2).f0.f0)) := (qh BK109.out 0).trans rfl; have hcz41_1 : w39.cell? ⟨gb109, 1, none⟩ = some (.int .i64 ((qb l0 x20_2).f0.f1)) := (qh BK109.out 1).trans rfl; have hcz41_2 : w39.cell? ⟨gb109, 2, none⟩ = some (.int .i64 ((qb l0 x20_2).f0.f2)) := (qh BK109.out 2).trans rfl; have hcz41_3 : w39.cell? ⟨gb109, 3, none⟩ = some (.string ((qb l0 x20_2).f1)) := (qh BK109.out 3).trans rfl; have hfz41_0 := qg BK109.out 0; have hfz41_1 := qg BK109.out 1; have hfz41_2 := qg BK109.out 2; have hfz41_3 := qg BK109.out 3) | ((with_reducible refine qz (b := .append) (xs := #[.tmp 53, .tmp 56]) rfl ?_); (try (refine qw (by rfl) ?_; dsimp only)); at_builtin; refine Kd.S_append k44 (w0 := w) w.heap.size rfl (.tmp 53) (.tmp 56) 25 44 (.agg #[(.slice none 0 0)]) 24 rfl Try.underlying25 info44 rfl (by decide) (by omega) u5 x5_2 (⟨y110⟩ : S44) [.slice Ao40 y110.length co40] (fun k_ => k_ ≠ gb109) (fun k_ => some k_ = (.slice Ao40 y110.length co40 : Value).ownBlock) rfl rfl ?aP (fun k_ hk_ => ((Kd.R_mono (ok' := fun k_ => ((fun k_ => k_ ≠ gb109)) k_ ∧ some k_ ≠ (u5 : Value).ownBlock) (Kd.R_apart' (HO112.out) (Kd.S_typed HO_5.out) (by decide)) (fun k_ hk => ⟨hk.1, hk.2⟩))).1 k_ hk_.symm) ?aF ?aO ?aB ?aS ?aL ?_; (case aP => exact k44_mkM _ _ _ (⟨y110⟩ : S44) (Kd.R_mono (Kd.R_tight rfl (Kd.R_mono (ok' := fun k_ => ((fun k_ => k_ ≠ gb109)) k_ ∧ some k_ ≠ (u5 : Value).ownBlock) (Kd.R_apart' (HO112.out) (Kd.S_typed HO_5.out) (by decide)) (fun k_ hk => ⟨hk.1, hk.2⟩))) (fun _ h_ => h_))); (case aB => exact (by repeat (first | (with_reducible first | exact HB.out | apply qd | apply qa | apply qc | refine qi ?_ GE109.out) | exact HB.out))); (case aF => exact (fun k_ hk => Kd.freshB (g := gb109) (o := .cells #[.string ((qb l0 x20_2).f0.f0), .int .i64 ((qb l0 x20_2).f0.f1), .int .i64 ((qb l0 x20_2).f0.f2), .string ((qb l0 x20_2).f1)] 48 (0, 0)) (by (with_reducible repeat (first | refine qe ?_ _ | refine qj ?_ | refine qf ?_ _)); exact BK109.out) k_ hk)); (case aO => exact (by (with_reducible repeat (first | apply Kd.S_alloc | apply Kd.S_drewN | apply Kd.S_drew)); exact Kd.S_mono HO_5.out (fun k_ hk => ⟨hk.1, fun e_ => hk.2 e_⟩))); (case aS => exact (qu (by repeat (first | (with_reducible first | exact HB.out | apply qd | apply qa | apply qc | refine qi ?_ GE109.out) | exact HB.out)))); (case aL => have := LMc36.out; omega); intro v121 w42 ho hb hg hat; rw [← Ny120.out] at ho; have n0_ := Qz.mk (blk_grown (g := gb109) (o := .cells #[.string ((qb l0 x20_2).f0.f0), .int .i64 ((qb l0 x20_2).f0.f1), .int .i64 ((qb l0 x20_2).f0.f2), .string ((qb l0 x20_2).f1)] 48 (0, 0)) (by (with_reducible repeat (first | refine qe ?_ _ | refine qj ?_ | refine qf ?_ _)); exact BK109.out) hg (Kd.S_ne HO_5.out BK109.out (by decide))); have n1_ := Qz.mk (hb); have n2_ := Qz.mk (ho); clear BK109; clear HB; clear HO_5; clear HO112; have BK109 := n0_; have HB := n1_; have HO122 := n2_; clear n0_ n1_ n2_; clear ho hb hg hat) | ((with_reducible refine qx (N := 58) rfl ?_); (try (refine qw (by rfl) ?_; dsimp only)); refine Kd.R_lit k48 _ 48 ?hg (N := 58) ?hd (xs := ([] : List (S48))) (inner := []) (ok := fun _ => True) (okp := fun _ => True) ?hr ?hp (fun _ hk => hk) trivial (Below.refl _ _) (Nat.le_refl _) (by simp) ?_; (case hd => rfl); (case hg => rfl); (case hr => first | (go_simp; done) | (go_simp; rfl)); (case hp => exact (Reps.none _ _)); intro v124 w43 ho44 hb hg_ hnew_; clear hg_ hnew_; (first | rw [← Ny123.out] at ho44 | (simp only [Int.reduceToNat] at ho44; rw [← Ny123.out] at ho44)); replace HO122 := Qz.mk (Kd.S_elder' (by (with_reducible repeat (first | apply Kd.S_alloc | apply Kd.S_drewN | apply Kd.S_drew)); exact HO122.out) (Kd.R_base ho44) hb); have HO125 := Qz.mk (Kd.R_lower (Kd.R_newB ho44 (g := gb109) (o := .cells #[.string ((qb l0 x20_2).f0.f0), .int .i64 ((qb l0 x20_2).f0.f1), .int .i64 ((qb l0 x20_2).f0.f2), .string ((qb l0 x20_2).f1)] 48 (0, 0)) (by (with_reducible repeat (first | refine qe ?_ _ | refine qj ?_ | refine qf ?_ _)); exact BK109.out)) (qu (by repeat (first | (with_reducible first | exact HB.out | apply qd | apply qa | apply qc | refine qi ?_ GE109.out) | exact HB.out)))); replace BK109 := Qz.mk (blk_below (g := gb109) (o := .cells #[.string ((qb l0 x20_2).f0.f0), .int .i64 ((qb l0 x20_2).f0.f1), .int .i64 ((qb l0 x20_2).f0.f2), .string ((qb l0 x20_2).f1)] 48 (0, 0)) (by (with_reducible repeat (first | refine qe ?_ _ | refine qj ?_ | refine qf ?_ _)); exact BK109.out) hb); replace HB := Qz.mk (qo (by repeat (first | (with_reducible first | exact HB.out | apply qd | apply qa | apply qc | refine qi ?_ GE109.out) | exact HB.out)) hb); clear hb ho44)); try go_wp2_with (first | ((with_reducible refine qx (N := 8) rfl ?_); (try (refine qw (by rfl) ?_; dsimp only)); refine qa1 ?hg (N := 8) ?hd (cs := #[.string (⟨#[]⟩ : ByteArray), .int .i64 0, .int .i64 0, .string (⟨#[]⟩ : ByteArray)]) (t := 48) ?hr ?_; (case hd => rfl); (case hg => rfl); (case hr => first | (go_simp; done) | (go_simp; rfl)); intro gb109 hg w37 hbox hb; replace HO_5 := Qz.mk (Kd.S_below (Kd.S_elderB (by (with_reducible repeat (first | apply Kd.S_alloc | apply Kd.S_drewN | apply Kd.S_drew)); exact HO_5.out) gb109 (Nat.le_of_eq hg.symm)) hb); replace HO_6 := Qz.mk (Kd.R_below (Kd.R_elderB (by (with_reducible repeat (first | apply Kd.R_alloc | apply Kd.R_drewN | apply Kd.R_drew)); exact HO_6.out) gb109 (Nat.le_of_eq hg.symm)) hb); have BK109 := Qz.mk (hbox); have GW109 := Qz.mk ((by rw [hg]; exact (qu (by repeat (first | (with_reducible first | exact HB.out | apply qd | apply qa | apply qc) | exact HB.out))) : w.heap.size ≤ gb109)); have GE109 := GW109; replace HB := Qz.mk (qo (by repeat (first | (with_reducible first | exact HB.out | apply qd | apply qa | apply qc) | exact HB.out)) hb); clear hb hbox hg; have hcz38_0 : w37.cell? ⟨gb109, 0, none⟩ = some (.string (⟨#[]⟩ : ByteArray)) := (qh BK109.out 0).trans rfl; have hcz38_1 : w37.cell? ⟨gb109, 1, none⟩ = some (.int .i64 0) := (qh BK109.out 1).trans rfl; have hcz38_2 : w37.cell? ⟨gb109, 2, none⟩ = some (.int .i64 0) := (qh BK109.out 2).trans rfl; have hcz38_3 : w37.cell? ⟨gb109, 3, none⟩ = some (.string (⟨#[]⟩ : ByteArray)) := (qh BK109.out 3).trans rfl; have hfz38_0 := qg BK109.out 0; have hfz38_1 := qg BK109.out 1; have hfz38_2 := qg BK109.out 2; have hfz38_3 := qg BK109.out 3) | ((with_reducible refine qz (b := .append) (xs := #[.tmp 25, .tmp 27]) rfl ?_); (try (refine qw (by rfl) ?_; dsimp only)); at_builtin; refine Kd.R_append k48 (w0 := w) w.heap.size rfl (.tmp 25) (.tmp 27) 32 48 (.agg #[(.string ⟨#[]⟩), (.int .i64 0), (.int .i64 0), (.string ⟨#[]⟩)]) 48 rfl Try.underlying32 info48 rfl (by decide) (by omega) u6 x6_2 (⟨(⟨(qb l0 x20_2).f0.f0, (qb l0 x20_2).f0.f1, (qb l0 x20_2).f0.f2⟩ : S46), (qb l0 x20_2).f1⟩ : S48) [.string ((qb l0 x20_2).f0.f0), .int .i64 ((qb l0 x20_2).f0.f1), .int .i64 ((qb l0 x20_2).f0.f2), .string ((qb l0 x20_2).f1)] (fun k_ => k_ ≠ gb109) (fun _ => False) rfl (by first | (go_simp; done) | (go_simp; rfl)) ?aP (fun _ hk => hk.elim) ?aF ?aO ?aB ?aS ?aL ?_; (case aP => exact k48_mkM _ _ _ (⟨(⟨(qb l0 x20_2).f0.f0, (qb l0 x20_2).f0.f1, (qb l0 x20_2).f0.f2⟩ : S46), (qb l0 x20_2).f1⟩ : S48)); (case aB => exact (by repeat (first | (with_reducible first | exact HB.out | apply qd | apply qa | apply qc | refine qi ?_ GE109.out) | exact HB.out))); (case aF => exact (fun k_ hk => Kd.freshB (g := gb109) (o := .cells #[.string ((qb l0 x20_2).f0.f0), .int .i64 ((qb l0 x20_2).f0.f1), .int .i64 ((qb l0 x20_2).f0.f2), .string ((qb l0 x20_2).f1)] 48 (0, 0)) (by (with_reducible repeat (first | refine qe ?_ _ | refine qj ?_ | refine qf ?_ _)); refine qt (cs := #[.string ((qb l0 x20_2).f0.f0), .int .i64 ((qb l0 x20_2).f0.f1), .int .i64 ((qb l0 x20_2).f0.f2), .string (⟨#[]⟩ : ByteArray)]) ?_ 3 _ rfl; (with_reducible repeat (first | refine qe ?_ _ | refine qj ?_ | refine qf ?_ _)); refine qt (cs := #[.string ((qb l0 x20_2).f0.f0), .int .i64 ((qb l0 x20_2).f0.f1), .int .i64 0, .string (⟨#[]⟩ : ByteArray)]) ?_ 2 _ rfl; (with_reducible repeat (first | refine qe ?_ _ | refine qj ?_ | refine qf ?_ _)); refine qt (cs := #[.string ((qb l0 x20_2).f0.f0), .int .i64 0, .int .i64 0, .string (⟨#[]⟩ : ByteArray)]) ?_ 1 _ rfl; (with_reducible repeat (first | refine qe ?_ _ | refine qj ?_ | refine qf ?_ _)); refine qt (cs := #[.string (⟨#[]⟩ : ByteArray), .int .i64 0, .int .i64 0, .string (⟨#[]⟩ : ByteArray)]) ?_ 0 _ rfl; (with_reducible repeat (first | refine qe ?_ _ | refine qj ?_ | refine qf ?_ _)); exact BK109.out) k_ hk)); (case aO => exact (by (with_reducible repeat (first | apply Kd.R_alloc | apply Kd.R_drewN | apply Kd.R_drew)); exact Kd.R_mono (Kd.R_far (p := ⟨gb109, 3, none⟩) (Kd.R_far (p := ⟨gb109, 2, none⟩) (Kd.R_far (p := ⟨gb109, 1, none⟩) (Kd.R_far (p := ⟨gb109, 0, none⟩) (Kd.R_mono HO_6.out (fun k_ hk => (⟨hk, hk.2⟩ : _ ∧ k_ ≠ gb109))) (fun _ hk => hk.2) (.string ((qb l0 x20_2).f0.f0))) (fun _ hk => hk.2) (.int .i64 ((qb l0 x20_2).f0.f1))) (fun _ hk => hk.2) (.int .i64 ((qb l0 x20_2).f0.f2))) (fun _ hk => hk.2) (.string ((qb l0 x20_2).f1))) (fun _ hk => hk.1.2))); (case aS => exact (qu (by repeat (first | (with_reducible first | exact HB.out | apply qd | apply qa | apply qc | refine qi ?_ GE109.out) | exact HB.out)))); (case aL => have := LMc16.out; omega); intro v111 w39 ho hb hg hat; rw [← Ny110.out] at ho; have n0_ := Qz.mk (Kd.S_after (ok := (fun k_ => k_ ≠ gb109)) (by (with_reducible repeat (first | apply Kd.S_alloc | apply Kd.S_drewN | apply Kd.S_drew)); exact Kd.S_mono (Kd.S_far (p := ⟨gb109, 3, none⟩) (Kd.S_far (p := ⟨gb109, 2, none⟩) (Kd.S_far (p := ⟨gb109, 1, none⟩) (Kd.S_far (p := ⟨gb109, 0, none⟩) (Kd.S_mono HO_5.out (fun k_ hk => (⟨hk, hk.2⟩ : _ ∧ k_ ≠ gb109))) (fun _ hk => hk.2) (.string ((qb l0 x20_2).f0.f0))) (fun _ hk => hk.2) (.int .i64 ((qb l0 x20_2).f0.f1))) (fun _ hk => hk.2) (.int .i64 ((qb l0 x20_2).f0.f2))) (fun _ hk => hk.2) (.string ((qb l0 x20_2).f1))) (fun _ hk => ⟨hk.1.2, hk.1.1⟩)) hg hat); have n1_ := Qz.mk (blk_grown (g := gb109) (o := .cells #[.string ((qb l0 x20_2).f0.f0), .int .i64 ((qb l0 x20_2).f0.f1), .int .i64 ((qb l0 x20_2).f0.f2), .string ((qb l0 x20_2).f1)] 48 (0, 0)) (by (with_reducible repeat (first | refine qe ?_ _ | refine qj ?_ | refine qf ?_ _)); refine qt (cs := #[.string ((qb l0 x20_2).f0.f0), .int .i64 ((qb l0 x20_2).f0.f1), .int .i64 ((qb l0 x20_2).f0.f2), .string (⟨#[]⟩ : ByteArray)]) ?_ 3 _ rfl; (with_reducible repeat (first | refine qe ?_ _ | refine qj ?_ | refine qf ?_ _)); refine qt (cs := #[.string ((qb l0 x20_2).f0.f0), .int .i64 ((qb l0 x20_2).f0.f1), .int .i64 0, .string (⟨#[]⟩ : ByteArray)]) ?_ 2 _ rfl; (with_reducible repeat (first | refine qe ?_ _ | refine qj ?_ | refine qf ?_ _)); refine qt (cs := #[.string ((qb l0 x20_2).f0.f0), .int .i64 0, .int .i64 0, .string (⟨#[]⟩ : ByteArray)]) ?_ 1 _ rfl; (with_reducible repeat (first | refine qe ?_ _ | refine qj ?_ | refine qf ?_ _)); refine qt (cs := #[.string (⟨#[]⟩ : ByteArray), .int .i64 0, .int .i64 0, .string (⟨#[]⟩ : ByteArray)]) ?_ 0 _ rfl; (with_reducible repeat (first | refine qe ?_ _ | refine qj ?_ | refine qf ?_ _)); exact BK109.out) hg (Kd.R_away HO_6.out (fun _ hk => hk.2))); have n2_ := Qz.mk (hb); have n3_ := Qz.mk (ho); clear HO_5; clear BK109; clear HB; clear HO_6; have HO_5 := n0_; have BK109 := n1_; have HB := n2_; have HO112 := n3_; clear n0_ n1_ n2_ n3_; clear ho hb hg hat; obtain ⟨Ao40, co40, eo40⟩ := Kd.R_slice HO112.out; subst eo40; have p119 : 0 ≤ ((ji27) : Int) := of_decide_eq_true (by first | (with_reducible assumption) | assumption); have q119 : (ji27) < (l0.length : Int) := of_decide_eq_true (by first | (with_reducible assumption) | assumption); obtain ⟨ad119, e119, hx119_0, hx119_1, hx119_2, hx119_3⟩ := at_T48 HR0.out (ji27) p119 q119; obtain rfl : ad108 = ad119 := (by injection e119); replace hx119_0 := (HB.out.cell (World.block_lt_of_cell? w _ hx119_0)).trans hx119_0; replace hx119_1 := (HB.out.cell (World.block_lt_of_cell? w _ hx119_1)).trans hx119_1; replace hx119_2 := (HB.out.cell (World.block_lt_of_cell? w _ hx119_2)).trans hx119_2; replace hx119_3 := (HB.out.cell (World.block_lt_of_cell? w _ hx119_3)).trans hx119_3; replace p119 := eq_true p119; replace q119 := eq_true q119; have hcz41_0 : w39.cell? ⟨gb109, 0, none⟩ = some (.string ((qb l0 x20_2).f0.f0)) := (qh BK109.out 0).trans rfl; have hcz41_1 : w39.cell? ⟨gb109, 1, none⟩ = some (.int .i64 ((qb l0 x20_2).f0.f1)) := (qh BK109.out 1).trans rfl; have hcz41_2 : w39.cell? ⟨gb109, 2, none⟩ = some (.int .i64 ((qb l0 x20_2).f0.f2)) := (qh BK109.out 2).trans rfl; have hcz41_3 : w39.cell? ⟨gb109, 3, none⟩ = some (.string ((qb l0 x20_2).f1)) := (qh BK109.out 3).trans rfl; have hfz41_0 := qg BK109.out 0; have hfz41_1 := qg BK109.out 1; have hfz41_2 := qg BK109.out 2; have hfz41_3 := qg BK109.out 3) | ((with_reducible refine qz (b := .append) (xs := #[.tmp 53, .tmp 56]) rfl ?_); (try (refine qw (by rfl) ?_; dsimp only)); at_builtin; refine Kd.S_append k44 (w0 := w) w.heap.size rfl (.tmp 53) (.tmp 56) 25 44 (.agg #[(.slice none 0 0)]) 24 rfl Try.underlying25 info44 rfl (by decide) (by omega) u5 x5_2 (⟨y110⟩ : S44) [.slice Ao40 y110.length co40] (fun k_ => k_ ≠ gb109) (fun k_ => some k_ = (.slice Ao40 y110.length co40 : Value).ownBlock) rfl rfl ?aP (fun k_ hk_ => ((Kd.R_mono (ok' := fun k_ => ((fun k_ => k_ ≠ gb109)) k_ ∧ some k_ ≠ (u5 : Value).ownBlock) (Kd.R_apart' (HO112.out) (Kd.S_typed HO_5.out) (by decide)) (fun k_ hk => ⟨hk.1, hk.2⟩))).1 k_ hk_.symm) ?aF ?aO ?aB ?aS ?aL ?_; (case aP => exact k44_mkM _ _ _ (⟨y110⟩ : S44) (Kd.R_mono (Kd.R_tight rfl (Kd.R_mono (ok' := fun k_ => ((fun k_ => k_ ≠ gb109)) k_ ∧ some k_ ≠ (u5 : Value).ownBlock) (Kd.R_apart' (HO112.out) (Kd.S_typed HO_5.out) (by decide)) (fun k_ hk => ⟨hk.1, hk.2⟩))) (fun _ h_ => h_))); (case aB => exact (by repeat (first | (with_reducible first | exact HB.out | apply qd | apply qa | apply qc | refine qi ?_ GE109.out) | exact HB.out))); (case aF => exact (fun k_ hk => Kd.freshB (g := gb109) (o := .cells #[.string ((qb l0 x20_2).f0.f0), .int .i64 ((qb l0 x20_2).f0.f1), .int .i64 ((qb l0 x20_2).f0.f2), .string ((qb l0 x20_2).f1)] 48 (0, 0)) (by (with_reducible repeat (first | refine qe ?_ _ | refine qj ?_ | refine qf ?_ _)); exact BK109.out) k_ hk)); (case aO => exact (by (with_reducible repeat (first | apply Kd.S_alloc | apply Kd.S_drewN | apply Kd.S_drew)); exact Kd.S_mono HO_5.out (fun k_ hk => ⟨hk.1, fun e_ => hk.2 e_⟩))); (case aS => exact (qu (by repeat (first | (with_reducible first | exact HB.out | apply qd | apply qa | apply qc | refine qi ?_ GE109.out) | exact HB.out)))); (case aL => have := LMc36.out; omega); intro v121 w42 ho hb hg hat; rw [← Ny120.out] at ho; have n0_ := Qz.mk (blk_grown (g := gb109) (o := .cells #[.string ((qb l0 x20_2).f0.f0), .int .i64 ((qb l0 x20_2).f0.f1), .int .i64 ((qb l0 x20_2).f0.f2), .string ((qb l0 x20_2).f1)] 48 (0, 0)) (by (with_reducible repeat (first | refine qe ?_ _ | refine qj ?_ | refine qf ?_ _)); exact BK109.out) hg (Kd.S_ne HO_5.out BK109.out (by decide))); have n1_ := Qz.mk (hb); have n2_ := Qz.mk (ho); clear BK109; clear HB; clear HO_5; clear HO112; have BK109 := n0_; have HB := n1_; have HO122 := n2_; clear n0_ n1_ n2_; clear ho hb hg hat) | ((with_reducible refine qx (N := 58) rfl ?_); (try (refine qw (by rfl) ?_; dsimp only)); refine Kd.R_lit k48 _ 48 ?hg (N := 58) ?hd (xs := ([] : List (S48))) (inner := []) (ok := fun _ => True) (okp := fun _ => True) ?hr ?hp (fun _ hk => hk) trivial (Below.refl _ _) (Nat.le_refl _) (by simp) ?_; (case hd => rfl); (case hg => rfl); (case hr => first | (go_simp; done) | (go_simp; rfl)); (case hp => exact (Reps.none _ _)); intro v124 w43 ho44 hb hg_ hnew_; clear hg_ hnew_; (first | rw [← Ny123.out] at ho44 | (simp only [Int.reduceToNat] at ho44; rw [← Ny123.out] at ho44)); replace HO122 := Qz.mk (Kd.S_elder' (by (with_reducible repeat (first | apply Kd.S_alloc | apply Kd.S_drewN | apply Kd.S_drew)); exact HO122.out) (Kd.R_base ho44) hb); have HO125 := Qz.mk (Kd.R_lower (Kd.R_newB ho44 (g := gb109) (o := .cells #[.string ((qb l0 x20_2).f0.f0), .int .i64 ((qb l0 x20_2).f0.f1), .int .i64 ((qb l0 x20_2).f0.f2), .string ((qb l0 x20_2).f1)] 48 (0, 0)) (by (with_reducible repeat (first | refine qe ?_ _ | refine qj ?_ | refine qf ?_ _)); exact BK109.out)) (qu (by repeat (first | (with_reducible first | exact HB.out | apply qd | apply qa | apply qc | refine qi ?_ GE109.out) | exact HB.out)))); replace BK109 := Qz.mk (blk_below (g := gb109) (o := .cells #[.string ((qb l0 x20_2).f0.f0), .int .i64 ((qb l0 x20_2).f0.f1), .int .i64 ((qb l0 x20_2).f0.f2), .string ((qb l0 x20_2).f1)] 48 (0, 0)) (by (with_reducible repeat (first | refine qe ?_ _ | refine qj ?_ | refine qf ?_ _)); exact BK109.out) hb); replace HB := Qz.mk (qo (by repeat (first | (with_reducible first | exact HB.out | apply qd | apply qa | apply qc | refine qi ?_ GE109.out) | exact HB.out)) hb); clear hb ho44)))
                go_roundg k2
                case measure => have := HJ2.out; have := HK2.out; omega
                case rel => exact ⟨(y120), (y123), (ji27), (by first | rfl | (simp; done) | (simp only [← hji27] <;> (first | rfl | simp)) | (simp [*]; done)), H', ⟨by have := HJ2.out; have := HK2.out; omega⟩, ⟨by (with_reducible repeat (first | apply Kd.S_alloc | apply Kd.S_drewN | apply Kd.S_drew)); exact Kd.S_mono HO122.out (fun _ hk => hk.2)⟩, ⟨by (with_reducible repeat (first | apply Kd.R_alloc | apply Kd.R_drewN | apply Kd.R_drew)); exact Kd.R_mono HO125.out (fun _ hk => trivial)⟩, ⟨by repeat (first | (with_reducible first | exact HB.out | apply qd | apply qa | apply qc | refine qi ?_ GE109.out) | exact HB.out)⟩⟩
               ·rw [if_neg c36] at H
                exact absurd H (by simp)
             ·rw [if_neg c29] at H
              exact absurd H (by simp)
            ·rw [if_neg c28] at H
             exact absurd H (by simp)
           ·rw [if_neg c26] at H
            have c26b0 : decide (a1 ≤ (y110.length : Int)) = false := decide_eq_false c26
            clear c26
            have H' := Qz.mk H
            clear H
            have p108 : 0 ≤ (x20_2 : Int) := of_decide_eq_true (by first | (with_reducible assumption) | assumption)
            have q108 : x20_2 < (l0.length : Int) := of_decide_eq_true (by first | (with_reducible assumption) | assumption)
            obtain ⟨ad108, e108, hx108_0, hx108_1, hx108_2, hx108_3⟩ := at_T48 HR0.out x20_2 p108 q108
            cases e108
            replace hx108_0 := (HB.out.cell (World.block_lt_of_cell? w _ hx108_0)).trans hx108_0
            replace hx108_1 := (HB.out.cell (World.block_lt_of_cell? w _ hx108_1)).trans hx108_1
            replace hx108_2 := (HB.out.cell (World.block_lt_of_cell? w _ hx108_2)).trans hx108_2
            replace hx108_3 := (HB.out.cell (World.block_lt_of_cell? w _ hx108_3)).trans hx108_3
            replace p108 := eq_true p108
            replace q108 := eq_true q108
            go_wp2_with (first | ((with_reducible refine qx (N := 8) rfl ?_); (try (refine qw (by rfl) ?_; dsimp only)); refine qa1 ?hg (N := 8) ?hd (cs := #[.string (⟨#[]⟩ : ByteArray), .int .i64 0, .int .i64 0, .string (⟨#[]⟩ : ByteArray)]) (t := 48) ?hr ?_; (case hd => rfl); (case hg => rfl); (case hr => first | (go_simp; done) | (go_simp; rfl)); intro gb109 hg w45 hbox hb; replace HO_5 := Qz.mk (Kd.S_below (Kd.S_elderB (by (with_reducible repeat (first | apply Kd.S_alloc | apply Kd.S_drewN | apply Kd.S_drew)); exact HO_5.out) gb109 (Nat.le_of_eq hg.symm)) hb); replace HO_6 := Qz.mk (Kd.R_below (Kd.R_elderB (by (with_reducible repeat (first | apply Kd.R_alloc | apply Kd.R_drewN | apply Kd.R_drew)); exact HO_6.out) gb109 (Nat.le_of_eq hg.symm)) hb); have BK109 := Qz.mk (hbox); have GW109 := Qz.mk ((by rw [hg]; exact (qu (by repeat (first | (with_reducible first | exact HB.out | apply qd | apply qa | apply qc) | exact HB.out))) : w.heap.size ≤ gb109)); have GE109 := GW109; replace HB := Qz.mk (qo (by repeat (first | (with_reducible first | exact HB.out | apply qd | apply qa | apply qc) | exact HB.out)) hb); clear hb hbox hg; have hcz46_0 : w45.cell? ⟨gb109, 0, none⟩ = some (.string (⟨#[]⟩ : ByteArray)) := (qh BK109.out 0).trans rfl; have hcz46_1 : w45.cell? ⟨gb109, 1, none⟩ = some (.int .i64 0) := (qh BK109.out 1).trans rfl; have hcz46_2 : w45.cell? ⟨gb109, 2, none⟩ = some (.int .i64 0) := (qh BK109.out 2).trans rfl; have hcz46_3 : w45.cell? ⟨gb109, 3, none⟩ = some (.string (⟨#[]⟩ : ByteArray)) := (qh BK109.out 3).trans rfl; have hfz46_0 := qg BK109.out 0; have hfz46_1 := qg BK109.out 1; have hfz46_2 := qg BK109.out 2; have hfz46_3 := qg BK109.out 3) | ((with_reducible refine qz (b := .append) (xs := #[.tmp 25, .tmp 27]) rfl ?_); (try (refine qw (by rfl) ?_; dsimp only)); at_builtin; refine Kd.R_append k48 (w0 := w) w.heap.size rfl (.tmp 25) (.tmp 27) 32 48 (.agg #[(.string ⟨#[]⟩), (.int .i64 0), (.int .i64 0), (.string ⟨#[]⟩)]) 48 rfl Try.underlying32 info48 rfl (by decide) (by omega) u6 x6_2 (⟨(⟨(qb l0 x20_2).f0.f0, (qb l0 x20_2).f0.f1, (qb l0 x20_2).f0.f2⟩ : S46), (qb l0 x20_2).f1⟩ : S48) [.string ((qb l0 x20_2).f0.f0), .int .i64 ((qb l0 x20_2).f0.f1), .int .i64 ((qb l0 x20_2).f0.f2), .string ((qb l0 x20_2).f1)] (fun k_ => k_ ≠ gb109) (fun _ => False) rfl (by first | (go_simp; done) | (go_simp; rfl)) ?aP (fun _ hk => hk.elim) ?aF ?aO ?aB ?aS ?aL ?_; (case aP => exact k48_mkM _ _ _ (⟨(⟨(qb l0 x20_2).f0.f0, (qb l0 x20_2).f0.f1, (qb l0 x20_2).f0.f2⟩ : S46), (qb l0 x20_2).f1⟩ : S48)); (case aB => exact (by repeat (first | (with_reducible first | exact HB.out | apply qd | apply qa | apply qc | refine qi ?_ GE109.out) | exact HB.out))); (case aF => exact (fun k_ hk => Kd.freshB (g := gb109) (o := .cells #[.string ((qb l0 x20_2).f0.f0), .int .i64 ((qb l0 x20_2).f0.f1), .int .i64 ((qb l0 x20_2).f0.f2), .string ((qb l0 x20_2).f1)] 48 (0, 0)) (by (with_reducible repeat (first | refine qe ?_ _ | refine qj ?_ | refine qf ?_ _)); refine qt (cs := #[.string ((qb l0 x20_2).f0.f0), .int .i64 ((qb l0 x20_2).f0.f1), .int .i64 ((qb l0 x20_2).f0.f2), .string (⟨#[]⟩ : ByteArray)]) ?_ 3 _ rfl; (with_reducible repeat (first | refine qe ?_ _ | refine qj ?_ | refine qf ?_ _)); refine qt (cs := #[.string ((qb l0 x20_2).f0.f0), .int .i64 ((qb l0 x20_2).f0.f1), .int .i64 0, .string (⟨#[]⟩ : ByteArray)]) ?_ 2 _ rfl; (with_reducible repeat (first | refine qe ?_ _ | refine qj ?_ | refine qf ?_ _)); refine qt (cs := #[.string ((qb l0 x20_2).f0.f0), .int .i64 0, .int .i64 0, .string (⟨#[]⟩ : ByteArray)]) ?_ 1 _ rfl; (with_reducible repeat (first | refine qe ?_ _ | refine qj ?_ | refine qf ?_ _)); refine qt (cs := #[.string (⟨#[]⟩ : ByteArray), .int .i64 0, .int .i64 0, .string (⟨#[]⟩ : ByteArray)]) ?_ 0 _ rfl; (with_reducible repeat (first | refine qe ?_ _ | refine qj ?_ | refine qf ?_ _)); exact BK109.out) k_ hk)); (case aO => exact (by (with_reducible repeat (first | apply Kd.R_alloc | apply Kd.R_drewN | apply Kd.R_drew)); exact Kd.R_mono (Kd.R_far (p := ⟨gb109, 3, none⟩) (Kd.R_far (p := ⟨gb109, 2, none⟩) (Kd.R_far (p := ⟨gb109, 1, none⟩) (Kd.R_far (p := ⟨gb109, 0, none⟩) (Kd.R_mono HO_6.out (fun k_ hk => (⟨hk, hk.2⟩ : _ ∧ k_ ≠ gb109))) (fun _ hk => hk.2) (.string ((qb l0 x20_2).f0.f0))) (fun _ hk => hk.2) (.int .i64 ((qb l0 x20_2).f0.f1))) (fun _ hk => hk.2) (.int .i64 ((qb l0 x20_2).f0.f2))) (fun _ hk => hk.2) (.string ((qb l0 x20_2).f1))) (fun _ hk => hk.1.2))); (case aS => exact (qu (by repeat (first | (with_reducible first | exact HB.out | apply qd | apply qa | apply qc | refine qi ?_ GE109.out) | exact HB.out)))); (case aL => have := LMc16.out; omega); intro v111 w47 ho hb hg hat; rw [← Ny110.out] at ho; have n0_ := Qz.mk (Kd.S_after (ok := (fun k_ => k_ ≠ gb109)) (by (with_reducible repeat (first | apply Kd.S_alloc | apply Kd.S_drewN | apply Kd.S_drew)); exact Kd.S_mono (Kd.S_far (p := ⟨gb109, 3, none⟩) (Kd.S_far (p := ⟨gb109, 2, none⟩) (Kd.S_far (p := ⟨gb109, 1, none⟩) (Kd.S_far (p := ⟨gb109, 0, none⟩) (Kd.S_mono HO_5.out (fun k_ hk => (⟨hk, hk.2⟩ : _ ∧ k_ ≠ gb109))) (fun _ hk => hk.2) (.string ((qb l0 x20_2).f0.f0))) (fun _ hk => hk.2) (.int .i64 ((qb l0 x20_2).f0.f1))) (fun _ hk => hk.2) (.int .i64 ((qb l0 x20_2).f0.f2))) (fun _ hk => hk.2) (.string ((qb l0 x20_2).f1))) (fun _ hk => ⟨hk.1.2, hk.1.1⟩)) hg hat); have n1_ := Qz.mk (blk_grown (g := gb109) (o := .cells #[.string ((qb l0 x20_2).f0.f0), .int .i64 ((qb l0 x20_2).f0.f1), .int .i64 ((qb l0 x20_2).f0.f2), .string ((qb l0 x20_2).f1)] 48 (0, 0)) (by (with_reducible repeat (first | refine qe ?_ _ | refine qj ?_ | refine qf ?_ _)); refine qt (cs := #[.string ((qb l0 x20_2).f0.f0), .int .i64 ((qb l0 x20_2).f0.f1), .int .i64 ((qb l0 x20_2).f0.f2), .string (⟨#[]⟩ : ByteArray)]) ?_ 3 _ rfl; (with_reducible repeat (first | refine qe ?_ _ | refine qj ?_ | refine qf ?_ _)); refine qt (cs := #[.string ((qb l0 x20_2).f0.f0), .int .i64 ((qb l0 x20_2).f0.f1), .int .i64 0, .string (⟨#[]⟩ : ByteArray)]) ?_ 2 _ rfl; (with_reducible repeat (first | refine qe ?_ _ | refine qj ?_ | refine qf ?_ _)); refine qt (cs := #[.string ((qb l0 x20_2).f0.f0), .int .i64 0, .int .i64 0, .string (⟨#[]⟩ : ByteArray)]) ?_ 1 _ rfl; (with_reducible repeat (first | refine qe ?_ _ | refine qj ?_ | refine qf ?_ _)); refine qt (cs := #[.string (⟨#[]⟩ : ByteArray), .int .i64 0, .int .i64 0, .string (⟨#[]⟩ : ByteArray)]) ?_ 0 _ rfl; (with_reducible repeat (first | refine qe ?_ _ | refine qj ?_ | refine qf ?_ _)); exact BK109.out) hg (Kd.R_away HO_6.out (fun _ hk => hk.2))); have n2_ := Qz.mk (hb); have n3_ := Qz.mk (ho); clear HO_5; clear BK109; clear HB; clear HO_6; have HO_5 := n0_; have BK109 := n1_; have HB := n2_; have HO112 := n3_; clear n0_ n1_ n2_ n3_; clear ho hb hg hat; obtain ⟨Ao48, co48, eo48⟩ := Kd.R_slice HO112.out; subst eo48))
            repeat (go_quiet (first | ((with_reducible refine qx (N := 8) rfl ?_); (try (refine qw (by rfl) ?_; dsimp only)); refine qa1 ?hg (N := 8) ?hd (cs := #[.string (⟨#[]⟩ : ByteArray), .int .i64 0, .int .i64 0, .string (⟨#[]⟩ : ByteArray)]) (t := 48) ?hr ?_; (case hd => rfl); (case hg => rfl); (case hr => first | (go_simp; done) | (go_simp; rfl)); intro gb109 hg w45 hbox hb; replace HO_5 := Qz.mk (Kd.S_below (Kd.S_elderB (by (with_reducible repeat (first | apply Kd.S_alloc | apply Kd.S_drewN | apply Kd.S_drew)); exact HO_5.out) gb109 (Nat.le_of_eq hg.symm)) hb); replace HO_6 := Qz.mk (Kd.R_below (Kd.R_elderB (by (with_reducible repeat (first | apply Kd.R_alloc | apply Kd.R_drewN | apply Kd.R_drew)); exact HO_6.out) gb109 (Nat.le_of_eq hg.symm)) hb); have BK109 := Qz.mk (hbox); have GW109 := Qz.mk ((by rw [hg]; exact (qu (by repeat (first | (with_reducible first | exact HB.out | apply qd | apply qa | apply qc) | exact HB.out))) : w.heap.size ≤ gb109)); have GE109 := GW109; replace HB := Qz.mk (qo (by repeat (first | (with_reducible first | exact HB.out | apply qd | apply qa | apply qc) | exact HB.out)) hb); clear hb hbox hg; have hcz46_0 : w45.cell? ⟨gb109, 0, none⟩ = some (.string (⟨#[]⟩ : ByteArray)) := (qh BK109.out 0).trans rfl; have hcz46_1 : w45.cell? ⟨gb109, 1, none⟩ = some (.int .i64 0) := (qh BK109.out 1).trans rfl; have hcz46_2 : w45.cell? ⟨gb109, 2, none⟩ = some (.int .i64 0) := (qh BK109.out 2).trans rfl; have hcz46_3 : w45.cell? ⟨gb109, 3, none⟩ = some (.string (⟨#[]⟩ : ByteArray)) := (qh BK109.out 3).trans rfl; have hfz46_0 := qg BK109.out 0; have hfz46_1 := qg BK109.out 1; have hfz46_2 := qg BK109.out 2; have hfz46_3 := qg BK109.out 3) | ((with_reducible refine qz (b := .append) (xs := #[.tmp 25, .tmp 27]) rfl ?_); (try (refine qw (by rfl) ?_; dsimp only)); at_builtin; refine Kd.R_append k48 (w0 := w) w.heap.size rfl (.tmp 25) (.tmp 27) 32 48 (.agg #[(.string ⟨#[]⟩), (.int .i64 0), (.int .i64 0), (.string ⟨#[]⟩)]) 48 rfl Try.underlying32 info48 rfl (by decide) (by omega) u6 x6_2 (⟨(⟨(qb l0 x20_2).f0.f0, (qb l0 x20_2).f0.f1, (qb l0 x20_2).f0.f2⟩ : S46), (qb l0 x20_2).f1⟩ : S48) [.string ((qb l0 x20_2).f0.f0), .int .i64 ((qb l0 x20_2).f0.f1), .int .i64 ((qb l0 x20_2).f0.f2), .string ((qb l0 x20_2).f1)] (fun k_ => k_ ≠ gb109) (fun _ => False) rfl (by first | (go_simp; done) | (go_simp; rfl)) ?aP (fun _ hk => hk.elim) ?aF ?aO ?aB ?aS ?aL ?_; (case aP => exact k48_mkM _ _ _ (⟨(⟨(qb l0 x20_2).f0.f0, (qb l0 x20_2).f0.f1, (qb l0 x20_2).f0.f2⟩ : S46), (qb l0 x20_2).f1⟩ : S48)); (case aB => exact (by repeat (first | (with_reducible first | exact HB.out | apply qd | apply qa | apply qc | refine qi ?_ GE109.out) | exact HB.out))); (case aF => exact (fun k_ hk => Kd.freshB (g := gb109) (o := .cells #[.string ((qb l0 x20_2).f0.f0), .int .i64 ((qb l0 x20_2).f0.f1), .int .i64 ((qb l0 x20_2).f0.f2), .string ((qb l0 x20_2).f1)] 48 (0, 0)) (by (with_reducible repeat (first | refine qe ?_ _ | refine qj ?_ | refine qf ?_ _)); refine qt (cs := #[.string ((qb l0 x20_2).f0.f0), .int .i64 ((qb l0 x20_2).f0.f1), .int .i64 ((qb l0 x20_2).f0.f2), .string (⟨#[]⟩ : ByteArray)]) ?_ 3 _ rfl; (with_reducible repeat (first | refine qe ?_ _ | refine qj ?_ | refine qf ?_ _)); refine qt (cs := #[.string ((qb l0 x20_2).f0.f0), .int .i64 ((qb l0 x20_2).f0.f1), .int .i64 0, .string (⟨#[]⟩ : ByteArray)]) ?_ 2 _ rfl; (with_reducible repeat (first | refine qe ?_ _ | refine qj ?_ | refine qf ?_ _)); refine qt (cs := #[.string ((qb l0 x20_2).f0.f0), .int .i64 0, .int .i64 0, .string (⟨#[]⟩ : ByteArray)]) ?_ 1 _ rfl; (with_reducible repeat (first | refine qe ?_ _ | refine qj ?_ | refine qf ?_ _)); refine qt (cs := #[.string (⟨#[]⟩ : ByteArray), .int .i64 0, .int .i64 0, .string (⟨#[]⟩ : ByteArray)]) ?_ 0 _ rfl; (with_reducible repeat (first | refine qe ?_ _ | refine qj ?_ | refine qf ?_ _)); exact BK109.out) k_ hk)); (case aO => exact (by (with_reducible repeat (first | apply Kd.R_alloc | apply Kd.R_drewN | apply Kd.R_drew)); exact Kd.R_mono (Kd.R_far (p := ⟨gb109, 3, none⟩) (Kd.R_far (p := ⟨gb109, 2, none⟩) (Kd.R_far (p := ⟨gb109, 1, none⟩) (Kd.R_far (p := ⟨gb109, 0, none⟩) (Kd.R_mono HO_6.out (fun k_ hk => (⟨hk, hk.2⟩ : _ ∧ k_ ≠ gb109))) (fun _ hk => hk.2) (.string ((qb l0 x20_2).f0.f0))) (fun _ hk => hk.2) (.int .i64 ((qb l0 x20_2).f0.f1))) (fun _ hk => hk.2) (.int .i64 ((qb l0 x20_2).f0.f2))) (fun _ hk => hk.2) (.string ((qb l0 x20_2).f1))) (fun _ hk => hk.1.2))); (case aS => exact (qu (by repeat (first | (with_reducible first | exact HB.out | apply qd | apply qa | apply qc | refine qi ?_ GE109.out) | exact HB.out)))); (case aL => have := LMc16.out; omega); intro v111 w47 ho hb hg hat; rw [← Ny110.out] at ho; have n0_ := Qz.mk (Kd.S_after (ok := (fun k_ => k_ ≠ gb109)) (by (with_reducible repeat (first | apply Kd.S_alloc | apply Kd.S_drewN | apply Kd.S_drew)); exact Kd.S_mono (Kd.S_far (p := ⟨gb109, 3, none⟩) (Kd.S_far (p := ⟨gb109, 2, none⟩) (Kd.S_far (p := ⟨gb109, 1, none⟩) (Kd.S_far (p := ⟨gb109, 0, none⟩) (Kd.S_mono HO_5.out (fun k_ hk => (⟨hk, hk.2⟩ : _ ∧ k_ ≠ gb109))) (fun _ hk => hk.2) (.string ((qb l0 x20_2).f0.f0))) (fun _ hk => hk.2) (.int .i64 ((qb l0 x20_2).f0.f1))) (fun _ hk => hk.2) (.int .i64 ((qb l0 x20_2).f0.f2))) (fun _ hk => hk.2) (.string ((qb l0 x20_2).f1))) (fun _ hk => ⟨hk.1.2, hk.1.1⟩)) hg hat); have n1_ := Qz.mk (blk_grown (g := gb109) (o := .cells #[.string ((qb l0 x20_2).f0.f0), .int .i64 ((qb l0 x20_2).f0.f1), .int .i64 ((qb l0 x20_2).f0.f2), .string ((qb l0 x20_2).f1)] 48 (0, 0)) (by (with_reducible repeat (first | refine qe ?_ _ | refine qj ?_ | refine qf ?_ _)); refine qt (cs := #[.string ((qb l0 x20_2).f0.f0), .int .i64 ((qb l0 x20_2).f0.f1), .int .i64 ((qb l0 x20_2).f0.f2), .string (⟨#[]⟩ : ByteArray)]) ?_ 3 _ rfl; (with_reducible repeat (first | refine qe ?_ _ | refine qj ?_ | refine qf ?_ _)); refine qt (cs := #[.string ((qb l0 x20_2).f0.f0), .int .i64 ((qb l0 x20_2).f0.f1), .int .i64 0, .string (⟨#[]⟩ : ByteArray)]) ?_ 2 _ rfl; (with_reducible repeat (first | refine qe ?_ _ | refine qj ?_ | refine qf ?_ _)); refine qt (cs := #[.string ((qb l0 x20_2).f0.f0), .int .i64 0, .int .i64 0, .string (⟨#[]⟩ : ByteArray)]) ?_ 1 _ rfl; (with_reducible repeat (first | refine qe ?_ _ | refine qj ?_ | refine qf ?_ _)); refine qt (cs := #[.string (⟨#[]⟩ : ByteArray), .int .i64 0, .int .i64 0, .string (⟨#[]⟩ : ByteArray)]) ?_ 0 _ rfl; (with_reducible repeat (first | refine qe ?_ _ | refine qj ?_ | refine qf ?_ _)); exact BK109.out) hg (Kd.R_away HO_6.out (fun _ hk => hk.2))); have n2_ := Qz.mk (hb); have n3_ := Qz.mk (ho); clear HO_5; clear BK109; clear HB; clear HO_6; have HO_5 := n0_; have BK109 := n1_; have HB := n2_; have HO112 := n3_; clear n0_ n1_ n2_ n3_; clear ho hb hg hat; obtain ⟨Ao48, co48, eo48⟩ := Kd.R_slice HO112.out; subst eo48)); try go_wp2_with (first | ((with_reducible refine qx (N := 8) rfl ?_); (try (refine qw (by rfl) ?_; dsimp only)); refine qa1 ?hg (N := 8) ?hd (cs := #[.string (⟨#[]⟩ : ByteArray), .int .i64 0, .int .i64 0, .string (⟨#[]⟩ : ByteArray)]) (t := 48) ?hr ?_; (case hd => rfl); (case hg => rfl); (case hr => first | (go_simp; done) | (go_simp; rfl)); intro gb109 hg w45 hbox hb; replace HO_5 := Qz.mk (Kd.S_below (Kd.S_elderB (by (with_reducible repeat (first | apply Kd.S_alloc | apply Kd.S_drewN | apply Kd.S_drew)); exact HO_5.out) gb109 (Nat.le_of_eq hg.symm)) hb); replace HO_6 := Qz.mk (Kd.R_below (Kd.R_elderB (by (with_reducible repeat (first | apply Kd.R_alloc | apply Kd.R_drewN | apply Kd.R_drew)); exact HO_6.out) gb109 (Nat.le_of_eq hg.symm)) hb); have BK109 := Qz.mk (hbox); have GW109 := Qz.mk ((by rw [hg]; exact (qu (by repeat (first | (with_reducible first | exact HB.out | apply qd | apply qa | apply qc) | exact HB.out))) : w.heap.size ≤ gb109)); have GE109 := GW109; replace HB := Qz.mk (qo (by repeat (first | (with_reducible first | exact HB.out | apply qd | apply qa | apply qc) | exact HB.out)) hb); clear hb hbox hg; have hcz46_0 : w45.cell? ⟨gb109, 0, none⟩ = some (.string (⟨#[]⟩ : ByteArray)) := (qh BK109.out 0).trans rfl; have hcz46_1 : w45.cell? ⟨gb109, 1, none⟩ = some (.int .i64 0) := (qh BK109.out 1).trans rfl; have hcz46_2 : w45.cell? ⟨gb109, 2, none⟩ = some (.int .i64 0) := (qh BK109.out 2).trans rfl; have hcz46_3 : w45.cell? ⟨gb109, 3, none⟩ = some (.string (⟨#[]⟩ : ByteArray)) := (qh BK109.out 3).trans rfl; have hfz46_0 := qg BK109.out 0; have hfz46_1 := qg BK109.out 1; have hfz46_2 := qg BK109.out 2; have hfz46_3 := qg BK109.out 3) | ((with_reducible refine qz (b := .append) (xs := #[.tmp 25, .tmp 27]) rfl ?_); (try (refine qw (by rfl) ?_; dsimp only)); at_builtin; refine Kd.R_append k48 (w0 := w) w.heap.size rfl (.tmp 25) (.tmp 27) 32 48 (.agg #[(.string ⟨#[]⟩), (.int .i64 0), (.int .i64 0), (.string ⟨#[]⟩)]) 48 rfl Try.underlying32 info48 rfl (by decide) (by omega) u6 x6_2 (⟨(⟨(qb l0 x20_2).f0.f0, (qb l0 x20_2).f0.f1, (qb l0 x20_2).f0.f2⟩ : S46), (qb l0 x20_2).f1⟩ : S48) [.string ((qb l0 x20_2).f0.f0), .int .i64 ((qb l0 x20_2).f0.f1), .int .i64 ((qb l0 x20_2).f0.f2), .string ((qb l0 x20_2).f1)] (fun k_ => k_ ≠ gb109) (fun _ => False) rfl (by first | (go_simp; done) | (go_simp; rfl)) ?aP (fun _ hk => hk.elim) ?aF ?aO ?aB ?aS ?aL ?_; (case aP => exact k48_mkM _ _ _ (⟨(⟨(qb l0 x20_2).f0.f0, (qb l0 x20_2).f0.f1, (qb l0 x20_2).f0.f2⟩ : S46), (qb l0 x20_2).f1⟩ : S48)); (case aB => exact (by repeat (first | (with_reducible first | exact HB.out | apply qd | apply qa | apply qc | refine qi ?_ GE109.out) | exact HB.out))); (case aF => exact (fun k_ hk => Kd.freshB (g := gb109) (o := .cells #[.string ((qb l0 x20_2).f0.f0), .int .i64 ((qb l0 x20_2).f0.f1), .int .i64 ((qb l0 x20_2).f0.f2), .string ((qb l0 x20_2).f1)] 48 (0, 0)) (by (with_reducible repeat (first | refine qe ?_ _ | refine qj ?_ | refine qf ?_ _)); refine qt (cs := #[.string ((qb l0 x20_2).f0.f0), .int .i64 ((qb l0 x20_2).f0.f1), .int .i64 ((qb l0 x20_2).f0.f2), .string (⟨#[]⟩ : ByteArray)]) ?_ 3 _ rfl; (with_reducible repeat (first | refine qe ?_ _ | refine qj ?_ | refine qf ?_ _)); refine qt (cs := #[.string ((qb l0 x20_2).f0.f0), .int .i64 ((qb l0 x20_2).f0.f1), .int .i64 0, .string (⟨#[]⟩ : ByteArray)]) ?_ 2 _ rfl; (with_reducible repeat (first | refine qe ?_ _ | refine qj ?_ | refine qf ?_ _)); refine qt (cs := #[.string ((qb l0 x20_2).f0.f0), .int .i64 0, .int .i64 0, .string (⟨#[]⟩ : ByteArray)]) ?_ 1 _ rfl; (with_reducible repeat (first | refine qe ?_ _ | refine qj ?_ | refine qf ?_ _)); refine qt (cs := #[.string (⟨#[]⟩ : ByteArray), .int .i64 0, .int .i64 0, .string (⟨#[]⟩ : ByteArray)]) ?_ 0 _ rfl; (with_reducible repeat (first | refine qe ?_ _ | refine qj ?_ | refine qf ?_ _)); exact BK109.out) k_ hk)); (case aO => exact (by (with_reducible repeat (first | apply Kd.R_alloc | apply Kd.R_drewN | apply Kd.R_drew)); exact Kd.R_mono (Kd.R_far (p := ⟨gb109, 3, none⟩) (Kd.R_far (p := ⟨gb109, 2, none⟩) (Kd.R_far (p := ⟨gb109, 1, none⟩) (Kd.R_far (p := ⟨gb109, 0, none⟩) (Kd.R_mono HO_6.out (fun k_ hk => (⟨hk, hk.2⟩ : _ ∧ k_ ≠ gb109))) (fun _ hk => hk.2) (.string ((qb l0 x20_2).f0.f0))) (fun _ hk => hk.2) (.int .i64 ((qb l0 x20_2).f0.f1))) (fun _ hk => hk.2) (.int .i64 ((qb l0 x20_2).f0.f2))) (fun _ hk => hk.2) (.string ((qb l0 x20_2).f1))) (fun _ hk => hk.1.2))); (case aS => exact (qu (by repeat (first | (with_reducible first | exact HB.out | apply qd | apply qa | apply qc | refine qi ?_ GE109.out) | exact HB.out)))); (case aL => have := LMc16.out; omega); intro v111 w47 ho hb hg hat; rw [← Ny110.out] at ho; have n0_ := Qz.mk (Kd.S_after (ok := (fun k_ => k_ ≠ gb109)) (by (with_reducible repeat (first | apply Kd.S_alloc | apply Kd.S_drewN | apply Kd.S_drew)); exact Kd.S_mono (Kd.S_far (p := ⟨gb109, 3, none⟩) (Kd.S_far (p := ⟨gb109, 2, none⟩) (Kd.S_far (p := ⟨gb109, 1, none⟩) (Kd.S_far (p := ⟨gb109, 0, none⟩) (Kd.S_mono HO_5.out (fun k_ hk => (⟨hk, hk.2⟩ : _ ∧ k_ ≠ gb109))) (fun _ hk => hk.2) (.string ((qb l0 x20_2).f0.f0))) (fun _ hk => hk.2) (.int .i64 ((qb l0 x20_2).f0.f1))) (fun _ hk => hk.2) (.int .i64 ((qb l0 x20_2).f0.f2))) (fun _ hk => hk.2) (.string ((qb l0 x20_2).f1))) (fun _ hk => ⟨hk.1.2, hk.1.1⟩)) hg hat); have n1_ := Qz.mk (blk_grown (g := gb109) (o := .cells #[.string ((qb l0 x20_2).f0.f0), .int .i64 ((qb l0 x20_2).f0.f1), .int .i64 ((qb l0 x20_2).f0.f2), .string ((qb l0 x20_2).f1)] 48 (0, 0)) (by (with_reducible repeat (first | refine qe ?_ _ | refine qj ?_ | refine qf ?_ _)); refine qt (cs := #[.string ((qb l0 x20_2).f0.f0), .int .i64 ((qb l0 x20_2).f0.f1), .int .i64 ((qb l0 x20_2).f0.f2), .string (⟨#[]⟩ : ByteArray)]) ?_ 3 _ rfl; (with_reducible repeat (first | refine qe ?_ _ | refine qj ?_ | refine qf ?_ _)); refine qt (cs := #[.string ((qb l0 x20_2).f0.f0), .int .i64 ((qb l0 x20_2).f0.f1), .int .i64 0, .string (⟨#[]⟩ : ByteArray)]) ?_ 2 _ rfl; (with_reducible repeat (first | refine qe ?_ _ | refine qj ?_ | refine qf ?_ _)); refine qt (cs := #[.string ((qb l0 x20_2).f0.f0), .int .i64 0, .int .i64 0, .string (⟨#[]⟩ : ByteArray)]) ?_ 1 _ rfl; (with_reducible repeat (first | refine qe ?_ _ | refine qj ?_ | refine qf ?_ _)); refine qt (cs := #[.string (⟨#[]⟩ : ByteArray), .int .i64 0, .int .i64 0, .string (⟨#[]⟩ : ByteArray)]) ?_ 0 _ rfl; (with_reducible repeat (first | refine qe ?_ _ | refine qj ?_ | refine qf ?_ _)); exact BK109.out) hg (Kd.R_away HO_6.out (fun _ hk => hk.2))); have n2_ := Qz.mk (hb); have n3_ := Qz.mk (ho); clear HO_5; clear BK109; clear HB; clear HO_6; have HO_5 := n0_; have BK109 := n1_; have HB := n2_; have HO112 := n3_; clear n0_ n1_ n2_ n3_; clear ho hb hg hat; obtain ⟨Ao48, co48, eo48⟩ := Kd.R_slice HO112.out; subst eo48)))
            go_roundg k2
            case measure => have := HJ2.out; have := HK2.out; omega
            case rel => exact ⟨(x5_2), (y110), (wrap64 (x20_2 + 1)), (by first | rfl | (simp; done) | (simp [*]; done)), H', ⟨by have := HJ2.out; have := HK2.out; omega⟩, ⟨by (with_reducible repeat (first | apply Kd.S_alloc | apply Kd.S_drewN | apply Kd.S_drew)); exact Kd.S_mono HO_5.out (fun _ hk => hk.2)⟩, ⟨by (with_reducible repeat (first | apply Kd.R_alloc | apply Kd.R_drewN | apply Kd.R_drew)); exact Kd.R_mono HO112.out (fun _ hk => trivial)⟩, ⟨by repeat (first | (with_reducible first | exact HB.out | apply qd | apply qa | apply qc | refine qi ?_ GE109.out) | exact HB.out)⟩⟩
         ·rw [if_neg c16] at H
          exact absurd H (by simp)
        ·rw [if_neg c15] at H
         exact absurd H (by simp)
       ·rw [if_neg c14] at H
        exact absurd H (by simp)
      ·rw [if_neg c13] at H
       have c13b0 : decide (x20_2 < (l0.length : Int)) = false := decide_eq_false c13
       clear c13
       obtain rfl := Option.some.inj H
       go_wp2
       repeat (go_quiet (fail); try go_wp2)
       go_ret
       exact ⟨_, by first | rfl | (simp [qq, qp] <;> rfl) | (simp [*, qq, qp] <;> rfl), by (with_reducible repeat (first | apply Kd.S_alloc | apply Kd.S_drewN | apply Kd.S_drew)); exact Kd.S_mono HO_5.out (fun _ hk => trivial), by repeat (first | (with_reducible first | exact HB.out | apply qd | apply qa | apply qc) | exact HB.out)⟩
def laws_big.f (l0 : List Int) : Option (Bool) := some (decide ((l0.length : Int) > 1048576))
set_option maxHeartbeats 8000000 in
set_option maxRecDepth 100000 in
theorem laws_big.calls (A0 : Option Addr) (c0 : Nat) (l0 : List Int) (r : Bool) (w : World) (hr0 : Kd.C (Kd.int .u8) w A0 l0.length l0) (hc0 : l0.length ≤ c0) (h : laws_big.f l0 = some r) :
  Calls Try.prog 28 #[.slice A0 l0.length c0] w fun e w' => e = .returned (.bool r) ∧ Drawn0 w w' := by
 have HR0 := Qz.mk hr0
 have HC0 := Qz.mk hc0
 clear hr0 hc0
 have H : (some (decide ((l0.length : Int) > 1048576))) = some r := h
 clear h
 obtain rfl := Option.some.inj H
 go_enter Try.func28, Try.ntmps28
 go_wp2
 go_ret
 exact ⟨by first | rfl | (simp; done) | (simp [*]; done), by repeat (first | exact Drawn0.refl _ | apply Drawn0.step)⟩
def IsS116 (w0 W : World) (g : Nat) (f0 : List Int) (f1 : Int) : Prop := ∃ A0 c0, W.heap[g]? = some (.cells #[.slice A0 f0.length c0, .int .i64 f1] 116 (0, 0)) ∧ w0.heap.size ≤ g ∧ Kd.C (Kd.int .u8) w0 A0 f0.length f0
theorem IsS116.grown {w0 W : World} {g : Nat} {f0 : List Int} {f1 : Int} {W1 : World} {row : Option Nat} (h : IsS116 w0 W g f0 f1) (hw : W.grownBy W1 row) (hne : some g ≠ row) : IsS116 w0 W1 g f0 f1 := by
 obtain ⟨A0, c0, hb, hg, hr0⟩ := h
 exact ⟨A0, c0, blk_grown hb hw hne, hg, hr0⟩
theorem IsS116.kept {w0 W : World} {g : Nat} {f0 : List Int} {f1 : Int} {W1 : World} {S : Nat → Prop} (h : IsS116 w0 W g f0 f1) (hk : Kept W W1 S) (hne : ¬ S g) : IsS116 w0 W1 g f0 f1 := by
 obtain ⟨A0, c0, hb, hg, hr0⟩ := h
 exact ⟨A0, c0, blk_kept hb hk hne, hg, hr0⟩
theorem IsS116.below {w0 W : World} {g : Nat} {f0 : List Int} {f1 : Int} {W1 : World} (h : IsS116 w0 W g f0 f1) (hw : Below W.heap.size W W1) : IsS116 w0 W1 g f0 f1 := h.grown (grown_of_below hw none) (by simp)
theorem IsS116.alloc {w0 W : World} {g : Nat} {f0 : List Int} {f1 : Int} (h : IsS116 w0 W g f0 f1) (o : Obj) : IsS116 w0 (W.alloc o) g f0 f1 := h.below (qd (Below.refl _ _) o)
theorem IsS116.drewN {w0 W : World} {g : Nat} {f0 : List Int} {f1 : Int} (h : IsS116 w0 W g f0 f1) (m : Nat) : IsS116 w0 (W.drewN m) g f0 f1 := h
theorem IsS116.drew {w0 W : World} {g : Nat} {f0 : List Int} {f1 : Int} (h : IsS116 w0 W g f0 f1) : IsS116 w0 W.drew g f0 f1 := h
theorem IsS116.at_ {w0 W : World} {g : Nat} {f0 : List Int} {f1 : Int} {w' : World} {m : Nat} (hq : W.drewN m = w') (h : IsS116 w0 W g f0 f1) : IsS116 w0 w' g f0 f1 := by subst hq; exact IsS116.drewN h m
theorem IsS116.apart {w0 W : World} {g : Nat} {f0 : List Int} {f1 : Int} {α : Type} {d : Kd α} {e : Nat} {base : Nat} {ok : Nat → Prop} {v : Value} {xs : List α} (h : IsS116 w0 W g f0 f1) (ho : d.R e W base ok v xs) (ht : ∀ q, q ∈ e :: d.E → q ≠ 116) : d.R e W base (fun k => ok k ∧ k ≠ g) v xs := by
 obtain ⟨A0, c0, hb, hg, hr0⟩ := h
 exact Kd.R_types ho hb ht
theorem IsS116.own_ne {w0 W : World} {g : Nat} {f0 : List Int} {f1 : Int} {α : Type} {d : Kd α} {e : Nat} {base : Nat} {ok : Nat → Prop} {v : Value} {xs : List α} (h : IsS116 w0 W g f0 f1) (ho : d.R e W base ok v xs) (ht : e ≠ 116) : some g ≠ v.ownBlock := by
 obtain ⟨A0, c0, hb, hg, hr0⟩ := h
 exact Kd.R_ne ho hb ht
theorem IsS116.lt {w0 W : World} {g : Nat} {f0 : List Int} {f1 : Int} (h : IsS116 w0 W g f0 f1) : g < W.heap.size := by
 obtain ⟨A0, c0, hb, hg, hr0⟩ := h
 exact blk_lt hb
theorem IsS116.ge {w0 W : World} {g : Nat} {f0 : List Int} {f1 : Int} (h : IsS116 w0 W g f0 f1) : w0.heap.size ≤ g := by
 obtain ⟨A0, c0, hb, hg, hr0⟩ := h
 exact hg
theorem IsS116.far {w0 W : World} {g : Nat} {f0 : List Int} {f1 : Int} {p : Addr} (h : IsS116 w0 W g f0 f1) (hne : g ≠ p.block) (u : Value) : IsS116 w0 (W.setCell p u) g f0 f1 := by
 obtain ⟨A0, c0, hb, hg, hr0⟩ := h
 exact ⟨A0, c0, blk_far hb hne u, hg, hr0⟩
theorem cellS116_0 {W : World} {g : Nat} {A0 : Option Addr} {c0 : Nat} {f0 : List Int} {f1 : Int} (h : W.heap[g]? = some (.cells #[.slice A0 f0.length c0, .int .i64 f1] 116 (0, 0))) : W.cell? ⟨g, 0, none⟩ = some (.slice A0 f0.length c0) := (qh h 0).trans rfl
theorem cellS116_1 {W : World} {g : Nat} {A0 : Option Addr} {c0 : Nat} {f0 : List Int} {f1 : Int} (h : W.heap[g]? = some (.cells #[.slice A0 f0.length c0, .int .i64 f1] 116 (0, 0))) : W.cell? ⟨g, 1, none⟩ = some (.int .i64 f1) := (qh h 1).trans rfl
theorem IsS116.set_1 {w0 W : World} {g : Nat} {f0 : List Int} {f1 : Int} (h : IsS116 w0 W g f0 f1) (x : Int) : IsS116 w0 (W.setCell ⟨g, 1, none⟩ (.int .i64 x)) g f0 x := by
 obtain ⟨A0, c0, hb, hg, hr0⟩ := h
 exact ⟨A0, c0, by simpa using blk_set hb 1 (.int .i64 x), hg, hr0⟩
def spec_l1Open.f (l0 : List Int) : Option (List Int × Int) := some (l0, 0)
set_option maxHeartbeats 8000000 in
set_option maxRecDepth 100000 in
theorem spec_l1Open.calls (A0 : Option Addr) (c0 : Nat) (l0 : List Int) (r1 : List Int) (r2 : Int) (w0 w : World) (hB : Below w0.heap.size w0 w) (hr0 : Kd.C (Kd.int .u8) w0 A0 l0.length l0) (hc0 : l0.length ≤ c0) (h : spec_l1Open.f l0 = some (r1, r2)) :
  Calls Try.prog 70 #[.slice A0 l0.length c0] w fun e w' => ∃ g_ : Nat, e = .returned (.pointer (some ⟨g_, 0, none⟩)) ∧ IsS116 w0 w' g_ r1 r2 ∧ Below w0.heap.size w0 w' ∧ Below w.heap.size w w' := by
 have hu116 := Try.underlying116
 have HR0 := Qz.mk hr0
 have HC0 := Qz.mk hc0
 clear hr0 hc0
 have HBW := Qz.mk (Below.refl w.heap.size w)
 have HW0 := Qz.mk hB.size
 have HB := Qz.mk hB
 clear hB
 have H : (some (l0, 0)) = some (r1, r2) := h
 clear h
 simp only [Option.some.injEq, Prod.mk.injEq] at H
 obtain ⟨rfl, rfl⟩ := H
 go_enter Try.func70, Try.ntmps70
 go_wp2_with (first | ((with_reducible refine qx (N := 5) rfl ?_); refine qa1 ?hg (N := 5) ?hd (cs := #[.slice A0 l0.length c0, .int .i64 0]) (t := 116) ?hr ?_; (case hd => rfl); (case hg => rfl); (case hr => first | (go_simp; done) | (go_simp; rfl)); intro gb101 hg w2 hbox hb; replace HB := Qz.mk (qo (by repeat (first | (with_reducible first | exact HB.out | apply qd | apply qa | apply qc) | exact HB.out)) hb); have BK101 := Qz.mk (hbox); have GW101 := Qz.mk ((by rw [hg]; exact (qu (by repeat (first | (with_reducible first | exact HBW.out | apply qd | apply qa | apply qc) | exact HBW.out))) : w.heap.size ≤ gb101)); have GE101 := Qz.mk ((Nat.le_trans HW0.out (by rw [hg]; exact (qu (by repeat (first | (with_reducible first | exact HBW.out | apply qd | apply qa | apply qc) | exact HBW.out))) : w.heap.size ≤ gb101) : w0.heap.size ≤ gb101)); replace HBW := Qz.mk (qo HBW.out hb); clear hb hbox hg))
 go_ret
 exact ⟨_, rfl, (show IsS116 w0 _ gb101 l0 0 from ⟨_, _, by (with_reducible repeat (first | refine qe ?_ _ | refine qj ?_ | refine qf ?_ _)); exact BK101.out, GE101.out, HR0.out⟩), by repeat (first | (with_reducible first | exact HB.out | apply qd | apply qa | apply qc | refine qi ?_ GE101.out) | exact HB.out), by repeat (first | (with_reducible first | exact HBW.out | apply qd | apply qa | apply qc | refine qi ?_ GW101.out) | exact HBW.out)⟩
def spec_l1Rd_next.f (s0_0 : List Int) (s0_1 : Int) : Option (Int × Int) := if s0_1 ≥ (s0_0.length : Int) then (some (0, s0_1)) else (if 0 ≤ (wrap64 ((wrap64 (s0_1 + 1)) - 1)) then (if (wrap64 ((wrap64 (s0_1 + 1)) - 1)) < (s0_0.length : Int) then (some (wrap64 (rd s0_0 (wrap64 ((wrap64 (s0_1 + 1)) - 1))), wrap64 (s0_1 + 1))) else (none)) else (none))
set_option maxHeartbeats 8000000 in
set_option maxRecDepth 100000 in
theorem spec_l1Rd_next.calls (g : Nat) (s0_0 : List Int) (s0_1 : Int) (r1 : Int) (r2 : Int) (w0 w : World) (hI : IsS116 w0 w g s0_0 s0_1) (hB : Below w0.heap.size w0 w) (h : spec_l1Rd_next.f s0_0 s0_1 = some (r1, r2)) :
  Calls Try.prog 116 #[.pointer (some ⟨g, 0, none⟩)] w fun e w' => e = .returned (.int .i64 r1) ∧ IsS116 w0 w' g s0_0 r2 ∧ Below w0.heap.size w0 w' ∧ KeepBut w w' g none := by
 have HI0 := Qz.mk hI
 have HK := Qz.mk (KeepBut.refl w g none)
 have HL := Qz.mk hB.size
 clear hI
 have HW0 := Qz.mk hB.size
 have HB := Qz.mk hB
 clear hB
 have H : (if s0_1 ≥ (s0_0.length : Int) then (some (0, s0_1)) else (if 0 ≤ (wrap64 ((wrap64 (s0_1 + 1)) - 1)) then (if (wrap64 ((wrap64 (s0_1 + 1)) - 1)) < (s0_0.length : Int) then (some (wrap64 (rd s0_0 (wrap64 ((wrap64 (s0_1 + 1)) - 1))), wrap64 (s0_1 + 1))) else (none)) else (none))) = some (r1, r2) := h
 clear h
 by_cases c2 : s0_1 ≥ (s0_0.length : Int)
 ·rw [if_pos c2] at H
  have c2b0 : decide ((s0_0.length : Int) ≤ s0_1) = true := decide_eq_true c2
  clear c2
  simp only [Option.some.injEq, Prod.mk.injEq] at H
  obtain ⟨rfl, rfl⟩ := H
  obtain ⟨ASz3_0, cSz3_0, HGz3, hgz3, HSz3_0⟩ := HI0.out
  have hcz3_0 := cellS116_0 HGz3
  have hcz3_1 := cellS116_1 HGz3
  have hfz3_1 := qg HGz3 1
  clear HGz3 hgz3
  go_enter Try.func116, Try.ntmps116
  go_wp2
  repeat (go_quiet (fail); try go_wp2)
  go_ret
  exact ⟨by first | rfl | (simp [qq, qp] <;> rfl) | (simp [*, qq, qp] <;> rfl), by repeat (first | (with_reducible first | exact HI0.out | apply IsS116.alloc | apply IsS116.drewN | apply IsS116.drew | apply IsS116.set_1) | exact HI0.out), by repeat (first | (with_reducible first | exact HB.out | apply qd | apply qa | apply qc | refine qi ?_ (IsS116.ge HI0.out)) | exact HB.out), by repeat (first | (with_reducible first | exact HK.out | apply KeepBut.set_ | apply qk | apply qn | apply ql) | exact HK.out)⟩
 ·rw [if_neg c2] at H
  have c2b0 : decide ((s0_0.length : Int) ≤ s0_1) = false := decide_eq_false c2
  clear c2
  obtain ⟨ji4, hji4⟩ : ∃ j_ : Int, (wrap64 ((wrap64 (s0_1 + 1)) - 1)) = j_ := ⟨_, rfl⟩
  replace H : (if 0 ≤ (ji4) then (if (ji4) < (s0_0.length : Int) then (some (wrap64 (rd s0_0 (ji4)), wrap64 (s0_1 + 1))) else (none)) else (none)) = some (r1, r2) := by first | (rw [hji4] at H; exact H) | (simp only [hji4] at H ⊢; exact H)
  have hji4w : (IntKind.i64.wrap ((wrap64 (s0_1 + 1)) - 1)) = ji4 := (i64_w _).trans hji4
  by_cases c5 : 0 ≤ (ji4)
  ·rw [if_pos c5] at H
   have c5b0 : decide (0 ≤ (ji4)) = true := decide_eq_true c5
   clear c5
   by_cases c6 : (ji4) < (s0_0.length : Int)
   ·rw [if_pos c6] at H
    have c6b0 : decide ((ji4) < (s0_0.length : Int)) = true := decide_eq_true c6
    clear c6
    simp only [Option.some.injEq, Prod.mk.injEq] at H
    obtain ⟨rfl, rfl⟩ := H
    obtain ⟨ASz7_0, cSz7_0, HGz7, hgz7, HSz7_0⟩ := HI0.out
    have hcz7_0 := cellS116_0 HGz7
    have hcz7_1 := cellS116_1 HGz7
    have hfz7_1 := qg HGz7 1
    clear HGz7 hgz7
    have p101 : 0 ≤ ((ji4) : Int) := of_decide_eq_true (by first | (with_reducible assumption) | assumption)
    have q101 : (ji4) < (s0_0.length : Int) := of_decide_eq_true (by first | (with_reducible assumption) | assumption)
    obtain ⟨ad101, e101, hx101_0⟩ := Kd.at_int HSz7_0 (ji4) p101 q101
    cases e101
    have hn101_0 : ad101.block ≠ g := Nat.ne_of_lt (Nat.lt_of_lt_of_le (by have := World.block_lt_of_cell? _ _ hx101_0; first | rwa [add_block] at this | exact this) (IsS116.ge HI0.out))
    replace hx101_0 := pw_cell_below HB.out hx101_0
    replace hx101_0 := (cell_far (p := ⟨g, 1, none⟩) (by first | (rw [add_block]; exact hn101_0) | (show (Addr.add _ _).block ≠ _; rw [add_block]; exact hn101_0) | exact hn101_0) (.int .i64 (wrap64 (s0_1 + 1)))).trans hx101_0
    (try have hy101_0 := fun (n_ : Nat) => (show (((w.drewN n_).setCell ⟨g, 1, none⟩ (.int .i64 (wrap64 (s0_1 + 1))))).cell? _ = some _ from hx101_0))
    clear hn101_0
    replace p101 := eq_true p101
    replace q101 := eq_true q101
    go_enter Try.func116, Try.ntmps116
    go_wp2
    repeat (go_quiet (fail); try go_wp2)
    go_ret
    exact ⟨by first | rfl | (simp [qq, qp] <;> rfl) | (simp only [← hji4]; first | rfl | (simp [qq, qp] <;> rfl)) | (simp [*, qq, qp] <;> rfl), by repeat (first | (with_reducible first | exact HI0.out | apply IsS116.alloc | apply IsS116.drewN | apply IsS116.drew | apply IsS116.set_1) | exact HI0.out), by repeat (first | (with_reducible first | exact HB.out | apply qd | apply qa | apply qc | refine qi ?_ (IsS116.ge HI0.out)) | exact HB.out), by repeat (first | (with_reducible first | exact HK.out | apply KeepBut.set_ | apply qk | apply qn | apply ql) | exact HK.out)⟩
   ·rw [if_neg c6] at H
    exact absurd H (by simp)
  ·rw [if_neg c5] at H
   exact absurd H (by simp)
def spec_l1Rd_word.l0 : Nat → Int → Int → List Int → Int → Option (Int × Int)
 | 0, _, _, _, _ => none
 | k + 1, x3, x4, x1000, x1001 => if x4 < 8 then ((spec_l1Rd_next.f x1000 x1001).bind fun bt101 => (spec_l1Rd_word.l0 k (Go.bits .or .u64 (IntKind.u64.wrap (x3 * 256)) (IntKind.u64.wrap (bt101.1))) (wrap64 (x4 + 1)) x1000 bt101.2)) else (some (x3, x1001))
def spec_l1Rd_word.f (k : Nat) (s0_0 : List Int) (s0_1 : Int) : Option (Int × Int) := spec_l1Rd_word.l0 k 0 0 s0_0 s0_1
set_option maxHeartbeats 8000000 in
set_option maxRecDepth 100000 in
theorem spec_l1Rd_word.calls (k : Nat) (g : Nat) (s0_0 : List Int) (s0_1 : Int) (r1 : Int) (r2 : Int) (w0 w : World) (hI : IsS116 w0 w g s0_0 s0_1) (hB : Below w0.heap.size w0 w) (h : spec_l1Rd_word.f k s0_0 s0_1 = some (r1, r2)) :
  Calls Try.prog 117 #[.pointer (some ⟨g, 0, none⟩)] w fun e w' => e = .returned (.int .u64 r1) ∧ IsS116 w0 w' g s0_0 r2 ∧ Below w0.heap.size w0 w' ∧ KeepBut w w' g none := by
 have HI0 := Qz.mk hI
 have HK := Qz.mk (KeepBut.refl w g none)
 have HL := Qz.mk hB.size
 clear hI
 have HW0 := Qz.mk hB.size
 have HB := Qz.mk hB
 clear hB
 have H : (spec_l1Rd_word.l0 k 0 0 s0_0 s0_1) = some (r1, r2) := h
 clear h
 have H' := Qz.mk H
 clear H
 go_enter Try.func117, Try.ntmps117
 go_wp2
 go_loopg [3, 4] k (fun kq v3 v4 w' => ∃ (x3_1 : Int) (x4_1 : Int) (x1001_1 : Int), v3 = .int .u64 x3_1 ∧ v4 = .int .i64 x4_1 ∧ Qz (spec_l1Rd_word.l0 kq x3_1 x4_1 s0_0 x1001_1 = some (r1, r2)) ∧ Qz (kq ≤ k) ∧ Qz (IsS116 w0 w' g s0_0 x1001_1) ∧ Qz (KeepBut w w' g none) ∧ Qz (Below w0.heap.size w0 w'))
 case atStart => exact ⟨(0), (0), (s0_1), (by first | rfl | (simp; done) | (simp [*]; done)), (by first | rfl | (simp; done) | (simp [*]; done)), H', ⟨Nat.le_refl _⟩, ⟨by repeat (first | (with_reducible first | exact HI0.out | apply IsS116.alloc | apply IsS116.drewN | apply IsS116.drew | apply IsS116.set_1) | exact HI0.out)⟩, ⟨by repeat (first | (with_reducible first | exact HK.out | apply KeepBut.set_ | apply qk | apply qn | apply ql) | exact HK.out)⟩, ⟨by repeat (first | (with_reducible first | exact HB.out | apply qd | apply qa | apply qc | refine qi ?_ (IsS116.ge HI0.out)) | exact HB.out)⟩⟩
 case round =>
  clear H'
  try clear c1
  obtain ⟨x3_1, x4_1, x1001_1, rfl, rfl, HA, HK1, HI0, HK, HB⟩ := hrel
  cases gk with
  | zero => exact absurd HA.out (by simp [spec_l1Rd_word.l0])
  | succ k1 =>
   have H := HA.out
   clear HA
   simp only [spec_l1Rd_word.l0] at H
   by_cases c2 : x4_1 < 8
   ·rw [if_pos c2] at H
    have c2b0 : decide (x4_1 < 8) = true := decide_eq_true c2
    clear c2
    replace H := Option.bind_eq_some_iff.mp H
    obtain ⟨⟨t101, t102⟩, A30, H⟩ := H
    replace H : (spec_l1Rd_word.l0 k1 (Go.bits .or .u64 (IntKind.u64.wrap (x3_1 * 256)) (IntKind.u64.wrap (t101))) (wrap64 (x4_1 + 1)) s0_0 t102) = some (r1, r2) := H
    have A3 := Qz.mk A30
    clear A30
    have H' := Qz.mk H
    clear H
    go_wp2_with (first | ((with_reducible refine qr (f := 116) rfl ?_); refine goesL_ (some 12) rfl rfl Try.func116 (by kernel_rfl) rfl #[.pointer (some ⟨g, 0, none⟩)] rfl (by (try simp only [List.map_toArray, List.map_cons, List.map_nil]); first | done | rfl) ?_; (with_reducible refine (spec_l1Rd_next.calls g s0_0 x1001_1 t101 t102 w0 _ ?side1 ?side2 A3.out).mono ?_); (case side1 => repeat (first | (with_reducible first | exact HI0.out | apply IsS116.alloc | apply IsS116.drewN | apply IsS116.drew | apply IsS116.set_1) | exact HI0.out)); (case side2 => repeat (first | (with_reducible first | exact HB.out | apply qd | apply qa | apply qc | refine qi ?_ (IsS116.ge HI0.out)) | exact HB.out)); rintro e w4 ⟨rfl, hi, hb, hk⟩; refine ⟨_, rfl, ?_⟩; replace HK := Qz.mk (KeepBut.trans (by repeat (first | (with_reducible first | exact HK.out | apply KeepBut.set_ | apply qk | apply qn | apply ql) | exact HK.out)) hk (.inl rfl)); replace HB := Qz.mk (hb); replace HI0 := Qz.mk (hi); (try clear hb); (try clear hk); (try clear hi)))
    go_roundg k1
    case measure => have := HK1.out; omega
    case rel => exact ⟨(Go.bits .or .u64 (IntKind.u64.wrap (x3_1 * 256)) (IntKind.u64.wrap (t101))), (wrap64 (x4_1 + 1)), (t102), (by first | rfl | (simp; done) | (simp [*]; done)), (by first | rfl | (simp; done) | (simp [*]; done)), H', ⟨by have := HK1.out; omega⟩, ⟨by repeat (first | (with_reducible first | exact HI0.out | apply IsS116.alloc | apply IsS116.drewN | apply IsS116.drew | apply IsS116.set_1) | exact HI0.out)⟩, ⟨by repeat (first | (with_reducible first | exact HK.out | apply KeepBut.set_ | apply qk | apply qn | apply ql) | exact HK.out)⟩, ⟨by repeat (first | (with_reducible first | exact HB.out | apply qd | apply qa | apply qc | refine qi ?_ (IsS116.ge HI0.out)) | exact HB.out)⟩⟩
   ·rw [if_neg c2] at H
    have c2b0 : decide (x4_1 < 8) = false := decide_eq_false c2
    clear c2
    simp only [Option.some.injEq, Prod.mk.injEq] at H
    obtain ⟨rfl, rfl⟩ := H
    go_wp2
    go_ret
    exact ⟨by first | rfl | (simp [qq, qp] <;> rfl) | (simp [*, qq, qp] <;> rfl), by repeat (first | (with_reducible first | exact HI0.out | apply IsS116.alloc | apply IsS116.drewN | apply IsS116.drew | apply IsS116.set_1) | exact HI0.out), by repeat (first | (with_reducible first | exact HB.out | apply qd | apply qa | apply qc | refine qi ?_ (IsS116.ge HI0.out)) | exact HB.out), by repeat (first | (with_reducible first | exact HK.out | apply KeepBut.set_ | apply qk | apply qn | apply ql) | exact HK.out)⟩
def spec_l1Rd_below.f (s0_0 : List Int) (s0_1 : Int) (a1 : Int) : Option (Int × Int) := if a1 ≤ 1 then (some (0, s0_1)) else (if a1 ≤ 256 then ((spec_l1Rd_next.f s0_0 s0_1).bind fun bt101 => (if a1 = 0 then (none) else (some (Int.tmod bt101.1 a1, bt101.2)))) else ((spec_l1Rd_next.f s0_0 s0_1).bind fun bt103 => ((spec_l1Rd_next.f s0_0 bt103.2).bind fun bt105 => (if a1 = 0 then (none) else (some (Int.tmod (wrap64 ((wrap64 (bt103.1 * 256)) + bt105.1)) a1, bt105.2))))))
set_option maxHeartbeats 8000000 in
set_option maxRecDepth 100000 in
theorem spec_l1Rd_below.calls (g : Nat) (s0_0 : List Int) (s0_1 : Int) (a1 : Int) (r1 : Int) (r2 : Int) (w0 w : World) (hI : IsS116 w0 w g s0_0 s0_1) (hB : Below w0.heap.size w0 w) (h : spec_l1Rd_below.f s0_0 s0_1 a1 = some (r1, r2)) :
  Calls Try.prog 98 #[.pointer (some ⟨g, 0, none⟩), .int .i64 a1] w fun e w' => e = .returned (.int .i64 r1) ∧ IsS116 w0 w' g s0_0 r2 ∧ Below w0.heap.size w0 w' ∧ KeepBut w w' g none := by
 have HI0 := Qz.mk hI
 have HK := Qz.mk (KeepBut.refl w g none)
 have HL := Qz.mk hB.size
 clear hI
 have HW0 := Qz.mk hB.size
 have HB := Qz.mk hB
 clear hB
 have H : (if a1 ≤ 1 then (some (0, s0_1)) else (if a1 ≤ 256 then ((spec_l1Rd_next.f s0_0 s0_1).bind fun bt101 => (if a1 = 0 then (none) else (some (Int.tmod bt101.1 a1, bt101.2)))) else ((spec_l1Rd_next.f s0_0 s0_1).bind fun bt103 => ((spec_l1Rd_next.f s0_0 bt103.2).bind fun bt105 => (if a1 = 0 then (none) else (some (Int.tmod (wrap64 ((wrap64 (bt103.1 * 256)) + bt105.1)) a1, bt105.2))))))) = some (r1, r2) := h
 clear h
 by_cases c3 : a1 ≤ 1
 ·rw [if_pos c3] at H
  have c3b0 : decide (a1 ≤ 1) = true := decide_eq_true c3
  clear c3
  simp only [Option.some.injEq, Prod.mk.injEq] at H
  obtain ⟨rfl, rfl⟩ := H
  go_enter Try.func98, Try.ntmps98
  go_wp2
  go_ret
  exact ⟨by first | rfl | (simp [qq, qp] <;> rfl) | (simp [*, qq, qp] <;> rfl), by repeat (first | (with_reducible first | exact HI0.out | apply IsS116.alloc | apply IsS116.drewN | apply IsS116.drew | apply IsS116.set_1) | exact HI0.out), by repeat (first | (with_reducible first | exact HB.out | apply qd | apply qa | apply qc | refine qi ?_ (IsS116.ge HI0.out)) | exact HB.out), by repeat (first | (with_reducible first | exact HK.out | apply KeepBut.set_ | apply qk | apply qn | apply ql) | exact HK.out)⟩
 ·rw [if_neg c3] at H
  have c3b0 : decide (a1 ≤ 1) = false := decide_eq_false c3
  clear c3
  by_cases c4 : a1 ≤ 256
  ·rw [if_pos c4] at H
   have c4b0 : decide (a1 ≤ 256) = true := decide_eq_true c4
   clear c4
   replace H := Option.bind_eq_some_iff.mp H
   obtain ⟨⟨t101, t102⟩, A50, H⟩ := H
   replace H : (if a1 = 0 then (none) else (some (Int.tmod t101 a1, t102))) = some (r1, r2) := H
   have A5 := Qz.mk A50
   clear A50
   by_cases c6 : a1 = 0
   ·rw [if_pos c6] at H
    exact absurd H (by simp)
   ·rw [if_neg c6] at H
    have c6b0 : (a1 == 0) = false := beq_eq_false_iff_ne.mpr c6
    have c6b1 : (a1 != 0) = true := bne_iff_ne.mpr c6
    simp only [Option.some.injEq, Prod.mk.injEq] at H
    obtain ⟨rfl, rfl⟩ := H
    go_enter Try.func98, Try.ntmps98
    go_wp2_with (first | ((with_reducible refine qr (f := 116) rfl ?_); refine goesL_ (some 11) rfl rfl Try.func116 (by kernel_rfl) rfl #[.pointer (some ⟨g, 0, none⟩)] rfl (by (try simp only [List.map_toArray, List.map_cons, List.map_nil]); first | done | rfl) ?_; (with_reducible refine (spec_l1Rd_next.calls g s0_0 s0_1 t101 t102 w0 _ ?side1 ?side2 A5.out).mono ?_); (case side1 => repeat (first | (with_reducible first | exact HI0.out | apply IsS116.alloc | apply IsS116.drewN | apply IsS116.drew | apply IsS116.set_1) | exact HI0.out)); (case side2 => repeat (first | (with_reducible first | exact HB.out | apply qd | apply qa | apply qc | refine qi ?_ (IsS116.ge HI0.out)) | exact HB.out)); rintro e w7 ⟨rfl, hi, hb, hk⟩; refine ⟨_, rfl, ?_⟩; replace HK := Qz.mk (KeepBut.trans (by repeat (first | (with_reducible first | exact HK.out | apply KeepBut.set_ | apply qk | apply qn | apply ql) | exact HK.out)) hk (.inl rfl)); replace HB := Qz.mk (hb); replace HI0 := Qz.mk (hi); (try clear hb); (try clear hk); (try clear hi)))
    go_ret
    exact ⟨by first | rfl | (simp [qq, qp] <;> rfl) | (simp [*, qq, qp] <;> rfl), by repeat (first | (with_reducible first | exact HI0.out | apply IsS116.alloc | apply IsS116.drewN | apply IsS116.drew | apply IsS116.set_1) | exact HI0.out), by repeat (first | (with_reducible first | exact HB.out | apply qd | apply qa | apply qc | refine qi ?_ (IsS116.ge HI0.out)) | exact HB.out), by repeat (first | (with_reducible first | exact HK.out | apply KeepBut.set_ | apply qk | apply qn | apply ql) | exact HK.out)⟩
  ·rw [if_neg c4] at H
   have c4b0 : decide (a1 ≤ 256) = false := decide_eq_false c4
   clear c4
   replace H := Option.bind_eq_some_iff.mp H
   obtain ⟨⟨t103, t104⟩, A80, H⟩ := H
   replace H : ((spec_l1Rd_next.f s0_0 t104).bind fun bt105 => (if a1 = 0 then (none) else (some (Int.tmod (wrap64 ((wrap64 (t103 * 256)) + bt105.1)) a1, bt105.2)))) = some (r1, r2) := H
   have A8 := Qz.mk A80
   clear A80
   replace H := Option.bind_eq_some_iff.mp H
   obtain ⟨⟨t105, t106⟩, A90, H⟩ := H
   replace H : (if a1 = 0 then (none) else (some (Int.tmod (wrap64 ((wrap64 (t103 * 256)) + t105)) a1, t106))) = some (r1, r2) := H
   have A9 := Qz.mk A90
   clear A90
   by_cases c10 : a1 = 0
   ·rw [if_pos c10] at H
    exact absurd H (by simp)
   ·rw [if_neg c10] at H
    have c10b0 : (a1 == 0) = false := beq_eq_false_iff_ne.mpr c10
    have c10b1 : (a1 != 0) = true := bne_iff_ne.mpr c10
    simp only [Option.some.injEq, Prod.mk.injEq] at H
    obtain ⟨rfl, rfl⟩ := H
    go_enter Try.func98, Try.ntmps98
    go_wp2_with (first | ((with_reducible refine qr (f := 116) rfl ?_); refine goesL_ (some 15) rfl rfl Try.func116 (by kernel_rfl) rfl #[.pointer (some ⟨g, 0, none⟩)] rfl (by (try simp only [List.map_toArray, List.map_cons, List.map_nil]); first | done | rfl) ?_; (with_reducible refine (spec_l1Rd_next.calls g s0_0 s0_1 t103 t104 w0 _ ?side1 ?side2 A8.out).mono ?_); (case side1 => repeat (first | (with_reducible first | exact HI0.out | apply IsS116.alloc | apply IsS116.drewN | apply IsS116.drew | apply IsS116.set_1) | exact HI0.out)); (case side2 => repeat (first | (with_reducible first | exact HB.out | apply qd | apply qa | apply qc | refine qi ?_ (IsS116.ge HI0.out)) | exact HB.out)); rintro e w11 ⟨rfl, hi, hb, hk⟩; refine ⟨_, rfl, ?_⟩; replace HK := Qz.mk (KeepBut.trans (by repeat (first | (with_reducible first | exact HK.out | apply KeepBut.set_ | apply qk | apply qn | apply ql) | exact HK.out)) hk (.inl rfl)); replace HB := Qz.mk (hb); replace HI0 := Qz.mk (hi); (try clear hb); (try clear hk); (try clear hi)) | ((with_reducible refine qr (f := 116) rfl ?_); refine goesL_ (some 19) rfl rfl Try.func116 (by kernel_rfl) rfl #[.pointer (some ⟨g, 0, none⟩)] rfl (by (try simp only [List.map_toArray, List.map_cons, List.map_nil]); first | done | rfl) ?_; (with_reducible refine (spec_l1Rd_next.calls g s0_0 t104 t105 t106 w0 _ ?side1 ?side2 A9.out).mono ?_); (case side1 => repeat (first | (with_reducible first | exact HI0.out | apply IsS116.alloc | apply IsS116.drewN | apply IsS116.drew | apply IsS116.set_1) | exact HI0.out)); (case side2 => repeat (first | (with_reducible first | exact HB.out | apply qd | apply qa | apply qc | refine qi ?_ (IsS116.ge HI0.out)) | exact HB.out)); rintro e w12 ⟨rfl, hi, hb, hk⟩; refine ⟨_, rfl, ?_⟩; replace HK := Qz.mk (KeepBut.trans (by repeat (first | (with_reducible first | exact HK.out | apply KeepBut.set_ | apply qk | apply qn | apply ql) | exact HK.out)) hk (.inl rfl)); replace HB := Qz.mk (hb); replace HI0 := Qz.mk (hi); (try clear hb); (try clear hk); (try clear hi)))
    go_ret
    exact ⟨by first | rfl | (simp [qq, qp] <;> rfl) | (simp [*, qq, qp] <;> rfl), by repeat (first | (with_reducible first | exact HI0.out | apply IsS116.alloc | apply IsS116.drewN | apply IsS116.drew | apply IsS116.set_1) | exact HI0.out), by repeat (first | (with_reducible first | exact HB.out | apply qd | apply qa | apply qc | refine qi ?_ (IsS116.ge HI0.out)) | exact HB.out), by repeat (first | (with_reducible first | exact HK.out | apply KeepBut.set_ | apply qk | apply qn | apply ql) | exact HK.out)⟩
def spec_l1Rd_near.f (k : Nat) (s0_0 : List Int) (s0_1 : Int) (a1 : Int) (a2 : Int) : Option (Int × Int) := (spec_l1Rd_below.f s0_0 s0_1 8).bind fun bt101 => (if bt101.1 = 0 then (some (a1, bt101.2)) else (if bt101.1 = 1 then (some (a2, bt101.2)) else (if a2 < a1 then (some (a1, bt101.2)) else ((spec_l1Rd_word.f k s0_0 bt101.2).bind fun bt103 => (if (IntKind.u64.wrap (wrap64 ((wrap64 (a2 - a1)) + 1))) = 0 then (none) else (some (wrap64 (a1 + (wrap64 (Int.tmod (bt103.1 / 2) (IntKind.u64.wrap (wrap64 ((wrap64 (a2 - a1)) + 1)))))), bt103.2)))))))
set_option maxHeartbeats 8000000 in
set_option maxRecDepth 100000 in
theorem spec_l1Rd_near.calls (k : Nat) (g : Nat) (s0_0 : List Int) (s0_1 : Int) (a1 : Int) (a2 : Int) (r1 : Int) (r2 : Int) (w0 w : World) (hI : IsS116 w0 w g s0_0 s0_1) (hB : Below w0.heap.size w0 w) (h : spec_l1Rd_near.f k s0_0 s0_1 a1 a2 = some (r1, r2)) :
  Calls Try.prog 101 #[.pointer (some ⟨g, 0, none⟩), .int .i64 a1, .int .i64 a2] w fun e w' => e = .returned (.int .i64 r1) ∧ IsS116 w0 w' g s0_0 r2 ∧ Below w0.heap.size w0 w' ∧ KeepBut w w' g none := by
 have HI0 := Qz.mk hI
 have HK := Qz.mk (KeepBut.refl w g none)
 have HL := Qz.mk hB.size
 clear hI
 have HW0 := Qz.mk hB.size
 have HB := Qz.mk hB
 clear hB
 have H : ((spec_l1Rd_below.f s0_0 s0_1 8).bind fun bt101 => (if bt101.1 = 0 then (some (a1, bt101.2)) else (if bt101.1 = 1 then (some (a2, bt101.2)) else (if a2 < a1 then (some (a1, bt101.2)) else ((spec_l1Rd_word.f k s0_0 bt101.2).bind fun bt103 => (if (IntKind.u64.wrap (wrap64 ((wrap64 (a2 - a1)) + 1))) = 0 then (none) else (some (wrap64 (a1 + (wrap64 (Int.tmod (bt103.1 / 2) (IntKind.u64.wrap (wrap64 ((wrap64 (a2 - a1)) + 1)))))), bt103.2)))))))) = some (r1, r2) := h
 clear h
 replace H := Option.bind_eq_some_iff.mp H
 obtain ⟨⟨t101, t102⟩, A40, H⟩ := H
 replace H : (if t101 = 0 then (some (a1, t102)) else (if t101 = 1 then (some (a2, t102)) else (if a2 < a1 then (some (a1, t102)) else ((spec_l1Rd_word.f k s0_0 t102).bind fun bt103 => (if (IntKind.u64.wrap (wrap64 ((wrap64 (a2 - a1)) + 1))) = 0 then (none) else (some (wrap64 (a1 + (wrap64 (Int.tmod (bt103.1 / 2) (IntKind.u64.wrap (wrap64 ((wrap64 (a2 - a1)) + 1)))))), bt103.2))))))) = some (r1, r2) := H
 have A4 := Qz.mk A40
 clear A40
 by_cases c5 : t101 = 0
 ·rw [if_pos c5] at H
  have c5b0 : (t101 == 0) = true := beq_iff_eq.mpr c5
  have c5b1 : (t101 != 0) = false := bne_eq_false_iff_eq.mpr c5
  clear c5
  simp only [Option.some.injEq, Prod.mk.injEq] at H
  obtain ⟨rfl, rfl⟩ := H
  go_enter Try.func101, Try.ntmps101
  go_wp2_with (first | ((with_reducible refine qr (f := 98) rfl ?_); refine goesL_ (some 8) rfl rfl Try.func98 (by kernel_rfl) rfl #[.pointer (some ⟨g, 0, none⟩), .int .i64 8] rfl (by (try simp only [List.map_toArray, List.map_cons, List.map_nil]); first | done | rfl) ?_; (with_reducible refine (spec_l1Rd_below.calls g s0_0 s0_1 8 t101 t102 w0 _ ?side1 ?side2 A4.out).mono ?_); (case side1 => repeat (first | (with_reducible first | exact HI0.out | apply IsS116.alloc | apply IsS116.drewN | apply IsS116.drew | apply IsS116.set_1) | exact HI0.out)); (case side2 => repeat (first | (with_reducible first | exact HB.out | apply qd | apply qa | apply qc | refine qi ?_ (IsS116.ge HI0.out)) | exact HB.out)); rintro e w6 ⟨rfl, hi, hb, hk⟩; refine ⟨_, rfl, ?_⟩; replace HK := Qz.mk (KeepBut.trans (by repeat (first | (with_reducible first | exact HK.out | apply KeepBut.set_ | apply qk | apply qn | apply ql) | exact HK.out)) hk (.inl rfl)); replace HB := Qz.mk (hb); replace HI0 := Qz.mk (hi); (try clear hb); (try clear hk); (try clear hi)))
  go_ret
  exact ⟨by first | rfl | (simp [qq, qp] <;> rfl) | (simp [*, qq, qp] <;> rfl), by repeat (first | (with_reducible first | exact HI0.out | apply IsS116.alloc | apply IsS116.drewN | apply IsS116.drew | apply IsS116.set_1) | exact HI0.out), by repeat (first | (with_reducible first | exact HB.out | apply qd | apply qa | apply qc | refine qi ?_ (IsS116.ge HI0.out)) | exact HB.out), by repeat (first | (with_reducible first | exact HK.out | apply KeepBut.set_ | apply qk | apply qn | apply ql) | exact HK.out)⟩
 ·rw [if_neg c5] at H
  have c5b0 : (t101 == 0) = false := beq_eq_false_iff_ne.mpr c5
  have c5b1 : (t101 != 0) = true := bne_iff_ne.mpr c5
  by_cases c7 : t101 = 1
  ·rw [if_pos c7] at H
   have c7b0 : (t101 == 1) = true := beq_iff_eq.mpr c7
   have c7b1 : (t101 != 1) = false := bne_eq_false_iff_eq.mpr c7
   clear c7
   simp only [Option.some.injEq, Prod.mk.injEq] at H
   obtain ⟨rfl, rfl⟩ := H
   go_enter Try.func101, Try.ntmps101
   go_wp2_with (first | ((with_reducible refine qr (f := 98) rfl ?_); refine goesL_ (some 8) rfl rfl Try.func98 (by kernel_rfl) rfl #[.pointer (some ⟨g, 0, none⟩), .int .i64 8] rfl (by (try simp only [List.map_toArray, List.map_cons, List.map_nil]); first | done | rfl) ?_; (with_reducible refine (spec_l1Rd_below.calls g s0_0 s0_1 8 t101 t102 w0 _ ?side1 ?side2 A4.out).mono ?_); (case side1 => repeat (first | (with_reducible first | exact HI0.out | apply IsS116.alloc | apply IsS116.drewN | apply IsS116.drew | apply IsS116.set_1) | exact HI0.out)); (case side2 => repeat (first | (with_reducible first | exact HB.out | apply qd | apply qa | apply qc | refine qi ?_ (IsS116.ge HI0.out)) | exact HB.out)); rintro e w8 ⟨rfl, hi, hb, hk⟩; refine ⟨_, rfl, ?_⟩; replace HK := Qz.mk (KeepBut.trans (by repeat (first | (with_reducible first | exact HK.out | apply KeepBut.set_ | apply qk | apply qn | apply ql) | exact HK.out)) hk (.inl rfl)); replace HB := Qz.mk (hb); replace HI0 := Qz.mk (hi); (try clear hb); (try clear hk); (try clear hi)))
   go_ret
   exact ⟨by first | rfl | (simp [qq, qp] <;> rfl) | (simp [*, qq, qp] <;> rfl), by repeat (first | (with_reducible first | exact HI0.out | apply IsS116.alloc | apply IsS116.drewN | apply IsS116.drew | apply IsS116.set_1) | exact HI0.out), by repeat (first | (with_reducible first | exact HB.out | apply qd | apply qa | apply qc | refine qi ?_ (IsS116.ge HI0.out)) | exact HB.out), by repeat (first | (with_reducible first | exact HK.out | apply KeepBut.set_ | apply qk | apply qn | apply ql) | exact HK.out)⟩
  ·rw [if_neg c7] at H
   have c7b0 : (t101 == 1) = false := beq_eq_false_iff_ne.mpr c7
   have c7b1 : (t101 != 1) = true := bne_iff_ne.mpr c7
   by_cases c9 : a2 < a1
   ·rw [if_pos c9] at H
    have c9b0 : decide (a2 < a1) = true := decide_eq_true c9
    clear c9
    simp only [Option.some.injEq, Prod.mk.injEq] at H
    obtain ⟨rfl, rfl⟩ := H
    go_enter Try.func101, Try.ntmps101
    go_wp2_with (first | ((with_reducible refine qr (f := 98) rfl ?_); refine goesL_ (some 8) rfl rfl Try.func98 (by kernel_rfl) rfl #[.pointer (some ⟨g, 0, none⟩), .int .i64 8] rfl (by (try simp only [List.map_toArray, List.map_cons, List.map_nil]); first | done | rfl) ?_; (with_reducible refine (spec_l1Rd_below.calls g s0_0 s0_1 8 t101 t102 w0 _ ?side1 ?side2 A4.out).mono ?_); (case side1 => repeat (first | (with_reducible first | exact HI0.out | apply IsS116.alloc | apply IsS116.drewN | apply IsS116.drew | apply IsS116.set_1) | exact HI0.out)); (case side2 => repeat (first | (with_reducible first | exact HB.out | apply qd | apply qa | apply qc | refine qi ?_ (IsS116.ge HI0.out)) | exact HB.out)); rintro e w10 ⟨rfl, hi, hb, hk⟩; refine ⟨_, rfl, ?_⟩; replace HK := Qz.mk (KeepBut.trans (by repeat (first | (with_reducible first | exact HK.out | apply KeepBut.set_ | apply qk | apply qn | apply ql) | exact HK.out)) hk (.inl rfl)); replace HB := Qz.mk (hb); replace HI0 := Qz.mk (hi); (try clear hb); (try clear hk); (try clear hi)))
    go_ret
    exact ⟨by first | rfl | (simp [qq, qp] <;> rfl) | (simp [*, qq, qp] <;> rfl), by repeat (first | (with_reducible first | exact HI0.out | apply IsS116.alloc | apply IsS116.drewN | apply IsS116.drew | apply IsS116.set_1) | exact HI0.out), by repeat (first | (with_reducible first | exact HB.out | apply qd | apply qa | apply qc | refine qi ?_ (IsS116.ge HI0.out)) | exact HB.out), by repeat (first | (with_reducible first | exact HK.out | apply KeepBut.set_ | apply qk | apply qn | apply ql) | exact HK.out)⟩
   ·rw [if_neg c9] at H
    have c9b0 : decide (a2 < a1) = false := decide_eq_false c9
    clear c9
    replace H := Option.bind_eq_some_iff.mp H
    obtain ⟨⟨t103, t104⟩, A110, H⟩ := H
    replace H : (if (IntKind.u64.wrap (wrap64 ((wrap64 (a2 - a1)) + 1))) = 0 then (none) else (some (wrap64 (a1 + (wrap64 (Int.tmod (t103 / 2) (IntKind.u64.wrap (wrap64 ((wrap64 (a2 - a1)) + 1)))))), t104))) = some (r1, r2) := H
    have A11 := Qz.mk A110
    clear A110
    by_cases c12 : (IntKind.u64.wrap (wrap64 ((wrap64 (a2 - a1)) + 1))) = 0
    ·rw [if_pos c12] at H
     exact absurd H (by simp)
    ·rw [if_neg c12] at H
     have c12b0 : ((IntKind.u64.wrap (wrap64 ((wrap64 (a2 - a1)) + 1))) == 0) = false := beq_eq_false_iff_ne.mpr c12
     have c12b1 : ((IntKind.u64.wrap (wrap64 ((wrap64 (a2 - a1)) + 1))) != 0) = true := bne_iff_ne.mpr c12
     simp only [Option.some.injEq, Prod.mk.injEq] at H
     obtain ⟨rfl, rfl⟩ := H
     go_enter Try.func101, Try.ntmps101
     go_wp2_with (first | ((with_reducible refine qr (f := 98) rfl ?_); refine goesL_ (some 8) rfl rfl Try.func98 (by kernel_rfl) rfl #[.pointer (some ⟨g, 0, none⟩), .int .i64 8] rfl (by (try simp only [List.map_toArray, List.map_cons, List.map_nil]); first | done | rfl) ?_; (with_reducible refine (spec_l1Rd_below.calls g s0_0 s0_1 8 t101 t102 w0 _ ?side1 ?side2 A4.out).mono ?_); (case side1 => repeat (first | (with_reducible first | exact HI0.out | apply IsS116.alloc | apply IsS116.drewN | apply IsS116.drew | apply IsS116.set_1) | exact HI0.out)); (case side2 => repeat (first | (with_reducible first | exact HB.out | apply qd | apply qa | apply qc | refine qi ?_ (IsS116.ge HI0.out)) | exact HB.out)); rintro e w13 ⟨rfl, hi, hb, hk⟩; refine ⟨_, rfl, ?_⟩; replace HK := Qz.mk (KeepBut.trans (by repeat (first | (with_reducible first | exact HK.out | apply KeepBut.set_ | apply qk | apply qn | apply ql) | exact HK.out)) hk (.inl rfl)); replace HB := Qz.mk (hb); replace HI0 := Qz.mk (hi); (try clear hb); (try clear hk); (try clear hi)) | ((with_reducible refine qr (f := 117) rfl ?_); refine goesL_ (some 21) rfl rfl Try.func117 (by kernel_rfl) rfl #[.pointer (some ⟨g, 0, none⟩)] rfl (by (try simp only [List.map_toArray, List.map_cons, List.map_nil]); first | done | rfl) ?_; (with_reducible refine (spec_l1Rd_word.calls k g s0_0 t102 t103 t104 w0 _ ?side1 ?side2 A11.out).mono ?_); (case side1 => repeat (first | (with_reducible first | exact HI0.out | apply IsS116.alloc | apply IsS116.drewN | apply IsS116.drew | apply IsS116.set_1) | exact HI0.out)); (case side2 => repeat (first | (with_reducible first | exact HB.out | apply qd | apply qa | apply qc | refine qi ?_ (IsS116.ge HI0.out)) | exact HB.out)); rintro e w14 ⟨rfl, hi, hb, hk⟩; refine ⟨_, rfl, ?_⟩; replace HK := Qz.mk (KeepBut.trans (by repeat (first | (with_reducible first | exact HK.out | apply KeepBut.set_ | apply qk | apply qn | apply ql) | exact HK.out)) hk (.inl rfl)); replace HB := Qz.mk (hb); replace HI0 := Qz.mk (hi); (try clear hb); (try clear hk); (try clear hi)))
     go_ret
     exact ⟨by first | rfl | (simp [qq, qp] <;> rfl) | (simp [*, qq, qp] <;> rfl), by repeat (first | (with_reducible first | exact HI0.out | apply IsS116.alloc | apply IsS116.drewN | apply IsS116.drew | apply IsS116.set_1) | exact HI0.out), by repeat (first | (with_reducible first | exact HB.out | apply qd | apply qa | apply qc | refine qi ?_ (IsS116.ge HI0.out)) | exact HB.out), by repeat (first | (with_reducible first | exact HK.out | apply KeepBut.set_ | apply qk | apply qn | apply ql) | exact HK.out)⟩
def spec_l1Rd_bytes.l0 : Nat → List Int → Int → List Int → Int → Option (ByteArray × Int)
 | 0, _, _, _, _ => none
 | k + 1, x5, x6, x1000, x1001 => if x6 > 0 then ((spec_l1Rd_below.f x1000 x1001 256).bind fun bt106 => (if x5.length < 140737488355328 then (spec_l1Rd_bytes.l0 k (x5 ++ [(bt106.1) % 256]) (wrap64 (x6 - 1)) x1000 bt106.2) else (none))) else (some (strOfNums x5, x1001))
def spec_l1Rd_bytes.f (k : Nat) (s0_0 : List Int) (s0_1 : Int) (a1 : Int) : Option (ByteArray × Int) := (spec_l1Rd_below.f s0_0 s0_1 (wrap64 (a1 + 1))).bind fun bt104 => (spec_l1Rd_bytes.l0 k (([] : List Int)) bt104.1 s0_0 bt104.2)
set_option maxHeartbeats 8000000 in
set_option maxRecDepth 100000 in
theorem spec_l1Rd_bytes.calls (k : Nat) (g : Nat) (s0_0 : List Int) (s0_1 : Int) (a1 : Int) (r1 : ByteArray) (r2 : Int) (w0 w : World) (hI : IsS116 w0 w g s0_0 s0_1) (hB : Below w0.heap.size w0 w) (h : spec_l1Rd_bytes.f k s0_0 s0_1 a1 = some (r1, r2)) :
  Calls Try.prog 121 #[.pointer (some ⟨g, 0, none⟩), .int .i64 a1] w fun e w' => e = .returned (.string r1) ∧ IsS116 w0 w' g s0_0 r2 ∧ Below w0.heap.size w0 w' ∧ KeepBut w w' g none := by
 have HI0 := Qz.mk hI
 have HK := Qz.mk (KeepBut.refl w g none)
 have HL := Qz.mk hB.size
 clear hI
 have HW0 := Qz.mk hB.size
 have HB := Qz.mk hB
 clear hB
 have H : ((spec_l1Rd_below.f s0_0 s0_1 (wrap64 (a1 + 1))).bind fun bt104 => (spec_l1Rd_bytes.l0 k (([] : List Int)) bt104.1 s0_0 bt104.2)) = some (r1, r2) := h
 clear h
 obtain ⟨y101, hy101⟩ : ∃ y_ : List Int, y_ = (([] : List Int)) := ⟨_, rfl⟩
 replace H : ((spec_l1Rd_below.f s0_0 s0_1 (wrap64 (a1 + 1))).bind fun bt104 => (spec_l1Rd_bytes.l0 k y101 bt104.1 s0_0 bt104.2)) = some (r1, r2) := by first | (rw [hy101]; with_reducible exact H) | (have H2_ := (Option.bind_some _ _).symm.trans H; rw [hy101]; with_reducible exact H2_) | (have H2_ := (Option.bind_some _ _).symm.trans H; with_reducible exact H2_) | with_reducible exact H | (rw [hy101]; exact H) | exact H
 have Ny101 := Qz.mk hy101
 clear hy101
 replace H := Option.bind_eq_some_iff.mp H
 obtain ⟨⟨t104, t105⟩, A30, H⟩ := H
 replace H : (spec_l1Rd_bytes.l0 k y101 t104 s0_0 t105) = some (r1, r2) := H
 have A3 := Qz.mk A30
 clear A30
 have H' := Qz.mk H
 clear H
 go_enter Try.func121, Try.ntmps121
 go_wp2_with (first | ((with_reducible refine qx (N := 7) rfl ?_); refine Kd.R_lit (Kd.int .u8) _ 5 ?hg (N := 7) ?hd (xs := ([] : List Int)) (inner := []) (ok := fun _ => True) (okp := fun _ => True) ?hr ?hp (fun _ hk => hk) trivial (Below.refl _ _) (Nat.le_refl _) (by simp) ?_; (case hd => rfl); (case hg => rfl); (case hr => first | (go_simp; done) | (go_simp; rfl)); (case hp => exact (Reps.none _ _)); intro v102 w4 ho5 hb hg_ hnew_; clear hg_ hnew_; (first | rw [← Ny101.out] at ho5 | (simp only [Int.reduceToNat] at ho5; rw [← Ny101.out] at ho5)); have HO103 := Qz.mk (Kd.R_lower ho5 (keep_size (w := w) (g := g) (row := none) (by repeat (first | (with_reducible first | exact HK.out | apply KeepBut.set_ | apply qk | apply qn | apply ql) | exact HK.out)))); replace HK := Qz.mk (KeepBut.trans (by repeat (first | (with_reducible first | exact HK.out | apply KeepBut.set_ | apply qk | apply qn | apply ql) | exact HK.out)) (KeepBut.of_below hb g none) (.inl rfl)); replace HB := Qz.mk (qo (by repeat (first | (with_reducible first | exact HB.out | apply qd | apply qa | apply qc | refine qi ?_ (IsS116.ge HI0.out)) | exact HB.out)) hb); replace HI0 := Qz.mk (IsS116.below (by repeat (first | (with_reducible first | exact HI0.out | apply IsS116.alloc | apply IsS116.drewN | apply IsS116.drew | apply IsS116.set_1) | exact HI0.out)) hb); clear hb ho5) | ((with_reducible refine qr (f := 98) rfl ?_); refine goesL_ (some 11) rfl rfl Try.func98 (by kernel_rfl) rfl #[.pointer (some ⟨g, 0, none⟩), .int .i64 (wrap64 (a1 + 1))] rfl (by (try simp only [List.map_toArray, List.map_cons, List.map_nil]); first | done | rfl | (simp only [List.length_drop, List.length_take]; rfl) | (rw [IntWalk.u64_in _ (by omega)] <;> rfl)) ?_; (with_reducible refine (spec_l1Rd_below.calls g s0_0 s0_1 (wrap64 (a1 + 1)) t104 t105 w0 _ ?side1 ?side2 A3.out).mono ?_); (case side1 => repeat (first | (with_reducible first | exact HI0.out | apply IsS116.alloc | apply IsS116.drewN | apply IsS116.drew | apply IsS116.set_1) | exact HI0.out)); (case side2 => repeat (first | (with_reducible first | exact HB.out | apply qd | apply qa | apply qc | refine qi ?_ (IsS116.ge HI0.out)) | exact HB.out)); rintro e w6 ⟨rfl, hi, hb, hk⟩; refine ⟨_, rfl, ?_⟩; replace HO103 := Qz.mk (Kd.R_mono (Kd.R_keep (IsS116.apart (show IsS116 w0 _ g s0_0 s0_1 from by repeat (first | (with_reducible first | exact HI0.out | apply IsS116.alloc | apply IsS116.drewN | apply IsS116.drew | apply IsS116.set_1) | exact HI0.out)) (by (with_reducible repeat (first | apply Kd.R_alloc | apply Kd.R_drewN | apply Kd.R_drew)); exact HO103.out) (by decide)) hk (fun _ h => h.2)) (fun _ h => h.1)); replace HK := Qz.mk (KeepBut.trans (by repeat (first | (with_reducible first | exact HK.out | apply KeepBut.set_ | apply qk | apply qn | apply ql) | exact HK.out)) hk (.inl rfl)); replace HB := Qz.mk (hb); replace HI0 := Qz.mk (hi); (try clear hb); (try clear hk); (try clear hi)))
 go_loopg [5, 6] k (fun kq v5 v6 w' => ∃ (x5_1 : List Int) (x6_1 : Int) (x1001_1 : Int), v6 = .int .i64 x6_1 ∧ Qz (spec_l1Rd_bytes.l0 kq x5_1 x6_1 s0_0 x1001_1 = some (r1, r2)) ∧ Qz (kq ≤ k) ∧ Qz (Kd.R (Kd.int .u8) 5 w' w.heap.size (fun _ => True) v5 x5_1) ∧ Qz (IsS116 w0 w' g s0_0 x1001_1) ∧ Qz (KeepBut w w' g none) ∧ Qz (Below w0.heap.size w0 w'))
 case atStart => exact ⟨(y101), (t104), (t105), (by first | rfl | (simp; done) | (simp [*]; done)), H', ⟨Nat.le_refl _⟩, ⟨by (with_reducible repeat (first | apply Kd.R_alloc | apply Kd.R_drewN | apply Kd.R_drew)); exact HO103.out⟩, ⟨by repeat (first | (with_reducible first | exact HI0.out | apply IsS116.alloc | apply IsS116.drewN | apply IsS116.drew | apply IsS116.set_1) | exact HI0.out)⟩, ⟨by repeat (first | (with_reducible first | exact HK.out | apply KeepBut.set_ | apply qk | apply qn | apply ql) | exact HK.out)⟩, ⟨by repeat (first | (with_reducible first | exact HB.out | apply qd | apply qa | apply qc | refine qi ?_ (IsS116.ge HI0.out)) | exact HB.out)⟩⟩
 case round =>
  clear H'
  try clear c1
  try clear p2
  try clear p6
  obtain ⟨x5_1, x6_1, x1001_1, rfl, HA, HK1, HO_5, HI0, HK, HB⟩ := hrel
  cases gk with
  | zero => exact absurd HA.out (by simp [spec_l1Rd_bytes.l0])
  | succ k1 =>
   have H := HA.out
   clear HA
   simp only [spec_l1Rd_bytes.l0] at H
   by_cases c7 : x6_1 > 0
   ·rw [if_pos c7] at H
    have c7b0 : decide (0 < x6_1) = true := decide_eq_true c7
    clear c7
    replace H := Option.bind_eq_some_iff.mp H
    obtain ⟨⟨t106, t107⟩, A80, H⟩ := H
    replace H : (if x5_1.length < 140737488355328 then (spec_l1Rd_bytes.l0 k1 (x5_1 ++ [(t106) % 256]) (wrap64 (x6_1 - 1)) s0_0 t107) else (none)) = some (r1, r2) := H
    have A8 := Qz.mk A80
    clear A80
    by_cases c9 : x5_1.length < 140737488355328
    ·rw [if_pos c9] at H
     have LMc9 := Qz.mk c9
     clear c9
     obtain ⟨y108, hy108⟩ : ∃ y_ : List Int, y_ = (x5_1 ++ [(t106) % 256]) := ⟨_, rfl⟩
     replace H : (spec_l1Rd_bytes.l0 k1 y108 (wrap64 (x6_1 - 1)) s0_0 t107) = some (r1, r2) := by first | (rw [hy108]; with_reducible exact H) | (have H2_ := (Option.bind_some _ _).symm.trans H; rw [hy108]; with_reducible exact H2_) | (have H2_ := (Option.bind_some _ _).symm.trans H; with_reducible exact H2_) | with_reducible exact H | (rw [hy108]; exact H) | exact H
     have Ny108 := Qz.mk hy108
     clear hy108
     have H' := Qz.mk H
     clear H
     go_wp2_with (first | ((with_reducible refine qr (f := 98) rfl ?_); refine goesL_ (some 18) rfl rfl Try.func98 (by kernel_rfl) rfl #[.pointer (some ⟨g, 0, none⟩), .int .i64 256] rfl (by (try simp only [List.map_toArray, List.map_cons, List.map_nil]); first | done | rfl) ?_; (with_reducible refine (spec_l1Rd_below.calls g s0_0 x1001_1 256 t106 t107 w0 _ ?side1 ?side2 A8.out).mono ?_); (case side1 => repeat (first | (with_reducible first | exact HI0.out | apply IsS116.alloc | apply IsS116.drewN | apply IsS116.drew | apply IsS116.set_1) | exact HI0.out)); (case side2 => repeat (first | (with_reducible first | exact HB.out | apply qd | apply qa | apply qc | refine qi ?_ (IsS116.ge HI0.out)) | exact HB.out)); rintro e w10 ⟨rfl, hi, hb, hk⟩; refine ⟨_, rfl, ?_⟩; replace HO_5 := Qz.mk (Kd.R_mono (Kd.R_keep (IsS116.apart (show IsS116 w0 _ g s0_0 x1001_1 from by repeat (first | (with_reducible first | exact HI0.out | apply IsS116.alloc | apply IsS116.drewN | apply IsS116.drew | apply IsS116.set_1) | exact HI0.out)) (by (with_reducible repeat (first | apply Kd.R_alloc | apply Kd.R_drewN | apply Kd.R_drew)); exact HO_5.out) (by decide)) hk (fun _ h => h.2)) (fun _ h => h.1)); replace HK := Qz.mk (KeepBut.trans (by repeat (first | (with_reducible first | exact HK.out | apply KeepBut.set_ | apply qk | apply qn | apply ql) | exact HK.out)) hk (.inl rfl)); replace HB := Qz.mk (hb); replace HI0 := Qz.mk (hi); (try clear hb); (try clear hk); (try clear hi)) | ((with_reducible refine qz (b := .append) (xs := #[.tmp 16, .tmp 20]) rfl ?_); at_builtin; refine Kd.R_append (Kd.int .u8) w.heap.size rfl (.tmp 16) (.tmp 20) 38 5 (.int .u8 0) 1 rfl Try.underlying38 info5 rfl (by decide) (by omega) u5 x5_1 ((t106) % 256) [.int .u8 ((t106) % 256)] (fun _ => True) (fun _ => False) rfl rfl ?aP (fun _ hk => hk.elim) ?aF ?aO (Below.refl _ _) ?aS ?aL ?_; (case aP => exact rfl); (case aF => exact (fun _ _ => trivial)); (case aO => exact (by (with_reducible repeat (first | apply Kd.R_alloc | apply Kd.R_drewN | apply Kd.R_drew)); exact HO_5.out)); (case aS => exact (keep_size (w := w) (g := g) (row := none) (by repeat (first | (with_reducible first | exact HK.out | apply KeepBut.set_ | apply qk | apply qn | apply ql) | exact HK.out)))); (case aL => have := LMc9.out; omega); intro v109 w11 ho hb hg hat; rw [← Ny108.out] at ho; have n0_ := Qz.mk (IsS116.grown (by repeat (first | (with_reducible first | exact HI0.out | apply IsS116.alloc | apply IsS116.drewN | apply IsS116.drew | apply IsS116.set_1) | exact HI0.out)) hg (IsS116.own_ne HI0.out HO_5.out (by decide))); have n1_ := Qz.mk (below_weaken (by repeat (first | (with_reducible first | exact HB.out | apply qd | apply qa | apply qc | refine qi ?_ (IsS116.ge HI0.out)) | exact HB.out)) HL.out hb); have n2_ := Qz.mk (KeepBut.trans (by repeat (first | (with_reducible first | exact HK.out | apply KeepBut.set_ | apply qk | apply qn | apply ql) | exact HK.out)) (KeepBut.of_grown hg g) (Kd.R_base2 HO_5.out)); have n3_ := Qz.mk (ho); clear HI0; clear HB; clear HK; clear HO_5; have HI0 := n0_; have HB := n1_; have HK := n2_; have HO110 := n3_; clear n0_ n1_ n2_ n3_; clear ho hb hg hat))
     go_roundg k1
     case measure => have := HK1.out; omega
     case rel => exact ⟨(y108), (wrap64 (x6_1 - 1)), (t107), (by first | rfl | (simp; done) | (simp [*]; done)), H', ⟨by have := HK1.out; omega⟩, ⟨by (with_reducible repeat (first | apply Kd.R_alloc | apply Kd.R_drewN | apply Kd.R_drew)); exact HO110.out⟩, ⟨by repeat (first | (with_reducible first | exact HI0.out | apply IsS116.alloc | apply IsS116.drewN | apply IsS116.drew | apply IsS116.set_1) | exact HI0.out)⟩, ⟨by repeat (first | (with_reducible first | exact HK.out | apply KeepBut.set_ | apply qk | apply qn | apply ql) | exact HK.out)⟩, ⟨by repeat (first | (with_reducible first | exact HB.out | apply qd | apply qa | apply qc | refine qi ?_ (IsS116.ge HI0.out)) | exact HB.out)⟩⟩
    ·rw [if_neg c9] at H
     exact absurd H (by simp)
   ·rw [if_neg c7] at H
    have c7b0 : decide (0 < x6_1) = false := decide_eq_false c7
    clear c7
    simp only [Option.some.injEq, Prod.mk.injEq] at H
    obtain ⟨rfl, rfl⟩ := H
    have hcv12 := own_string (P := Try.prog) Try.underlying38 Try.underlying5 Try.underlying9 (Kd.own_of_R HO_5.out)
    go_wp2
    go_ret
    exact ⟨by first | rfl | (simp [qq, qp] <;> rfl) | (simp [*, qq, qp] <;> rfl), by repeat (first | (with_reducible first | exact HI0.out | apply IsS116.alloc | apply IsS116.drewN | apply IsS116.drew | apply IsS116.set_1) | exact HI0.out), by repeat (first | (with_reducible first | exact HB.out | apply qd | apply qa | apply qc | refine qi ?_ (IsS116.ge HI0.out)) | exact HB.out), by repeat (first | (with_reducible first | exact HK.out | apply KeepBut.set_ | apply qk | apply qn | apply ql) | exact HK.out)⟩
def spec_l1Rd_once.f (s0_0 : List Int) (s0_1 : Int) (a1 : Int) : Option (Bool × Int) := (spec_l1Rd_below.f s0_0 s0_1 a1).bind fun bt101 => (some ((bt101.1 == (wrap64 (a1 - 1))), bt101.2))
set_option maxHeartbeats 8000000 in
set_option maxRecDepth 100000 in
theorem spec_l1Rd_once.calls (g : Nat) (s0_0 : List Int) (s0_1 : Int) (a1 : Int) (r1 : Bool) (r2 : Int) (w0 w : World) (hI : IsS116 w0 w g s0_0 s0_1) (hB : Below w0.heap.size w0 w) (h : spec_l1Rd_once.f s0_0 s0_1 a1 = some (r1, r2)) :
  Calls Try.prog 96 #[.pointer (some ⟨g, 0, none⟩), .int .i64 a1] w fun e w' => e = .returned (.bool r1) ∧ IsS116 w0 w' g s0_0 r2 ∧ Below w0.heap.size w0 w' ∧ KeepBut w w' g none := by
 have HI0 := Qz.mk hI
 have HK := Qz.mk (KeepBut.refl w g none)
 have HL := Qz.mk hB.size
 clear hI
 have HW0 := Qz.mk hB.size
 have HB := Qz.mk hB
 clear hB
 have H : ((spec_l1Rd_below.f s0_0 s0_1 a1).bind fun bt101 => (some ((bt101.1 == (wrap64 (a1 - 1))), bt101.2))) = some (r1, r2) := h
 clear h
 replace H := Option.bind_eq_some_iff.mp H
 obtain ⟨⟨t101, t102⟩, A30, H⟩ := H
 replace H : (some ((t101 == (wrap64 (a1 - 1))), t102)) = some (r1, r2) := H
 have A3 := Qz.mk A30
 clear A30
 simp only [Option.some.injEq, Prod.mk.injEq] at H
 obtain ⟨rfl, rfl⟩ := H
 go_enter Try.func96, Try.ntmps96
 go_wp2_with (first | ((with_reducible refine qr (f := 98) rfl ?_); refine goesL_ (some 7) rfl rfl Try.func98 (by kernel_rfl) rfl #[.pointer (some ⟨g, 0, none⟩), .int .i64 a1] rfl (by (try simp only [List.map_toArray, List.map_cons, List.map_nil]); first | done | rfl) ?_; (with_reducible refine (spec_l1Rd_below.calls g s0_0 s0_1 a1 t101 t102 w0 _ ?side1 ?side2 A3.out).mono ?_); (case side1 => repeat (first | (with_reducible first | exact HI0.out | apply IsS116.alloc | apply IsS116.drewN | apply IsS116.drew | apply IsS116.set_1) | exact HI0.out)); (case side2 => repeat (first | (with_reducible first | exact HB.out | apply qd | apply qa | apply qc | refine qi ?_ (IsS116.ge HI0.out)) | exact HB.out)); rintro e w4 ⟨rfl, hi, hb, hk⟩; refine ⟨_, rfl, ?_⟩; replace HK := Qz.mk (KeepBut.trans (by repeat (first | (with_reducible first | exact HK.out | apply KeepBut.set_ | apply qk | apply qn | apply ql) | exact HK.out)) hk (.inl rfl)); replace HB := Qz.mk (hb); replace HI0 := Qz.mk (hi); (try clear hb); (try clear hk); (try clear hi)))
 go_ret
 exact ⟨by first | rfl | (simp [qq, qp] <;> rfl) | (simp [*, qq, qp] <;> rfl), by repeat (first | (with_reducible first | exact HI0.out | apply IsS116.alloc | apply IsS116.drewN | apply IsS116.drew | apply IsS116.set_1) | exact HI0.out), by repeat (first | (with_reducible first | exact HB.out | apply qd | apply qa | apply qc | refine qi ?_ (IsS116.ge HI0.out)) | exact HB.out), by repeat (first | (with_reducible first | exact HK.out | apply KeepBut.set_ | apply qk | apply qn | apply ql) | exact HK.out)⟩
end Go.Proofs.Ytbojfnijgmppbaa.P
end
