/- Proved: the law FnFilters of the given program returns true for every input of its Go types and leaves each argument as it was; no condition. (Part 8 of 10.) -/
import Derived.Test.YtedgdnkbojjbmaaCFnFilters4
import Derived.Test.YtedgdnkbojjbmaaCFnFilters6
import Derived.Deep.RegionHeld
import Derived.Test.YtedgdnkbojjbmaaCFnFilters5
section
namespace Go.Proofs.Ytedgdnkbojjbmaa.P
open Go.RowKit Go.Proofs.YtedgdnkbojjbmaaW.PrintWords Go.Proofs.YtedgdnkbojjbmaaW.PrintLast Go.Proofs.YtedgdnkbojjbmaaW.PrintMore
attribute [local go_sem] str_gtr str_leq str_geq max2_int min2_int max_two min_two max_three min_three max_four min_four
set_option linter.unusedVariables false
set_option linter.unusedSimpArgs false
theorem RowB.reads {W : World} {g : Nat} {xs : List Int} (h : RowB W g xs) (hl : xs.length ≤ 9223372036854775807) : Kd.C (Kd.int .u8) W (some ⟨g, 0, none⟩) xs.length xs := by
  refine ⟨rfl, hl, fun _ => ⟨⟨g, 0, none⟩, rfl, fun j p hj => ⟨[.int .u8 p], rfl, rfl, fun i u hi => ?_⟩⟩⟩
  have hjl : j < xs.length := by
    rcases Nat.lt_or_ge j xs.length with h1 | h1
    · exact h1
    · rw [List.getElem?_eq_none h1] at hj
      cases hj
  cases i with
  | zero =>
    obtain rfl : Value.int .u8 p = u := Option.some.inj hi
    have := h.cell j hjl
    rw [List.getD_eq_getElem?_getD, hj] at this
    have e1 : j * (Kd.int .u8).sz + 0 = j := Nat.mul_one j
    have e2 : (⟨g, 0, none⟩ : Addr).add j = ⟨g, j, none⟩ := by
      have : (⟨g, 0, none⟩ : Addr).add j = ⟨g, 0 + j, none⟩ := by unfold Addr.add; split <;> simp_all
      rw [this, Nat.zero_add]
    rw [e1, e2]
    exact this
  | succ i => cases hi
def impl_RibbonMay.f (k : Nat) (a b c : Int) (t u : ByteArray) : Option Bool := if a = 2 then (impl_FilterOk.f k a b c t).bind fun ok => if ok = true then (impl_equationOf.f k u b (t.size : Int)).bind fun e => (impl_solve.f k (bytesOf t) e.1 e.2.1).bind fun s => (if t.size ≤ 1000000 then some (s == e.2.2) else none) else some true else some true
set_option maxHeartbeats 8000000 in
set_option maxRecDepth 100000 in
theorem impl_RibbonMay.calls (k : Nat) (a0_0 a0_1 a0_2 : Int) (a0_3 a1 : ByteArray) (r : Bool) (w : World) (h : impl_RibbonMay.f k a0_0 a0_1 a0_2 a0_3 a1 = some r) :
    Calls Try.prog 105 #[.agg #[.int .i64 a0_0, .int .i64 a0_1, .int .i64 a0_2, .string a0_3], .string a1] w fun e w' => e = .returned (.bool r) ∧ Below w.heap.size w w' := by
  have huF := Try.underlying46
  have huE := Try.underlying148
  have HH := Aside0.mk h
  clear h
  unfold impl_RibbonMay.f at HH
  have qc : ∀ (w : World) (s : ByteArray), (convert 9 51 (.string s)).run Try.prog w = .ok (.slice (some ⟨w.heap.size, 0, none⟩) s.size (grownCap w s.size 0 5)) (Lib.bytesWorld w 5 s) := fun w s => Lib.run_convert_string_bytes w _ _ _ s Try.underlying9 Try.underlying51 Try.underlying5
  go_enter Try.func105, Try.ntmps105
  go_upto_region 1 with (first | ((with_reducible refine gate_dst (N := 2) rfl ?_); refine box_event ?hg (N := 2) ?hd (cs := #[.int .i64 a0_0, .int .i64 a0_1, .int .i64 a0_2, .string a0_3]) (t := 46) ?hr ?_; (case hd => rfl); (case hg => rfl); (case hr => first | (go_simp; done) | (go_simp; rfl)); intro b2 hg w1 hbox hb; have B1 := Aside0.mk hb; have E1 := Aside0.mk hbox; clear hbox hb hg))
  have hz0 := (blk_cell E1.out 0).trans (show _ = some (.int .i64 a0_0) from rfl)
  have hz1 := (blk_cell E1.out 1).trans (show _ = some (.int .i64 a0_1) from rfl)
  have hz2 := (blk_cell E1.out 2).trans (show _ = some (.int .i64 a0_2) from rfl)
  have hz3 := (blk_cell E1.out 3).trans (show _ = some (.string a0_3) from rfl)
  by_cases c : a0_0 = 2
  case neg =>
    have hh := Option.some.inj ((if_neg c).symm.trans HH.out)
    subst hh
    have cb : (a0_0 == 2) = false := beq_eq_false_iff_ne.mpr c
    have cb1 : (a0_0 != 2) = true := bne_iff_ne.mpr c
    clear HH
    go_wp2
    go_ret
    exact ⟨rfl, B1.out⟩
  subst c
  have h := (if_pos rfl).symm.trans HH.out
  clear HH
  obtain ⟨ok, A1_, h⟩ := Option.bind_eq_some_iff.mp h
  have A1 := Aside0.mk A1_
  have HH := Aside0.mk h
  clear A1_ h
  go_wp2_with fail
  (with_reducible refine (impl_FilterOk.calls k 2 a0_1 a0_2 a0_3 ok w1 A1.out).mono ?_)
  rintro e w2 ⟨rfl, hb⟩
  have B2 := Aside0.mk (below_step B1.out hb)
  have E2 := Aside0.mk (blk_below E1.out hb)
  clear B1 E1 hb A1 hz0 hz1 hz2 hz3
  cases ok with
  | false =>
    have hh := Option.some.inj ((if_neg (show ¬ false = true by decide)).symm.trans HH.out)
    subst hh
    clear HH
    go_wp2
    go_ret
    exact ⟨rfl, B2.out⟩
  | true =>
  have h := (if_pos (show true = true from rfl)).symm.trans HH.out
  clear HH
  obtain ⟨⟨p, row, sum⟩, A2_, h⟩ := Option.bind_eq_some_iff.mp h
  have A2 := Aside0.mk A2_
  clear A2_
  obtain ⟨s, A3_, h⟩ := Option.bind_eq_some_iff.mp h
  have A3 := Aside0.mk A3_
  clear A3_
  split at h
  case isFalse => cases h
  rename_i hsz
  have hr := Option.some.inj h
  clear h
  have hz1 := (blk_cell E2.out 1).trans (show _ = some (.int .i64 a0_1) from rfl)
  have hz3 := (blk_cell E2.out 3).trans (show _ = some (.string a0_3) from rfl)
  go_wp2_with fail
  (with_reducible refine (impl_equationOf.calls k a1 a0_1 (a0_3.size : Int) p row sum w2 A2.out).mono ?_)
  rintro e w3 ⟨rfl, hb⟩
  have B3 := Aside0.mk (below_step B2.out hb)
  have E3 := Aside0.mk (blk_below E2.out hb)
  clear B2 E2 hb A2 hz1 hz3
  go_upto_region 4 with (first | ((with_reducible refine gate_dst (N := 5) rfl ?_); refine box_event ?hg (N := 5) ?hd (cs := #[.int .i64 0, .int .u64 0, .int .u8 0]) (t := 148) ?hr ?_; (case hd => rfl); (case hg => rfl); (case hr => first | (go_simp; done) | (go_simp; rfl)); intro b5 hg w4 hbox hb; have B4 := Aside0.mk (below_step B3.out hb); have E4 := Aside0.mk (blk_below E3.out hb); have E5 := Aside0.mk hbox; have G5 := Aside0.mk hg; have N5 := Aside0.mk (Nat.ne_of_lt (blk_lt E3.out)); have hy0 := (blk_cell hbox 0).trans (show _ = some (.int .i64 0) from rfl); have hy1 := (blk_cell hbox 1).trans (show _ = some (.int .u64 0) from rfl); have hy2 := (blk_cell hbox 2).trans (show _ = some (.int .u8 0) from rfl); have hf0 := blk_frozen hbox 0; have hf1 := blk_frozen hbox 1; have hf2 := blk_frozen hbox 2; clear hbox hb hg))
  have e1 := blk_put E5.out 0 (.int .i64 p) rfl
  have e2 := blk_put e1 1 (.int .u64 row) rfl
  have e3 := blk_put e2 2 (.int .u8 sum) rfl
  have F5 : Aside0 ((((w4.setCell ⟨b5, 0, none⟩ (.int .i64 p)).setCell ⟨b5, 1, none⟩ (.int .u64 row)).setCell ⟨b5, 2, none⟩ (.int .u8 sum)).heap[b5]? = some (.cells #[.int .i64 p, .int .u64 row, .int .u8 sum] 148 (0, 0))) := ⟨e3⟩
  have hne : b2 ≠ b5 := by rw [G5.out]; exact N5.out
  have hge : w.heap.size ≤ b5 := by rw [G5.out]; exact below_size B3.out
  have F2 : Aside0 ((((w4.setCell ⟨b5, 0, none⟩ (.int .i64 p)).setCell ⟨b5, 1, none⟩ (.int .u64 row)).setCell ⟨b5, 2, none⟩ (.int .u8 sum)).heap[b2]? = some (.cells #[.int .i64 2, .int .i64 a0_1, .int .i64 a0_2, .string a0_3] 46 (0, 0))) := ⟨blk_far (blk_far (blk_far E4.out hne _) hne _) hne _⟩
  have B5 : Aside0 (Below w.heap.size w (((w4.setCell ⟨b5, 0, none⟩ (.int .i64 p)).setCell ⟨b5, 1, none⟩ (.int .u64 row)).setCell ⟨b5, 2, none⟩ (.int .u8 sum))) := ⟨below_set (below_set (below_set B4.out hge) hge) hge⟩
  clear e1 e2 e3 hne hge B3 E3 E4 E5 B4 G5 N5 hy0 hy1 hy2 hf0 hf1 hf2
  generalize ((w4.setCell ⟨b5, 0, none⟩ (.int .i64 p)).setCell ⟨b5, 1, none⟩ (.int .u64 row)).setCell ⟨b5, 2, none⟩ (.int .u8 sum) = w5 at F5 F2 B5 ⊢
  have hq3 := (blk_cell F2.out 3).trans (show _ = some (.string a0_3) from rfl)
  have hp0 := (blk_cell F5.out 0).trans (show _ = some (.int .i64 p) from rfl)
  have hp1 := (blk_cell F5.out 1).trans (show _ = some (.int .u64 row) from rfl)
  have hp2 := (blk_cell F5.out 2).trans (show _ = some (.int .u8 sum) from rfl)
  have hlt : b5 < w5.drew.heap.size := blk_lt F5.out
  have hb0 : (Lib.bytesWorld w5.drew 5 a0_3).cell? ⟨b5, 0, none⟩ = some (.int .i64 p) := (Lib.bytesWorld_old w5.drew _ a0_3 _ hlt).trans hp0
  have hb1 : (Lib.bytesWorld w5.drew 5 a0_3).cell? ⟨b5, 1, none⟩ = some (.int .u64 row) := (Lib.bytesWorld_old w5.drew _ a0_3 _ hlt).trans hp1
  have hb2 : (Lib.bytesWorld w5.drew 5 a0_3).cell? ⟨b5, 2, none⟩ = some (.int .u8 sum) := (Lib.bytesWorld_old w5.drew _ a0_3 _ hlt).trans hp2
  have CS : Aside0 (Calls Try.prog 129 #[.slice (some ⟨w5.heap.size, 0, none⟩) a0_3.size (grownCap w5.drew a0_3.size 0 5), .int .i64 p, .int .u64 row] (Lib.bytesWorld w5.drew 5 a0_3) fun e w' => e = .returned (.int .u8 s) ∧ Drawn0 (Lib.bytesWorld w5.drew 5 a0_3) w') := by
    have h := impl_solve.calls k (some ⟨w5.drew.heap.size, 0, none⟩) (grownCap w5.drew a0_3.size 0 5) (bytesOf a0_3) p row s (Lib.bytesWorld w5.drew 5 a0_3) ((RowB.new w5.drew a0_3).reads (by rw [bytesOf_length]; omega)) (by rw [bytesOf_length]; exact grownCap_ge _ _ _ _) A3.out
    rw [bytesOf_length] at h
    exact ⟨h⟩
  have BF : Aside0 (Below w.heap.size w (Lib.bytesWorld w5.drew 5 a0_3)) := ⟨below_step (below_drew1 B5.out) (bytesW_below w5.drew a0_3)⟩
  have hb3 : (Lib.bytesWorld w5.drew 5 a0_3).cell? ⟨b2, 3, none⟩ = some (.string a0_3) := (Lib.bytesWorld_old w5.drew _ a0_3 _ (blk_lt F2.out)).trans hq3
  go_region_held (fun w' => w'.cell? ⟨b2, 3, none⟩ = some (.string a0_3) ∧ w'.cell? ⟨b5, 0, none⟩ = some (.int .i64 p) ∧ w'.cell? ⟨b5, 1, none⟩ = some (.int .u64 row) ∧ w'.cell? ⟨b5, 2, none⟩ = some (.int .u8 sum) ∧ Aside0 (Below w.heap.size w w')) (first | exact ⟨hq3, hp0, hp1, hp2, ⟨below_drew1 B5.out⟩⟩ | exact ⟨hb3, hb0, hb1, hb2, BF⟩ | exact ⟨hb3, hb0, hb1, hb2, ⟨pw_below_drewN BF.out _⟩⟩) (first | (go_at_call 129; (with_reducible refine CS.out.mono ?_); rintro e w6 ⟨rfl, nd, rfl⟩))
  all_goals
    go_wp2
    go_ret
    exact ⟨rfl, pw_below_drewN BF.out _⟩
def impl_bloomMay.l0 : Nat → List Int → Int → Int → Int → Int → Int → ByteArray → Option (Bool)
  | 0, _, _, _, _, _, _, _ => none
  | k + 1, x13, x14, x15, x102000, x102001, x102002, x102003 => if x15 < x14 then (if 0 ≤ x15 then (if x15 < (x13.length : Int) then (if 0 ≤ (IntKind.u64.wrap (Int.tdiv (rd x13 x15) 8)) then (if (IntKind.u64.wrap (Int.tdiv (rd x13 x15) 8)) < (x102003.size : Int) then (if 0 ≤ (Int.tmod (rd x13 x15) 8) then (if (Go.bits .and .u8 (shr .u8 (bt x102003 (IntKind.u64.wrap (Int.tdiv (rd x13 x15) 8))) (Int.tmod (rd x13 x15) 8)) 1) = 0 then (some false) else (impl_bloomMay.l0 k x13 x14 (wrap64 (x15 + 1)) x102000 x102001 x102002 x102003)) else (none)) else (none)) else (none)) else (none)) else (none)) else (some true)
def impl_bloomMay.f (k : Nat) (a0_0 : Int) (a0_1 : Int) (a0_2 : Int) (a0_3 : ByteArray) (a1 : ByteArray) : Option (Bool) := (impl_probes.f k a1 a0_2 (a0_3.size : Int)).bind fun t102 => (impl_bloomMay.l0 k t102 (t102.length : Int) 0 a0_0 a0_1 a0_2 a0_3)
set_option maxHeartbeats 8000000 in
set_option maxRecDepth 100000 in
theorem impl_bloomMay.calls (k : Nat) (a0_0 : Int) (a0_1 : Int) (a0_2 : Int) (a0_3 : ByteArray) (a1 : ByteArray) (r : Bool) (w : World) (h : impl_bloomMay.f k a0_0 a0_1 a0_2 a0_3 a1 = some r) :
    Calls Try.prog 133 #[.agg #[.int .i64 a0_0, .int .i64 a0_1, .int .i64 a0_2, .string a0_3], .string a1] w fun e w' => e = .returned (.bool r) ∧ Below w.heap.size w w' := by
  have hu46 := Try.underlying46
  have HB := Aside0.mk (Below.refl w.heap.size w)
  have H : ((impl_probes.f k a1 a0_2 (a0_3.size : Int)).bind fun t102 => (impl_bloomMay.l0 k t102 (t102.length : Int) 0 a0_0 a0_1 a0_2 a0_3)) = some r := h
  clear h
  replace H := Option.bind_eq_some_iff.mp H
  obtain ⟨t102, A30, H⟩ := H
  replace H : (impl_bloomMay.l0 k t102 (t102.length : Int) 0 a0_0 a0_1 a0_2 a0_3) = some r := H
  have A3 := Aside0.mk A30
  clear A30
  have H' := Aside0.mk H
  clear H
  go_enter Try.func133, Try.ntmps133
  go_wp2_with (first | ((with_reducible refine gate_dst (N := 2) rfl ?_); refine box_event ?hg (N := 2) ?hd (cs := #[.int .i64 a0_0, .int .i64 a0_1, .int .i64 a0_2, .string a0_3]) (t := 46) ?hr ?_; (case hd => rfl); (case hg => rfl); (case hr => first | (go_simp; done) | (go_simp; rfl)); intro gb101 hg w4 hbox hb; have n0_ := Aside0.mk (below_step (by repeat (first | (with_reducible first | exact HB.out | apply below_alloc | apply pw_below_drewN | apply below_drew1) | exact HB.out)) hb); have n1_ := Aside0.mk (hbox); have n2_ := Aside0.mk ((by rw [hg]; exact (below_size (by repeat (first | (with_reducible first | exact HB.out | apply below_alloc | apply pw_below_drewN | apply below_drew1) | exact HB.out))) : w.heap.size ≤ gb101)); have n3_ := Aside0.mk ((by rw [hg]; exact (below_size (by repeat (first | (with_reducible first | exact HB.out | apply below_alloc | apply pw_below_drewN | apply below_drew1) | exact HB.out))) : w.heap.size ≤ gb101)); clear HB; have HB := n0_; have BK101 := n1_; have GW101 := n2_; have GE101 := n3_; clear n0_ n1_ n2_ n3_; clear hb hbox hg; have hcz5_0 : w4.cell? ⟨gb101, 0, none⟩ = some (.int .i64 a0_0) := (blk_cell BK101.out 0).trans rfl; have hcz5_1 : w4.cell? ⟨gb101, 1, none⟩ = some (.int .i64 a0_1) := (blk_cell BK101.out 1).trans rfl; have hcz5_2 : w4.cell? ⟨gb101, 2, none⟩ = some (.int .i64 a0_2) := (blk_cell BK101.out 2).trans rfl; have hcz5_3 : w4.cell? ⟨gb101, 3, none⟩ = some (.string a0_3) := (blk_cell BK101.out 3).trans rfl; have hfz5_0 := blk_frozen BK101.out 0; have hfz5_1 := blk_frozen BK101.out 1; have hfz5_2 := blk_frozen BK101.out 2; have hfz5_3 := blk_frozen BK101.out 3) | ((with_reducible refine gate_callee (f := 130) rfl ?_); refine goesL_ (some 13) rfl rfl Try.func130 (by kernel_rfl) rfl #[.string a1, .int .i64 a0_2, .int .i64 (a0_3.size : Int)] rfl (by (try simp only [List.map_toArray, List.map_cons, List.map_nil]); first | done | rfl | (simp only [List.length_drop, List.length_take]; rfl) | (rw [IntWalk.u64_in _ (by omega)] <;> rfl)) ?_; (with_reducible refine (impl_probes.calls k a1 a0_2 (a0_3.size : Int) t102 _ A3.out).mono ?_); rintro e w6 ⟨v103, rfl, ho0, hb⟩; refine ⟨_, rfl, ?_⟩; have n0_ := Aside0.mk (Kd.R_lower ho0 (below_size (by repeat (first | (with_reducible first | exact HB.out | apply below_alloc | apply pw_below_drewN | apply below_drew1 | refine below_set ?_ GE101.out) | exact HB.out)))); have n1_ := Aside0.mk (blk_below (g := gb101) (o := .cells #[.int .i64 a0_0, .int .i64 a0_1, .int .i64 a0_2, .string a0_3] 46 (0, 0)) (by (with_reducible repeat (first | refine blk_drewN ?_ _ | refine blk_drew ?_ | refine blk_alloc ?_ _)); exact BK101.out) hb); have n2_ := Aside0.mk (below_step (by repeat (first | (with_reducible first | exact HB.out | apply below_alloc | apply pw_below_drewN | apply below_drew1 | refine below_set ?_ GE101.out) | exact HB.out)) hb); clear BK101; clear HB; have HO104 := n0_; have BK101 := n1_; have HB := n2_; clear n0_ n1_ n2_; (try clear hb); (try clear hb2); (try clear hk); (try clear hi); (try clear ho0); obtain ⟨Ao7, co7, eo7⟩ := Kd.R_slice HO104.out; subst eo7))
  go_loopg [15] k (fun kq v15 w' => ∃ (x15_1 : Int), v15 = .int .i64 x15_1 ∧ Aside0 (impl_bloomMay.l0 kq t102 (t102.length : Int) x15_1 a0_0 a0_1 a0_2 a0_3 = some r) ∧ Aside0 (kq ≤ k) ∧ Aside0 (Kd.R (Kd.int .u64) 96 w' w.heap.size (fun _ => True) (.slice Ao7 t102.length co7) t102) ∧ Aside0 (w'.heap[gb101]? = some (.cells #[.int .i64 a0_0, .int .i64 a0_1, .int .i64 a0_2, .string a0_3] 46 (0, 0))) ∧ Aside0 (Below w.heap.size w w'))
  case atStart => exact ⟨(0), (by first | rfl | (simp; done) | (simp [*]; done)), H', ⟨Nat.le_refl _⟩, ⟨by (with_reducible repeat (first | apply Kd.R_alloc | apply Kd.R_drewN | apply Kd.R_drew)); exact HO104.out⟩, ⟨by (with_reducible repeat (first | refine blk_drewN ?_ _ | refine blk_drew ?_ | refine blk_alloc ?_ _)); exact BK101.out⟩, ⟨by repeat (first | (with_reducible first | exact HB.out | apply below_alloc | apply pw_below_drewN | apply below_drew1 | refine below_set ?_ GE101.out) | exact HB.out)⟩⟩
  case round =>
    clear H'
    try clear c1
    try clear p2
    try clear hcz5_0
    try clear hcz5_1
    try clear hcz5_2
    try clear hcz5_3
    try clear hfz5_0
    try clear hfz5_1
    try clear hfz5_2
    try clear hfz5_3
    obtain ⟨x15_1, rfl, HA, HK1, HO_13, BK101, HB⟩ := hrel
    cases gk with
    | zero => exact absurd HA.out (by simp [impl_bloomMay.l0])
    | succ k1 =>
      have H := HA.out
      clear HA
      simp only [impl_bloomMay.l0] at H
      by_cases c8 : x15_1 < (t102.length : Int)
      · rw [if_pos c8] at H
        have c8b0 : decide (x15_1 < (t102.length : Int)) = true := decide_eq_true c8
        clear c8
        by_cases c9 : 0 ≤ x15_1
        · rw [if_pos c9] at H
          have c9b0 : decide (0 ≤ x15_1) = true := decide_eq_true c9
          clear c9
          by_cases c10 : x15_1 < (t102.length : Int)
          · rw [if_pos c10] at H
            have c10b0 : decide (x15_1 < (t102.length : Int)) = true := decide_eq_true c10
            clear c10
            obtain ⟨ji11, hji11⟩ : ∃ j_ : Int, (IntKind.u64.wrap (Int.tdiv (rd t102 x15_1) 8)) = j_ := ⟨_, rfl⟩
            replace H : (if 0 ≤ (ji11) then (if (ji11) < (a0_3.size : Int) then (if 0 ≤ (Int.tmod (rd t102 x15_1) 8) then (if (Go.bits .and .u8 (shr .u8 (bt a0_3 (ji11)) (Int.tmod (rd t102 x15_1) 8)) 1) = 0 then (some false) else (impl_bloomMay.l0 k1 t102 (t102.length : Int) (wrap64 (x15_1 + 1)) a0_0 a0_1 a0_2 a0_3)) else (none)) else (none)) else (none)) = some r := by first | (rw [hji11] at H; exact H) | (simp only [hji11] at H ⊢; exact H)
            by_cases c12 : 0 ≤ (ji11)
            · rw [if_pos c12] at H
              have c12b0 : decide (0 ≤ (ji11)) = true := decide_eq_true c12
              clear c12
              by_cases c13 : (ji11) < (a0_3.size : Int)
              · rw [if_pos c13] at H
                have c13b0 : decide ((ji11) < (a0_3.size : Int)) = true := decide_eq_true c13
                clear c13
                obtain ⟨ji15, hji15⟩ : ∃ j_ : Int, (Int.tmod (rd t102 x15_1) 8) = j_ := ⟨_, rfl⟩
                replace H : (if 0 ≤ (ji15) then (if (Go.bits .and .u8 (shr .u8 (bt a0_3 (ji11)) (ji15)) 1) = 0 then (some false) else (impl_bloomMay.l0 k1 t102 (t102.length : Int) (wrap64 (x15_1 + 1)) a0_0 a0_1 a0_2 a0_3)) else (none)) = some r := by first | (rw [hji15] at H; exact H) | (simp only [hji15] at H ⊢; exact H)
                by_cases c16 : 0 ≤ (ji15)
                · rw [if_pos c16] at H
                  have c16b0 := eq_true c16
                  have c16b1 : decide (0 ≤ (ji15)) = true := decide_eq_true c16
                  clear c16
                  obtain ⟨ji17, hji17⟩ : ∃ j_ : Int, (shr .u8 (bt a0_3 (ji11)) (ji15)) = j_ := ⟨_, rfl⟩
                  replace H : (if (Go.bits .and .u8 (ji17) 1) = 0 then (some false) else (impl_bloomMay.l0 k1 t102 (t102.length : Int) (wrap64 (x15_1 + 1)) a0_0 a0_1 a0_2 a0_3)) = some r := by first | (rw [hji17] at H; exact H) | (simp only [hji17] at H ⊢; exact H)
                  have hji17_ : ((bt a0_3 (ji11)) / 2 ^ min (ji15).toNat 8) = ji17 := hji17
                  have hji17z : (ji15) ≤ 8 → ((bt a0_3 (ji11)) / 2 ^ (ji15).toNat) = ji17 := shr_small hji17
                  by_cases c18 : (Go.bits .and .u8 (ji17) 1) = 0
                  · rw [if_pos c18] at H
                    have c18b0 : ((Go.bits .and .u8 (ji17) 1) == 0) = true := beq_iff_eq.mpr c18
                    have c18b1 : ((Go.bits .and .u8 (ji17) 1) != 0) = false := bne_eq_false_iff_eq.mpr c18
                    clear c18
                    obtain rfl := Option.some.inj H
                    have p105 : 0 ≤ (x15_1 : Int) := of_decide_eq_true (by first | (with_reducible assumption) | assumption)
                    have q105 : x15_1 < (t102.length : Int) := of_decide_eq_true (by first | (with_reducible assumption) | assumption)
                    obtain ⟨ad105, e105, hx105_0⟩ := Kd.at_int (Kd.R_reads' HO_13.out).2.2 x15_1 p105 q105
                    cases e105
                    replace p105 := eq_true p105
                    replace q105 := eq_true q105
                    have hcz19_0 : wr.cell? ⟨gb101, 0, none⟩ = some (.int .i64 a0_0) := (blk_cell BK101.out 0).trans rfl
                    have hcz19_1 : wr.cell? ⟨gb101, 1, none⟩ = some (.int .i64 a0_1) := (blk_cell BK101.out 1).trans rfl
                    have hcz19_2 : wr.cell? ⟨gb101, 2, none⟩ = some (.int .i64 a0_2) := (blk_cell BK101.out 2).trans rfl
                    have hcz19_3 : wr.cell? ⟨gb101, 3, none⟩ = some (.string a0_3) := (blk_cell BK101.out 3).trans rfl
                    have hfz19_0 := blk_frozen BK101.out 0
                    have hfz19_1 := blk_frozen BK101.out 1
                    have hfz19_2 := blk_frozen BK101.out 2
                    have hfz19_3 := blk_frozen BK101.out 3
                    have p14 : 0 ≤ ((ji11) : Int) := of_decide_eq_true (by first | (with_reducible assumption) | assumption)
                    have q14 : (ji11) < (a0_3.size : Int) := of_decide_eq_true (by first | (with_reducible assumption) | assumption)
                    have hx14 := bt_at a0_3 (ji11)
                    replace p14 := eq_true p14
                    replace q14 := eq_true q14
                    go_wp2
                    go_ret
                    exact ⟨by first | rfl | (simp [errW_none, errW_some] <;> rfl) | (simp only [← hji11, ← hji15, ← hji17]; first | rfl | (simp [errW_none, errW_some] <;> rfl)) | (simp [*, errW_none, errW_some] <;> rfl), by repeat (first | (with_reducible first | exact HB.out | apply below_alloc | apply pw_below_drewN | apply below_drew1 | refine below_set ?_ GE101.out) | exact HB.out)⟩
                  · rw [if_neg c18] at H
                    have c18b0 : ((Go.bits .and .u8 (ji17) 1) == 0) = false := beq_eq_false_iff_ne.mpr c18
                    have c18b1 : ((Go.bits .and .u8 (ji17) 1) != 0) = true := bne_iff_ne.mpr c18
                    have H' := Aside0.mk H
                    clear H
                    have p105 : 0 ≤ (x15_1 : Int) := of_decide_eq_true (by first | (with_reducible assumption) | assumption)
                    have q105 : x15_1 < (t102.length : Int) := of_decide_eq_true (by first | (with_reducible assumption) | assumption)
                    obtain ⟨ad105, e105, hx105_0⟩ := Kd.at_int (Kd.R_reads' HO_13.out).2.2 x15_1 p105 q105
                    cases e105
                    replace p105 := eq_true p105
                    replace q105 := eq_true q105
                    have hcz20_0 : wr.cell? ⟨gb101, 0, none⟩ = some (.int .i64 a0_0) := (blk_cell BK101.out 0).trans rfl
                    have hcz20_1 : wr.cell? ⟨gb101, 1, none⟩ = some (.int .i64 a0_1) := (blk_cell BK101.out 1).trans rfl
                    have hcz20_2 : wr.cell? ⟨gb101, 2, none⟩ = some (.int .i64 a0_2) := (blk_cell BK101.out 2).trans rfl
                    have hcz20_3 : wr.cell? ⟨gb101, 3, none⟩ = some (.string a0_3) := (blk_cell BK101.out 3).trans rfl
                    have hfz20_0 := blk_frozen BK101.out 0
                    have hfz20_1 := blk_frozen BK101.out 1
                    have hfz20_2 := blk_frozen BK101.out 2
                    have hfz20_3 := blk_frozen BK101.out 3
                    have p14 : 0 ≤ ((ji11) : Int) := of_decide_eq_true (by first | (with_reducible assumption) | assumption)
                    have q14 : (ji11) < (a0_3.size : Int) := of_decide_eq_true (by first | (with_reducible assumption) | assumption)
                    have hx14 := bt_at a0_3 (ji11)
                    replace p14 := eq_true p14
                    replace q14 := eq_true q14
                    go_wp2
                    go_roundg k1
                    case measure => have := HK1.out; omega
                    case rel => exact ⟨(wrap64 (x15_1 + 1)), (by first | rfl | (simp; done) | (simp [*]; done)), H', ⟨by have := HK1.out; omega⟩, ⟨by (with_reducible repeat (first | apply Kd.R_alloc | apply Kd.R_drewN | apply Kd.R_drew)); exact HO_13.out⟩, ⟨by (with_reducible repeat (first | refine blk_drewN ?_ _ | refine blk_drew ?_ | refine blk_alloc ?_ _)); exact BK101.out⟩, ⟨by repeat (first | (with_reducible first | exact HB.out | apply below_alloc | apply pw_below_drewN | apply below_drew1 | refine below_set ?_ GE101.out) | exact HB.out)⟩⟩
                · rw [if_neg c16] at H
                  exact absurd H (by simp)
              · rw [if_neg c13] at H
                exact absurd H (by simp)
            · rw [if_neg c12] at H
              exact absurd H (by simp)
          · rw [if_neg c10] at H
            exact absurd H (by simp)
        · rw [if_neg c9] at H
          exact absurd H (by simp)
      · rw [if_neg c8] at H
        have c8b0 : decide (x15_1 < (t102.length : Int)) = false := decide_eq_false c8
        clear c8
        obtain rfl := Option.some.inj H
        go_wp2
        go_ret
        exact ⟨by first | rfl | (simp [errW_none, errW_some] <;> rfl) | (simp [*, errW_none, errW_some] <;> rfl), by repeat (first | (with_reducible first | exact HB.out | apply below_alloc | apply pw_below_drewN | apply below_drew1 | refine below_set ?_ GE101.out) | exact HB.out)⟩
def impl_BloomMay.f (k : Nat) (a0_0 : Int) (a0_1 : Int) (a0_2 : Int) (a0_3 : ByteArray) (a1 : ByteArray) : Option (Bool) := if a0_0 = 1 then ((impl_FilterOk.f k a0_0 a0_1 a0_2 a0_3).bind fun t102 => (if t102 = true then ((impl_bloomMay.f k a0_0 a0_1 a0_2 a0_3 a1).bind fun t103 => (some t103)) else (some true))) else (some true)
set_option maxHeartbeats 8000000 in
set_option maxRecDepth 100000 in
theorem impl_BloomMay.calls (k : Nat) (a0_0 : Int) (a0_1 : Int) (a0_2 : Int) (a0_3 : ByteArray) (a1 : ByteArray) (r : Bool) (w : World) (h : impl_BloomMay.f k a0_0 a0_1 a0_2 a0_3 a1 = some r) :
    Calls Try.prog 104 #[.agg #[.int .i64 a0_0, .int .i64 a0_1, .int .i64 a0_2, .string a0_3], .string a1] w fun e w' => e = .returned (.bool r) ∧ Below w.heap.size w w' := by
  have hu46 := Try.underlying46
  have HB := Aside0.mk (Below.refl w.heap.size w)
  have H : (if a0_0 = 1 then ((impl_FilterOk.f k a0_0 a0_1 a0_2 a0_3).bind fun t102 => (if t102 = true then ((impl_bloomMay.f k a0_0 a0_1 a0_2 a0_3 a1).bind fun t103 => (some t103)) else (some true))) else (some true)) = some r := h
  clear h
  by_cases c3 : a0_0 = 1
  · rw [if_pos c3] at H
    have c3b0 : (a0_0 == 1) = true := beq_iff_eq.mpr c3
    have c3b1 : (a0_0 != 1) = false := bne_eq_false_iff_eq.mpr c3
    clear c3
    replace H := Option.bind_eq_some_iff.mp H
    obtain ⟨t102, A40, H⟩ := H
    replace H : (if t102 = true then ((impl_bloomMay.f k a0_0 a0_1 a0_2 a0_3 a1).bind fun t103 => (some t103)) else (some true)) = some r := H
    have A4 := Aside0.mk A40
    clear A40
    by_cases c5 : t102 = true
    · subst c5
      have H1 : ((impl_bloomMay.f k a0_0 a0_1 a0_2 a0_3 a1).bind fun t103 => (some t103)) = some r := by rw [if_pos rfl] at H; exact H
      clear H
      have H := H1
      clear H1
      replace H := Option.bind_eq_some_iff.mp H
      obtain ⟨t103, A60, H⟩ := H
      replace H : (some t103) = some r := H
      have A6 := Aside0.mk A60
      clear A60
      obtain rfl := Option.some.inj H
      go_enter Try.func104, Try.ntmps104
      go_wp2_with (first | ((with_reducible refine gate_dst (N := 2) rfl ?_); refine box_event ?hg (N := 2) ?hd (cs := #[.int .i64 a0_0, .int .i64 a0_1, .int .i64 a0_2, .string a0_3]) (t := 46) ?hr ?_; (case hd => rfl); (case hg => rfl); (case hr => first | (go_simp; done) | (go_simp; rfl)); intro gb101 hg w7 hbox hb; have n0_ := Aside0.mk (below_step (by repeat (first | (with_reducible first | exact HB.out | apply below_alloc | apply pw_below_drewN | apply below_drew1) | exact HB.out)) hb); have n1_ := Aside0.mk (hbox); have n2_ := Aside0.mk ((by rw [hg]; exact (below_size (by repeat (first | (with_reducible first | exact HB.out | apply below_alloc | apply pw_below_drewN | apply below_drew1) | exact HB.out))) : w.heap.size ≤ gb101)); have n3_ := Aside0.mk ((by rw [hg]; exact (below_size (by repeat (first | (with_reducible first | exact HB.out | apply below_alloc | apply pw_below_drewN | apply below_drew1) | exact HB.out))) : w.heap.size ≤ gb101)); clear HB; have HB := n0_; have BK101 := n1_; have GW101 := n2_; have GE101 := n3_; clear n0_ n1_ n2_ n3_; clear hb hbox hg; have hcz8_0 : w7.cell? ⟨gb101, 0, none⟩ = some (.int .i64 a0_0) := (blk_cell BK101.out 0).trans rfl; have hcz8_1 : w7.cell? ⟨gb101, 1, none⟩ = some (.int .i64 a0_1) := (blk_cell BK101.out 1).trans rfl; have hcz8_2 : w7.cell? ⟨gb101, 2, none⟩ = some (.int .i64 a0_2) := (blk_cell BK101.out 2).trans rfl; have hcz8_3 : w7.cell? ⟨gb101, 3, none⟩ = some (.string a0_3) := (blk_cell BK101.out 3).trans rfl; have hfz8_0 := blk_frozen BK101.out 0; have hfz8_1 := blk_frozen BK101.out 1; have hfz8_2 := blk_frozen BK101.out 2; have hfz8_3 := blk_frozen BK101.out 3) | (go_at_call 56; (with_reducible refine (impl_FilterOk.calls k a0_0 a0_1 a0_2 a0_3 true _ A4.out).mono ?_); rintro e w9 ⟨rfl, hb⟩; have n0_ := Aside0.mk (blk_below (g := gb101) (o := .cells #[.int .i64 a0_0, .int .i64 a0_1, .int .i64 a0_2, .string a0_3] 46 (0, 0)) (by (with_reducible repeat (first | refine blk_drewN ?_ _ | refine blk_drew ?_ | refine blk_alloc ?_ _)); exact BK101.out) hb); have n1_ := Aside0.mk (below_step (by repeat (first | (with_reducible first | exact HB.out | apply below_alloc | apply pw_below_drewN | apply below_drew1 | refine below_set ?_ GE101.out) | exact HB.out)) hb); clear BK101; clear HB; have BK101 := n0_; have HB := n1_; clear n0_ n1_; (try clear hb); (try clear hb2); (try clear hk); (try clear hi); have hcz10_0 : w9.cell? ⟨gb101, 0, none⟩ = some (.int .i64 a0_0) := (blk_cell BK101.out 0).trans rfl; have hcz10_1 : w9.cell? ⟨gb101, 1, none⟩ = some (.int .i64 a0_1) := (blk_cell BK101.out 1).trans rfl; have hcz10_2 : w9.cell? ⟨gb101, 2, none⟩ = some (.int .i64 a0_2) := (blk_cell BK101.out 2).trans rfl; have hcz10_3 : w9.cell? ⟨gb101, 3, none⟩ = some (.string a0_3) := (blk_cell BK101.out 3).trans rfl; have hfz10_0 := blk_frozen BK101.out 0; have hfz10_1 := blk_frozen BK101.out 1; have hfz10_2 := blk_frozen BK101.out 2; have hfz10_3 := blk_frozen BK101.out 3) | (go_at_call 133; (with_reducible refine (impl_bloomMay.calls k a0_0 a0_1 a0_2 a0_3 a1 t103 _ A6.out).mono ?_); rintro e w11 ⟨rfl, hb⟩; have n0_ := Aside0.mk (blk_below (g := gb101) (o := .cells #[.int .i64 a0_0, .int .i64 a0_1, .int .i64 a0_2, .string a0_3] 46 (0, 0)) (by (with_reducible repeat (first | refine blk_drewN ?_ _ | refine blk_drew ?_ | refine blk_alloc ?_ _)); exact BK101.out) hb); have n1_ := Aside0.mk (below_step (by repeat (first | (with_reducible first | exact HB.out | apply below_alloc | apply pw_below_drewN | apply below_drew1 | refine below_set ?_ GE101.out) | exact HB.out)) hb); clear BK101; clear HB; have BK101 := n0_; have HB := n1_; clear n0_ n1_; (try clear hb); (try clear hb2); (try clear hk); (try clear hi)))
      go_ret
      exact ⟨by first | rfl | (simp [errW_none, errW_some] <;> rfl) | (simp [*, errW_none, errW_some] <;> rfl), by repeat (first | (with_reducible first | exact HB.out | apply below_alloc | apply pw_below_drewN | apply below_drew1 | refine below_set ?_ GE101.out) | exact HB.out)⟩
    · replace c5 := Bool.eq_false_iff.mpr c5
      subst c5
      have H1 : (some true) = some r := by rw [if_neg (show ¬ (false = true) by decide)] at H; exact H
      clear H
      have H := H1
      clear H1
      obtain rfl := Option.some.inj H
      go_enter Try.func104, Try.ntmps104
      go_wp2_with (first | ((with_reducible refine gate_dst (N := 2) rfl ?_); refine box_event ?hg (N := 2) ?hd (cs := #[.int .i64 a0_0, .int .i64 a0_1, .int .i64 a0_2, .string a0_3]) (t := 46) ?hr ?_; (case hd => rfl); (case hg => rfl); (case hr => first | (go_simp; done) | (go_simp; rfl)); intro gb101 hg w12 hbox hb; have n0_ := Aside0.mk (below_step (by repeat (first | (with_reducible first | exact HB.out | apply below_alloc | apply pw_below_drewN | apply below_drew1) | exact HB.out)) hb); have n1_ := Aside0.mk (hbox); have n2_ := Aside0.mk ((by rw [hg]; exact (below_size (by repeat (first | (with_reducible first | exact HB.out | apply below_alloc | apply pw_below_drewN | apply below_drew1) | exact HB.out))) : w.heap.size ≤ gb101)); have n3_ := Aside0.mk ((by rw [hg]; exact (below_size (by repeat (first | (with_reducible first | exact HB.out | apply below_alloc | apply pw_below_drewN | apply below_drew1) | exact HB.out))) : w.heap.size ≤ gb101)); clear HB; have HB := n0_; have BK101 := n1_; have GW101 := n2_; have GE101 := n3_; clear n0_ n1_ n2_ n3_; clear hb hbox hg; have hcz13_0 : w12.cell? ⟨gb101, 0, none⟩ = some (.int .i64 a0_0) := (blk_cell BK101.out 0).trans rfl; have hcz13_1 : w12.cell? ⟨gb101, 1, none⟩ = some (.int .i64 a0_1) := (blk_cell BK101.out 1).trans rfl; have hcz13_2 : w12.cell? ⟨gb101, 2, none⟩ = some (.int .i64 a0_2) := (blk_cell BK101.out 2).trans rfl; have hcz13_3 : w12.cell? ⟨gb101, 3, none⟩ = some (.string a0_3) := (blk_cell BK101.out 3).trans rfl; have hfz13_0 := blk_frozen BK101.out 0; have hfz13_1 := blk_frozen BK101.out 1; have hfz13_2 := blk_frozen BK101.out 2; have hfz13_3 := blk_frozen BK101.out 3) | (go_at_call 56; (with_reducible refine (impl_FilterOk.calls k a0_0 a0_1 a0_2 a0_3 false _ A4.out).mono ?_); rintro e w14 ⟨rfl, hb⟩; have n0_ := Aside0.mk (blk_below (g := gb101) (o := .cells #[.int .i64 a0_0, .int .i64 a0_1, .int .i64 a0_2, .string a0_3] 46 (0, 0)) (by (with_reducible repeat (first | refine blk_drewN ?_ _ | refine blk_drew ?_ | refine blk_alloc ?_ _)); exact BK101.out) hb); have n1_ := Aside0.mk (below_step (by repeat (first | (with_reducible first | exact HB.out | apply below_alloc | apply pw_below_drewN | apply below_drew1 | refine below_set ?_ GE101.out) | exact HB.out)) hb); clear BK101; clear HB; have BK101 := n0_; have HB := n1_; clear n0_ n1_; (try clear hb); (try clear hb2); (try clear hk); (try clear hi)))
      go_ret
      exact ⟨by first | rfl | (simp [errW_none, errW_some] <;> rfl) | (simp [*, errW_none, errW_some] <;> rfl), by repeat (first | (with_reducible first | exact HB.out | apply below_alloc | apply pw_below_drewN | apply below_drew1 | refine below_set ?_ GE101.out) | exact HB.out)⟩
  · rw [if_neg c3] at H
    have c3b0 : (a0_0 == 1) = false := beq_eq_false_iff_ne.mpr c3
    have c3b1 : (a0_0 != 1) = true := bne_iff_ne.mpr c3
    obtain rfl := Option.some.inj H
    go_enter Try.func104, Try.ntmps104
    go_wp2_with (first | ((with_reducible refine gate_dst (N := 2) rfl ?_); refine box_event ?hg (N := 2) ?hd (cs := #[.int .i64 a0_0, .int .i64 a0_1, .int .i64 a0_2, .string a0_3]) (t := 46) ?hr ?_; (case hd => rfl); (case hg => rfl); (case hr => first | (go_simp; done) | (go_simp; rfl)); intro gb101 hg w15 hbox hb; have n0_ := Aside0.mk (below_step (by repeat (first | (with_reducible first | exact HB.out | apply below_alloc | apply pw_below_drewN | apply below_drew1) | exact HB.out)) hb); have n1_ := Aside0.mk (hbox); have n2_ := Aside0.mk ((by rw [hg]; exact (below_size (by repeat (first | (with_reducible first | exact HB.out | apply below_alloc | apply pw_below_drewN | apply below_drew1) | exact HB.out))) : w.heap.size ≤ gb101)); have n3_ := Aside0.mk ((by rw [hg]; exact (below_size (by repeat (first | (with_reducible first | exact HB.out | apply below_alloc | apply pw_below_drewN | apply below_drew1) | exact HB.out))) : w.heap.size ≤ gb101)); clear HB; have HB := n0_; have BK101 := n1_; have GW101 := n2_; have GE101 := n3_; clear n0_ n1_ n2_ n3_; clear hb hbox hg; have hcz16_0 : w15.cell? ⟨gb101, 0, none⟩ = some (.int .i64 a0_0) := (blk_cell BK101.out 0).trans rfl; have hcz16_1 : w15.cell? ⟨gb101, 1, none⟩ = some (.int .i64 a0_1) := (blk_cell BK101.out 1).trans rfl; have hcz16_2 : w15.cell? ⟨gb101, 2, none⟩ = some (.int .i64 a0_2) := (blk_cell BK101.out 2).trans rfl; have hcz16_3 : w15.cell? ⟨gb101, 3, none⟩ = some (.string a0_3) := (blk_cell BK101.out 3).trans rfl; have hfz16_0 := blk_frozen BK101.out 0; have hfz16_1 := blk_frozen BK101.out 1; have hfz16_2 := blk_frozen BK101.out 2; have hfz16_3 := blk_frozen BK101.out 3))
    go_ret
    exact ⟨by first | rfl | (simp [errW_none, errW_some] <;> rfl) | (simp [*, errW_none, errW_some] <;> rfl), by repeat (first | (with_reducible first | exact HB.out | apply below_alloc | apply pw_below_drewN | apply below_drew1 | refine below_set ?_ GE101.out) | exact HB.out)⟩
def impl_FilterMay.f (k : Nat) (a0_0 : Int) (a0_1 : Int) (a0_2 : Int) (a0_3 : ByteArray) (a1 : ByteArray) : Option (Bool) := (impl_BloomMay.f k a0_0 a0_1 a0_2 a0_3 a1).bind fun t102 => (if t102 = true then ((impl_RibbonMay.f k a0_0 a0_1 a0_2 a0_3 a1).bind fun t103 => (some t103)) else (some false))
set_option maxHeartbeats 8000000 in
set_option maxRecDepth 100000 in
theorem impl_FilterMay.calls (k : Nat) (a0_0 : Int) (a0_1 : Int) (a0_2 : Int) (a0_3 : ByteArray) (a1 : ByteArray) (r : Bool) (w : World) (h : impl_FilterMay.f k a0_0 a0_1 a0_2 a0_3 a1 = some r) :
    Calls Try.prog 55 #[.agg #[.int .i64 a0_0, .int .i64 a0_1, .int .i64 a0_2, .string a0_3], .string a1] w fun e w' => e = .returned (.bool r) ∧ Below w.heap.size w w' := by
  have hu46 := Try.underlying46
  have HB := Aside0.mk (Below.refl w.heap.size w)
  have H : ((impl_BloomMay.f k a0_0 a0_1 a0_2 a0_3 a1).bind fun t102 => (if t102 = true then ((impl_RibbonMay.f k a0_0 a0_1 a0_2 a0_3 a1).bind fun t103 => (some t103)) else (some false))) = some r := h
  clear h
  replace H := Option.bind_eq_some_iff.mp H
  obtain ⟨t102, A30, H⟩ := H
  replace H : (if t102 = true then ((impl_RibbonMay.f k a0_0 a0_1 a0_2 a0_3 a1).bind fun t103 => (some t103)) else (some false)) = some r := H
  have A3 := Aside0.mk A30
  clear A30
  by_cases c4 : t102 = true
  · subst c4
    have H1 : ((impl_RibbonMay.f k a0_0 a0_1 a0_2 a0_3 a1).bind fun t103 => (some t103)) = some r := by rw [if_pos rfl] at H; exact H
    clear H
    have H := H1
    clear H1
    replace H := Option.bind_eq_some_iff.mp H
    obtain ⟨t103, A50, H⟩ := H
    replace H : (some t103) = some r := H
    have A5 := Aside0.mk A50
    clear A50
    obtain rfl := Option.some.inj H
    go_enter Try.func55, Try.ntmps55
    go_wp2_with (first | ((with_reducible refine gate_dst (N := 2) rfl ?_); refine box_event ?hg (N := 2) ?hd (cs := #[.int .i64 a0_0, .int .i64 a0_1, .int .i64 a0_2, .string a0_3]) (t := 46) ?hr ?_; (case hd => rfl); (case hg => rfl); (case hr => first | (go_simp; done) | (go_simp; rfl)); intro gb101 hg w6 hbox hb; have n0_ := Aside0.mk (below_step (by repeat (first | (with_reducible first | exact HB.out | apply below_alloc | apply pw_below_drewN | apply below_drew1) | exact HB.out)) hb); have n1_ := Aside0.mk (hbox); have n2_ := Aside0.mk ((by rw [hg]; exact (below_size (by repeat (first | (with_reducible first | exact HB.out | apply below_alloc | apply pw_below_drewN | apply below_drew1) | exact HB.out))) : w.heap.size ≤ gb101)); have n3_ := Aside0.mk ((by rw [hg]; exact (below_size (by repeat (first | (with_reducible first | exact HB.out | apply below_alloc | apply pw_below_drewN | apply below_drew1) | exact HB.out))) : w.heap.size ≤ gb101)); clear HB; have HB := n0_; have BK101 := n1_; have GW101 := n2_; have GE101 := n3_; clear n0_ n1_ n2_ n3_; clear hb hbox hg; have hcz7_0 : w6.cell? ⟨gb101, 0, none⟩ = some (.int .i64 a0_0) := (blk_cell BK101.out 0).trans rfl; have hcz7_1 : w6.cell? ⟨gb101, 1, none⟩ = some (.int .i64 a0_1) := (blk_cell BK101.out 1).trans rfl; have hcz7_2 : w6.cell? ⟨gb101, 2, none⟩ = some (.int .i64 a0_2) := (blk_cell BK101.out 2).trans rfl; have hcz7_3 : w6.cell? ⟨gb101, 3, none⟩ = some (.string a0_3) := (blk_cell BK101.out 3).trans rfl; have hfz7_0 := blk_frozen BK101.out 0; have hfz7_1 := blk_frozen BK101.out 1; have hfz7_2 := blk_frozen BK101.out 2; have hfz7_3 := blk_frozen BK101.out 3) | ((with_reducible refine gate_callee (f := 104) rfl ?_); refine goesL_ (some 7) rfl rfl Try.func104 (by kernel_rfl) rfl #[.agg #[.int .i64 a0_0, .int .i64 a0_1, .int .i64 a0_2, .string a0_3], .string a1] rfl (by (try simp only [List.map_toArray, List.map_cons, List.map_nil]); first | done | rfl | (simp only [List.length_drop, List.length_take]; rfl) | (rw [IntWalk.u64_in _ (by omega)] <;> rfl)) ?_; (with_reducible refine (impl_BloomMay.calls k a0_0 a0_1 a0_2 a0_3 a1 true _ A3.out).mono ?_); rintro e w8 ⟨rfl, hb⟩; refine ⟨_, rfl, ?_⟩; have n0_ := Aside0.mk (blk_below (g := gb101) (o := .cells #[.int .i64 a0_0, .int .i64 a0_1, .int .i64 a0_2, .string a0_3] 46 (0, 0)) (by (with_reducible repeat (first | refine blk_drewN ?_ _ | refine blk_drew ?_ | refine blk_alloc ?_ _)); exact BK101.out) hb); have n1_ := Aside0.mk (below_step (by repeat (first | (with_reducible first | exact HB.out | apply below_alloc | apply pw_below_drewN | apply below_drew1 | refine below_set ?_ GE101.out) | exact HB.out)) hb); clear BK101; clear HB; have BK101 := n0_; have HB := n1_; clear n0_ n1_; (try clear hb); (try clear hb2); (try clear hk); (try clear hi); have hcz9_0 : w8.cell? ⟨gb101, 0, none⟩ = some (.int .i64 a0_0) := (blk_cell BK101.out 0).trans rfl; have hcz9_1 : w8.cell? ⟨gb101, 1, none⟩ = some (.int .i64 a0_1) := (blk_cell BK101.out 1).trans rfl; have hcz9_2 : w8.cell? ⟨gb101, 2, none⟩ = some (.int .i64 a0_2) := (blk_cell BK101.out 2).trans rfl; have hcz9_3 : w8.cell? ⟨gb101, 3, none⟩ = some (.string a0_3) := (blk_cell BK101.out 3).trans rfl; have hfz9_0 := blk_frozen BK101.out 0; have hfz9_1 := blk_frozen BK101.out 1; have hfz9_2 := blk_frozen BK101.out 2; have hfz9_3 := blk_frozen BK101.out 3) | (go_at_call 105; (with_reducible refine (impl_RibbonMay.calls k a0_0 a0_1 a0_2 a0_3 a1 t103 _ A5.out).mono ?_); rintro e w10 ⟨rfl, hb⟩; have n0_ := Aside0.mk (blk_below (g := gb101) (o := .cells #[.int .i64 a0_0, .int .i64 a0_1, .int .i64 a0_2, .string a0_3] 46 (0, 0)) (by (with_reducible repeat (first | refine blk_drewN ?_ _ | refine blk_drew ?_ | refine blk_alloc ?_ _)); exact BK101.out) hb); have n1_ := Aside0.mk (below_step (by repeat (first | (with_reducible first | exact HB.out | apply below_alloc | apply pw_below_drewN | apply below_drew1 | refine below_set ?_ GE101.out) | exact HB.out)) hb); clear BK101; clear HB; have BK101 := n0_; have HB := n1_; clear n0_ n1_; (try clear hb); (try clear hb2); (try clear hk); (try clear hi)))
    go_ret
    exact ⟨by first | rfl | (simp [errW_none, errW_some] <;> rfl) | (simp [*, errW_none, errW_some] <;> rfl), by repeat (first | (with_reducible first | exact HB.out | apply below_alloc | apply pw_below_drewN | apply below_drew1 | refine below_set ?_ GE101.out) | exact HB.out)⟩
  · replace c4 := Bool.eq_false_iff.mpr c4
    subst c4
    have H1 : (some false) = some r := by rw [if_neg (show ¬ (false = true) by decide)] at H; exact H
    clear H
    have H := H1
    clear H1
    obtain rfl := Option.some.inj H
    go_enter Try.func55, Try.ntmps55
    go_wp2_with (first | ((with_reducible refine gate_dst (N := 2) rfl ?_); refine box_event ?hg (N := 2) ?hd (cs := #[.int .i64 a0_0, .int .i64 a0_1, .int .i64 a0_2, .string a0_3]) (t := 46) ?hr ?_; (case hd => rfl); (case hg => rfl); (case hr => first | (go_simp; done) | (go_simp; rfl)); intro gb101 hg w11 hbox hb; have n0_ := Aside0.mk (below_step (by repeat (first | (with_reducible first | exact HB.out | apply below_alloc | apply pw_below_drewN | apply below_drew1) | exact HB.out)) hb); have n1_ := Aside0.mk (hbox); have n2_ := Aside0.mk ((by rw [hg]; exact (below_size (by repeat (first | (with_reducible first | exact HB.out | apply below_alloc | apply pw_below_drewN | apply below_drew1) | exact HB.out))) : w.heap.size ≤ gb101)); have n3_ := Aside0.mk ((by rw [hg]; exact (below_size (by repeat (first | (with_reducible first | exact HB.out | apply below_alloc | apply pw_below_drewN | apply below_drew1) | exact HB.out))) : w.heap.size ≤ gb101)); clear HB; have HB := n0_; have BK101 := n1_; have GW101 := n2_; have GE101 := n3_; clear n0_ n1_ n2_ n3_; clear hb hbox hg; have hcz12_0 : w11.cell? ⟨gb101, 0, none⟩ = some (.int .i64 a0_0) := (blk_cell BK101.out 0).trans rfl; have hcz12_1 : w11.cell? ⟨gb101, 1, none⟩ = some (.int .i64 a0_1) := (blk_cell BK101.out 1).trans rfl; have hcz12_2 : w11.cell? ⟨gb101, 2, none⟩ = some (.int .i64 a0_2) := (blk_cell BK101.out 2).trans rfl; have hcz12_3 : w11.cell? ⟨gb101, 3, none⟩ = some (.string a0_3) := (blk_cell BK101.out 3).trans rfl; have hfz12_0 := blk_frozen BK101.out 0; have hfz12_1 := blk_frozen BK101.out 1; have hfz12_2 := blk_frozen BK101.out 2; have hfz12_3 := blk_frozen BK101.out 3) | ((with_reducible refine gate_callee (f := 104) rfl ?_); refine goesL_ (some 7) rfl rfl Try.func104 (by kernel_rfl) rfl #[.agg #[.int .i64 a0_0, .int .i64 a0_1, .int .i64 a0_2, .string a0_3], .string a1] rfl (by (try simp only [List.map_toArray, List.map_cons, List.map_nil]); first | done | rfl | (simp only [List.length_drop, List.length_take]; rfl) | (rw [IntWalk.u64_in _ (by omega)] <;> rfl)) ?_; (with_reducible refine (impl_BloomMay.calls k a0_0 a0_1 a0_2 a0_3 a1 false _ A3.out).mono ?_); rintro e w13 ⟨rfl, hb⟩; refine ⟨_, rfl, ?_⟩; have n0_ := Aside0.mk (blk_below (g := gb101) (o := .cells #[.int .i64 a0_0, .int .i64 a0_1, .int .i64 a0_2, .string a0_3] 46 (0, 0)) (by (with_reducible repeat (first | refine blk_drewN ?_ _ | refine blk_drew ?_ | refine blk_alloc ?_ _)); exact BK101.out) hb); have n1_ := Aside0.mk (below_step (by repeat (first | (with_reducible first | exact HB.out | apply below_alloc | apply pw_below_drewN | apply below_drew1 | refine below_set ?_ GE101.out) | exact HB.out)) hb); clear BK101; clear HB; have BK101 := n0_; have HB := n1_; clear n0_ n1_; (try clear hb); (try clear hb2); (try clear hk); (try clear hi)))
    go_ret
    exact ⟨by first | rfl | (simp [errW_none, errW_some] <;> rfl) | (simp [*, errW_none, errW_some] <;> rfl), by repeat (first | (with_reducible first | exact HB.out | apply below_alloc | apply pw_below_drewN | apply below_drew1 | refine below_set ?_ GE101.out) | exact HB.out)⟩
end Go.Proofs.Ytedgdnkbojjbmaa.P
end

section
namespace Go.Proofs.Ytedgdnkbojjbmaa.P
open Go.RowKit Go.Proofs.YtedgdnkbojjbmaaW.PrintWords Go.Proofs.YtedgdnkbojjbmaaW.PrintLast Go.Proofs.YtedgdnkbojjbmaaW.PrintMore
attribute [local go_sem] str_gtr str_leq str_geq max2_int min2_int max_two min_two max_three min_three max_four min_four
set_option linter.unusedVariables false
set_option linter.unusedSimpArgs false
attribute [local go_sem high] eqA46
mutual
def laws_FnFilters.j0 : Nat → List ByteArray → Int → Bool → Bool → Bool → Int → Int → Int → ByteArray → Int → Int → Int → ByteArray → Option (Bool)
  | 0, _, _, _, _, _, _, _, _, _, _, _, _, _ => none
  | k + 1, x3, x4, x6, x8, x40, x112000, x112001, x112002, x112003, x118000, x118001, x118002, x118003 => if x40 = true then (if (x112000 == x118000 && (x112001 == x118001 && (x112002 == x118002 && (x112003.toList == x118003.toList)))) = true then (some (x6 == x8)) else (none)) else (laws_FnFilters.l0 k x3 x4 0 x112000 x112001 x112002 x112003)
def laws_FnFilters.l0 : Nat → List ByteArray → Int → Int → Int → Int → Int → ByteArray → Option (Bool)
  | 0, _, _, _, _, _, _, _ => none
  | k + 1, x3, x4, x9, x112000, x112001, x112002, x112003 => if x9 < (x3.length : Int) then (if 0 ≤ x9 then ((impl_FilterMay.f k x112000 x112001 x112002 x112003 (rdOf ByteArray.empty x3 x9)).bind fun t119 => (if t119 = true then (laws_FnFilters.l0 k x3 x4 (wrap64 (x9 + 1)) x112000 x112001 x112002 x112003) else (none))) else (none)) else ((impl_FilterOk.f k x112000 x112001 x112002 x112003).bind fun t120 => (if t120 = true then (if x4 = 0 then ((impl_FilterMay.f k x112000 x112001 x112002 x112003 (⟨#[110, 111, 98, 111, 100, 121]⟩ : ByteArray)).bind fun t121 => (if t121 = true then (if x112000 = x4 then (some true) else (if x4 = 2 then (some (x112000 == 1)) else (none))) else (none))) else (if x112000 = x4 then (some true) else (if x4 = 2 then (some (x112000 == 1)) else (none)))) else (none)))
end
def laws_FnFilters.f (k : Nat) (l0 : List Int) : Option (Bool) := (laws_big.f l0).bind fun t101 => (if t101 = true then (some true) else ((spec_DrawFilterOf.f k l0).bind fun bt102 => ((impl_FilterOf.f k bt102.1 bt102.2).bind fun bt106 => ((spec_FilterOf.f k bt102.1 bt102.2).bind fun bt112 => (if (!(bt106.1 == bt112.1) || (!(bt106.2.1 == bt112.2.1) || (!(bt106.2.2.1 == bt112.2.2.1) || (!(bt106.2.2.2.1.toList == bt112.2.2.2.1.toList))))) = true then (laws_FnFilters.j0 k bt102.1 bt102.2 bt106.2.2.2.2 bt112.2.2.2.2 true bt106.1 bt106.2.1 bt106.2.2.1 bt106.2.2.2.1 bt112.1 bt112.2.1 bt112.2.2.1 bt112.2.2.2.1) else (if (bt106.2.2.2.2 != bt112.2.2.2.2) = true then (laws_FnFilters.j0 k bt102.1 bt102.2 bt106.2.2.2.2 bt112.2.2.2.2 true bt106.1 bt106.2.1 bt106.2.2.1 bt106.2.2.2.1 bt112.1 bt112.2.1 bt112.2.2.1 bt112.2.2.2.1) else (laws_FnFilters.j0 k bt102.1 bt102.2 bt106.2.2.2.2 bt112.2.2.2.2 (!bt106.2.2.2.2) bt106.1 bt106.2.1 bt106.2.2.1 bt106.2.2.2.1 bt112.1 bt112.2.1 bt112.2.2.1 bt112.2.2.2.1)))))))
set_option maxHeartbeats 8000000 in
set_option maxRecDepth 100000 in
theorem laws_FnFilters.calls (k : Nat) (A0 : Option Addr) (c0 : Nat) (l0 : List Int) (r : Bool) (w : World) (hr0 : Kd.C (Kd.int .u8) w A0 l0.length l0) (hc0 : l0.length ≤ c0) (h : laws_FnFilters.f k l0 = some r) :
    Calls Try.prog 12 #[.slice A0 l0.length c0] w fun e w' => e = .returned (.bool r) ∧ Below w.heap.size w w' := by
  have hu46 := Try.underlying46
  have HR0 := Aside0.mk hr0
  have HC0 := Aside0.mk hc0
  clear hr0 hc0
  have HB := Aside0.mk (Below.refl w.heap.size w)
  have H : ((laws_big.f l0).bind fun t101 => (if t101 = true then (some true) else ((spec_DrawFilterOf.f k l0).bind fun bt102 => ((impl_FilterOf.f k bt102.1 bt102.2).bind fun bt106 => ((spec_FilterOf.f k bt102.1 bt102.2).bind fun bt112 => (if (!(bt106.1 == bt112.1) || (!(bt106.2.1 == bt112.2.1) || (!(bt106.2.2.1 == bt112.2.2.1) || (!(bt106.2.2.2.1.toList == bt112.2.2.2.1.toList))))) = true then (laws_FnFilters.j0 k bt102.1 bt102.2 bt106.2.2.2.2 bt112.2.2.2.2 true bt106.1 bt106.2.1 bt106.2.2.1 bt106.2.2.2.1 bt112.1 bt112.2.1 bt112.2.2.1 bt112.2.2.2.1) else (if (bt106.2.2.2.2 != bt112.2.2.2.2) = true then (laws_FnFilters.j0 k bt102.1 bt102.2 bt106.2.2.2.2 bt112.2.2.2.2 true bt106.1 bt106.2.1 bt106.2.2.1 bt106.2.2.2.1 bt112.1 bt112.2.1 bt112.2.2.1 bt112.2.2.2.1) else (laws_FnFilters.j0 k bt102.1 bt102.2 bt106.2.2.2.2 bt112.2.2.2.2 (!bt106.2.2.2.2) bt106.1 bt106.2.1 bt106.2.2.1 bt106.2.2.2.1 bt112.1 bt112.2.1 bt112.2.2.1 bt112.2.2.2.1)))))))) = some r := h
  clear h
  replace H := Option.bind_eq_some_iff.mp H
  obtain ⟨t101, A20, H⟩ := H
  replace H : (if t101 = true then (some true) else ((spec_DrawFilterOf.f k l0).bind fun bt102 => ((impl_FilterOf.f k bt102.1 bt102.2).bind fun bt106 => ((spec_FilterOf.f k bt102.1 bt102.2).bind fun bt112 => (if (!(bt106.1 == bt112.1) || (!(bt106.2.1 == bt112.2.1) || (!(bt106.2.2.1 == bt112.2.2.1) || (!(bt106.2.2.2.1.toList == bt112.2.2.2.1.toList))))) = true then (laws_FnFilters.j0 k bt102.1 bt102.2 bt106.2.2.2.2 bt112.2.2.2.2 true bt106.1 bt106.2.1 bt106.2.2.1 bt106.2.2.2.1 bt112.1 bt112.2.1 bt112.2.2.1 bt112.2.2.2.1) else (if (bt106.2.2.2.2 != bt112.2.2.2.2) = true then (laws_FnFilters.j0 k bt102.1 bt102.2 bt106.2.2.2.2 bt112.2.2.2.2 true bt106.1 bt106.2.1 bt106.2.2.1 bt106.2.2.2.1 bt112.1 bt112.2.1 bt112.2.2.1 bt112.2.2.2.1) else (laws_FnFilters.j0 k bt102.1 bt102.2 bt106.2.2.2.2 bt112.2.2.2.2 (!bt106.2.2.2.2) bt106.1 bt106.2.1 bt106.2.2.1 bt106.2.2.2.1 bt112.1 bt112.2.1 bt112.2.2.1 bt112.2.2.2.1))))))) = some r := H
  have A2 := Aside0.mk A20
  clear A20
  by_cases c3 : t101 = true
  · subst c3
    have H1 : (some true) = some r := by rw [if_pos rfl] at H; exact H
    clear H
    have H := H1
    clear H1
    obtain rfl := Option.some.inj H
    go_enter Try.func12, Try.ntmps12
    go_wp2_with (first | ((with_reducible refine gate_callee (f := 31) rfl ?_); refine goesL_ (some 11) rfl rfl Try.func31 (by kernel_rfl) rfl #[.slice A0 l0.length c0] rfl (by (try simp only [List.map_toArray, List.map_cons, List.map_nil]); first | done | rfl | (simp only [List.length_drop, List.length_take]; rfl) | (rw [IntWalk.u64_in _ (by omega)] <;> rfl)) ?_; (with_reducible refine (laws_big.calls _ _ l0 true _ ?side1 ?side2 A2.out).mono ?_); (case side1 => repeat (first | exact HR0.out | (with_reducible refine Kd.C_alloc ?_ _) | (with_reducible refine Kd.C_drewN ?_ _) | (with_reducible refine Kd.C_drew ?_))); (case side2 => exact HC0.out); rintro e w' ⟨rfl, ⟨nd, rfl⟩⟩; refine ⟨_, rfl, ?_⟩))
    go_ret
    exact ⟨by first | rfl | (simp [errW_none, errW_some] <;> rfl) | (simp [*, errW_none, errW_some] <;> rfl), by repeat (first | (with_reducible first | exact HB.out | apply below_alloc | apply pw_below_drewN | apply below_drew1) | exact HB.out)⟩
  · replace c3 := Bool.eq_false_iff.mpr c3
    subst c3
    have H1 : ((spec_DrawFilterOf.f k l0).bind fun bt102 => ((impl_FilterOf.f k bt102.1 bt102.2).bind fun bt106 => ((spec_FilterOf.f k bt102.1 bt102.2).bind fun bt112 => (if (!(bt106.1 == bt112.1) || (!(bt106.2.1 == bt112.2.1) || (!(bt106.2.2.1 == bt112.2.2.1) || (!(bt106.2.2.2.1.toList == bt112.2.2.2.1.toList))))) = true then (laws_FnFilters.j0 k bt102.1 bt102.2 bt106.2.2.2.2 bt112.2.2.2.2 true bt106.1 bt106.2.1 bt106.2.2.1 bt106.2.2.2.1 bt112.1 bt112.2.1 bt112.2.2.1 bt112.2.2.2.1) else (if (bt106.2.2.2.2 != bt112.2.2.2.2) = true then (laws_FnFilters.j0 k bt102.1 bt102.2 bt106.2.2.2.2 bt112.2.2.2.2 true bt106.1 bt106.2.1 bt106.2.2.1 bt106.2.2.2.1 bt112.1 bt112.2.1 bt112.2.2.1 bt112.2.2.2.1) else (laws_FnFilters.j0 k bt102.1 bt102.2 bt106.2.2.2.2 bt112.2.2.2.2 (!bt106.2.2.2.2) bt106.1 bt106.2.1 bt106.2.2.1 bt106.2.2.2.1 bt112.1 bt112.2.1 bt112.2.2.1 bt112.2.2.2.1)))))) = some r := by rw [if_neg (show ¬ (false = true) by decide)] at H; exact H
    clear H
    have H := H1
    clear H1
    replace H := Option.bind_eq_some_iff.mp H
    obtain ⟨⟨t102, t103⟩, A40, H⟩ := H
    replace H : ((impl_FilterOf.f k t102 t103).bind fun bt106 => ((spec_FilterOf.f k t102 t103).bind fun bt112 => (if (!(bt106.1 == bt112.1) || (!(bt106.2.1 == bt112.2.1) || (!(bt106.2.2.1 == bt112.2.2.1) || (!(bt106.2.2.2.1.toList == bt112.2.2.2.1.toList))))) = true then (laws_FnFilters.j0 k t102 t103 bt106.2.2.2.2 bt112.2.2.2.2 true bt106.1 bt106.2.1 bt106.2.2.1 bt106.2.2.2.1 bt112.1 bt112.2.1 bt112.2.2.1 bt112.2.2.2.1) else (if (bt106.2.2.2.2 != bt112.2.2.2.2) = true then (laws_FnFilters.j0 k t102 t103 bt106.2.2.2.2 bt112.2.2.2.2 true bt106.1 bt106.2.1 bt106.2.2.1 bt106.2.2.2.1 bt112.1 bt112.2.1 bt112.2.2.1 bt112.2.2.2.1) else (laws_FnFilters.j0 k t102 t103 bt106.2.2.2.2 bt112.2.2.2.2 (!bt106.2.2.2.2) bt106.1 bt106.2.1 bt106.2.2.1 bt106.2.2.2.1 bt112.1 bt112.2.1 bt112.2.2.1 bt112.2.2.2.1))))) = some r := H
    have A4 := Aside0.mk A40
    clear A40
    replace H := Option.bind_eq_some_iff.mp H
    obtain ⟨⟨t106, t107, t108, t109, t110⟩, A50, H⟩ := H
    replace H : ((spec_FilterOf.f k t102 t103).bind fun bt112 => (if (!(t106 == bt112.1) || (!(t107 == bt112.2.1) || (!(t108 == bt112.2.2.1) || (!(t109.toList == bt112.2.2.2.1.toList))))) = true then (laws_FnFilters.j0 k t102 t103 t110 bt112.2.2.2.2 true t106 t107 t108 t109 bt112.1 bt112.2.1 bt112.2.2.1 bt112.2.2.2.1) else (if (t110 != bt112.2.2.2.2) = true then (laws_FnFilters.j0 k t102 t103 t110 bt112.2.2.2.2 true t106 t107 t108 t109 bt112.1 bt112.2.1 bt112.2.2.1 bt112.2.2.2.1) else (laws_FnFilters.j0 k t102 t103 t110 bt112.2.2.2.2 (!t110) t106 t107 t108 t109 bt112.1 bt112.2.1 bt112.2.2.1 bt112.2.2.2.1)))) = some r := H
    have A5 := Aside0.mk A50
    clear A50
    replace H := Option.bind_eq_some_iff.mp H
    obtain ⟨⟨t112, t113, t114, t115, t116⟩, A60, H⟩ := H
    replace H : (if (!(t106 == t112) || (!(t107 == t113) || (!(t108 == t114) || (!(t109.toList == t115.toList))))) = true then (laws_FnFilters.j0 k t102 t103 t110 t116 true t106 t107 t108 t109 t112 t113 t114 t115) else (if (t110 != t116) = true then (laws_FnFilters.j0 k t102 t103 t110 t116 true t106 t107 t108 t109 t112 t113 t114 t115) else (laws_FnFilters.j0 k t102 t103 t110 t116 (!t110) t106 t107 t108 t109 t112 t113 t114 t115))) = some r := H
    have A6 := Aside0.mk A60
    clear A60
    have HC7 := Aside0.mk H
    clear H
    go_enter Try.func12, Try.ntmps12
    go_upto_region 6 with (first | ((with_reducible refine gate_callee (f := 31) rfl ?_); refine goesL_ (some 11) rfl rfl Try.func31 (by kernel_rfl) rfl #[.slice A0 l0.length c0] rfl (by (try simp only [List.map_toArray, List.map_cons, List.map_nil]); first | done | rfl | (simp only [List.length_drop, List.length_take]; rfl) | (rw [IntWalk.u64_in _ (by omega)] <;> rfl)) ?_; (with_reducible refine (laws_big.calls _ _ l0 false _ ?side1 ?side2 A2.out).mono ?_); (case side1 => repeat (first | exact HR0.out | (with_reducible refine Kd.C_alloc ?_ _) | (with_reducible refine Kd.C_drewN ?_ _) | (with_reducible refine Kd.C_drew ?_))); (case side2 => exact HC0.out); rintro e w' ⟨rfl, ⟨nd, rfl⟩⟩; refine ⟨_, rfl, ?_⟩) | ((with_reducible refine gate_callee (f := 52) rfl ?_); refine goesL_ (some 14) rfl rfl Try.func52 (by kernel_rfl) rfl #[.slice A0 l0.length c0] rfl (by (try simp only [List.map_toArray, List.map_cons, List.map_nil]); first | done | rfl | (simp only [List.length_drop, List.length_take]; rfl) | (rw [IntWalk.u64_in _ (by omega)] <;> rfl)) ?_; (with_reducible refine (spec_DrawFilterOf.calls k _ _ l0 t102 t103 _ ?side1 ?side2 A4.out).mono ?_); (case side1 => repeat (first | exact HR0.out | (with_reducible refine Kd.C_alloc ?_ _) | (with_reducible refine Kd.C_drewN ?_ _) | (with_reducible refine Kd.C_drew ?_))); (case side2 => exact HC0.out); rintro e w8 ⟨v104, rfl, ho0, hb⟩; refine ⟨_, rfl, ?_⟩; have n0_ := Aside0.mk (Kd.R_lower ho0 (below_size (by repeat (first | (with_reducible first | exact HB.out | apply below_alloc | apply pw_below_drewN | apply below_drew1) | exact HB.out)))); have n1_ := Aside0.mk (below_step (by repeat (first | (with_reducible first | exact HB.out | apply below_alloc | apply pw_below_drewN | apply below_drew1) | exact HB.out)) hb); clear HB; have HO105 := n0_; have HB := n1_; clear n0_ n1_; (try clear hb); (try clear hb2); (try clear hk); (try clear hi); (try clear ho0); obtain ⟨Ao9, co9, eo9⟩ := Kd.R_slice HO105.out; subst eo9) | ((with_reducible refine gate_callee (f := 53) rfl ?_); refine goesL_ (some 20) rfl rfl Try.func53 (by kernel_rfl) rfl #[.slice Ao9 t102.length co9, .int .i64 t103] rfl (by (try simp only [List.map_toArray, List.map_cons, List.map_nil]); first | done | rfl | (simp only [List.length_drop, List.length_take]; rfl) | (rw [IntWalk.u64_in _ (by omega)] <;> rfl)) ?_; (with_reducible refine (impl_FilterOf.calls k _ _ t102 t103 t106 t107 t108 t109 t110 _ ?side1 ?side2 A5.out).mono ?_); (case side1 => repeat (first | exact (Kd.R_reads' HO105.out).2.2 | (with_reducible refine Kd.C_alloc ?_ _) | (with_reducible refine Kd.C_drewN ?_ _) | (with_reducible refine Kd.C_drew ?_))); (case side2 => exact (Kd.R_reads' HO105.out).2.1); rintro e w10 ⟨rfl, hb⟩; refine ⟨_, rfl, ?_⟩; have n0_ := Aside0.mk (Kd.R_below (by (with_reducible repeat (first | apply Kd.R_alloc | apply Kd.R_drewN | apply Kd.R_drew)); exact HO105.out) hb); have n1_ := Aside0.mk (below_step (by repeat (first | (with_reducible first | exact HB.out | apply below_alloc | apply pw_below_drewN | apply below_drew1) | exact HB.out)) hb); clear HO105; clear HB; have HO105 := n0_; have HB := n1_; clear n0_ n1_; (try clear hb); (try clear hb2); (try clear hk); (try clear hi)) | ((with_reducible refine gate_dst (N := 5) rfl ?_); refine box_event ?hg (N := 5) ?hd (cs := #[.int .i64 0, .int .i64 0, .int .i64 0, .string (⟨#[]⟩ : ByteArray)]) (t := 46) ?hr ?_; (case hd => rfl); (case hg => rfl); (case hr => first | (go_simp; done) | (go_simp; rfl)); intro gb111 hg w11 hbox hb; have n0_ := Aside0.mk (Kd.R_below (by (with_reducible repeat (first | apply Kd.R_alloc | apply Kd.R_drewN | apply Kd.R_drew)); exact HO105.out) hb); have n1_ := Aside0.mk (below_step (by repeat (first | (with_reducible first | exact HB.out | apply below_alloc | apply pw_below_drewN | apply below_drew1) | exact HB.out)) hb); have n2_ := Aside0.mk (hbox); have n3_ := Aside0.mk ((by rw [hg]; exact (below_size (by repeat (first | (with_reducible first | exact HB.out | apply below_alloc | apply pw_below_drewN | apply below_drew1) | exact HB.out))) : w.heap.size ≤ gb111)); have n4_ := Aside0.mk ((by rw [hg]; exact (below_size (by repeat (first | (with_reducible first | exact HB.out | apply below_alloc | apply pw_below_drewN | apply below_drew1) | exact HB.out))) : w.heap.size ≤ gb111)); clear HO105; clear HB; have HO105 := n0_; have HB := n1_; have BK111 := n2_; have GW111 := n3_; have GE111 := n4_; clear n0_ n1_ n2_ n3_ n4_; clear hb hbox hg; have hcz12_0 : w11.cell? ⟨gb111, 0, none⟩ = some (.int .i64 0) := (blk_cell BK111.out 0).trans rfl; have hcz12_1 : w11.cell? ⟨gb111, 1, none⟩ = some (.int .i64 0) := (blk_cell BK111.out 1).trans rfl; have hcz12_2 : w11.cell? ⟨gb111, 2, none⟩ = some (.int .i64 0) := (blk_cell BK111.out 2).trans rfl; have hcz12_3 : w11.cell? ⟨gb111, 3, none⟩ = some (.string (⟨#[]⟩ : ByteArray)) := (blk_cell BK111.out 3).trans rfl; have hfz12_0 := blk_frozen BK111.out 0; have hfz12_1 := blk_frozen BK111.out 1; have hfz12_2 := blk_frozen BK111.out 2; have hfz12_3 := blk_frozen BK111.out 3) | ((with_reducible refine gate_callee (f := 54) rfl ?_); refine goesL_ (some 26) rfl rfl Try.func54 (by kernel_rfl) rfl #[.slice Ao9 t102.length co9, .int .i64 t103] rfl (by (try simp only [List.map_toArray, List.map_cons, List.map_nil]); first | done | rfl | (simp only [List.length_drop, List.length_take]; rfl) | (rw [IntWalk.u64_in _ (by omega)] <;> rfl)) ?_; (with_reducible refine (spec_FilterOf.calls k _ _ t102 t103 t112 t113 t114 t115 t116 _ ?side1 ?side2 A6.out).mono ?_); (case side1 => refine (Kd.R_reads' (e := 9) (base := w.heap.size) (ok := fun k_ => True) (n := t102.length) (c := co9) ?_).2.2; exact (by (with_reducible repeat (first | apply Kd.R_alloc | apply Kd.R_drewN | apply Kd.R_drew)); exact (Kd.R_mono (Kd.R_far (p := ⟨gb111, 3, none⟩) (Kd.R_far (p := ⟨gb111, 2, none⟩) (Kd.R_far (p := ⟨gb111, 1, none⟩) (Kd.R_far (p := ⟨gb111, 0, none⟩) (Kd.R_types HO105.out BK111.out (by decide)) (fun _ hk => hk.2) (.int .i64 t106)) (fun _ hk => hk.2) (.int .i64 t107)) (fun _ hk => hk.2) (.int .i64 t108)) (fun _ hk => hk.2) (.string t109)) (fun _ h_ => h_.1)))); (case side2 => exact (Kd.R_reads' HO105.out).2.1); rintro e w13 ⟨rfl, hb⟩; refine ⟨_, rfl, ?_⟩; have n0_ := Aside0.mk (Kd.R_below (by (with_reducible repeat (first | apply Kd.R_alloc | apply Kd.R_drewN | apply Kd.R_drew)); exact (Kd.R_mono (Kd.R_far (p := ⟨gb111, 3, none⟩) (Kd.R_far (p := ⟨gb111, 2, none⟩) (Kd.R_far (p := ⟨gb111, 1, none⟩) (Kd.R_far (p := ⟨gb111, 0, none⟩) (Kd.R_types HO105.out BK111.out (by decide)) (fun _ hk => hk.2) (.int .i64 t106)) (fun _ hk => hk.2) (.int .i64 t107)) (fun _ hk => hk.2) (.int .i64 t108)) (fun _ hk => hk.2) (.string t109)) (fun _ h_ => h_.1))) hb); have n1_ := Aside0.mk (blk_below (g := gb111) (o := .cells #[.int .i64 t106, .int .i64 t107, .int .i64 t108, .string t109] 46 (0, 0)) (by (with_reducible repeat (first | refine blk_drewN ?_ _ | refine blk_drew ?_ | refine blk_alloc ?_ _)); refine blk_put (cs := #[.int .i64 t106, .int .i64 t107, .int .i64 t108, .string (⟨#[]⟩ : ByteArray)]) ?_ 3 _ rfl; (with_reducible repeat (first | refine blk_drewN ?_ _ | refine blk_drew ?_ | refine blk_alloc ?_ _)); refine blk_put (cs := #[.int .i64 t106, .int .i64 t107, .int .i64 0, .string (⟨#[]⟩ : ByteArray)]) ?_ 2 _ rfl; (with_reducible repeat (first | refine blk_drewN ?_ _ | refine blk_drew ?_ | refine blk_alloc ?_ _)); refine blk_put (cs := #[.int .i64 t106, .int .i64 0, .int .i64 0, .string (⟨#[]⟩ : ByteArray)]) ?_ 1 _ rfl; (with_reducible repeat (first | refine blk_drewN ?_ _ | refine blk_drew ?_ | refine blk_alloc ?_ _)); refine blk_put (cs := #[.int .i64 0, .int .i64 0, .int .i64 0, .string (⟨#[]⟩ : ByteArray)]) ?_ 0 _ rfl; (with_reducible repeat (first | refine blk_drewN ?_ _ | refine blk_drew ?_ | refine blk_alloc ?_ _)); exact BK111.out) hb); have n2_ := Aside0.mk (below_step (by repeat (first | (with_reducible first | exact HB.out | apply below_alloc | apply pw_below_drewN | apply below_drew1 | refine below_set ?_ GE111.out) | exact HB.out)) hb); clear HO105; clear BK111; clear HB; have HO105 := n0_; have BK111 := n1_; have HB := n2_; clear n0_ n1_ n2_; (try clear hb); (try clear hb2); (try clear hk); (try clear hi)) | ((with_reducible refine gate_dst (N := 7) rfl ?_); refine box_event ?hg (N := 7) ?hd (cs := #[.int .i64 0, .int .i64 0, .int .i64 0, .string (⟨#[]⟩ : ByteArray)]) (t := 46) ?hr ?_; (case hd => rfl); (case hg => rfl); (case hr => first | (go_simp; done) | (go_simp; rfl)); intro gb117 hg w14 hbox hb; have n0_ := Aside0.mk (Kd.R_below (by (with_reducible repeat (first | apply Kd.R_alloc | apply Kd.R_drewN | apply Kd.R_drew)); exact HO105.out) hb); have n1_ := Aside0.mk (blk_below (g := gb111) (o := .cells #[.int .i64 t106, .int .i64 t107, .int .i64 t108, .string t109] 46 (0, 0)) (by (with_reducible repeat (first | refine blk_drewN ?_ _ | refine blk_drew ?_ | refine blk_alloc ?_ _)); exact BK111.out) hb); have n2_ := Aside0.mk (below_step (by repeat (first | (with_reducible first | exact HB.out | apply below_alloc | apply pw_below_drewN | apply below_drew1 | refine below_set ?_ GE111.out) | exact HB.out)) hb); have n3_ := Aside0.mk (hbox); have n4_ := Aside0.mk ((by rw [hg]; exact (below_size (by repeat (first | (with_reducible first | exact HB.out | apply below_alloc | apply pw_below_drewN | apply below_drew1 | refine below_set ?_ GE111.out) | exact HB.out))) : w.heap.size ≤ gb117)); have n5_ := Aside0.mk ((by rw [hg]; exact (below_size (by repeat (first | (with_reducible first | exact HB.out | apply below_alloc | apply pw_below_drewN | apply below_drew1 | refine below_set ?_ GE111.out) | exact HB.out))) : w.heap.size ≤ gb117)); have n6_ := Aside0.mk ((by rw [hg]; exact Nat.ne_of_lt (blk_lt (g := gb111) (o := .cells #[.int .i64 t106, .int .i64 t107, .int .i64 t108, .string t109] 46 (0, 0)) (by (with_reducible repeat (first | refine blk_drewN ?_ _ | refine blk_drew ?_ | refine blk_alloc ?_ _)); exact BK111.out)) : gb111 ≠ gb117)); have n7_ := Aside0.mk ((by rw [hg]; exact Nat.ne_of_gt (blk_lt (g := gb111) (o := .cells #[.int .i64 t106, .int .i64 t107, .int .i64 t108, .string t109] 46 (0, 0)) (by (with_reducible repeat (first | refine blk_drewN ?_ _ | refine blk_drew ?_ | refine blk_alloc ?_ _)); exact BK111.out)) : gb117 ≠ gb111)); clear HO105; clear BK111; clear HB; have HO105 := n0_; have BK111 := n1_; have HB := n2_; have BK117 := n3_; have GW117 := n4_; have GE117 := n5_; have NB111_117 := n6_; have NB117_111 := n7_; clear n0_ n1_ n2_ n3_ n4_ n5_ n6_ n7_; clear hb hbox hg; have hnb15 := NB117_111.out; have hnc15 := NB111_117.out; have hcz16_0 : w14.cell? ⟨gb117, 0, none⟩ = some (.int .i64 0) := (blk_cell BK117.out 0).trans rfl; have hcz16_1 : w14.cell? ⟨gb117, 1, none⟩ = some (.int .i64 0) := (blk_cell BK117.out 1).trans rfl; have hcz16_2 : w14.cell? ⟨gb117, 2, none⟩ = some (.int .i64 0) := (blk_cell BK117.out 2).trans rfl; have hcz16_3 : w14.cell? ⟨gb117, 3, none⟩ = some (.string (⟨#[]⟩ : ByteArray)) := (blk_cell BK117.out 3).trans rfl; have hfz16_0 := blk_frozen BK117.out 0; have hfz16_1 := blk_frozen BK117.out 1; have hfz16_2 := blk_frozen BK117.out 2; have hfz16_3 := blk_frozen BK117.out 3))
    (try simp only [Act.put, List.setIfInBounds_toArray, List.set_cons_zero, List.set_cons_succ])
    go_cut [40] (fun v40 wc => ∃ (kq : Nat) (x40_6 : Bool), v40 = .bool x40_6 ∧ Aside0 (laws_FnFilters.j0 kq t102 t103 t110 t116 x40_6 t106 t107 t108 t109 t112 t113 t114 t115 = some r) ∧ Aside0 (kq ≤ k) ∧ Aside0 (Kd.R Kd.string 9 wc w.heap.size (fun _ => True) (.slice Ao9 t102.length co9) t102) ∧ Aside0 (wc.heap[gb111]? = some (.cells #[.int .i64 t106, .int .i64 t107, .int .i64 t108, .string t109] 46 (0, 0))) ∧ Aside0 (wc.heap[gb117]? = some (.cells #[.int .i64 t112, .int .i64 t113, .int .i64 t114, .string t115] 46 (0, 0))) ∧ Aside0 (Below w.heap.size w wc))
    case first =>
      have H := HC7.out
      clear HC7
      by_cases c17 : (!(t106 == t112) || (!(t107 == t113) || (!(t108 == t114) || (!(t109.toList == t115.toList))))) = true
      · rw [if_pos c17] at H
        have c17b0 : (!(t106 == t112) || (!(t107 == t113) || (!(t108 == t114) || (!(t109.toList == t115.toList))))) = true := c17
        clear c17
        (first | rw [c17b0] | (simp only [i64_w, i32_w]; rw [c17b0]) | skip)
        have H' := Aside0.mk H
        clear H
        have hnb18 := NB111_117.out
        have hnc18 := NB117_111.out
        have hcz19_0 : w14.cell? ⟨gb111, 0, none⟩ = some (.int .i64 t106) := (blk_cell BK111.out 0).trans rfl
        have hcz19_1 : w14.cell? ⟨gb111, 1, none⟩ = some (.int .i64 t107) := (blk_cell BK111.out 1).trans rfl
        have hcz19_2 : w14.cell? ⟨gb111, 2, none⟩ = some (.int .i64 t108) := (blk_cell BK111.out 2).trans rfl
        have hcz19_3 : w14.cell? ⟨gb111, 3, none⟩ = some (.string t109) := (blk_cell BK111.out 3).trans rfl
        have hfz19_0 := blk_frozen BK111.out 0
        have hfz19_1 := blk_frozen BK111.out 1
        have hfz19_2 := blk_frozen BK111.out 2
        have hfz19_3 := blk_frozen BK111.out 3
        have hcz20_0 : w14.cell? ⟨gb117, 0, none⟩ = some (.int .i64 0) := (blk_cell BK117.out 0).trans rfl
        have hcz20_1 : w14.cell? ⟨gb117, 1, none⟩ = some (.int .i64 0) := (blk_cell BK117.out 1).trans rfl
        have hcz20_2 : w14.cell? ⟨gb117, 2, none⟩ = some (.int .i64 0) := (blk_cell BK117.out 2).trans rfl
        have hcz20_3 : w14.cell? ⟨gb117, 3, none⟩ = some (.string (⟨#[]⟩ : ByteArray)) := (blk_cell BK117.out 3).trans rfl
        have hfz20_0 := blk_frozen BK117.out 0
        have hfz20_1 := blk_frozen BK117.out 1
        have hfz20_2 := blk_frozen BK117.out 2
        have hfz20_3 := blk_frozen BK117.out 3
        go_wp2
        go_meet
        case rel => exact ⟨_, (true), (by first | rfl | (simp; done) | (simp [*]; done)), H', ⟨by first | omega | exact Nat.le_refl _⟩, ⟨by (with_reducible repeat (first | apply Kd.R_alloc | apply Kd.R_drewN | apply Kd.R_drew)); exact Kd.R_mono (Kd.R_far (p := ⟨gb117, 3, none⟩) (Kd.R_far (p := ⟨gb117, 2, none⟩) (Kd.R_far (p := ⟨gb117, 1, none⟩) (Kd.R_far (p := ⟨gb117, 0, none⟩) (Kd.R_types HO105.out BK117.out (by decide)) (fun _ hk => hk.2) (.int .i64 t112)) (fun _ hk => hk.2) (.int .i64 t113)) (fun _ hk => hk.2) (.int .i64 t114)) (fun _ hk => hk.2) (.string t115)) (fun _ hk => trivial)⟩, ⟨by (with_reducible repeat (first | refine blk_drewN ?_ _ | refine blk_drew ?_ | refine blk_alloc ?_ _)); refine blk_far ?_ NB111_117.out _; (with_reducible repeat (first | refine blk_drewN ?_ _ | refine blk_drew ?_ | refine blk_alloc ?_ _)); refine blk_far ?_ NB111_117.out _; (with_reducible repeat (first | refine blk_drewN ?_ _ | refine blk_drew ?_ | refine blk_alloc ?_ _)); refine blk_far ?_ NB111_117.out _; (with_reducible repeat (first | refine blk_drewN ?_ _ | refine blk_drew ?_ | refine blk_alloc ?_ _)); refine blk_far ?_ NB111_117.out _; (with_reducible repeat (first | refine blk_drewN ?_ _ | refine blk_drew ?_ | refine blk_alloc ?_ _)); exact BK111.out⟩, ⟨by (with_reducible repeat (first | refine blk_drewN ?_ _ | refine blk_drew ?_ | refine blk_alloc ?_ _)); refine blk_put (cs := #[.int .i64 t112, .int .i64 t113, .int .i64 t114, .string (⟨#[]⟩ : ByteArray)]) ?_ 3 _ rfl; (with_reducible repeat (first | refine blk_drewN ?_ _ | refine blk_drew ?_ | refine blk_alloc ?_ _)); refine blk_put (cs := #[.int .i64 t112, .int .i64 t113, .int .i64 0, .string (⟨#[]⟩ : ByteArray)]) ?_ 2 _ rfl; (with_reducible repeat (first | refine blk_drewN ?_ _ | refine blk_drew ?_ | refine blk_alloc ?_ _)); refine blk_put (cs := #[.int .i64 t112, .int .i64 0, .int .i64 0, .string (⟨#[]⟩ : ByteArray)]) ?_ 1 _ rfl; (with_reducible repeat (first | refine blk_drewN ?_ _ | refine blk_drew ?_ | refine blk_alloc ?_ _)); refine blk_put (cs := #[.int .i64 0, .int .i64 0, .int .i64 0, .string (⟨#[]⟩ : ByteArray)]) ?_ 0 _ rfl; (with_reducible repeat (first | refine blk_drewN ?_ _ | refine blk_drew ?_ | refine blk_alloc ?_ _)); exact BK117.out⟩, ⟨by repeat (first | (with_reducible first | exact HB.out | apply below_alloc | apply pw_below_drewN | apply below_drew1 | refine below_set ?_ GE111.out | refine below_set ?_ GE117.out) | exact HB.out)⟩⟩
      · rw [if_neg c17] at H
        have c17b0 : (!(t106 == t112) || (!(t107 == t113) || (!(t108 == t114) || (!(t109.toList == t115.toList))))) = false := by simpa using c17
        clear c17
        (first | rw [c17b0] | (simp only [i64_w, i32_w]; rw [c17b0]) | skip)
        by_cases c21 : (t110 != t116) = true
        · rw [if_pos c21] at H
          have c21b0 : (t110 != t116) = true := c21
          (try (have c21b1 : decide (t110 = t116) = false := by simpa using c21))
          (try (have c21b2 : (t110 == t116) = false := by simpa using c21))
          (try (have c21b3 : ¬ (t110 = t116) := by simpa using c21))
          clear c21
          have H' := Aside0.mk H
          clear H
          have hnb22 := NB111_117.out
          have hnc22 := NB117_111.out
          have hcz23_0 : w14.cell? ⟨gb111, 0, none⟩ = some (.int .i64 t106) := (blk_cell BK111.out 0).trans rfl
          have hcz23_1 : w14.cell? ⟨gb111, 1, none⟩ = some (.int .i64 t107) := (blk_cell BK111.out 1).trans rfl
          have hcz23_2 : w14.cell? ⟨gb111, 2, none⟩ = some (.int .i64 t108) := (blk_cell BK111.out 2).trans rfl
          have hcz23_3 : w14.cell? ⟨gb111, 3, none⟩ = some (.string t109) := (blk_cell BK111.out 3).trans rfl
          have hfz23_0 := blk_frozen BK111.out 0
          have hfz23_1 := blk_frozen BK111.out 1
          have hfz23_2 := blk_frozen BK111.out 2
          have hfz23_3 := blk_frozen BK111.out 3
          have hcz24_0 : w14.cell? ⟨gb117, 0, none⟩ = some (.int .i64 0) := (blk_cell BK117.out 0).trans rfl
          have hcz24_1 : w14.cell? ⟨gb117, 1, none⟩ = some (.int .i64 0) := (blk_cell BK117.out 1).trans rfl
          have hcz24_2 : w14.cell? ⟨gb117, 2, none⟩ = some (.int .i64 0) := (blk_cell BK117.out 2).trans rfl
          have hcz24_3 : w14.cell? ⟨gb117, 3, none⟩ = some (.string (⟨#[]⟩ : ByteArray)) := (blk_cell BK117.out 3).trans rfl
          have hfz24_0 := blk_frozen BK117.out 0
          have hfz24_1 := blk_frozen BK117.out 1
          have hfz24_2 := blk_frozen BK117.out 2
          have hfz24_3 := blk_frozen BK117.out 3
          go_wp2
          go_meet
          case rel => exact ⟨_, (true), (by first | rfl | (simp; done) | (simp [*]; done)), H', ⟨by first | omega | exact Nat.le_refl _⟩, ⟨by (with_reducible repeat (first | apply Kd.R_alloc | apply Kd.R_drewN | apply Kd.R_drew)); exact Kd.R_mono (Kd.R_far (p := ⟨gb117, 3, none⟩) (Kd.R_far (p := ⟨gb117, 2, none⟩) (Kd.R_far (p := ⟨gb117, 1, none⟩) (Kd.R_far (p := ⟨gb117, 0, none⟩) (Kd.R_types HO105.out BK117.out (by decide)) (fun _ hk => hk.2) (.int .i64 t112)) (fun _ hk => hk.2) (.int .i64 t113)) (fun _ hk => hk.2) (.int .i64 t114)) (fun _ hk => hk.2) (.string t115)) (fun _ hk => trivial)⟩, ⟨by (with_reducible repeat (first | refine blk_drewN ?_ _ | refine blk_drew ?_ | refine blk_alloc ?_ _)); refine blk_far ?_ NB111_117.out _; (with_reducible repeat (first | refine blk_drewN ?_ _ | refine blk_drew ?_ | refine blk_alloc ?_ _)); refine blk_far ?_ NB111_117.out _; (with_reducible repeat (first | refine blk_drewN ?_ _ | refine blk_drew ?_ | refine blk_alloc ?_ _)); refine blk_far ?_ NB111_117.out _; (with_reducible repeat (first | refine blk_drewN ?_ _ | refine blk_drew ?_ | refine blk_alloc ?_ _)); refine blk_far ?_ NB111_117.out _; (with_reducible repeat (first | refine blk_drewN ?_ _ | refine blk_drew ?_ | refine blk_alloc ?_ _)); exact BK111.out⟩, ⟨by (with_reducible repeat (first | refine blk_drewN ?_ _ | refine blk_drew ?_ | refine blk_alloc ?_ _)); refine blk_put (cs := #[.int .i64 t112, .int .i64 t113, .int .i64 t114, .string (⟨#[]⟩ : ByteArray)]) ?_ 3 _ rfl; (with_reducible repeat (first | refine blk_drewN ?_ _ | refine blk_drew ?_ | refine blk_alloc ?_ _)); refine blk_put (cs := #[.int .i64 t112, .int .i64 t113, .int .i64 0, .string (⟨#[]⟩ : ByteArray)]) ?_ 2 _ rfl; (with_reducible repeat (first | refine blk_drewN ?_ _ | refine blk_drew ?_ | refine blk_alloc ?_ _)); refine blk_put (cs := #[.int .i64 t112, .int .i64 0, .int .i64 0, .string (⟨#[]⟩ : ByteArray)]) ?_ 1 _ rfl; (with_reducible repeat (first | refine blk_drewN ?_ _ | refine blk_drew ?_ | refine blk_alloc ?_ _)); refine blk_put (cs := #[.int .i64 0, .int .i64 0, .int .i64 0, .string (⟨#[]⟩ : ByteArray)]) ?_ 0 _ rfl; (with_reducible repeat (first | refine blk_drewN ?_ _ | refine blk_drew ?_ | refine blk_alloc ?_ _)); exact BK117.out⟩, ⟨by repeat (first | (with_reducible first | exact HB.out | apply below_alloc | apply pw_below_drewN | apply below_drew1 | refine below_set ?_ GE111.out | refine below_set ?_ GE117.out) | exact HB.out)⟩⟩
        · rw [if_neg c21] at H
          have c21b0 : (t110 != t116) = false := by simpa using c21
          (try (have c21b1 : decide (t110 = t116) = true := by simpa using c21))
          (try (have c21b2 : (t110 == t116) = true := by simpa using c21))
          clear c21
          have H' := Aside0.mk H
          clear H
          have hnb25 := NB111_117.out
          have hnc25 := NB117_111.out
          have hcz26_0 : w14.cell? ⟨gb111, 0, none⟩ = some (.int .i64 t106) := (blk_cell BK111.out 0).trans rfl
          have hcz26_1 : w14.cell? ⟨gb111, 1, none⟩ = some (.int .i64 t107) := (blk_cell BK111.out 1).trans rfl
          have hcz26_2 : w14.cell? ⟨gb111, 2, none⟩ = some (.int .i64 t108) := (blk_cell BK111.out 2).trans rfl
          have hcz26_3 : w14.cell? ⟨gb111, 3, none⟩ = some (.string t109) := (blk_cell BK111.out 3).trans rfl
          have hfz26_0 := blk_frozen BK111.out 0
          have hfz26_1 := blk_frozen BK111.out 1
          have hfz26_2 := blk_frozen BK111.out 2
          have hfz26_3 := blk_frozen BK111.out 3
          have hcz27_0 : w14.cell? ⟨gb117, 0, none⟩ = some (.int .i64 0) := (blk_cell BK117.out 0).trans rfl
          have hcz27_1 : w14.cell? ⟨gb117, 1, none⟩ = some (.int .i64 0) := (blk_cell BK117.out 1).trans rfl
          have hcz27_2 : w14.cell? ⟨gb117, 2, none⟩ = some (.int .i64 0) := (blk_cell BK117.out 2).trans rfl
          have hcz27_3 : w14.cell? ⟨gb117, 3, none⟩ = some (.string (⟨#[]⟩ : ByteArray)) := (blk_cell BK117.out 3).trans rfl
          have hfz27_0 := blk_frozen BK117.out 0
          have hfz27_1 := blk_frozen BK117.out 1
          have hfz27_2 := blk_frozen BK117.out 2
          have hfz27_3 := blk_frozen BK117.out 3
          go_wp2
          go_meet
          case rel => exact ⟨_, (!t110), (by first | rfl | (simp; done) | (simp [*]; done)), H', ⟨by first | omega | exact Nat.le_refl _⟩, ⟨by (with_reducible repeat (first | apply Kd.R_alloc | apply Kd.R_drewN | apply Kd.R_drew)); exact Kd.R_mono (Kd.R_far (p := ⟨gb117, 3, none⟩) (Kd.R_far (p := ⟨gb117, 2, none⟩) (Kd.R_far (p := ⟨gb117, 1, none⟩) (Kd.R_far (p := ⟨gb117, 0, none⟩) (Kd.R_types HO105.out BK117.out (by decide)) (fun _ hk => hk.2) (.int .i64 t112)) (fun _ hk => hk.2) (.int .i64 t113)) (fun _ hk => hk.2) (.int .i64 t114)) (fun _ hk => hk.2) (.string t115)) (fun _ hk => trivial)⟩, ⟨by (with_reducible repeat (first | refine blk_drewN ?_ _ | refine blk_drew ?_ | refine blk_alloc ?_ _)); refine blk_far ?_ NB111_117.out _; (with_reducible repeat (first | refine blk_drewN ?_ _ | refine blk_drew ?_ | refine blk_alloc ?_ _)); refine blk_far ?_ NB111_117.out _; (with_reducible repeat (first | refine blk_drewN ?_ _ | refine blk_drew ?_ | refine blk_alloc ?_ _)); refine blk_far ?_ NB111_117.out _; (with_reducible repeat (first | refine blk_drewN ?_ _ | refine blk_drew ?_ | refine blk_alloc ?_ _)); refine blk_far ?_ NB111_117.out _; (with_reducible repeat (first | refine blk_drewN ?_ _ | refine blk_drew ?_ | refine blk_alloc ?_ _)); exact BK111.out⟩, ⟨by (with_reducible repeat (first | refine blk_drewN ?_ _ | refine blk_drew ?_ | refine blk_alloc ?_ _)); refine blk_put (cs := #[.int .i64 t112, .int .i64 t113, .int .i64 t114, .string (⟨#[]⟩ : ByteArray)]) ?_ 3 _ rfl; (with_reducible repeat (first | refine blk_drewN ?_ _ | refine blk_drew ?_ | refine blk_alloc ?_ _)); refine blk_put (cs := #[.int .i64 t112, .int .i64 t113, .int .i64 0, .string (⟨#[]⟩ : ByteArray)]) ?_ 2 _ rfl; (with_reducible repeat (first | refine blk_drewN ?_ _ | refine blk_drew ?_ | refine blk_alloc ?_ _)); refine blk_put (cs := #[.int .i64 t112, .int .i64 0, .int .i64 0, .string (⟨#[]⟩ : ByteArray)]) ?_ 1 _ rfl; (with_reducible repeat (first | refine blk_drewN ?_ _ | refine blk_drew ?_ | refine blk_alloc ?_ _)); refine blk_put (cs := #[.int .i64 0, .int .i64 0, .int .i64 0, .string (⟨#[]⟩ : ByteArray)]) ?_ 0 _ rfl; (with_reducible repeat (first | refine blk_drewN ?_ _ | refine blk_drew ?_ | refine blk_alloc ?_ _)); exact BK117.out⟩, ⟨by repeat (first | (with_reducible first | exact HB.out | apply below_alloc | apply pw_below_drewN | apply below_drew1 | refine below_set ?_ GE111.out | refine below_set ?_ GE117.out) | exact HB.out)⟩⟩
    case rest =>
      clear HC7
      try clear c1
      try clear c2
      try clear p2
      try clear c3
      try clear c5
      try clear c12
      try clear c15
      try clear c17
      try clear c17b0
      try clear c18
      try clear c21
      try clear c21b0
      try clear c21b1
      try clear c21b2
      try clear c22
      try clear c25
      try clear hcz12_0
      try clear hcz12_1
      try clear hcz12_2
      try clear hcz12_3
      try clear hcz16_0
      try clear hcz16_1
      try clear hcz16_2
      try clear hcz16_3
      try clear hcz19_0
      try clear hcz19_1
      try clear hcz19_2
      try clear hcz19_3
      try clear hcz20_0
      try clear hcz20_1
      try clear hcz20_2
      try clear hcz20_3
      try clear hcz23_0
      try clear hcz23_1
      try clear hcz23_2
      try clear hcz23_3
      try clear hcz24_0
      try clear hcz24_1
      try clear hcz24_2
      try clear hcz24_3
      try clear hcz26_0
      try clear hcz26_1
      try clear hcz26_2
      try clear hcz26_3
      try clear hcz27_0
      try clear hcz27_1
      try clear hcz27_2
      try clear hcz27_3
      try clear hfz12_0
      try clear hfz12_1
      try clear hfz12_2
      try clear hfz12_3
      try clear hfz16_0
      try clear hfz16_1
      try clear hfz16_2
      try clear hfz16_3
      try clear hfz19_0
      try clear hfz19_1
      try clear hfz19_2
      try clear hfz19_3
      try clear hfz20_0
      try clear hfz20_1
      try clear hfz20_2
      try clear hfz20_3
      try clear hfz23_0
      try clear hfz23_1
      try clear hfz23_2
      try clear hfz23_3
      try clear hfz24_0
      try clear hfz24_1
      try clear hfz24_2
      try clear hfz24_3
      try clear hfz26_0
      try clear hfz26_1
      try clear hfz26_2
      try clear hfz26_3
      try clear hfz27_0
      try clear hfz27_1
      try clear hfz27_2
      try clear hfz27_3
      obtain ⟨kq, x40_6, rfl, HA, HJ6, HO_3, BK111, BK117, HB⟩ := hcut
      cases kq with
      | zero => exact absurd HA.out (by simp [laws_FnFilters.j0])
      | succ kj6 =>
        have H := HA.out
        clear HA
        simp only [laws_FnFilters.j0] at H
        by_cases c28 : x40_6 = true
        · subst c28
          have H1 : (if (t106 == t112 && (t107 == t113 && (t108 == t114 && (t109.toList == t115.toList)))) = true then (some (t110 == t116)) else (none)) = some r := by rw [if_pos rfl] at H; exact H
          clear H
          have H := H1
          clear H1
          by_cases c29 : (t106 == t112 && (t107 == t113 && (t108 == t114 && (t109.toList == t115.toList)))) = true
          · rw [if_pos c29] at H
            have c29b0 : (t106 == t112 && (t107 == t113 && (t108 == t114 && (t109.toList == t115.toList)))) = true := c29
            (try (have c29b1 : decide (t106 = t112 && (t107 == t113 && (t108 == t114 && (t109.toList == t115.toList)))) = true := by simpa using c29))
            (try (have c29b2 : (t106 == t112 && (t107 == t113 && (t108 == t114 && (t109.toList == t115.toList)))) = true := by simpa using c29))
            clear c29
            obtain rfl := Option.some.inj H
            have hnb30 := NB111_117.out
            have hnc30 := NB117_111.out
            have hcz31_0 : wc.cell? ⟨gb111, 0, none⟩ = some (.int .i64 t106) := (blk_cell BK111.out 0).trans rfl
            have hcz31_1 : wc.cell? ⟨gb111, 1, none⟩ = some (.int .i64 t107) := (blk_cell BK111.out 1).trans rfl
            have hcz31_2 : wc.cell? ⟨gb111, 2, none⟩ = some (.int .i64 t108) := (blk_cell BK111.out 2).trans rfl
            have hcz31_3 : wc.cell? ⟨gb111, 3, none⟩ = some (.string t109) := (blk_cell BK111.out 3).trans rfl
            have hfz31_0 := blk_frozen BK111.out 0
            have hfz31_1 := blk_frozen BK111.out 1
            have hfz31_2 := blk_frozen BK111.out 2
            have hfz31_3 := blk_frozen BK111.out 3
            have hcz32_0 : wc.cell? ⟨gb117, 0, none⟩ = some (.int .i64 t112) := (blk_cell BK117.out 0).trans rfl
            have hcz32_1 : wc.cell? ⟨gb117, 1, none⟩ = some (.int .i64 t113) := (blk_cell BK117.out 1).trans rfl
            have hcz32_2 : wc.cell? ⟨gb117, 2, none⟩ = some (.int .i64 t114) := (blk_cell BK117.out 2).trans rfl
            have hcz32_3 : wc.cell? ⟨gb117, 3, none⟩ = some (.string t115) := (blk_cell BK117.out 3).trans rfl
            have hfz32_0 := blk_frozen BK117.out 0
            have hfz32_1 := blk_frozen BK117.out 1
            have hfz32_2 := blk_frozen BK117.out 2
            have hfz32_3 := blk_frozen BK117.out 3
            go_wp2
            go_ret
            exact ⟨by first | rfl | (simp [errW_none, errW_some] <;> rfl) | (simp [*, errW_none, errW_some] <;> rfl), by repeat (first | (with_reducible first | exact HB.out | apply below_alloc | apply pw_below_drewN | apply below_drew1 | refine below_set ?_ GE111.out | refine below_set ?_ GE117.out) | exact HB.out)⟩
          · rw [if_neg c29] at H
            exact absurd H (by simp)
        · replace c28 := Bool.eq_false_iff.mpr c28
          subst c28
          have H1 : (laws_FnFilters.l0 kj6 t102 t103 0 t106 t107 t108 t109) = some r := by rw [if_neg (show ¬ (false = true) by decide)] at H; exact H
          clear H
          have H := H1
          clear H1
          have H' := Aside0.mk H
          clear H
          go_wp2
          go_loopg [9] kj6 (fun kq v9 w' => ∃ (x9_2 : Int), v9 = .int .i64 x9_2 ∧ Aside0 (laws_FnFilters.l0 kq t102 t103 x9_2 t106 t107 t108 t109 = some r) ∧ Aside0 (kq ≤ kj6) ∧ Aside0 (Kd.R Kd.string 9 w' w.heap.size (fun _ => True) (.slice Ao9 t102.length co9) t102) ∧ Aside0 (w'.heap[gb111]? = some (.cells #[.int .i64 t106, .int .i64 t107, .int .i64 t108, .string t109] 46 (0, 0))) ∧ Aside0 (w'.heap[gb117]? = some (.cells #[.int .i64 t112, .int .i64 t113, .int .i64 t114, .string t115] 46 (0, 0))) ∧ Aside0 (Below w.heap.size w w'))
          case atStart => exact ⟨(0), (by first | rfl | (simp; done) | (simp [*]; done)), H', ⟨Nat.le_refl _⟩, ⟨by (with_reducible repeat (first | apply Kd.R_alloc | apply Kd.R_drewN | apply Kd.R_drew)); exact HO_3.out⟩, ⟨by (with_reducible repeat (first | refine blk_drewN ?_ _ | refine blk_drew ?_ | refine blk_alloc ?_ _)); exact BK111.out⟩, ⟨by (with_reducible repeat (first | refine blk_drewN ?_ _ | refine blk_drew ?_ | refine blk_alloc ?_ _)); exact BK117.out⟩, ⟨by repeat (first | (with_reducible first | exact HB.out | apply below_alloc | apply pw_below_drewN | apply below_drew1 | refine below_set ?_ GE111.out | refine below_set ?_ GE117.out) | exact HB.out)⟩⟩
          case round =>
            clear H'
            try clear c1
            try clear c2
            try clear p2
            try clear c3
            try clear c5
            try clear c12
            try clear c15
            try clear c17
            try clear c17b0
            try clear c18
            try clear c21
            try clear c21b0
            try clear c21b1
            try clear c21b2
            try clear c22
            try clear c25
            try clear c28
            try clear c29
            try clear c29b0
            try clear c29b1
            try clear c29b2
            try clear c30
            try clear c31
            try clear hcz12_0
            try clear hcz12_1
            try clear hcz12_2
            try clear hcz12_3
            try clear hcz16_0
            try clear hcz16_1
            try clear hcz16_2
            try clear hcz16_3
            try clear hcz19_0
            try clear hcz19_1
            try clear hcz19_2
            try clear hcz19_3
            try clear hcz20_0
            try clear hcz20_1
            try clear hcz20_2
            try clear hcz20_3
            try clear hcz23_0
            try clear hcz23_1
            try clear hcz23_2
            try clear hcz23_3
            try clear hcz24_0
            try clear hcz24_1
            try clear hcz24_2
            try clear hcz24_3
            try clear hcz26_0
            try clear hcz26_1
            try clear hcz26_2
            try clear hcz26_3
            try clear hcz27_0
            try clear hcz27_1
            try clear hcz27_2
            try clear hcz27_3
            try clear hcz31_0
            try clear hcz31_1
            try clear hcz31_2
            try clear hcz31_3
            try clear hcz32_0
            try clear hcz32_1
            try clear hcz32_2
            try clear hcz32_3
            try clear hfz12_0
            try clear hfz12_1
            try clear hfz12_2
            try clear hfz12_3
            try clear hfz16_0
            try clear hfz16_1
            try clear hfz16_2
            try clear hfz16_3
            try clear hfz19_0
            try clear hfz19_1
            try clear hfz19_2
            try clear hfz19_3
            try clear hfz20_0
            try clear hfz20_1
            try clear hfz20_2
            try clear hfz20_3
            try clear hfz23_0
            try clear hfz23_1
            try clear hfz23_2
            try clear hfz23_3
            try clear hfz24_0
            try clear hfz24_1
            try clear hfz24_2
            try clear hfz24_3
            try clear hfz26_0
            try clear hfz26_1
            try clear hfz26_2
            try clear hfz26_3
            try clear hfz27_0
            try clear hfz27_1
            try clear hfz27_2
            try clear hfz27_3
            try clear hfz31_0
            try clear hfz31_1
            try clear hfz31_2
            try clear hfz31_3
            try clear hfz32_0
            try clear hfz32_1
            try clear hfz32_2
            try clear hfz32_3
            try clear p2
            obtain ⟨x9_2, rfl, HA, HK2, HO_3, BK111, BK117, HB⟩ := hrel
            cases gk with
            | zero => exact absurd HA.out (by simp [laws_FnFilters.l0])
            | succ k2 =>
              have H := HA.out
              clear HA
              simp only [laws_FnFilters.l0] at H
              by_cases c33 : x9_2 < (t102.length : Int)
              · rw [if_pos c33] at H
                have c33b0 : decide (x9_2 < (t102.length : Int)) = true := decide_eq_true c33
                clear c33
                by_cases c34 : 0 ≤ x9_2
                · rw [if_pos c34] at H
                  have c34b0 : decide (0 ≤ x9_2) = true := decide_eq_true c34
                  clear c34
                  replace H := Option.bind_eq_some_iff.mp H
                  obtain ⟨t119, A350, H⟩ := H
                  replace H : (if t119 = true then (laws_FnFilters.l0 k2 t102 t103 (wrap64 (x9_2 + 1)) t106 t107 t108 t109) else (none)) = some r := H
                  have A35 := Aside0.mk A350
                  clear A350
                  by_cases c36 : t119 = true
                  · subst c36
                    have H1 : (laws_FnFilters.l0 k2 t102 t103 (wrap64 (x9_2 + 1)) t106 t107 t108 t109) = some r := by rw [if_pos rfl] at H; exact H
                    clear H
                    have H := H1
                    clear H1
                    have H' := Aside0.mk H
                    clear H
                    try go_wp2
                    have n0_ := Aside0.mk (Kd.R_drew HO_3.out)
                    have n1_ := Aside0.mk (blk_drew BK111.out)
                    have n2_ := Aside0.mk (blk_drew BK117.out)
                    have n3_ := Aside0.mk (below_drew1 HB.out)
                    clear HO_3
                    clear BK111
                    clear BK117
                    clear HB
                    have HO_3 := n0_
                    have BK111 := n1_
                    have BK117 := n2_
                    have HB := n3_
                    clear n0_ n1_ n2_ n3_
                    have p118 : 0 ≤ (x9_2 : Int) := of_decide_eq_true (by first | (with_reducible assumption) | assumption)
                    have q118 : x9_2 < (t102.length : Int) := of_decide_eq_true (by first | (with_reducible assumption) | assumption)
                    obtain ⟨ad118, e118, hx118_0⟩ := Kd.at_string (Kd.R_reads' HO_3.out).2.2 x9_2 p118 q118
                    cases e118
                    replace p118 := eq_true p118
                    replace q118 := eq_true q118
                    refine start_ (n := 7) (S := fun w' => w'.cell? ⟨gb111, 0, none⟩ = some (.int .i64 t106) ∧ w'.cell? ⟨gb111, 1, none⟩ = some (.int .i64 t107) ∧ w'.cell? ⟨gb111, 2, none⟩ = some (.int .i64 t108) ∧ w'.cell? ⟨gb111, 3, none⟩ = some (.string t109) ∧ w'.cell? (ad118.add (x9_2).toNat) = some (.string (rdOf ByteArray.empty t102 x9_2))) (ds := []) #[false, false, false, false, false, false, false] (by kernel_rfl) rfl rfl ⟨(blk_cell BK111.out 0).trans rfl, (blk_cell BK111.out 1).trans rfl, (blk_cell BK111.out 2).trans rfl, (blk_cell BK111.out 3).trans rfl, hx118_0⟩ (fun hHeld => ?_)
                    generalize wr.drew = w37 at HO_3 BK111 BK117 HB hx118_0 hHeld ⊢
                    refine pure_ (i := 1) (N := some 56) (v := ?_) (a' := ?_) #[false, true, false, false, false, false, false] rfl rfl (by kernel_rfl) (fun _ _ _ h => h) (Or.inl ⟨by rfl, ?_⟩) ?_ ?_
                    rotate_left
                    · intro w'
                      go_simp
                      with_reducible rfl
                    rotate_left
                    · simp only [Act.put, List.setIfInBounds_toArray, List.set_cons_zero, List.set_cons_succ, i64_w, i32_w]
                      rfl
                    refine pure_ (i := 2) (N := some 57) (v := ?_) (a' := ?_) #[false, true, true, false, false, false, false] rfl rfl (by kernel_rfl) (fun _ _ _ h => h) (Or.inl ⟨by rfl, ?_⟩) ?_ ?_
                    rotate_left
                    · intro w'
                      go_simp
                      with_reducible rfl
                    rotate_left
                    · simp only [Act.put, List.setIfInBounds_toArray, List.set_cons_zero, List.set_cons_succ, i64_w, i32_w]
                      rfl
                    refine pure_ (i := 3) (N := some 58) (v := ?_) (a' := ?_) #[false, true, true, true, false, false, false] rfl rfl (by kernel_rfl) (fun _ _ _ h => h) (Or.inl ⟨by rfl, ?_⟩) ?_ ?_
                    rotate_left
                    · intro w'
                      go_simp
                      with_reducible rfl
                    rotate_left
                    · simp only [Act.put, List.setIfInBounds_toArray, List.set_cons_zero, List.set_cons_succ, i64_w, i32_w]
                      rfl
                    refine take_ (i := 0) (N := some 55) (v := ?_) (a' := ?_) #[true, true, true, true, false, false, false] rfl rfl (by kernel_rfl) (fun _ _ _ h => h) (Or.inl ⟨by rfl, ?_⟩) hHeld ?_ ?_
                    rotate_left
                    · rintro w' ⟨s0, s1, s2, s3, s4⟩
                      go_simp
                      with_reducible rfl
                    rotate_left
                    · simp only [Act.put, List.setIfInBounds_toArray, List.set_cons_zero, List.set_cons_succ, i64_w, i32_w]
                      rfl
                    refine take_ (i := 4) (N := some 59) (v := ?_) (a' := ?_) #[true, true, true, true, true, false, false] rfl rfl (by kernel_rfl) (fun _ _ _ h => h) (Or.inl ⟨by rfl, ?_⟩) hHeld ?_ ?_
                    rotate_left
                    · rintro w' ⟨s0, s1, s2, s3, s4⟩
                      go_simp
                      with_reducible rfl
                    rotate_left
                    · simp only [Act.put, List.setIfInBounds_toArray, List.set_cons_zero, List.set_cons_succ, i64_w, i32_w]
                      rfl
                    refine one_ (i := 5) (N := some 60) #[true, true, true, true, true, true, false] rfl rfl (by kernel_rfl) (by decide) (fun K hK => ?_)
                    refine goes_ Try.func55 (by kernel_rfl) rfl #[.agg #[.int .i64 t106, .int .i64 t107, .int .i64 t108, .string t109], .string (rdOf ByteArray.empty t102 x9_2)] (by rfl) rfl rfl (by (try simp only [List.map_toArray, List.map_cons, List.map_nil]); first | done | rfl | (simp only [List.length_drop, List.length_take]; rfl) | (rw [IntWalk.u64_in _ (by omega)] <;> rfl)) ?_
                    with_reducible refine (impl_FilterMay.calls k2 t106 t107 t108 t109 (rdOf ByteArray.empty t102 x9_2) true _ A35.out).mono ?_
                    rintro e w38 ⟨rfl, hb⟩
                    have HS4_ := (hb.cell (World.block_lt_of_cell? _ _ (hHeld.2.2.2.2))).trans (hHeld.2.2.2.2)
                    refine ⟨_, rfl, ?_⟩
                    have n0_ := Aside0.mk (Kd.R_below (by (with_reducible repeat (first | apply Kd.R_alloc | apply Kd.R_drewN | apply Kd.R_drew)); exact HO_3.out) hb)
                    have n1_ := Aside0.mk (blk_below (g := gb111) (o := .cells #[.int .i64 t106, .int .i64 t107, .int .i64 t108, .string t109] 46 (0, 0)) (by (with_reducible repeat (first | refine blk_drewN ?_ _ | refine blk_drew ?_ | refine blk_alloc ?_ _)); exact BK111.out) hb)
                    have n2_ := Aside0.mk (blk_below (g := gb117) (o := .cells #[.int .i64 t112, .int .i64 t113, .int .i64 t114, .string t115] 46 (0, 0)) (by (with_reducible repeat (first | refine blk_drewN ?_ _ | refine blk_drew ?_ | refine blk_alloc ?_ _)); exact BK117.out) hb)
                    have n3_ := Aside0.mk (below_step (by repeat (first | (with_reducible first | exact HB.out | apply below_alloc | apply pw_below_drewN | apply below_drew1 | refine below_set ?_ GE111.out | refine below_set ?_ GE117.out) | exact HB.out)) hb)
                    clear HO_3
                    clear BK111
                    clear BK117
                    clear HB
                    have HO_3 := n0_
                    have BK111 := n1_
                    have BK117 := n2_
                    have HB := n3_
                    clear n0_ n1_ n2_ n3_
                    (try clear hb)
                    (try clear hb2)
                    (try clear hk)
                    (try clear hi)
                    refine hK.out _ _ ⟨(blk_cell BK111.out 0).trans rfl, (blk_cell BK111.out 1).trans rfl, (blk_cell BK111.out 2).trans rfl, (blk_cell BK111.out 3).trans rfl, HS4_⟩ (fun hHeld => ?_)
                    clear hK K
                    refine norm_ (a' := ?_) ?_ ?_
                    rotate_left
                    · show Act.put _ (some 60) _ = _
                      simp only [Act.put, List.setIfInBounds_toArray, List.set_cons_zero, List.set_cons_succ, i64_w, i32_w]
                      rfl
                    refine pure_ (i := 6) (N := some 61) (v := ?_) (a' := ?_) #[true, true, true, true, true, true, true] rfl rfl (by kernel_rfl) (fun _ _ _ h => h) (Or.inl ⟨by rfl, ?_⟩) ?_ ?_
                    rotate_left
                    · intro w'
                      go_simp
                      with_reducible rfl
                    rotate_left
                    · simp only [Act.put, List.setIfInBounds_toArray, List.set_cons_zero, List.set_cons_succ, i64_w, i32_w]
                      rfl
                    refine done_ (by kernel_rfl) ?_
                    try go_wp2
                    go_roundg k2
                    case measure => have := HJ6.out; have := HK2.out; omega
                    case rel => exact ⟨(wrap64 (x9_2 + 1)), (by first | rfl | (simp; done) | (simp [*]; done)), H', ⟨by have := HJ6.out; have := HK2.out; omega⟩, ⟨by (with_reducible repeat (first | apply Kd.R_alloc | apply Kd.R_drewN | apply Kd.R_drew)); exact HO_3.out⟩, ⟨by (with_reducible repeat (first | refine blk_drewN ?_ _ | refine blk_drew ?_ | refine blk_alloc ?_ _)); exact BK111.out⟩, ⟨by (with_reducible repeat (first | refine blk_drewN ?_ _ | refine blk_drew ?_ | refine blk_alloc ?_ _)); exact BK117.out⟩, ⟨by repeat (first | (with_reducible first | exact HB.out | apply below_alloc | apply pw_below_drewN | apply below_drew1 | refine below_set ?_ GE111.out | refine below_set ?_ GE117.out) | exact HB.out)⟩⟩
                  · replace c36 := Bool.eq_false_iff.mpr c36
                    subst c36
                    have H1 : (none) = some r := by rw [if_neg (show ¬ (false = true) by decide)] at H; exact H
                    clear H
                    have H := H1
                    clear H1
                    exact absurd H (by simp)
                · rw [if_neg c34] at H
                  exact absurd H (by simp)
              · rw [if_neg c33] at H
                have c33b0 : decide (x9_2 < (t102.length : Int)) = false := decide_eq_false c33
                clear c33
                replace H := Option.bind_eq_some_iff.mp H
                obtain ⟨t120, A390, H⟩ := H
                replace H : (if t120 = true then (if t103 = 0 then ((impl_FilterMay.f k2 t106 t107 t108 t109 (⟨#[110, 111, 98, 111, 100, 121]⟩ : ByteArray)).bind fun t121 => (if t121 = true then (if t106 = t103 then (some true) else (if t103 = 2 then (some (t106 == 1)) else (none))) else (none))) else (if t106 = t103 then (some true) else (if t103 = 2 then (some (t106 == 1)) else (none)))) else (none)) = some r := H
                have A39 := Aside0.mk A390
                clear A390
                by_cases c40 : t120 = true
                · subst c40
                  have H1 : (if t103 = 0 then ((impl_FilterMay.f k2 t106 t107 t108 t109 (⟨#[110, 111, 98, 111, 100, 121]⟩ : ByteArray)).bind fun t121 => (if t121 = true then (if t106 = t103 then (some true) else (if t103 = 2 then (some (t106 == 1)) else (none))) else (none))) else (if t106 = t103 then (some true) else (if t103 = 2 then (some (t106 == 1)) else (none)))) = some r := by rw [if_pos rfl] at H; exact H
                  clear H
                  have H := H1
                  clear H1
                  by_cases c41 : t103 = 0
                  · rw [if_pos c41] at H
                    have c41b0 : (t103 == 0) = true := beq_iff_eq.mpr c41
                    have c41b1 : (t103 != 0) = false := bne_eq_false_iff_eq.mpr c41
                    clear c41
                    replace H := Option.bind_eq_some_iff.mp H
                    obtain ⟨t121, A420, H⟩ := H
                    replace H : (if t121 = true then (if t106 = t103 then (some true) else (if t103 = 2 then (some (t106 == 1)) else (none))) else (none)) = some r := H
                    have A42 := Aside0.mk A420
                    clear A420
                    by_cases c43 : t121 = true
                    · subst c43
                      have H1 : (if t106 = t103 then (some true) else (if t103 = 2 then (some (t106 == 1)) else (none))) = some r := by rw [if_pos rfl] at H; exact H
                      clear H
                      have H := H1
                      clear H1
                      by_cases c44 : t106 = t103
                      · rw [if_pos c44] at H
                        have c44b0 : (t106 == t103) = true := beq_iff_eq.mpr c44
                        have c44b1 : (t106 != t103) = false := bne_eq_false_iff_eq.mpr c44
                        clear c44
                        obtain rfl := Option.some.inj H
                        have hnb45 := NB111_117.out
                        have hnc45 := NB117_111.out
                        have hcz46_0 : wr.cell? ⟨gb111, 0, none⟩ = some (.int .i64 t106) := (blk_cell BK111.out 0).trans rfl
                        have hcz46_1 : wr.cell? ⟨gb111, 1, none⟩ = some (.int .i64 t107) := (blk_cell BK111.out 1).trans rfl
                        have hcz46_2 : wr.cell? ⟨gb111, 2, none⟩ = some (.int .i64 t108) := (blk_cell BK111.out 2).trans rfl
                        have hcz46_3 : wr.cell? ⟨gb111, 3, none⟩ = some (.string t109) := (blk_cell BK111.out 3).trans rfl
                        have hfz46_0 := blk_frozen BK111.out 0
                        have hfz46_1 := blk_frozen BK111.out 1
                        have hfz46_2 := blk_frozen BK111.out 2
                        have hfz46_3 := blk_frozen BK111.out 3
                        go_wp2_with (first | ((with_reducible refine gate_callee (f := 56) rfl ?_); refine goesL_ (some 63) rfl rfl Try.func56 (by kernel_rfl) rfl #[.agg #[.int .i64 t106, .int .i64 t107, .int .i64 t108, .string t109]] rfl (by (try simp only [List.map_toArray, List.map_cons, List.map_nil]); first | done | rfl | (simp only [List.length_drop, List.length_take]; rfl) | (rw [IntWalk.u64_in _ (by omega)] <;> rfl)) ?_; (with_reducible refine (impl_FilterOk.calls k2 t106 t107 t108 t109 true _ A39.out).mono ?_); rintro e w47 ⟨rfl, hb⟩; refine ⟨_, rfl, ?_⟩; have n0_ := Aside0.mk (Kd.R_below (by (with_reducible repeat (first | apply Kd.R_alloc | apply Kd.R_drewN | apply Kd.R_drew)); exact HO_3.out) hb); have n1_ := Aside0.mk (blk_below (g := gb111) (o := .cells #[.int .i64 t106, .int .i64 t107, .int .i64 t108, .string t109] 46 (0, 0)) (by (with_reducible repeat (first | refine blk_drewN ?_ _ | refine blk_drew ?_ | refine blk_alloc ?_ _)); exact BK111.out) hb); have n2_ := Aside0.mk (blk_below (g := gb117) (o := .cells #[.int .i64 t112, .int .i64 t113, .int .i64 t114, .string t115] 46 (0, 0)) (by (with_reducible repeat (first | refine blk_drewN ?_ _ | refine blk_drew ?_ | refine blk_alloc ?_ _)); exact BK117.out) hb); have n3_ := Aside0.mk (below_step (by repeat (first | (with_reducible first | exact HB.out | apply below_alloc | apply pw_below_drewN | apply below_drew1 | refine below_set ?_ GE111.out | refine below_set ?_ GE117.out) | exact HB.out)) hb); clear HO_3; clear BK111; clear BK117; clear HB; have HO_3 := n0_; have BK111 := n1_; have BK117 := n2_; have HB := n3_; clear n0_ n1_ n2_ n3_; (try clear hb); (try clear hb2); (try clear hk); (try clear hi); have hcz48_0 : w47.cell? ⟨gb111, 0, none⟩ = some (.int .i64 t106) := (blk_cell BK111.out 0).trans rfl; have hcz48_1 : w47.cell? ⟨gb111, 1, none⟩ = some (.int .i64 t107) := (blk_cell BK111.out 1).trans rfl; have hcz48_2 : w47.cell? ⟨gb111, 2, none⟩ = some (.int .i64 t108) := (blk_cell BK111.out 2).trans rfl; have hcz48_3 : w47.cell? ⟨gb111, 3, none⟩ = some (.string t109) := (blk_cell BK111.out 3).trans rfl; have hfz48_0 := blk_frozen BK111.out 0; have hfz48_1 := blk_frozen BK111.out 1; have hfz48_2 := blk_frozen BK111.out 2; have hfz48_3 := blk_frozen BK111.out 3) | (go_at_call 55; (with_reducible refine (impl_FilterMay.calls k2 t106 t107 t108 t109 (⟨#[110, 111, 98, 111, 100, 121]⟩ : ByteArray) true _ A42.out).mono ?_); rintro e w49 ⟨rfl, hb⟩; have n0_ := Aside0.mk (Kd.R_below (by (with_reducible repeat (first | apply Kd.R_alloc | apply Kd.R_drewN | apply Kd.R_drew)); exact HO_3.out) hb); have n1_ := Aside0.mk (blk_below (g := gb111) (o := .cells #[.int .i64 t106, .int .i64 t107, .int .i64 t108, .string t109] 46 (0, 0)) (by (with_reducible repeat (first | refine blk_drewN ?_ _ | refine blk_drew ?_ | refine blk_alloc ?_ _)); exact BK111.out) hb); have n2_ := Aside0.mk (blk_below (g := gb117) (o := .cells #[.int .i64 t112, .int .i64 t113, .int .i64 t114, .string t115] 46 (0, 0)) (by (with_reducible repeat (first | refine blk_drewN ?_ _ | refine blk_drew ?_ | refine blk_alloc ?_ _)); exact BK117.out) hb); have n3_ := Aside0.mk (below_step (by repeat (first | (with_reducible first | exact HB.out | apply below_alloc | apply pw_below_drewN | apply below_drew1 | refine below_set ?_ GE111.out | refine below_set ?_ GE117.out) | exact HB.out)) hb); clear HO_3; clear BK111; clear BK117; clear HB; have HO_3 := n0_; have BK111 := n1_; have BK117 := n2_; have HB := n3_; clear n0_ n1_ n2_ n3_; (try clear hb); (try clear hb2); (try clear hk); (try clear hi); have hcz50_0 : w49.cell? ⟨gb111, 0, none⟩ = some (.int .i64 t106) := (blk_cell BK111.out 0).trans rfl; have hcz50_1 : w49.cell? ⟨gb111, 1, none⟩ = some (.int .i64 t107) := (blk_cell BK111.out 1).trans rfl; have hcz50_2 : w49.cell? ⟨gb111, 2, none⟩ = some (.int .i64 t108) := (blk_cell BK111.out 2).trans rfl; have hcz50_3 : w49.cell? ⟨gb111, 3, none⟩ = some (.string t109) := (blk_cell BK111.out 3).trans rfl; have hfz50_0 := blk_frozen BK111.out 0; have hfz50_1 := blk_frozen BK111.out 1; have hfz50_2 := blk_frozen BK111.out 2; have hfz50_3 := blk_frozen BK111.out 3))
                        go_ret
                        exact ⟨by first | rfl | (simp [errW_none, errW_some] <;> rfl) | (simp [*, errW_none, errW_some] <;> rfl), by repeat (first | (with_reducible first | exact HB.out | apply below_alloc | apply pw_below_drewN | apply below_drew1 | refine below_set ?_ GE111.out | refine below_set ?_ GE117.out) | exact HB.out)⟩
                      · rw [if_neg c44] at H
                        have c44b0 : (t106 == t103) = false := beq_eq_false_iff_ne.mpr c44
                        have c44b1 : (t106 != t103) = true := bne_iff_ne.mpr c44
                        by_cases c51 : t103 = 2
                        · rw [if_pos c51] at H
                          have c51b0 : (t103 == 2) = true := beq_iff_eq.mpr c51
                          have c51b1 : (t103 != 2) = false := bne_eq_false_iff_eq.mpr c51
                          clear c51
                          obtain rfl := Option.some.inj H
                          have hnb52 := NB111_117.out
                          have hnc52 := NB117_111.out
                          have hcz53_0 : wr.cell? ⟨gb111, 0, none⟩ = some (.int .i64 t106) := (blk_cell BK111.out 0).trans rfl
                          have hcz53_1 : wr.cell? ⟨gb111, 1, none⟩ = some (.int .i64 t107) := (blk_cell BK111.out 1).trans rfl
                          have hcz53_2 : wr.cell? ⟨gb111, 2, none⟩ = some (.int .i64 t108) := (blk_cell BK111.out 2).trans rfl
                          have hcz53_3 : wr.cell? ⟨gb111, 3, none⟩ = some (.string t109) := (blk_cell BK111.out 3).trans rfl
                          have hfz53_0 := blk_frozen BK111.out 0
                          have hfz53_1 := blk_frozen BK111.out 1
                          have hfz53_2 := blk_frozen BK111.out 2
                          have hfz53_3 := blk_frozen BK111.out 3
                          go_wp2_with (first | ((with_reducible refine gate_callee (f := 56) rfl ?_); refine goesL_ (some 63) rfl rfl Try.func56 (by kernel_rfl) rfl #[.agg #[.int .i64 t106, .int .i64 t107, .int .i64 t108, .string t109]] rfl (by (try simp only [List.map_toArray, List.map_cons, List.map_nil]); first | done | rfl | (simp only [List.length_drop, List.length_take]; rfl) | (rw [IntWalk.u64_in _ (by omega)] <;> rfl)) ?_; (with_reducible refine (impl_FilterOk.calls k2 t106 t107 t108 t109 true _ A39.out).mono ?_); rintro e w54 ⟨rfl, hb⟩; refine ⟨_, rfl, ?_⟩; have n0_ := Aside0.mk (Kd.R_below (by (with_reducible repeat (first | apply Kd.R_alloc | apply Kd.R_drewN | apply Kd.R_drew)); exact HO_3.out) hb); have n1_ := Aside0.mk (blk_below (g := gb111) (o := .cells #[.int .i64 t106, .int .i64 t107, .int .i64 t108, .string t109] 46 (0, 0)) (by (with_reducible repeat (first | refine blk_drewN ?_ _ | refine blk_drew ?_ | refine blk_alloc ?_ _)); exact BK111.out) hb); have n2_ := Aside0.mk (blk_below (g := gb117) (o := .cells #[.int .i64 t112, .int .i64 t113, .int .i64 t114, .string t115] 46 (0, 0)) (by (with_reducible repeat (first | refine blk_drewN ?_ _ | refine blk_drew ?_ | refine blk_alloc ?_ _)); exact BK117.out) hb); have n3_ := Aside0.mk (below_step (by repeat (first | (with_reducible first | exact HB.out | apply below_alloc | apply pw_below_drewN | apply below_drew1 | refine below_set ?_ GE111.out | refine below_set ?_ GE117.out) | exact HB.out)) hb); clear HO_3; clear BK111; clear BK117; clear HB; have HO_3 := n0_; have BK111 := n1_; have BK117 := n2_; have HB := n3_; clear n0_ n1_ n2_ n3_; (try clear hb); (try clear hb2); (try clear hk); (try clear hi); have hcz55_0 : w54.cell? ⟨gb111, 0, none⟩ = some (.int .i64 t106) := (blk_cell BK111.out 0).trans rfl; have hcz55_1 : w54.cell? ⟨gb111, 1, none⟩ = some (.int .i64 t107) := (blk_cell BK111.out 1).trans rfl; have hcz55_2 : w54.cell? ⟨gb111, 2, none⟩ = some (.int .i64 t108) := (blk_cell BK111.out 2).trans rfl; have hcz55_3 : w54.cell? ⟨gb111, 3, none⟩ = some (.string t109) := (blk_cell BK111.out 3).trans rfl; have hfz55_0 := blk_frozen BK111.out 0; have hfz55_1 := blk_frozen BK111.out 1; have hfz55_2 := blk_frozen BK111.out 2; have hfz55_3 := blk_frozen BK111.out 3) | (go_at_call 55; (with_reducible refine (impl_FilterMay.calls k2 t106 t107 t108 t109 (⟨#[110, 111, 98, 111, 100, 121]⟩ : ByteArray) true _ A42.out).mono ?_); rintro e w56 ⟨rfl, hb⟩; have n0_ := Aside0.mk (Kd.R_below (by (with_reducible repeat (first | apply Kd.R_alloc | apply Kd.R_drewN | apply Kd.R_drew)); exact HO_3.out) hb); have n1_ := Aside0.mk (blk_below (g := gb111) (o := .cells #[.int .i64 t106, .int .i64 t107, .int .i64 t108, .string t109] 46 (0, 0)) (by (with_reducible repeat (first | refine blk_drewN ?_ _ | refine blk_drew ?_ | refine blk_alloc ?_ _)); exact BK111.out) hb); have n2_ := Aside0.mk (blk_below (g := gb117) (o := .cells #[.int .i64 t112, .int .i64 t113, .int .i64 t114, .string t115] 46 (0, 0)) (by (with_reducible repeat (first | refine blk_drewN ?_ _ | refine blk_drew ?_ | refine blk_alloc ?_ _)); exact BK117.out) hb); have n3_ := Aside0.mk (below_step (by repeat (first | (with_reducible first | exact HB.out | apply below_alloc | apply pw_below_drewN | apply below_drew1 | refine below_set ?_ GE111.out | refine below_set ?_ GE117.out) | exact HB.out)) hb); clear HO_3; clear BK111; clear BK117; clear HB; have HO_3 := n0_; have BK111 := n1_; have BK117 := n2_; have HB := n3_; clear n0_ n1_ n2_ n3_; (try clear hb); (try clear hb2); (try clear hk); (try clear hi); have hcz57_0 : w56.cell? ⟨gb111, 0, none⟩ = some (.int .i64 t106) := (blk_cell BK111.out 0).trans rfl; have hcz57_1 : w56.cell? ⟨gb111, 1, none⟩ = some (.int .i64 t107) := (blk_cell BK111.out 1).trans rfl; have hcz57_2 : w56.cell? ⟨gb111, 2, none⟩ = some (.int .i64 t108) := (blk_cell BK111.out 2).trans rfl; have hcz57_3 : w56.cell? ⟨gb111, 3, none⟩ = some (.string t109) := (blk_cell BK111.out 3).trans rfl; have hfz57_0 := blk_frozen BK111.out 0; have hfz57_1 := blk_frozen BK111.out 1; have hfz57_2 := blk_frozen BK111.out 2; have hfz57_3 := blk_frozen BK111.out 3))
                          go_ret
                          exact ⟨by first | rfl | (simp [errW_none, errW_some] <;> rfl) | (simp [*, errW_none, errW_some] <;> rfl), by repeat (first | (with_reducible first | exact HB.out | apply below_alloc | apply pw_below_drewN | apply below_drew1 | refine below_set ?_ GE111.out | refine below_set ?_ GE117.out) | exact HB.out)⟩
                        · rw [if_neg c51] at H
                          exact absurd H (by simp)
                    · replace c43 := Bool.eq_false_iff.mpr c43
                      subst c43
                      have H1 : (none) = some r := by rw [if_neg (show ¬ (false = true) by decide)] at H; exact H
                      clear H
                      have H := H1
                      clear H1
                      exact absurd H (by simp)
                  · rw [if_neg c41] at H
                    have c41b0 : (t103 == 0) = false := beq_eq_false_iff_ne.mpr c41
                    have c41b1 : (t103 != 0) = true := bne_iff_ne.mpr c41
                    by_cases c58 : t106 = t103
                    · rw [if_pos c58] at H
                      have c58b0 : (t106 == t103) = true := beq_iff_eq.mpr c58
                      have c58b1 : (t106 != t103) = false := bne_eq_false_iff_eq.mpr c58
                      clear c58
                      obtain rfl := Option.some.inj H
                      have hnb59 := NB111_117.out
                      have hnc59 := NB117_111.out
                      have hcz60_0 : wr.cell? ⟨gb111, 0, none⟩ = some (.int .i64 t106) := (blk_cell BK111.out 0).trans rfl
                      have hcz60_1 : wr.cell? ⟨gb111, 1, none⟩ = some (.int .i64 t107) := (blk_cell BK111.out 1).trans rfl
                      have hcz60_2 : wr.cell? ⟨gb111, 2, none⟩ = some (.int .i64 t108) := (blk_cell BK111.out 2).trans rfl
                      have hcz60_3 : wr.cell? ⟨gb111, 3, none⟩ = some (.string t109) := (blk_cell BK111.out 3).trans rfl
                      have hfz60_0 := blk_frozen BK111.out 0
                      have hfz60_1 := blk_frozen BK111.out 1
                      have hfz60_2 := blk_frozen BK111.out 2
                      have hfz60_3 := blk_frozen BK111.out 3
                      go_wp2_with (first | ((with_reducible refine gate_callee (f := 56) rfl ?_); refine goesL_ (some 63) rfl rfl Try.func56 (by kernel_rfl) rfl #[.agg #[.int .i64 t106, .int .i64 t107, .int .i64 t108, .string t109]] rfl (by (try simp only [List.map_toArray, List.map_cons, List.map_nil]); first | done | rfl | (simp only [List.length_drop, List.length_take]; rfl) | (rw [IntWalk.u64_in _ (by omega)] <;> rfl)) ?_; (with_reducible refine (impl_FilterOk.calls k2 t106 t107 t108 t109 true _ A39.out).mono ?_); rintro e w61 ⟨rfl, hb⟩; refine ⟨_, rfl, ?_⟩; have n0_ := Aside0.mk (Kd.R_below (by (with_reducible repeat (first | apply Kd.R_alloc | apply Kd.R_drewN | apply Kd.R_drew)); exact HO_3.out) hb); have n1_ := Aside0.mk (blk_below (g := gb111) (o := .cells #[.int .i64 t106, .int .i64 t107, .int .i64 t108, .string t109] 46 (0, 0)) (by (with_reducible repeat (first | refine blk_drewN ?_ _ | refine blk_drew ?_ | refine blk_alloc ?_ _)); exact BK111.out) hb); have n2_ := Aside0.mk (blk_below (g := gb117) (o := .cells #[.int .i64 t112, .int .i64 t113, .int .i64 t114, .string t115] 46 (0, 0)) (by (with_reducible repeat (first | refine blk_drewN ?_ _ | refine blk_drew ?_ | refine blk_alloc ?_ _)); exact BK117.out) hb); have n3_ := Aside0.mk (below_step (by repeat (first | (with_reducible first | exact HB.out | apply below_alloc | apply pw_below_drewN | apply below_drew1 | refine below_set ?_ GE111.out | refine below_set ?_ GE117.out) | exact HB.out)) hb); clear HO_3; clear BK111; clear BK117; clear HB; have HO_3 := n0_; have BK111 := n1_; have BK117 := n2_; have HB := n3_; clear n0_ n1_ n2_ n3_; (try clear hb); (try clear hb2); (try clear hk); (try clear hi); have hcz62_0 : w61.cell? ⟨gb111, 0, none⟩ = some (.int .i64 t106) := (blk_cell BK111.out 0).trans rfl; have hcz62_1 : w61.cell? ⟨gb111, 1, none⟩ = some (.int .i64 t107) := (blk_cell BK111.out 1).trans rfl; have hcz62_2 : w61.cell? ⟨gb111, 2, none⟩ = some (.int .i64 t108) := (blk_cell BK111.out 2).trans rfl; have hcz62_3 : w61.cell? ⟨gb111, 3, none⟩ = some (.string t109) := (blk_cell BK111.out 3).trans rfl; have hfz62_0 := blk_frozen BK111.out 0; have hfz62_1 := blk_frozen BK111.out 1; have hfz62_2 := blk_frozen BK111.out 2; have hfz62_3 := blk_frozen BK111.out 3))
                      go_ret
                      exact ⟨by first | rfl | (simp [errW_none, errW_some] <;> rfl) | (simp [*, errW_none, errW_some] <;> rfl), by repeat (first | (with_reducible first | exact HB.out | apply below_alloc | apply pw_below_drewN | apply below_drew1 | refine below_set ?_ GE111.out | refine below_set ?_ GE117.out) | exact HB.out)⟩
                    · rw [if_neg c58] at H
                      have c58b0 : (t106 == t103) = false := beq_eq_false_iff_ne.mpr c58
                      have c58b1 : (t106 != t103) = true := bne_iff_ne.mpr c58
                      by_cases c63 : t103 = 2
                      · rw [if_pos c63] at H
                        have c63b0 : (t103 == 2) = true := beq_iff_eq.mpr c63
                        have c63b1 : (t103 != 2) = false := bne_eq_false_iff_eq.mpr c63
                        clear c63
                        obtain rfl := Option.some.inj H
                        have hnb64 := NB111_117.out
                        have hnc64 := NB117_111.out
                        have hcz65_0 : wr.cell? ⟨gb111, 0, none⟩ = some (.int .i64 t106) := (blk_cell BK111.out 0).trans rfl
                        have hcz65_1 : wr.cell? ⟨gb111, 1, none⟩ = some (.int .i64 t107) := (blk_cell BK111.out 1).trans rfl
                        have hcz65_2 : wr.cell? ⟨gb111, 2, none⟩ = some (.int .i64 t108) := (blk_cell BK111.out 2).trans rfl
                        have hcz65_3 : wr.cell? ⟨gb111, 3, none⟩ = some (.string t109) := (blk_cell BK111.out 3).trans rfl
                        have hfz65_0 := blk_frozen BK111.out 0
                        have hfz65_1 := blk_frozen BK111.out 1
                        have hfz65_2 := blk_frozen BK111.out 2
                        have hfz65_3 := blk_frozen BK111.out 3
                        go_wp2_with (first | ((with_reducible refine gate_callee (f := 56) rfl ?_); refine goesL_ (some 63) rfl rfl Try.func56 (by kernel_rfl) rfl #[.agg #[.int .i64 t106, .int .i64 t107, .int .i64 t108, .string t109]] rfl (by (try simp only [List.map_toArray, List.map_cons, List.map_nil]); first | done | rfl | (simp only [List.length_drop, List.length_take]; rfl) | (rw [IntWalk.u64_in _ (by omega)] <;> rfl)) ?_; (with_reducible refine (impl_FilterOk.calls k2 t106 t107 t108 t109 true _ A39.out).mono ?_); rintro e w66 ⟨rfl, hb⟩; refine ⟨_, rfl, ?_⟩; have n0_ := Aside0.mk (Kd.R_below (by (with_reducible repeat (first | apply Kd.R_alloc | apply Kd.R_drewN | apply Kd.R_drew)); exact HO_3.out) hb); have n1_ := Aside0.mk (blk_below (g := gb111) (o := .cells #[.int .i64 t106, .int .i64 t107, .int .i64 t108, .string t109] 46 (0, 0)) (by (with_reducible repeat (first | refine blk_drewN ?_ _ | refine blk_drew ?_ | refine blk_alloc ?_ _)); exact BK111.out) hb); have n2_ := Aside0.mk (blk_below (g := gb117) (o := .cells #[.int .i64 t112, .int .i64 t113, .int .i64 t114, .string t115] 46 (0, 0)) (by (with_reducible repeat (first | refine blk_drewN ?_ _ | refine blk_drew ?_ | refine blk_alloc ?_ _)); exact BK117.out) hb); have n3_ := Aside0.mk (below_step (by repeat (first | (with_reducible first | exact HB.out | apply below_alloc | apply pw_below_drewN | apply below_drew1 | refine below_set ?_ GE111.out | refine below_set ?_ GE117.out) | exact HB.out)) hb); clear HO_3; clear BK111; clear BK117; clear HB; have HO_3 := n0_; have BK111 := n1_; have BK117 := n2_; have HB := n3_; clear n0_ n1_ n2_ n3_; (try clear hb); (try clear hb2); (try clear hk); (try clear hi); have hcz67_0 : w66.cell? ⟨gb111, 0, none⟩ = some (.int .i64 t106) := (blk_cell BK111.out 0).trans rfl; have hcz67_1 : w66.cell? ⟨gb111, 1, none⟩ = some (.int .i64 t107) := (blk_cell BK111.out 1).trans rfl; have hcz67_2 : w66.cell? ⟨gb111, 2, none⟩ = some (.int .i64 t108) := (blk_cell BK111.out 2).trans rfl; have hcz67_3 : w66.cell? ⟨gb111, 3, none⟩ = some (.string t109) := (blk_cell BK111.out 3).trans rfl; have hfz67_0 := blk_frozen BK111.out 0; have hfz67_1 := blk_frozen BK111.out 1; have hfz67_2 := blk_frozen BK111.out 2; have hfz67_3 := blk_frozen BK111.out 3))
                        go_ret
                        exact ⟨by first | rfl | (simp [errW_none, errW_some] <;> rfl) | (simp [*, errW_none, errW_some] <;> rfl), by repeat (first | (with_reducible first | exact HB.out | apply below_alloc | apply pw_below_drewN | apply below_drew1 | refine below_set ?_ GE111.out | refine below_set ?_ GE117.out) | exact HB.out)⟩
                      · rw [if_neg c63] at H
                        exact absurd H (by simp)
                · replace c40 := Bool.eq_false_iff.mpr c40
                  subst c40
                  have H1 : (none) = some r := by rw [if_neg (show ¬ (false = true) by decide)] at H; exact H
                  clear H
                  have H := H1
                  clear H1
                  exact absurd H (by simp)
def laws_FnFilters.Pure : Prop := ∀ (l0 : List Int), l0.length ≤ maxLen → l0.length * 1 ≤ 140737488351232 → (∀ x ∈ l0, (Lit.int .u8 x).wf = true) → ∃ k, laws_FnFilters.f k l0 = some true
theorem laws_FnFilters.walk (P : laws_FnFilters.Pure) (a0 : Option Addr) (len0 cap0 : Nat) (z0 : List Int) (w : World) (w0 : (a0 = none ∧ len0 = 0 ∧ cap0 = 0 ∧ z0 = []) ∨ ∃ x, a0 = some x ∧ len0 ≤ cap0 ∧ cap0 ≤ maxLen ∧ z0.length = cap0 ∧ (∀ i, i < z0.length → w.cell? (x.add i) = some (.int .u8 (z0.getD i 0))) ∧ ∀ n ∈ z0, (Lit.int .u8 n).wf = true) (y0 : len0 * 1 ≤ 140737488351232) :
    Calls Try.prog 12 #[.slice a0 len0 cap0] w fun e w' => e = .returned (.bool true) ∧ Below w.heap.size w w' := by
  obtain ⟨l0, rfl, hr0, hm0, hw0, hc0⟩ := ReadsInt.ofRowC w0
  obtain ⟨k, h⟩ := P l0 hm0 y0 hw0
  refine (laws_FnFilters.calls k _ _ l0 true w (Kd.C_of_reads (d := (0 : Int)) (h1 := fun _ => rfl) hr0) hc0 h).mono ?_
  rintro e w' ⟨rfl, hd⟩
  exact ⟨rfl, hd⟩
end Go.Proofs.Ytedgdnkbojjbmaa.P
end

section
namespace Go.Proofs.Ytedgdnkbojjbmaa.P
open Go.RowKit Go.Proofs.YtedgdnkbojjbmaaW.PrintWords Go.Proofs.YtedgdnkbojjbmaaW.PrintLast Go.Proofs.YtedgdnkbojjbmaaW.PrintMore
attribute [local go_sem] str_gtr str_leq str_geq max2_int min2_int max_two min_two max_three min_three max_four min_four
set_option linter.unusedVariables false
set_option linter.unusedSimpArgs false
def tt (s : ByteArray) : ByteArray × ByteArray × Bool :=
  if (tv s).2.2 = true ∧ (tv s).1 ≤ 60000 ∧ (tv s).1 ≤ ((tv s).2.1.size : Int) then ((tv s).2.1.extract 0 (tv s).1.toNat, (tv s).2.1.extract (tv s).1.toNat (tv s).2.1.size, true) else (⟨#[]⟩, ⟨#[]⟩, false)
theorem bytesOf_strOfNums (l : List Int) (h : ∀ x ∈ l, 0 ≤ x ∧ x < 256) : bytesOf (strOfNums l) = l := by
  unfold bytesOf strOfNums
  simp only [List.map_map]
  conv => rhs; rw [← List.map_id l]
  refine List.map_congr_left fun x hx => ?_
  have := h x hx
  simp only [Function.comp_apply, id]
  rw [UInt8.toNat_ofNat']
  omega
def IsS101 (w0 W : World) (g : Nat) (f0 : ByteArray) (f1 : Bool) : Prop := W.heap[g]? = some (.cells #[.string f0, .bool f1] 101 (0, 0)) ∧ w0.heap.size ≤ g
theorem IsS101.grown {w0 W : World} {g : Nat} {f0 : ByteArray} {f1 : Bool} {W1 : World} {row : Option Nat} (h : IsS101 w0 W g f0 f1) (hw : W.grownBy W1 row) (hne : some g ≠ row) : IsS101 w0 W1 g f0 f1 := by
  obtain ⟨hb, hg⟩ := h
  exact ⟨blk_grown hb hw hne, hg⟩
theorem IsS101.kept {w0 W : World} {g : Nat} {f0 : ByteArray} {f1 : Bool} {W1 : World} {S : Nat → Prop} (h : IsS101 w0 W g f0 f1) (hk : Kept W W1 S) (hne : ¬ S g) : IsS101 w0 W1 g f0 f1 := by
  obtain ⟨hb, hg⟩ := h
  exact ⟨blk_kept hb hk hne, hg⟩
theorem IsS101.below {w0 W : World} {g : Nat} {f0 : ByteArray} {f1 : Bool} {W1 : World} (h : IsS101 w0 W g f0 f1) (hw : Below W.heap.size W W1) : IsS101 w0 W1 g f0 f1 := h.grown (grown_of_below hw none) (by simp)
theorem IsS101.alloc {w0 W : World} {g : Nat} {f0 : ByteArray} {f1 : Bool} (h : IsS101 w0 W g f0 f1) (o : Obj) : IsS101 w0 (W.alloc o) g f0 f1 := h.below (below_alloc (Below.refl _ _) o)
theorem IsS101.drewN {w0 W : World} {g : Nat} {f0 : ByteArray} {f1 : Bool} (h : IsS101 w0 W g f0 f1) (m : Nat) : IsS101 w0 (W.drewN m) g f0 f1 := h
theorem IsS101.drew {w0 W : World} {g : Nat} {f0 : ByteArray} {f1 : Bool} (h : IsS101 w0 W g f0 f1) : IsS101 w0 W.drew g f0 f1 := h
theorem IsS101.at_ {w0 W : World} {g : Nat} {f0 : ByteArray} {f1 : Bool} {w' : World} {m : Nat} (hq : W.drewN m = w') (h : IsS101 w0 W g f0 f1) : IsS101 w0 w' g f0 f1 := by subst hq; exact IsS101.drewN h m
theorem IsS101.apart {w0 W : World} {g : Nat} {f0 : ByteArray} {f1 : Bool} {α : Type} {d : Kd α} {e : Nat} {base : Nat} {ok : Nat → Prop} {v : Value} {xs : List α} (h : IsS101 w0 W g f0 f1) (ho : d.R e W base ok v xs) (ht : ∀ q, q ∈ e :: d.E → q ≠ 101) : d.R e W base (fun k => ok k ∧ k ≠ g) v xs := by
  obtain ⟨hb, hg⟩ := h
  exact Kd.R_types ho hb ht
theorem IsS101.own_ne {w0 W : World} {g : Nat} {f0 : ByteArray} {f1 : Bool} {α : Type} {d : Kd α} {e : Nat} {base : Nat} {ok : Nat → Prop} {v : Value} {xs : List α} (h : IsS101 w0 W g f0 f1) (ho : d.R e W base ok v xs) (ht : e ≠ 101) : some g ≠ v.ownBlock := by
  obtain ⟨hb, hg⟩ := h
  exact Kd.R_ne ho hb ht
theorem IsS101.lt {w0 W : World} {g : Nat} {f0 : ByteArray} {f1 : Bool} (h : IsS101 w0 W g f0 f1) : g < W.heap.size := by
  obtain ⟨hb, hg⟩ := h
  exact blk_lt hb
theorem IsS101.ge {w0 W : World} {g : Nat} {f0 : ByteArray} {f1 : Bool} (h : IsS101 w0 W g f0 f1) : w0.heap.size ≤ g := by
  obtain ⟨hb, hg⟩ := h
  exact hg
theorem IsS101.far {w0 W : World} {g : Nat} {f0 : ByteArray} {f1 : Bool} {p : Addr} (h : IsS101 w0 W g f0 f1) (hne : g ≠ p.block) (u : Value) : IsS101 w0 (W.setCell p u) g f0 f1 := by
  obtain ⟨hb, hg⟩ := h
  exact ⟨blk_far hb hne u, hg⟩
theorem IsS101.set_1 {w0 W : World} {g : Nat} {f0 : ByteArray} {f1 : Bool} (h : IsS101 w0 W g f0 f1) (x : Bool) : IsS101 w0 (W.setCell ⟨g, 1, none⟩ (.bool x)) g f0 x := by
  obtain ⟨hb, hg⟩ := h
  exact ⟨by simpa using blk_set hb 1 (.bool x), hg⟩
theorem IsS101.new (w0 W : World) (f0 : ByteArray) (f1 : Bool) (hB : Below w0.heap.size w0 W) : IsS101 w0 (W.alloc (.cells #[.string f0, .bool f1] 101)) W.heap.size f0 f1 := ⟨by simpa using heap_alloc_new W _, hB.size⟩
end Go.Proofs.Ytedgdnkbojjbmaa.P
end

section
namespace Go.Proofs.Ytedgdnkbojjbmaa.Pure
open Go.RowKit Go.Proofs.YtedgdnkbojjbmaaW.PrintWords Go.Proofs.YtedgdnkbojjbmaaW.PrintLast Go.Proofs.YtedgdnkbojjbmaaW.PrintMore
open Go.Proofs.Ytedgdnkbojjbmaa.P
set_option linter.unusedVariables false
set_option linter.unusedSimpArgs false
def fOk (a b c : Int) (t : ByteArray) : Prop := (a = 0 ∧ b = 0 ∧ c = 0 ∧ t.toList = []) ∨ (a = 1 ∧ b = 0 ∧ (1 ≤ c ∧ c ≤ 30) ∧ 1 ≤ t.size ∧ t.size ≤ 1000) ∨ (a = 2 ∧ c = 0 ∧ (0 ≤ b ∧ b ≤ 3) ∧ (20 ≤ t.size ∧ t.size ≤ 600) ∧ ∀ i : Nat, i < t.size → bt t (i : Int) ≤ 127)
noncomputable instance (a b c : Int) (t : ByteArray) : Decidable (fOk a b c t) := Classical.propDecidable _
def low7 (t : ByteArray) (i : Nat) : Prop := ∀ j : Nat, i ≤ j → j < t.size → bt t (j : Int) ≤ 127
noncomputable instance (t : ByteArray) (i : Nat) : Decidable (low7 t i) := Classical.propDecidable _
theorem filterOk_ev (a b c : Int) (t : ByteArray) (ht : t.size ≤ 4611686018427387904) : Ev (fun k => impl_FilterOk.f k a b c t) (decide (fOk a b c t)) := by
  have fw1 := within_ev c 1 30
  have fw2 := within_ev (t.size : Int) 1 1000
  have fw3 := within_ev b 0 3
  have fw4 := within_ev (t.size : Int) 20 600
  unfold impl_FilterOk.f
  by_cases c0 : a = 0
  · refine Ev.pos c0 ((Ev.now _).eqr ?_)
    subst c0
    unfold fOk
    by_cases h1 : b = 0 <;> by_cases h2 : c = 0 <;> by_cases h3 : t.toList = [] <;> simp [h1, h2, h3]
  · refine Ev.neg c0 ?_
    by_cases c1 : a = 1
    · refine Ev.pos c1 ?_
      by_cases cb : b = 0
      · refine Ev.pos cb (Ev.bindS fw1 ?_)
        by_cases cc : 1 ≤ c ∧ c ≤ 30
        · refine Ev.pos (decide_eq_true cc) (Ev.bindS fw2 ((Ev.now _).eqr ?_))
          exact decide_eq_decide.2 ⟨fun h => .inr (.inl ⟨c1, cb, cc, by omega, by omega⟩), fun h => by unfold fOk at h; omega⟩
        · exact Ev.neg (by simpa using cc) ((Ev.now _).eqr (decide_eq_false fun h => by unfold fOk at h; omega).symm)
      · exact Ev.neg cb ((Ev.now _).eqr (decide_eq_false fun h => by unfold fOk at h; omega).symm)
    · refine Ev.neg c1 ?_
      by_cases c2 : a = 2
      · refine Ev.pos c2 ?_
        have jt : ¬ fOk a b c t → Ev (fun k => impl_FilterOk.j0 k true a b c t) (decide (fOk a b c t)) := fun h => by
          refine Ev.step (fun k => impl_FilterOk.j0.eq_2 ..) ?_
          exact Ev.pos rfl ((Ev.now _).eqr (decide_eq_false h).symm)
        by_cases cc : c = 0
        · refine Ev.pos cc (Ev.bindS fw3 ?_)
          by_cases cb : 0 ≤ b ∧ b ≤ 3
          · refine Ev.pos (decide_eq_true cb) (Ev.bindS fw4 ?_)
            by_cases cs : 20 ≤ (t.size : Int) ∧ (t.size : Int) ≤ 600
            · rw [decide_eq_true cs]
              refine Ev.step (fun k => impl_FilterOk.j0.eq_2 ..) ?_
              refine Ev.neg (by decide) ?_
              have key : ∀ i, i ≤ t.size → Ev (fun k => impl_FilterOk.l0 k (t.size : Int) (i : Int) a b c t) (decide (low7 t i)) := by
                refine downTo t.size ?_ ?_
                · refine Ev.step (fun k => impl_FilterOk.l0.eq_2 ..) ?_
                  exact Ev.neg (by omega) ((Ev.now _).eqr (decide_eq_true (show low7 t t.size from fun j h1 h2 => by omega)).symm)
                · intro i hi ih
                  refine Ev.step (fun k => impl_FilterOk.l0.eq_2 ..) ?_
                  refine Ev.pos (by omega) (Ev.pos (by omega) (Ev.pos (by omega) ?_))
                  by_cases cz : bt t (i : Int) > 127
                  · exact Ev.pos cz ((Ev.now _).eqr (decide_eq_false (fun h => by have := h i (Nat.le_refl _) hi; omega)).symm)
                  · refine Ev.neg cz ?_
                    rw [wsucc (by omega)]
                    refine ih.eqr (decide_eq_decide.2 ⟨fun h j h1 h2 => ?_, fun h j h1 h2 => h j (by omega) h2⟩)
                    by_cases e : j = i
                    · subst e; omega
                    · exact h j (by omega) h2
              refine (key 0 (Nat.zero_le _)).eqr (decide_eq_decide.2 ⟨fun h => .inr (.inr ⟨c2, cc, cb, by omega, fun i hi => h i (Nat.zero_le _) hi⟩), fun h => ?_⟩)
              rcases h with h | h | h
              · omega
              · omega
              · exact fun j _ hj => h.2.2.2.2 j hj
            · rw [decide_eq_false cs]
              exact jt fun h => by unfold fOk at h; omega
          · exact Ev.neg (by simpa using cb) (jt fun h => by unfold fOk at h; omega)
        · exact Ev.neg cc (jt fun h => by unfold fOk at h; omega)
      · exact Ev.neg c2 ((Ev.now _).eqr (decide_eq_false fun h => by unfold fOk at h; omega).symm)
def rfP (s : ByteArray) : Prop := (tv s).2.2 = true ∧ (tv (tv s).2.1).2.2 = true ∧ (tv (tv (tv s).2.1).2.1).2.2 = true ∧ (tt (tv (tv (tv s).2.1).2.1).2.1).2.2 = true ∧ (tt (tv (tv (tv s).2.1).2.1).2.1).2.1.toList = [] ∧
  fOk (tv s).1 (tv (tv s).2.1).1 (tv (tv (tv s).2.1).2.1).1 (tt (tv (tv (tv s).2.1).2.1).2.1).1
noncomputable instance (s : ByteArray) : Decidable (rfP s) := Classical.propDecidable _
end Go.Proofs.Ytedgdnkbojjbmaa.Pure
end

section
namespace Go.Proofs.Ytedgdnkbojjbmaa.Pure
open Go.RowKit Go.Proofs.YtedgdnkbojjbmaaW.PrintWords Go.Proofs.YtedgdnkbojjbmaaW.PrintLast Go.Proofs.YtedgdnkbojjbmaaW.PrintMore
open Go.Proofs.Ytedgdnkbojjbmaa.P
set_option linter.unusedVariables false
set_option linter.unusedSimpArgs false
def bit8 (b k : Int) : Int := Go.bits .and .u8 (shr .u8 b k) 1
def put8 (b k : Int) : Int := Go.bits .or .u8 b (shl .u8 1 k)
theorem put8_hit : ∀ b : Fin 256, ∀ k : Fin 8, bit8 (put8 ((b.val : Nat) : Int) ((k.val : Nat) : Int)) ((k.val : Nat) : Int) = 1 := by decide +kernel
theorem put8_range : ∀ b : Fin 256, ∀ k : Fin 8, 0 ≤ put8 ((b.val : Nat) : Int) ((k.val : Nat) : Int) ∧ put8 ((b.val : Nat) : Int) ((k.val : Nat) : Int) < 256 := by decide +kernel
theorem put8_stays : ∀ b : Fin 256, ∀ k j : Fin 8, bit8 ((b.val : Nat) : Int) ((j.val : Nat) : Int) = 1 → bit8 (put8 ((b.val : Nat) : Int) ((k.val : Nat) : Int)) ((j.val : Nat) : Int) = 1 := by decide +kernel
theorem put8_hit' (b k : Int) (hb : 0 ≤ b ∧ b < 256) (hk : 0 ≤ k ∧ k < 8) : bit8 (put8 b k) k = 1 ∧ 0 ≤ put8 b k ∧ put8 b k < 256 := by
  have h1 := put8_hit ⟨b.toNat, by omega⟩ ⟨k.toNat, by omega⟩
  have h2 := put8_range ⟨b.toNat, by omega⟩ ⟨k.toNat, by omega⟩
  simp only [Int.toNat_of_nonneg hb.1, Int.toNat_of_nonneg hk.1] at h1 h2
  exact ⟨h1, h2⟩
theorem put8_stays' (b k j : Int) (hb : 0 ≤ b ∧ b < 256) (hk : 0 ≤ k ∧ k < 8) (hj : 0 ≤ j ∧ j < 8) (h : bit8 b j = 1) : bit8 (put8 b k) j = 1 := by
  have h1 := put8_stays ⟨b.toNat, by omega⟩ ⟨k.toNat, by omega⟩ ⟨j.toNat, by omega⟩
  simp only [Int.toNat_of_nonneg hb.1, Int.toNat_of_nonneg hk.1, Int.toNat_of_nonneg hj.1] at h1
  exact h1 h
def okB8 (l : List Int) : Prop := ∀ j : Nat, 0 ≤ l.getD j 0 ∧ l.getD j 0 < 256
def bput (l : List Int) (y : Nat) : List Int := l.set (y / 8) (put8 (l.getD (y / 8) 0) ((y % 8 : Nat) : Int))
def bhas (l : List Int) (y : Nat) : Prop := bit8 (l.getD (y / 8) 0) ((y % 8 : Nat) : Int) = 1
theorem getDI_set (l : List Int) (i j : Nat) (x : Int) (h : i < l.length) : (l.set i x).getD j 0 = if i = j then x else l.getD j 0 := by
  rw [List.getD_eq_getElem?_getD, List.getElem?_set]
  by_cases e : i = j
  · subst e
    rw [if_pos rfl, if_pos h, if_pos rfl]
    rfl
  · rw [if_neg e, if_neg e, List.getD_eq_getElem?_getD]
theorem mod8 (y : Nat) : 0 ≤ ((y % 8 : Nat) : Int) ∧ ((y % 8 : Nat) : Int) < 8 := by omega
theorem bput_len (l : List Int) (y : Nat) : (bput l y).length = l.length := List.length_set
theorem bput_ok {l : List Int} (h : okB8 l) (y : Nat) : okB8 (bput l y) := by
  intro j
  unfold bput
  by_cases c : y / 8 < l.length
  · rw [getDI_set l _ j _ c]
    split
    · exact (put8_hit' _ _ (h _) (mod8 y)).2
    · exact h j
  · rw [List.set_eq_of_length_le (by omega)]
    exact h j
theorem bput_hit {l : List Int} (h : okB8 l) (y : Nat) (hy : y / 8 < l.length) : bhas (bput l y) y := by
  unfold bhas bput
  rw [getDI_set l _ _ _ hy, if_pos rfl]
  exact (put8_hit' _ _ (h _) (mod8 y)).1
theorem bput_stays {l : List Int} (h : okB8 l) (y z : Nat) (hz : bhas l z) : bhas (bput l y) z := by
  unfold bhas bput
  by_cases c : y / 8 < l.length
  · rw [getDI_set l _ _ _ c]
    split
    · rename_i e
      have hz2 : bit8 (l.getD (z / 8) 0) ((z % 8 : Nat) : Int) = 1 := hz
      rw [← e] at hz2
      exact put8_stays' _ _ _ (h _) (mod8 y) (mod8 z) hz2
    · exact hz
  · rw [List.set_eq_of_length_le (by omega)]
    exact hz
end Go.Proofs.Ytedgdnkbojjbmaa.Pure
end

section
namespace Go.Proofs.Ytedgdnkbojjbmaa.Pure
open Go.RowKit Go.Proofs.YtedgdnkbojjbmaaW.PrintWords Go.Proofs.YtedgdnkbojjbmaaW.PrintLast Go.Proofs.YtedgdnkbojjbmaaW.PrintMore
open Go.Proofs.Ytedgdnkbojjbmaa.P
set_option linter.unusedVariables false
set_option linter.unusedSimpArgs false
def posI (x n i : Nat) : Int := Int.tmod (IntKind.u64.wrap ((x : Int) + (IntKind.u64.wrap ((i : Int) * (Go.bits .or .u64 ((x : Int) / 8589934592) (IntKind.u64.wrap ((x : Int) * 2147483648))))))) (8 * (n : Int))
theorem posI_range (x n i : Nat) (hn : 0 < n) : 0 ≤ posI x n i ∧ posI x n i < 8 * (n : Int) := by
  unfold posI
  rw [u64w, Int.tmod_eq_emod_of_nonneg (Int.emod_nonneg _ (by decide))]
  exact ⟨Int.emod_nonneg _ (by omega), Int.emod_lt_of_pos _ (by omega)⟩
def posN (x n i : Nat) : Nat := (posI x n i).toNat
theorem posN_cast (x n i : Nat) (hn : 0 < n) : posI x n i = ((posN x n i : Nat) : Int) := by
  have := (posI_range x n i hn).1
  unfold posN
  omega
theorem place_ev (u : ByteArray) (x n i : Nat) (hn : 0 < n) (hn1 : n ≤ 100000) (hi : i < 1000) (hx : Ev (fun k => spec_Hash.f k 0 u) (x : Int)) : Ev (fun k => spec_l3Place.f k u (i : Int) (IntKind.u64.wrap (wrap64 (8 * (n : Int))))) ((posN x n i : Nat) : Int) := by
  have w8 : IntKind.u64.wrap (wrap64 (8 * (n : Int))) = 8 * (n : Int) := by rw [wid (by omega) (by omega), uid (by omega) (by omega)]
  have hne : ¬ 8 * (n : Int) = 0 := by omega
  have hw : IntKind.u64.wrap (i : Int) = (i : Int) := uid (by omega) (by omega)
  rw [w8, ← posN_cast x n i hn]
  unfold spec_l3Place.f posI
  rw [hw]
  exact Ev.bind hx (Ev.neg hne (Ev.now _))
theorem probes_ev (u : ByteArray) (x n : Nat) (hn : 0 < n) (hn1 : n ≤ 100000) (hx : Ev (fun k => impl_Hash.f k 0 u) (x : Int)) : Ev (fun k => impl_probes.f k u 6 (n : Int)) ((List.range 6).map fun i => ((posN x n i : Nat) : Int)) := by
  have w8 : IntKind.u64.wrap (8 * IntKind.u64.wrap (n : Int)) = 8 * (n : Int) := by rw [uid (x := (n : Int)) (by omega) (by omega), uid (by omega) (by omega)]
  have hne : ¬ 8 * (n : Int) = 0 := by omega
  have key : ∀ i : Nat, i ≤ 6 → Ev (fun k => impl_probes.l0 k (n : Int) (x : Int) (Go.bits .or .u64 ((x : Int) / 8589934592) (IntKind.u64.wrap ((x : Int) * 2147483648))) ((List.range i).map fun i => ((posN x n i : Nat) : Int)) 6 (i : Int)) ((List.range 6).map fun i => ((posN x n i : Nat) : Int)) := by
    refine downTo 6 ?_ ?_
    · refine Ev.step (fun k => impl_probes.l0.eq_2 ..) ?_
      exact Ev.neg (by decide) (Ev.now _)
    · intro i hi ih
      have h6 : (i : Int) < 6 := by omega
      have hl : ((List.range i).map fun i => ((posN x n i : Nat) : Int)).length < 17592186044416 := by
        rw [List.length_map, List.length_range]
        omega
      have hs : IntKind.u64.wrap ((i : Int) + 1) = ((i + 1 : Nat) : Int) := by rw [uid (by omega) (by omega)]; omega
      rw [List.range_succ, List.map_append, List.map_cons, List.map_nil, ← posN_cast x n i hn] at ih
      refine Ev.step (fun k => impl_probes.l0.eq_2 ..) ?_
      rw [w8, hs]
      exact Ev.pos h6 (Ev.neg hne (Ev.pos hl ih))
  unfold impl_probes.f
  exact Ev.bind hx (key 0 (by decide))
end Go.Proofs.Ytedgdnkbojjbmaa.Pure
end

section
namespace Go.Proofs.Ytedgdnkbojjbmaa.Pure
open Go.RowKit Go.Proofs.YtedgdnkbojjbmaaW.PrintWords Go.Proofs.YtedgdnkbojjbmaaW.PrintLast Go.Proofs.YtedgdnkbojjbmaaW.PrintMore
open Go.Proofs.Ytedgdnkbojjbmaa.P
set_option linter.unusedVariables false
set_option linter.unusedSimpArgs false
def uput (x n : Nat) : Nat → Nat → List Int → List Int
  | 0, _, l => l
  | d + 1, i, l => uput x n d (i + 1) (bput l (posN x n i))
theorem bput_eq (l : List Int) (y : Nat) (hy : y < 1000000) : IntKind.u64.wrap (Int.tdiv (y : Int) 8) = ((y / 8 : Nat) : Int) ∧ Int.tmod (y : Int) 8 = ((y % 8 : Nat) : Int) ∧ l.set (((y / 8 : Nat) : Int)).toNat (Go.bits .or .u8 (rd l ((y / 8 : Nat) : Int)) (shl .u8 1 ((y % 8 : Nat) : Int))) = bput l y := by
  refine ⟨by rw [Int.tdiv_eq_ediv_of_nonneg (by omega), uid (by omega) (by omega)]; omega, by rw [Int.tmod_eq_emod_of_nonneg (by omega)]; omega, ?_⟩
  rw [Int.toNat_natCast, getD_rd]
  rfl
theorem posN_lt (x n i : Nat) (hn : 0 < n) : posN x n i < 8 * n := by
  have h := (posI_range x n i hn).2
  have h2 := posN_cast x n i hn
  omega
theorem sIn_ev (us : List ByteArray) (x n m : Nat) (hm : m < us.length) (hl : us.length ≤ 1000) (hn : 0 < n) (hn1 : n ≤ 10000) (hx : Ev (fun k => spec_Hash.f k 0 us[m]) (x : Int)) (X : Int × Int × Int × ByteArray × Bool) : ∀ i, i ≤ 6 → ∀ bits : List Int, bits.length = n → Ev (fun k => spec_BloomOf.l0 k us (n : Int) 6 (uput x n (6 - i) i bits) ((m + 1 : Nat) : Int)) X → Ev (fun k => spec_BloomOf.l1 k us (n : Int) 6 bits (m : Int) (i : Int)) X := by
  have hr : rdOf ByteArray.empty us (m : Int) = us[m] := by
    unfold rdOf
    rw [Int.toNat_natCast, List.getD_eq_getElem?_getD, List.getElem?_eq_getElem hm]
    rfl
  have m1 : (m : Int) < (us.length : Int) := by omega
  have m0 : (0 : Int) ≤ (m : Int) := by omega
  refine downTo 6 ?_ ?_
  · intro bits _ h
    have hw : wrap64 ((m : Int) + 1) = ((m + 1 : Nat) : Int) := wsucc (by omega)
    refine Ev.step (fun k => spec_BloomOf.l1.eq_2 ..) ?_
    rw [hw]
    exact Ev.neg (by decide) h
  · intro i hi ih bits hb h
    have h6 : (i : Int) < 6 := by omega
    have e6 : 6 - i = (6 - (i + 1)) + 1 := by omega
    have hp := place_ev us[m] x n i hn (by omega) (by omega) hx
    have hlt := posN_lt x n i hn
    obtain ⟨b1, b2, b3⟩ := bput_eq bits (posN x n i) (by omega)
    have q1 : (0 : Int) ≤ ((posN x n i / 8 : Nat) : Int) := Int.natCast_nonneg _
    have q2 : ((posN x n i / 8 : Nat) : Int) < (bits.length : Int) := by omega
    have q3 : (0 : Int) ≤ ((posN x n i % 8 : Nat) : Int) := Int.natCast_nonneg _
    have hs : wrap64 ((i : Int) + 1) = ((i + 1 : Nat) : Int) := wsucc (by omega)
    rw [e6, uput] at h
    have hnext := ih (bput bits (posN x n i)) (by rw [bput_len]; exact hb) h
    refine Ev.step (fun k => spec_BloomOf.l1.eq_2 ..) ?_
    rw [hr, hs]
    refine Ev.pos h6 (Ev.pos m0 (Ev.pos m1 (Ev.bind hp ?_)))
    rw [b1, b2, b3]
    exact Ev.pos q1 (Ev.pos q2 (Ev.pos q3 hnext))
end Go.Proofs.Ytedgdnkbojjbmaa.Pure
end

section
namespace Go.Proofs.Ytedgdnkbojjbmaa.Pure
open Go.RowKit Go.Proofs.YtedgdnkbojjbmaaW.PrintWords Go.Proofs.YtedgdnkbojjbmaaW.PrintLast Go.Proofs.YtedgdnkbojjbmaaW.PrintMore
open Go.Proofs.Ytedgdnkbojjbmaa.P
set_option linter.unusedVariables false
set_option linter.unusedSimpArgs false
theorem iIn_ev (us : List ByteArray) (x n m : Nat) (hm : m < us.length) (hl : us.length ≤ 1000) (hn : 0 < n) (hn1 : n ≤ 10000) (X : Int × Int × Int × ByteArray × Bool) : ∀ i, i ≤ 6 → ∀ bits : List Int, bits.length = n → Ev (fun k => impl_BloomOf.l0 k (uput x n (6 - i) i bits) us (us.length : Int) ((m + 1 : Nat) : Int) 1 0 6 ⟨#[]⟩) X → Ev (fun k => impl_BloomOf.l1 k bits us (us.length : Int) (m : Int) ((List.range 6).map fun i => ((posN x n i : Nat) : Int)) 6 (i : Int) 1 0 6 ⟨#[]⟩) X := by
  refine downTo 6 ?_ ?_
  · intro bits _ h
    have hw : wrap64 ((m : Int) + 1) = ((m + 1 : Nat) : Int) := wsucc (by omega)
    refine Ev.step (fun k => impl_BloomOf.l1.eq_2 ..) ?_
    rw [hw]
    exact Ev.neg (by decide) h
  · intro i hi ih bits hb h
    have h6 : (i : Int) < 6 := by omega
    have i0 : (0 : Int) ≤ (i : Int) := by omega
    have il : (i : Int) < (((List.range 6).map fun i => ((posN x n i : Nat) : Int)).length : Int) := by rw [List.length_map, List.length_range]; exact h6
    have hrd : rd ((List.range 6).map fun i => ((posN x n i : Nat) : Int)) (i : Int) = ((posN x n i : Nat) : Int) := by
      rw [getD_rd, List.getD_eq_getElem?_getD, List.getElem?_map, List.getElem?_range hi]
      rfl
    have e6 : 6 - i = (6 - (i + 1)) + 1 := by omega
    have hlt := posN_lt x n i hn
    obtain ⟨b1, b2, b3⟩ := bput_eq bits (posN x n i) (by omega)
    have q1 : (0 : Int) ≤ ((posN x n i / 8 : Nat) : Int) := Int.natCast_nonneg _
    have q2 : ((posN x n i / 8 : Nat) : Int) < (bits.length : Int) := by omega
    have q3 : (0 : Int) ≤ ((posN x n i % 8 : Nat) : Int) := Int.natCast_nonneg _
    have hs : wrap64 ((i : Int) + 1) = ((i + 1 : Nat) : Int) := wsucc (by omega)
    rw [e6, uput] at h
    have hnext := ih (bput bits (posN x n i)) (by rw [bput_len]; exact hb) h
    refine Ev.step (fun k => impl_BloomOf.l1.eq_2 ..) ?_
    rw [hrd, hs, b1, b2, b3]
    exact Ev.pos h6 (Ev.pos i0 (Ev.pos il (Ev.pos q1 (Ev.pos q2 (Ev.pos q3 hnext)))))
end Go.Proofs.Ytedgdnkbojjbmaa.Pure
end

section
namespace Go.Proofs.Ytedgdnkbojjbmaa.Pure
open Go.RowKit Go.Proofs.YtedgdnkbojjbmaaW.PrintWords Go.Proofs.YtedgdnkbojjbmaaW.PrintLast Go.Proofs.YtedgdnkbojjbmaaW.PrintMore
open Go.Proofs.Ytedgdnkbojjbmaa.P
set_option linter.unusedVariables false
set_option linter.unusedSimpArgs false
def aput (n : Nat) : List Nat → List Int → List Int
  | [], l => l
  | x :: xs, l => aput n xs (uput x n 6 0 l)
theorem uput_len (x n : Nat) : ∀ d i l, (uput x n d i l).length = l.length
  | 0, _, _ => rfl
  | d + 1, i, l => by rw [uput, uput_len x n d, bput_len]
theorem uput_ok (x n : Nat) : ∀ d i (l : List Int), okB8 l → okB8 (uput x n d i l)
  | 0, _, _, h => h
  | d + 1, i, l, h => by rw [uput]; exact uput_ok x n d (i + 1) _ (bput_ok h _)
theorem uput_stays (x n z : Nat) : ∀ d i (l : List Int), okB8 l → bhas l z → bhas (uput x n d i l) z
  | 0, _, _, _, hz => hz
  | d + 1, i, l, h, hz => by rw [uput]; exact uput_stays x n z d (i + 1) _ (bput_ok h _) (bput_stays h _ _ hz)
theorem uput_hit (x n : Nat) (hn : 0 < n) : ∀ d i (l : List Int), okB8 l → l.length = n → ∀ j, i ≤ j → j < i + d → bhas (uput x n d i l) (posN x n j)
  | 0, _, _, _, _, _, h1, h2 => by omega
  | d + 1, i, l, h, hl, j, h1, h2 => by
    rw [uput]
    have hlt := posN_lt x n i hn
    by_cases e : i = j
    · subst e
      exact uput_stays x n _ d (i + 1) _ (bput_ok h _) (bput_hit h _ (by omega))
    · exact uput_hit x n hn d (i + 1) _ (bput_ok h _) (by rw [bput_len]; exact hl) j (by omega) (by omega)
theorem aput_len (n : Nat) : ∀ xs l, (aput n xs l).length = l.length
  | [], _ => rfl
  | x :: xs, l => by rw [aput, aput_len n xs, uput_len]
theorem aput_stays (n z : Nat) : ∀ (xs : List Nat) (l : List Int), okB8 l → bhas l z → bhas (aput n xs l) z
  | [], _, _, hz => hz
  | x :: xs, l, h, hz => by rw [aput]; exact aput_stays n z xs _ (uput_ok x n 6 0 l h) (uput_stays x n z 6 0 l h hz)
theorem aput_hit (n : Nat) (hn : 0 < n) : ∀ (xs : List Nat) (l : List Int), okB8 l → l.length = n → ∀ x ∈ xs, ∀ j, j < 6 → bhas (aput n xs l) (posN x n j)
  | [], _, _, _, x, hx, _, _ => by cases hx
  | y :: ys, l, h, hl, x, hx, j, hj => by
    rw [aput]
    rcases List.mem_cons.1 hx with rfl | hx
    · exact aput_stays n _ ys _ (uput_ok x n 6 0 l h) (uput_hit x n hn 6 0 l h hl j (Nat.zero_le _) (by omega))
    · exact aput_hit n hn ys _ (uput_ok y n 6 0 l h) (by rw [uput_len]; exact hl) x hx j hj
end Go.Proofs.Ytedgdnkbojjbmaa.Pure
end

section
namespace Go.Proofs.Ytedgdnkbojjbmaa.Pure
open Go.RowKit Go.Proofs.YtedgdnkbojjbmaaW.PrintWords Go.Proofs.YtedgdnkbojjbmaaW.PrintLast Go.Proofs.YtedgdnkbojjbmaaW.PrintMore
open Go.Proofs.Ytedgdnkbojjbmaa.P
set_option linter.unusedVariables false
set_option linter.unusedSimpArgs false
theorem bOut_ev (us : List ByteArray) (xs : List Nat) (hxl : xs.length = us.length) (hl : us.length ≤ 1000) (n : Nat) (hn : 0 < n) (hn1 : n ≤ 10000) (hx : ∀ (m : Nat) (h1 : m < us.length) (h2 : m < xs.length), Ev (fun k => spec_Hash.f k 0 us[m]) ((xs[m] : Nat) : Int) ∧ Ev (fun k => impl_Hash.f k 0 us[m]) ((xs[m] : Nat) : Int)) : ∀ m, m ≤ us.length → ∀ bits : List Int, bits.length = n →
    Ev (fun k => spec_BloomOf.l0 k us (n : Int) 6 bits (m : Int)) (1, 0, 6, strOfNums (aput n (xs.drop m) bits), true) ∧ Ev (fun k => impl_BloomOf.l0 k bits us (us.length : Int) (m : Int) 1 0 6 ⟨#[]⟩) (1, 0, 6, strOfNums (aput n (xs.drop m) bits), true) := by
  refine downTo us.length ?_ ?_
  · intro bits _
    rw [← hxl, List.drop_length, aput, hxl]
    constructor
    · refine Ev.step (fun k => spec_BloomOf.l0.eq_2 ..) ?_
      exact Ev.neg (by omega) (Ev.now _)
    · refine Ev.step (fun k => impl_BloomOf.l0.eq_2 ..) ?_
      exact Ev.neg (by omega) (Ev.now _)
  · intro m hm ih bits hb
    have hm2 : m < xs.length := by omega
    obtain ⟨h1, h2⟩ := hx m hm hm2
    rw [List.drop_eq_getElem_cons hm2, aput]
    obtain ⟨g1, g2⟩ := ih (uput xs[m] n 6 0 bits) (by rw [uput_len]; exact hb)
    have hr : rdOf ByteArray.empty us (m : Int) = us[m] := by
      unfold rdOf
      rw [Int.toNat_natCast, List.getD_eq_getElem?_getD, List.getElem?_eq_getElem hm]
      rfl
    have m1 : (m : Int) < (us.length : Int) := by omega
    have m0 : (0 : Int) ≤ (m : Int) := by omega
    constructor
    · refine Ev.step (fun k => spec_BloomOf.l0.eq_2 ..) ?_
      exact Ev.pos m1 (sIn_ev us xs[m] n m hm hl hn hn1 h1 _ 0 (by decide) bits hb g1)
    · have hp := probes_ev us[m] xs[m] n hn (by omega) h2
      have hin := iIn_ev us xs[m] n m hm hl hn hn1 _ 0 (by decide) bits hb g2
      refine Ev.step (fun k => impl_BloomOf.l0.eq_2 ..) ?_
      rw [hr, hb]
      refine Ev.pos m1 (Ev.pos m0 (Ev.pos m1 (Ev.bind hp ?_)))
      rw [List.length_map, List.length_range]
      exact hin
end Go.Proofs.Ytedgdnkbojjbmaa.Pure
end

section
namespace Go.Proofs.Ytedgdnkbojjbmaa.Pure
open Go.RowKit Go.Proofs.YtedgdnkbojjbmaaW.PrintWords Go.Proofs.YtedgdnkbojjbmaaW.PrintLast Go.Proofs.YtedgdnkbojjbmaaW.PrintMore
open Go.Proofs.Ytedgdnkbojjbmaa.P
set_option linter.unusedVariables false
set_option linter.unusedSimpArgs false
theorem hashes_ex : ∀ us : List ByteArray, (∀ u ∈ us, u.size ≤ 1000000) → ∃ xs : List Nat, xs.length = us.length ∧ ∀ (m : Nat) (h1 : m < us.length) (h2 : m < xs.length), Ev (fun k => spec_Hash.f k 0 us[m]) ((xs[m] : Nat) : Int) ∧ Ev (fun k => impl_Hash.f k 0 us[m]) ((xs[m] : Nat) : Int)
  | [], _ => ⟨[], rfl, fun m hm => absurd hm (Nat.not_lt_zero _)⟩
  | u :: us, h => by
    obtain ⟨x, hx, h1, h2⟩ := hash2_ev 0 u (h u (List.mem_cons_self ..))
    obtain ⟨xs, hl, he⟩ := hashes_ex us (fun v hv => h v (List.mem_cons_of_mem _ hv))
    refine ⟨x :: xs, by rw [List.length_cons, List.length_cons, hl], fun m hm hm2 => ?_⟩
    cases m with
    | zero => exact ⟨h2, h1⟩
    | succ m => exact he m (Nat.lt_of_succ_lt_succ hm) (Nat.lt_of_succ_lt_succ hm2)
theorem zerosI_ok (n : Nat) : okB8 (List.replicate n (0 : Int)) := by
  intro j
  rw [List.getD_eq_getElem?_getD, List.getElem?_replicate]
  split <;> decide
theorem aput_ok (n : Nat) : ∀ (xs : List Nat) (l : List Int), okB8 l → okB8 (aput n xs l)
  | [], _, h => h
  | x :: xs, l, h => by rw [aput]; exact aput_ok n xs _ (uput_ok x n 6 0 l h)
theorem okB8_bytes {l : List Int} (h : okB8 l) : bytesOf (strOfNums l) = l := by
  refine bytesOf_strOfNums _ fun x hx => ?_
  obtain ⟨j, hj, rfl⟩ := List.getElem_of_mem hx
  have := h j
  rw [List.getD_eq_getElem?_getD, List.getElem?_eq_getElem hj] at this
  exact this
theorem bloom2_ev (us : List ByteArray) (h15 : us.length ≤ 15) (hu : usOk us) : ∃ r : Int × Int × Int × ByteArray × Bool, Ev (fun k => spec_BloomOf.f k us 10) r ∧ Ev (fun k => impl_BloomOf.f k us 10) r ∧ r.2.2.2.2 = true ∧ r.1 = 1 ∧ fOk r.1 r.2.1 r.2.2.1 r.2.2.2.1 ∧ r.2.2.2.1.size ≤ 1000 ∧ ∀ (j : Nat) (hj : j < us.length), Ev (fun k => impl_BloomMay.f k r.1 r.2.1 r.2.2.1 r.2.2.2.1 us[j]) true := by
  have hsz : ∀ u ∈ us, u.size ≤ 1000000 := fun u hx => by
    have := hu.2 u hx
    unfold isU at this
    omega
  obtain ⟨xs, hxl, hx⟩ := hashes_ex us hsz
  have e1 : ∃ n : Nat, 8 ≤ n ∧ n ≤ 100 ∧ wrap64 (Int.tdiv (wrap64 ((mx 64 (wrap64 ((us.length : Int) * 10))) + 7)) 8) = (n : Int) := by
    rw [wid (x := (us.length : Int) * 10) (by omega) (by omega)]
    have hm : 64 ≤ mx 64 ((us.length : Int) * 10) ∧ mx 64 ((us.length : Int) * 10) ≤ 150 := by
      unfold mx
      split <;> omega
    generalize mx 64 ((us.length : Int) * 10) = m at hm
    rw [wid (x := m + 7) (by omega) (by omega), Int.tdiv_eq_ediv_of_nonneg (by omega), wid (by omega) (by omega)]
    exact ⟨((m + 7) / 8).toNat, by omega, by omega, by omega⟩
  obtain ⟨n, n1, n2, en⟩ := e1
  have e2 : mn (mx 1 (wrap64 (Int.tdiv (wrap64 ((10 : Int) * 69)) 100))) 30 = 6 := by
    rw [wid (x := (10 : Int) * 69) (by decide) (by decide), wid (by decide) (by decide)]
    rfl
  have e3 : mn (mx (wrap64 (Int.tdiv (wrap64 ((69 : Int) * 10)) 100)) 1) 30 = 6 := by
    rw [wid (x := (69 : Int) * 10) (by decide) (by decide), wid (by decide) (by decide)]
    rfl
  have e4 : (10 : Int) * (us.length : Int) = (us.length : Int) * 10 := Int.mul_comm _ _
  have hzl : (List.replicate n (0 : Int)).length = n := List.length_replicate
  obtain ⟨b1, b2⟩ := bOut_ev us xs hxl (by omega) n (by omega) (by omega) hx 0 (Nat.zero_le _) (List.replicate n 0) hzl
  rw [List.drop_zero] at b1 b2
  obtain ⟨u1, u2⟩ := users2_ev us (by omega)
  rw [decide_eq_true hu] at u1 u2
  have hin := in_ev 10 1 20
  rw [show decide ((1 : Int) ≤ 10 ∧ (10 : Int) ≤ 20) = true from by decide] at hin
  have hin2 := within_ev 10 1 20
  rw [show decide ((1 : Int) ≤ 10 ∧ (10 : Int) ≤ 20) = true from by decide] at hin2
  have q1 : (0 : Int) ≤ (n : Int) := by omega
  have q2 : n ≤ 281474976710656 := by omega
  have ok8 := aput_ok n xs _ (zerosI_ok n)
  have hal : (aput n xs (List.replicate n 0)).length = n := by rw [aput_len, hzl]
  have hhit := aput_hit n (by omega) xs (List.replicate n 0) (zerosI_ok n) hzl
  generalize aput n xs (List.replicate n 0) = L at b1 b2 ok8 hal hhit
  have hbo := okB8_bytes ok8
  have hsz2 : (strOfNums L).size = n := by rw [← bytesOf_length, hbo, hal]
  have hok : fOk 1 0 6 (strOfNums L) := .inr (.inl ⟨rfl, rfl, by decide, by omega, by omega⟩)
  refine ⟨(1, 0, 6, strOfNums L, true), ?_, ?_, rfl, rfl, hok, by show (strOfNums L).size ≤ 1000; omega, fun j hj => ?_⟩
  · unfold spec_BloomOf.f
    refine Ev.bind u1 (Ev.pos rfl (Ev.bindS hin ?_))
    refine Ev.step (fun k => spec_BloomOf.j0.eq_2 ..) ?_
    rw [en, e2, Int.toNat_natCast]
    exact Ev.neg (by decide) (Ev.pos q1 (Ev.pos q2 b1))
  · unfold impl_BloomOf.f
    refine Ev.bind u2 (Ev.pos rfl (Ev.bindS hin2 ?_))
    refine Ev.step (fun k => impl_BloomOf.j0.eq_2 ..) ?_
    rw [e4, en, e3, Int.toNat_natCast]
    exact Ev.neg (by decide) (Ev.pos q1 (Ev.pos q2 b2))
  · have hj2 : j < xs.length := by omega
    have hx1 := (hx j hj hj2).2
    have hh := hhit xs[j] (List.getElem_mem hj2)
    generalize xs[j] = x at hx1 hh
    have hf := filterOk_ev 1 0 6 (strOfNums L) (by omega)
    rw [decide_eq_true hok] at hf
    have hp := probes_ev us[j] x n (by omega) (by omega) hx1
    have key : ∀ i : Nat, i ≤ 6 → Ev (fun k => impl_bloomMay.l0 k ((List.range 6).map fun i => ((posN x n i : Nat) : Int)) 6 (i : Int) 1 0 6 (strOfNums L)) true := by
      refine downTo 6 ?_ ?_
      · refine Ev.step (fun k => impl_bloomMay.l0.eq_2 ..) ?_
        exact Ev.neg (by decide) (Ev.now _)
      · intro i hi ih
        have h6 : (i : Int) < 6 := by omega
        have i0 : (0 : Int) ≤ (i : Int) := by omega
        have il : (i : Int) < (((List.range 6).map fun i => ((posN x n i : Nat) : Int)).length : Int) := by rw [List.length_map, List.length_range]; exact h6
        have hrd : rd ((List.range 6).map fun i => ((posN x n i : Nat) : Int)) (i : Int) = ((posN x n i : Nat) : Int) := by
          rw [getD_rd, List.getD_eq_getElem?_getD, List.getElem?_map, List.getElem?_range hi]
          rfl
        have hlt := posN_lt x n i (by omega)
        have hb := hh i hi
        generalize posN x n i = y at hrd hlt hb
        obtain ⟨c1, c2, _⟩ := bput_eq L y (by omega)
        have q1 : (0 : Int) ≤ ((y / 8 : Nat) : Int) := Int.natCast_nonneg _
        have q2 : ((y / 8 : Nat) : Int) < ((strOfNums L).size : Int) := by omega
        have q3 : (0 : Int) ≤ ((y % 8 : Nat) : Int) := Int.natCast_nonneg _
        have hs : wrap64 ((i : Int) + 1) = ((i + 1 : Nat) : Int) := wsucc (by omega)
        have hbt : Go.bits .and .u8 (shr .u8 (bt (strOfNums L) ((y / 8 : Nat) : Int)) ((y % 8 : Nat) : Int)) 1 = 1 := by
          rw [← rd_bytesOf, hbo, getD_rd]
          exact hb
        refine Ev.step (fun k => impl_bloomMay.l0.eq_2 ..) ?_
        rw [hrd, c1, c2, hs, hbt]
        exact Ev.pos h6 (Ev.pos i0 (Ev.pos il (Ev.pos q1 (Ev.pos q2 (Ev.pos q3 (Ev.neg (by decide) ih))))))
    show Ev (fun k => impl_BloomMay.f k 1 0 6 (strOfNums L) us[j]) true
    unfold impl_BloomMay.f
    refine Ev.pos rfl (Ev.bind hf (Ev.pos rfl (Ev.bind ?_ (Ev.now _))))
    unfold impl_bloomMay.f
    rw [hsz2]
    refine Ev.bind hp ?_
    rw [List.length_map, List.length_range]
    exact key 0 (Nat.zero_le _)
end Go.Proofs.Ytedgdnkbojjbmaa.Pure
end

section
namespace Go.Proofs.Ytedgdnkbojjbmaa.Pure
open Go.RowKit Go.Proofs.YtedgdnkbojjbmaaW.PrintWords Go.Proofs.YtedgdnkbojjbmaaW.PrintLast Go.Proofs.YtedgdnkbojjbmaaW.PrintMore
open Go.Proofs.Ytedgdnkbojjbmaa.P
set_option linter.unusedVariables false
set_option linter.unusedSimpArgs false
theorem back_lt {rows sums : List Nat} (h7 : okS7 sums) : ∀ m bits, (∀ j, bits.getD j 0 < 128) → ∀ j, (back rows sums m bits).getD j 0 < 128
  | 0, _, h, j => h j
  | m + 1, bits, h, j => by
    rw [back]
    refine back_lt h7 m _ (fun j => getD_lt h m _ j ?_) j
    split
    · decide
    · exact Nat.xor_lt_two_pow (n := 7) (h7 m) (sol_lt h _ _ _)
theorem castL_bytes (B : List Nat) (h : ∀ j, B.getD j 0 < 128) : bytesOf (strOfNums (castL B)) = castL B := by
  refine bytesOf_strOfNums _ fun x hx => ?_
  unfold castL at hx
  obtain ⟨y, hy, rfl⟩ := List.mem_map.1 hx
  obtain ⟨j, hj, rfl⟩ := List.getElem_of_mem hy
  have := h j
  rw [List.getD_eq_getElem?_getD, List.getElem?_eq_getElem hj] at this
  have this : B[j] < 128 := this
  omega
theorem ribEqs_ev (seed : Int) (n : Nat) : ∀ (us : List ByteArray) (es : List (Nat × Nat × Nat)), es.length = us.length → (∀ (j : Nat) (hj : j < es.length) (hj2 : j < us.length), Ev (fun k => impl_equationOf.f k us[j] seed (n : Int)) (((es[j]).1 : Int), ((es[j]).2.1 : Int), ((es[j]).2.2 : Int)) ∧ okE n es[j]) → Ev (fun k => ribEqs k seed (n : Int) us) es
  | [], es, hl, _ => by
    obtain rfl := List.eq_nil_of_length_eq_zero hl
    exact Ev.now _
  | u :: us, [], hl, _ => by cases hl
  | u :: us, e :: es, hl, h => by
    obtain ⟨h0, c3, c4, c5, c6⟩ := h 0 (Nat.succ_pos _) (Nat.succ_pos _)
    have ih := ribEqs_ev seed n us es (Nat.succ.inj hl) (fun j hj hj2 => h (j + 1) (Nat.succ_lt_succ hj) (Nat.succ_lt_succ hj2))
    obtain ⟨p, r, s⟩ := e
    have h0 : Ev (fun k => impl_equationOf.f k u seed (n : Int)) ((p : Int), (r : Int), (s : Int)) := h0
    refine Ev.bind h0 (Ev.pos ⟨⟨Int.natCast_nonneg _, Int.natCast_nonneg _, Int.natCast_nonneg _⟩, c3, c4, c5, c6⟩ (Ev.bind ih ?_))
    exact Ev.now _
theorem rib2_ev (us : List ByteArray) (h15 : us.length ≤ 15) (hu : usOk us) (seed : Int) (hs : 0 ≤ seed ∧ seed ≤ 3) : ∃ r : Int × Int × Int × ByteArray × Bool, Ev (fun k => spec_RibbonOf.f k us seed) r ∧ Ev (fun k => impl_RibbonOf.f k us seed) r ∧
    (r.2.2.2.2 = true → r.1 = 2 ∧ fOk r.1 r.2.1 r.2.2.1 r.2.2.2.1 ∧ r.2.2.2.1.size ≤ 1000 ∧ ∀ (j : Nat) (hj : j < us.length), Ev (fun k => impl_RibbonMay.f k r.1 r.2.1 r.2.2.1 r.2.2.2.1 us[j]) true) := by
  obtain ⟨es, t, hl, he, ht, htl, hk, h7, hspec⟩ := specRib_ev us h15 hu seed hs
  have hE : ∀ e ∈ es, okE (ribN us) e := by
    intro e hx
    obtain ⟨j, hj, rfl⟩ := List.getElem_of_mem hx
    exact (he j hj (by omega)).2
  have n0 : 20 ≤ ribN us := by unfold ribN; omega
  have n1 : ribN us ≤ 100 := by unfold ribN; omega
  refine ⟨_, hspec, ?_, ?_⟩
  · have hus := (users2_ev us (by omega)).2
    rw [decide_eq_true hu] at hus
    have hin := within_ev seed 0 3
    rw [decide_eq_true hs] at hin
    unfold impl_RibbonOf.f
    refine Ev.bind hus (Ev.pos rfl (Ev.bindS hin (Ev.pos rfl (Ev.pos (by omega) (Ev.bind (ribEqs_ev seed (ribN us) us es hl he) (Ev.bindS ht (Ev.now _)))))))
  · intro hb
    have hb1 : t.1 = true := by
      unfold ribE at hb
      by_cases c : t.1 = true
      · exact c
      · rw [if_neg c] at hb
        cases hb
    have hsol := rib_solved hE ht hb1
    have hz7 : ∀ j, (zerosN (ribN us)).getD j 0 < 128 := fun j => by rw [zerosN_get]; decide
    have hB7 := back_lt h7 (rows := t.2.1) (ribN us) (zerosN (ribN us)) hz7
    have hBl : (back t.2.1 t.2.2 (ribN us) (zerosN (ribN us))).length = ribN us := by rw [back_len]; unfold zerosN; simp
    unfold ribE
    rw [if_pos hb1]
    generalize back t.2.1 t.2.2 (ribN us) (zerosN (ribN us)) = B at hsol hB7 hBl
    have hbo := castL_bytes B hB7
    have hsz : (strOfNums (castL B)).size = ribN us := by rw [← bytesOf_length, hbo, castL_len, hBl]
    have hok : fOk 2 seed 0 (strOfNums (castL B)) := .inr (.inr ⟨rfl, rfl, hs, by omega, fun i _ => by
      rw [← rd_bytesOf, hbo, castL_rd]
      have := hB7 i
      omega⟩)
    refine ⟨rfl, hok, by show (strOfNums (castL B)).size ≤ 1000; omega, fun j hj => ?_⟩
    have hf := filterOk_ev 2 seed 0 (strOfNums (castL B)) (by omega)
    rw [decide_eq_true hok] at hf
    have hj2 : j < es.length := by omega
    obtain ⟨h1, hEj⟩ := he j hj2 hj
    have hs1 := hsol es[j] (List.getElem_mem hj2)
    generalize es[j] = e at h1 hEj hs1
    obtain ⟨p, r, s⟩ := e
    obtain ⟨e1, e2, e3, e4⟩ := hEj
    have e1 : p ≤ ribN us - 16 := e1
    have e2 : r < 2 ^ 16 := e2
    have hs1 : sol (fun i => B.getD i 0) 16 p r = s := hs1
    have h1 : Ev (fun k => impl_equationOf.f k us[j] seed (ribN us : Int)) ((p : Int), (r : Int), (s : Int)) := h1
    have hpw : r < 2 ^ (ribN us - p) := Nat.lt_of_lt_of_le e2 (Nat.pow_le_pow_right (by decide) (by omega))
    have hs2 := solve_ev B hB7 16 p r 0 (by decide) (by omega) e2 e2 (by decide) (fun i cb => by rw [hBl]; exact bit_in hpw cb)
    rw [Nat.zero_xor, hs1] at hs2
    show Ev (fun k => impl_RibbonMay.f k 2 seed 0 (strOfNums (castL B)) us[j]) true
    unfold impl_RibbonMay.f
    rw [hsz, hbo]
    refine Ev.pos rfl (Ev.bind hf (Ev.pos rfl (Ev.bind h1 (Ev.bind (g := fun k => impl_solve.f k (castL B) (p : Int) (r : Int)) hs2 (Ev.pos (by omega) ((Ev.now _).eqr ?_))))))
    simp
end Go.Proofs.Ytedgdnkbojjbmaa.Pure
end

section
namespace Go.Proofs.Ytedgdnkbojjbmaa.Pure
open Go.RowKit Go.Proofs.YtedgdnkbojjbmaaW.PrintWords Go.Proofs.YtedgdnkbojjbmaaW.PrintLast Go.Proofs.YtedgdnkbojjbmaaW.PrintMore
open Go.Proofs.Ytedgdnkbojjbmaa.P
set_option linter.unusedVariables false
set_option linter.unusedSimpArgs false
structure Good (us : List ByteArray) (kind : Int) (r : Int × Int × Int × ByteArray × Bool) : Prop where
  ok : fOk r.1 r.2.1 r.2.2.1 r.2.2.2.1
  sz : r.2.2.2.1.size ≤ 1000
  kd : r.1 = kind ∨ (kind = 2 ∧ r.1 = 1)
  may : ∀ (j : Nat) (hj : j < us.length), Ev (fun k => impl_FilterMay.f k r.1 r.2.1 r.2.2.1 r.2.2.2.1 us[j]) true
theorem may_ev {a b c : Int} {t u : ByteArray} (h1 : Ev (fun k => impl_BloomMay.f k a b c t u) true) (h2 : Ev (fun k => impl_RibbonMay.f k a b c t u) true) : Ev (fun k => impl_FilterMay.f k a b c t u) true := by
  unfold impl_FilterMay.f
  exact Ev.bind h1 (Ev.pos rfl (Ev.bind h2 (Ev.now _)))
theorem bmay_not {a b c : Int} {t u : ByteArray} (h : ¬ a = 1) : Ev (fun k => impl_BloomMay.f k a b c t u) true := by
  unfold impl_BloomMay.f
  exact Ev.neg h (Ev.now _)
theorem rmay_not {a b c : Int} {t u : ByteArray} (h : ¬ a = 2) : Ev (fun k => impl_RibbonMay.f k a b c t u) true := by
  unfold impl_RibbonMay.f
  exact Ev.neg h (Ev.now _)
theorem filter2_ev (us : List ByteArray) (h15 : us.length ≤ 15) (kind : Int) : ∃ r : Int × Int × Int × ByteArray × Bool, Ev (fun k => impl_FilterOf.f k us kind) r ∧ Ev (fun k => spec_FilterOf.f k us kind) r ∧ (r.2.2.2.2 = true → Good us kind r) := by
  obtain ⟨u1, u2⟩ := users2_ev us (by omega)
  have bad : ∀ b : Bool, b = true → Ev (fun k => impl_FilterOf.j0 k us kind b) (0, 0, 0, ⟨#[]⟩, false) ∧ Ev (fun k => spec_FilterOf.j0 k us kind b) (0, 0, 0, ⟨#[]⟩, false) := by
    intro b hb
    subst hb
    constructor
    · refine Ev.step (fun k => impl_FilterOf.j0.eq_2 ..) ?_
      exact Ev.pos rfl (Ev.now _)
    · refine Ev.step (fun k => spec_FilterOf.j0.eq_2 ..) ?_
      exact Ev.pos rfl (Ev.now _)
  unfold impl_FilterOf.f spec_FilterOf.f
  by_cases hu : usOk us
  case neg =>
    rw [decide_eq_false hu] at u1 u2
    exact ⟨_, Ev.bind u2 (Ev.neg (by decide) (bad true rfl).1), Ev.bind u1 (Ev.neg (by decide) (bad true rfl).2), fun h => by cases h⟩
  rw [decide_eq_true hu] at u1 u2
  have hin := in_ev kind 0 2
  have hin2 := within_ev kind 0 2
  by_cases c : 0 ≤ kind ∧ kind ≤ 2
  case neg =>
    rw [decide_eq_false c] at hin hin2
    exact ⟨_, Ev.bind u2 (Ev.pos rfl (Ev.bindS hin2 (bad _ rfl).1)), Ev.bind u1 (Ev.pos rfl (Ev.bindS hin (bad _ rfl).2)), fun h => by cases h⟩
  rw [decide_eq_true c] at hin hin2
  by_cases cz : kind = 0
  · refine ⟨(0, 0, 0, ⟨#[]⟩, true), Ev.bind u2 (Ev.pos rfl (Ev.bindS hin2 ?_)), Ev.bind u1 (Ev.pos rfl (Ev.bindS hin ?_)), fun _ => ⟨.inl ⟨rfl, rfl, rfl, by show (⟨#[]⟩ : ByteArray).toList = []; rw [ByteArray.toList_eq]⟩, Nat.zero_le _, .inl cz.symm, fun j hj => may_ev (bmay_not (by decide)) (rmay_not (by decide))⟩⟩
    · refine Ev.step (fun k => impl_FilterOf.j0.eq_2 ..) ?_
      exact Ev.neg (by decide) (Ev.pos cz (Ev.now _))
    · refine Ev.step (fun k => spec_FilterOf.j0.eq_2 ..) ?_
      exact Ev.neg (by decide) (Ev.pos cz (Ev.now _))
  obtain ⟨q, q1, q2, qb, qk, qo, qs, qm⟩ := bloom2_ev us h15 hu
  have qk2 : ¬ q.1 = 2 := by omega
  have gq : Good us kind q := ⟨qo, qs, by omega, fun j hj => may_ev (qm j hj) (rmay_not qk2)⟩
  have last : ∀ i : Int, Ev (fun k => impl_FilterOf.j2 k us kind i false) q ∧ Ev (fun k => spec_FilterOf.j2 k us kind i false) q := by
    intro i
    constructor
    · refine Ev.step (fun k => impl_FilterOf.j2.eq_2 ..) ?_
      exact Ev.neg (by decide) (Ev.bind q2 (Ev.now _))
    · refine Ev.step (fun k => spec_FilterOf.j2.eq_2 ..) ?_
      exact Ev.neg (by decide) (Ev.bind q1 (Ev.now _))
  have key : ∀ i : Nat, i ≤ 4 → ∃ r : Int × Int × Int × ByteArray × Bool, Ev (fun k => impl_FilterOf.l0 k us kind (i : Int)) r ∧ Ev (fun k => spec_FilterOf.l0 k us kind (i : Int)) r ∧ Good us kind r := by
    refine downTo 4 ?_ ?_
    · obtain ⟨l1, l2⟩ := last ((4 : Nat) : Int)
      refine ⟨q, ?_, ?_, gq⟩
      · refine Ev.step (fun k => impl_FilterOf.l0.eq_2 ..) ?_
        by_cases c2 : kind = 2
        · exact Ev.pos c2 l1
        · exact Ev.neg c2 l1
      · refine Ev.step (fun k => spec_FilterOf.l0.eq_2 ..) ?_
        by_cases c2 : kind = 2
        · exact Ev.pos c2 l2
        · exact Ev.neg c2 l2
    · intro i hi ih
      by_cases c2 : kind = 2
      case neg =>
        obtain ⟨l1, l2⟩ := last (i : Int)
        refine ⟨q, ?_, ?_, gq⟩
        · refine Ev.step (fun k => impl_FilterOf.l0.eq_2 ..) ?_
          exact Ev.neg c2 l1
        · refine Ev.step (fun k => spec_FilterOf.l0.eq_2 ..) ?_
          exact Ev.neg c2 l2
      have hi4 : decide ((i : Int) < 4) = true := decide_eq_true (by omega)
      have hw : wrap64 ((i : Int) + 1) = ((i + 1 : Nat) : Int) := wsucc (by omega)
      obtain ⟨r, r1, r2, rg⟩ := rib2_ev us h15 hu (i : Int) (by omega)
      by_cases cr : r.2.2.2.2 = true
      · obtain ⟨g1, g2, g3, g4⟩ := rg cr
        have gn : ¬ r.1 = 1 := by omega
        refine ⟨(r.1, r.2.1, r.2.2.1, r.2.2.2.1, true), ?_, ?_, ⟨g2, g3, .inl (g1.trans c2.symm), fun j hj => may_ev (bmay_not gn) (g4 j hj)⟩⟩
        · refine Ev.step (fun k => impl_FilterOf.l0.eq_2 ..) ?_
          refine Ev.pos c2 ?_
          rw [hi4]
          refine Ev.step (fun k => impl_FilterOf.j2.eq_2 ..) ?_
          exact Ev.pos rfl (Ev.bind r2 (Ev.pos cr (Ev.now _)))
        · refine Ev.step (fun k => spec_FilterOf.l0.eq_2 ..) ?_
          refine Ev.pos c2 ?_
          rw [hi4]
          refine Ev.step (fun k => spec_FilterOf.j2.eq_2 ..) ?_
          exact Ev.pos rfl (Ev.bind r1 (Ev.pos cr (Ev.now _)))
      · obtain ⟨x, x1, x2, xg⟩ := ih
        refine ⟨x, ?_, ?_, xg⟩
        · refine Ev.step (fun k => impl_FilterOf.l0.eq_2 ..) ?_
          refine Ev.pos c2 ?_
          rw [hi4]
          refine Ev.step (fun k => impl_FilterOf.j2.eq_2 ..) ?_
          rw [hw]
          exact Ev.pos rfl (Ev.bind r2 (Ev.neg cr x1))
        · refine Ev.step (fun k => spec_FilterOf.l0.eq_2 ..) ?_
          refine Ev.pos c2 ?_
          rw [hi4]
          refine Ev.step (fun k => spec_FilterOf.j2.eq_2 ..) ?_
          rw [hw]
          exact Ev.pos rfl (Ev.bind r1 (Ev.neg cr x2))
  obtain ⟨r, k1, k2, kg⟩ := key 0 (by decide)
  refine ⟨r, Ev.bind u2 (Ev.pos rfl (Ev.bindS hin2 ?_)), Ev.bind u1 (Ev.pos rfl (Ev.bindS hin ?_)), fun _ => kg⟩
  · refine Ev.step (fun k => impl_FilterOf.j0.eq_2 ..) ?_
    exact Ev.neg (by decide) (Ev.neg cz k1)
  · refine Ev.step (fun k => spec_FilterOf.j0.eq_2 ..) ?_
    exact Ev.neg (by decide) (Ev.neg cz k2)
theorem byteOkF {l : List Int} (h1 : l.length ≤ 1048576) (h2 : ∀ x ∈ l, (Lit.int .u8 x).wf = true) : okc l := by
  refine ⟨h1, fun x hx => ?_⟩
  have := h2 x hx
  simpa [Lit.wf, IntKind.min, IntKind.max, IntKind.signed, IntKind.bits] using this
theorem drawFilterOf_ev {l : List Int} (h : okc l) : ∃ r : List ByteArray × Int, Ev (fun k => spec_DrawFilterOf.f k l) r ∧ r.1.length ≤ 15 := by
  obtain ⟨u, hu, hu1, hu2⟩ := dusers_ev h (show okp l 0 from ⟨by omega, by omega⟩)
  obtain ⟨x, hx, hx1, hx2⟩ := off_ev h hu2 0 2 (by omega) (by omega) (by omega)
  unfold spec_DrawFilterOf.f
  exact ⟨(u.1, x.1), Ev.bindS rfl (Ev.bind hu (Ev.bind hx (Ev.now _))), hu1.1⟩
theorem FnFilters : laws_FnFilters.Pure := by
  intro l _ _ hb
  refine Ev.rounds (g := fun k => laws_FnFilters.f k l) ?_
  unfold laws_FnFilters.f
  refine Ev.bindS (a := decide ((l.length : Int) > 1048576)) rfl ?_
  by_cases big : (l.length : Int) > 1048576
  · exact Ev.pos (decide_eq_true big) (Ev.now _)
  have hc := byteOkF (l := l) (by omega) hb
  refine Ev.neg (by simpa using big) ?_
  obtain ⟨d, hd, hd1⟩ := drawFilterOf_ev hc
  obtain ⟨us, kind⟩ := d
  have hd1 : us.length ≤ 15 := hd1
  obtain ⟨r, r1, r2, rg⟩ := filter2_ev us hd1 kind
  refine Ev.bind hd (Ev.bind (g := fun k => impl_FilterOf.f k us kind) r1 (Ev.bind (g := fun k => spec_FilterOf.f k us kind) r2 (Ev.neg (by simp) (Ev.neg (by simp) ?_))))
  by_cases cr : r.2.2.2.2 = true
  case neg =>
    have cr2 : r.2.2.2.2 = false := by simpa using cr
    refine Ev.step (fun k => laws_FnFilters.j0.eq_2 ..) ?_
    exact Ev.pos (by rw [cr2]; rfl) (Ev.pos (by simp) ((Ev.now _).eqr (by simp)))
  have g := rg cr
  refine Ev.step (fun k => laws_FnFilters.j0.eq_2 ..) ?_
  refine Ev.neg (by rw [cr]; decide) ?_
  have key : ∀ i : Nat, i ≤ us.length → Ev (fun k => laws_FnFilters.l0 k us kind (i : Int) r.1 r.2.1 r.2.2.1 r.2.2.2.1) true := by
    refine downTo us.length ?_ ?_
    · have hf := filterOk_ev r.1 r.2.1 r.2.2.1 r.2.2.2.1 (by have := g.sz; omega)
      rw [decide_eq_true g.ok] at hf
      have tail : Ev (fun _ => if r.1 = kind then (some true) else (if kind = 2 then (some (r.1 == 1)) else (none))) true := by
        rcases g.kd with h | ⟨h1, h2⟩
        · exact Ev.pos h (Ev.now _)
        · exact Ev.neg (by omega) (Ev.pos h1 ((Ev.now _).eqr (by rw [h2]; rfl)))
      refine Ev.step (fun k => laws_FnFilters.l0.eq_2 ..) ?_
      refine Ev.neg (by omega) (Ev.bind hf (Ev.pos rfl ?_))
      by_cases ck : kind = 0
      · have hk : r.1 = 0 := by have := g.kd; omega
        exact Ev.pos ck (Ev.bind (may_ev (bmay_not (by omega)) (rmay_not (by omega))) (Ev.pos rfl tail))
      · exact Ev.neg ck tail
    · intro i hi ih
      have i1 : (i : Int) < (us.length : Int) := by omega
      have i2 : (0 : Int) ≤ (i : Int) := by omega
      refine Ev.step (fun k => laws_FnFilters.l0.eq_2 ..) ?_
      rw [rdOf_get hi, wsucc (by omega)]
      exact Ev.pos i1 (Ev.pos i2 (Ev.bind (g.may i hi) (Ev.pos rfl ih)))
  exact key 0 (Nat.zero_le _)
end Go.Proofs.Ytedgdnkbojjbmaa.Pure
end
