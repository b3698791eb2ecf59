/- Proved: the law FnReplayed of the given program returns true for every input of its Go types and leaves each argument as it was; no condition. (Part 9 of 17.) -/
import Derived.Test.YtcgejabkjljeeaaCFnReplayed4
import Derived.Test.YtcgejabkjljeeaaCFnReplayed5
import Derived.Test.YtcgejabkjljeeaaCFnReplayed7
import Derived.Test.YtcgejabkjljeeaaCFnReplayed0
section
namespace Go.Proofs.Ytcgejabkjljeeaa.P
open Go.RowKit Go.Proofs.YtcgejabkjljeeaaW.PrintWords Go.Proofs.YtcgejabkjljeeaaW.PrintLast Go.Proofs.YtcgejabkjljeeaaW.PrintMore
attribute [local go_sem] str_gtr str_leq str_geq max2_int min2_int max_two min_two qe1 qd1 max_four min_four
set_option linter.unusedVariables false
set_option linter.unusedSimpArgs false
theorem yq90 {P : Prop} (h : P := by (with_reducible repeat (first | refine qb ?_ _ | refine qc ?_ | refine qa ?_ _)); exact BK101.out) : P := h
theorem yq91 {P : Prop} (h : P := by (with_reducible repeat (first | refine qb ?_ _ | refine qc ?_ | refine qa ?_ _)); exact BK102.out) : P := h
theorem yq92 {P : Prop} (h : P := by repeat (first | (with_reducible first | exact HB.out | apply qh | apply qg | apply qi | refine qe ?_ GE101.out | refine qe ?_ GE102.out | refine qe ?_ GE110.out) | exact HB.out)) : P := h
theorem yq93 {P : Prop} (h : P := by (with_reducible repeat (first | refine qb ?_ _ | refine qc ?_ | refine qa ?_ _)); exact BK110.out) : P := h
theorem yq94 {P : Prop} (h : P := by repeat (first | (with_reducible first | exact HB.out | apply qh | apply qg | apply qi | refine qe ?_ GE101.out | refine qe ?_ GE102.out | refine qe ?_ GE110.out | refine qe ?_ GE119.out) | exact HB.out)) : P := h
theorem yq95 {P : Prop} (h : P := by (with_reducible repeat (first | apply Kd.R_alloc | apply Kd.R_drewN | apply Kd.R_drew)); exact HO_111000.out) : P := h
theorem yq96 {P : Prop} (h : P := by (try simp only [List.map_toArray, List.map_cons, List.map_nil]); first | done | rfl | (simp only [List.length_drop, List.length_take]; rfl) | (rw [IntWalk.u64_in _ (by omega)] <;> rfl)) : P := h
theorem yq97 {P : Prop} (h : P := by rw [hg]; exact Nat.ne_of_lt (qv (g := gb101) (o := .cells #[.slice A0_0 l0_0.length c0_0, .int .i64 a0_1, .int .i64 a0_2, .int .i64 a0_3] 32 (0, 0)) yq90)) : P := h
theorem yq98 {P : Prop} (h : P := by rw [hg]; exact Nat.ne_of_gt (qv (g := gb101) (o := .cells #[.slice A0_0 l0_0.length c0_0, .int .i64 a0_1, .int .i64 a0_2, .int .i64 a0_3] 32 (0, 0)) yq90)) : P := h
theorem yq99 {P : Prop} (h : P := by repeat (first | (with_reducible first | exact HB.out | apply qh | apply qg | apply qi | refine qe ?_ GE101.out | refine qe ?_ GE102.out) | exact HB.out)) : P := h
theorem yq100 {P : Prop} (h : P := by repeat (first | exact (Kd.R_reads' HO_111000.out).2.2 | (with_reducible refine Kd.C_alloc ?_ _) | (with_reducible refine Kd.C_drewN ?_ _) | (with_reducible refine Kd.C_drew ?_))) : P := h
theorem yq101 {P : Prop} (h : P := by repeat (first | exact (Kd.C_below HR111_1.out HB.out) | (with_reducible refine Kd.C_alloc ?_ _) | (with_reducible refine Kd.C_drewN ?_ _) | (with_reducible refine Kd.C_drew ?_))) : P := h
theorem yq102 {P : Prop} (h : P := by repeat (first | exact (Kd.C_below HR111_0.out HB.out) | (with_reducible refine Kd.C_alloc ?_ _) | (with_reducible refine Kd.C_drewN ?_ _) | (with_reducible refine Kd.C_drew ?_))) : P := h
theorem yq103 {P : Prop} (h : P := by (with_reducible repeat (first | refine qb ?_ _ | refine qc ?_ | refine qa ?_ _)); exact BK119.out) : P := h
theorem yq104 {P : Prop} (h : P := by rw [hg]; exact Nat.ne_of_lt (qv (g := gb102) (o := .cells #[.slice none 0 0, .int .i64 x103001_1, .int .i64 x103002_1, .int .i64 x103003_1] 32 (0, 0)) yq91)) : P := h
theorem yq105 {P : Prop} (h : P := by rw [hg]; exact Nat.ne_of_gt (qv (g := gb102) (o := .cells #[.slice none 0 0, .int .i64 x103001_1, .int .i64 x103002_1, .int .i64 x103003_1] 32 (0, 0)) yq91)) : P := h
theorem yq106 {P : Prop} (h : P := by (with_reducible repeat (first | apply Kd.R_alloc | apply Kd.R_drewN | apply Kd.R_drew)); exact Kd.R_mono HO_111000.out (fun _ hk => hk.2)) : P := h
theorem yq107 {P : Prop} (h : P := by (with_reducible repeat (first | apply Kd.R_alloc | apply Kd.R_drewN | apply Kd.R_drew)); exact Kd.R_mono HO114.out (fun _ hk => hk.2)) : P := h
theorem yq108 {P : Prop} (h : P := by repeat (first | (with_reducible first | exact HB.out | apply qh | apply qg | apply qi | refine qe ?_ GE101.out) | exact HB.out)) : P := h
theorem yq109 {P : Prop} (h : P := by repeat (first | exact (Kd.C_below HR0_0.out HB.out) | (with_reducible refine Kd.C_alloc ?_ _) | (with_reducible refine Kd.C_drewN ?_ _) | (with_reducible refine Kd.C_drew ?_))) : P := h
theorem yq110 {P : Prop} (h : P := by repeat (first | (with_reducible first | exact HB.out | apply qh | apply qg | apply qi) | exact HB.out)) : P := h
theorem yq111 {P : Prop} (h : P := by first | (go_simp; done) | (go_simp; rfl)) : P := h
theorem bkbf29 {w0 W W2 : World} {g : Nat} {o : Obj} (_ : Qz (w0.heap[g]? = some o)) (h : W.heap[g]? = some o) (hb : Below W.heap.size W W2) : Qz (W2.heap[g]? = some o) := Qz.mk (qb1 h hb)
def spec_Replay.l0 : Nat → List (S37) → Int → List (S66) → Int → Int → Int → Option ((List (S66)) × Int × Int × Int × Int)
 | 0, _, _, _, _, _, _ => none
 | k + 1, x1, x7, x111000, x111001, x111002, x111003 => if x7 < (x1.length : Int) then (if 0 ≤ x7 then ((spec_Apply.f k x111000 x111001 x111002 x111003 ((qw x1 x7).f0) ((qw x1 x7).f1) ((qw x1 x7).f2) ((qw x1 x7).f3) ((qw x1 x7).f4)).bind fun bt112 => (if bt112.2.2.2.2 = true then (spec_Replay.l0 k x1 (wrap64 (x7 + 1)) bt112.1 bt112.2.1 bt112.2.2.1 bt112.2.2.2.1) else (some (x111000, x111001, x111002, x111003, x7)))) else (none)) else (some (x111000, x111001, x111002, x111003, (x1.length : Int)))
def spec_Replay.f (k : Nat) (l0_0 : List (S66)) (a0_1 : Int) (a0_2 : Int) (a0_3 : Int) (l1 : List (S37)) : Option ((List (S66)) × Int × Int × Int × Int) := (spec_VersionOk.f k l0_0 a0_1 a0_2 a0_3).bind fun t103 => (if t103 = true then ((spec_l12Copy.f l0_0 a0_1 a0_2 a0_3).bind fun bt104 => (spec_Replay.l0 k l1 0 bt104.1 bt104.2.1 bt104.2.2.1 bt104.2.2.2)) else (some (([] : List (S66)), 0, 0, 0, (-1))))
def spec_Replay.T7 : Bool × List (List Nat × List Nat) := (true, [([], []), ([], []), ([], []), ([1, 2], [1, 2]), ([3], [3]), ([0, 4], [0, 4]), ([5], [5]), ([6], [6]), ([6], [6]), ([], []), ([9, 7, 5, 0, 1, 2, 3, 4, 5, 6, 7, 9], [7, 9]), ([8, 10, 0, 1, 2, 3, 4, 5, 6, 7, 8, 9, 10], [8])])
def spec_Replay.B7 : List Nat := [0, 0, 0, 6, 14, 31, 63, 127, 127, 0, 767, 2047]
theorem spec_Replay.tab7 : rtab .any (opsOf Try.f29 7) = spec_Replay.T7 := by kernel_rfl
theorem spec_Replay.bits7 : waitsOk spec_Replay.T7.2 spec_Replay.B7 = true := by kernel_rfl
set_option maxHeartbeats 8000000 in
set_option maxRecDepth 100000 in
theorem spec_Replay.calls (k : Nat) (A0_0 : Option Addr) (c0_0 : Nat) (l0_0 : List (S66)) (a0_1 : Int) (a0_2 : Int) (a0_3 : Int) (A1 : Option Addr) (c1 : Nat) (l1 : List (S37)) (r1 : List (S66)) (r2 : Int) (r3 : Int) (r4 : Int) (r5 : Int) (w : World) (hr0_0 : Kd.C k66 w A0_0 l0_0.length l0_0) (hc0_0 : l0_0.length ≤ c0_0) (hr1 : Kd.C k37 w A1 l1.length l1) (hc1 : l1.length ≤ c1) (h : spec_Replay.f k l0_0 a0_1 a0_2 a0_3 l1 = some (r1, r2, r3, r4, r5)) :
  Calls Try.prog 29 #[.agg #[.slice A0_0 l0_0.length c0_0, .int .i64 a0_1, .int .i64 a0_2, .int .i64 a0_3], .slice A1 l1.length c1] w fun e w' => ∃ v0_ : Value, e = .returned (.tuple #[.agg #[v0_, .int .i64 r2, .int .i64 r3, .int .i64 r4], .int .i64 r5]) ∧ Kd.R k66 66 w' w.heap.size (fun _ => True) v0_ r1 ∧ Below w.heap.size w w' := by
 have hu32 := Try.underlying32
 have hu37 := Try.underlying37
 have HR0_0 := Qz.mk hr0_0
 have HC0_0 := Qz.mk hc0_0
 clear hr0_0 hc0_0
 have HR1 := Qz.mk hr1
 have HC1 := Qz.mk hc1
 clear hr1 hc1
 have HB := Qz.mk (Below.refl w.heap.size w)
 have H : ((spec_VersionOk.f k l0_0 a0_1 a0_2 a0_3).bind fun t103 => (if t103 = true then ((spec_l12Copy.f l0_0 a0_1 a0_2 a0_3).bind fun bt104 => (spec_Replay.l0 k l1 0 bt104.1 bt104.2.1 bt104.2.2.1 bt104.2.2.2)) else (some (([] : List (S66)), 0, 0, 0, (-1))))) = some (r1, r2, r3, r4, r5) := h
 clear h
 replace H := Option.bind_eq_some_iff.mp H
 obtain ⟨t103, A30, H⟩ := H
 replace H : (if t103 = true then ((spec_l12Copy.f l0_0 a0_1 a0_2 a0_3).bind fun bt104 => (spec_Replay.l0 k l1 0 bt104.1 bt104.2.1 bt104.2.2.1 bt104.2.2.2)) else (some (([] : List (S66)), 0, 0, 0, (-1)))) = some (r1, r2, r3, r4, r5) := H
 have A3 := Qz.mk A30
 clear A30
 by_cases c4 : t103 = true
 ·subst c4
  have H1 : ((spec_l12Copy.f l0_0 a0_1 a0_2 a0_3).bind fun bt104 => (spec_Replay.l0 k l1 0 bt104.1 bt104.2.1 bt104.2.2.1 bt104.2.2.2)) = some (r1, r2, r3, r4, r5) := by rw [if_pos rfl] at H; exact H
  clear H
  have H := H1
  clear H1
  replace H := Option.bind_eq_some_iff.mp H
  obtain ⟨⟨t104, t107, t108, t109⟩, A50, H⟩ := H
  replace H : (spec_Replay.l0 k l1 0 t104 t107 t108 t109) = some (r1, r2, r3, r4, r5) := H
  have A5 := Qz.mk A50
  clear A50
  have H' := Qz.mk H
  clear H
  go_enter Try.func29, Try.ntmps29
  go_wp2_with (first | ((with_reducible refine gate_dst (N := 2) rfl ?_); refine box_event ?hg (N := 2) ?hd (cs := #[.slice A0_0 l0_0.length c0_0, .int .i64 a0_1, .int .i64 a0_2, .int .i64 a0_3]) (t := 32) ?hr ?_; (case hd => rfl); (case hg => rfl); (case hr => exact yq111); intro gb101 hg w6 hbox hb; have BK101 := Qz.mk (hbox); have GW101 := Qz.mk ((by rw [hg]; exact (qz yq110) : w.heap.size ≤ gb101)); have GE101 := GW101; replace HB := Qz.mk (qq yq110 hb); clear hb hbox hg) | ((with_reducible refine gate_dst (N := 4) rfl ?_); refine box_event ?hg (N := 4) ?hd (cs := #[.slice none 0 0, .int .i64 0, .int .i64 0, .int .i64 0]) (t := 32) ?hr ?_; (case hd => rfl); (case hg => rfl); (case hr => exact yq111); intro gb102 hg w7 hbox hb; have BK102 := Qz.mk (hbox); have GW102 := Qz.mk ((by rw [hg]; exact (qz yq108) : w.heap.size ≤ gb102)); have GE102 := GW102; replace HB := Qz.mk (qq yq108 hb); have NB101_102 := Qz.mk ((yq97 : gb101 ≠ gb102)); have NB102_101 := Qz.mk ((yq98 : gb102 ≠ gb101)); replace BK101 := bkbf29 BK101 yq90 hb; clear hb hbox hg; have hnb8 := NB101_102.out; have hnc8 := NB102_101.out; have hcz9_0 := (qd BK101.out 0).trans rfl; have hcz9_1 := (qd BK101.out 1).trans rfl; have hcz9_2 := (qd BK101.out 2).trans rfl; have hcz9_3 := (qd BK101.out 3).trans rfl; have hfz9_0 := qf BK101.out 0; have hfz9_1 := qf BK101.out 1; have hfz9_2 := qf BK101.out 2; have hfz9_3 := qf BK101.out 3) | ((with_reducible refine qu (f := 26) rfl ?_); refine goesL_ (some 11) rfl rfl Try.func26 (by kernel_rfl) rfl #[.agg #[.slice A0_0 l0_0.length c0_0, .int .i64 a0_1, .int .i64 a0_2, .int .i64 a0_3]] rfl yq96 ?_; (with_reducible refine (spec_VersionOk.calls k _ _ l0_0 a0_1 a0_2 a0_3 true _ ?side1 ?side2 A3.out).mono ?_); (case side1 => exact yq109); (case side2 => exact HC0_0.out); rintro e w10 ⟨rfl, hb⟩; refine ⟨_, rfl, ?_⟩; replace BK101 := bkbf29 BK101 yq90 hb; replace BK102 := bkbf29 BK102 yq91 hb; replace HB := Qz.mk (qq yq99 hb); (try clear hb); (try clear hk); have hcz11_0 := (qd BK101.out 0).trans rfl; have hcz11_1 := (qd BK101.out 1).trans rfl; have hcz11_2 := (qd BK101.out 2).trans rfl; have hcz11_3 := (qd BK101.out 3).trans rfl; have hfz11_0 := qf BK101.out 0; have hfz11_1 := qf BK101.out 1; have hfz11_2 := qf BK101.out 2; have hfz11_3 := qf BK101.out 3) | ((with_reducible refine qu (f := 68) rfl ?_); refine goesL_ (some 15) rfl rfl Try.func68 (by kernel_rfl) rfl #[.agg #[.slice A0_0 l0_0.length c0_0, .int .i64 a0_1, .int .i64 a0_2, .int .i64 a0_3]] rfl yq96 ?_; (with_reducible refine (spec_l12Copy.calls _ _ l0_0 a0_1 a0_2 a0_3 t104 t107 t108 t109 _ ?side1 ?side2 A5.out).mono ?_); (case side1 => exact yq109); (case side2 => exact HC0_0.out); rintro e w12 ⟨v105, rfl, ho0, hb⟩; refine ⟨_, rfl, ?_⟩; have HO106 := Qz.mk (Kd.R_lower ho0 (qz yq99)); replace BK101 := bkbf29 BK101 yq90 hb; replace BK102 := bkbf29 BK102 yq91 hb; replace HB := Qz.mk (qq yq99 hb); (try clear hb); (try clear hk); (try clear ho0)) | ((with_reducible refine gate_dst (N := 6) rfl ?_); refine box_event ?hg (N := 6) ?hd (cs := #[.slice none 0 0, .int .i64 0, .int .i64 0, .int .i64 0]) (t := 32) ?hr ?_; (case hd => rfl); (case hg => rfl); (case hr => exact yq111); intro gb110 hg w13 hbox hb; replace HO106 := Qz.mk (Kd.R_below (by (with_reducible repeat (first | apply Kd.R_alloc | apply Kd.R_drewN | apply Kd.R_drew)); exact HO106.out) hb); have BK110 := Qz.mk (hbox); have GW110 := Qz.mk ((by rw [hg]; exact (qz yq99) : w.heap.size ≤ gb110)); have GE110 := GW110; replace HB := Qz.mk (qq yq99 hb); have NB101_110 := Qz.mk ((yq97 : gb101 ≠ gb110)); have NB110_101 := Qz.mk ((yq98 : gb110 ≠ gb101)); replace BK101 := bkbf29 BK101 yq90 hb; have NB102_110 := Qz.mk ((by rw [hg]; exact Nat.ne_of_lt (qv (g := gb102) (o := .cells #[.slice none 0 0, .int .i64 0, .int .i64 0, .int .i64 0] 32 (0, 0)) yq91) : gb102 ≠ gb110)); have NB110_102 := Qz.mk ((by rw [hg]; exact Nat.ne_of_gt (qv (g := gb102) (o := .cells #[.slice none 0 0, .int .i64 0, .int .i64 0, .int .i64 0] 32 (0, 0)) yq91) : gb110 ≠ gb102)); replace BK102 := bkbf29 BK102 yq91 hb; clear hb hbox hg; obtain ⟨Ao14, co14, eo14⟩ := Kd.R_slice HO106.out; subst eo14; have hnb15 := NB110_101.out; have hnc15 := NB101_110.out; have hnb16 := NB110_102.out; have hnc16 := NB102_110.out; have hcz17_0 := (qd BK110.out 0).trans rfl; have hcz17_1 := (qd BK110.out 1).trans rfl; have hcz17_2 := (qd BK110.out 2).trans rfl; have hcz17_3 := (qd BK110.out 3).trans rfl; have hfz17_0 := qf BK110.out 0; have hfz17_1 := qf BK110.out 1; have hfz17_2 := qf BK110.out 2; have hfz17_3 := qf BK110.out 3))
  go_loopg [7] k (fun kq v7 w' => ∃ (x7_1 : Int) (x103001_1 : Int) (x103002_1 : Int) (x103003_1 : Int) (x111000_1 : List (S66)) (x111001_1 : Int) (x111002_1 : Int) (x111003_1 : Int) (u111000 : Value), v7 = .int .i64 x7_1 ∧ Qz (spec_Replay.l0 kq l1 x7_1 x111000_1 x111001_1 x111002_1 x111003_1 = some (r1, r2, r3, r4, r5)) ∧ Qz (kq ≤ k) ∧ Qz (Kd.R k66 66 w' w.heap.size (fun _ => True) u111000 x111000_1) ∧ Qz (w'.heap[gb101]? = some (.cells #[(.slice A0_0 l0_0.length c0_0), .int .i64 a0_1, .int .i64 a0_2, .int .i64 a0_3] 32 (0, 0))) ∧ Qz (w'.heap[gb102]? = some (.cells #[(.slice none 0 0), .int .i64 x103001_1, .int .i64 x103002_1, .int .i64 x103003_1] 32 (0, 0))) ∧ Qz (w'.heap[gb110]? = some (.cells #[u111000, .int .i64 x111001_1, .int .i64 x111002_1, .int .i64 x111003_1] 32 (0, 0))) ∧ Qz (Below w.heap.size w w'))
  case atStart => exact ⟨(0), (0), (0), (0), (t104), (t107), (t108), (t109), (.slice Ao14 t104.length co14), (by first | rfl | (simp; done) | (simp [*]; done)), H', ⟨Nat.le_refl _⟩, ⟨by (with_reducible repeat (first | apply Kd.R_alloc | apply Kd.R_drewN | apply Kd.R_drew)); exact Kd.R_mono (Kd.R_far (p := ⟨gb110, 3, none⟩) (Kd.R_far (p := ⟨gb110, 2, none⟩) (Kd.R_far (p := ⟨gb110, 1, none⟩) (Kd.R_far (p := ⟨gb110, 0, none⟩) (Kd.R_types HO106.out BK110.out (by decide)) (fun _ hk => hk.2) (.slice Ao14 t104.length co14)) (fun _ hk => hk.2) (.int .i64 t107)) (fun _ hk => hk.2) (.int .i64 t108)) (fun _ hk => hk.2) (.int .i64 t109)) (fun _ hk => trivial)⟩, ⟨by (with_reducible repeat (first | refine qb ?_ _ | refine qc ?_ | refine qa ?_ _)); refine qp ?_ NB101_110.out _; (with_reducible repeat (first | refine qb ?_ _ | refine qc ?_ | refine qa ?_ _)); refine qp ?_ NB101_110.out _; (with_reducible repeat (first | refine qb ?_ _ | refine qc ?_ | refine qa ?_ _)); refine qp ?_ NB101_110.out _; (with_reducible repeat (first | refine qb ?_ _ | refine qc ?_ | refine qa ?_ _)); refine qp ?_ NB101_110.out _; (with_reducible repeat (first | refine qb ?_ _ | refine qc ?_ | refine qa ?_ _)); exact BK101.out⟩, ⟨by (with_reducible repeat (first | refine qb ?_ _ | refine qc ?_ | refine qa ?_ _)); refine qp ?_ NB102_110.out _; (with_reducible repeat (first | refine qb ?_ _ | refine qc ?_ | refine qa ?_ _)); refine qp ?_ NB102_110.out _; (with_reducible repeat (first | refine qb ?_ _ | refine qc ?_ | refine qa ?_ _)); refine qp ?_ NB102_110.out _; (with_reducible repeat (first | refine qb ?_ _ | refine qc ?_ | refine qa ?_ _)); refine qp ?_ NB102_110.out _; (with_reducible repeat (first | refine qb ?_ _ | refine qc ?_ | refine qa ?_ _)); exact BK102.out⟩, ⟨by (with_reducible repeat (first | refine qb ?_ _ | refine qc ?_ | refine qa ?_ _)); refine qt (cs := #[.slice Ao14 t104.length co14, .int .i64 t107, .int .i64 t108, .int .i64 0]) ?_ 3 _ rfl; (with_reducible repeat (first | refine qb ?_ _ | refine qc ?_ | refine qa ?_ _)); refine qt (cs := #[.slice Ao14 t104.length co14, .int .i64 t107, .int .i64 0, .int .i64 0]) ?_ 2 _ rfl; (with_reducible repeat (first | refine qb ?_ _ | refine qc ?_ | refine qa ?_ _)); refine qt (cs := #[.slice Ao14 t104.length co14, .int .i64 0, .int .i64 0, .int .i64 0]) ?_ 1 _ rfl; (with_reducible repeat (first | refine qb ?_ _ | refine qc ?_ | refine qa ?_ _)); refine qt (cs := #[.slice none 0 0, .int .i64 0, .int .i64 0, .int .i64 0]) ?_ 0 _ rfl; (with_reducible repeat (first | refine qb ?_ _ | refine qc ?_ | refine qa ?_ _)); exact BK110.out⟩, ⟨by repeat (first | (with_reducible first | exact HB.out | apply qh | apply qg | apply qi | refine qe ?_ GE101.out | refine qe ?_ GE102.out | refine qe ?_ GE110.out) | exact HB.out)⟩⟩
  case round =>
   clear H'
   (try clear c1);(try clear c2);(try clear p2);(try clear c4);(try clear c6);(try clear c8);(try clear c15);(try clear c16);(try clear hcz11_0);(try clear hcz11_1);(try clear hcz11_2);(try clear hcz11_3);(try clear hcz17_0);(try clear hcz17_1);(try clear hcz17_2);(try clear hcz17_3);(try clear hcz9_0);(try clear hcz9_1);(try clear hcz9_2);(try clear hcz9_3);(try clear hfz11_0);(try clear hfz11_1);(try clear hfz11_2);(try clear hfz11_3);(try clear hfz17_0);(try clear hfz17_1);(try clear hfz17_2);(try clear hfz17_3);(try clear hfz9_0);(try clear hfz9_1);(try clear hfz9_2);(try clear hfz9_3)
   obtain ⟨x7_1, x103001_1, x103002_1, x103003_1, x111000_1, x111001_1, x111002_1, x111003_1, u111000, rfl, HA, HK1, HO_111000, BK101, BK102, BK110, HB⟩ := hrel
   cases gk with
   | zero => exact absurd HA.out (by simp [spec_Replay.l0])
   | succ k1 =>
    have H := HA.out
    clear HA
    simp only [spec_Replay.l0] at H
    by_cases c18 : x7_1 < (l1.length : Int)
    ·rw [if_pos c18] at H
     have c18b0 : decide (x7_1 < (l1.length : Int)) = true := decide_eq_true c18
     clear c18
     by_cases c19 : 0 ≤ x7_1
     ·rw [if_pos c19] at H
      have c19b0 : decide (0 ≤ x7_1) = true := decide_eq_true c19
      clear c19
      replace H := Option.bind_eq_some_iff.mp H
      obtain ⟨⟨t112, t115, t116, t117, t118⟩, A200, H⟩ := H
      replace H : (if t118 = true then (spec_Replay.l0 k1 l1 (wrap64 (x7_1 + 1)) t112 t115 t116 t117) else (some (x111000_1, x111001_1, x111002_1, x111003_1, x7_1))) = some (r1, r2, r3, r4, r5) := H
      have A20 := Qz.mk A200
      clear A200
      by_cases c21 : t118 = true
      ·subst c21
       have H1 : (spec_Replay.l0 k1 l1 (wrap64 (x7_1 + 1)) t112 t115 t116 t117) = some (r1, r2, r3, r4, r5) := by rw [if_pos rfl] at H; exact H
       clear H
       have H := H1
       clear H1
       have H' := Qz.mk H
       clear H
       obtain ⟨Ao22, co22, eo22⟩ := Kd.R_slice HO_111000.out
       subst eo22
       try go_wp2
       replace HO_111000 := Qz.mk (Kd.R_drew HO_111000.out)
       replace BK101 := Qz.mk (qc BK101.out)
       replace BK102 := Qz.mk (qc BK102.out)
       replace BK110 := Qz.mk (qc BK110.out)
       replace HB := Qz.mk (qi HB.out)
       have p111 : 0 ≤ (x7_1 : Int) := of_decide_eq_true (by first | (with_reducible assumption) | assumption)
       have q111 : x7_1 < (l1.length : Int) := of_decide_eq_true (by first | (with_reducible assumption) | assumption)
       obtain ⟨ad111, A111_0, c111_0, A111_1, c111_1, e111, hx111_0, hx111_1, hx111_2, hx111_3, hx111_4, hl111_0, hi111_0, hl111_1, hi111_1⟩ := at_T37 HR1.out x7_1 p111 q111
       have hw111_4 := hx111_4
       have hw111_3 := hx111_3
       have hw111_2 := hx111_2
       have hw111_1 := hx111_1
       have hw111_0 := hx111_0
       cases e111
       replace hx111_0 := (HB.out.cell (World.block_lt_of_cell? w _ hx111_0)).trans hx111_0
       replace hx111_1 := (HB.out.cell (World.block_lt_of_cell? w _ hx111_1)).trans hx111_1
       replace hx111_2 := (HB.out.cell (World.block_lt_of_cell? w _ hx111_2)).trans hx111_2
       replace hx111_3 := (HB.out.cell (World.block_lt_of_cell? w _ hx111_3)).trans hx111_3
       replace hx111_4 := (HB.out.cell (World.block_lt_of_cell? w _ hx111_4)).trans hx111_4
       have HR111_0 := Qz.mk hi111_0
       have HC111_0 := Qz.mk hl111_0
       clear hi111_0 hl111_0
       have HR111_1 := Qz.mk hi111_1
       have HC111_1 := Qz.mk hl111_1
       clear hi111_1 hl111_1
       replace p111 := eq_true p111
       replace q111 := eq_true q111
       refine start_ (n := 12) (S := fun w' => w'.cell? ⟨gb110, 0, none⟩ = some (.slice Ao22 x111000_1.length co22) ∧ w'.cell? ⟨gb110, 1, none⟩ = some (.int .i64 x111001_1) ∧ w'.cell? ⟨gb110, 2, none⟩ = some (.int .i64 x111002_1) ∧ w'.cell? ⟨gb110, 3, none⟩ = some (.int .i64 x111003_1) ∧ w'.cell? (ad111.add ((x7_1).toNat * 5)) = some (.slice A111_0 ((qw l1 x7_1).f0).length c111_0) ∧ w'.cell? ⟨(ad111.add ((x7_1).toNat * 5)).block, (ad111.add ((x7_1).toNat * 5)).off + 1, none⟩ = some (.slice A111_1 ((qw l1 x7_1).f1).length c111_1) ∧ w'.cell? ⟨(ad111.add ((x7_1).toNat * 5)).block, (ad111.add ((x7_1).toNat * 5)).off + 2, none⟩ = some (.int .i64 ((qw l1 x7_1).f2)) ∧ w'.cell? ⟨(ad111.add ((x7_1).toNat * 5)).block, (ad111.add ((x7_1).toNat * 5)).off + 3, none⟩ = some (.int .i64 ((qw l1 x7_1).f3)) ∧ w'.cell? ⟨(ad111.add ((x7_1).toNat * 5)).block, (ad111.add ((x7_1).toNat * 5)).off + 4, none⟩ = some (.int .i64 ((qw l1 x7_1).f4))) (ds := []) bq0 (by kernel_rfl) rfl rfl ⟨(qd BK110.out 0).trans rfl, (qd BK110.out 1).trans rfl, (qd BK110.out 2).trans rfl, (qd BK110.out 3).trans rfl, ((HB.out.cell (World.block_lt_of_cell? w _ hw111_0)).trans hw111_0), ((HB.out.cell (World.block_lt_of_cell? w _ hw111_1)).trans hw111_1), ((HB.out.cell (World.block_lt_of_cell? w _ hw111_2)).trans hw111_2), ((HB.out.cell (World.block_lt_of_cell? w _ hw111_3)).trans hw111_3), ((HB.out.cell (World.block_lt_of_cell? w _ hw111_4)).trans hw111_4)⟩ (fun hHeld => ?_); refine with_tabW spec_Replay.tab7 spec_Replay.bits7 (fun HT_ HW_ => ?_)
       generalize wr.drew = w23 at HO_111000 BK101 BK102 BK110 HB HR111_0 HR111_1 hx111_0 hx111_1 hx111_2 hx111_3 hx111_4 hHeld ⊢
       refine pure_ (i := 1) (N := some 24) (v := ?_) (a' := ?_) bq3 rfl rfl (qf1 HT_.out (by kernel_rfl)) (fun _ _ _ h => h) (Or.inl ⟨by rfl, ?_⟩) ?_ ?_
       rotate_left
       ·intro w'
        go_simp
        with_reducible rfl
       rotate_left
       ·simp only [Act.put, sq1, sq2, sq3, i64_w, i32_w]
        rfl
       refine pure_ (i := 2) (N := some 25) (v := ?_) (a' := ?_) bq5 rfl rfl (qf1 HT_.out (by kernel_rfl)) (fun _ _ _ h => h) (Or.inl ⟨by rfl, ?_⟩) ?_ ?_
       rotate_left
       ·intro w'
        go_simp
        with_reducible rfl
       rotate_left
       ·simp only [Act.put, sq1, sq2, sq3, i64_w, i32_w]
        rfl
       refine pure_ (i := 3) (N := some 26) (v := ?_) (a' := ?_) bq7 rfl rfl (qf1 HT_.out (by kernel_rfl)) (fun _ _ _ h => h) (Or.inl ⟨by rfl, ?_⟩) ?_ ?_
       rotate_left
       ·intro w'
        go_simp
        with_reducible rfl
       rotate_left
       ·simp only [Act.put, sq1, sq2, sq3, i64_w, i32_w]
        rfl
       refine take_ (i := 0) (N := some 23) (v := ?_) (a' := ?_) bq15 rfl rfl (take_ofW HT_.out HW_.out (by kernel_rfl)) (fun _ _ _ h => h) (Or.inl ⟨by rfl, ?_⟩) hHeld ?_ ?_
       rotate_left
       ·rintro w' ⟨s0, s1, s2, s3, s4, s5, s6, s7, s8⟩
        go_simp
        with_reducible rfl
       rotate_left
       ·simp only [Act.put, sq1, sq2, sq3, i64_w, i32_w]
        rfl
       refine take_ (i := 4) (N := some 27) (v := ?_) (a' := ?_) bq19 rfl rfl (take_ofW HT_.out HW_.out (by kernel_rfl)) (fun _ _ _ h => h) (Or.inl ⟨by rfl, ?_⟩) hHeld ?_ ?_
       rotate_left
       ·rintro w' ⟨s0, s1, s2, s3, s4, s5, s6, s7, s8⟩
        go_simp
        with_reducible rfl
       rotate_left
       ·simp only [Act.put, sq1, sq2, sq3, i64_w, i32_w]
        rfl
       refine join_ (σ := Value × Nat) 2 bq41 (fun s_ => [(28, .tuple #[.agg #[s_.1, .int .i64 t115, .int .i64 t116, .int .i64 t117], .bool true]), (8, .pointer (some ⟨s_.2, 0, none⟩)), (22, .tuple #[.agg #[s_.1, .int .i64 t115, .int .i64 t116, .int .i64 t117], .bool true]), (29, .agg #[s_.1, .int .i64 t115, .int .i64 t116, .int .i64 t117]), (30, .bool true)]) (fun s_ w' => (w'.cell? ⟨gb110, 0, none⟩ = some (.slice Ao22 x111000_1.length co22) ∧ w'.cell? ⟨gb110, 1, none⟩ = some (.int .i64 x111001_1) ∧ w'.cell? ⟨gb110, 2, none⟩ = some (.int .i64 x111002_1) ∧ w'.cell? ⟨gb110, 3, none⟩ = some (.int .i64 x111003_1) ∧ w'.cell? (ad111.add ((x7_1).toNat * 5)) = some (.slice A111_0 ((qw l1 x7_1).f0).length c111_0) ∧ w'.cell? ⟨(ad111.add ((x7_1).toNat * 5)).block, (ad111.add ((x7_1).toNat * 5)).off + 1, none⟩ = some (.slice A111_1 ((qw l1 x7_1).f1).length c111_1) ∧ w'.cell? ⟨(ad111.add ((x7_1).toNat * 5)).block, (ad111.add ((x7_1).toNat * 5)).off + 2, none⟩ = some (.int .i64 ((qw l1 x7_1).f2)) ∧ w'.cell? ⟨(ad111.add ((x7_1).toNat * 5)).block, (ad111.add ((x7_1).toNat * 5)).off + 3, none⟩ = some (.int .i64 ((qw l1 x7_1).f3)) ∧ w'.cell? ⟨(ad111.add ((x7_1).toNat * 5)).block, (ad111.add ((x7_1).toNat * 5)).off + 4, none⟩ = some (.int .i64 ((qw l1 x7_1).f4))) ∧ (Kd.R k66 66 w' w.heap.size (fun k_ => some k_ ≠ (.slice Ao22 x111000_1.length co22 : Value).ownBlock) s_.1 t112) ∧ (Kd.R k66 66 w' w.heap.size (fun k_ => some k_ ≠ (s_.1 : Value).ownBlock) (.slice Ao22 x111000_1.length co22) x111000_1) ∧ (w'.heap[gb101]? = some (.cells #[.slice A0_0 l0_0.length c0_0, .int .i64 a0_1, .int .i64 a0_2, .int .i64 a0_3] 32 (0, 0))) ∧ (w'.heap[gb102]? = some (.cells #[.slice none 0 0, .int .i64 x103001_1, .int .i64 x103002_1, .int .i64 x103003_1] 32 (0, 0))) ∧ (w'.heap[gb110]? = some (.cells #[.slice Ao22 x111000_1.length co22, .int .i64 x111001_1, .int .i64 x111002_1, .int .i64 x111003_1] 32 (0, 0))) ∧ (w'.heap[s_.2]? = some (.cells #[.slice none 0 0, .int .i64 0, .int .i64 0, .int .i64 0] 32 (0, 0))) ∧ (w.heap.size ≤ s_.2) ∧ (w.heap.size ≤ s_.2) ∧ (gb101 ≠ s_.2) ∧ (s_.2 ≠ gb101) ∧ (gb102 ≠ s_.2) ∧ (s_.2 ≠ gb102) ∧ (gb110 ≠ s_.2) ∧ (s_.2 ≠ gb110) ∧ (Below w.heap.size w w')) ?_ ?_
       rotate_left
       ·intro hCont
        refine two_ (i := 5) (j := 9) (Ni := some 28) (Nj := some 8) bq24 bq21 rfl rfl rfl rfl (two_of HT_.out (by kernel_rfl)) (by decide) (by decide) (fun K hK => ?_) (fun K hK => ?_)
        ·skip
         refine goes_ Try.func17 (by kernel_rfl) rfl #[.agg #[.slice Ao22 x111000_1.length co22, .int .i64 x111001_1, .int .i64 x111002_1, .int .i64 x111003_1], .agg #[.slice A111_0 ((qw l1 x7_1).f0).length c111_0, .slice A111_1 ((qw l1 x7_1).f1).length c111_1, .int .i64 ((qw l1 x7_1).f2), .int .i64 ((qw l1 x7_1).f3), .int .i64 ((qw l1 x7_1).f4)]] (by rfl) rfl rfl yq96 ?_
         with_reducible refine (spec_Apply.calls k1 _ _ x111000_1 x111001_1 x111002_1 x111003_1 _ _ ((qw l1 x7_1).f0) _ _ ((qw l1 x7_1).f1) ((qw l1 x7_1).f2) ((qw l1 x7_1).f3) ((qw l1 x7_1).f4) t112 t115 t116 t117 true _ ?side1 ?side2 ?side3 ?side4 ?side5 ?side6 A20.out).mono ?_
         (case side1 => exact yq100)
         (case side2 => exact (Kd.R_reads' HO_111000.out).2.1)
         (case side3 => exact yq102)
         (case side4 => exact HC111_0.out)
         (case side5 => exact yq101)
         (case side6 => exact HC111_1.out)
         rintro e w24 ⟨v113, rfl, ho0, hb⟩
         refine ⟨_, rfl, ?_⟩
         have HO114 := Qz.mk (Kd.R_lower (Kd.R_new' ho0 (Kd.R_lt yq95)) (qz yq92))
         replace HO_111000 := Qz.mk (Kd.R_elder' yq95 (Kd.R_base ho0) hb)
         replace BK101 := bkbf29 BK101 yq90 hb
         replace BK102 := bkbf29 BK102 yq91 hb
         replace BK110 := bkbf29 BK110 yq93 hb
         replace HB := Qz.mk (qq yq92 hb)
         (try clear hb)
         (try clear hk)
         (try clear ho0)
         refine hK.out _ _ ⟨(qd BK110.out 0).trans rfl, (qd BK110.out 1).trans rfl, (qd BK110.out 2).trans rfl, (qd BK110.out 3).trans rfl, ((HB.out.cell (World.block_lt_of_cell? w _ hw111_0)).trans hw111_0), ((HB.out.cell (World.block_lt_of_cell? w _ hw111_1)).trans hw111_1), ((HB.out.cell (World.block_lt_of_cell? w _ hw111_2)).trans hw111_2), ((HB.out.cell (World.block_lt_of_cell? w _ hw111_3)).trans hw111_3), ((HB.out.cell (World.block_lt_of_cell? w _ hw111_4)).trans hw111_4)⟩ (fun hHeld => ?_)
         clear hK K
         refine norm_ (a' := ?_) ?_ ?_
         rotate_left
         ·show Act.put _ (some 28) _ = _
          simp only [Act.put, sq1, sq2, sq3, i64_w, i32_w]
          rfl
         refine pure_ (i := 6) (N := some 22) (v := ?_) (a' := ?_) bq29 rfl rfl (qf1 HT_.out (by kernel_rfl)) (fun _ _ _ h => h) (Or.inl ⟨by rfl, ?_⟩) ?_ ?_
         rotate_left
         ·intro w'
          go_simp
          with_reducible rfl
         rotate_left
         ·simp only [Act.put, sq1, sq2, sq3, i64_w, i32_w]
          rfl
         refine pure_ (i := 7) (N := some 29) (v := ?_) (a' := ?_) bq34 rfl rfl (qf1 HT_.out (by kernel_rfl)) (fun _ _ _ h => h) (Or.inl ⟨by rfl, ?_⟩) ?_ ?_
         rotate_left
         ·intro w'
          go_simp
          with_reducible rfl
         rotate_left
         ·simp only [Act.put, sq1, sq2, sq3, i64_w, i32_w]
          rfl
         refine pure_ (i := 8) (N := some 30) (v := ?_) (a' := ?_) bq38 rfl rfl (qf1 HT_.out (by kernel_rfl)) (fun _ _ _ h => h) (Or.inl ⟨by rfl, ?_⟩) ?_ ?_
         rotate_left
         ·intro w'
          go_simp
          with_reducible rfl
         rotate_left
         ·simp only [Act.put, sq1, sq2, sq3, i64_w, i32_w]
          rfl
         refine one_ (i := 9) (N := some 8) bq41 rfl rfl (one_of HT_.out (by kernel_rfl)) (by decide) (fun K hK => ?_)
         refine box_step ?hg (N := 8) ?hd (cs := #[.slice none 0 0, .int .i64 0, .int .i64 0, .int .i64 0]) (t := 32) ?hr ?_; (case hd => rfl); (case hg => rfl); (case hr => exact yq111)
         intro gb119 hg w25 hbox hb
         replace HO_111000 := Qz.mk (Kd.R_below yq95 hb)
         replace HO114 := Qz.mk (Kd.R_below (by (with_reducible repeat (first | apply Kd.R_alloc | apply Kd.R_drewN | apply Kd.R_drew)); exact HO114.out) hb)
         have BK119 := Qz.mk (hbox)
         have GW119 := Qz.mk ((by rw [hg]; exact (qz yq92) : w.heap.size ≤ gb119))
         have GE119 := GW119
         replace HB := Qz.mk (qq yq92 hb)
         have NB101_119 := Qz.mk ((yq97 : gb101 ≠ gb119))
         have NB119_101 := Qz.mk ((yq98 : gb119 ≠ gb101))
         replace BK101 := bkbf29 BK101 yq90 hb
         have NB102_119 := Qz.mk ((yq104 : gb102 ≠ gb119))
         have NB119_102 := Qz.mk ((yq105 : gb119 ≠ gb102))
         replace BK102 := bkbf29 BK102 yq91 hb
         have NB110_119 := Qz.mk ((by rw [hg]; exact Nat.ne_of_lt (qv (g := gb110) (o := .cells #[.slice Ao22 x111000_1.length co22, .int .i64 x111001_1, .int .i64 x111002_1, .int .i64 x111003_1] 32 (0, 0)) yq93) : gb110 ≠ gb119))
         have NB119_110 := Qz.mk ((by rw [hg]; exact Nat.ne_of_gt (qv (g := gb110) (o := .cells #[.slice Ao22 x111000_1.length co22, .int .i64 x111001_1, .int .i64 x111002_1, .int .i64 x111003_1] 32 (0, 0)) yq93) : gb119 ≠ gb110))
         replace BK110 := bkbf29 BK110 yq93 hb
         clear hb hbox hg
         refine hK.out _ _ ⟨(qd BK110.out 0).trans rfl, (qd BK110.out 1).trans rfl, (qd BK110.out 2).trans rfl, (qd BK110.out 3).trans rfl, ((HB.out.cell (World.block_lt_of_cell? w _ hw111_0)).trans hw111_0), ((HB.out.cell (World.block_lt_of_cell? w _ hw111_1)).trans hw111_1), ((HB.out.cell (World.block_lt_of_cell? w _ hw111_2)).trans hw111_2), ((HB.out.cell (World.block_lt_of_cell? w _ hw111_3)).trans hw111_3), ((HB.out.cell (World.block_lt_of_cell? w _ hw111_4)).trans hw111_4)⟩ (fun hHeld => ?_)
         clear hK K
         refine norm_ (a' := ?_) ?_ ?_
         rotate_left
         ·show Act.put _ (some 8) _ = _
          simp only [Act.put, sq1, sq2, sq3, i64_w, i32_w]
          rfl
         exact norm_ (by simp only [putAll, Act.put, sq1, sq2, sq3]) (hCont (v113, gb119) _ ⟨hHeld, yq107, yq106, yq90, yq91, yq93, yq103, GW119.out, GE119.out, NB101_119.out, NB119_101.out, NB102_119.out, NB119_102.out, NB110_119.out, NB119_110.out, yq94⟩)
        ·skip
         refine box_step ?hg (N := 8) ?hd (cs := #[.slice none 0 0, .int .i64 0, .int .i64 0, .int .i64 0]) (t := 32) ?hr ?_; (case hd => rfl); (case hg => rfl); (case hr => exact yq111)
         intro gb119 hg w24 hbox hb
         replace HO_111000 := Qz.mk (Kd.R_below yq95 hb)
         have BK119 := Qz.mk (hbox)
         have GW119 := Qz.mk ((by rw [hg]; exact (qz yq92) : w.heap.size ≤ gb119))
         have GE119 := GW119
         replace HB := Qz.mk (qq yq92 hb)
         have NB101_119 := Qz.mk ((yq97 : gb101 ≠ gb119))
         have NB119_101 := Qz.mk ((yq98 : gb119 ≠ gb101))
         replace BK101 := bkbf29 BK101 yq90 hb
         have NB102_119 := Qz.mk ((yq104 : gb102 ≠ gb119))
         have NB119_102 := Qz.mk ((yq105 : gb119 ≠ gb102))
         replace BK102 := bkbf29 BK102 yq91 hb
         have NB110_119 := Qz.mk ((by rw [hg]; exact Nat.ne_of_lt (qv (g := gb110) (o := .cells #[.slice Ao22 x111000_1.length co22, .int .i64 x111001_1, .int .i64 x111002_1, .int .i64 x111003_1] 32 (0, 0)) yq93) : gb110 ≠ gb119))
         have NB119_110 := Qz.mk ((by rw [hg]; exact Nat.ne_of_gt (qv (g := gb110) (o := .cells #[.slice Ao22 x111000_1.length co22, .int .i64 x111001_1, .int .i64 x111002_1, .int .i64 x111003_1] 32 (0, 0)) yq93) : gb119 ≠ gb110))
         replace BK110 := bkbf29 BK110 yq93 hb
         clear hb hbox hg
         refine hK.out _ _ ⟨(qd BK110.out 0).trans rfl, (qd BK110.out 1).trans rfl, (qd BK110.out 2).trans rfl, (qd BK110.out 3).trans rfl, ((HB.out.cell (World.block_lt_of_cell? w _ hw111_0)).trans hw111_0), ((HB.out.cell (World.block_lt_of_cell? w _ hw111_1)).trans hw111_1), ((HB.out.cell (World.block_lt_of_cell? w _ hw111_2)).trans hw111_2), ((HB.out.cell (World.block_lt_of_cell? w _ hw111_3)).trans hw111_3), ((HB.out.cell (World.block_lt_of_cell? w _ hw111_4)).trans hw111_4)⟩ (fun hHeld => ?_)
         clear hK K
         refine norm_ (a' := ?_) ?_ ?_
         rotate_left
         ·show Act.put _ (some 8) _ = _
          simp only [Act.put, sq1, sq2, sq3, i64_w, i32_w]
          rfl
         refine one_ (i := 5) (N := some 28) bq26 rfl rfl (one_of HT_.out (by kernel_rfl)) (by decide) (fun K hK => ?_)
         refine goes_ Try.func17 (by kernel_rfl) rfl #[.agg #[.slice Ao22 x111000_1.length co22, .int .i64 x111001_1, .int .i64 x111002_1, .int .i64 x111003_1], .agg #[.slice A111_0 ((qw l1 x7_1).f0).length c111_0, .slice A111_1 ((qw l1 x7_1).f1).length c111_1, .int .i64 ((qw l1 x7_1).f2), .int .i64 ((qw l1 x7_1).f3), .int .i64 ((qw l1 x7_1).f4)]] (by rfl) rfl rfl yq96 ?_
         with_reducible refine (spec_Apply.calls k1 _ _ x111000_1 x111001_1 x111002_1 x111003_1 _ _ ((qw l1 x7_1).f0) _ _ ((qw l1 x7_1).f1) ((qw l1 x7_1).f2) ((qw l1 x7_1).f3) ((qw l1 x7_1).f4) t112 t115 t116 t117 true _ ?side1 ?side2 ?side3 ?side4 ?side5 ?side6 A20.out).mono ?_
         (case side1 => exact yq100)
         (case side2 => exact (Kd.R_reads' HO_111000.out).2.1)
         (case side3 => exact yq102)
         (case side4 => exact HC111_0.out)
         (case side5 => exact yq101)
         (case side6 => exact HC111_1.out)
         rintro e w25 ⟨v113, rfl, ho0, hb⟩
         refine ⟨_, rfl, ?_⟩
         have HO114 := Qz.mk (Kd.R_lower (Kd.R_new' ho0 (Kd.R_lt yq95)) (qz yq94))
         replace HO_111000 := Qz.mk (Kd.R_elder' yq95 (Kd.R_base ho0) hb)
         replace BK101 := bkbf29 BK101 yq90 hb
         replace BK102 := bkbf29 BK102 yq91 hb
         replace BK110 := bkbf29 BK110 yq93 hb
         replace BK119 := bkbf29 BK119 yq103 hb
         replace HB := Qz.mk (qq yq94 hb)
         (try clear hb)
         (try clear hk)
         (try clear ho0)
         refine hK.out _ _ ⟨(qd BK110.out 0).trans rfl, (qd BK110.out 1).trans rfl, (qd BK110.out 2).trans rfl, (qd BK110.out 3).trans rfl, ((HB.out.cell (World.block_lt_of_cell? w _ hw111_0)).trans hw111_0), ((HB.out.cell (World.block_lt_of_cell? w _ hw111_1)).trans hw111_1), ((HB.out.cell (World.block_lt_of_cell? w _ hw111_2)).trans hw111_2), ((HB.out.cell (World.block_lt_of_cell? w _ hw111_3)).trans hw111_3), ((HB.out.cell (World.block_lt_of_cell? w _ hw111_4)).trans hw111_4)⟩ (fun hHeld => ?_)
         clear hK K
         refine norm_ (a' := ?_) ?_ ?_
         rotate_left
         ·show Act.put _ (some 28) _ = _
          simp only [Act.put, sq1, sq2, sq3, i64_w, i32_w]
          rfl
         refine pure_ (i := 6) (N := some 22) (v := ?_) (a' := ?_) bq31 rfl rfl (qf1 HT_.out (by kernel_rfl)) (fun _ _ _ h => h) (Or.inl ⟨by rfl, ?_⟩) ?_ ?_
         rotate_left
         ·intro w'
          go_simp
          with_reducible rfl
         rotate_left
         ·simp only [Act.put, sq1, sq2, sq3, i64_w, i32_w]
          rfl
         refine pure_ (i := 7) (N := some 29) (v := ?_) (a' := ?_) bq37 rfl rfl (qf1 HT_.out (by kernel_rfl)) (fun _ _ _ h => h) (Or.inl ⟨by rfl, ?_⟩) ?_ ?_
         rotate_left
         ·intro w'
          go_simp
          with_reducible rfl
         rotate_left
         ·simp only [Act.put, sq1, sq2, sq3, i64_w, i32_w]
          rfl
         refine pure_ (i := 8) (N := some 30) (v := ?_) (a' := ?_) bq41 rfl rfl (qf1 HT_.out (by kernel_rfl)) (fun _ _ _ h => h) (Or.inl ⟨by rfl, ?_⟩) ?_ ?_
         rotate_left
         ·intro w'
          go_simp
          with_reducible rfl
         rotate_left
         ·simp only [Act.put, sq1, sq2, sq3, i64_w, i32_w]
          rfl
         exact norm_ (by simp only [putAll, Act.put, sq1, sq2, sq3]) (hCont (v113, gb119) _ ⟨hHeld, yq107, yq106, yq90, yq91, yq93, yq103, GW119.out, GE119.out, NB101_119.out, NB119_101.out, NB102_119.out, NB119_102.out, NB110_119.out, NB119_110.out, yq94⟩)
       rintro ⟨v113, gb119⟩ w26 ⟨hS_, h0_, h1_, h2_, h3_, h4_, h5_, h6_, h7_, h8_, h9_, h10_, h11_, h12_, h13_, h14_⟩
       have n0_ : Qz (Kd.R k66 66 w26 w.heap.size (fun k_ => some k_ ≠ (.slice Ao22 x111000_1.length co22 : Value).ownBlock) v113 t112) := ⟨h0_⟩
       have n1_ : Qz (Kd.R k66 66 w26 w.heap.size (fun k_ => some k_ ≠ (v113 : Value).ownBlock) (.slice Ao22 x111000_1.length co22) x111000_1) := ⟨h1_⟩
       have n2_ : Qz (w26.heap[gb101]? = some (.cells #[.slice A0_0 l0_0.length c0_0, .int .i64 a0_1, .int .i64 a0_2, .int .i64 a0_3] 32 (0, 0))) := ⟨h2_⟩
       have n3_ : Qz (w26.heap[gb102]? = some (.cells #[.slice none 0 0, .int .i64 x103001_1, .int .i64 x103002_1, .int .i64 x103003_1] 32 (0, 0))) := ⟨h3_⟩
       have n4_ : Qz (w26.heap[gb110]? = some (.cells #[.slice Ao22 x111000_1.length co22, .int .i64 x111001_1, .int .i64 x111002_1, .int .i64 x111003_1] 32 (0, 0))) := ⟨h4_⟩
       have n5_ : Qz (w26.heap[gb119]? = some (.cells #[.slice none 0 0, .int .i64 0, .int .i64 0, .int .i64 0] 32 (0, 0))) := ⟨h5_⟩
       have n6_ : Qz (w.heap.size ≤ gb119) := ⟨h6_⟩
       have n7_ : Qz (w.heap.size ≤ gb119) := ⟨h7_⟩
       have n8_ : Qz (gb101 ≠ gb119) := ⟨h8_⟩
       have n9_ : Qz (gb119 ≠ gb101) := ⟨h9_⟩
       have n10_ : Qz (gb102 ≠ gb119) := ⟨h10_⟩
       have n11_ : Qz (gb119 ≠ gb102) := ⟨h11_⟩
       have n12_ : Qz (gb110 ≠ gb119) := ⟨h12_⟩
       have n13_ : Qz (gb119 ≠ gb110) := ⟨h13_⟩
       have n14_ : Qz (Below w.heap.size w w26) := ⟨h14_⟩
       clear HO_111000
       clear BK101
       clear BK102
       clear BK110
       clear HB
       clear h0_ h1_ h2_ h3_ h4_ h5_ h6_ h7_ h8_ h9_ h10_ h11_ h12_ h13_ h14_
       have HO114 := n0_
       have HO_111000 := n1_
       have BK101 := n2_
       have BK102 := n3_
       have BK110 := n4_
       have BK119 := n5_
       have GW119 := n6_
       have GE119 := n7_
       have NB101_119 := n8_
       have NB119_101 := n9_
       have NB102_119 := n10_
       have NB119_102 := n11_
       have NB110_119 := n12_
       have NB119_110 := n13_
       have HB := n14_
       clear n0_ n1_ n2_ n3_ n4_ n5_ n6_ n7_ n8_ n9_ n10_ n11_ n12_ n13_ n14_
       have hHeld : w26.cell? ⟨gb110, 0, none⟩ = some (.slice Ao22 x111000_1.length co22) ∧ w26.cell? ⟨gb110, 1, none⟩ = some (.int .i64 x111001_1) ∧ w26.cell? ⟨gb110, 2, none⟩ = some (.int .i64 x111002_1) ∧ w26.cell? ⟨gb110, 3, none⟩ = some (.int .i64 x111003_1) ∧ w26.cell? (ad111.add ((x7_1).toNat * 5)) = some (.slice A111_0 ((qw l1 x7_1).f0).length c111_0) ∧ w26.cell? ⟨(ad111.add ((x7_1).toNat * 5)).block, (ad111.add ((x7_1).toNat * 5)).off + 1, none⟩ = some (.slice A111_1 ((qw l1 x7_1).f1).length c111_1) ∧ w26.cell? ⟨(ad111.add ((x7_1).toNat * 5)).block, (ad111.add ((x7_1).toNat * 5)).off + 2, none⟩ = some (.int .i64 ((qw l1 x7_1).f2)) ∧ w26.cell? ⟨(ad111.add ((x7_1).toNat * 5)).block, (ad111.add ((x7_1).toNat * 5)).off + 3, none⟩ = some (.int .i64 ((qw l1 x7_1).f3)) ∧ w26.cell? ⟨(ad111.add ((x7_1).toNat * 5)).block, (ad111.add ((x7_1).toNat * 5)).off + 4, none⟩ = some (.int .i64 ((qw l1 x7_1).f4)) := hS_
       obtain ⟨Ao27, co27, eo27⟩ := Kd.R_slice HO114.out
       (first | subst eo27 | (injection eo27 with f1_ f2_ f3_; have f4_ := f1_.symm; have f5_ := f3_.symm; clear f1_ f2_ f3_; subst f4_; subst f5_))
       refine norm_ (a' := ?_) ?_ ?_
       rotate_left
       ·simp only [putAll, Act.put, sq1, sq2, sq3]
        rfl
       refine one_ (i := 10) (N := none) bq43 rfl rfl (one_of HT_.out (by kernel_rfl)) (by decide) (fun K hK => ?_)
       have hs28 : w26.cell? ⟨gb119, 0, none⟩ = some (.slice none 0 0) := (qd BK119.out 0).trans rfl
       have hfs28 := qf BK119.out 0
       have hns28_0 := NB101_119.out
       have hns28_1 := NB102_119.out
       have hns28_2 := NB110_119.out
       have hms28_0 := NB119_101.out
       have hms28_1 := NB119_102.out
       have hms28_2 := NB119_110.out
       have hs29 : w26.cell? ⟨gb119, 1, none⟩ = some (.int .i64 0) := (qd BK119.out 1).trans rfl
       have hfs29 := qf BK119.out 1
       have hns29_0 := NB101_119.out
       have hns29_1 := NB102_119.out
       have hns29_2 := NB110_119.out
       have hms29_0 := NB119_101.out
       have hms29_1 := NB119_102.out
       have hms29_2 := NB119_110.out
       have hs30 : w26.cell? ⟨gb119, 2, none⟩ = some (.int .i64 0) := (qd BK119.out 2).trans rfl
       have hfs30 := qf BK119.out 2
       have hns30_0 := NB101_119.out
       have hns30_1 := NB102_119.out
       have hns30_2 := NB110_119.out
       have hms30_0 := NB119_101.out
       have hms30_1 := NB119_102.out
       have hms30_2 := NB119_110.out
       have hs31 : w26.cell? ⟨gb119, 3, none⟩ = some (.int .i64 0) := (qd BK119.out 3).trans rfl
       have hfs31 := qf BK119.out 3
       have hns31_0 := NB101_119.out
       have hns31_1 := NB102_119.out
       have hns31_2 := NB110_119.out
       have hms31_0 := NB119_101.out
       have hms31_1 := NB119_102.out
       have hms31_2 := NB119_110.out
       refine skip_ (w1 := ?_) (by rfl) rfl ?_ ?_
       rotate_left
       ·go_simp
        rfl
       refine hK.out _ _ ⟨((qr (p := ⟨gb119, _, none⟩) NB110_119.out _).trans (((qr (p := ⟨gb119, _, none⟩) NB110_119.out _).trans (((qr (p := ⟨gb119, _, none⟩) NB110_119.out _).trans (((qr (p := ⟨gb119, _, none⟩) NB110_119.out _).trans (hHeld.1)))))))), ((qr (p := ⟨gb119, _, none⟩) NB110_119.out _).trans (((qr (p := ⟨gb119, _, none⟩) NB110_119.out _).trans (((qr (p := ⟨gb119, _, none⟩) NB110_119.out _).trans (((qr (p := ⟨gb119, _, none⟩) NB110_119.out _).trans (hHeld.2.1)))))))), ((qr (p := ⟨gb119, _, none⟩) NB110_119.out _).trans (((qr (p := ⟨gb119, _, none⟩) NB110_119.out _).trans (((qr (p := ⟨gb119, _, none⟩) NB110_119.out _).trans (((qr (p := ⟨gb119, _, none⟩) NB110_119.out _).trans (hHeld.2.2.1)))))))), ((qr (p := ⟨gb119, _, none⟩) NB110_119.out _).trans (((qr (p := ⟨gb119, _, none⟩) NB110_119.out _).trans (((qr (p := ⟨gb119, _, none⟩) NB110_119.out _).trans (((qr (p := ⟨gb119, _, none⟩) NB110_119.out _).trans (hHeld.2.2.2.1)))))))), ((qr (p := ⟨gb119, _, none⟩) (by first | exact Nat.ne_of_lt (Nat.lt_of_lt_of_le (by have := World.block_lt_of_cell? _ _ hw111_0; first | rwa [qk] at this | exact this) GW119.out) | (rw [qk]; exact Nat.ne_of_lt (Nat.lt_of_lt_of_le (by have := World.block_lt_of_cell? _ _ hw111_0; first | rwa [qk] at this | exact this) GW119.out)) | (show (Addr.add _ _).block ≠ _; rw [qk]; exact Nat.ne_of_lt (Nat.lt_of_lt_of_le (by have := World.block_lt_of_cell? _ _ hw111_0; first | rwa [qk] at this | exact this) GW119.out)) | (dsimp only; exact Nat.ne_of_lt (Nat.lt_of_lt_of_le (by have := World.block_lt_of_cell? _ _ hw111_0; first | rwa [qk] at this | exact this) GW119.out))) _).trans (((qr (p := ⟨gb119, _, none⟩) (by first | exact Nat.ne_of_lt (Nat.lt_of_lt_of_le (by have := World.block_lt_of_cell? _ _ hw111_0; first | rwa [qk] at this | exact this) GW119.out) | (rw [qk]; exact Nat.ne_of_lt (Nat.lt_of_lt_of_le (by have := World.block_lt_of_cell? _ _ hw111_0; first | rwa [qk] at this | exact this) GW119.out)) | (show (Addr.add _ _).block ≠ _; rw [qk]; exact Nat.ne_of_lt (Nat.lt_of_lt_of_le (by have := World.block_lt_of_cell? _ _ hw111_0; first | rwa [qk] at this | exact this) GW119.out)) | (dsimp only; exact Nat.ne_of_lt (Nat.lt_of_lt_of_le (by have := World.block_lt_of_cell? _ _ hw111_0; first | rwa [qk] at this | exact this) GW119.out))) _).trans (((qr (p := ⟨gb119, _, none⟩) (by first | exact Nat.ne_of_lt (Nat.lt_of_lt_of_le (by have := World.block_lt_of_cell? _ _ hw111_0; first | rwa [qk] at this | exact this) GW119.out) | (rw [qk]; exact Nat.ne_of_lt (Nat.lt_of_lt_of_le (by have := World.block_lt_of_cell? _ _ hw111_0; first | rwa [qk] at this | exact this) GW119.out)) | (show (Addr.add _ _).block ≠ _; rw [qk]; exact Nat.ne_of_lt (Nat.lt_of_lt_of_le (by have := World.block_lt_of_cell? _ _ hw111_0; first | rwa [qk] at this | exact this) GW119.out)) | (dsimp only; exact Nat.ne_of_lt (Nat.lt_of_lt_of_le (by have := World.block_lt_of_cell? _ _ hw111_0; first | rwa [qk] at this | exact this) GW119.out))) _).trans (((qr (p := ⟨gb119, _, none⟩) (by first | exact Nat.ne_of_lt (Nat.lt_of_lt_of_le (by have := World.block_lt_of_cell? _ _ hw111_0; first | rwa [qk] at this | exact this) GW119.out) | (rw [qk]; exact Nat.ne_of_lt (Nat.lt_of_lt_of_le (by have := World.block_lt_of_cell? _ _ hw111_0; first | rwa [qk] at this | exact this) GW119.out)) | (show (Addr.add _ _).block ≠ _; rw [qk]; exact Nat.ne_of_lt (Nat.lt_of_lt_of_le (by have := World.block_lt_of_cell? _ _ hw111_0; first | rwa [qk] at this | exact this) GW119.out)) | (dsimp only; exact Nat.ne_of_lt (Nat.lt_of_lt_of_le (by have := World.block_lt_of_cell? _ _ hw111_0; first | rwa [qk] at this | exact this) GW119.out))) _).trans (hHeld.2.2.2.2.1)))))))), ((qr (p := ⟨gb119, _, none⟩) (by first | exact Nat.ne_of_lt (Nat.lt_of_lt_of_le (by have := World.block_lt_of_cell? _ _ hw111_1; first | rwa [qk] at this | exact this) GW119.out) | (rw [qk]; exact Nat.ne_of_lt (Nat.lt_of_lt_of_le (by have := World.block_lt_of_cell? _ _ hw111_1; first | rwa [qk] at this | exact this) GW119.out)) | (show (Addr.add _ _).block ≠ _; rw [qk]; exact Nat.ne_of_lt (Nat.lt_of_lt_of_le (by have := World.block_lt_of_cell? _ _ hw111_1; first | rwa [qk] at this | exact this) GW119.out)) | (dsimp only; exact Nat.ne_of_lt (Nat.lt_of_lt_of_le (by have := World.block_lt_of_cell? _ _ hw111_1; first | rwa [qk] at this | exact this) GW119.out))) _).trans (((qr (p := ⟨gb119, _, none⟩) (by first | exact Nat.ne_of_lt (Nat.lt_of_lt_of_le (by have := World.block_lt_of_cell? _ _ hw111_1; first | rwa [qk] at this | exact this) GW119.out) | (rw [qk]; exact Nat.ne_of_lt (Nat.lt_of_lt_of_le (by have := World.block_lt_of_cell? _ _ hw111_1; first | rwa [qk] at this | exact this) GW119.out)) | (show (Addr.add _ _).block ≠ _; rw [qk]; exact Nat.ne_of_lt (Nat.lt_of_lt_of_le (by have := World.block_lt_of_cell? _ _ hw111_1; first | rwa [qk] at this | exact this) GW119.out)) | (dsimp only; exact Nat.ne_of_lt (Nat.lt_of_lt_of_le (by have := World.block_lt_of_cell? _ _ hw111_1; first | rwa [qk] at this | exact this) GW119.out))) _).trans (((qr (p := ⟨gb119, _, none⟩) (by first | exact Nat.ne_of_lt (Nat.lt_of_lt_of_le (by have := World.block_lt_of_cell? _ _ hw111_1; first | rwa [qk] at this | exact this) GW119.out) | (rw [qk]; exact Nat.ne_of_lt (Nat.lt_of_lt_of_le (by have := World.block_lt_of_cell? _ _ hw111_1; first | rwa [qk] at this | exact this) GW119.out)) | (show (Addr.add _ _).block ≠ _; rw [qk]; exact Nat.ne_of_lt (Nat.lt_of_lt_of_le (by have := World.block_lt_of_cell? _ _ hw111_1; first | rwa [qk] at this | exact this) GW119.out)) | (dsimp only; exact Nat.ne_of_lt (Nat.lt_of_lt_of_le (by have := World.block_lt_of_cell? _ _ hw111_1; first | rwa [qk] at this | exact this) GW119.out))) _).trans (((qr (p := ⟨gb119, _, none⟩) (by first | exact Nat.ne_of_lt (Nat.lt_of_lt_of_le (by have := World.block_lt_of_cell? _ _ hw111_1; first | rwa [qk] at this | exact this) GW119.out) | (rw [qk]; exact Nat.ne_of_lt (Nat.lt_of_lt_of_le (by have := World.block_lt_of_cell? _ _ hw111_1; first | rwa [qk] at this | exact this) GW119.out)) | (show (Addr.add _ _).block ≠ _; rw [qk]; exact Nat.ne_of_lt (Nat.lt_of_lt_of_le (by have := World.block_lt_of_cell? _ _ hw111_1; first | rwa [qk] at this | exact this) GW119.out)) | (dsimp only; exact Nat.ne_of_lt (Nat.lt_of_lt_of_le (by have := World.block_lt_of_cell? _ _ hw111_1; first | rwa [qk] at this | exact this) GW119.out))) _).trans (hHeld.2.2.2.2.2.1)))))))), ((qr (p := ⟨gb119, _, none⟩) (by first | exact Nat.ne_of_lt (Nat.lt_of_lt_of_le (by have := World.block_lt_of_cell? _ _ hw111_2; first | rwa [qk] at this | exact this) GW119.out) | (rw [qk]; exact Nat.ne_of_lt (Nat.lt_of_lt_of_le (by have := World.block_lt_of_cell? _ _ hw111_2; first | rwa [qk] at this | exact this) GW119.out)) | (show (Addr.add _ _).block ≠ _; rw [qk]; exact Nat.ne_of_lt (Nat.lt_of_lt_of_le (by have := World.block_lt_of_cell? _ _ hw111_2; first | rwa [qk] at this | exact this) GW119.out)) | (dsimp only; exact Nat.ne_of_lt (Nat.lt_of_lt_of_le (by have := World.block_lt_of_cell? _ _ hw111_2; first | rwa [qk] at this | exact this) GW119.out))) _).trans (((qr (p := ⟨gb119, _, none⟩) (by first | exact Nat.ne_of_lt (Nat.lt_of_lt_of_le (by have := World.block_lt_of_cell? _ _ hw111_2; first | rwa [qk] at this | exact this) GW119.out) | (rw [qk]; exact Nat.ne_of_lt (Nat.lt_of_lt_of_le (by have := World.block_lt_of_cell? _ _ hw111_2; first | rwa [qk] at this | exact this) GW119.out)) | (show (Addr.add _ _).block ≠ _; rw [qk]; exact Nat.ne_of_lt (Nat.lt_of_lt_of_le (by have := World.block_lt_of_cell? _ _ hw111_2; first | rwa [qk] at this | exact this) GW119.out)) | (dsimp only; exact Nat.ne_of_lt (Nat.lt_of_lt_of_le (by have := World.block_lt_of_cell? _ _ hw111_2; first | rwa [qk] at this | exact this) GW119.out))) _).trans (((qr (p := ⟨gb119, _, none⟩) (by first | exact Nat.ne_of_lt (Nat.lt_of_lt_of_le (by have := World.block_lt_of_cell? _ _ hw111_2; first | rwa [qk] at this | exact this) GW119.out) | (rw [qk]; exact Nat.ne_of_lt (Nat.lt_of_lt_of_le (by have := World.block_lt_of_cell? _ _ hw111_2; first | rwa [qk] at this | exact this) GW119.out)) | (show (Addr.add _ _).block ≠ _; rw [qk]; exact Nat.ne_of_lt (Nat.lt_of_lt_of_le (by have := World.block_lt_of_cell? _ _ hw111_2; first | rwa [qk] at this | exact this) GW119.out)) | (dsimp only; exact Nat.ne_of_lt (Nat.lt_of_lt_of_le (by have := World.block_lt_of_cell? _ _ hw111_2; first | rwa [qk] at this | exact this) GW119.out))) _).trans (((qr (p := ⟨gb119, _, none⟩) (by first | exact Nat.ne_of_lt (Nat.lt_of_lt_of_le (by have := World.block_lt_of_cell? _ _ hw111_2; first | rwa [qk] at this | exact this) GW119.out) | (rw [qk]; exact Nat.ne_of_lt (Nat.lt_of_lt_of_le (by have := World.block_lt_of_cell? _ _ hw111_2; first | rwa [qk] at this | exact this) GW119.out)) | (show (Addr.add _ _).block ≠ _; rw [qk]; exact Nat.ne_of_lt (Nat.lt_of_lt_of_le (by have := World.block_lt_of_cell? _ _ hw111_2; first | rwa [qk] at this | exact this) GW119.out)) | (dsimp only; exact Nat.ne_of_lt (Nat.lt_of_lt_of_le (by have := World.block_lt_of_cell? _ _ hw111_2; first | rwa [qk] at this | exact this) GW119.out))) _).trans (hHeld.2.2.2.2.2.2.1)))))))), ((qr (p := ⟨gb119, _, none⟩) (by first | exact Nat.ne_of_lt (Nat.lt_of_lt_of_le (by have := World.block_lt_of_cell? _ _ hw111_3; first | rwa [qk] at this | exact this) GW119.out) | (rw [qk]; exact Nat.ne_of_lt (Nat.lt_of_lt_of_le (by have := World.block_lt_of_cell? _ _ hw111_3; first | rwa [qk] at this | exact this) GW119.out)) | (show (Addr.add _ _).block ≠ _; rw [qk]; exact Nat.ne_of_lt (Nat.lt_of_lt_of_le (by have := World.block_lt_of_cell? _ _ hw111_3; first | rwa [qk] at this | exact this) GW119.out)) | (dsimp only; exact Nat.ne_of_lt (Nat.lt_of_lt_of_le (by have := World.block_lt_of_cell? _ _ hw111_3; first | rwa [qk] at this | exact this) GW119.out))) _).trans (((qr (p := ⟨gb119, _, none⟩) (by first | exact Nat.ne_of_lt (Nat.lt_of_lt_of_le (by have := World.block_lt_of_cell? _ _ hw111_3; first | rwa [qk] at this | exact this) GW119.out) | (rw [qk]; exact Nat.ne_of_lt (Nat.lt_of_lt_of_le (by have := World.block_lt_of_cell? _ _ hw111_3; first | rwa [qk] at this | exact this) GW119.out)) | (show (Addr.add _ _).block ≠ _; rw [qk]; exact Nat.ne_of_lt (Nat.lt_of_lt_of_le (by have := World.block_lt_of_cell? _ _ hw111_3; first | rwa [qk] at this | exact this) GW119.out)) | (dsimp only; exact Nat.ne_of_lt (Nat.lt_of_lt_of_le (by have := World.block_lt_of_cell? _ _ hw111_3; first | rwa [qk] at this | exact this) GW119.out))) _).trans (((qr (p := ⟨gb119, _, none⟩) (by first | exact Nat.ne_of_lt (Nat.lt_of_lt_of_le (by have := World.block_lt_of_cell? _ _ hw111_3; first | rwa [qk] at this | exact this) GW119.out) | (rw [qk]; exact Nat.ne_of_lt (Nat.lt_of_lt_of_le (by have := World.block_lt_of_cell? _ _ hw111_3; first | rwa [qk] at this | exact this) GW119.out)) | (show (Addr.add _ _).block ≠ _; rw [qk]; exact Nat.ne_of_lt (Nat.lt_of_lt_of_le (by have := World.block_lt_of_cell? _ _ hw111_3; first | rwa [qk] at this | exact this) GW119.out)) | (dsimp only; exact Nat.ne_of_lt (Nat.lt_of_lt_of_le (by have := World.block_lt_of_cell? _ _ hw111_3; first | rwa [qk] at this | exact this) GW119.out))) _).trans (((qr (p := ⟨gb119, _, none⟩) (by first | exact Nat.ne_of_lt (Nat.lt_of_lt_of_le (by have := World.block_lt_of_cell? _ _ hw111_3; first | rwa [qk] at this | exact this) GW119.out) | (rw [qk]; exact Nat.ne_of_lt (Nat.lt_of_lt_of_le (by have := World.block_lt_of_cell? _ _ hw111_3; first | rwa [qk] at this | exact this) GW119.out)) | (show (Addr.add _ _).block ≠ _; rw [qk]; exact Nat.ne_of_lt (Nat.lt_of_lt_of_le (by have := World.block_lt_of_cell? _ _ hw111_3; first | rwa [qk] at this | exact this) GW119.out)) | (dsimp only; exact Nat.ne_of_lt (Nat.lt_of_lt_of_le (by have := World.block_lt_of_cell? _ _ hw111_3; first | rwa [qk] at this | exact this) GW119.out))) _).trans (hHeld.2.2.2.2.2.2.2.1)))))))), ((qr (p := ⟨gb119, _, none⟩) (by first | exact Nat.ne_of_lt (Nat.lt_of_lt_of_le (by have := World.block_lt_of_cell? _ _ hw111_4; first | rwa [qk] at this | exact this) GW119.out) | (rw [qk]; exact Nat.ne_of_lt (Nat.lt_of_lt_of_le (by have := World.block_lt_of_cell? _ _ hw111_4; first | rwa [qk] at this | exact this) GW119.out)) | (show (Addr.add _ _).block ≠ _; rw [qk]; exact Nat.ne_of_lt (Nat.lt_of_lt_of_le (by have := World.block_lt_of_cell? _ _ hw111_4; first | rwa [qk] at this | exact this) GW119.out)) | (dsimp only; exact Nat.ne_of_lt (Nat.lt_of_lt_of_le (by have := World.block_lt_of_cell? _ _ hw111_4; first | rwa [qk] at this | exact this) GW119.out))) _).trans (((qr (p := ⟨gb119, _, none⟩) (by first | exact Nat.ne_of_lt (Nat.lt_of_lt_of_le (by have := World.block_lt_of_cell? _ _ hw111_4; first | rwa [qk] at this | exact this) GW119.out) | (rw [qk]; exact Nat.ne_of_lt (Nat.lt_of_lt_of_le (by have := World.block_lt_of_cell? _ _ hw111_4; first | rwa [qk] at this | exact this) GW119.out)) | (show (Addr.add _ _).block ≠ _; rw [qk]; exact Nat.ne_of_lt (Nat.lt_of_lt_of_le (by have := World.block_lt_of_cell? _ _ hw111_4; first | rwa [qk] at this | exact this) GW119.out)) | (dsimp only; exact Nat.ne_of_lt (Nat.lt_of_lt_of_le (by have := World.block_lt_of_cell? _ _ hw111_4; first | rwa [qk] at this | exact this) GW119.out))) _).trans (((qr (p := ⟨gb119, _, none⟩) (by first | exact Nat.ne_of_lt (Nat.lt_of_lt_of_le (by have := World.block_lt_of_cell? _ _ hw111_4; first | rwa [qk] at this | exact this) GW119.out) | (rw [qk]; exact Nat.ne_of_lt (Nat.lt_of_lt_of_le (by have := World.block_lt_of_cell? _ _ hw111_4; first | rwa [qk] at this | exact this) GW119.out)) | (show (Addr.add _ _).block ≠ _; rw [qk]; exact Nat.ne_of_lt (Nat.lt_of_lt_of_le (by have := World.block_lt_of_cell? _ _ hw111_4; first | rwa [qk] at this | exact this) GW119.out)) | (dsimp only; exact Nat.ne_of_lt (Nat.lt_of_lt_of_le (by have := World.block_lt_of_cell? _ _ hw111_4; first | rwa [qk] at this | exact this) GW119.out))) _).trans (((qr (p := ⟨gb119, _, none⟩) (by first | exact Nat.ne_of_lt (Nat.lt_of_lt_of_le (by have := World.block_lt_of_cell? _ _ hw111_4; first | rwa [qk] at this | exact this) GW119.out) | (rw [qk]; exact Nat.ne_of_lt (Nat.lt_of_lt_of_le (by have := World.block_lt_of_cell? _ _ hw111_4; first | rwa [qk] at this | exact this) GW119.out)) | (show (Addr.add _ _).block ≠ _; rw [qk]; exact Nat.ne_of_lt (Nat.lt_of_lt_of_le (by have := World.block_lt_of_cell? _ _ hw111_4; first | rwa [qk] at this | exact this) GW119.out)) | (dsimp only; exact Nat.ne_of_lt (Nat.lt_of_lt_of_le (by have := World.block_lt_of_cell? _ _ hw111_4; first | rwa [qk] at this | exact this) GW119.out))) _).trans (hHeld.2.2.2.2.2.2.2.2))))))))⟩ (fun hHeld => ?_)
       clear hK K
       refine pure_ (i := 11) (N := some 9) (v := ?_) (a' := ?_) bq46 rfl rfl (qf1 HT_.out (by kernel_rfl)) (fun _ _ _ h => h) (Or.inl ⟨by rfl, ?_⟩) ?_ ?_
       rotate_left
       ·intro w'
        go_simp
        with_reducible rfl
       rotate_left
       ·simp only [Act.put, sq1, sq2, sq3, i64_w, i32_w]
        rfl
       refine done_ (done_of HT_.out (by kernel_rfl)) ?_
       have hnb32 := NB119_101.out
       have hnc32 := NB101_119.out
       have hnb33 := NB119_102.out
       have hnc33 := NB102_119.out
       have hnb34 := NB119_110.out
       have hnc34 := NB110_119.out
       have hcz35_0 := (qd BK119.out 0).trans rfl
       have hcz35_1 := (qd BK119.out 1).trans rfl
       have hcz35_2 := (qd BK119.out 2).trans rfl
       have hcz35_3 := (qd BK119.out 3).trans rfl
       have hfz35_0 := qf BK119.out 0
       have hfz35_1 := qf BK119.out 1
       have hfz35_2 := qf BK119.out 2
       have hfz35_3 := qf BK119.out 3
       have hnb36 := NB110_101.out
       have hnc36 := NB101_110.out
       have hnb37 := NB110_102.out
       have hnc37 := NB102_110.out
       have hcz38_0 := (qd BK110.out 0).trans rfl
       have hcz38_1 := (qd BK110.out 1).trans rfl
       have hcz38_2 := (qd BK110.out 2).trans rfl
       have hcz38_3 := (qd BK110.out 3).trans rfl
       have hfz38_0 := qf BK110.out 0
       have hfz38_1 := qf BK110.out 1
       have hfz38_2 := qf BK110.out 2
       have hfz38_3 := qf BK110.out 3
       try go_wp2
       go_roundg k1
       case measure => have := HK1.out; omega
       case rel => exact ⟨(wrap64 (x7_1 + 1)), (x103001_1), (x103002_1), (x103003_1), (t112), (t115), (t116), (t117), (.slice Ao27 t112.length co27), (by first | rfl | (simp; done) | (simp [*]; done)), H', ⟨by have := HK1.out; omega⟩, ⟨by (with_reducible repeat (first | apply Kd.R_alloc | apply Kd.R_drewN | apply Kd.R_drew)); exact Kd.R_mono (Kd.R_far (p := ⟨gb110, 3, none⟩) (Kd.R_far (p := ⟨gb110, 2, none⟩) (Kd.R_far (p := ⟨gb110, 1, none⟩) (Kd.R_far (p := ⟨gb110, 0, none⟩) (Kd.R_far (p := ⟨gb119, 3, none⟩) (Kd.R_far (p := ⟨gb119, 2, none⟩) (Kd.R_far (p := ⟨gb119, 1, none⟩) (Kd.R_far (p := ⟨gb119, 0, none⟩) (Kd.R_types (Kd.R_types HO114.out BK119.out (by decide)) BK110.out (by decide)) (fun _ hk => hk.1.2) (.slice Ao27 t112.length co27)) (fun _ hk => hk.1.2) (.int .i64 t115)) (fun _ hk => hk.1.2) (.int .i64 t116)) (fun _ hk => hk.1.2) (.int .i64 t117)) (fun _ hk => hk.2) (.slice Ao27 t112.length co27)) (fun _ hk => hk.2) (.int .i64 t115)) (fun _ hk => hk.2) (.int .i64 t116)) (fun _ hk => hk.2) (.int .i64 t117)) (fun _ hk => trivial)⟩, ⟨by (with_reducible repeat (first | refine qb ?_ _ | refine qc ?_ | refine qa ?_ _)); refine qp ?_ NB101_110.out _; (with_reducible repeat (first | refine qb ?_ _ | refine qc ?_ | refine qa ?_ _)); refine qp ?_ NB101_110.out _; (with_reducible repeat (first | refine qb ?_ _ | refine qc ?_ | refine qa ?_ _)); refine qp ?_ NB101_110.out _; (with_reducible repeat (first | refine qb ?_ _ | refine qc ?_ | refine qa ?_ _)); refine qp ?_ NB101_110.out _; (with_reducible repeat (first | refine qb ?_ _ | refine qc ?_ | refine qa ?_ _)); refine qp ?_ NB101_119.out _; (with_reducible repeat (first | refine qb ?_ _ | refine qc ?_ | refine qa ?_ _)); refine qp ?_ NB101_119.out _; (with_reducible repeat (first | refine qb ?_ _ | refine qc ?_ | refine qa ?_ _)); refine qp ?_ NB101_119.out _; (with_reducible repeat (first | refine qb ?_ _ | refine qc ?_ | refine qa ?_ _)); refine qp ?_ NB101_119.out _; (with_reducible repeat (first | refine qb ?_ _ | refine qc ?_ | refine qa ?_ _)); exact BK101.out⟩, ⟨by (with_reducible repeat (first | refine qb ?_ _ | refine qc ?_ | refine qa ?_ _)); refine qp ?_ NB102_110.out _; (with_reducible repeat (first | refine qb ?_ _ | refine qc ?_ | refine qa ?_ _)); refine qp ?_ NB102_110.out _; (with_reducible repeat (first | refine qb ?_ _ | refine qc ?_ | refine qa ?_ _)); refine qp ?_ NB102_110.out _; (with_reducible repeat (first | refine qb ?_ _ | refine qc ?_ | refine qa ?_ _)); refine qp ?_ NB102_110.out _; (with_reducible repeat (first | refine qb ?_ _ | refine qc ?_ | refine qa ?_ _)); refine qp ?_ NB102_119.out _; (with_reducible repeat (first | refine qb ?_ _ | refine qc ?_ | refine qa ?_ _)); refine qp ?_ NB102_119.out _; (with_reducible repeat (first | refine qb ?_ _ | refine qc ?_ | refine qa ?_ _)); refine qp ?_ NB102_119.out _; (with_reducible repeat (first | refine qb ?_ _ | refine qc ?_ | refine qa ?_ _)); refine qp ?_ NB102_119.out _; (with_reducible repeat (first | refine qb ?_ _ | refine qc ?_ | refine qa ?_ _)); exact BK102.out⟩, ⟨by (with_reducible repeat (first | refine qb ?_ _ | refine qc ?_ | refine qa ?_ _)); refine qt (cs := #[.slice Ao27 t112.length co27, .int .i64 t115, .int .i64 t116, .int .i64 x111003_1]) ?_ 3 _ rfl; (with_reducible repeat (first | refine qb ?_ _ | refine qc ?_ | refine qa ?_ _)); refine qt (cs := #[.slice Ao27 t112.length co27, .int .i64 t115, .int .i64 x111002_1, .int .i64 x111003_1]) ?_ 2 _ rfl; (with_reducible repeat (first | refine qb ?_ _ | refine qc ?_ | refine qa ?_ _)); refine qt (cs := #[.slice Ao27 t112.length co27, .int .i64 x111001_1, .int .i64 x111002_1, .int .i64 x111003_1]) ?_ 1 _ rfl; (with_reducible repeat (first | refine qb ?_ _ | refine qc ?_ | refine qa ?_ _)); refine qt (cs := #[.slice Ao22 x111000_1.length co22, .int .i64 x111001_1, .int .i64 x111002_1, .int .i64 x111003_1]) ?_ 0 _ rfl; (with_reducible repeat (first | refine qb ?_ _ | refine qc ?_ | refine qa ?_ _)); refine qp ?_ NB110_119.out _; (with_reducible repeat (first | refine qb ?_ _ | refine qc ?_ | refine qa ?_ _)); refine qp ?_ NB110_119.out _; (with_reducible repeat (first | refine qb ?_ _ | refine qc ?_ | refine qa ?_ _)); refine qp ?_ NB110_119.out _; (with_reducible repeat (first | refine qb ?_ _ | refine qc ?_ | refine qa ?_ _)); refine qp ?_ NB110_119.out _; (with_reducible repeat (first | refine qb ?_ _ | refine qc ?_ | refine qa ?_ _)); exact BK110.out⟩, ⟨by repeat (first | (with_reducible first | exact HB.out | apply qh | apply qg | apply qi | refine qe ?_ GE101.out | refine qe ?_ GE102.out | refine qe ?_ GE110.out | refine qe ?_ GE119.out) | exact HB.out)⟩⟩
      ·replace c21 := Bool.eq_false_iff.mpr c21
       subst c21
       have H1 : (some (x111000_1, x111001_1, x111002_1, x111003_1, x7_1)) = some (r1, r2, r3, r4, r5) := by rw [if_neg (show ¬ (false = true) by decide)] at H; exact H
       clear H
       have H := H1
       clear H1
       simp only [Option.some.injEq, Prod.mk.injEq] at H
       obtain ⟨rfl, rfl, rfl, rfl, rfl⟩ := H
       obtain ⟨Ao39, co39, eo39⟩ := Kd.R_slice HO_111000.out
       subst eo39
       try go_wp2
       replace HO_111000 := Qz.mk (Kd.R_drew HO_111000.out)
       replace BK101 := Qz.mk (qc BK101.out)
       replace BK102 := Qz.mk (qc BK102.out)
       replace BK110 := Qz.mk (qc BK110.out)
       replace HB := Qz.mk (qi HB.out)
       have p111 : 0 ≤ (x7_1 : Int) := of_decide_eq_true (by first | (with_reducible assumption) | assumption)
       have q111 : x7_1 < (l1.length : Int) := of_decide_eq_true (by first | (with_reducible assumption) | assumption)
       obtain ⟨ad111, A111_0, c111_0, A111_1, c111_1, e111, hx111_0, hx111_1, hx111_2, hx111_3, hx111_4, hl111_0, hi111_0, hl111_1, hi111_1⟩ := at_T37 HR1.out x7_1 p111 q111
       have hw111_4 := hx111_4
       have hw111_3 := hx111_3
       have hw111_2 := hx111_2
       have hw111_1 := hx111_1
       have hw111_0 := hx111_0
       cases e111
       replace hx111_0 := (HB.out.cell (World.block_lt_of_cell? w _ hx111_0)).trans hx111_0
       replace hx111_1 := (HB.out.cell (World.block_lt_of_cell? w _ hx111_1)).trans hx111_1
       replace hx111_2 := (HB.out.cell (World.block_lt_of_cell? w _ hx111_2)).trans hx111_2
       replace hx111_3 := (HB.out.cell (World.block_lt_of_cell? w _ hx111_3)).trans hx111_3
       replace hx111_4 := (HB.out.cell (World.block_lt_of_cell? w _ hx111_4)).trans hx111_4
       have HR111_0 := Qz.mk hi111_0
       have HC111_0 := Qz.mk hl111_0
       clear hi111_0 hl111_0
       have HR111_1 := Qz.mk hi111_1
       have HC111_1 := Qz.mk hl111_1
       clear hi111_1 hl111_1
       replace p111 := eq_true p111
       replace q111 := eq_true q111
       refine start_ (n := 12) (S := fun w' => w'.cell? ⟨gb110, 0, none⟩ = some (.slice Ao39 x111000_1.length co39) ∧ w'.cell? ⟨gb110, 1, none⟩ = some (.int .i64 x111001_1) ∧ w'.cell? ⟨gb110, 2, none⟩ = some (.int .i64 x111002_1) ∧ w'.cell? ⟨gb110, 3, none⟩ = some (.int .i64 x111003_1) ∧ w'.cell? (ad111.add ((x7_1).toNat * 5)) = some (.slice A111_0 ((qw l1 x7_1).f0).length c111_0) ∧ w'.cell? ⟨(ad111.add ((x7_1).toNat * 5)).block, (ad111.add ((x7_1).toNat * 5)).off + 1, none⟩ = some (.slice A111_1 ((qw l1 x7_1).f1).length c111_1) ∧ w'.cell? ⟨(ad111.add ((x7_1).toNat * 5)).block, (ad111.add ((x7_1).toNat * 5)).off + 2, none⟩ = some (.int .i64 ((qw l1 x7_1).f2)) ∧ w'.cell? ⟨(ad111.add ((x7_1).toNat * 5)).block, (ad111.add ((x7_1).toNat * 5)).off + 3, none⟩ = some (.int .i64 ((qw l1 x7_1).f3)) ∧ w'.cell? ⟨(ad111.add ((x7_1).toNat * 5)).block, (ad111.add ((x7_1).toNat * 5)).off + 4, none⟩ = some (.int .i64 ((qw l1 x7_1).f4))) (ds := []) bq0 (by kernel_rfl) rfl rfl ⟨(qd BK110.out 0).trans rfl, (qd BK110.out 1).trans rfl, (qd BK110.out 2).trans rfl, (qd BK110.out 3).trans rfl, ((HB.out.cell (World.block_lt_of_cell? w _ hw111_0)).trans hw111_0), ((HB.out.cell (World.block_lt_of_cell? w _ hw111_1)).trans hw111_1), ((HB.out.cell (World.block_lt_of_cell? w _ hw111_2)).trans hw111_2), ((HB.out.cell (World.block_lt_of_cell? w _ hw111_3)).trans hw111_3), ((HB.out.cell (World.block_lt_of_cell? w _ hw111_4)).trans hw111_4)⟩ (fun hHeld => ?_); refine with_tabW spec_Replay.tab7 spec_Replay.bits7 (fun HT_ HW_ => ?_)
       generalize wr.drew = w40 at HO_111000 BK101 BK102 BK110 HB HR111_0 HR111_1 hx111_0 hx111_1 hx111_2 hx111_3 hx111_4 hHeld ⊢
       refine pure_ (i := 1) (N := some 24) (v := ?_) (a' := ?_) bq3 rfl rfl (qf1 HT_.out (by kernel_rfl)) (fun _ _ _ h => h) (Or.inl ⟨by rfl, ?_⟩) ?_ ?_
       rotate_left
       ·intro w'
        go_simp
        with_reducible rfl
       rotate_left
       ·simp only [Act.put, sq1, sq2, sq3, i64_w, i32_w]
        rfl
       refine pure_ (i := 2) (N := some 25) (v := ?_) (a' := ?_) bq5 rfl rfl (qf1 HT_.out (by kernel_rfl)) (fun _ _ _ h => h) (Or.inl ⟨by rfl, ?_⟩) ?_ ?_
       rotate_left
       ·intro w'
        go_simp
        with_reducible rfl
       rotate_left
       ·simp only [Act.put, sq1, sq2, sq3, i64_w, i32_w]
        rfl
       refine pure_ (i := 3) (N := some 26) (v := ?_) (a' := ?_) bq7 rfl rfl (qf1 HT_.out (by kernel_rfl)) (fun _ _ _ h => h) (Or.inl ⟨by rfl, ?_⟩) ?_ ?_
       rotate_left
       ·intro w'
        go_simp
        with_reducible rfl
       rotate_left
       ·simp only [Act.put, sq1, sq2, sq3, i64_w, i32_w]
        rfl
       refine take_ (i := 0) (N := some 23) (v := ?_) (a' := ?_) bq15 rfl rfl (take_ofW HT_.out HW_.out (by kernel_rfl)) (fun _ _ _ h => h) (Or.inl ⟨by rfl, ?_⟩) hHeld ?_ ?_
       rotate_left
       ·rintro w' ⟨s0, s1, s2, s3, s4, s5, s6, s7, s8⟩
        go_simp
        with_reducible rfl
       rotate_left
       ·simp only [Act.put, sq1, sq2, sq3, i64_w, i32_w]
        rfl
       refine take_ (i := 4) (N := some 27) (v := ?_) (a' := ?_) bq19 rfl rfl (take_ofW HT_.out HW_.out (by kernel_rfl)) (fun _ _ _ h => h) (Or.inl ⟨by rfl, ?_⟩) hHeld ?_ ?_
       rotate_left
       ·rintro w' ⟨s0, s1, s2, s3, s4, s5, s6, s7, s8⟩
        go_simp
        with_reducible rfl
       rotate_left
       ·simp only [Act.put, sq1, sq2, sq3, i64_w, i32_w]
        rfl
       refine join_ (σ := Value × Nat) 2 bq41 (fun s_ => [(28, .tuple #[.agg #[s_.1, .int .i64 t115, .int .i64 t116, .int .i64 t117], .bool false]), (8, .pointer (some ⟨s_.2, 0, none⟩)), (22, .tuple #[.agg #[s_.1, .int .i64 t115, .int .i64 t116, .int .i64 t117], .bool false]), (29, .agg #[s_.1, .int .i64 t115, .int .i64 t116, .int .i64 t117]), (30, .bool false)]) (fun s_ w' => (w'.cell? ⟨gb110, 0, none⟩ = some (.slice Ao39 x111000_1.length co39) ∧ w'.cell? ⟨gb110, 1, none⟩ = some (.int .i64 x111001_1) ∧ w'.cell? ⟨gb110, 2, none⟩ = some (.int .i64 x111002_1) ∧ w'.cell? ⟨gb110, 3, none⟩ = some (.int .i64 x111003_1) ∧ w'.cell? (ad111.add ((x7_1).toNat * 5)) = some (.slice A111_0 ((qw l1 x7_1).f0).length c111_0) ∧ w'.cell? ⟨(ad111.add ((x7_1).toNat * 5)).block, (ad111.add ((x7_1).toNat * 5)).off + 1, none⟩ = some (.slice A111_1 ((qw l1 x7_1).f1).length c111_1) ∧ w'.cell? ⟨(ad111.add ((x7_1).toNat * 5)).block, (ad111.add ((x7_1).toNat * 5)).off + 2, none⟩ = some (.int .i64 ((qw l1 x7_1).f2)) ∧ w'.cell? ⟨(ad111.add ((x7_1).toNat * 5)).block, (ad111.add ((x7_1).toNat * 5)).off + 3, none⟩ = some (.int .i64 ((qw l1 x7_1).f3)) ∧ w'.cell? ⟨(ad111.add ((x7_1).toNat * 5)).block, (ad111.add ((x7_1).toNat * 5)).off + 4, none⟩ = some (.int .i64 ((qw l1 x7_1).f4))) ∧ (Kd.R k66 66 w' w.heap.size (fun k_ => some k_ ≠ (.slice Ao39 x111000_1.length co39 : Value).ownBlock) s_.1 t112) ∧ (Kd.R k66 66 w' w.heap.size (fun k_ => some k_ ≠ (s_.1 : Value).ownBlock) (.slice Ao39 x111000_1.length co39) x111000_1) ∧ (w'.heap[gb101]? = some (.cells #[.slice A0_0 l0_0.length c0_0, .int .i64 a0_1, .int .i64 a0_2, .int .i64 a0_3] 32 (0, 0))) ∧ (w'.heap[gb102]? = some (.cells #[.slice none 0 0, .int .i64 x103001_1, .int .i64 x103002_1, .int .i64 x103003_1] 32 (0, 0))) ∧ (w'.heap[gb110]? = some (.cells #[.slice Ao39 x111000_1.length co39, .int .i64 x111001_1, .int .i64 x111002_1, .int .i64 x111003_1] 32 (0, 0))) ∧ (w'.heap[s_.2]? = some (.cells #[.slice none 0 0, .int .i64 0, .int .i64 0, .int .i64 0] 32 (0, 0))) ∧ (w.heap.size ≤ s_.2) ∧ (w.heap.size ≤ s_.2) ∧ (gb101 ≠ s_.2) ∧ (s_.2 ≠ gb101) ∧ (gb102 ≠ s_.2) ∧ (s_.2 ≠ gb102) ∧ (gb110 ≠ s_.2) ∧ (s_.2 ≠ gb110) ∧ (Below w.heap.size w w')) ?_ ?_
       rotate_left
       ·intro hCont
        refine two_ (i := 5) (j := 9) (Ni := some 28) (Nj := some 8) bq24 bq21 rfl rfl rfl rfl (two_of HT_.out (by kernel_rfl)) (by decide) (by decide) (fun K hK => ?_) (fun K hK => ?_)
        ·skip
         refine goes_ Try.func17 (by kernel_rfl) rfl #[.agg #[.slice Ao39 x111000_1.length co39, .int .i64 x111001_1, .int .i64 x111002_1, .int .i64 x111003_1], .agg #[.slice A111_0 ((qw l1 x7_1).f0).length c111_0, .slice A111_1 ((qw l1 x7_1).f1).length c111_1, .int .i64 ((qw l1 x7_1).f2), .int .i64 ((qw l1 x7_1).f3), .int .i64 ((qw l1 x7_1).f4)]] (by rfl) rfl rfl yq96 ?_
         with_reducible refine (spec_Apply.calls k1 _ _ x111000_1 x111001_1 x111002_1 x111003_1 _ _ ((qw l1 x7_1).f0) _ _ ((qw l1 x7_1).f1) ((qw l1 x7_1).f2) ((qw l1 x7_1).f3) ((qw l1 x7_1).f4) t112 t115 t116 t117 false _ ?side1 ?side2 ?side3 ?side4 ?side5 ?side6 A20.out).mono ?_
         (case side1 => exact yq100)
         (case side2 => exact (Kd.R_reads' HO_111000.out).2.1)
         (case side3 => exact yq102)
         (case side4 => exact HC111_0.out)
         (case side5 => exact yq101)
         (case side6 => exact HC111_1.out)
         rintro e w41 ⟨v113, rfl, ho0, hb⟩
         refine ⟨_, rfl, ?_⟩
         have HO114 := Qz.mk (Kd.R_lower (Kd.R_new' ho0 (Kd.R_lt yq95)) (qz yq92))
         replace HO_111000 := Qz.mk (Kd.R_elder' yq95 (Kd.R_base ho0) hb)
         replace BK101 := bkbf29 BK101 yq90 hb
         replace BK102 := bkbf29 BK102 yq91 hb
         replace BK110 := bkbf29 BK110 yq93 hb
         replace HB := Qz.mk (qq yq92 hb)
         (try clear hb)
         (try clear hk)
         (try clear ho0)
         refine hK.out _ _ ⟨(qd BK110.out 0).trans rfl, (qd BK110.out 1).trans rfl, (qd BK110.out 2).trans rfl, (qd BK110.out 3).trans rfl, ((HB.out.cell (World.block_lt_of_cell? w _ hw111_0)).trans hw111_0), ((HB.out.cell (World.block_lt_of_cell? w _ hw111_1)).trans hw111_1), ((HB.out.cell (World.block_lt_of_cell? w _ hw111_2)).trans hw111_2), ((HB.out.cell (World.block_lt_of_cell? w _ hw111_3)).trans hw111_3), ((HB.out.cell (World.block_lt_of_cell? w _ hw111_4)).trans hw111_4)⟩ (fun hHeld => ?_)
         clear hK K
         refine norm_ (a' := ?_) ?_ ?_
         rotate_left
         ·show Act.put _ (some 28) _ = _
          simp only [Act.put, sq1, sq2, sq3, i64_w, i32_w]
          rfl
         refine pure_ (i := 6) (N := some 22) (v := ?_) (a' := ?_) bq29 rfl rfl (qf1 HT_.out (by kernel_rfl)) (fun _ _ _ h => h) (Or.inl ⟨by rfl, ?_⟩) ?_ ?_
         rotate_left
         ·intro w'
          go_simp
          with_reducible rfl
         rotate_left
         ·simp only [Act.put, sq1, sq2, sq3, i64_w, i32_w]
          rfl
         refine pure_ (i := 7) (N := some 29) (v := ?_) (a' := ?_) bq34 rfl rfl (qf1 HT_.out (by kernel_rfl)) (fun _ _ _ h => h) (Or.inl ⟨by rfl, ?_⟩) ?_ ?_
         rotate_left
         ·intro w'
          go_simp
          with_reducible rfl
         rotate_left
         ·simp only [Act.put, sq1, sq2, sq3, i64_w, i32_w]
          rfl
         refine pure_ (i := 8) (N := some 30) (v := ?_) (a' := ?_) bq38 rfl rfl (qf1 HT_.out (by kernel_rfl)) (fun _ _ _ h => h) (Or.inl ⟨by rfl, ?_⟩) ?_ ?_
         rotate_left
         ·intro w'
          go_simp
          with_reducible rfl
         rotate_left
         ·simp only [Act.put, sq1, sq2, sq3, i64_w, i32_w]
          rfl
         refine one_ (i := 9) (N := some 8) bq41 rfl rfl (one_of HT_.out (by kernel_rfl)) (by decide) (fun K hK => ?_)
         refine box_step ?hg (N := 8) ?hd (cs := #[.slice none 0 0, .int .i64 0, .int .i64 0, .int .i64 0]) (t := 32) ?hr ?_; (case hd => rfl); (case hg => rfl); (case hr => exact yq111)
         intro gb119 hg w42 hbox hb
         replace HO_111000 := Qz.mk (Kd.R_below yq95 hb)
         replace HO114 := Qz.mk (Kd.R_below (by (with_reducible repeat (first | apply Kd.R_alloc | apply Kd.R_drewN | apply Kd.R_drew)); exact HO114.out) hb)
         have BK119 := Qz.mk (hbox)
         have GW119 := Qz.mk ((by rw [hg]; exact (qz yq92) : w.heap.size ≤ gb119))
         have GE119 := GW119
         replace HB := Qz.mk (qq yq92 hb)
         have NB101_119 := Qz.mk ((yq97 : gb101 ≠ gb119))
         have NB119_101 := Qz.mk ((yq98 : gb119 ≠ gb101))
         replace BK101 := bkbf29 BK101 yq90 hb
         have NB102_119 := Qz.mk ((yq104 : gb102 ≠ gb119))
         have NB119_102 := Qz.mk ((yq105 : gb119 ≠ gb102))
         replace BK102 := bkbf29 BK102 yq91 hb
         have NB110_119 := Qz.mk ((by rw [hg]; exact Nat.ne_of_lt (qv (g := gb110) (o := .cells #[.slice Ao39 x111000_1.length co39, .int .i64 x111001_1, .int .i64 x111002_1, .int .i64 x111003_1] 32 (0, 0)) yq93) : gb110 ≠ gb119))
         have NB119_110 := Qz.mk ((by rw [hg]; exact Nat.ne_of_gt (qv (g := gb110) (o := .cells #[.slice Ao39 x111000_1.length co39, .int .i64 x111001_1, .int .i64 x111002_1, .int .i64 x111003_1] 32 (0, 0)) yq93) : gb119 ≠ gb110))
         replace BK110 := bkbf29 BK110 yq93 hb
         clear hb hbox hg
         refine hK.out _ _ ⟨(qd BK110.out 0).trans rfl, (qd BK110.out 1).trans rfl, (qd BK110.out 2).trans rfl, (qd BK110.out 3).trans rfl, ((HB.out.cell (World.block_lt_of_cell? w _ hw111_0)).trans hw111_0), ((HB.out.cell (World.block_lt_of_cell? w _ hw111_1)).trans hw111_1), ((HB.out.cell (World.block_lt_of_cell? w _ hw111_2)).trans hw111_2), ((HB.out.cell (World.block_lt_of_cell? w _ hw111_3)).trans hw111_3), ((HB.out.cell (World.block_lt_of_cell? w _ hw111_4)).trans hw111_4)⟩ (fun hHeld => ?_)
         clear hK K
         refine norm_ (a' := ?_) ?_ ?_
         rotate_left
         ·show Act.put _ (some 8) _ = _
          simp only [Act.put, sq1, sq2, sq3, i64_w, i32_w]
          rfl
         exact norm_ (by simp only [putAll, Act.put, sq1, sq2, sq3]) (hCont (v113, gb119) _ ⟨hHeld, yq107, yq106, yq90, yq91, yq93, yq103, GW119.out, GE119.out, NB101_119.out, NB119_101.out, NB102_119.out, NB119_102.out, NB110_119.out, NB119_110.out, yq94⟩)
        ·skip
         refine box_step ?hg (N := 8) ?hd (cs := #[.slice none 0 0, .int .i64 0, .int .i64 0, .int .i64 0]) (t := 32) ?hr ?_; (case hd => rfl); (case hg => rfl); (case hr => exact yq111)
         intro gb119 hg w41 hbox hb
         replace HO_111000 := Qz.mk (Kd.R_below yq95 hb)
         have BK119 := Qz.mk (hbox)
         have GW119 := Qz.mk ((by rw [hg]; exact (qz yq92) : w.heap.size ≤ gb119))
         have GE119 := GW119
         replace HB := Qz.mk (qq yq92 hb)
         have NB101_119 := Qz.mk ((yq97 : gb101 ≠ gb119))
         have NB119_101 := Qz.mk ((yq98 : gb119 ≠ gb101))
         replace BK101 := bkbf29 BK101 yq90 hb
         have NB102_119 := Qz.mk ((yq104 : gb102 ≠ gb119))
         have NB119_102 := Qz.mk ((yq105 : gb119 ≠ gb102))
         replace BK102 := bkbf29 BK102 yq91 hb
         have NB110_119 := Qz.mk ((by rw [hg]; exact Nat.ne_of_lt (qv (g := gb110) (o := .cells #[.slice Ao39 x111000_1.length co39, .int .i64 x111001_1, .int .i64 x111002_1, .int .i64 x111003_1] 32 (0, 0)) yq93) : gb110 ≠ gb119))
         have NB119_110 := Qz.mk ((by rw [hg]; exact Nat.ne_of_gt (qv (g := gb110) (o := .cells #[.slice Ao39 x111000_1.length co39, .int .i64 x111001_1, .int .i64 x111002_1, .int .i64 x111003_1] 32 (0, 0)) yq93) : gb119 ≠ gb110))
         replace BK110 := bkbf29 BK110 yq93 hb
         clear hb hbox hg
         refine hK.out _ _ ⟨(qd BK110.out 0).trans rfl, (qd BK110.out 1).trans rfl, (qd BK110.out 2).trans rfl, (qd BK110.out 3).trans rfl, ((HB.out.cell (World.block_lt_of_cell? w _ hw111_0)).trans hw111_0), ((HB.out.cell (World.block_lt_of_cell? w _ hw111_1)).trans hw111_1), ((HB.out.cell (World.block_lt_of_cell? w _ hw111_2)).trans hw111_2), ((HB.out.cell (World.block_lt_of_cell? w _ hw111_3)).trans hw111_3), ((HB.out.cell (World.block_lt_of_cell? w _ hw111_4)).trans hw111_4)⟩ (fun hHeld => ?_)
         clear hK K
         refine norm_ (a' := ?_) ?_ ?_
         rotate_left
         ·show Act.put _ (some 8) _ = _
          simp only [Act.put, sq1, sq2, sq3, i64_w, i32_w]
          rfl
         refine one_ (i := 5) (N := some 28) bq26 rfl rfl (one_of HT_.out (by kernel_rfl)) (by decide) (fun K hK => ?_)
         refine goes_ Try.func17 (by kernel_rfl) rfl #[.agg #[.slice Ao39 x111000_1.length co39, .int .i64 x111001_1, .int .i64 x111002_1, .int .i64 x111003_1], .agg #[.slice A111_0 ((qw l1 x7_1).f0).length c111_0, .slice A111_1 ((qw l1 x7_1).f1).length c111_1, .int .i64 ((qw l1 x7_1).f2), .int .i64 ((qw l1 x7_1).f3), .int .i64 ((qw l1 x7_1).f4)]] (by rfl) rfl rfl yq96 ?_
         with_reducible refine (spec_Apply.calls k1 _ _ x111000_1 x111001_1 x111002_1 x111003_1 _ _ ((qw l1 x7_1).f0) _ _ ((qw l1 x7_1).f1) ((qw l1 x7_1).f2) ((qw l1 x7_1).f3) ((qw l1 x7_1).f4) t112 t115 t116 t117 false _ ?side1 ?side2 ?side3 ?side4 ?side5 ?side6 A20.out).mono ?_
         (case side1 => exact yq100)
         (case side2 => exact (Kd.R_reads' HO_111000.out).2.1)
         (case side3 => exact yq102)
         (case side4 => exact HC111_0.out)
         (case side5 => exact yq101)
         (case side6 => exact HC111_1.out)
         rintro e w42 ⟨v113, rfl, ho0, hb⟩
         refine ⟨_, rfl, ?_⟩
         have HO114 := Qz.mk (Kd.R_lower (Kd.R_new' ho0 (Kd.R_lt yq95)) (qz yq94))
         replace HO_111000 := Qz.mk (Kd.R_elder' yq95 (Kd.R_base ho0) hb)
         replace BK101 := bkbf29 BK101 yq90 hb
         replace BK102 := bkbf29 BK102 yq91 hb
         replace BK110 := bkbf29 BK110 yq93 hb
         replace BK119 := bkbf29 BK119 yq103 hb
         replace HB := Qz.mk (qq yq94 hb)
         (try clear hb)
         (try clear hk)
         (try clear ho0)
         refine hK.out _ _ ⟨(qd BK110.out 0).trans rfl, (qd BK110.out 1).trans rfl, (qd BK110.out 2).trans rfl, (qd BK110.out 3).trans rfl, ((HB.out.cell (World.block_lt_of_cell? w _ hw111_0)).trans hw111_0), ((HB.out.cell (World.block_lt_of_cell? w _ hw111_1)).trans hw111_1), ((HB.out.cell (World.block_lt_of_cell? w _ hw111_2)).trans hw111_2), ((HB.out.cell (World.block_lt_of_cell? w _ hw111_3)).trans hw111_3), ((HB.out.cell (World.block_lt_of_cell? w _ hw111_4)).trans hw111_4)⟩ (fun hHeld => ?_)
         clear hK K
         refine norm_ (a' := ?_) ?_ ?_
         rotate_left
         ·show Act.put _ (some 28) _ = _
          simp only [Act.put, sq1, sq2, sq3, i64_w, i32_w]
          rfl
         refine pure_ (i := 6) (N := some 22) (v := ?_) (a' := ?_) bq31 rfl rfl (qf1 HT_.out (by kernel_rfl)) (fun _ _ _ h => h) (Or.inl ⟨by rfl, ?_⟩) ?_ ?_
         rotate_left
         ·intro w'
          go_simp
          with_reducible rfl
         rotate_left
         ·simp only [Act.put, sq1, sq2, sq3, i64_w, i32_w]
          rfl
         refine pure_ (i := 7) (N := some 29) (v := ?_) (a' := ?_) bq37 rfl rfl (qf1 HT_.out (by kernel_rfl)) (fun _ _ _ h => h) (Or.inl ⟨by rfl, ?_⟩) ?_ ?_
         rotate_left
         ·intro w'
          go_simp
          with_reducible rfl
         rotate_left
         ·simp only [Act.put, sq1, sq2, sq3, i64_w, i32_w]
          rfl
         refine pure_ (i := 8) (N := some 30) (v := ?_) (a' := ?_) bq41 rfl rfl (qf1 HT_.out (by kernel_rfl)) (fun _ _ _ h => h) (Or.inl ⟨by rfl, ?_⟩) ?_ ?_
         rotate_left
         ·intro w'
          go_simp
          with_reducible rfl
         rotate_left
         ·simp only [Act.put, sq1, sq2, sq3, i64_w, i32_w]
          rfl
         exact norm_ (by simp only [putAll, Act.put, sq1, sq2, sq3]) (hCont (v113, gb119) _ ⟨hHeld, yq107, yq106, yq90, yq91, yq93, yq103, GW119.out, GE119.out, NB101_119.out, NB119_101.out, NB102_119.out, NB119_102.out, NB110_119.out, NB119_110.out, yq94⟩)
       rintro ⟨v113, gb119⟩ w43 ⟨hS_, h0_, h1_, h2_, h3_, h4_, h5_, h6_, h7_, h8_, h9_, h10_, h11_, h12_, h13_, h14_⟩
       have n0_ : Qz (Kd.R k66 66 w43 w.heap.size (fun k_ => some k_ ≠ (.slice Ao39 x111000_1.length co39 : Value).ownBlock) v113 t112) := ⟨h0_⟩
       have n1_ : Qz (Kd.R k66 66 w43 w.heap.size (fun k_ => some k_ ≠ (v113 : Value).ownBlock) (.slice Ao39 x111000_1.length co39) x111000_1) := ⟨h1_⟩
       have n2_ : Qz (w43.heap[gb101]? = some (.cells #[.slice A0_0 l0_0.length c0_0, .int .i64 a0_1, .int .i64 a0_2, .int .i64 a0_3] 32 (0, 0))) := ⟨h2_⟩
       have n3_ : Qz (w43.heap[gb102]? = some (.cells #[.slice none 0 0, .int .i64 x103001_1, .int .i64 x103002_1, .int .i64 x103003_1] 32 (0, 0))) := ⟨h3_⟩
       have n4_ : Qz (w43.heap[gb110]? = some (.cells #[.slice Ao39 x111000_1.length co39, .int .i64 x111001_1, .int .i64 x111002_1, .int .i64 x111003_1] 32 (0, 0))) := ⟨h4_⟩
       have n5_ : Qz (w43.heap[gb119]? = some (.cells #[.slice none 0 0, .int .i64 0, .int .i64 0, .int .i64 0] 32 (0, 0))) := ⟨h5_⟩
       have n6_ : Qz (w.heap.size ≤ gb119) := ⟨h6_⟩
       have n7_ : Qz (w.heap.size ≤ gb119) := ⟨h7_⟩
       have n8_ : Qz (gb101 ≠ gb119) := ⟨h8_⟩
       have n9_ : Qz (gb119 ≠ gb101) := ⟨h9_⟩
       have n10_ : Qz (gb102 ≠ gb119) := ⟨h10_⟩
       have n11_ : Qz (gb119 ≠ gb102) := ⟨h11_⟩
       have n12_ : Qz (gb110 ≠ gb119) := ⟨h12_⟩
       have n13_ : Qz (gb119 ≠ gb110) := ⟨h13_⟩
       have n14_ : Qz (Below w.heap.size w w43) := ⟨h14_⟩
       clear HO_111000
       clear BK101
       clear BK102
       clear BK110
       clear HB
       clear h0_ h1_ h2_ h3_ h4_ h5_ h6_ h7_ h8_ h9_ h10_ h11_ h12_ h13_ h14_
       have HO114 := n0_
       have HO_111000 := n1_
       have BK101 := n2_
       have BK102 := n3_
       have BK110 := n4_
       have BK119 := n5_
       have GW119 := n6_
       have GE119 := n7_
       have NB101_119 := n8_
       have NB119_101 := n9_
       have NB102_119 := n10_
       have NB119_102 := n11_
       have NB110_119 := n12_
       have NB119_110 := n13_
       have HB := n14_
       clear n0_ n1_ n2_ n3_ n4_ n5_ n6_ n7_ n8_ n9_ n10_ n11_ n12_ n13_ n14_
       have hHeld : w43.cell? ⟨gb110, 0, none⟩ = some (.slice Ao39 x111000_1.length co39) ∧ w43.cell? ⟨gb110, 1, none⟩ = some (.int .i64 x111001_1) ∧ w43.cell? ⟨gb110, 2, none⟩ = some (.int .i64 x111002_1) ∧ w43.cell? ⟨gb110, 3, none⟩ = some (.int .i64 x111003_1) ∧ w43.cell? (ad111.add ((x7_1).toNat * 5)) = some (.slice A111_0 ((qw l1 x7_1).f0).length c111_0) ∧ w43.cell? ⟨(ad111.add ((x7_1).toNat * 5)).block, (ad111.add ((x7_1).toNat * 5)).off + 1, none⟩ = some (.slice A111_1 ((qw l1 x7_1).f1).length c111_1) ∧ w43.cell? ⟨(ad111.add ((x7_1).toNat * 5)).block, (ad111.add ((x7_1).toNat * 5)).off + 2, none⟩ = some (.int .i64 ((qw l1 x7_1).f2)) ∧ w43.cell? ⟨(ad111.add ((x7_1).toNat * 5)).block, (ad111.add ((x7_1).toNat * 5)).off + 3, none⟩ = some (.int .i64 ((qw l1 x7_1).f3)) ∧ w43.cell? ⟨(ad111.add ((x7_1).toNat * 5)).block, (ad111.add ((x7_1).toNat * 5)).off + 4, none⟩ = some (.int .i64 ((qw l1 x7_1).f4)) := hS_
       obtain ⟨Ao44, co44, eo44⟩ := Kd.R_slice HO114.out
       (first | subst eo44 | (injection eo44 with f1_ f2_ f3_; have f4_ := f1_.symm; have f5_ := f3_.symm; clear f1_ f2_ f3_; subst f4_; subst f5_))
       refine norm_ (a' := ?_) ?_ ?_
       rotate_left
       ·simp only [putAll, Act.put, sq1, sq2, sq3]
        rfl
       refine one_ (i := 10) (N := none) bq43 rfl rfl (one_of HT_.out (by kernel_rfl)) (by decide) (fun K hK => ?_)
       have hs45 : w43.cell? ⟨gb119, 0, none⟩ = some (.slice none 0 0) := (qd BK119.out 0).trans rfl
       have hfs45 := qf BK119.out 0
       have hns45_0 := NB101_119.out
       have hns45_1 := NB102_119.out
       have hns45_2 := NB110_119.out
       have hms45_0 := NB119_101.out
       have hms45_1 := NB119_102.out
       have hms45_2 := NB119_110.out
       have hs46 : w43.cell? ⟨gb119, 1, none⟩ = some (.int .i64 0) := (qd BK119.out 1).trans rfl
       have hfs46 := qf BK119.out 1
       have hns46_0 := NB101_119.out
       have hns46_1 := NB102_119.out
       have hns46_2 := NB110_119.out
       have hms46_0 := NB119_101.out
       have hms46_1 := NB119_102.out
       have hms46_2 := NB119_110.out
       have hs47 : w43.cell? ⟨gb119, 2, none⟩ = some (.int .i64 0) := (qd BK119.out 2).trans rfl
       have hfs47 := qf BK119.out 2
       have hns47_0 := NB101_119.out
       have hns47_1 := NB102_119.out
       have hns47_2 := NB110_119.out
       have hms47_0 := NB119_101.out
       have hms47_1 := NB119_102.out
       have hms47_2 := NB119_110.out
       have hs48 : w43.cell? ⟨gb119, 3, none⟩ = some (.int .i64 0) := (qd BK119.out 3).trans rfl
       have hfs48 := qf BK119.out 3
       have hns48_0 := NB101_119.out
       have hns48_1 := NB102_119.out
       have hns48_2 := NB110_119.out
       have hms48_0 := NB119_101.out
       have hms48_1 := NB119_102.out
       have hms48_2 := NB119_110.out
       refine skip_ (w1 := ?_) (by rfl) rfl ?_ ?_
       rotate_left
       ·go_simp
        rfl
       refine hK.out _ _ ⟨((qr (p := ⟨gb119, _, none⟩) NB110_119.out _).trans (((qr (p := ⟨gb119, _, none⟩) NB110_119.out _).trans (((qr (p := ⟨gb119, _, none⟩) NB110_119.out _).trans (((qr (p := ⟨gb119, _, none⟩) NB110_119.out _).trans (hHeld.1)))))))), ((qr (p := ⟨gb119, _, none⟩) NB110_119.out _).trans (((qr (p := ⟨gb119, _, none⟩) NB110_119.out _).trans (((qr (p := ⟨gb119, _, none⟩) NB110_119.out _).trans (((qr (p := ⟨gb119, _, none⟩) NB110_119.out _).trans (hHeld.2.1)))))))), ((qr (p := ⟨gb119, _, none⟩) NB110_119.out _).trans (((qr (p := ⟨gb119, _, none⟩) NB110_119.out _).trans (((qr (p := ⟨gb119, _, none⟩) NB110_119.out _).trans (((qr (p := ⟨gb119, _, none⟩) NB110_119.out _).trans (hHeld.2.2.1)))))))), ((qr (p := ⟨gb119, _, none⟩) NB110_119.out _).trans (((qr (p := ⟨gb119, _, none⟩) NB110_119.out _).trans (((qr (p := ⟨gb119, _, none⟩) NB110_119.out _).trans (((qr (p := ⟨gb119, _, none⟩) NB110_119.out _).trans (hHeld.2.2.2.1)))))))), ((qr (p := ⟨gb119, _, none⟩) (by first | exact Nat.ne_of_lt (Nat.lt_of_lt_of_le (by have := World.block_lt_of_cell? _ _ hw111_0; first | rwa [qk] at this | exact this) GW119.out) | (rw [qk]; exact Nat.ne_of_lt (Nat.lt_of_lt_of_le (by have := World.block_lt_of_cell? _ _ hw111_0; first | rwa [qk] at this | exact this) GW119.out)) | (show (Addr.add _ _).block ≠ _; rw [qk]; exact Nat.ne_of_lt (Nat.lt_of_lt_of_le (by have := World.block_lt_of_cell? _ _ hw111_0; first | rwa [qk] at this | exact this) GW119.out)) | (dsimp only; exact Nat.ne_of_lt (Nat.lt_of_lt_of_le (by have := World.block_lt_of_cell? _ _ hw111_0; first | rwa [qk] at this | exact this) GW119.out))) _).trans (((qr (p := ⟨gb119, _, none⟩) (by first | exact Nat.ne_of_lt (Nat.lt_of_lt_of_le (by have := World.block_lt_of_cell? _ _ hw111_0; first | rwa [qk] at this | exact this) GW119.out) | (rw [qk]; exact Nat.ne_of_lt (Nat.lt_of_lt_of_le (by have := World.block_lt_of_cell? _ _ hw111_0; first | rwa [qk] at this | exact this) GW119.out)) | (show (Addr.add _ _).block ≠ _; rw [qk]; exact Nat.ne_of_lt (Nat.lt_of_lt_of_le (by have := World.block_lt_of_cell? _ _ hw111_0; first | rwa [qk] at this | exact this) GW119.out)) | (dsimp only; exact Nat.ne_of_lt (Nat.lt_of_lt_of_le (by have := World.block_lt_of_cell? _ _ hw111_0; first | rwa [qk] at this | exact this) GW119.out))) _).trans (((qr (p := ⟨gb119, _, none⟩) (by first | exact Nat.ne_of_lt (Nat.lt_of_lt_of_le (by have := World.block_lt_of_cell? _ _ hw111_0; first | rwa [qk] at this | exact this) GW119.out) | (rw [qk]; exact Nat.ne_of_lt (Nat.lt_of_lt_of_le (by have := World.block_lt_of_cell? _ _ hw111_0; first | rwa [qk] at this | exact this) GW119.out)) | (show (Addr.add _ _).block ≠ _; rw [qk]; exact Nat.ne_of_lt (Nat.lt_of_lt_of_le (by have := World.block_lt_of_cell? _ _ hw111_0; first | rwa [qk] at this | exact this) GW119.out)) | (dsimp only; exact Nat.ne_of_lt (Nat.lt_of_lt_of_le (by have := World.block_lt_of_cell? _ _ hw111_0; first | rwa [qk] at this | exact this) GW119.out))) _).trans (((qr (p := ⟨gb119, _, none⟩) (by first | exact Nat.ne_of_lt (Nat.lt_of_lt_of_le (by have := World.block_lt_of_cell? _ _ hw111_0; first | rwa [qk] at this | exact this) GW119.out) | (rw [qk]; exact Nat.ne_of_lt (Nat.lt_of_lt_of_le (by have := World.block_lt_of_cell? _ _ hw111_0; first | rwa [qk] at this | exact this) GW119.out)) | (show (Addr.add _ _).block ≠ _; rw [qk]; exact Nat.ne_of_lt (Nat.lt_of_lt_of_le (by have := World.block_lt_of_cell? _ _ hw111_0; first | rwa [qk] at this | exact this) GW119.out)) | (dsimp only; exact Nat.ne_of_lt (Nat.lt_of_lt_of_le (by have := World.block_lt_of_cell? _ _ hw111_0; first | rwa [qk] at this | exact this) GW119.out))) _).trans (hHeld.2.2.2.2.1)))))))), ((qr (p := ⟨gb119, _, none⟩) (by first | exact Nat.ne_of_lt (Nat.lt_of_lt_of_le (by have := World.block_lt_of_cell? _ _ hw111_1; first | rwa [qk] at this | exact this) GW119.out) | (rw [qk]; exact Nat.ne_of_lt (Nat.lt_of_lt_of_le (by have := World.block_lt_of_cell? _ _ hw111_1; first | rwa [qk] at this | exact this) GW119.out)) | (show (Addr.add _ _).block ≠ _; rw [qk]; exact Nat.ne_of_lt (Nat.lt_of_lt_of_le (by have := World.block_lt_of_cell? _ _ hw111_1; first | rwa [qk] at this | exact this) GW119.out)) | (dsimp only; exact Nat.ne_of_lt (Nat.lt_of_lt_of_le (by have := World.block_lt_of_cell? _ _ hw111_1; first | rwa [qk] at this | exact this) GW119.out))) _).trans (((qr (p := ⟨gb119, _, none⟩) (by first | exact Nat.ne_of_lt (Nat.lt_of_lt_of_le (by have := World.block_lt_of_cell? _ _ hw111_1; first | rwa [qk] at this | exact this) GW119.out) | (rw [qk]; exact Nat.ne_of_lt (Nat.lt_of_lt_of_le (by have := World.block_lt_of_cell? _ _ hw111_1; first | rwa [qk] at this | exact this) GW119.out)) | (show (Addr.add _ _).block ≠ _; rw [qk]; exact Nat.ne_of_lt (Nat.lt_of_lt_of_le (by have := World.block_lt_of_cell? _ _ hw111_1; first | rwa [qk] at this | exact this) GW119.out)) | (dsimp only; exact Nat.ne_of_lt (Nat.lt_of_lt_of_le (by have := World.block_lt_of_cell? _ _ hw111_1; first | rwa [qk] at this | exact this) GW119.out))) _).trans (((qr (p := ⟨gb119, _, none⟩) (by first | exact Nat.ne_of_lt (Nat.lt_of_lt_of_le (by have := World.block_lt_of_cell? _ _ hw111_1; first | rwa [qk] at this | exact this) GW119.out) | (rw [qk]; exact Nat.ne_of_lt (Nat.lt_of_lt_of_le (by have := World.block_lt_of_cell? _ _ hw111_1; first | rwa [qk] at this | exact this) GW119.out)) | (show (Addr.add _ _).block ≠ _; rw [qk]; exact Nat.ne_of_lt (Nat.lt_of_lt_of_le (by have := World.block_lt_of_cell? _ _ hw111_1; first | rwa [qk] at this | exact this) GW119.out)) | (dsimp only; exact Nat.ne_of_lt (Nat.lt_of_lt_of_le (by have := World.block_lt_of_cell? _ _ hw111_1; first | rwa [qk] at this | exact this) GW119.out))) _).trans (((qr (p := ⟨gb119, _, none⟩) (by first | exact Nat.ne_of_lt (Nat.lt_of_lt_of_le (by have := World.block_lt_of_cell? _ _ hw111_1; first | rwa [qk] at this | exact this) GW119.out) | (rw [qk]; exact Nat.ne_of_lt (Nat.lt_of_lt_of_le (by have := World.block_lt_of_cell? _ _ hw111_1; first | rwa [qk] at this | exact this) GW119.out)) | (show (Addr.add _ _).block ≠ _; rw [qk]; exact Nat.ne_of_lt (Nat.lt_of_lt_of_le (by have := World.block_lt_of_cell? _ _ hw111_1; first | rwa [qk] at this | exact this) GW119.out)) | (dsimp only; exact Nat.ne_of_lt (Nat.lt_of_lt_of_le (by have := World.block_lt_of_cell? _ _ hw111_1; first | rwa [qk] at this | exact this) GW119.out))) _).trans (hHeld.2.2.2.2.2.1)))))))), ((qr (p := ⟨gb119, _, none⟩) (by first | exact Nat.ne_of_lt (Nat.lt_of_lt_of_le (by have := World.block_lt_of_cell? _ _ hw111_2; first | rwa [qk] at this | exact this) GW119.out) | (rw [qk]; exact Nat.ne_of_lt (Nat.lt_of_lt_of_le (by have := World.block_lt_of_cell? _ _ hw111_2; first | rwa [qk] at this | exact this) GW119.out)) | (show (Addr.add _ _).block ≠ _; rw [qk]; exact Nat.ne_of_lt (Nat.lt_of_lt_of_le (by have := World.block_lt_of_cell? _ _ hw111_2; first | rwa [qk] at this | exact this) GW119.out)) | (dsimp only; exact Nat.ne_of_lt (Nat.lt_of_lt_of_le (by have := World.block_lt_of_cell? _ _ hw111_2; first | rwa [qk] at this | exact this) GW119.out))) _).trans (((qr (p := ⟨gb119, _, none⟩) (by first | exact Nat.ne_of_lt (Nat.lt_of_lt_of_le (by have := World.block_lt_of_cell? _ _ hw111_2; first | rwa [qk] at this | exact this) GW119.out) | (rw [qk]; exact Nat.ne_of_lt (Nat.lt_of_lt_of_le (by have := World.block_lt_of_cell? _ _ hw111_2; first | rwa [qk] at this | exact this) GW119.out)) | (show (Addr.add _ _).block ≠ _; rw [qk]; exact Nat.ne_of_lt (Nat.lt_of_lt_of_le (by have := World.block_lt_of_cell? _ _ hw111_2; first | rwa [qk] at this | exact this) GW119.out)) | (dsimp only; exact Nat.ne_of_lt (Nat.lt_of_lt_of_le (by have := World.block_lt_of_cell? _ _ hw111_2; first | rwa [qk] at this | exact this) GW119.out))) _).trans (((qr (p := ⟨gb119, _, none⟩) (by first | exact Nat.ne_of_lt (Nat.lt_of_lt_of_le (by have := World.block_lt_of_cell? _ _ hw111_2; first | rwa [qk] at this | exact this) GW119.out) | (rw [qk]; exact Nat.ne_of_lt (Nat.lt_of_lt_of_le (by have := World.block_lt_of_cell? _ _ hw111_2; first | rwa [qk] at this | exact this) GW119.out)) | (show (Addr.add _ _).block ≠ _; rw [qk]; exact Nat.ne_of_lt (Nat.lt_of_lt_of_le (by have := World.block_lt_of_cell? _ _ hw111_2; first | rwa [qk] at this | exact this) GW119.out)) | (dsimp only; exact Nat.ne_of_lt (Nat.lt_of_lt_of_le (by have := World.block_lt_of_cell? _ _ hw111_2; first | rwa [qk] at this | exact this) GW119.out))) _).trans (((qr (p := ⟨gb119, _, none⟩) (by first | exact Nat.ne_of_lt (Nat.lt_of_lt_of_le (by have := World.block_lt_of_cell? _ _ hw111_2; first | rwa [qk] at this | exact this) GW119.out) | (rw [qk]; exact Nat.ne_of_lt (Nat.lt_of_lt_of_le (by have := World.block_lt_of_cell? _ _ hw111_2; first | rwa [qk] at this | exact this) GW119.out)) | (show (Addr.add _ _).block ≠ _; rw [qk]; exact Nat.ne_of_lt (Nat.lt_of_lt_of_le (by have := World.block_lt_of_cell? _ _ hw111_2; first | rwa [qk] at this | exact this) GW119.out)) | (dsimp only; exact Nat.ne_of_lt (Nat.lt_of_lt_of_le (by have := World.block_lt_of_cell? _ _ hw111_2; first | rwa [qk] at this | exact this) GW119.out))) _).trans (hHeld.2.2.2.2.2.2.1)))))))), ((qr (p := ⟨gb119, _, none⟩) (by first | exact Nat.ne_of_lt (Nat.lt_of_lt_of_le (by have := World.block_lt_of_cell? _ _ hw111_3; first | rwa [qk] at this | exact this) GW119.out) | (rw [qk]; exact Nat.ne_of_lt (Nat.lt_of_lt_of_le (by have := World.block_lt_of_cell? _ _ hw111_3; first | rwa [qk] at this | exact this) GW119.out)) | (show (Addr.add _ _).block ≠ _; rw [qk]; exact Nat.ne_of_lt (Nat.lt_of_lt_of_le (by have := World.block_lt_of_cell? _ _ hw111_3; first | rwa [qk] at this | exact this) GW119.out)) | (dsimp only; exact Nat.ne_of_lt (Nat.lt_of_lt_of_le (by have := World.block_lt_of_cell? _ _ hw111_3; first | rwa [qk] at this | exact this) GW119.out))) _).trans (((qr (p := ⟨gb119, _, none⟩) (by first | exact Nat.ne_of_lt (Nat.lt_of_lt_of_le (by have := World.block_lt_of_cell? _ _ hw111_3; first | rwa [qk] at this | exact this) GW119.out) | (rw [qk]; exact Nat.ne_of_lt (Nat.lt_of_lt_of_le (by have := World.block_lt_of_cell? _ _ hw111_3; first | rwa [qk] at this | exact this) GW119.out)) | (show (Addr.add _ _).block ≠ _; rw [qk]; exact Nat.ne_of_lt (Nat.lt_of_lt_of_le (by have := World.block_lt_of_cell? _ _ hw111_3; first | rwa [qk] at this | exact this) GW119.out)) | (dsimp only; exact Nat.ne_of_lt (Nat.lt_of_lt_of_le (by have := World.block_lt_of_cell? _ _ hw111_3; first | rwa [qk] at this | exact this) GW119.out))) _).trans (((qr (p := ⟨gb119, _, none⟩) (by first | exact Nat.ne_of_lt (Nat.lt_of_lt_of_le (by have := World.block_lt_of_cell? _ _ hw111_3; first | rwa [qk] at this | exact this) GW119.out) | (rw [qk]; exact Nat.ne_of_lt (Nat.lt_of_lt_of_le (by have := World.block_lt_of_cell? _ _ hw111_3; first | rwa [qk] at this | exact this) GW119.out)) | (show (Addr.add _ _).block ≠ _; rw [qk]; exact Nat.ne_of_lt (Nat.lt_of_lt_of_le (by have := World.block_lt_of_cell? _ _ hw111_3; first | rwa [qk] at this | exact this) GW119.out)) | (dsimp only; exact Nat.ne_of_lt (Nat.lt_of_lt_of_le (by have := World.block_lt_of_cell? _ _ hw111_3; first | rwa [qk] at this | exact this) GW119.out))) _).trans (((qr (p := ⟨gb119, _, none⟩) (by first | exact Nat.ne_of_lt (Nat.lt_of_lt_of_le (by have := World.block_lt_of_cell? _ _ hw111_3; first | rwa [qk] at this | exact this) GW119.out) | (rw [qk]; exact Nat.ne_of_lt (Nat.lt_of_lt_of_le (by have := World.block_lt_of_cell? _ _ hw111_3; first | rwa [qk] at this | exact this) GW119.out)) | (show (Addr.add _ _).block ≠ _; rw [qk]; exact Nat.ne_of_lt (Nat.lt_of_lt_of_le (by have := World.block_lt_of_cell? _ _ hw111_3; first | rwa [qk] at this | exact this) GW119.out)) | (dsimp only; exact Nat.ne_of_lt (Nat.lt_of_lt_of_le (by have := World.block_lt_of_cell? _ _ hw111_3; first | rwa [qk] at this | exact this) GW119.out))) _).trans (hHeld.2.2.2.2.2.2.2.1)))))))), ((qr (p := ⟨gb119, _, none⟩) (by first | exact Nat.ne_of_lt (Nat.lt_of_lt_of_le (by have := World.block_lt_of_cell? _ _ hw111_4; first | rwa [qk] at this | exact this) GW119.out) | (rw [qk]; exact Nat.ne_of_lt (Nat.lt_of_lt_of_le (by have := World.block_lt_of_cell? _ _ hw111_4; first | rwa [qk] at this | exact this) GW119.out)) | (show (Addr.add _ _).block ≠ _; rw [qk]; exact Nat.ne_of_lt (Nat.lt_of_lt_of_le (by have := World.block_lt_of_cell? _ _ hw111_4; first | rwa [qk] at this | exact this) GW119.out)) | (dsimp only; exact Nat.ne_of_lt (Nat.lt_of_lt_of_le (by have := World.block_lt_of_cell? _ _ hw111_4; first | rwa [qk] at this | exact this) GW119.out))) _).trans (((qr (p := ⟨gb119, _, none⟩) (by first | exact Nat.ne_of_lt (Nat.lt_of_lt_of_le (by have := World.block_lt_of_cell? _ _ hw111_4; first | rwa [qk] at this | exact this) GW119.out) | (rw [qk]; exact Nat.ne_of_lt (Nat.lt_of_lt_of_le (by have := World.block_lt_of_cell? _ _ hw111_4; first | rwa [qk] at this | exact this) GW119.out)) | (show (Addr.add _ _).block ≠ _; rw [qk]; exact Nat.ne_of_lt (Nat.lt_of_lt_of_le (by have := World.block_lt_of_cell? _ _ hw111_4; first | rwa [qk] at this | exact this) GW119.out)) | (dsimp only; exact Nat.ne_of_lt (Nat.lt_of_lt_of_le (by have := World.block_lt_of_cell? _ _ hw111_4; first | rwa [qk] at this | exact this) GW119.out))) _).trans (((qr (p := ⟨gb119, _, none⟩) (by first | exact Nat.ne_of_lt (Nat.lt_of_lt_of_le (by have := World.block_lt_of_cell? _ _ hw111_4; first | rwa [qk] at this | exact this) GW119.out) | (rw [qk]; exact Nat.ne_of_lt (Nat.lt_of_lt_of_le (by have := World.block_lt_of_cell? _ _ hw111_4; first | rwa [qk] at this | exact this) GW119.out)) | (show (Addr.add _ _).block ≠ _; rw [qk]; exact Nat.ne_of_lt (Nat.lt_of_lt_of_le (by have := World.block_lt_of_cell? _ _ hw111_4; first | rwa [qk] at this | exact this) GW119.out)) | (dsimp only; exact Nat.ne_of_lt (Nat.lt_of_lt_of_le (by have := World.block_lt_of_cell? _ _ hw111_4; first | rwa [qk] at this | exact this) GW119.out))) _).trans (((qr (p := ⟨gb119, _, none⟩) (by first | exact Nat.ne_of_lt (Nat.lt_of_lt_of_le (by have := World.block_lt_of_cell? _ _ hw111_4; first | rwa [qk] at this | exact this) GW119.out) | (rw [qk]; exact Nat.ne_of_lt (Nat.lt_of_lt_of_le (by have := World.block_lt_of_cell? _ _ hw111_4; first | rwa [qk] at this | exact this) GW119.out)) | (show (Addr.add _ _).block ≠ _; rw [qk]; exact Nat.ne_of_lt (Nat.lt_of_lt_of_le (by have := World.block_lt_of_cell? _ _ hw111_4; first | rwa [qk] at this | exact this) GW119.out)) | (dsimp only; exact Nat.ne_of_lt (Nat.lt_of_lt_of_le (by have := World.block_lt_of_cell? _ _ hw111_4; first | rwa [qk] at this | exact this) GW119.out))) _).trans (hHeld.2.2.2.2.2.2.2.2))))))))⟩ (fun hHeld => ?_)
       clear hK K
       refine pure_ (i := 11) (N := some 9) (v := ?_) (a' := ?_) bq46 rfl rfl (qf1 HT_.out (by kernel_rfl)) (fun _ _ _ h => h) (Or.inl ⟨by rfl, ?_⟩) ?_ ?_
       rotate_left
       ·intro w'
        go_simp
        with_reducible rfl
       rotate_left
       ·simp only [Act.put, sq1, sq2, sq3, i64_w, i32_w]
        rfl
       refine done_ (done_of HT_.out (by kernel_rfl)) ?_
       have hnb49 := NB110_101.out
       have hnc49 := NB101_110.out
       have hnb50 := NB110_102.out
       have hnc50 := NB102_110.out
       have hnb51 := NB110_119.out
       have hnc51 := NB119_110.out
       have hcz52_0 := (qd BK110.out 0).trans rfl
       have hcz52_1 := (qd BK110.out 1).trans rfl
       have hcz52_2 := (qd BK110.out 2).trans rfl
       have hcz52_3 := (qd BK110.out 3).trans rfl
       have hfz52_0 := qf BK110.out 0
       have hfz52_1 := qf BK110.out 1
       have hfz52_2 := qf BK110.out 2
       have hfz52_3 := qf BK110.out 3
       have hnb53 := NB102_101.out
       have hnc53 := NB101_102.out
       have hnb54 := NB102_119.out
       have hnc54 := NB119_102.out
       have hcz55_0 := (qd BK102.out 0).trans rfl
       have hcz55_1 := (qd BK102.out 1).trans rfl
       have hcz55_2 := (qd BK102.out 2).trans rfl
       have hcz55_3 := (qd BK102.out 3).trans rfl
       have hfz55_0 := qf BK102.out 0
       have hfz55_1 := qf BK102.out 1
       have hfz55_2 := qf BK102.out 2
       have hfz55_3 := qf BK102.out 3
       try go_wp2
       refine bodyPost_ret (results_ct rfl _ _ gb102 32 #[.slice Ao39 x111000_1.length co39, .int .i64 x111001_1, .int .i64 x111002_1, .int .i64 x111003_1] (0, 0) _ rfl (by (with_reducible repeat (first | refine qb ?_ _ | refine qc ?_ | refine qa ?_ _)); refine qt (cs := #[.slice Ao39 x111000_1.length co39, .int .i64 x111001_1, .int .i64 x111002_1, .int .i64 x103003_1]) ?_ 3 _ rfl; (with_reducible repeat (first | refine qb ?_ _ | refine qc ?_ | refine qa ?_ _)); refine qt (cs := #[.slice Ao39 x111000_1.length co39, .int .i64 x111001_1, .int .i64 x103002_1, .int .i64 x103003_1]) ?_ 2 _ rfl; (with_reducible repeat (first | refine qb ?_ _ | refine qc ?_ | refine qa ?_ _)); refine qt (cs := #[.slice Ao39 x111000_1.length co39, .int .i64 x103001_1, .int .i64 x103002_1, .int .i64 x103003_1]) ?_ 1 _ rfl; (with_reducible repeat (first | refine qb ?_ _ | refine qc ?_ | refine qa ?_ _)); refine qt (cs := #[.slice none 0 0, .int .i64 x103001_1, .int .i64 x103002_1, .int .i64 x103003_1]) ?_ 0 _ rfl; (with_reducible repeat (first | refine qb ?_ _ | refine qc ?_ | refine qa ?_ _)); refine qp ?_ NB102_119.out _; (with_reducible repeat (first | refine qb ?_ _ | refine qc ?_ | refine qa ?_ _)); refine qp ?_ NB102_119.out _; (with_reducible repeat (first | refine qb ?_ _ | refine qc ?_ | refine qa ?_ _)); refine qp ?_ NB102_119.out _; (with_reducible repeat (first | refine qb ?_ _ | refine qc ?_ | refine qa ?_ _)); refine qp ?_ NB102_119.out _; (with_reducible repeat (first | refine qb ?_ _ | refine qc ?_ | refine qa ?_ _)); exact BK102.out) Try.underlying32 rfl (by kernel_rfl)) rfl ?_
       exact ⟨_, by first | rfl | (simp [qy, qx] <;> rfl) | (simp [*, qy, qx] <;> rfl), by (with_reducible repeat (first | apply Kd.R_alloc | apply Kd.R_drewN | apply Kd.R_drew)); exact Kd.R_mono (Kd.R_far (p := ⟨gb102, 3, none⟩) (Kd.R_far (p := ⟨gb102, 2, none⟩) (Kd.R_far (p := ⟨gb102, 1, none⟩) (Kd.R_far (p := ⟨gb102, 0, none⟩) (Kd.R_far (p := ⟨gb119, 3, none⟩) (Kd.R_far (p := ⟨gb119, 2, none⟩) (Kd.R_far (p := ⟨gb119, 1, none⟩) (Kd.R_far (p := ⟨gb119, 0, none⟩) (Kd.R_types (Kd.R_types HO_111000.out BK119.out (by decide)) BK102.out (by decide)) (fun _ hk => hk.1.2) (.slice Ao44 t112.length co44)) (fun _ hk => hk.1.2) (.int .i64 t115)) (fun _ hk => hk.1.2) (.int .i64 t116)) (fun _ hk => hk.1.2) (.int .i64 t117)) (fun _ hk => hk.2) (.slice Ao39 x111000_1.length co39)) (fun _ hk => hk.2) (.int .i64 x111001_1)) (fun _ hk => hk.2) (.int .i64 x111002_1)) (fun _ hk => hk.2) (.int .i64 x111003_1)) (fun _ hk => trivial), by repeat (first | (with_reducible first | exact HB.out | apply qh | apply qg | apply qi | refine qe ?_ GE101.out | refine qe ?_ GE102.out | refine qe ?_ GE110.out | refine qe ?_ GE119.out) | exact HB.out)⟩
     ·rw [if_neg c19] at H
      exact absurd H (by simp)
    ·rw [if_neg c18] at H
     have c18b0 : decide (x7_1 < (l1.length : Int)) = false := decide_eq_false c18
     clear c18
     simp only [Option.some.injEq, Prod.mk.injEq] at H
     obtain ⟨rfl, rfl, rfl, rfl, rfl⟩ := H
     have hnb56 := NB110_101.out
     have hnc56 := NB101_110.out
     have hnb57 := NB110_102.out
     have hnc57 := NB102_110.out
     have hcz58_0 := (qd BK110.out 0).trans rfl
     have hcz58_1 := (qd BK110.out 1).trans rfl
     have hcz58_2 := (qd BK110.out 2).trans rfl
     have hcz58_3 := (qd BK110.out 3).trans rfl
     have hfz58_0 := qf BK110.out 0
     have hfz58_1 := qf BK110.out 1
     have hfz58_2 := qf BK110.out 2
     have hfz58_3 := qf BK110.out 3
     obtain ⟨Ao59, co59, eo59⟩ := Kd.R_slice HO_111000.out
     subst eo59
     have hnb60 := NB102_101.out
     have hnc60 := NB101_102.out
     have hcz61_0 := (qd BK102.out 0).trans rfl
     have hcz61_1 := (qd BK102.out 1).trans rfl
     have hcz61_2 := (qd BK102.out 2).trans rfl
     have hcz61_3 := (qd BK102.out 3).trans rfl
     have hfz61_0 := qf BK102.out 0
     have hfz61_1 := qf BK102.out 1
     have hfz61_2 := qf BK102.out 2
     have hfz61_3 := qf BK102.out 3
     go_wp2
     refine bodyPost_ret (results_ct rfl _ _ gb102 32 #[.slice Ao59 x111000_1.length co59, .int .i64 x111001_1, .int .i64 x111002_1, .int .i64 x111003_1] (0, 0) _ rfl (by (with_reducible repeat (first | refine qb ?_ _ | refine qc ?_ | refine qa ?_ _)); refine qt (cs := #[.slice Ao59 x111000_1.length co59, .int .i64 x111001_1, .int .i64 x111002_1, .int .i64 x103003_1]) ?_ 3 _ rfl; (with_reducible repeat (first | refine qb ?_ _ | refine qc ?_ | refine qa ?_ _)); refine qt (cs := #[.slice Ao59 x111000_1.length co59, .int .i64 x111001_1, .int .i64 x103002_1, .int .i64 x103003_1]) ?_ 2 _ rfl; (with_reducible repeat (first | refine qb ?_ _ | refine qc ?_ | refine qa ?_ _)); refine qt (cs := #[.slice Ao59 x111000_1.length co59, .int .i64 x103001_1, .int .i64 x103002_1, .int .i64 x103003_1]) ?_ 1 _ rfl; (with_reducible repeat (first | refine qb ?_ _ | refine qc ?_ | refine qa ?_ _)); refine qt (cs := #[.slice none 0 0, .int .i64 x103001_1, .int .i64 x103002_1, .int .i64 x103003_1]) ?_ 0 _ rfl; (with_reducible repeat (first | refine qb ?_ _ | refine qc ?_ | refine qa ?_ _)); exact BK102.out) Try.underlying32 rfl (by kernel_rfl)) rfl ?_
     exact ⟨_, by first | rfl | (simp [qy, qx] <;> rfl) | (simp [*, qy, qx] <;> rfl), by (with_reducible repeat (first | apply Kd.R_alloc | apply Kd.R_drewN | apply Kd.R_drew)); exact Kd.R_mono (Kd.R_far (p := ⟨gb102, 3, none⟩) (Kd.R_far (p := ⟨gb102, 2, none⟩) (Kd.R_far (p := ⟨gb102, 1, none⟩) (Kd.R_far (p := ⟨gb102, 0, none⟩) (Kd.R_types HO_111000.out BK102.out (by decide)) (fun _ hk => hk.2) (.slice Ao59 x111000_1.length co59)) (fun _ hk => hk.2) (.int .i64 x111001_1)) (fun _ hk => hk.2) (.int .i64 x111002_1)) (fun _ hk => hk.2) (.int .i64 x111003_1)) (fun _ hk => trivial), by repeat (first | (with_reducible first | exact HB.out | apply qh | apply qg | apply qi | refine qe ?_ GE101.out | refine qe ?_ GE102.out | refine qe ?_ GE110.out) | exact HB.out)⟩
 ·replace c4 := Bool.eq_false_iff.mpr c4
  subst c4
  have H1 : (some (([] : List (S66)), 0, 0, 0, (-1))) = some (r1, r2, r3, r4, r5) := by rw [if_neg (show ¬ (false = true) by decide)] at H; exact H
  clear H
  have H := H1
  clear H1
  simp only [Option.some.injEq, Prod.mk.injEq] at H
  obtain ⟨rfl, rfl, rfl, rfl, rfl⟩ := H
  go_enter Try.func29, Try.ntmps29
  go_wp2_with (first | ((with_reducible refine gate_dst (N := 2) rfl ?_); refine box_event ?hg (N := 2) ?hd (cs := #[.slice A0_0 l0_0.length c0_0, .int .i64 a0_1, .int .i64 a0_2, .int .i64 a0_3]) (t := 32) ?hr ?_; (case hd => rfl); (case hg => rfl); (case hr => exact yq111); intro gb101 hg w62 hbox hb; have BK101 := Qz.mk (hbox); have GW101 := Qz.mk ((by rw [hg]; exact (qz yq110) : w.heap.size ≤ gb101)); have GE101 := GW101; replace HB := Qz.mk (qq yq110 hb); clear hb hbox hg) | ((with_reducible refine gate_dst (N := 4) rfl ?_); refine box_event ?hg (N := 4) ?hd (cs := #[.slice none 0 0, .int .i64 0, .int .i64 0, .int .i64 0]) (t := 32) ?hr ?_; (case hd => rfl); (case hg => rfl); (case hr => exact yq111); intro gb102 hg w63 hbox hb; have BK102 := Qz.mk (hbox); have GW102 := Qz.mk ((by rw [hg]; exact (qz yq108) : w.heap.size ≤ gb102)); have GE102 := GW102; replace HB := Qz.mk (qq yq108 hb); have NB101_102 := Qz.mk ((yq97 : gb101 ≠ gb102)); have NB102_101 := Qz.mk ((yq98 : gb102 ≠ gb101)); replace BK101 := bkbf29 BK101 yq90 hb; clear hb hbox hg; have hnb64 := NB101_102.out; have hnc64 := NB102_101.out; have hcz65_0 := (qd BK101.out 0).trans rfl; have hcz65_1 := (qd BK101.out 1).trans rfl; have hcz65_2 := (qd BK101.out 2).trans rfl; have hcz65_3 := (qd BK101.out 3).trans rfl; have hfz65_0 := qf BK101.out 0; have hfz65_1 := qf BK101.out 1; have hfz65_2 := qf BK101.out 2; have hfz65_3 := qf BK101.out 3) | ((with_reducible refine qu (f := 26) rfl ?_); refine goesL_ (some 11) rfl rfl Try.func26 (by kernel_rfl) rfl #[.agg #[.slice A0_0 l0_0.length c0_0, .int .i64 a0_1, .int .i64 a0_2, .int .i64 a0_3]] rfl yq96 ?_; (with_reducible refine (spec_VersionOk.calls k _ _ l0_0 a0_1 a0_2 a0_3 false _ ?side1 ?side2 A3.out).mono ?_); (case side1 => exact yq109); (case side2 => exact HC0_0.out); rintro e w66 ⟨rfl, hb⟩; refine ⟨_, rfl, ?_⟩; replace BK101 := bkbf29 BK101 yq90 hb; replace BK102 := bkbf29 BK102 yq91 hb; replace HB := Qz.mk (qq yq99 hb); (try clear hb); (try clear hk); have hcz67_0 := (qd BK102.out 0).trans rfl; have hcz67_1 := (qd BK102.out 1).trans rfl; have hcz67_2 := (qd BK102.out 2).trans rfl; have hcz67_3 := (qd BK102.out 3).trans rfl; have hfz67_0 := qf BK102.out 0; have hfz67_1 := qf BK102.out 1; have hfz67_2 := qf BK102.out 2; have hfz67_3 := qf BK102.out 3))
  refine bodyPost_ret (results_ct rfl _ _ gb102 32 #[.slice none 0 0, .int .i64 0, .int .i64 0, .int .i64 0] (0, 0) _ rfl (by (with_reducible repeat (first | refine qb ?_ _ | refine qc ?_ | refine qa ?_ _)); refine qt (cs := #[.slice none 0 0, .int .i64 0, .int .i64 0, .int .i64 0]) ?_ 3 _ rfl; (with_reducible repeat (first | refine qb ?_ _ | refine qc ?_ | refine qa ?_ _)); refine qt (cs := #[.slice none 0 0, .int .i64 0, .int .i64 0, .int .i64 0]) ?_ 2 _ rfl; (with_reducible repeat (first | refine qb ?_ _ | refine qc ?_ | refine qa ?_ _)); refine qt (cs := #[.slice none 0 0, .int .i64 0, .int .i64 0, .int .i64 0]) ?_ 1 _ rfl; (with_reducible repeat (first | refine qb ?_ _ | refine qc ?_ | refine qa ?_ _)); refine qt (cs := #[.slice none 0 0, .int .i64 0, .int .i64 0, .int .i64 0]) ?_ 0 _ rfl; (with_reducible repeat (first | refine qb ?_ _ | refine qc ?_ | refine qa ?_ _)); exact BK102.out) Try.underlying32 rfl (by kernel_rfl)) rfl ?_
  exact ⟨_, by first | rfl | (simp [qy, qx] <;> rfl) | (simp [*, qy, qx] <;> rfl), by first | exact Kd.R_nil _ _ _ _ _ | exact Kd.N_nil _ _ _ _ _ | exact Kd.V_nil _ _ _ _ _ | exact Kd.Q_nil _ _ _ _ _ | exact Kd.S_nil _ _ _ _ _, by repeat (first | (with_reducible first | exact HB.out | apply qh | apply qg | apply qi | refine qe ?_ GE101.out | refine qe ?_ GE102.out) | exact HB.out)⟩
def impl_within.f (a0 : Int) (a1 : Int) (a2 : Int) : Option (Bool) := if a1 ≤ a0 then (some (decide (a0 ≤ a2))) else (some false)
set_option maxHeartbeats 8000000 in
set_option maxRecDepth 100000 in
theorem impl_within.calls (a0 : Int) (a1 : Int) (a2 : Int) (r : Bool) (w : World) (h : impl_within.f a0 a1 a2 = some r) :
  Calls Try.prog 65 #[.int .i64 a0, .int .i64 a1, .int .i64 a2] w fun e w' => e = .returned (.bool r) ∧ Drawn0 w w' := by
 have H : (if a1 ≤ a0 then (some (decide (a0 ≤ a2))) else (some false)) = some r := h
 clear h
 by_cases c4 : a1 ≤ a0
 ·rw [if_pos c4] at H
  have c4b0 : decide (a1 ≤ a0) = true := decide_eq_true c4
  clear c4
  obtain rfl := Option.some.inj H
  go_enter Try.func65, Try.ntmps65
  go_wp2
  go_ret
  exact ⟨by first | rfl | (simp; done) | (simp [*]; done), by repeat (first | exact Drawn0.refl _ | apply Drawn0.step)⟩
 ·rw [if_neg c4] at H
  have c4b0 : decide (a1 ≤ a0) = false := decide_eq_false c4
  clear c4
  obtain rfl := Option.some.inj H
  go_enter Try.func65, Try.ntmps65
  go_wp2
  go_ret
  exact ⟨by first | rfl | (simp; done) | (simp [*]; done), by repeat (first | exact Drawn0.refl _ | apply Drawn0.step)⟩
def impl_isUser.f (a0 : ByteArray) : Option (Bool) := if (a0.size : Int) ≥ 1 then (some (decide ((a0.size : Int) ≤ 40))) else (some false)
set_option maxHeartbeats 8000000 in
set_option maxRecDepth 100000 in
theorem impl_isUser.calls (a0 : ByteArray) (r : Bool) (w : World) (h : impl_isUser.f a0 = some r) :
  Calls Try.prog 66 #[.string a0] w fun e w' => e = .returned (.bool r) ∧ Drawn0 w w' := by
 have H : (if (a0.size : Int) ≥ 1 then (some (decide ((a0.size : Int) ≤ 40))) else (some false)) = some r := h
 clear h
 by_cases c2 : (a0.size : Int) ≥ 1
 ·rw [if_pos c2] at H
  have c2b0 : decide (1 ≤ (a0.size : Int)) = true := decide_eq_true c2
  have c2b1 : decide (1 ≤ a0.size) = true := decide_eq_true (by omega)
  clear c2
  obtain rfl := Option.some.inj H
  go_enter Try.func66, Try.ntmps66
  go_wp2
  go_ret
  exact ⟨by first | rfl | (simp; done) | (simp [*]; done), by repeat (first | exact Drawn0.refl _ | apply Drawn0.step)⟩
 ·rw [if_neg c2] at H
  have c2b0 : decide (1 ≤ (a0.size : Int)) = false := decide_eq_false c2
  have c2b1 : decide (1 ≤ a0.size) = false := decide_eq_false (by omega)
  clear c2
  obtain rfl := Option.some.inj H
  go_enter Try.func66, Try.ntmps66
  go_wp2
  go_ret
  exact ⟨by first | rfl | (simp; done) | (simp [*]; done), by repeat (first | exact Drawn0.refl _ | apply Drawn0.step)⟩
def cmp_Or_int.l0 : Nat → Int → List Int → Int → Int → Option (Int)
 | 0, _, _, _, _ => none
 | k + 1, x3, x6, x7, x8 => if x8 < x7 then (if 0 ≤ x8 then (if x8 < (x6.length : Int) then (if (rd x6 x8) = x3 then (cmp_Or_int.l0 k x3 x6 x7 (wrap64 (x8 + 1))) else (some (rd x6 x8))) else (none)) else (none)) else (some x3)
def cmp_Or_int.f (k : Nat) (l0 : List Int) : Option (Int) := cmp_Or_int.l0 k 0 l0 (l0.length : Int) 0
set_option maxHeartbeats 8000000 in
set_option maxRecDepth 100000 in
theorem cmp_Or_int.calls (k : Nat) (A0 : Option Addr) (c0 : Nat) (l0 : List Int) (r : Int) (w : World) (hr0 : Kd.C (Kd.int .i64) w A0 l0.length l0) (hc0 : l0.length ≤ c0) (h : cmp_Or_int.f k l0 = some r) :
  Calls Try.prog 100 #[.slice A0 l0.length c0] w fun e w' => e = .returned (.int .i64 r) ∧ Drawn0 w w' := by
 have HR0 := Qz.mk hr0
 have HC0 := Qz.mk hc0
 clear hr0 hc0
 have H : (cmp_Or_int.l0 k 0 l0 (l0.length : Int) 0) = some r := h
 clear h
 have H' := Qz.mk H
 clear H
 go_enter Try.func100, Try.ntmps100
 go_wp2
 go_loopg [8] k (fun kq v8 w' => ∃ (x8_1 : Int), v8 = .int .i64 x8_1 ∧ Qz (cmp_Or_int.l0 kq 0 l0 (l0.length : Int) x8_1 = some r) ∧ Qz (kq ≤ k) ∧ Drawn0 w w')
 case atStart => exact ⟨(0), (by first | rfl | (simp; done) | (simp [*]; done)), H', ⟨Nat.le_refl _⟩, by repeat (first | exact Drawn0.refl _ | apply Drawn0.step)⟩
 case round =>
  clear H'
  try clear c1
  obtain ⟨x8_1, rfl, HA, HK1, ⟨m1, rfl⟩⟩ := hrel
  cases gk with
  | zero => exact absurd HA.out (by simp [cmp_Or_int.l0])
  | succ k1 =>
   have H := HA.out
   clear HA
   simp only [cmp_Or_int.l0] at H
   by_cases c2 : x8_1 < (l0.length : Int)
   ·rw [if_pos c2] at H
    have c2b0 : decide (x8_1 < (l0.length : Int)) = true := decide_eq_true c2
    clear c2
    by_cases c3 : 0 ≤ x8_1
    ·rw [if_pos c3] at H
     have c3b0 : decide (0 ≤ x8_1) = true := decide_eq_true c3
     clear c3
     by_cases c4 : x8_1 < (l0.length : Int)
     ·rw [if_pos c4] at H
      have c4b0 : decide (x8_1 < (l0.length : Int)) = true := decide_eq_true c4
      clear c4
      by_cases c5 : (rd l0 x8_1) = 0
      ·rw [if_pos c5] at H
       have c5b0 : ((rd l0 x8_1) == 0) = true := beq_iff_eq.mpr c5
       have c5b1 : ((rd l0 x8_1) != 0) = false := bne_eq_false_iff_eq.mpr c5
       clear c5
       have H' := Qz.mk H
       clear H
       have p101 : 0 ≤ (x8_1 : Int) := of_decide_eq_true (by first | (with_reducible assumption) | assumption)
       have q101 : x8_1 < (l0.length : Int) := of_decide_eq_true (by first | (with_reducible assumption) | assumption)
       obtain ⟨ad101, e101, hx101_0⟩ := Kd.at_int HR0.out x8_1 p101 q101
       cases e101
       replace p101 := eq_true p101
       replace q101 := eq_true q101
       go_wp2
       go_roundg k1
       case measure => have := HK1.out; omega
       case rel => exact ⟨(wrap64 (x8_1 + 1)), (by first | rfl | (simp; done) | (simp [*]; done)), H', ⟨by have := HK1.out; omega⟩, by repeat (first | exact Drawn0.refl _ | apply Drawn0.step)⟩
      ·rw [if_neg c5] at H
       have c5b0 : ((rd l0 x8_1) == 0) = false := beq_eq_false_iff_ne.mpr c5
       have c5b1 : ((rd l0 x8_1) != 0) = true := bne_iff_ne.mpr c5
       obtain rfl := Option.some.inj H
       have p101 : 0 ≤ (x8_1 : Int) := of_decide_eq_true (by first | (with_reducible assumption) | assumption)
       have q101 : x8_1 < (l0.length : Int) := of_decide_eq_true (by first | (with_reducible assumption) | assumption)
       obtain ⟨ad101, e101, hx101_0⟩ := Kd.at_int HR0.out x8_1 p101 q101
       cases e101
       replace p101 := eq_true p101
       replace q101 := eq_true q101
       go_wp2
       go_ret
       exact ⟨by first | rfl | (simp; done) | (simp [*]; done), by repeat (first | exact Drawn0.refl _ | apply Drawn0.step)⟩
     ·rw [if_neg c4] at H
      exact absurd H (by simp)
    ·rw [if_neg c3] at H
     exact absurd H (by simp)
   ·rw [if_neg c2] at H
    have c2b0 : decide (x8_1 < (l0.length : Int)) = false := decide_eq_false c2
    clear c2
    obtain rfl := Option.some.inj H
    go_wp2
    go_ret
    exact ⟨by first | rfl | (simp; done) | (simp [*]; done), by repeat (first | exact Drawn0.refl _ | apply Drawn0.step)⟩
def cmp_isNaN_string.f (a0 : ByteArray) : Option (Bool) := some (a0.toList != a0.toList)
set_option maxHeartbeats 8000000 in
set_option maxRecDepth 100000 in
theorem cmp_isNaN_string.calls (a0 : ByteArray) (r : Bool) (w : World) (h : cmp_isNaN_string.f a0 = some r) :
  Calls Try.prog 118 #[.string a0] w fun e w' => e = .returned (.bool r) ∧ Drawn0 w w' := by
 have H : (some (a0.toList != a0.toList)) = some r := h
 clear h
 obtain rfl := Option.some.inj H
 go_enter Try.func118, Try.ntmps118
 go_wp2
 go_ret
 exact ⟨by first | rfl | (simp; done) | (simp [*]; done), by repeat (first | exact Drawn0.refl _ | apply Drawn0.step)⟩
theorem yq112 {P : Prop} (h : P := by (try simp only [List.map_toArray, List.map_cons, List.map_nil]); first | done | rfl) : P := h
def cmp_Compare_string.f (a0 : ByteArray) (a1 : ByteArray) : Option (Int) := (cmp_isNaN_string.f a0).bind fun t101 => ((cmp_isNaN_string.f a1).bind fun t102 => (if t101 = true then (if t102 = true then (some 0) else (some (-1))) else (if t102 = true then (some 1) else (if (Op.bytesLess a0.toList a1.toList) = true then (some (-1)) else (if (Op.bytesLess a1.toList a0.toList) = true then (some 1) else (some 0))))))
set_option maxHeartbeats 8000000 in
set_option maxRecDepth 100000 in
theorem cmp_Compare_string.calls (a0 : ByteArray) (a1 : ByteArray) (r : Int) (w : World) (h : cmp_Compare_string.f a0 a1 = some r) :
  Calls Try.prog 101 #[.string a0, .string a1] w fun e w' => e = .returned (.int .i64 r) ∧ Drawn0 w w' := by
 have H : ((cmp_isNaN_string.f a0).bind fun t101 => ((cmp_isNaN_string.f a1).bind fun t102 => (if t101 = true then (if t102 = true then (some 0) else (some (-1))) else (if t102 = true then (some 1) else (if (Op.bytesLess a0.toList a1.toList) = true then (some (-1)) else (if (Op.bytesLess a1.toList a0.toList) = true then (some 1) else (some 0))))))) = some r := h
 clear h
 replace H := Option.bind_eq_some_iff.mp H
 obtain ⟨t101, A30, H⟩ := H
 replace H : ((cmp_isNaN_string.f a1).bind fun t102 => (if t101 = true then (if t102 = true then (some 0) else (some (-1))) else (if t102 = true then (some 1) else (if (Op.bytesLess a0.toList a1.toList) = true then (some (-1)) else (if (Op.bytesLess a1.toList a0.toList) = true then (some 1) else (some 0)))))) = some r := H
 have A3 := Qz.mk A30
 clear A30
 replace H := Option.bind_eq_some_iff.mp H
 obtain ⟨t102, A40, H⟩ := H
 replace H : (if t101 = true then (if t102 = true then (some 0) else (some (-1))) else (if t102 = true then (some 1) else (if (Op.bytesLess a0.toList a1.toList) = true then (some (-1)) else (if (Op.bytesLess a1.toList a0.toList) = true then (some 1) else (some 0))))) = some r := H
 have A4 := Qz.mk A40
 clear A40
 by_cases c5 : t101 = true
 ·subst c5
  have H1 : (if t102 = true then (some 0) else (some (-1))) = some r := by rw [if_pos rfl] at H; exact H
  clear H
  have H := H1
  clear H1
  by_cases c6 : t102 = true
  ·subst c6
   have H1 : (some 0) = some r := by rw [if_pos rfl] at H; exact H
   clear H
   have H := H1
   clear H1
   obtain rfl := Option.some.inj H
   go_enter Try.func101, Try.ntmps101
   go_wp2_with (first | ((with_reducible refine qu (f := 118) rfl ?_); refine goesL_ (some 8) rfl rfl Try.func118 (by kernel_rfl) rfl #[.string a0] rfl yq112 ?_; (with_reducible refine (cmp_isNaN_string.calls a0 true _ A3.out).mono ?_); rintro e w' ⟨rfl, ⟨nd, rfl⟩⟩; refine ⟨_, rfl, ?_⟩) | ((with_reducible refine qu (f := 118) rfl ?_); refine goesL_ (some 10) rfl rfl Try.func118 (by kernel_rfl) rfl #[.string a1] rfl yq112 ?_; (with_reducible refine (cmp_isNaN_string.calls a1 true _ A4.out).mono ?_); rintro e w' ⟨rfl, ⟨nd, rfl⟩⟩; refine ⟨_, rfl, ?_⟩))
   go_ret
   exact ⟨by first | rfl | (simp; done) | (simp [*]; done), by repeat (first | exact Drawn0.refl _ | apply Drawn0.step)⟩
  ·replace c6 := Bool.eq_false_iff.mpr c6
   subst c6
   have H1 : (some (-1)) = some r := by rw [if_neg (show ¬ (false = true) by decide)] at H; exact H
   clear H
   have H := H1
   clear H1
   obtain rfl := Option.some.inj H
   go_enter Try.func101, Try.ntmps101
   go_wp2_with (first | ((with_reducible refine qu (f := 118) rfl ?_); refine goesL_ (some 8) rfl rfl Try.func118 (by kernel_rfl) rfl #[.string a0] rfl yq112 ?_; (with_reducible refine (cmp_isNaN_string.calls a0 true _ A3.out).mono ?_); rintro e w' ⟨rfl, ⟨nd, rfl⟩⟩; refine ⟨_, rfl, ?_⟩) | ((with_reducible refine qu (f := 118) rfl ?_); refine goesL_ (some 10) rfl rfl Try.func118 (by kernel_rfl) rfl #[.string a1] rfl yq112 ?_; (with_reducible refine (cmp_isNaN_string.calls a1 false _ A4.out).mono ?_); rintro e w' ⟨rfl, ⟨nd, rfl⟩⟩; refine ⟨_, rfl, ?_⟩))
   go_ret
   exact ⟨by first | rfl | (simp; done) | (simp [*]; done), by repeat (first | exact Drawn0.refl _ | apply Drawn0.step)⟩
 ·replace c5 := Bool.eq_false_iff.mpr c5
  subst c5
  have H1 : (if t102 = true then (some 1) else (if (Op.bytesLess a0.toList a1.toList) = true then (some (-1)) else (if (Op.bytesLess a1.toList a0.toList) = true then (some 1) else (some 0)))) = some r := by rw [if_neg (show ¬ (false = true) by decide)] at H; exact H
  clear H
  have H := H1
  clear H1
  by_cases c7 : t102 = true
  ·subst c7
   have H1 : (some 1) = some r := by rw [if_pos rfl] at H; exact H
   clear H
   have H := H1
   clear H1
   obtain rfl := Option.some.inj H
   go_enter Try.func101, Try.ntmps101
   go_wp2_with (first | ((with_reducible refine qu (f := 118) rfl ?_); refine goesL_ (some 8) rfl rfl Try.func118 (by kernel_rfl) rfl #[.string a0] rfl yq112 ?_; (with_reducible refine (cmp_isNaN_string.calls a0 false _ A3.out).mono ?_); rintro e w' ⟨rfl, ⟨nd, rfl⟩⟩; refine ⟨_, rfl, ?_⟩) | ((with_reducible refine qu (f := 118) rfl ?_); refine goesL_ (some 10) rfl rfl Try.func118 (by kernel_rfl) rfl #[.string a1] rfl yq112 ?_; (with_reducible refine (cmp_isNaN_string.calls a1 true _ A4.out).mono ?_); rintro e w' ⟨rfl, ⟨nd, rfl⟩⟩; refine ⟨_, rfl, ?_⟩))
   go_ret
   exact ⟨by first | rfl | (simp; done) | (simp [*]; done), by repeat (first | exact Drawn0.refl _ | apply Drawn0.step)⟩
  ·replace c7 := Bool.eq_false_iff.mpr c7
   subst c7
   have H1 : (if (Op.bytesLess a0.toList a1.toList) = true then (some (-1)) else (if (Op.bytesLess a1.toList a0.toList) = true then (some 1) else (some 0))) = some r := by rw [if_neg (show ¬ (false = true) by decide)] at H; exact H
   clear H
   have H := H1
   clear H1
   by_cases c8 : (Op.bytesLess a0.toList a1.toList) = true
   ·rw [if_pos c8] at H
    have c8b0 : (Op.bytesLess a0.toList a1.toList) = true := c8
    clear c8
    obtain rfl := Option.some.inj H
    go_enter Try.func101, Try.ntmps101
    go_wp2_with (first | ((with_reducible refine qu (f := 118) rfl ?_); refine goesL_ (some 8) rfl rfl Try.func118 (by kernel_rfl) rfl #[.string a0] rfl yq112 ?_; (with_reducible refine (cmp_isNaN_string.calls a0 false _ A3.out).mono ?_); rintro e w' ⟨rfl, ⟨nd, rfl⟩⟩; refine ⟨_, rfl, ?_⟩) | ((with_reducible refine qu (f := 118) rfl ?_); refine goesL_ (some 10) rfl rfl Try.func118 (by kernel_rfl) rfl #[.string a1] rfl yq112 ?_; (with_reducible refine (cmp_isNaN_string.calls a1 false _ A4.out).mono ?_); rintro e w' ⟨rfl, ⟨nd, rfl⟩⟩; refine ⟨_, rfl, ?_⟩))
    go_ret
    exact ⟨by first | rfl | (simp; done) | (simp [*]; done), by repeat (first | exact Drawn0.refl _ | apply Drawn0.step)⟩
   ·rw [if_neg c8] at H
    have c8b0 : (Op.bytesLess a0.toList a1.toList) = false := by simpa using c8
    clear c8
    by_cases c9 : (Op.bytesLess a1.toList a0.toList) = true
    ·rw [if_pos c9] at H
     have c9b0 : (Op.bytesLess a1.toList a0.toList) = true := c9
     clear c9
     obtain rfl := Option.some.inj H
     go_enter Try.func101, Try.ntmps101
     go_wp2_with (first | ((with_reducible refine qu (f := 118) rfl ?_); refine goesL_ (some 8) rfl rfl Try.func118 (by kernel_rfl) rfl #[.string a0] rfl yq112 ?_; (with_reducible refine (cmp_isNaN_string.calls a0 false _ A3.out).mono ?_); rintro e w' ⟨rfl, ⟨nd, rfl⟩⟩; refine ⟨_, rfl, ?_⟩) | ((with_reducible refine qu (f := 118) rfl ?_); refine goesL_ (some 10) rfl rfl Try.func118 (by kernel_rfl) rfl #[.string a1] rfl yq112 ?_; (with_reducible refine (cmp_isNaN_string.calls a1 false _ A4.out).mono ?_); rintro e w' ⟨rfl, ⟨nd, rfl⟩⟩; refine ⟨_, rfl, ?_⟩))
     go_ret
     exact ⟨by first | rfl | (simp; done) | (simp [*]; done), by repeat (first | exact Drawn0.refl _ | apply Drawn0.step)⟩
    ·rw [if_neg c9] at H
     have c9b0 : (Op.bytesLess a1.toList a0.toList) = false := by simpa using c9
     clear c9
     obtain rfl := Option.some.inj H
     go_enter Try.func101, Try.ntmps101
     go_wp2_with (first | ((with_reducible refine qu (f := 118) rfl ?_); refine goesL_ (some 8) rfl rfl Try.func118 (by kernel_rfl) rfl #[.string a0] rfl yq112 ?_; (with_reducible refine (cmp_isNaN_string.calls a0 false _ A3.out).mono ?_); rintro e w' ⟨rfl, ⟨nd, rfl⟩⟩; refine ⟨_, rfl, ?_⟩) | ((with_reducible refine qu (f := 118) rfl ?_); refine goesL_ (some 10) rfl rfl Try.func118 (by kernel_rfl) rfl #[.string a1] rfl yq112 ?_; (with_reducible refine (cmp_isNaN_string.calls a1 false _ A4.out).mono ?_); rintro e w' ⟨rfl, ⟨nd, rfl⟩⟩; refine ⟨_, rfl, ?_⟩))
     go_ret
     exact ⟨by first | rfl | (simp; done) | (simp [*]; done), by repeat (first | exact Drawn0.refl _ | apply Drawn0.step)⟩
def cmp_isNaN_int64.f (a0 : Int) : Option (Bool) := some (a0 != a0)
set_option maxHeartbeats 8000000 in
set_option maxRecDepth 100000 in
theorem cmp_isNaN_int64.calls (a0 : Int) (r : Bool) (w : World) (h : cmp_isNaN_int64.f a0 = some r) :
  Calls Try.prog 117 #[.int .i64 a0] w fun e w' => e = .returned (.bool r) ∧ Drawn0 w w' := by
 have H : (some (a0 != a0)) = some r := h
 clear h
 obtain rfl := Option.some.inj H
 go_enter Try.func117, Try.ntmps117
 go_wp2
 go_ret
 exact ⟨by first | rfl | (simp; done) | (simp [*]; done), by repeat (first | exact Drawn0.refl _ | apply Drawn0.step)⟩
theorem yq113 {P : Prop} (h : P := by (try simp only [List.map_toArray, List.map_cons, List.map_nil]); first | done | rfl) : P := h
def cmp_Compare_int64.f (a0 : Int) (a1 : Int) : Option (Int) := (cmp_isNaN_int64.f a0).bind fun t101 => ((cmp_isNaN_int64.f a1).bind fun t102 => (if t101 = true then (if t102 = true then (some 0) else (some (-1))) else (if t102 = true then (some 1) else (if a0 < a1 then (some (-1)) else (if a0 > a1 then (some 1) else (some 0))))))
set_option maxHeartbeats 8000000 in
set_option maxRecDepth 100000 in
theorem cmp_Compare_int64.calls (a0 : Int) (a1 : Int) (r : Int) (w : World) (h : cmp_Compare_int64.f a0 a1 = some r) :
  Calls Try.prog 99 #[.int .i64 a0, .int .i64 a1] w fun e w' => e = .returned (.int .i64 r) ∧ Drawn0 w w' := by
 have H : ((cmp_isNaN_int64.f a0).bind fun t101 => ((cmp_isNaN_int64.f a1).bind fun t102 => (if t101 = true then (if t102 = true then (some 0) else (some (-1))) else (if t102 = true then (some 1) else (if a0 < a1 then (some (-1)) else (if a0 > a1 then (some 1) else (some 0))))))) = some r := h
 clear h
 replace H := Option.bind_eq_some_iff.mp H
 obtain ⟨t101, A30, H⟩ := H
 replace H : ((cmp_isNaN_int64.f a1).bind fun t102 => (if t101 = true then (if t102 = true then (some 0) else (some (-1))) else (if t102 = true then (some 1) else (if a0 < a1 then (some (-1)) else (if a0 > a1 then (some 1) else (some 0)))))) = some r := H
 have A3 := Qz.mk A30
 clear A30
 replace H := Option.bind_eq_some_iff.mp H
 obtain ⟨t102, A40, H⟩ := H
 replace H : (if t101 = true then (if t102 = true then (some 0) else (some (-1))) else (if t102 = true then (some 1) else (if a0 < a1 then (some (-1)) else (if a0 > a1 then (some 1) else (some 0))))) = some r := H
 have A4 := Qz.mk A40
 clear A40
 by_cases c5 : t101 = true
 ·subst c5
  have H1 : (if t102 = true then (some 0) else (some (-1))) = some r := by rw [if_pos rfl] at H; exact H
  clear H
  have H := H1
  clear H1
  by_cases c6 : t102 = true
  ·subst c6
   have H1 : (some 0) = some r := by rw [if_pos rfl] at H; exact H
   clear H
   have H := H1
   clear H1
   obtain rfl := Option.some.inj H
   go_enter Try.func99, Try.ntmps99
   go_wp2_with (first | ((with_reducible refine qu (f := 117) rfl ?_); refine goesL_ (some 8) rfl rfl Try.func117 (by kernel_rfl) rfl #[.int .i64 a0] rfl yq113 ?_; (with_reducible refine (cmp_isNaN_int64.calls a0 true _ A3.out).mono ?_); rintro e w' ⟨rfl, ⟨nd, rfl⟩⟩; refine ⟨_, rfl, ?_⟩) | ((with_reducible refine qu (f := 117) rfl ?_); refine goesL_ (some 10) rfl rfl Try.func117 (by kernel_rfl) rfl #[.int .i64 a1] rfl yq113 ?_; (with_reducible refine (cmp_isNaN_int64.calls a1 true _ A4.out).mono ?_); rintro e w' ⟨rfl, ⟨nd, rfl⟩⟩; refine ⟨_, rfl, ?_⟩))
   go_ret
   exact ⟨by first | rfl | (simp; done) | (simp [*]; done), by repeat (first | exact Drawn0.refl _ | apply Drawn0.step)⟩
  ·replace c6 := Bool.eq_false_iff.mpr c6
   subst c6
   have H1 : (some (-1)) = some r := by rw [if_neg (show ¬ (false = true) by decide)] at H; exact H
   clear H
   have H := H1
   clear H1
   obtain rfl := Option.some.inj H
   go_enter Try.func99, Try.ntmps99
   go_wp2_with (first | ((with_reducible refine qu (f := 117) rfl ?_); refine goesL_ (some 8) rfl rfl Try.func117 (by kernel_rfl) rfl #[.int .i64 a0] rfl yq113 ?_; (with_reducible refine (cmp_isNaN_int64.calls a0 true _ A3.out).mono ?_); rintro e w' ⟨rfl, ⟨nd, rfl⟩⟩; refine ⟨_, rfl, ?_⟩) | ((with_reducible refine qu (f := 117) rfl ?_); refine goesL_ (some 10) rfl rfl Try.func117 (by kernel_rfl) rfl #[.int .i64 a1] rfl yq113 ?_; (with_reducible refine (cmp_isNaN_int64.calls a1 false _ A4.out).mono ?_); rintro e w' ⟨rfl, ⟨nd, rfl⟩⟩; refine ⟨_, rfl, ?_⟩))
   go_ret
   exact ⟨by first | rfl | (simp; done) | (simp [*]; done), by repeat (first | exact Drawn0.refl _ | apply Drawn0.step)⟩
 ·replace c5 := Bool.eq_false_iff.mpr c5
  subst c5
  have H1 : (if t102 = true then (some 1) else (if a0 < a1 then (some (-1)) else (if a0 > a1 then (some 1) else (some 0)))) = some r := by rw [if_neg (show ¬ (false = true) by decide)] at H; exact H
  clear H
  have H := H1
  clear H1
  by_cases c7 : t102 = true
  ·subst c7
   have H1 : (some 1) = some r := by rw [if_pos rfl] at H; exact H
   clear H
   have H := H1
   clear H1
   obtain rfl := Option.some.inj H
   go_enter Try.func99, Try.ntmps99
   go_wp2_with (first | ((with_reducible refine qu (f := 117) rfl ?_); refine goesL_ (some 8) rfl rfl Try.func117 (by kernel_rfl) rfl #[.int .i64 a0] rfl yq113 ?_; (with_reducible refine (cmp_isNaN_int64.calls a0 false _ A3.out).mono ?_); rintro e w' ⟨rfl, ⟨nd, rfl⟩⟩; refine ⟨_, rfl, ?_⟩) | ((with_reducible refine qu (f := 117) rfl ?_); refine goesL_ (some 10) rfl rfl Try.func117 (by kernel_rfl) rfl #[.int .i64 a1] rfl yq113 ?_; (with_reducible refine (cmp_isNaN_int64.calls a1 true _ A4.out).mono ?_); rintro e w' ⟨rfl, ⟨nd, rfl⟩⟩; refine ⟨_, rfl, ?_⟩))
   go_ret
   exact ⟨by first | rfl | (simp; done) | (simp [*]; done), by repeat (first | exact Drawn0.refl _ | apply Drawn0.step)⟩
  ·replace c7 := Bool.eq_false_iff.mpr c7
   subst c7
   have H1 : (if a0 < a1 then (some (-1)) else (if a0 > a1 then (some 1) else (some 0))) = some r := by rw [if_neg (show ¬ (false = true) by decide)] at H; exact H
   clear H
   have H := H1
   clear H1
   by_cases c8 : a0 < a1
   ·rw [if_pos c8] at H
    have c8b0 : decide (a0 < a1) = true := decide_eq_true c8
    clear c8
    obtain rfl := Option.some.inj H
    go_enter Try.func99, Try.ntmps99
    go_wp2_with (first | ((with_reducible refine qu (f := 117) rfl ?_); refine goesL_ (some 8) rfl rfl Try.func117 (by kernel_rfl) rfl #[.int .i64 a0] rfl yq113 ?_; (with_reducible refine (cmp_isNaN_int64.calls a0 false _ A3.out).mono ?_); rintro e w' ⟨rfl, ⟨nd, rfl⟩⟩; refine ⟨_, rfl, ?_⟩) | ((with_reducible refine qu (f := 117) rfl ?_); refine goesL_ (some 10) rfl rfl Try.func117 (by kernel_rfl) rfl #[.int .i64 a1] rfl yq113 ?_; (with_reducible refine (cmp_isNaN_int64.calls a1 false _ A4.out).mono ?_); rintro e w' ⟨rfl, ⟨nd, rfl⟩⟩; refine ⟨_, rfl, ?_⟩))
    go_ret
    exact ⟨by first | rfl | (simp; done) | (simp [*]; done), by repeat (first | exact Drawn0.refl _ | apply Drawn0.step)⟩
   ·rw [if_neg c8] at H
    have c8b0 : decide (a0 < a1) = false := decide_eq_false c8
    clear c8
    by_cases c9 : a0 > a1
    ·rw [if_pos c9] at H
     have c9b0 : decide (a1 < a0) = true := decide_eq_true c9
     clear c9
     obtain rfl := Option.some.inj H
     go_enter Try.func99, Try.ntmps99
     go_wp2_with (first | ((with_reducible refine qu (f := 117) rfl ?_); refine goesL_ (some 8) rfl rfl Try.func117 (by kernel_rfl) rfl #[.int .i64 a0] rfl yq113 ?_; (with_reducible refine (cmp_isNaN_int64.calls a0 false _ A3.out).mono ?_); rintro e w' ⟨rfl, ⟨nd, rfl⟩⟩; refine ⟨_, rfl, ?_⟩) | ((with_reducible refine qu (f := 117) rfl ?_); refine goesL_ (some 10) rfl rfl Try.func117 (by kernel_rfl) rfl #[.int .i64 a1] rfl yq113 ?_; (with_reducible refine (cmp_isNaN_int64.calls a1 false _ A4.out).mono ?_); rintro e w' ⟨rfl, ⟨nd, rfl⟩⟩; refine ⟨_, rfl, ?_⟩))
     go_ret
     exact ⟨by first | rfl | (simp; done) | (simp [*]; done), by repeat (first | exact Drawn0.refl _ | apply Drawn0.step)⟩
    ·rw [if_neg c9] at H
     have c9b0 : decide (a1 < a0) = false := decide_eq_false c9
     clear c9
     obtain rfl := Option.some.inj H
     go_enter Try.func99, Try.ntmps99
     go_wp2_with (first | ((with_reducible refine qu (f := 117) rfl ?_); refine goesL_ (some 8) rfl rfl Try.func117 (by kernel_rfl) rfl #[.int .i64 a0] rfl yq113 ?_; (with_reducible refine (cmp_isNaN_int64.calls a0 false _ A3.out).mono ?_); rintro e w' ⟨rfl, ⟨nd, rfl⟩⟩; refine ⟨_, rfl, ?_⟩) | ((with_reducible refine qu (f := 117) rfl ?_); refine goesL_ (some 10) rfl rfl Try.func117 (by kernel_rfl) rfl #[.int .i64 a1] rfl yq113 ?_; (with_reducible refine (cmp_isNaN_int64.calls a1 false _ A4.out).mono ?_); rintro e w' ⟨rfl, ⟨nd, rfl⟩⟩; refine ⟨_, rfl, ?_⟩))
     go_ret
     exact ⟨by first | rfl | (simp; done) | (simp [*]; done), by repeat (first | exact Drawn0.refl _ | apply Drawn0.step)⟩
theorem yq114 {P : Prop} (h : P := by (with_reducible repeat (first | refine qb ?_ _ | refine qc ?_ | refine qa ?_ _)); exact BK101.out) : P := h
def impl_cmpMetas.j0 : Nat → Bool → Int → Int → ByteArray → ByteArray → Int → Int → Int → ByteArray → ByteArray → Int → Option (Int)
 | 0, _, _, _, _, _, _, _, _, _, _, _ => none
 | k + 1, x14, x102000, x102001, x102002, x102003, x102004, x103000, x103001, x103002, x103003, x103004 => if x14 = true then ((cmp_Compare_int64.f x103000 x102000).bind fun t103 => (some t103)) else ((cmp_Compare_int64.f x102001 x103001).bind fun t104 => ((cmp_Compare_string.f x102002 x103002).bind fun t105 => ((cmp_Or_int.f k (([t104, t105] : List Int))).bind fun t109 => (some t109))))
def impl_cmpMetas.f (k : Nat) (a0_0 : Int) (a0_1 : Int) (a0_2 : ByteArray) (a0_3 : ByteArray) (a0_4 : Int) (a1_0 : Int) (a1_1 : Int) (a1_2 : ByteArray) (a1_3 : ByteArray) (a1_4 : Int) : Option (Int) := if a0_1 = a1_1 then (impl_cmpMetas.j0 k (a0_1 == 0) a0_0 a0_1 a0_2 a0_3 a0_4 a1_0 a1_1 a1_2 a1_3 a1_4) else (impl_cmpMetas.j0 k false a0_0 a0_1 a0_2 a0_3 a0_4 a1_0 a1_1 a1_2 a1_3 a1_4)
def impl_cmpMetas.T3 : Bool × List (List Nat × List Nat) := (true, [([], []), ([0], [0]), ([], []), ([2], [2]), ([1, 3], [1, 3]), ([], []), ([5], [5]), ([], []), ([7], [7]), ([6, 8, 4], [6, 8]), ([4, 9], [4, 9]), ([10, 9], [10]), ([11, 11, 0, 1, 2, 3, 4, 5, 6, 7, 8, 9, 10, 11], [11])])
def impl_cmpMetas.B3 : List Nat := [0, 1, 0, 4, 15, 0, 32, 0, 128, 511, 1023, 2047, 4095]
theorem impl_cmpMetas.tab3 : rtab .any (opsOf Try.f67 3) = impl_cmpMetas.T3 := by kernel_rfl
theorem impl_cmpMetas.bits3 : waitsOk impl_cmpMetas.T3.2 impl_cmpMetas.B3 = true := by kernel_rfl
set_option maxHeartbeats 8000000 in
set_option maxRecDepth 100000 in
theorem impl_cmpMetas.calls (k : Nat) (a0_0 : Int) (a0_1 : Int) (a0_2 : ByteArray) (a0_3 : ByteArray) (a0_4 : Int) (a1_0 : Int) (a1_1 : Int) (a1_2 : ByteArray) (a1_3 : ByteArray) (a1_4 : Int) (r : Int) (w : World) (h : impl_cmpMetas.f k a0_0 a0_1 a0_2 a0_3 a0_4 a1_0 a1_1 a1_2 a1_3 a1_4 = some r) :
  Calls Try.prog 67 #[.agg #[.int .i64 a0_0, .int .i64 a0_1, .string a0_2, .string a0_3, .int .i64 a0_4], .agg #[.int .i64 a1_0, .int .i64 a1_1, .string a1_2, .string a1_3, .int .i64 a1_4]] w fun e w' => e = .returned (.int .i64 r) ∧ Below w.heap.size w w' := by
 have hu66 := Try.underlying66
 have HB := Qz.mk (Below.refl w.heap.size w)
 have H : (if a0_1 = a1_1 then (impl_cmpMetas.j0 k (a0_1 == 0) a0_0 a0_1 a0_2 a0_3 a0_4 a1_0 a1_1 a1_2 a1_3 a1_4) else (impl_cmpMetas.j0 k false a0_0 a0_1 a0_2 a0_3 a0_4 a1_0 a1_1 a1_2 a1_3 a1_4)) = some r := h
 clear h
 have HC3 := Qz.mk H
 clear H
 go_enter Try.func67, Try.ntmps67
 go_upto_region 1 with (first | ((with_reducible refine gate_dst (N := 2) rfl ?_); refine box_event ?hg (N := 2) ?hd (cs := #[.int .i64 a0_0, .int .i64 a0_1, .string a0_2, .string a0_3, .int .i64 a0_4]) (t := 66) ?hr ?_; (case hd => rfl); (case hg => rfl); (case hr => first | (go_simp; done) | (go_simp; rfl)); intro gb101 hg w4 hbox hb; have BK101 := Qz.mk (hbox); have GW101 := Qz.mk ((by rw [hg]; exact (qz (by repeat (first | (with_reducible first | exact HB.out | apply qh | apply qg | apply qi) | exact HB.out))) : w.heap.size ≤ gb101)); have GE101 := GW101; replace HB := Qz.mk (qq (by repeat (first | (with_reducible first | exact HB.out | apply qh | apply qg | apply qi) | exact HB.out)) hb); clear hb hbox hg) | ((with_reducible refine gate_dst (N := 3) rfl ?_); refine box_event ?hg (N := 3) ?hd (cs := #[.int .i64 a1_0, .int .i64 a1_1, .string a1_2, .string a1_3, .int .i64 a1_4]) (t := 66) ?hr ?_; (case hd => rfl); (case hg => rfl); (case hr => first | (go_simp; done) | (go_simp; rfl)); intro gb102 hg w5 hbox hb; have BK102 := Qz.mk (hbox); have GW102 := Qz.mk ((by rw [hg]; exact (qz (by repeat (first | (with_reducible first | exact HB.out | apply qh | apply qg | apply qi | refine qe ?_ GE101.out) | exact HB.out))) : w.heap.size ≤ gb102)); have GE102 := GW102; replace HB := Qz.mk (qq (by repeat (first | (with_reducible first | exact HB.out | apply qh | apply qg | apply qi | refine qe ?_ GE101.out) | exact HB.out)) hb); have NB101_102 := Qz.mk ((by rw [hg]; exact Nat.ne_of_lt (qv (g := gb101) (o := .cells #[.int .i64 a0_0, .int .i64 a0_1, .string a0_2, .string a0_3, .int .i64 a0_4] 66 (0, 0)) yq114) : gb101 ≠ gb102)); have NB102_101 := Qz.mk ((by rw [hg]; exact Nat.ne_of_gt (qv (g := gb101) (o := .cells #[.int .i64 a0_0, .int .i64 a0_1, .string a0_2, .string a0_3, .int .i64 a0_4] 66 (0, 0)) yq114) : gb102 ≠ gb101)); replace BK101 := Qz.mk (qb1 (g := gb101) (o := .cells #[.int .i64 a0_0, .int .i64 a0_1, .string a0_2, .string a0_3, .int .i64 a0_4] 66 (0, 0)) yq114 hb); clear hb hbox hg))
 (try simp only [Act.put, sq1, sq2, sq3])
 go_cut [14] (fun v14 wc => ∃ (kq : Nat) (x14_2 : Bool), v14 = .bool x14_2 ∧ Qz (impl_cmpMetas.j0 kq x14_2 a0_0 a0_1 a0_2 a0_3 a0_4 a1_0 a1_1 a1_2 a1_3 a1_4 = some r) ∧ Qz (kq ≤ k) ∧ Qz (wc.heap[gb101]? = some (.cells #[.int .i64 a0_0, .int .i64 a0_1, .string a0_2, .string a0_3, .int .i64 a0_4] 66 (0, 0))) ∧ Qz (wc.heap[gb102]? = some (.cells #[.int .i64 a1_0, .int .i64 a1_1, .string a1_2, .string a1_3, .int .i64 a1_4] 66 (0, 0))) ∧ Qz (Below w.heap.size w wc))
 case first =>
  have H := HC3.out
  clear HC3
  by_cases c6 : a0_1 = a1_1
  ·rw [if_pos c6] at H
   have c6b0 : (a0_1 == a1_1) = true := beq_iff_eq.mpr c6
   have c6b1 : (a0_1 != a1_1) = false := bne_eq_false_iff_eq.mpr c6
   clear c6
   (first | rw [c6b0] | (simp only [i64_w, i32_w]; rw [c6b0]) | skip)
   have H' := Qz.mk H
   clear H
   have hnb7 := NB101_102.out
   have hnc7 := NB102_101.out
   have hcz8_0 := (qd BK101.out 0).trans rfl
   have hcz8_1 := (qd BK101.out 1).trans rfl
   have hcz8_2 := (qd BK101.out 2).trans rfl
   have hcz8_3 := (qd BK101.out 3).trans rfl
   have hcz8_4 := (qd BK101.out 4).trans rfl
   have hfz8_0 := qf BK101.out 0
   have hfz8_1 := qf BK101.out 1
   have hfz8_2 := qf BK101.out 2
   have hfz8_3 := qf BK101.out 3
   have hfz8_4 := qf BK101.out 4
   have hcz9_0 := (qd BK102.out 0).trans rfl
   have hcz9_1 := (qd BK102.out 1).trans rfl
   have hcz9_2 := (qd BK102.out 2).trans rfl
   have hcz9_3 := (qd BK102.out 3).trans rfl
   have hcz9_4 := (qd BK102.out 4).trans rfl
   have hfz9_0 := qf BK102.out 0
   have hfz9_1 := qf BK102.out 1
   have hfz9_2 := qf BK102.out 2
   have hfz9_3 := qf BK102.out 3
   have hfz9_4 := qf BK102.out 4
   go_wp2
   go_meet
   case rel => exact ⟨_, ((a0_1 == 0)), (by first | rfl | (simp; done) | (simp [*]; done)), H', ⟨by first | omega | exact Nat.le_refl _⟩, ⟨by (with_reducible repeat (first | refine qb ?_ _ | refine qc ?_ | refine qa ?_ _)); exact BK101.out⟩, ⟨by (with_reducible repeat (first | refine qb ?_ _ | refine qc ?_ | refine qa ?_ _)); exact BK102.out⟩, ⟨by repeat (first | (with_reducible first | exact HB.out | apply qh | apply qg | apply qi | refine qe ?_ GE101.out | refine qe ?_ GE102.out) | exact HB.out)⟩⟩
  ·rw [if_neg c6] at H
   have c6b0 : (a0_1 == a1_1) = false := beq_eq_false_iff_ne.mpr c6
   have c6b1 : (a0_1 != a1_1) = true := bne_iff_ne.mpr c6
   (first | rw [c6b0] | (simp only [i64_w, i32_w]; rw [c6b0]) | skip)
   have H' := Qz.mk H
   clear H
   have hnb10 := NB101_102.out
   have hnc10 := NB102_101.out
   have hcz11_0 := (qd BK101.out 0).trans rfl
   have hcz11_1 := (qd BK101.out 1).trans rfl
   have hcz11_2 := (qd BK101.out 2).trans rfl
   have hcz11_3 := (qd BK101.out 3).trans rfl
   have hcz11_4 := (qd BK101.out 4).trans rfl
   have hfz11_0 := qf BK101.out 0
   have hfz11_1 := qf BK101.out 1
   have hfz11_2 := qf BK101.out 2
   have hfz11_3 := qf BK101.out 3
   have hfz11_4 := qf BK101.out 4
   have hcz12_0 := (qd BK102.out 0).trans rfl
   have hcz12_1 := (qd BK102.out 1).trans rfl
   have hcz12_2 := (qd BK102.out 2).trans rfl
   have hcz12_3 := (qd BK102.out 3).trans rfl
   have hcz12_4 := (qd BK102.out 4).trans rfl
   have hfz12_0 := qf BK102.out 0
   have hfz12_1 := qf BK102.out 1
   have hfz12_2 := qf BK102.out 2
   have hfz12_3 := qf BK102.out 3
   have hfz12_4 := qf BK102.out 4
   go_wp2
   go_meet
   case rel => exact ⟨_, (false), (by first | rfl | (simp; done) | (simp [*]; done)), H', ⟨by first | omega | exact Nat.le_refl _⟩, ⟨by (with_reducible repeat (first | refine qb ?_ _ | refine qc ?_ | refine qa ?_ _)); exact BK101.out⟩, ⟨by (with_reducible repeat (first | refine qb ?_ _ | refine qc ?_ | refine qa ?_ _)); exact BK102.out⟩, ⟨by repeat (first | (with_reducible first | exact HB.out | apply qh | apply qg | apply qi | refine qe ?_ GE101.out | refine qe ?_ GE102.out) | exact HB.out)⟩⟩
 case rest =>
  clear HC3
  (try clear c1);(try clear p2);(try clear c6);(try clear c6b0);(try clear c6b1);(try clear c7);(try clear c10);(try clear hcz11_0);(try clear hcz11_1);(try clear hcz11_2);(try clear hcz11_3);(try clear hcz11_4);(try clear hcz12_0);(try clear hcz12_1);(try clear hcz12_2);(try clear hcz12_3);(try clear hcz12_4);(try clear hcz8_0);(try clear hcz8_1);(try clear hcz8_2);(try clear hcz8_3);(try clear hcz8_4);(try clear hcz9_0);(try clear hcz9_1);(try clear hcz9_2);(try clear hcz9_3);(try clear hcz9_4);(try clear hfz11_0);(try clear hfz11_1);(try clear hfz11_2);(try clear hfz11_3);(try clear hfz11_4);(try clear hfz12_0);(try clear hfz12_1);(try clear hfz12_2);(try clear hfz12_3);(try clear hfz12_4);(try clear hfz8_0);(try clear hfz8_1);(try clear hfz8_2);(try clear hfz8_3);(try clear hfz8_4);(try clear hfz9_0);(try clear hfz9_1);(try clear hfz9_2);(try clear hfz9_3);(try clear hfz9_4)
  obtain ⟨kq, x14_2, rfl, HA, HJ2, BK101, BK102, HB⟩ := hcut
  cases kq with
  | zero => exact absurd HA.out (by simp [impl_cmpMetas.j0])
  | succ kj2 =>
   have H := HA.out
   clear HA
   simp only [impl_cmpMetas.j0] at H
   by_cases c13 : x14_2 = true
   ·subst c13
    have H1 : ((cmp_Compare_int64.f a1_0 a0_0).bind fun t103 => (some t103)) = some r := by rw [if_pos rfl] at H; exact H
    clear H
    have H := H1
    clear H1
    replace H := Option.bind_eq_some_iff.mp H
    obtain ⟨t103, A140, H⟩ := H
    replace H : (some t103) = some r := H
    have A14 := Qz.mk A140
    clear A140
    obtain rfl := Option.some.inj H
    have hnb15 := NB102_101.out
    have hnc15 := NB101_102.out
    have hcz16_0 := (qd BK102.out 0).trans rfl
    have hcz16_1 := (qd BK102.out 1).trans rfl
    have hcz16_2 := (qd BK102.out 2).trans rfl
    have hcz16_3 := (qd BK102.out 3).trans rfl
    have hcz16_4 := (qd BK102.out 4).trans rfl
    have hfz16_0 := qf BK102.out 0
    have hfz16_1 := qf BK102.out 1
    have hfz16_2 := qf BK102.out 2
    have hfz16_3 := qf BK102.out 3
    have hfz16_4 := qf BK102.out 4
    have hcz17_0 := (qd BK101.out 0).trans rfl
    have hcz17_1 := (qd BK101.out 1).trans rfl
    have hcz17_2 := (qd BK101.out 2).trans rfl
    have hcz17_3 := (qd BK101.out 3).trans rfl
    have hcz17_4 := (qd BK101.out 4).trans rfl
    have hfz17_0 := qf BK101.out 0
    have hfz17_1 := qf BK101.out 1
    have hfz17_2 := qf BK101.out 2
    have hfz17_3 := qf BK101.out 3
    have hfz17_4 := qf BK101.out 4
    go_wp2_with (first | ((with_reducible refine qu (f := 99) rfl ?_); refine goesL_ (some 19) rfl rfl Try.func99 (by kernel_rfl) rfl #[.int .i64 a1_0, .int .i64 a0_0] rfl (by (try simp only [List.map_toArray, List.map_cons, List.map_nil]); first | done | rfl) ?_; (with_reducible refine (cmp_Compare_int64.calls a1_0 a0_0 t103 _ A14.out).mono ?_); rintro e w' ⟨rfl, ⟨nd, rfl⟩⟩; refine ⟨_, rfl, ?_⟩))
    go_ret
    exact ⟨by first | rfl | (simp [qy, qx] <;> rfl) | (simp [*, qy, qx] <;> rfl), by repeat (first | (with_reducible first | exact HB.out | apply qh | apply qg | apply qi | refine qe ?_ GE101.out | refine qe ?_ GE102.out) | exact HB.out)⟩
   ·replace c13 := Bool.eq_false_iff.mpr c13
    subst c13
    have H1 : ((cmp_Compare_int64.f a0_1 a1_1).bind fun t104 => ((cmp_Compare_string.f a0_2 a1_2).bind fun t105 => ((cmp_Or_int.f kj2 (([t104, t105] : List Int))).bind fun t109 => (some t109)))) = some r := by rw [if_neg (show ¬ (false = true) by decide)] at H; exact H
    clear H
    have H := H1
    clear H1
    replace H := Option.bind_eq_some_iff.mp H
    obtain ⟨t104, A180, H⟩ := H
    replace H : ((cmp_Compare_string.f a0_2 a1_2).bind fun t105 => ((cmp_Or_int.f kj2 (([t104, t105] : List Int))).bind fun t109 => (some t109))) = some r := H
    have A18 := Qz.mk A180
    clear A180
    replace H := Option.bind_eq_some_iff.mp H
    obtain ⟨t105, A190, H⟩ := H
    replace H : ((cmp_Or_int.f kj2 (([t104, t105] : List Int))).bind fun t109 => (some t109)) = some r := H
    have A19 := Qz.mk A190
    clear A190
    obtain ⟨y106, hy106⟩ : ∃ y_ : List Int, y_ = (([t104, t105] : List Int)) := ⟨_, rfl⟩
    replace H : ((cmp_Or_int.f kj2 y106).bind fun t109 => (some t109)) = some r := by first | (rw [hy106]; with_reducible exact H) | (have H2_ := (Option.bind_some _ _).symm.trans H; rw [hy106]; with_reducible exact H2_) | (have H2_ := (Option.bind_some _ _).symm.trans H; with_reducible exact H2_) | with_reducible exact H | (rw [hy106]; exact H) | exact H
    have Ny106 := Qz.mk hy106
    clear hy106
    replace H := Option.bind_eq_some_iff.mp H
    obtain ⟨t109, A200, H⟩ := H
    replace H : (some t109) = some r := H
    have A20 := Qz.mk A200
    clear A200
    obtain rfl := Option.some.inj H
    try go_wp2
    replace BK101 := Qz.mk (qc BK101.out)
    replace BK102 := Qz.mk (qc BK102.out)
    replace HB := Qz.mk (qi HB.out)
    refine start_ (n := 13) (S := fun w' => w'.cell? ⟨gb101, 0, none⟩ = some (.int .i64 a0_0) ∧ w'.cell? ⟨gb101, 1, none⟩ = some (.int .i64 a0_1) ∧ w'.cell? ⟨gb101, 2, none⟩ = some (.string a0_2) ∧ w'.cell? ⟨gb101, 3, none⟩ = some (.string a0_3) ∧ w'.cell? ⟨gb101, 4, none⟩ = some (.int .i64 a0_4) ∧ w'.cell? ⟨gb102, 0, none⟩ = some (.int .i64 a1_0) ∧ w'.cell? ⟨gb102, 1, none⟩ = some (.int .i64 a1_1) ∧ w'.cell? ⟨gb102, 2, none⟩ = some (.string a1_2) ∧ w'.cell? ⟨gb102, 3, none⟩ = some (.string a1_3) ∧ w'.cell? ⟨gb102, 4, none⟩ = some (.int .i64 a1_4)) (ds := []) #[false, false, false, false, false, false, false, false, false, false, false, false, false] (by kernel_rfl) rfl rfl ⟨(qd BK101.out 0).trans rfl, (qd BK101.out 1).trans rfl, (qd BK101.out 2).trans rfl, (qd BK101.out 3).trans rfl, (qd BK101.out 4).trans rfl, (qd BK102.out 0).trans rfl, (qd BK102.out 1).trans rfl, (qd BK102.out 2).trans rfl, (qd BK102.out 3).trans rfl, (qd BK102.out 4).trans rfl⟩ (fun hHeld => ?_); refine with_tabW impl_cmpMetas.tab3 impl_cmpMetas.bits3 (fun HT_ HW_ => ?_)
    generalize wc.drew = w21 at BK101 BK102 HB hHeld ⊢
    refine pure_ (i := 0) (N := some 20) (v := ?_) (a' := ?_) #[true, false, false, false, false, false, false, false, false, false, false, false, false] rfl rfl (qf1 HT_.out (by kernel_rfl)) (fun _ _ _ h => h) (Or.inl ⟨by rfl, ?_⟩) ?_ ?_
    rotate_left
    ·intro w'
     go_simp
     with_reducible rfl
    rotate_left
    ·simp only [Act.put, sq1, sq2, sq3, i64_w, i32_w]
     rfl
    refine pure_ (i := 2) (N := some 22) (v := ?_) (a' := ?_) #[true, false, true, false, false, false, false, false, false, false, false, false, false] rfl rfl (qf1 HT_.out (by kernel_rfl)) (fun _ _ _ h => h) (Or.inl ⟨by rfl, ?_⟩) ?_ ?_
    rotate_left
    ·intro w'
     go_simp
     with_reducible rfl
    rotate_left
    ·simp only [Act.put, sq1, sq2, sq3, i64_w, i32_w]
     rfl
    refine pure_ (i := 5) (N := some 25) (v := ?_) (a' := ?_) #[true, false, true, false, false, true, false, false, false, false, false, false, false] rfl rfl (qf1 HT_.out (by kernel_rfl)) (fun _ _ _ h => h) (Or.inl ⟨by rfl, ?_⟩) ?_ ?_
    rotate_left
    ·intro w'
     go_simp
     with_reducible rfl
    rotate_left
    ·simp only [Act.put, sq1, sq2, sq3, i64_w, i32_w]
     rfl
    refine pure_ (i := 7) (N := some 27) (v := ?_) (a' := ?_) #[true, false, true, false, false, true, false, true, false, false, false, false, false] rfl rfl (qf1 HT_.out (by kernel_rfl)) (fun _ _ _ h => h) (Or.inl ⟨by rfl, ?_⟩) ?_ ?_
    rotate_left
    ·intro w'
     go_simp
     with_reducible rfl
    rotate_left
    ·simp only [Act.put, sq1, sq2, sq3, i64_w, i32_w]
     rfl
    refine take_ (i := 1) (N := some 21) (v := ?_) (a' := ?_) #[true, true, true, false, false, true, false, true, false, false, false, false, false] rfl rfl (take_ofW HT_.out HW_.out (by kernel_rfl)) (fun _ _ _ h => h) (Or.inl ⟨by rfl, ?_⟩) hHeld ?_ ?_
    rotate_left
    ·rintro w' ⟨s0, s1, s2, s3, s4, s5, s6, s7, s8, s9⟩
     go_simp
     with_reducible rfl
    rotate_left
    ·simp only [Act.put, sq1, sq2, sq3, i64_w, i32_w]
     rfl
    refine take_ (i := 3) (N := some 23) (v := ?_) (a' := ?_) #[true, true, true, true, false, true, false, true, false, false, false, false, false] rfl rfl (take_ofW HT_.out HW_.out (by kernel_rfl)) (fun _ _ _ h => h) (Or.inl ⟨by rfl, ?_⟩) hHeld ?_ ?_
    rotate_left
    ·rintro w' ⟨s0, s1, s2, s3, s4, s5, s6, s7, s8, s9⟩
     go_simp
     with_reducible rfl
    rotate_left
    ·simp only [Act.put, sq1, sq2, sq3, i64_w, i32_w]
     rfl
    refine take_ (i := 6) (N := some 26) (v := ?_) (a' := ?_) #[true, true, true, true, false, true, true, true, false, false, false, false, false] rfl rfl (take_ofW HT_.out HW_.out (by kernel_rfl)) (fun _ _ _ h => h) (Or.inl ⟨by rfl, ?_⟩) hHeld ?_ ?_
    rotate_left
    ·rintro w' ⟨s0, s1, s2, s3, s4, s5, s6, s7, s8, s9⟩
     go_simp
     with_reducible rfl
    rotate_left
    ·simp only [Act.put, sq1, sq2, sq3, i64_w, i32_w]
     rfl
    refine take_ (i := 8) (N := some 28) (v := ?_) (a' := ?_) #[true, true, true, true, false, true, true, true, true, false, false, false, false] rfl rfl (take_ofW HT_.out HW_.out (by kernel_rfl)) (fun _ _ _ h => h) (Or.inl ⟨by rfl, ?_⟩) hHeld ?_ ?_
    rotate_left
    ·rintro w' ⟨s0, s1, s2, s3, s4, s5, s6, s7, s8, s9⟩
     go_simp
     with_reducible rfl
    rotate_left
    ·simp only [Act.put, sq1, sq2, sq3, i64_w, i32_w]
     rfl
    refine one_ (i := 4) (N := some 24) #[true, true, true, true, true, true, true, true, true, false, false, false, false] rfl rfl (one_of HT_.out (by kernel_rfl)) (by decide) (fun K hK => ?_)
    refine goes_ Try.func99 (by kernel_rfl) rfl #[.int .i64 a0_1, .int .i64 a1_1] (by rfl) rfl rfl (by (try simp only [List.map_toArray, List.map_cons, List.map_nil]); first | done | rfl) ?_
    with_reducible refine (cmp_Compare_int64.calls a0_1 a1_1 t104 _ A18.out).mono ?_
    rintro e w' ⟨rfl, ⟨nd, rfl⟩⟩
    refine ⟨_, rfl, ?_⟩
    refine hK.out _ _ ⟨(qd BK101.out 0).trans rfl, (qd BK101.out 1).trans rfl, (qd BK101.out 2).trans rfl, (qd BK101.out 3).trans rfl, (qd BK101.out 4).trans rfl, (qd BK102.out 0).trans rfl, (qd BK102.out 1).trans rfl, (qd BK102.out 2).trans rfl, (qd BK102.out 3).trans rfl, (qd BK102.out 4).trans rfl⟩ (fun hHeld => ?_)
    clear hK K
    refine norm_ (a' := ?_) ?_ ?_
    rotate_left
    ·show Act.put _ (some 24) _ = _
     simp only [Act.put, sq1, sq2, sq3, i64_w, i32_w]
     rfl
    refine one_ (i := 9) (N := some 29) #[true, true, true, true, true, true, true, true, true, true, false, false, false] rfl rfl (one_of HT_.out (by kernel_rfl)) (by decide) (fun K hK => ?_)
    refine goes_ Try.func101 (by kernel_rfl) rfl #[.string a0_2, .string a1_2] (by rfl) rfl rfl (by (try simp only [List.map_toArray, List.map_cons, List.map_nil]); first | done | rfl) ?_
    with_reducible refine (cmp_Compare_string.calls a0_2 a1_2 t105 _ A19.out).mono ?_
    rintro e w' ⟨rfl, ⟨nd, rfl⟩⟩
    refine ⟨_, rfl, ?_⟩
    refine hK.out _ _ ⟨(qd BK101.out 0).trans rfl, (qd BK101.out 1).trans rfl, (qd BK101.out 2).trans rfl, (qd BK101.out 3).trans rfl, (qd BK101.out 4).trans rfl, (qd BK102.out 0).trans rfl, (qd BK102.out 1).trans rfl, (qd BK102.out 2).trans rfl, (qd BK102.out 3).trans rfl, (qd BK102.out 4).trans rfl⟩ (fun hHeld => ?_)
    clear hK K
    refine norm_ (a' := ?_) ?_ ?_
    rotate_left
    ·show Act.put _ (some 29) _ = _
     simp only [Act.put, sq1, sq2, sq3, i64_w, i32_w]
     rfl
    refine one_ (i := 10) (N := some 30) #[true, true, true, true, true, true, true, true, true, true, true, false, false] rfl rfl (one_of HT_.out (by kernel_rfl)) (by decide) (fun K hK => ?_)
    refine Kd.R_lit_step (Kd.int .i64) _ 3 ?hg (N := 30) ?hd (xs := ([t104, t105] : List Int)) (inner := [.int .i64 t104, .int .i64 t105]) (ok := fun _ => True) (okp := fun _ => True) ?hr ?hp (fun _ hk => hk) trivial (Below.refl _ _) (Nat.le_refl _) (by simp) ?_; (case hd => rfl); (case hg => rfl); (case hr => first | (go_simp; done) | (go_simp; rfl)); (case hp => exact (Reps.one (show Kd.M (Kd.int .i64) _ _ _ t104 [.int .i64 t104] from rfl) (Reps.one (show Kd.M (Kd.int .i64) _ _ _ t105 [.int .i64 t105] from rfl) (Reps.none _ _))))
    intro v107 w22 ho23 hb hg_ hnew_
    clear hg_ hnew_
    (first | rw [← Ny106.out] at ho23 | (simp only [Int.reduceToNat] at ho23; rw [← Ny106.out] at ho23))
    have HO108 := Qz.mk (Kd.R_lower ho23 (qz (by repeat (first | (with_reducible first | exact HB.out | apply qh | apply qg | apply qi | refine qe ?_ GE101.out | refine qe ?_ GE102.out) | exact HB.out))))
    replace BK101 := Qz.mk (qb1 (g := gb101) (o := .cells #[.int .i64 a0_0, .int .i64 a0_1, .string a0_2, .string a0_3, .int .i64 a0_4] 66 (0, 0)) yq114 hb)
    replace BK102 := Qz.mk (qb1 (g := gb102) (o := .cells #[.int .i64 a1_0, .int .i64 a1_1, .string a1_2, .string a1_3, .int .i64 a1_4] 66 (0, 0)) (by (with_reducible repeat (first | refine qb ?_ _ | refine qc ?_ | refine qa ?_ _)); exact BK102.out) hb)
    replace HB := Qz.mk (qq (by repeat (first | (with_reducible first | exact HB.out | apply qh | apply qg | apply qi | refine qe ?_ GE101.out | refine qe ?_ GE102.out) | exact HB.out)) hb)
    clear hb ho23
    obtain ⟨Ao24, co24, eo24⟩ := Kd.R_slice HO108.out
    (first | subst eo24 | (injection eo24 with f1_ f2_ f3_; have f4_ := f1_.symm; have f5_ := f3_.symm; clear f1_ f2_ f3_; subst f4_; subst f5_))
    refine hK.out _ _ ⟨(qd BK101.out 0).trans rfl, (qd BK101.out 1).trans rfl, (qd BK101.out 2).trans rfl, (qd BK101.out 3).trans rfl, (qd BK101.out 4).trans rfl, (qd BK102.out 0).trans rfl, (qd BK102.out 1).trans rfl, (qd BK102.out 2).trans rfl, (qd BK102.out 3).trans rfl, (qd BK102.out 4).trans rfl⟩ (fun hHeld => ?_)
    clear hK K
    refine norm_ (a' := ?_) ?_ ?_
    rotate_left
    ·show Act.put _ (some 30) _ = _
     simp only [Act.put, sq1, sq2, sq3, i64_w, i32_w]
     rfl
    refine one_ (i := 11) (N := some 31) #[true, true, true, true, true, true, true, true, true, true, true, true, false] rfl rfl (one_of HT_.out (by kernel_rfl)) (by decide) (fun K hK => ?_)
    refine goes_ Try.func100 (by kernel_rfl) rfl #[.slice Ao24 y106.length co24] (by rfl) rfl rfl (by (try simp only [List.map_toArray, List.map_cons, List.map_nil]); first | done | rfl | (simp only [List.length_drop, List.length_take]; rfl) | (rw [IntWalk.u64_in _ (by omega)] <;> rfl)) ?_
    with_reducible refine (cmp_Or_int.calls kj2 _ _ y106 t109 _ ?side1 ?side2 A20.out).mono ?_
    (case side1 => repeat (first | exact (Kd.R_reads' HO108.out).2.2 | (with_reducible refine Kd.C_alloc ?_ _) | (with_reducible refine Kd.C_drewN ?_ _) | (with_reducible refine Kd.C_drew ?_)))
    (case side2 => exact (Kd.R_reads' HO108.out).2.1)
    rintro e w' ⟨rfl, ⟨nd, rfl⟩⟩
    refine ⟨_, rfl, ?_⟩
    refine hK.out _ _ ⟨(qd BK101.out 0).trans rfl, (qd BK101.out 1).trans rfl, (qd BK101.out 2).trans rfl, (qd BK101.out 3).trans rfl, (qd BK101.out 4).trans rfl, (qd BK102.out 0).trans rfl, (qd BK102.out 1).trans rfl, (qd BK102.out 2).trans rfl, (qd BK102.out 3).trans rfl, (qd BK102.out 4).trans rfl⟩ (fun hHeld => ?_)
    clear hK K
    refine norm_ (a' := ?_) ?_ ?_
    rotate_left
    ·show Act.put _ (some 31) _ = _
     simp only [Act.put, sq1, sq2, sq3, i64_w, i32_w]
     rfl
    refine pure_ (i := 12) (N := some 4) (v := ?_) (a' := ?_) #[true, true, true, true, true, true, true, true, true, true, true, true, true] rfl rfl (qf1 HT_.out (by kernel_rfl)) (fun _ _ _ h => h) (Or.inl ⟨by rfl, ?_⟩) ?_ ?_
    rotate_left
    ·intro w'
     go_simp
     with_reducible rfl
    rotate_left
    ·simp only [Act.put, sq1, sq2, sq3, i64_w, i32_w]
     rfl
    refine done_ (done_of HT_.out (by kernel_rfl)) ?_
    try go_wp2
    go_ret
    exact ⟨by first | rfl | (simp [qy, qx] <;> rfl) | (simp [*, qy, qx] <;> rfl), by repeat (first | (with_reducible first | exact HB.out | apply qh | apply qg | apply qi | refine qe ?_ GE101.out | refine qe ?_ GE102.out) | exact HB.out)⟩
end Go.Proofs.Ytcgejabkjljeeaa.P
end

section
namespace Go.Proofs.Ytcgejabkjljeeaa.P
open Go.RowKit Go.Proofs.YtcgejabkjljeeaaW.PrintWords Go.Proofs.YtcgejabkjljeeaaW.PrintLast Go.Proofs.YtcgejabkjljeeaaW.PrintMore
attribute [local go_sem] str_gtr str_leq str_geq max2_int min2_int max_two min_two qe1 qd1 max_four min_four
set_option linter.unusedVariables false
set_option linter.unusedSimpArgs false
theorem within_ev (a b c : Int) : impl_within.f a b c = some (decide (b ≤ a ∧ a ≤ c)) := by
 unfold impl_within.f
 by_cases h : b ≤ a <;> simp [h]
theorem in_ev (a b c : Int) : spec_l1In.f a b c = some (decide (b ≤ a ∧ a ≤ c)) := by
 unfold spec_l1In.f
 by_cases h : b ≤ a <;> simp [h]
def isU (s : ByteArray) : Prop := 1 ≤ s.size ∧ s.size ≤ 40
instance (s : ByteArray) : Decidable (isU s) := by unfold isU; infer_instance
theorem isUser_ev (a : ByteArray) : impl_isUser.f a = some (decide (isU a)) := by
 unfold impl_isUser.f isU
 by_cases h : (a.size : Int) ≥ 1
 ·rw [if_pos h]
  congr 1
  exact decide_eq_decide.2 (by omega)
 ·rw [if_neg h]
  congr 1
  exact (decide_eq_false (by omega)).symm
theorem l2User_ev (a : ByteArray) : spec_l2User.f a = some (decide (isU a)) := by
 unfold spec_l2User.f isU
 by_cases h : (a.size : Int) ≥ 1
 ·rw [if_pos h]
  congr 1
  exact decide_eq_decide.2 (by omega)
 ·rw [if_neg h]
  congr 1
  exact (decide_eq_false (by omega)).symm
end Go.Proofs.Ytcgejabkjljeeaa.P
end

section
namespace Go.Proofs.Ytcgejabkjljeeaa.P
open Go.RowKit Go.Proofs.YtcgejabkjljeeaaW.PrintWords Go.Proofs.YtcgejabkjljeeaaW.PrintLast Go.Proofs.YtcgejabkjljeeaaW.PrintMore
attribute [local go_sem] str_gtr str_leq str_geq max2_int min2_int max_two min_two qe1 qd1 max_four min_four
set_option linter.unusedVariables false
set_option linter.unusedSimpArgs false
def isK (u : ByteArray) (seq kind : Int) : Prop := isU u ∧ (0 ≤ seq ∧ seq ≤ 1000000000000) ∧ 0 ≤ kind ∧ kind ≤ 1
instance (u : ByteArray) (seq kind : Int) : Decidable (isK u seq kind) := by unfold isK; infer_instance
def isE (u : ByteArray) (seq kind : Int) (v : ByteArray) : Prop := isK u seq kind ∧ v.size ≤ 200 ∧ (kind = 1 ∨ v.toList = [])
instance (u : ByteArray) (seq kind : Int) (v : ByteArray) : Decidable (isE u seq kind v) := by unfold isE; infer_instance
end Go.Proofs.Ytcgejabkjljeeaa.P
end

section
namespace Go.Proofs.Ytcgejabkjljeeaa.P
open Go.RowKit Go.Proofs.YtcgejabkjljeeaaW.PrintWords Go.Proofs.YtcgejabkjljeeaaW.PrintLast Go.Proofs.YtcgejabkjljeeaaW.PrintMore
attribute [local go_sem] str_gtr str_leq str_geq max2_int min2_int max_two min_two qe1 qd1 max_four min_four
set_option linter.unusedVariables false
set_option linter.unusedSimpArgs false
theorem bl_irrefl : ∀ a : List UInt8, Op.bytesLess a a = false
 | [] => by simp [Op.bytesLess]
 | a :: x => by
  have ih := bl_irrefl x
  have h1 : ¬ a < a := fun h => by have := UInt8.lt_iff_toNat_lt.1 h; omega
  simp [Op.bytesLess, ih, h1]
theorem bl_eq {a b : List UInt8} (h : Op.bytesLess a b = false) (h' : Op.bytesLess b a = false) : a = b := by
 rw [← bytesLess_swap, h] at h'
 simpa using h'
theorem bl_cons (a b : UInt8) (x y : List UInt8) : Op.bytesLess (a :: x) (b :: y) = true ↔ a < b ∨ a = b ∧ Op.bytesLess x y = true := by
 rcases Nat.lt_trichotomy a.toNat b.toNat with h | h | h
 ·have h1 : a < b := UInt8.lt_iff_toNat_lt.2 h
  simp [Op.bytesLess, h1]
 ·have h1 : a = b := UInt8.toNat_inj.1 h
  subst h1
  have h2 : ¬ a < a := fun h => by have := UInt8.lt_iff_toNat_lt.1 h; omega
  simp [Op.bytesLess, h2]
 ·have h1 : ¬ a < b := fun h' => by have := UInt8.lt_iff_toNat_lt.1 h'; omega
  have h2 : ¬ a = b := fun h' => by rw [h'] at h; omega
  simp [Op.bytesLess, h1, h2]
theorem bl_trans : ∀ {a b c : List UInt8}, Op.bytesLess a b = true → Op.bytesLess b c = true → Op.bytesLess a c = true
 | _, [], _, h, _ => by cases ‹List UInt8› <;> simp [Op.bytesLess] at h
 | [], b :: y, [], _, h => by simp [Op.bytesLess] at h
 | [], b :: y, c :: z, _, _ => by simp [Op.bytesLess]
 | a :: x, b :: y, [], _, h => by simp [Op.bytesLess] at h
 | a :: x, b :: y, c :: z, h, h' => by
  rw [bl_cons] at h h' ⊢
  rcases h with h | ⟨rfl, h⟩
  ·rcases h' with h' | ⟨rfl, h'⟩
   ·exact .inl (UInt8.lt_iff_toNat_lt.2 (by have := UInt8.lt_iff_toNat_lt.1 h; have := UInt8.lt_iff_toNat_lt.1 h'; omega))
   ·exact .inl h
  ·rcases h' with h' | ⟨rfl, h'⟩
   ·exact .inl h'
   ·exact .inr ⟨rfl, bl_trans h h'⟩
def tless (a b : ByteArray) : Bool := Op.bytesLess a.toList b.toList
theorem compareS_ev (a b : ByteArray) : cmp_Compare_string.f a b = some (if tless a b = true then -1 else if tless b a = true then 1 else 0) := by
 unfold cmp_Compare_string.f cmp_isNaN_string.f tless
 simp only [bne_self_eq_false, Option.bind_some, Bool.false_eq_true, if_false]
 split
 ·rfl
 ·split <;> rfl
theorem compareI_ev (a b : Int) : cmp_Compare_int64.f a b = some (if a < b then -1 else if b < a then 1 else 0) := by
 unfold cmp_Compare_int64.f cmp_isNaN_int64.f
 simp only [bne_self_eq_false, Option.bind_some, Bool.false_eq_true, if_false]
 split
 ·rfl
 ·by_cases h : b < a
  ·rw [if_pos h, if_pos h]
  ·rw [if_neg h, if_neg h]
theorem orInt_ev : ∀ (n : Nat) (l : List Int), l.length = n → n < 1000 → Ev (fun k => cmp_Or_int.f k l) ((l.find? fun x => x != 0).getD 0) := by
 intro n l hn hb
 have key : ∀ i, i ≤ l.length → Ev (fun k => cmp_Or_int.l0 k 0 l (l.length : Int) (i : Int)) (((l.drop i).find? fun x => x != 0).getD 0) := by
  refine downTo l.length ?_ ?_
  ·refine Ev.step (fun k => cmp_Or_int.l0.eq_2 ..) (Ev.neg (by omega) ?_)
   rw [List.drop_length]
   exact Ev.now _
  ·intro i hi ih
   have hr : rd l (i : Int) = l[i] := by
    unfold rd
    rw [Int.toNat_natCast, List.getD_eq_getElem?_getD, List.getElem?_eq_getElem hi]
    rfl
   rw [List.drop_eq_getElem_cons hi]
   refine Ev.step (fun k => cmp_Or_int.l0.eq_2 ..) (Ev.pos (by omega) (Ev.pos (by omega) (Ev.pos (by omega) ?_)))
   rw [hr, wsucc (by omega)]
   by_cases c : l[i] = 0
   ·refine Ev.pos c ?_
    rw [List.find?_cons_of_neg (by simp [c])]
    exact ih
   ·refine Ev.neg c ?_
    rw [List.find?_cons_of_pos (by simp [c])]
    exact Ev.now _
 exact key 0 (Nat.zero_le _)
end Go.Proofs.Ytcgejabkjljeeaa.P
end
