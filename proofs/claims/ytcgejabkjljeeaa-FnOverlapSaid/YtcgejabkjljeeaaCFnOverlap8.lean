/- Proved: the law FnOverlap of the given program returns true for every input of its Go types and leaves each argument as it was; no condition. (Part 9 of 14.) -/
import Derived.Test.YtcgejabkjljeeaaCFnOverlap4
import Derived.Test.YtcgejabkjljeeaaCFnOverlap6
import Derived.Test.YtcgejabkjljeeaaCFnOverlap7
import Derived.Test.YtcgejabkjljeeaaCFnOverlap0
section
namespace Go.Proofs.Ytcgejabkjljeeaa.P
open Go.RowKit Go.Proofs.YtcgejabkjljeeaaW.PrintWords Go.Proofs.YtcgejabkjljeeaaW.PrintLast Go.Proofs.YtcgejabkjljeeaaW.PrintMore
attribute [local go_sem] str_gtr str_leq str_geq max2_int min2_int max_two min_two max_three min_three max_four min_four
set_option linter.unusedVariables false
set_option linter.unusedSimpArgs false
theorem yq73 {P : Prop} (h : P := by repeat (first | (with_reducible first | exact HK.out | apply KeepBut.set_ | apply ql | apply qo | apply qm | refine qj ?_ GW101.out _ | refine qj ?_ GW104.out _) | exact HK.out)) : P := h
theorem yq74 {P : Prop} (h : P := by (with_reducible repeat (first | refine qc ?_ _ | refine qf ?_ | refine qa ?_ _)); exact BK101.out) : P := h
theorem yq75 {P : Prop} (h : P := by repeat (first | (with_reducible first | exact HK.out | apply KeepBut.set_ | apply ql | apply qo | apply qm | refine qj ?_ GW101.out _ | refine qj ?_ GW104.out _ | refine qj ?_ GW124.out _) | exact HK.out)) : P := h
theorem yq76 {P : Prop} (h : P := by (with_reducible repeat (first | refine qc ?_ _ | refine qf ?_ | refine qa ?_ _)); exact BK104.out) : P := h
theorem yq77 {P : Prop} (h : P := by (with_reducible repeat (first | apply Kd.R_alloc | apply Kd.R_drewN | apply Kd.R_drew)); exact HO_105000.out) : P := h
theorem yq78 {P : Prop} (h : P := by repeat (first | (with_reducible first | exact HI0.out | apply IsS123.alloc | apply IsS123.drewN | apply IsS123.drew | apply IsS123.set_1 | apply (fun h_ => IsS123.far h_ NB0_101.out _) | apply (fun h_ => IsS123.far h_ NB0_104.out _)) | exact HI0.out)) : P := h
theorem yq79 {P : Prop} (h : P := by repeat (first | (with_reducible first | exact HI0.out | apply IsS123.alloc | apply IsS123.drewN | apply IsS123.drew | apply IsS123.set_1 | apply (fun h_ => IsS123.far h_ NB0_101.out _) | apply (fun h_ => IsS123.far h_ NB0_104.out _) | apply (fun h_ => IsS123.far h_ NB0_124.out _)) | exact HI0.out)) : P := h
theorem yq80 {P : Prop} (h : P := by repeat (first | (with_reducible first | exact HB.out | apply qi | apply qd | apply qh | refine qg ?_ (IsS123.ge HI0.out) | refine qg ?_ GE101.out | refine qg ?_ GE104.out) | exact HB.out)) : P := h
theorem yq81 {P : Prop} (h : P := by repeat (first | (with_reducible first | exact HB.out | apply qi | apply qd | apply qh | refine qg ?_ (IsS123.ge HI0.out) | refine qg ?_ GE101.out | refine qg ?_ GE104.out | refine qg ?_ GE124.out) | exact HB.out)) : P := h
theorem yq82 {P : Prop} (h : P := by (try simp only [List.map_toArray, List.map_cons, List.map_nil]); first | done | rfl | (simp only [List.length_drop, List.length_take]; rfl) | (rw [IntWalk.u64_in _ (by omega)] <;> rfl)) : P := h
theorem yq83 {P : Prop} (h : P := by (with_reducible repeat (first | apply Kd.R_alloc | apply Kd.R_drewN | apply Kd.R_drew)); exact HO112.out) : P := h
theorem yq84 {P : Prop} (h : P := by (with_reducible repeat (first | apply Kd.R_alloc | apply Kd.R_drewN | apply Kd.R_drew)); exact HO109.out) : P := h
theorem yq85 {P : Prop} (h : P := by (with_reducible repeat (first | refine qc ?_ _ | refine qf ?_ | refine qa ?_ _)); exact BK124.out) : P := h
theorem yq86 {P : Prop} (h : P := by repeat (first | exact (Kd.R_reads' HO_105000.out).2.2 | (with_reducible refine Kd.C_alloc ?_ _) | (with_reducible refine Kd.C_drewN ?_ _) | (with_reducible refine Kd.C_drew ?_))) : P := h
theorem yq87 {P : Prop} (h : P := by repeat (first | exact (Kd.R_reads' HO112.out).2.2 | (with_reducible refine Kd.C_alloc ?_ _) | (with_reducible refine Kd.C_drewN ?_ _) | (with_reducible refine Kd.C_drew ?_))) : P := h
theorem yq88 {P : Prop} (h : P := by repeat (first | exact (Kd.R_reads' HO109.out).2.2 | (with_reducible refine Kd.C_alloc ?_ _) | (with_reducible refine Kd.C_drewN ?_ _) | (with_reducible refine Kd.C_drew ?_))) : P := h
theorem yq89 {P : Prop} (h : P := by rw [hg]; exact Nat.ne_of_lt (qc1 (g := gb101) (o := .cells #[.slice none 0 0, .int .i64 0, .int .i64 0, .int .i64 0] 32 (0, 0)) yq74)) : P := h
theorem yq90 {P : Prop} (h : P := by rw [hg]; exact Nat.ne_of_gt (qc1 (g := gb101) (o := .cells #[.slice none 0 0, .int .i64 0, .int .i64 0, .int .i64 0] 32 (0, 0)) yq74)) : P := h
theorem yq91 {P : Prop} (h : P := by (with_reducible repeat (first | apply Kd.R_alloc | apply Kd.R_drewN | apply Kd.R_drew)); exact Kd.R_mono HO_105000.out (fun _ hk => ⟨hk.1.2, hk.2⟩)) : P := h
theorem yq92 {P : Prop} (h : P := by (with_reducible repeat (first | apply Kd.R_alloc | apply Kd.R_drewN | apply Kd.R_drew)); exact Kd.R_mono HO119.out (fun _ hk => ⟨hk.2, hk.1.2⟩)) : P := h
theorem yq93 {P : Prop} (h : P := by (with_reducible repeat (first | apply Kd.R_alloc | apply Kd.R_drewN | apply Kd.R_drew)); exact Kd.R_mono HO109.out (fun _ hk => ⟨hk.2, hk.1.2⟩)) : P := h
theorem yq94 {P : Prop} (h : P := by rw [hg]; exact (qa1 (w := w) (g := g) (row := none) yq73)) : P := h
theorem yq95 {P : Prop} (h : P := by repeat (first | (with_reducible first | exact HK.out | apply KeepBut.set_ | apply ql | apply qo | apply qm | refine qj ?_ GW101.out _) | exact HK.out)) : P := h
theorem yq96 {P : Prop} (h : P := by rw [hg]; exact Nat.ne_of_lt (qc1 (g := gb104) (o := .cells #[.slice Ao35 x105000_1.length co35, .int .i64 x105001_1, .int .i64 x105002_1, .int .i64 x105003_1] 32 (0, 0)) yq76)) : P := h
theorem yq97 {P : Prop} (h : P := by rw [hg]; exact Nat.ne_of_lt (qc1 (g := gb104) (o := .cells #[.slice Ao15 x105000_1.length co15, .int .i64 x105001_1, .int .i64 x105002_1, .int .i64 x105003_1] 32 (0, 0)) yq76)) : P := h
theorem yq98 {P : Prop} (h : P := by rw [hg]; exact Nat.ne_of_gt (qc1 (g := gb104) (o := .cells #[.slice Ao35 x105000_1.length co35, .int .i64 x105001_1, .int .i64 x105002_1, .int .i64 x105003_1] 32 (0, 0)) yq76)) : P := h
theorem yq99 {P : Prop} (h : P := by rw [hg]; exact Nat.ne_of_gt (qc1 (g := gb104) (o := .cells #[.slice Ao15 x105000_1.length co15, .int .i64 x105001_1, .int .i64 x105002_1, .int .i64 x105003_1] 32 (0, 0)) yq76)) : P := h
theorem yq100 {P : Prop} (h : P := by (try simp only [List.map_toArray, List.map_cons, List.map_nil]); first | done | rfl) : P := h
theorem yq101 {P : Prop} (h : P := by first | (go_simp; done) | (go_simp; rfl)) : P := h
theorem yq102 {P : Prop} (h : P := by repeat (first | (with_reducible first | exact HK.out | apply KeepBut.set_ | apply ql | apply qo | apply qm) | exact HK.out)) : P := h
def spec_l1Rd_version.l0 : Nat → Int → List Int → Int → List (S66) → Int → Int → Int → Option ((List (S66)) × Int × Int × Int × Int)
 | 0, _, _, _, _, _, _, _ => none
 | k + 1, x4, x1000, x1001, x105000, x105001, x105002, x105003 => if x4 > 0 then ((spec_l1Rd_edit.f k x1000 x1001 x105000 x105001 x105002 x105003).bind fun bt107 => ((spec_Apply.f k x105000 x105001 x105002 x105003 bt107.1 bt107.2.1 bt107.2.2.1 bt107.2.2.2.1 bt107.2.2.2.2.1).bind fun bt117 => (if bt117.2.2.2.2 = true then (spec_l1Rd_version.l0 k (wrap64 (x4 - 1)) x1000 bt107.2.2.2.2.2 bt117.1 bt117.2.1 bt117.2.2.1 bt117.2.2.2.1) else (spec_l1Rd_version.l0 k (wrap64 (x4 - 1)) x1000 bt107.2.2.2.2.2 x105000 x105001 x105002 x105003)))) else ((spec_l1Rd_once.f x1000 x1001 16).bind fun bt125 => (if bt125.1 = true then ((spec_l1Rd_meta.f k x1000 bt125.2).bind fun bt127 => (if x105000.length < 2513169434916 then (some ((x105000 ++ [(⟨bt127.1, bt127.2.1, bt127.2.2.1, bt127.2.2.2.1, bt127.2.2.2.2.1⟩ : S66)]), x105001, x105002, x105003, bt127.2.2.2.2.2)) else (none))) else (some (x105000, x105001, x105002, x105003, bt125.2))))
def spec_l1Rd_version.f (k : Nat) (s0_0 : List Int) (s0_1 : Int) : Option ((List (S66)) × Int × Int × Int × Int) := (spec_l1Rd_near.f k s0_0 s0_1 0 5).bind fun bt102 => ((spec_l1Rd_below.f s0_0 bt102.2 7).bind fun bt105 => (spec_l1Rd_version.l0 k bt105.1 s0_0 bt105.2 ([] : List (S66)) (wrap64 (1 + bt102.1)) 0 0))
def spec_l1Rd_version.T5 : Bool × List (List Nat × List Nat) := (true, [([], []), ([], []), ([], []), ([1, 2], [1, 2]), ([0, 3, 3], [0, 3]), ([4], [4]), ([5], [5]), ([5], [5]), ([], []), ([8, 6, 4, 0, 1, 2, 3, 4, 5, 6, 8], [6, 8]), ([7, 9, 0, 1, 2, 3, 4, 5, 6, 7, 8, 9], [7])])
def spec_l1Rd_version.B5 : List Nat := [0, 0, 0, 6, 15, 31, 63, 63, 0, 383, 1023]
theorem spec_l1Rd_version.tab5 : rtab .any (opsOf Try.f71 5) = spec_l1Rd_version.T5 := by kernel_rfl
theorem spec_l1Rd_version.bits5 : waitsOk spec_l1Rd_version.T5.2 spec_l1Rd_version.B5 = true := by kernel_rfl
def spec_l1Rd_version.T9 : Bool × List (List Nat × List Nat) := (true, [([], []), ([0], [0]), ([], []), ([2], [2]), ([3], [3]), ([1, 4, 3], [1, 4]), ([0, 1, 2, 3, 4, 5], []), ([6, 5, 5, 0, 1, 2, 3, 4, 5], [5, 6])])
def spec_l1Rd_version.B9 : List Nat := [0, 1, 0, 4, 12, 31, 63, 127]
theorem spec_l1Rd_version.tab9 : rtab .any (opsOf Try.f71 9) = spec_l1Rd_version.T9 := by kernel_rfl
theorem spec_l1Rd_version.bits9 : waitsOk spec_l1Rd_version.T9.2 spec_l1Rd_version.B9 = true := by kernel_rfl
set_option maxHeartbeats 8000000 in
set_option maxRecDepth 100000 in
theorem spec_l1Rd_version.calls (k : Nat) (g : Nat) (s0_0 : List Int) (s0_1 : Int) (r1 : List (S66)) (r2 : Int) (r3 : Int) (r4 : Int) (r5 : Int) (w0 w : World) (hI : IsS123 w0 w g s0_0 s0_1) (hB : Below w0.heap.size w0 w) (h : spec_l1Rd_version.f k s0_0 s0_1 = some (r1, r2, r3, r4, r5)) :
  Calls Try.prog 71 #[.pointer (some ⟨g, 0, none⟩)] w fun e w' => ∃ v0_ : Value, e = .returned (.agg #[v0_, .int .i64 r2, .int .i64 r3, .int .i64 r4]) ∧ Kd.R k66 66 w' w.heap.size (fun _ => True) v0_ r1 ∧ IsS123 w0 w' g s0_0 r5 ∧ Below w0.heap.size w0 w' ∧ KeepBut w w' g none := by
 have hu32 := Try.underlying32
 have HI0 := Qz.mk hI
 have HK := Qz.mk (KeepBut.refl w g none)
 have HL := Qz.mk hB.size
 clear hI
 have HW0 := Qz.mk hB.size
 have HB := Qz.mk hB
 clear hB
 have H : ((spec_l1Rd_near.f k s0_0 s0_1 0 5).bind fun bt102 => ((spec_l1Rd_below.f s0_0 bt102.2 7).bind fun bt105 => (spec_l1Rd_version.l0 k bt105.1 s0_0 bt105.2 ([] : List (S66)) (wrap64 (1 + bt102.1)) 0 0))) = some (r1, r2, r3, r4, r5) := h
 clear h
 replace H := Option.bind_eq_some_iff.mp H
 obtain ⟨⟨t102, t103⟩, A20, H⟩ := H
 replace H : ((spec_l1Rd_below.f s0_0 t103 7).bind fun bt105 => (spec_l1Rd_version.l0 k bt105.1 s0_0 bt105.2 ([] : List (S66)) (wrap64 (1 + t102)) 0 0)) = some (r1, r2, r3, r4, r5) := H
 have A2 := Qz.mk A20
 clear A20
 replace H := Option.bind_eq_some_iff.mp H
 obtain ⟨⟨t105, t106⟩, A30, H⟩ := H
 replace H : (spec_l1Rd_version.l0 k t105 s0_0 t106 ([] : List (S66)) (wrap64 (1 + t102)) 0 0) = some (r1, r2, r3, r4, r5) := H
 have A3 := Qz.mk A30
 clear A30
 have H' := Qz.mk H
 clear H
 go_enter Try.func71, Try.ntmps71
 go_wp2_with (first | ((with_reducible refine qf1 (N := 2) rfl ?_); refine qe1 ?hg (N := 2) ?hd (cs := #[.slice none 0 0, .int .i64 0, .int .i64 0, .int .i64 0]) (t := 32) ?hr ?_; (case hd => rfl); (case hg => rfl); (case hr => exact yq101); intro gb101 hg w4 hbox hb; replace HB := Qz.mk (qn (by repeat (first | (with_reducible first | exact HB.out | apply qi | apply qd | apply qh | refine qg ?_ (IsS123.ge HI0.out)) | exact HB.out)) hb); have BK101 := Qz.mk (hbox); have GW101 := Qz.mk ((by rw [hg]; exact (qa1 (w := w) (g := g) (row := none) yq102) : w.heap.size ≤ gb101)); have GE101 := Qz.mk ((Nat.le_trans HW0.out (by rw [hg]; exact (qa1 (w := w) (g := g) (row := none) yq102) : w.heap.size ≤ gb101) : w0.heap.size ≤ gb101)); replace HK := Qz.mk (KeepBut.trans yq102 (KeepBut.of_below hb g none) (.inl rfl)); have NB0_101 := Qz.mk ((by rw [hg]; exact Nat.ne_of_lt (IsS123.lt (show IsS123 w0 _ g s0_0 s0_1 from by repeat (first | (with_reducible first | exact HI0.out | apply IsS123.alloc | apply IsS123.drewN | apply IsS123.drew | apply IsS123.set_1) | exact HI0.out))) : g ≠ gb101)); have NB101_0 := Qz.mk ((by rw [hg]; exact Nat.ne_of_gt (IsS123.lt (show IsS123 w0 _ g s0_0 s0_1 from by repeat (first | (with_reducible first | exact HI0.out | apply IsS123.alloc | apply IsS123.drewN | apply IsS123.drew | apply IsS123.set_1) | exact HI0.out))) : gb101 ≠ g)); replace HI0 := Qz.mk (IsS123.below (by repeat (first | (with_reducible first | exact HI0.out | apply IsS123.alloc | apply IsS123.drewN | apply IsS123.drew | apply IsS123.set_1) | exact HI0.out)) hb); clear hb hbox hg) | ((with_reducible refine qp (f := 102) rfl ?_); refine qz (some 8) rfl rfl Try.func102 (by kernel_rfl) rfl #[.pointer (some ⟨g, 0, none⟩), .int .i64 0, .int .i64 5] rfl yq100 ?_; (with_reducible refine (spec_l1Rd_near.calls k g s0_0 s0_1 0 5 t102 t103 w0 _ ?side1 ?side2 A2.out).mono ?_); (case side1 => repeat (first | (with_reducible first | exact HI0.out | apply IsS123.alloc | apply IsS123.drewN | apply IsS123.drew | apply IsS123.set_1 | apply (fun h_ => IsS123.far h_ NB0_101.out _)) | exact HI0.out)); (case side2 => repeat (first | (with_reducible first | exact HB.out | apply qi | apply qd | apply qh | refine qg ?_ (IsS123.ge HI0.out) | refine qg ?_ GE101.out) | exact HB.out)); rintro e w5 ⟨rfl, hi, hb, hk⟩; refine ⟨_, rfl, ?_⟩; replace BK101 := Qz.mk (KeepBut.blk hk (g' := gb101) (o := .cells #[.slice none 0 0, .int .i64 0, .int .i64 0, .int .i64 0] 32 (0, 0)) yq74 NB101_0.out (by simp)); replace HK := Qz.mk (KeepBut.trans yq95 hk (.inl rfl)); replace HB := Qz.mk (hb); replace HI0 := Qz.mk (hi); (try clear hb); (try clear hk); (try clear hi)) | ((with_reducible refine qf1 (N := 3) rfl ?_); refine qe1 ?hg (N := 3) ?hd (cs := #[.slice none 0 0, .int .i64 0, .int .i64 0, .int .i64 0]) (t := 32) ?hr ?_; (case hd => rfl); (case hg => rfl); (case hr => exact yq101); intro gb104 hg w6 hbox hb; replace HB := Qz.mk (qn (by repeat (first | (with_reducible first | exact HB.out | apply qi | apply qd | apply qh | refine qg ?_ (IsS123.ge HI0.out) | refine qg ?_ GE101.out) | exact HB.out)) hb); have BK104 := Qz.mk (hbox); have GW104 := Qz.mk ((by rw [hg]; exact (qa1 (w := w) (g := g) (row := none) yq95) : w.heap.size ≤ gb104)); have GE104 := Qz.mk ((Nat.le_trans HW0.out (by rw [hg]; exact (qa1 (w := w) (g := g) (row := none) yq95) : w.heap.size ≤ gb104) : w0.heap.size ≤ gb104)); replace HK := Qz.mk (KeepBut.trans yq95 (KeepBut.of_below hb g none) (.inl rfl)); have NB101_104 := Qz.mk ((yq89 : gb101 ≠ gb104)); have NB104_101 := Qz.mk ((yq90 : gb104 ≠ gb101)); replace BK101 := Qz.mk (qq (g := gb101) (o := .cells #[.slice none 0 0, .int .i64 0, .int .i64 0, .int .i64 0] 32 (0, 0)) yq74 hb); have NB0_104 := Qz.mk ((by rw [hg]; exact Nat.ne_of_lt (IsS123.lt (show IsS123 w0 _ g s0_0 t103 from by repeat (first | (with_reducible first | exact HI0.out | apply IsS123.alloc | apply IsS123.drewN | apply IsS123.drew | apply IsS123.set_1 | apply (fun h_ => IsS123.far h_ NB0_101.out _)) | exact HI0.out))) : g ≠ gb104)); have NB104_0 := Qz.mk ((by rw [hg]; exact Nat.ne_of_gt (IsS123.lt (show IsS123 w0 _ g s0_0 t103 from by repeat (first | (with_reducible first | exact HI0.out | apply IsS123.alloc | apply IsS123.drewN | apply IsS123.drew | apply IsS123.set_1 | apply (fun h_ => IsS123.far h_ NB0_101.out _)) | exact HI0.out))) : gb104 ≠ g)); replace HI0 := Qz.mk (IsS123.below (by repeat (first | (with_reducible first | exact HI0.out | apply IsS123.alloc | apply IsS123.drewN | apply IsS123.drew | apply IsS123.set_1 | apply (fun h_ => IsS123.far h_ NB0_101.out _)) | exact HI0.out)) hb); clear hb hbox hg; have hnb7 := NB104_101.out; have hnc7 := NB101_104.out; have hnb8 := NB104_0.out; have hnc8 := NB0_104.out; have hcz9_0 : w6.cell? ⟨gb104, 0, none⟩ = some (.slice none 0 0) := (qb BK104.out 0).trans rfl; have hcz9_1 : w6.cell? ⟨gb104, 1, none⟩ = some (.int .i64 0) := (qb BK104.out 1).trans rfl; have hcz9_2 : w6.cell? ⟨gb104, 2, none⟩ = some (.int .i64 0) := (qb BK104.out 2).trans rfl; have hcz9_3 : w6.cell? ⟨gb104, 3, none⟩ = some (.int .i64 0) := (qb BK104.out 3).trans rfl; have hfz9_0 := qe BK104.out 0; have hfz9_1 := qe BK104.out 1; have hfz9_2 := qe BK104.out 2; have hfz9_3 := qe BK104.out 3) | ((with_reducible refine qp (f := 80) rfl ?_); refine qz (some 12) rfl rfl Try.func80 (by kernel_rfl) rfl #[.pointer (some ⟨g, 0, none⟩), .int .i64 7] rfl yq100 ?_; (with_reducible refine (spec_l1Rd_below.calls g s0_0 t103 7 t105 t106 w0 _ ?side1 ?side2 A3.out).mono ?_); (case side1 => exact yq78); (case side2 => exact yq80); rintro e w10 ⟨rfl, hi, hb, hk⟩; refine ⟨_, rfl, ?_⟩; replace BK101 := Qz.mk (KeepBut.blk hk (g' := gb101) (o := .cells #[.slice none 0 0, .int .i64 0, .int .i64 0, .int .i64 0] 32 (0, 0)) (by (with_reducible repeat (first | refine qc ?_ _ | refine qf ?_ | refine qa ?_ _)); refine qu ?_ NB101_104.out _; (with_reducible repeat (first | refine qc ?_ _ | refine qf ?_ | refine qa ?_ _)); refine qu ?_ NB101_104.out _; (with_reducible repeat (first | refine qc ?_ _ | refine qf ?_ | refine qa ?_ _)); refine qu ?_ NB101_104.out _; (with_reducible repeat (first | refine qc ?_ _ | refine qf ?_ | refine qa ?_ _)); refine qu ?_ NB101_104.out _; (with_reducible repeat (first | refine qc ?_ _ | refine qf ?_ | refine qa ?_ _)); exact BK101.out) NB101_0.out (by simp)); replace BK104 := Qz.mk (KeepBut.blk hk (g' := gb104) (o := .cells #[.slice none 0 0, .int .i64 (wrap64 (1 + t102)), .int .i64 0, .int .i64 0] 32 (0, 0)) (by (with_reducible repeat (first | refine qc ?_ _ | refine qf ?_ | refine qa ?_ _)); refine qx (cs := #[.slice none 0 0, .int .i64 (wrap64 (1 + t102)), .int .i64 0, .int .i64 0]) ?_ 3 _ rfl; (with_reducible repeat (first | refine qc ?_ _ | refine qf ?_ | refine qa ?_ _)); refine qx (cs := #[.slice none 0 0, .int .i64 (wrap64 (1 + t102)), .int .i64 0, .int .i64 0]) ?_ 2 _ rfl; (with_reducible repeat (first | refine qc ?_ _ | refine qf ?_ | refine qa ?_ _)); refine qx (cs := #[.slice none 0 0, .int .i64 0, .int .i64 0, .int .i64 0]) ?_ 1 _ rfl; (with_reducible repeat (first | refine qc ?_ _ | refine qf ?_ | refine qa ?_ _)); refine qx (cs := #[.slice none 0 0, .int .i64 0, .int .i64 0, .int .i64 0]) ?_ 0 _ rfl; (with_reducible repeat (first | refine qc ?_ _ | refine qf ?_ | refine qa ?_ _)); exact BK104.out) NB104_0.out (by simp)); replace HK := Qz.mk (KeepBut.trans yq73 hk (.inl rfl)); replace HB := Qz.mk (hb); replace HI0 := Qz.mk (hi); (try clear hb); (try clear hk); (try clear hi)))
 go_loopg [4] k (fun kq v4 w' => ∃ (x4_1 : Int) (x1001_1 : Int) (x105000_1 : List (S66)) (x105001_1 : Int) (x105002_1 : Int) (x105003_1 : Int) (u105000 : Value), v4 = .int .i64 x4_1 ∧ Qz (spec_l1Rd_version.l0 kq x4_1 s0_0 x1001_1 x105000_1 x105001_1 x105002_1 x105003_1 = some (r1, r2, r3, r4, r5)) ∧ Qz (kq ≤ k) ∧ Qz (Kd.R k66 66 w' w.heap.size (fun _ => True) u105000 x105000_1) ∧ Qz (w'.heap[gb101]? = some (.cells #[(.slice none 0 0), .int .i64 0, .int .i64 0, .int .i64 0] 32 (0, 0))) ∧ Qz (w'.heap[gb104]? = some (.cells #[u105000, .int .i64 x105001_1, .int .i64 x105002_1, .int .i64 x105003_1] 32 (0, 0))) ∧ Qz (IsS123 w0 w' g s0_0 x1001_1) ∧ Qz (KeepBut w w' g none) ∧ Qz (Below w0.heap.size w0 w'))
 case atStart => exact ⟨(t105), (t106), (([] : List (S66))), (wrap64 (1 + t102)), (0), (0), (.slice none 0 0), (by first | rfl | (simp; done) | (simp [*]; done)), H', ⟨Nat.le_refl _⟩, ⟨by first | exact Kd.R_nil _ _ _ _ _ | exact Kd.N_nil _ _ _ _ _ | exact Kd.V_nil _ _ _ _ _ | exact Kd.Q_nil _ _ _ _ _ | exact Kd.S_nil _ _ _ _ _⟩, ⟨by (with_reducible repeat (first | refine qc ?_ _ | refine qf ?_ | refine qa ?_ _)); exact BK101.out⟩, ⟨by (with_reducible repeat (first | refine qc ?_ _ | refine qf ?_ | refine qa ?_ _)); exact BK104.out⟩, ⟨by repeat (first | (with_reducible first | exact HI0.out | apply IsS123.alloc | apply IsS123.drewN | apply IsS123.drew | apply IsS123.set_1 | apply (fun h_ => IsS123.far h_ NB0_101.out _) | apply (fun h_ => IsS123.far h_ NB0_104.out _)) | exact HI0.out)⟩, ⟨by repeat (first | (with_reducible first | exact HK.out | apply KeepBut.set_ | apply ql | apply qo | apply qm | refine qj ?_ GW101.out _ | refine qj ?_ GW104.out _) | exact HK.out)⟩, ⟨by repeat (first | (with_reducible first | exact HB.out | apply qi | apply qd | apply qh | refine qg ?_ (IsS123.ge HI0.out) | refine qg ?_ GE101.out | refine qg ?_ GE104.out) | exact HB.out)⟩⟩
 case round =>
  clear H'
  try clear c1
  try clear p2
  try clear p6
  try clear c7
  try clear c8
  try clear c10
  try clear hcz9_0
  try clear hcz9_1
  try clear hcz9_2
  try clear hcz9_3
  try clear hfz9_0
  try clear hfz9_1
  try clear hfz9_2
  try clear hfz9_3
  obtain ⟨x4_1, x1001_1, x105000_1, x105001_1, x105002_1, x105003_1, u105000, rfl, HA, HK1, HO_105000, BK101, BK104, HI0, HK, HB⟩ := hrel
  cases gk with
  | zero => exact absurd HA.out (by simp [spec_l1Rd_version.l0])
  | succ k1 =>
   have H := HA.out
   clear HA
   simp only [spec_l1Rd_version.l0] at H
   by_cases c11 : x4_1 > 0
   ·rw [if_pos c11] at H
    have c11b0 : decide (0 < x4_1) = true := decide_eq_true c11
    clear c11
    replace H := Option.bind_eq_some_iff.mp H
    obtain ⟨⟨t107, t110, t113, t114, t115, t116⟩, A120, H⟩ := H
    replace H : ((spec_Apply.f k1 x105000_1 x105001_1 x105002_1 x105003_1 t107 t110 t113 t114 t115).bind fun bt117 => (if bt117.2.2.2.2 = true then (spec_l1Rd_version.l0 k1 (wrap64 (x4_1 - 1)) s0_0 t116 bt117.1 bt117.2.1 bt117.2.2.1 bt117.2.2.2.1) else (spec_l1Rd_version.l0 k1 (wrap64 (x4_1 - 1)) s0_0 t116 x105000_1 x105001_1 x105002_1 x105003_1))) = some (r1, r2, r3, r4, r5) := H
    have A12 := Qz.mk A120
    clear A120
    replace H := Option.bind_eq_some_iff.mp H
    obtain ⟨⟨t117, t120, t121, t122, t123⟩, A130, H⟩ := H
    replace H : (if t123 = true then (spec_l1Rd_version.l0 k1 (wrap64 (x4_1 - 1)) s0_0 t116 t117 t120 t121 t122) else (spec_l1Rd_version.l0 k1 (wrap64 (x4_1 - 1)) s0_0 t116 x105000_1 x105001_1 x105002_1 x105003_1)) = some (r1, r2, r3, r4, r5) := H
    have A13 := Qz.mk A130
    clear A130
    by_cases c14 : t123 = true
    ·subst c14
     have H1 : (spec_l1Rd_version.l0 k1 (wrap64 (x4_1 - 1)) s0_0 t116 t117 t120 t121 t122) = some (r1, r2, r3, r4, r5) := by rw [if_pos rfl] at H; exact H
     clear H
     have H := H1
     clear H1
     have H' := Qz.mk H
     clear H
     obtain ⟨Ao15, co15, eo15⟩ := Kd.R_slice HO_105000.out
     subst eo15
     try go_wp2
     replace HO_105000 := Qz.mk (Kd.R_drew HO_105000.out)
     replace BK101 := Qz.mk (qf BK101.out)
     replace BK104 := Qz.mk (qf BK104.out)
     replace HI0 := Qz.mk (IsS123.drew HI0.out)
     replace HK := Qz.mk (qo HK.out)
     replace HB := Qz.mk (qh HB.out)
     refine start_ (n := 11) (S := fun w' => w'.cell? ⟨gb104, 0, none⟩ = some (.slice Ao15 x105000_1.length co15) ∧ w'.cell? ⟨gb104, 1, none⟩ = some (.int .i64 x105001_1) ∧ w'.cell? ⟨gb104, 2, none⟩ = some (.int .i64 x105002_1) ∧ w'.cell? ⟨gb104, 3, none⟩ = some (.int .i64 x105003_1)) (ds := []) bq4 (by kernel_rfl) rfl rfl ⟨(qb BK104.out 0).trans rfl, (qb BK104.out 1).trans rfl, (qb BK104.out 2).trans rfl, (qb BK104.out 3).trans rfl⟩ (fun hHeld => ?_); refine with_tabW spec_l1Rd_version.tab5 spec_l1Rd_version.bits5 (fun HT_ HW_ => ?_)
     generalize wr.drew = w16 at HO_105000 BK101 BK104 HI0 HK HB hHeld ⊢
     refine pure_ (i := 1) (N := some 19) (v := ?_) (a' := ?_) bq6 rfl rfl (qr HT_.out (by kernel_rfl)) (fun _ _ _ h => h) (Or.inl ⟨by rfl, ?_⟩) ?_ ?_
     rotate_left
     ·intro w'
      go_simp
      with_reducible rfl
     rotate_left
     ·simp only [Act.put, sq1, sq2, sq3, i64_w, i32_w]
      rfl
     refine take_ (i := 0) (N := some 18) (v := ?_) (a' := ?_) bq19 rfl rfl (qb1 HT_.out HW_.out (by kernel_rfl)) (fun _ _ _ h => h) (Or.inl ⟨by rfl, ?_⟩) hHeld ?_ ?_
     rotate_left
     ·rintro w' ⟨s0, s1, s2, s3⟩
      go_simp
      with_reducible rfl
     rotate_left
     ·simp only [Act.put, sq1, sq2, sq3, i64_w, i32_w]
      rfl
     refine take_ (i := 2) (N := some 20) (v := ?_) (a' := ?_) bq23 rfl rfl (qb1 HT_.out HW_.out (by kernel_rfl)) (fun _ _ _ h => h) (Or.inl ⟨by rfl, ?_⟩) hHeld ?_ ?_
     rotate_left
     ·rintro w' ⟨s0, s1, s2, s3⟩
      go_simp
      with_reducible rfl
     rotate_left
     ·simp only [Act.put, sq1, sq2, sq3, i64_w, i32_w]
      rfl
     refine join_ (σ := Value × Value × Value × Nat) 2 bq63 (fun s_ => [(21, .agg #[s_.1, s_.2.1, .int .i64 t113, .int .i64 t114, .int .i64 t115]), (22, .tuple #[.agg #[s_.2.2.1, .int .i64 t120, .int .i64 t121, .int .i64 t122], .bool true]), (5, .pointer (some ⟨s_.2.2.2, 0, none⟩)), (17, .tuple #[.agg #[s_.2.2.1, .int .i64 t120, .int .i64 t121, .int .i64 t122], .bool true]), (23, .agg #[s_.2.2.1, .int .i64 t120, .int .i64 t121, .int .i64 t122]), (24, .bool true)]) (fun s_ w' => (w'.cell? ⟨gb104, 0, none⟩ = some (.slice Ao15 x105000_1.length co15) ∧ w'.cell? ⟨gb104, 1, none⟩ = some (.int .i64 x105001_1) ∧ w'.cell? ⟨gb104, 2, none⟩ = some (.int .i64 x105002_1) ∧ w'.cell? ⟨gb104, 3, none⟩ = some (.int .i64 x105003_1)) ∧ (Kd.R k66 66 w' w.heap.size (fun k_ => some k_ ≠ (s_.2.2.1 : Value).ownBlock ∧ some k_ ≠ (.slice Ao15 x105000_1.length co15 : Value).ownBlock) s_.1 t107) ∧ (Kd.R (Kd.int .i64) 2 w' w.heap.size (fun _ => True) s_.2.1 t110) ∧ (Kd.R k66 66 w' w.heap.size (fun k_ => some k_ ≠ (s_.1 : Value).ownBlock ∧ some k_ ≠ (.slice Ao15 x105000_1.length co15 : Value).ownBlock) s_.2.2.1 t117) ∧ (Kd.R k66 66 w' w.heap.size (fun k_ => some k_ ≠ (s_.1 : Value).ownBlock ∧ some k_ ≠ (s_.2.2.1 : Value).ownBlock) (.slice Ao15 x105000_1.length co15) x105000_1) ∧ (w'.heap[gb101]? = some (.cells #[.slice none 0 0, .int .i64 0, .int .i64 0, .int .i64 0] 32 (0, 0))) ∧ (w'.heap[gb104]? = some (.cells #[.slice Ao15 x105000_1.length co15, .int .i64 x105001_1, .int .i64 x105002_1, .int .i64 x105003_1] 32 (0, 0))) ∧ (w'.heap[s_.2.2.2]? = some (.cells #[.slice none 0 0, .int .i64 0, .int .i64 0, .int .i64 0] 32 (0, 0))) ∧ (w.heap.size ≤ s_.2.2.2) ∧ (w0.heap.size ≤ s_.2.2.2) ∧ (g ≠ s_.2.2.2) ∧ (s_.2.2.2 ≠ g) ∧ (gb101 ≠ s_.2.2.2) ∧ (s_.2.2.2 ≠ gb101) ∧ (gb104 ≠ s_.2.2.2) ∧ (s_.2.2.2 ≠ gb104) ∧ (IsS123 w0 w' g s0_0 t116) ∧ (KeepBut w w' g none) ∧ (Below w0.heap.size w0 w')) ?_ ?_
     rotate_left
     ·intro hCont
      refine two_ (i := 3) (j := 8) (Ni := some 21) (Nj := some 5) bq29 bq24 rfl rfl rfl rfl (two_of HT_.out (by kernel_rfl)) (by decide) (by decide) (fun K hK => ?_) (fun K hK => ?_)
      ·skip
       refine goes_ Try.func88 (by kernel_rfl) rfl #[.pointer (some ⟨g, 0, none⟩), .agg #[.slice Ao15 x105000_1.length co15, .int .i64 x105001_1, .int .i64 x105002_1, .int .i64 x105003_1]] (by rfl) rfl rfl yq82 ?_
       with_reducible refine (spec_l1Rd_edit.calls k1 g s0_0 x1001_1 _ _ x105000_1 x105001_1 x105002_1 x105003_1 t107 t110 t113 t114 t115 t116 w0 _ ?side1 ?side2 ?side3 ?side4 A12.out).mono ?_
       (case side1 => exact yq78)
       (case side2 => exact yq80)
       (case side3 => exact Kd.C_foot_own (IsS123.apart (show IsS123 w0 _ g s0_0 x1001_1 from by repeat (first | (with_reducible first | exact HI0.out | apply IsS123.alloc | apply IsS123.drewN | apply IsS123.drew | apply IsS123.set_1 | apply (fun h_ => IsS123.far h_ NB0_101.out _) | apply (fun h_ => IsS123.far h_ NB0_104.out _)) | exact HI0.out)) yq77 (by decide)) (fun _ h_ => h_.2))
       (case side4 => exact (Kd.R_reads' HO_105000.out).2.1)
       rintro e w17 ⟨v108, v111, rfl, ho0, ho1, hi, hb, hk⟩
       refine ⟨_, rfl, ?_⟩
       replace BK101 := Qz.mk (KeepBut.blk hk (g' := gb101) (o := .cells #[.slice none 0 0, .int .i64 0, .int .i64 0, .int .i64 0] 32 (0, 0)) yq74 NB101_0.out (by simp))
       replace BK104 := Qz.mk (KeepBut.blk hk (g' := gb104) (o := .cells #[.slice Ao15 x105000_1.length co15, .int .i64 x105001_1, .int .i64 x105002_1, .int .i64 x105003_1] 32 (0, 0)) yq76 NB104_0.out (by simp))
       have HO109 := Qz.mk (Kd.R_lower (Kd.R_new' ho0 (Kd.R_lt yq77)) (qa1 (w := w) (g := g) (row := none) yq73))
       replace HO_105000 := Qz.mk (Kd.R_mono (Kd.R_told (Kd.R_oldK (IsS123.apart (show IsS123 w0 _ g s0_0 x1001_1 from by repeat (first | (with_reducible first | exact HI0.out | apply IsS123.alloc | apply IsS123.drewN | apply IsS123.drew | apply IsS123.set_1 | apply (fun h_ => IsS123.far h_ NB0_101.out _) | apply (fun h_ => IsS123.far h_ NB0_104.out _)) | exact HI0.out)) yq77 (by decide)) hk) (Kd.R_base ho0)) (fun _ h_ => h_.1))
       have HO112 := Qz.mk (Kd.R_lower ho1 (qa1 (w := w) (g := g) (row := none) yq73))
       replace HK := Qz.mk (KeepBut.trans yq73 hk (.inl rfl))
       replace HB := Qz.mk (hb)
       replace HI0 := Qz.mk (hi)
       (try clear hb)
       (try clear hk)
       (try clear hi)
       (try clear ho0)
       (try clear ho1)
       obtain ⟨Ao18, co18, eo18⟩ := Kd.R_slice HO109.out
       (first | subst eo18 | (injection eo18 with f1_ f2_ f3_; have f4_ := f1_.symm; have f5_ := f3_.symm; clear f1_ f2_ f3_; subst f4_; subst f5_))
       obtain ⟨Ao19, co19, eo19⟩ := Kd.R_slice HO112.out
       (first | subst eo19 | (injection eo19 with f1_ f2_ f3_; have f4_ := f1_.symm; have f5_ := f3_.symm; clear f1_ f2_ f3_; subst f4_; subst f5_))
       refine hK.out _ _ ⟨(qb BK104.out 0).trans rfl, (qb BK104.out 1).trans rfl, (qb BK104.out 2).trans rfl, (qb BK104.out 3).trans rfl⟩ (fun hHeld => ?_)
       clear hK K
       refine norm_ (a' := ?_) ?_ ?_
       rotate_left
       ·show Act.put _ (some 21) _ = _
        simp only [Act.put, sq1, sq2, sq3, i64_w, i32_w]
        rfl
       refine two_ (i := 4) (j := 8) (Ni := some 22) (Nj := some 5) bq35 bq30 rfl rfl rfl rfl (two_of HT_.out (by kernel_rfl)) (by decide) (by decide) (fun K hK => ?_) (fun K hK => ?_)
       ·skip
        refine goes_ Try.func17 (by kernel_rfl) rfl #[.agg #[.slice Ao15 x105000_1.length co15, .int .i64 x105001_1, .int .i64 x105002_1, .int .i64 x105003_1], .agg #[.slice Ao18 t107.length co18, .slice Ao19 t110.length co19, .int .i64 t113, .int .i64 t114, .int .i64 t115]] (by rfl) rfl rfl yq82 ?_
        with_reducible refine (spec_Apply.calls k1 _ _ x105000_1 x105001_1 x105002_1 x105003_1 _ _ t107 _ _ t110 t113 t114 t115 t117 t120 t121 t122 true _ ?side1 ?side2 ?side3 ?side4 ?side5 ?side6 A13.out).mono ?_
        (case side1 => exact yq86)
        (case side2 => exact (Kd.R_reads' HO_105000.out).2.1)
        (case side3 => exact yq88)
        (case side4 => exact (Kd.R_reads' HO109.out).2.1)
        (case side5 => exact yq87)
        (case side6 => exact (Kd.R_reads' HO112.out).2.1)
        rintro e w20 ⟨v118, rfl, ho0, hb⟩
        refine ⟨_, rfl, ?_⟩
        replace HO112 := Qz.mk (Kd.R_below yq83 hb)
        have HO119 := Qz.mk (Kd.R_lower (Kd.R_new' (Kd.R_new' ho0 (Kd.R_lt yq77)) (Kd.R_lt yq84)) (qa1 (w := w) (g := g) (row := none) yq73))
        replace HO_105000 := Qz.mk (Kd.R_elder' yq77 (Kd.R_base ho0) hb)
        replace HO109 := Qz.mk (Kd.R_elder' yq84 (Kd.R_base ho0) hb)
        replace BK101 := Qz.mk (qq (g := gb101) (o := .cells #[.slice none 0 0, .int .i64 0, .int .i64 0, .int .i64 0] 32 (0, 0)) yq74 hb)
        replace BK104 := Qz.mk (qq (g := gb104) (o := .cells #[.slice Ao15 x105000_1.length co15, .int .i64 x105001_1, .int .i64 x105002_1, .int .i64 x105003_1] 32 (0, 0)) yq76 hb)
        replace HK := Qz.mk (KeepBut.trans yq73 (KeepBut.of_below hb g none) (.inl rfl))
        replace HB := Qz.mk (qn yq80 hb)
        replace HI0 := Qz.mk (IsS123.below yq78 hb)
        (try clear hb)
        (try clear hk)
        (try clear hi)
        (try clear ho0)
        refine hK.out _ _ ⟨(qb BK104.out 0).trans rfl, (qb BK104.out 1).trans rfl, (qb BK104.out 2).trans rfl, (qb BK104.out 3).trans rfl⟩ (fun hHeld => ?_)
        clear hK K
        refine norm_ (a' := ?_) ?_ ?_
        rotate_left
        ·show Act.put _ (some 22) _ = _
         simp only [Act.put, sq1, sq2, sq3, i64_w, i32_w]
         rfl
        refine pure_ (i := 5) (N := some 17) (v := ?_) (a' := ?_) bq42 rfl rfl (qr HT_.out (by kernel_rfl)) (fun _ _ _ h => h) (Or.inl ⟨by rfl, ?_⟩) ?_ ?_
        rotate_left
        ·intro w'
         go_simp
         with_reducible rfl
        rotate_left
        ·simp only [Act.put, sq1, sq2, sq3, i64_w, i32_w]
         rfl
        refine pure_ (i := 6) (N := some 23) (v := ?_) (a' := ?_) bq48 rfl rfl (qr HT_.out (by kernel_rfl)) (fun _ _ _ h => h) (Or.inl ⟨by rfl, ?_⟩) ?_ ?_
        rotate_left
        ·intro w'
         go_simp
         with_reducible rfl
        rotate_left
        ·simp only [Act.put, sq1, sq2, sq3, i64_w, i32_w]
         rfl
        refine pure_ (i := 7) (N := some 24) (v := ?_) (a' := ?_) bq57 rfl rfl (qr HT_.out (by kernel_rfl)) (fun _ _ _ h => h) (Or.inl ⟨by rfl, ?_⟩) ?_ ?_
        rotate_left
        ·intro w'
         go_simp
         with_reducible rfl
        rotate_left
        ·simp only [Act.put, sq1, sq2, sq3, i64_w, i32_w]
         rfl
        refine one_ (i := 8) (N := some 5) bq63 rfl rfl (one_of HT_.out (by kernel_rfl)) (by decide) (fun K hK => ?_)
        refine box_step ?hg (N := 5) ?hd (cs := #[.slice none 0 0, .int .i64 0, .int .i64 0, .int .i64 0]) (t := 32) ?hr ?_; (case hd => rfl); (case hg => rfl); (case hr => exact yq101)
        intro gb124 hg w21 hbox hb
        replace HO_105000 := Qz.mk (Kd.R_below yq77 hb)
        replace HO109 := Qz.mk (Kd.R_below yq84 hb)
        replace HO112 := Qz.mk (Kd.R_below yq83 hb)
        replace HO119 := Qz.mk (Kd.R_below (by (with_reducible repeat (first | apply Kd.R_alloc | apply Kd.R_drewN | apply Kd.R_drew)); exact HO119.out) hb)
        replace HB := Qz.mk (qn yq80 hb)
        have BK124 := Qz.mk (hbox)
        have GW124 := Qz.mk ((yq94 : w.heap.size ≤ gb124))
        have GE124 := Qz.mk ((Nat.le_trans HW0.out (yq94 : w.heap.size ≤ gb124) : w0.heap.size ≤ gb124))
        replace HK := Qz.mk (KeepBut.trans yq73 (KeepBut.of_below hb g none) (.inl rfl))
        have NB101_124 := Qz.mk ((yq89 : gb101 ≠ gb124))
        have NB124_101 := Qz.mk ((yq90 : gb124 ≠ gb101))
        replace BK101 := Qz.mk (qq (g := gb101) (o := .cells #[.slice none 0 0, .int .i64 0, .int .i64 0, .int .i64 0] 32 (0, 0)) yq74 hb)
        have NB104_124 := Qz.mk ((yq97 : gb104 ≠ gb124))
        have NB124_104 := Qz.mk ((yq99 : gb124 ≠ gb104))
        replace BK104 := Qz.mk (qq (g := gb104) (o := .cells #[.slice Ao15 x105000_1.length co15, .int .i64 x105001_1, .int .i64 x105002_1, .int .i64 x105003_1] 32 (0, 0)) yq76 hb)
        have NB0_124 := Qz.mk ((by rw [hg]; exact Nat.ne_of_lt (IsS123.lt (show IsS123 w0 _ g s0_0 t116 from by repeat (first | (with_reducible first | exact HI0.out | apply IsS123.alloc | apply IsS123.drewN | apply IsS123.drew | apply IsS123.set_1 | apply (fun h_ => IsS123.far h_ NB0_101.out _) | apply (fun h_ => IsS123.far h_ NB0_104.out _)) | exact HI0.out))) : g ≠ gb124))
        have NB124_0 := Qz.mk ((by rw [hg]; exact Nat.ne_of_gt (IsS123.lt (show IsS123 w0 _ g s0_0 t116 from by repeat (first | (with_reducible first | exact HI0.out | apply IsS123.alloc | apply IsS123.drewN | apply IsS123.drew | apply IsS123.set_1 | apply (fun h_ => IsS123.far h_ NB0_101.out _) | apply (fun h_ => IsS123.far h_ NB0_104.out _)) | exact HI0.out))) : gb124 ≠ g))
        replace HI0 := Qz.mk (IsS123.below yq78 hb)
        clear hb hbox hg
        refine hK.out _ _ ⟨(qb BK104.out 0).trans rfl, (qb BK104.out 1).trans rfl, (qb BK104.out 2).trans rfl, (qb BK104.out 3).trans rfl⟩ (fun hHeld => ?_)
        clear hK K
        refine norm_ (a' := ?_) ?_ ?_
        rotate_left
        ·show Act.put _ (some 5) _ = _
         simp only [Act.put, sq1, sq2, sq3, i64_w, i32_w]
         rfl
        exact norm_ (by simp only [putAll, Act.put, sq1, sq2, sq3]) (hCont (.slice Ao18 t107.length co18, .slice Ao19 t110.length co19, v118, gb124) _ ⟨hHeld, yq93, yq83, yq92, yq91, yq74, yq76, yq85, GW124.out, GE124.out, NB0_124.out, NB124_0.out, NB101_124.out, NB124_101.out, NB104_124.out, NB124_104.out, yq79, yq75, yq81⟩)
       ·skip
        refine box_step ?hg (N := 5) ?hd (cs := #[.slice none 0 0, .int .i64 0, .int .i64 0, .int .i64 0]) (t := 32) ?hr ?_; (case hd => rfl); (case hg => rfl); (case hr => exact yq101)
        intro gb124 hg w18 hbox hb
        replace HO_105000 := Qz.mk (Kd.R_below yq77 hb)
        replace HO109 := Qz.mk (Kd.R_below yq84 hb)
        replace HO112 := Qz.mk (Kd.R_below yq83 hb)
        replace HB := Qz.mk (qn yq80 hb)
        have BK124 := Qz.mk (hbox)
        have GW124 := Qz.mk ((yq94 : w.heap.size ≤ gb124))
        have GE124 := Qz.mk ((Nat.le_trans HW0.out (yq94 : w.heap.size ≤ gb124) : w0.heap.size ≤ gb124))
        replace HK := Qz.mk (KeepBut.trans yq73 (KeepBut.of_below hb g none) (.inl rfl))
        have NB101_124 := Qz.mk ((yq89 : gb101 ≠ gb124))
        have NB124_101 := Qz.mk ((yq90 : gb124 ≠ gb101))
        replace BK101 := Qz.mk (qq (g := gb101) (o := .cells #[.slice none 0 0, .int .i64 0, .int .i64 0, .int .i64 0] 32 (0, 0)) yq74 hb)
        have NB104_124 := Qz.mk ((yq97 : gb104 ≠ gb124))
        have NB124_104 := Qz.mk ((yq99 : gb124 ≠ gb104))
        replace BK104 := Qz.mk (qq (g := gb104) (o := .cells #[.slice Ao15 x105000_1.length co15, .int .i64 x105001_1, .int .i64 x105002_1, .int .i64 x105003_1] 32 (0, 0)) yq76 hb)
        have NB0_124 := Qz.mk ((by rw [hg]; exact Nat.ne_of_lt (IsS123.lt (show IsS123 w0 _ g s0_0 t116 from by repeat (first | (with_reducible first | exact HI0.out | apply IsS123.alloc | apply IsS123.drewN | apply IsS123.drew | apply IsS123.set_1 | apply (fun h_ => IsS123.far h_ NB0_101.out _) | apply (fun h_ => IsS123.far h_ NB0_104.out _)) | exact HI0.out))) : g ≠ gb124))
        have NB124_0 := Qz.mk ((by rw [hg]; exact Nat.ne_of_gt (IsS123.lt (show IsS123 w0 _ g s0_0 t116 from by repeat (first | (with_reducible first | exact HI0.out | apply IsS123.alloc | apply IsS123.drewN | apply IsS123.drew | apply IsS123.set_1 | apply (fun h_ => IsS123.far h_ NB0_101.out _) | apply (fun h_ => IsS123.far h_ NB0_104.out _)) | exact HI0.out))) : gb124 ≠ g))
        replace HI0 := Qz.mk (IsS123.below yq78 hb)
        clear hb hbox hg
        obtain ⟨Ao19, co19, eo19⟩ := Kd.R_slice HO109.out
        (first | subst eo19 | (injection eo19 with f1_ f2_ f3_; have f4_ := f1_.symm; have f5_ := f3_.symm; clear f1_ f2_ f3_; subst f4_; subst f5_))
        obtain ⟨Ao20, co20, eo20⟩ := Kd.R_slice HO112.out
        (first | subst eo20 | (injection eo20 with f1_ f2_ f3_; have f4_ := f1_.symm; have f5_ := f3_.symm; clear f1_ f2_ f3_; subst f4_; subst f5_))
        refine hK.out _ _ ⟨(qb BK104.out 0).trans rfl, (qb BK104.out 1).trans rfl, (qb BK104.out 2).trans rfl, (qb BK104.out 3).trans rfl⟩ (fun hHeld => ?_)
        clear hK K
        refine norm_ (a' := ?_) ?_ ?_
        rotate_left
        ·show Act.put _ (some 5) _ = _
         simp only [Act.put, sq1, sq2, sq3, i64_w, i32_w]
         rfl
        refine one_ (i := 4) (N := some 22) bq36 rfl rfl (one_of HT_.out (by kernel_rfl)) (by decide) (fun K hK => ?_)
        refine goes_ Try.func17 (by kernel_rfl) rfl #[.agg #[.slice Ao15 x105000_1.length co15, .int .i64 x105001_1, .int .i64 x105002_1, .int .i64 x105003_1], .agg #[.slice Ao19 t107.length co19, .slice Ao20 t110.length co20, .int .i64 t113, .int .i64 t114, .int .i64 t115]] (by rfl) rfl rfl yq82 ?_
        with_reducible refine (spec_Apply.calls k1 _ _ x105000_1 x105001_1 x105002_1 x105003_1 _ _ t107 _ _ t110 t113 t114 t115 t117 t120 t121 t122 true _ ?side1 ?side2 ?side3 ?side4 ?side5 ?side6 A13.out).mono ?_
        (case side1 => exact yq86)
        (case side2 => exact (Kd.R_reads' HO_105000.out).2.1)
        (case side3 => exact yq88)
        (case side4 => exact (Kd.R_reads' HO109.out).2.1)
        (case side5 => exact yq87)
        (case side6 => exact (Kd.R_reads' HO112.out).2.1)
        rintro e w21 ⟨v118, rfl, ho0, hb⟩
        refine ⟨_, rfl, ?_⟩
        replace HO112 := Qz.mk (Kd.R_below yq83 hb)
        have HO119 := Qz.mk (Kd.R_lower (Kd.R_new' (Kd.R_new' ho0 (Kd.R_lt yq77)) (Kd.R_lt yq84)) (qa1 (w := w) (g := g) (row := none) yq75))
        replace HO_105000 := Qz.mk (Kd.R_elder' yq77 (Kd.R_base ho0) hb)
        replace HO109 := Qz.mk (Kd.R_elder' yq84 (Kd.R_base ho0) hb)
        replace BK101 := Qz.mk (qq (g := gb101) (o := .cells #[.slice none 0 0, .int .i64 0, .int .i64 0, .int .i64 0] 32 (0, 0)) yq74 hb)
        replace BK104 := Qz.mk (qq (g := gb104) (o := .cells #[.slice Ao15 x105000_1.length co15, .int .i64 x105001_1, .int .i64 x105002_1, .int .i64 x105003_1] 32 (0, 0)) yq76 hb)
        replace BK124 := Qz.mk (qq (g := gb124) (o := .cells #[.slice none 0 0, .int .i64 0, .int .i64 0, .int .i64 0] 32 (0, 0)) yq85 hb)
        replace HK := Qz.mk (KeepBut.trans yq75 (KeepBut.of_below hb g none) (.inl rfl))
        replace HB := Qz.mk (qn yq81 hb)
        replace HI0 := Qz.mk (IsS123.below yq79 hb)
        (try clear hb)
        (try clear hk)
        (try clear hi)
        (try clear ho0)
        refine hK.out _ _ ⟨(qb BK104.out 0).trans rfl, (qb BK104.out 1).trans rfl, (qb BK104.out 2).trans rfl, (qb BK104.out 3).trans rfl⟩ (fun hHeld => ?_)
        clear hK K
        refine norm_ (a' := ?_) ?_ ?_
        rotate_left
        ·show Act.put _ (some 22) _ = _
         simp only [Act.put, sq1, sq2, sq3, i64_w, i32_w]
         rfl
        refine pure_ (i := 5) (N := some 17) (v := ?_) (a' := ?_) bq43 rfl rfl (qr HT_.out (by kernel_rfl)) (fun _ _ _ h => h) (Or.inl ⟨by rfl, ?_⟩) ?_ ?_
        rotate_left
        ·intro w'
         go_simp
         with_reducible rfl
        rotate_left
        ·simp only [Act.put, sq1, sq2, sq3, i64_w, i32_w]
         rfl
        refine pure_ (i := 6) (N := some 23) (v := ?_) (a' := ?_) bq53 rfl rfl (qr HT_.out (by kernel_rfl)) (fun _ _ _ h => h) (Or.inl ⟨by rfl, ?_⟩) ?_ ?_
        rotate_left
        ·intro w'
         go_simp
         with_reducible rfl
        rotate_left
        ·simp only [Act.put, sq1, sq2, sq3, i64_w, i32_w]
         rfl
        refine pure_ (i := 7) (N := some 24) (v := ?_) (a' := ?_) bq63 rfl rfl (qr HT_.out (by kernel_rfl)) (fun _ _ _ h => h) (Or.inl ⟨by rfl, ?_⟩) ?_ ?_
        rotate_left
        ·intro w'
         go_simp
         with_reducible rfl
        rotate_left
        ·simp only [Act.put, sq1, sq2, sq3, i64_w, i32_w]
         rfl
        exact norm_ (by simp only [putAll, Act.put, sq1, sq2, sq3]) (hCont (.slice Ao19 t107.length co19, .slice Ao20 t110.length co20, v118, gb124) _ ⟨hHeld, yq93, yq83, yq92, yq91, yq74, yq76, yq85, GW124.out, GE124.out, NB0_124.out, NB124_0.out, NB101_124.out, NB124_101.out, NB104_124.out, NB124_104.out, yq79, yq75, yq81⟩)
      ·skip
       refine box_step ?hg (N := 5) ?hd (cs := #[.slice none 0 0, .int .i64 0, .int .i64 0, .int .i64 0]) (t := 32) ?hr ?_; (case hd => rfl); (case hg => rfl); (case hr => exact yq101)
       intro gb124 hg w17 hbox hb
       replace HO_105000 := Qz.mk (Kd.R_below yq77 hb)
       replace HB := Qz.mk (qn yq80 hb)
       have BK124 := Qz.mk (hbox)
       have GW124 := Qz.mk ((yq94 : w.heap.size ≤ gb124))
       have GE124 := Qz.mk ((Nat.le_trans HW0.out (yq94 : w.heap.size ≤ gb124) : w0.heap.size ≤ gb124))
       replace HK := Qz.mk (KeepBut.trans yq73 (KeepBut.of_below hb g none) (.inl rfl))
       have NB101_124 := Qz.mk ((yq89 : gb101 ≠ gb124))
       have NB124_101 := Qz.mk ((yq90 : gb124 ≠ gb101))
       replace BK101 := Qz.mk (qq (g := gb101) (o := .cells #[.slice none 0 0, .int .i64 0, .int .i64 0, .int .i64 0] 32 (0, 0)) yq74 hb)
       have NB104_124 := Qz.mk ((yq97 : gb104 ≠ gb124))
       have NB124_104 := Qz.mk ((yq99 : gb124 ≠ gb104))
       replace BK104 := Qz.mk (qq (g := gb104) (o := .cells #[.slice Ao15 x105000_1.length co15, .int .i64 x105001_1, .int .i64 x105002_1, .int .i64 x105003_1] 32 (0, 0)) yq76 hb)
       have NB0_124 := Qz.mk ((by rw [hg]; exact Nat.ne_of_lt (IsS123.lt (show IsS123 w0 _ g s0_0 x1001_1 from by repeat (first | (with_reducible first | exact HI0.out | apply IsS123.alloc | apply IsS123.drewN | apply IsS123.drew | apply IsS123.set_1 | apply (fun h_ => IsS123.far h_ NB0_101.out _) | apply (fun h_ => IsS123.far h_ NB0_104.out _)) | exact HI0.out))) : g ≠ gb124))
       have NB124_0 := Qz.mk ((by rw [hg]; exact Nat.ne_of_gt (IsS123.lt (show IsS123 w0 _ g s0_0 x1001_1 from by repeat (first | (with_reducible first | exact HI0.out | apply IsS123.alloc | apply IsS123.drewN | apply IsS123.drew | apply IsS123.set_1 | apply (fun h_ => IsS123.far h_ NB0_101.out _) | apply (fun h_ => IsS123.far h_ NB0_104.out _)) | exact HI0.out))) : gb124 ≠ g))
       replace HI0 := Qz.mk (IsS123.below yq78 hb)
       clear hb hbox hg
       refine hK.out _ _ ⟨(qb BK104.out 0).trans rfl, (qb BK104.out 1).trans rfl, (qb BK104.out 2).trans rfl, (qb BK104.out 3).trans rfl⟩ (fun hHeld => ?_)
       clear hK K
       refine norm_ (a' := ?_) ?_ ?_
       rotate_left
       ·show Act.put _ (some 5) _ = _
        simp only [Act.put, sq1, sq2, sq3, i64_w, i32_w]
        rfl
       refine one_ (i := 3) (N := some 21) bq30 rfl rfl (one_of HT_.out (by kernel_rfl)) (by decide) (fun K hK => ?_)
       refine goes_ Try.func88 (by kernel_rfl) rfl #[.pointer (some ⟨g, 0, none⟩), .agg #[.slice Ao15 x105000_1.length co15, .int .i64 x105001_1, .int .i64 x105002_1, .int .i64 x105003_1]] (by rfl) rfl rfl yq82 ?_
       with_reducible refine (spec_l1Rd_edit.calls k1 g s0_0 x1001_1 _ _ x105000_1 x105001_1 x105002_1 x105003_1 t107 t110 t113 t114 t115 t116 w0 _ ?side1 ?side2 ?side3 ?side4 A12.out).mono ?_
       (case side1 => exact yq79)
       (case side2 => exact yq81)
       (case side3 => exact Kd.C_foot_own (IsS123.apart (show IsS123 w0 _ g s0_0 x1001_1 from by repeat (first | (with_reducible first | exact HI0.out | apply IsS123.alloc | apply IsS123.drewN | apply IsS123.drew | apply IsS123.set_1 | apply (fun h_ => IsS123.far h_ NB0_101.out _) | apply (fun h_ => IsS123.far h_ NB0_104.out _) | apply (fun h_ => IsS123.far h_ NB0_124.out _)) | exact HI0.out)) yq77 (by decide)) (fun _ h_ => h_.2))
       (case side4 => exact (Kd.R_reads' HO_105000.out).2.1)
       rintro e w18 ⟨v108, v111, rfl, ho0, ho1, hi, hb, hk⟩
       refine ⟨_, rfl, ?_⟩
       replace BK101 := Qz.mk (KeepBut.blk hk (g' := gb101) (o := .cells #[.slice none 0 0, .int .i64 0, .int .i64 0, .int .i64 0] 32 (0, 0)) yq74 NB101_0.out (by simp))
       replace BK104 := Qz.mk (KeepBut.blk hk (g' := gb104) (o := .cells #[.slice Ao15 x105000_1.length co15, .int .i64 x105001_1, .int .i64 x105002_1, .int .i64 x105003_1] 32 (0, 0)) yq76 NB104_0.out (by simp))
       replace BK124 := Qz.mk (KeepBut.blk hk (g' := gb124) (o := .cells #[.slice none 0 0, .int .i64 0, .int .i64 0, .int .i64 0] 32 (0, 0)) yq85 NB124_0.out (by simp))
       have HO109 := Qz.mk (Kd.R_lower (Kd.R_new' ho0 (Kd.R_lt yq77)) (qa1 (w := w) (g := g) (row := none) yq75))
       replace HO_105000 := Qz.mk (Kd.R_mono (Kd.R_told (Kd.R_oldK (IsS123.apart (show IsS123 w0 _ g s0_0 x1001_1 from by repeat (first | (with_reducible first | exact HI0.out | apply IsS123.alloc | apply IsS123.drewN | apply IsS123.drew | apply IsS123.set_1 | apply (fun h_ => IsS123.far h_ NB0_101.out _) | apply (fun h_ => IsS123.far h_ NB0_104.out _) | apply (fun h_ => IsS123.far h_ NB0_124.out _)) | exact HI0.out)) yq77 (by decide)) hk) (Kd.R_base ho0)) (fun _ h_ => h_.1))
       have HO112 := Qz.mk (Kd.R_lower ho1 (qa1 (w := w) (g := g) (row := none) yq75))
       replace HK := Qz.mk (KeepBut.trans yq75 hk (.inl rfl))
       replace HB := Qz.mk (hb)
       replace HI0 := Qz.mk (hi)
       (try clear hb)
       (try clear hk)
       (try clear hi)
       (try clear ho0)
       (try clear ho1)
       obtain ⟨Ao19, co19, eo19⟩ := Kd.R_slice HO109.out
       (first | subst eo19 | (injection eo19 with f1_ f2_ f3_; have f4_ := f1_.symm; have f5_ := f3_.symm; clear f1_ f2_ f3_; subst f4_; subst f5_))
       obtain ⟨Ao20, co20, eo20⟩ := Kd.R_slice HO112.out
       (first | subst eo20 | (injection eo20 with f1_ f2_ f3_; have f4_ := f1_.symm; have f5_ := f3_.symm; clear f1_ f2_ f3_; subst f4_; subst f5_))
       refine hK.out _ _ ⟨(qb BK104.out 0).trans rfl, (qb BK104.out 1).trans rfl, (qb BK104.out 2).trans rfl, (qb BK104.out 3).trans rfl⟩ (fun hHeld => ?_)
       clear hK K
       refine norm_ (a' := ?_) ?_ ?_
       rotate_left
       ·show Act.put _ (some 21) _ = _
        simp only [Act.put, sq1, sq2, sq3, i64_w, i32_w]
        rfl
       refine one_ (i := 4) (N := some 22) bq36 rfl rfl (one_of HT_.out (by kernel_rfl)) (by decide) (fun K hK => ?_)
       refine goes_ Try.func17 (by kernel_rfl) rfl #[.agg #[.slice Ao15 x105000_1.length co15, .int .i64 x105001_1, .int .i64 x105002_1, .int .i64 x105003_1], .agg #[.slice Ao19 t107.length co19, .slice Ao20 t110.length co20, .int .i64 t113, .int .i64 t114, .int .i64 t115]] (by rfl) rfl rfl yq82 ?_
       with_reducible refine (spec_Apply.calls k1 _ _ x105000_1 x105001_1 x105002_1 x105003_1 _ _ t107 _ _ t110 t113 t114 t115 t117 t120 t121 t122 true _ ?side1 ?side2 ?side3 ?side4 ?side5 ?side6 A13.out).mono ?_
       (case side1 => exact yq86)
       (case side2 => exact (Kd.R_reads' HO_105000.out).2.1)
       (case side3 => exact yq88)
       (case side4 => exact (Kd.R_reads' HO109.out).2.1)
       (case side5 => exact yq87)
       (case side6 => exact (Kd.R_reads' HO112.out).2.1)
       rintro e w21 ⟨v118, rfl, ho0, hb⟩
       refine ⟨_, rfl, ?_⟩
       replace HO112 := Qz.mk (Kd.R_below yq83 hb)
       have HO119 := Qz.mk (Kd.R_lower (Kd.R_new' (Kd.R_new' ho0 (Kd.R_lt yq77)) (Kd.R_lt yq84)) (qa1 (w := w) (g := g) (row := none) yq75))
       replace HO_105000 := Qz.mk (Kd.R_elder' yq77 (Kd.R_base ho0) hb)
       replace HO109 := Qz.mk (Kd.R_elder' yq84 (Kd.R_base ho0) hb)
       replace BK101 := Qz.mk (qq (g := gb101) (o := .cells #[.slice none 0 0, .int .i64 0, .int .i64 0, .int .i64 0] 32 (0, 0)) yq74 hb)
       replace BK104 := Qz.mk (qq (g := gb104) (o := .cells #[.slice Ao15 x105000_1.length co15, .int .i64 x105001_1, .int .i64 x105002_1, .int .i64 x105003_1] 32 (0, 0)) yq76 hb)
       replace BK124 := Qz.mk (qq (g := gb124) (o := .cells #[.slice none 0 0, .int .i64 0, .int .i64 0, .int .i64 0] 32 (0, 0)) yq85 hb)
       replace HK := Qz.mk (KeepBut.trans yq75 (KeepBut.of_below hb g none) (.inl rfl))
       replace HB := Qz.mk (qn yq81 hb)
       replace HI0 := Qz.mk (IsS123.below yq79 hb)
       (try clear hb)
       (try clear hk)
       (try clear hi)
       (try clear ho0)
       refine hK.out _ _ ⟨(qb BK104.out 0).trans rfl, (qb BK104.out 1).trans rfl, (qb BK104.out 2).trans rfl, (qb BK104.out 3).trans rfl⟩ (fun hHeld => ?_)
       clear hK K
       refine norm_ (a' := ?_) ?_ ?_
       rotate_left
       ·show Act.put _ (some 22) _ = _
        simp only [Act.put, sq1, sq2, sq3, i64_w, i32_w]
        rfl
       refine pure_ (i := 5) (N := some 17) (v := ?_) (a' := ?_) bq43 rfl rfl (qr HT_.out (by kernel_rfl)) (fun _ _ _ h => h) (Or.inl ⟨by rfl, ?_⟩) ?_ ?_
       rotate_left
       ·intro w'
        go_simp
        with_reducible rfl
       rotate_left
       ·simp only [Act.put, sq1, sq2, sq3, i64_w, i32_w]
        rfl
       refine pure_ (i := 6) (N := some 23) (v := ?_) (a' := ?_) bq53 rfl rfl (qr HT_.out (by kernel_rfl)) (fun _ _ _ h => h) (Or.inl ⟨by rfl, ?_⟩) ?_ ?_
       rotate_left
       ·intro w'
        go_simp
        with_reducible rfl
       rotate_left
       ·simp only [Act.put, sq1, sq2, sq3, i64_w, i32_w]
        rfl
       refine pure_ (i := 7) (N := some 24) (v := ?_) (a' := ?_) bq63 rfl rfl (qr HT_.out (by kernel_rfl)) (fun _ _ _ h => h) (Or.inl ⟨by rfl, ?_⟩) ?_ ?_
       rotate_left
       ·intro w'
        go_simp
        with_reducible rfl
       rotate_left
       ·simp only [Act.put, sq1, sq2, sq3, i64_w, i32_w]
        rfl
       exact norm_ (by simp only [putAll, Act.put, sq1, sq2, sq3]) (hCont (.slice Ao19 t107.length co19, .slice Ao20 t110.length co20, v118, gb124) _ ⟨hHeld, yq93, yq83, yq92, yq91, yq74, yq76, yq85, GW124.out, GE124.out, NB0_124.out, NB124_0.out, NB101_124.out, NB124_101.out, NB104_124.out, NB124_104.out, yq79, yq75, yq81⟩)
     rintro ⟨v108, v111, v118, gb124⟩ w22 ⟨hS_, h0_, h1_, h2_, h3_, h4_, h5_, h6_, h7_, h8_, h9_, h10_, h11_, h12_, h13_, h14_, h15_, h16_, h17_⟩
     have n0_ : Qz (Kd.R k66 66 w22 w.heap.size (fun k_ => some k_ ≠ (v118 : Value).ownBlock ∧ some k_ ≠ (.slice Ao15 x105000_1.length co15 : Value).ownBlock) v108 t107) := ⟨h0_⟩
     have n1_ : Qz (Kd.R (Kd.int .i64) 2 w22 w.heap.size (fun _ => True) v111 t110) := ⟨h1_⟩
     have n2_ : Qz (Kd.R k66 66 w22 w.heap.size (fun k_ => some k_ ≠ (v108 : Value).ownBlock ∧ some k_ ≠ (.slice Ao15 x105000_1.length co15 : Value).ownBlock) v118 t117) := ⟨h2_⟩
     have n3_ : Qz (Kd.R k66 66 w22 w.heap.size (fun k_ => some k_ ≠ (v108 : Value).ownBlock ∧ some k_ ≠ (v118 : Value).ownBlock) (.slice Ao15 x105000_1.length co15) x105000_1) := ⟨h3_⟩
     have n4_ : Qz (w22.heap[gb101]? = some (.cells #[.slice none 0 0, .int .i64 0, .int .i64 0, .int .i64 0] 32 (0, 0))) := ⟨h4_⟩
     have n5_ : Qz (w22.heap[gb104]? = some (.cells #[.slice Ao15 x105000_1.length co15, .int .i64 x105001_1, .int .i64 x105002_1, .int .i64 x105003_1] 32 (0, 0))) := ⟨h5_⟩
     have n6_ : Qz (w22.heap[gb124]? = some (.cells #[.slice none 0 0, .int .i64 0, .int .i64 0, .int .i64 0] 32 (0, 0))) := ⟨h6_⟩
     have n7_ : Qz (w.heap.size ≤ gb124) := ⟨h7_⟩
     have n8_ : Qz (w0.heap.size ≤ gb124) := ⟨h8_⟩
     have n9_ : Qz (g ≠ gb124) := ⟨h9_⟩
     have n10_ : Qz (gb124 ≠ g) := ⟨h10_⟩
     have n11_ : Qz (gb101 ≠ gb124) := ⟨h11_⟩
     have n12_ : Qz (gb124 ≠ gb101) := ⟨h12_⟩
     have n13_ : Qz (gb104 ≠ gb124) := ⟨h13_⟩
     have n14_ : Qz (gb124 ≠ gb104) := ⟨h14_⟩
     have n15_ : Qz (IsS123 w0 w22 g s0_0 t116) := ⟨h15_⟩
     have n16_ : Qz (KeepBut w w22 g none) := ⟨h16_⟩
     have n17_ : Qz (Below w0.heap.size w0 w22) := ⟨h17_⟩
     clear HO_105000
     clear BK101
     clear BK104
     clear HI0
     clear HK
     clear HB
     clear h0_ h1_ h2_ h3_ h4_ h5_ h6_ h7_ h8_ h9_ h10_ h11_ h12_ h13_ h14_ h15_ h16_ h17_
     have HO109 := n0_
     have HO112 := n1_
     have HO119 := n2_
     have HO_105000 := n3_
     have BK101 := n4_
     have BK104 := n5_
     have BK124 := n6_
     have GW124 := n7_
     have GE124 := n8_
     have NB0_124 := n9_
     have NB124_0 := n10_
     have NB101_124 := n11_
     have NB124_101 := n12_
     have NB104_124 := n13_
     have NB124_104 := n14_
     have HI0 := n15_
     have HK := n16_
     have HB := n17_
     clear n0_ n1_ n2_ n3_ n4_ n5_ n6_ n7_ n8_ n9_ n10_ n11_ n12_ n13_ n14_ n15_ n16_ n17_
     have hHeld : w22.cell? ⟨gb104, 0, none⟩ = some (.slice Ao15 x105000_1.length co15) ∧ w22.cell? ⟨gb104, 1, none⟩ = some (.int .i64 x105001_1) ∧ w22.cell? ⟨gb104, 2, none⟩ = some (.int .i64 x105002_1) ∧ w22.cell? ⟨gb104, 3, none⟩ = some (.int .i64 x105003_1) := hS_
     obtain ⟨Ao23, co23, eo23⟩ := Kd.R_slice HO119.out
     (first | subst eo23 | (injection eo23 with f1_ f2_ f3_; have f4_ := f1_.symm; have f5_ := f3_.symm; clear f1_ f2_ f3_; subst f4_; subst f5_))
     refine norm_ (a' := ?_) ?_ ?_
     rotate_left
     ·simp only [putAll, Act.put, sq1, sq2, sq3]
      rfl
     refine one_ (i := 9) (N := none) bq70 rfl rfl (one_of HT_.out (by kernel_rfl)) (by decide) (fun K hK => ?_)
     have hs24 : w22.cell? ⟨gb124, 0, none⟩ = some (.slice none 0 0) := (qb BK124.out 0).trans rfl
     have hfs24 := qe BK124.out 0
     have hns24_0 := NB101_124.out
     have hns24_1 := NB104_124.out
     have hms24_0 := NB124_101.out
     have hms24_1 := NB124_104.out
     have hs25 : w22.cell? ⟨gb124, 1, none⟩ = some (.int .i64 0) := (qb BK124.out 1).trans rfl
     have hfs25 := qe BK124.out 1
     have hns25_0 := NB101_124.out
     have hns25_1 := NB104_124.out
     have hms25_0 := NB124_101.out
     have hms25_1 := NB124_104.out
     have hs26 : w22.cell? ⟨gb124, 2, none⟩ = some (.int .i64 0) := (qb BK124.out 2).trans rfl
     have hfs26 := qe BK124.out 2
     have hns26_0 := NB101_124.out
     have hns26_1 := NB104_124.out
     have hms26_0 := NB124_101.out
     have hms26_1 := NB124_104.out
     have hs27 : w22.cell? ⟨gb124, 3, none⟩ = some (.int .i64 0) := (qb BK124.out 3).trans rfl
     have hfs27 := qe BK124.out 3
     have hns27_0 := NB101_124.out
     have hns27_1 := NB104_124.out
     have hms27_0 := NB124_101.out
     have hms27_1 := NB124_104.out
     refine skip_ (w1 := ?_) (by rfl) rfl ?_ ?_
     rotate_left
     ·go_simp
      rfl
     refine hK.out _ _ ⟨((qy (p := ⟨gb124, _, none⟩) NB104_124.out _).trans (((qy (p := ⟨gb124, _, none⟩) NB104_124.out _).trans (((qy (p := ⟨gb124, _, none⟩) NB104_124.out _).trans (((qy (p := ⟨gb124, _, none⟩) NB104_124.out _).trans (hHeld.1)))))))), ((qy (p := ⟨gb124, _, none⟩) NB104_124.out _).trans (((qy (p := ⟨gb124, _, none⟩) NB104_124.out _).trans (((qy (p := ⟨gb124, _, none⟩) NB104_124.out _).trans (((qy (p := ⟨gb124, _, none⟩) NB104_124.out _).trans (hHeld.2.1)))))))), ((qy (p := ⟨gb124, _, none⟩) NB104_124.out _).trans (((qy (p := ⟨gb124, _, none⟩) NB104_124.out _).trans (((qy (p := ⟨gb124, _, none⟩) NB104_124.out _).trans (((qy (p := ⟨gb124, _, none⟩) NB104_124.out _).trans (hHeld.2.2.1)))))))), ((qy (p := ⟨gb124, _, none⟩) NB104_124.out _).trans (((qy (p := ⟨gb124, _, none⟩) NB104_124.out _).trans (((qy (p := ⟨gb124, _, none⟩) NB104_124.out _).trans (((qy (p := ⟨gb124, _, none⟩) NB104_124.out _).trans (hHeld.2.2.2))))))))⟩ (fun hHeld => ?_)
     clear hK K
     refine pure_ (i := 10) (N := some 6) (v := ?_) (a' := ?_) bq114 rfl rfl (qr HT_.out (by kernel_rfl)) (fun _ _ _ h => h) (Or.inl ⟨by rfl, ?_⟩) ?_ ?_
     rotate_left
     ·intro w'
      go_simp
      with_reducible rfl
     rotate_left
     ·simp only [Act.put, sq1, sq2, sq3, i64_w, i32_w]
      rfl
     refine done_ (done_of HT_.out (by kernel_rfl)) ?_
     have hnb28 := NB124_101.out
     have hnc28 := NB101_124.out
     have hnb29 := NB124_104.out
     have hnc29 := NB104_124.out
     have hnb30 := NB124_0.out
     have hnc30 := NB0_124.out
     have hcz31_0 : w22.cell? ⟨gb124, 0, none⟩ = some (.slice none 0 0) := (qb BK124.out 0).trans rfl
     have hcz31_1 : w22.cell? ⟨gb124, 1, none⟩ = some (.int .i64 0) := (qb BK124.out 1).trans rfl
     have hcz31_2 : w22.cell? ⟨gb124, 2, none⟩ = some (.int .i64 0) := (qb BK124.out 2).trans rfl
     have hcz31_3 : w22.cell? ⟨gb124, 3, none⟩ = some (.int .i64 0) := (qb BK124.out 3).trans rfl
     have hfz31_0 := qe BK124.out 0
     have hfz31_1 := qe BK124.out 1
     have hfz31_2 := qe BK124.out 2
     have hfz31_3 := qe BK124.out 3
     have hnb32 := NB104_101.out
     have hnc32 := NB101_104.out
     have hnb33 := NB104_0.out
     have hnc33 := NB0_104.out
     have hcz34_0 : w22.cell? ⟨gb104, 0, none⟩ = some (.slice Ao15 x105000_1.length co15) := (qb BK104.out 0).trans rfl
     have hcz34_1 : w22.cell? ⟨gb104, 1, none⟩ = some (.int .i64 x105001_1) := (qb BK104.out 1).trans rfl
     have hcz34_2 : w22.cell? ⟨gb104, 2, none⟩ = some (.int .i64 x105002_1) := (qb BK104.out 2).trans rfl
     have hcz34_3 : w22.cell? ⟨gb104, 3, none⟩ = some (.int .i64 x105003_1) := (qb BK104.out 3).trans rfl
     have hfz34_0 := qe BK104.out 0
     have hfz34_1 := qe BK104.out 1
     have hfz34_2 := qe BK104.out 2
     have hfz34_3 := qe BK104.out 3
     try go_wp2
     go_roundg k1
     case measure => have := HK1.out; omega
     case rel => exact ⟨(wrap64 (x4_1 - 1)), (t116), (t117), (t120), (t121), (t122), (.slice Ao23 t117.length co23), (by first | rfl | (simp; done) | (simp [*]; done)), H', ⟨by have := HK1.out; omega⟩, ⟨by (with_reducible repeat (first | apply Kd.R_alloc | apply Kd.R_drewN | apply Kd.R_drew)); exact Kd.R_mono (Kd.R_far (p := ⟨gb104, 3, none⟩) (Kd.R_far (p := ⟨gb104, 2, none⟩) (Kd.R_far (p := ⟨gb104, 1, none⟩) (Kd.R_far (p := ⟨gb104, 0, none⟩) (Kd.R_far (p := ⟨gb124, 3, none⟩) (Kd.R_far (p := ⟨gb124, 2, none⟩) (Kd.R_far (p := ⟨gb124, 1, none⟩) (Kd.R_far (p := ⟨gb124, 0, none⟩) (Kd.R_types (Kd.R_types HO119.out BK124.out (by decide)) BK104.out (by decide)) (fun _ hk => hk.1.2) (.slice Ao23 t117.length co23)) (fun _ hk => hk.1.2) (.int .i64 t120)) (fun _ hk => hk.1.2) (.int .i64 t121)) (fun _ hk => hk.1.2) (.int .i64 t122)) (fun _ hk => hk.2) (.slice Ao23 t117.length co23)) (fun _ hk => hk.2) (.int .i64 t120)) (fun _ hk => hk.2) (.int .i64 t121)) (fun _ hk => hk.2) (.int .i64 t122)) (fun _ hk => trivial)⟩, ⟨by (with_reducible repeat (first | refine qc ?_ _ | refine qf ?_ | refine qa ?_ _)); refine qu ?_ NB101_104.out _; (with_reducible repeat (first | refine qc ?_ _ | refine qf ?_ | refine qa ?_ _)); refine qu ?_ NB101_104.out _; (with_reducible repeat (first | refine qc ?_ _ | refine qf ?_ | refine qa ?_ _)); refine qu ?_ NB101_104.out _; (with_reducible repeat (first | refine qc ?_ _ | refine qf ?_ | refine qa ?_ _)); refine qu ?_ NB101_104.out _; (with_reducible repeat (first | refine qc ?_ _ | refine qf ?_ | refine qa ?_ _)); refine qu ?_ NB101_124.out _; (with_reducible repeat (first | refine qc ?_ _ | refine qf ?_ | refine qa ?_ _)); refine qu ?_ NB101_124.out _; (with_reducible repeat (first | refine qc ?_ _ | refine qf ?_ | refine qa ?_ _)); refine qu ?_ NB101_124.out _; (with_reducible repeat (first | refine qc ?_ _ | refine qf ?_ | refine qa ?_ _)); refine qu ?_ NB101_124.out _; (with_reducible repeat (first | refine qc ?_ _ | refine qf ?_ | refine qa ?_ _)); exact BK101.out⟩, ⟨by (with_reducible repeat (first | refine qc ?_ _ | refine qf ?_ | refine qa ?_ _)); refine qx (cs := #[.slice Ao23 t117.length co23, .int .i64 t120, .int .i64 t121, .int .i64 x105003_1]) ?_ 3 _ rfl; (with_reducible repeat (first | refine qc ?_ _ | refine qf ?_ | refine qa ?_ _)); refine qx (cs := #[.slice Ao23 t117.length co23, .int .i64 t120, .int .i64 x105002_1, .int .i64 x105003_1]) ?_ 2 _ rfl; (with_reducible repeat (first | refine qc ?_ _ | refine qf ?_ | refine qa ?_ _)); refine qx (cs := #[.slice Ao23 t117.length co23, .int .i64 x105001_1, .int .i64 x105002_1, .int .i64 x105003_1]) ?_ 1 _ rfl; (with_reducible repeat (first | refine qc ?_ _ | refine qf ?_ | refine qa ?_ _)); refine qx (cs := #[.slice Ao15 x105000_1.length co15, .int .i64 x105001_1, .int .i64 x105002_1, .int .i64 x105003_1]) ?_ 0 _ rfl; (with_reducible repeat (first | refine qc ?_ _ | refine qf ?_ | refine qa ?_ _)); refine qu ?_ NB104_124.out _; (with_reducible repeat (first | refine qc ?_ _ | refine qf ?_ | refine qa ?_ _)); refine qu ?_ NB104_124.out _; (with_reducible repeat (first | refine qc ?_ _ | refine qf ?_ | refine qa ?_ _)); refine qu ?_ NB104_124.out _; (with_reducible repeat (first | refine qc ?_ _ | refine qf ?_ | refine qa ?_ _)); refine qu ?_ NB104_124.out _; (with_reducible repeat (first | refine qc ?_ _ | refine qf ?_ | refine qa ?_ _)); exact BK104.out⟩, ⟨by repeat (first | (with_reducible first | exact HI0.out | apply IsS123.alloc | apply IsS123.drewN | apply IsS123.drew | apply IsS123.set_1 | apply (fun h_ => IsS123.far h_ NB0_101.out _) | apply (fun h_ => IsS123.far h_ NB0_104.out _) | apply (fun h_ => IsS123.far h_ NB0_124.out _)) | exact HI0.out)⟩, ⟨by repeat (first | (with_reducible first | exact HK.out | apply KeepBut.set_ | apply ql | apply qo | apply qm | refine qj ?_ GW101.out _ | refine qj ?_ GW104.out _ | refine qj ?_ GW124.out _) | exact HK.out)⟩, ⟨by repeat (first | (with_reducible first | exact HB.out | apply qi | apply qd | apply qh | refine qg ?_ (IsS123.ge HI0.out) | refine qg ?_ GE101.out | refine qg ?_ GE104.out | refine qg ?_ GE124.out) | exact HB.out)⟩⟩
    ·replace c14 := Bool.eq_false_iff.mpr c14
     subst c14
     have H1 : (spec_l1Rd_version.l0 k1 (wrap64 (x4_1 - 1)) s0_0 t116 x105000_1 x105001_1 x105002_1 x105003_1) = some (r1, r2, r3, r4, r5) := by rw [if_neg (show ¬ (false = true) by decide)] at H; exact H
     clear H
     have H := H1
     clear H1
     have H' := Qz.mk H
     clear H
     obtain ⟨Ao35, co35, eo35⟩ := Kd.R_slice HO_105000.out
     subst eo35
     try go_wp2
     replace HO_105000 := Qz.mk (Kd.R_drew HO_105000.out)
     replace BK101 := Qz.mk (qf BK101.out)
     replace BK104 := Qz.mk (qf BK104.out)
     replace HI0 := Qz.mk (IsS123.drew HI0.out)
     replace HK := Qz.mk (qo HK.out)
     replace HB := Qz.mk (qh HB.out)
     refine start_ (n := 11) (S := fun w' => w'.cell? ⟨gb104, 0, none⟩ = some (.slice Ao35 x105000_1.length co35) ∧ w'.cell? ⟨gb104, 1, none⟩ = some (.int .i64 x105001_1) ∧ w'.cell? ⟨gb104, 2, none⟩ = some (.int .i64 x105002_1) ∧ w'.cell? ⟨gb104, 3, none⟩ = some (.int .i64 x105003_1)) (ds := []) bq4 (by kernel_rfl) rfl rfl ⟨(qb BK104.out 0).trans rfl, (qb BK104.out 1).trans rfl, (qb BK104.out 2).trans rfl, (qb BK104.out 3).trans rfl⟩ (fun hHeld => ?_); refine with_tabW spec_l1Rd_version.tab5 spec_l1Rd_version.bits5 (fun HT_ HW_ => ?_)
     generalize wr.drew = w36 at HO_105000 BK101 BK104 HI0 HK HB hHeld ⊢
     refine pure_ (i := 1) (N := some 19) (v := ?_) (a' := ?_) bq6 rfl rfl (qr HT_.out (by kernel_rfl)) (fun _ _ _ h => h) (Or.inl ⟨by rfl, ?_⟩) ?_ ?_
     rotate_left
     ·intro w'
      go_simp
      with_reducible rfl
     rotate_left
     ·simp only [Act.put, sq1, sq2, sq3, i64_w, i32_w]
      rfl
     refine take_ (i := 0) (N := some 18) (v := ?_) (a' := ?_) bq19 rfl rfl (qb1 HT_.out HW_.out (by kernel_rfl)) (fun _ _ _ h => h) (Or.inl ⟨by rfl, ?_⟩) hHeld ?_ ?_
     rotate_left
     ·rintro w' ⟨s0, s1, s2, s3⟩
      go_simp
      with_reducible rfl
     rotate_left
     ·simp only [Act.put, sq1, sq2, sq3, i64_w, i32_w]
      rfl
     refine take_ (i := 2) (N := some 20) (v := ?_) (a' := ?_) bq23 rfl rfl (qb1 HT_.out HW_.out (by kernel_rfl)) (fun _ _ _ h => h) (Or.inl ⟨by rfl, ?_⟩) hHeld ?_ ?_
     rotate_left
     ·rintro w' ⟨s0, s1, s2, s3⟩
      go_simp
      with_reducible rfl
     rotate_left
     ·simp only [Act.put, sq1, sq2, sq3, i64_w, i32_w]
      rfl
     refine join_ (σ := Value × Value × Value × Nat) 2 bq63 (fun s_ => [(21, .agg #[s_.1, s_.2.1, .int .i64 t113, .int .i64 t114, .int .i64 t115]), (22, .tuple #[.agg #[s_.2.2.1, .int .i64 t120, .int .i64 t121, .int .i64 t122], .bool false]), (5, .pointer (some ⟨s_.2.2.2, 0, none⟩)), (17, .tuple #[.agg #[s_.2.2.1, .int .i64 t120, .int .i64 t121, .int .i64 t122], .bool false]), (23, .agg #[s_.2.2.1, .int .i64 t120, .int .i64 t121, .int .i64 t122]), (24, .bool false)]) (fun s_ w' => (w'.cell? ⟨gb104, 0, none⟩ = some (.slice Ao35 x105000_1.length co35) ∧ w'.cell? ⟨gb104, 1, none⟩ = some (.int .i64 x105001_1) ∧ w'.cell? ⟨gb104, 2, none⟩ = some (.int .i64 x105002_1) ∧ w'.cell? ⟨gb104, 3, none⟩ = some (.int .i64 x105003_1)) ∧ (Kd.R k66 66 w' w.heap.size (fun k_ => some k_ ≠ (s_.2.2.1 : Value).ownBlock ∧ some k_ ≠ (.slice Ao35 x105000_1.length co35 : Value).ownBlock) s_.1 t107) ∧ (Kd.R (Kd.int .i64) 2 w' w.heap.size (fun _ => True) s_.2.1 t110) ∧ (Kd.R k66 66 w' w.heap.size (fun k_ => some k_ ≠ (s_.1 : Value).ownBlock ∧ some k_ ≠ (.slice Ao35 x105000_1.length co35 : Value).ownBlock) s_.2.2.1 t117) ∧ (Kd.R k66 66 w' w.heap.size (fun k_ => some k_ ≠ (s_.1 : Value).ownBlock ∧ some k_ ≠ (s_.2.2.1 : Value).ownBlock) (.slice Ao35 x105000_1.length co35) x105000_1) ∧ (w'.heap[gb101]? = some (.cells #[.slice none 0 0, .int .i64 0, .int .i64 0, .int .i64 0] 32 (0, 0))) ∧ (w'.heap[gb104]? = some (.cells #[.slice Ao35 x105000_1.length co35, .int .i64 x105001_1, .int .i64 x105002_1, .int .i64 x105003_1] 32 (0, 0))) ∧ (w'.heap[s_.2.2.2]? = some (.cells #[.slice none 0 0, .int .i64 0, .int .i64 0, .int .i64 0] 32 (0, 0))) ∧ (w.heap.size ≤ s_.2.2.2) ∧ (w0.heap.size ≤ s_.2.2.2) ∧ (g ≠ s_.2.2.2) ∧ (s_.2.2.2 ≠ g) ∧ (gb101 ≠ s_.2.2.2) ∧ (s_.2.2.2 ≠ gb101) ∧ (gb104 ≠ s_.2.2.2) ∧ (s_.2.2.2 ≠ gb104) ∧ (IsS123 w0 w' g s0_0 t116) ∧ (KeepBut w w' g none) ∧ (Below w0.heap.size w0 w')) ?_ ?_
     rotate_left
     ·intro hCont
      refine two_ (i := 3) (j := 8) (Ni := some 21) (Nj := some 5) bq29 bq24 rfl rfl rfl rfl (two_of HT_.out (by kernel_rfl)) (by decide) (by decide) (fun K hK => ?_) (fun K hK => ?_)
      ·skip
       refine goes_ Try.func88 (by kernel_rfl) rfl #[.pointer (some ⟨g, 0, none⟩), .agg #[.slice Ao35 x105000_1.length co35, .int .i64 x105001_1, .int .i64 x105002_1, .int .i64 x105003_1]] (by rfl) rfl rfl yq82 ?_
       with_reducible refine (spec_l1Rd_edit.calls k1 g s0_0 x1001_1 _ _ x105000_1 x105001_1 x105002_1 x105003_1 t107 t110 t113 t114 t115 t116 w0 _ ?side1 ?side2 ?side3 ?side4 A12.out).mono ?_
       (case side1 => exact yq78)
       (case side2 => exact yq80)
       (case side3 => exact Kd.C_foot_own (IsS123.apart (show IsS123 w0 _ g s0_0 x1001_1 from by repeat (first | (with_reducible first | exact HI0.out | apply IsS123.alloc | apply IsS123.drewN | apply IsS123.drew | apply IsS123.set_1 | apply (fun h_ => IsS123.far h_ NB0_101.out _) | apply (fun h_ => IsS123.far h_ NB0_104.out _)) | exact HI0.out)) yq77 (by decide)) (fun _ h_ => h_.2))
       (case side4 => exact (Kd.R_reads' HO_105000.out).2.1)
       rintro e w37 ⟨v108, v111, rfl, ho0, ho1, hi, hb, hk⟩
       refine ⟨_, rfl, ?_⟩
       replace BK101 := Qz.mk (KeepBut.blk hk (g' := gb101) (o := .cells #[.slice none 0 0, .int .i64 0, .int .i64 0, .int .i64 0] 32 (0, 0)) yq74 NB101_0.out (by simp))
       replace BK104 := Qz.mk (KeepBut.blk hk (g' := gb104) (o := .cells #[.slice Ao35 x105000_1.length co35, .int .i64 x105001_1, .int .i64 x105002_1, .int .i64 x105003_1] 32 (0, 0)) yq76 NB104_0.out (by simp))
       have HO109 := Qz.mk (Kd.R_lower (Kd.R_new' ho0 (Kd.R_lt yq77)) (qa1 (w := w) (g := g) (row := none) yq73))
       replace HO_105000 := Qz.mk (Kd.R_mono (Kd.R_told (Kd.R_oldK (IsS123.apart (show IsS123 w0 _ g s0_0 x1001_1 from by repeat (first | (with_reducible first | exact HI0.out | apply IsS123.alloc | apply IsS123.drewN | apply IsS123.drew | apply IsS123.set_1 | apply (fun h_ => IsS123.far h_ NB0_101.out _) | apply (fun h_ => IsS123.far h_ NB0_104.out _)) | exact HI0.out)) yq77 (by decide)) hk) (Kd.R_base ho0)) (fun _ h_ => h_.1))
       have HO112 := Qz.mk (Kd.R_lower ho1 (qa1 (w := w) (g := g) (row := none) yq73))
       replace HK := Qz.mk (KeepBut.trans yq73 hk (.inl rfl))
       replace HB := Qz.mk (hb)
       replace HI0 := Qz.mk (hi)
       (try clear hb)
       (try clear hk)
       (try clear hi)
       (try clear ho0)
       (try clear ho1)
       obtain ⟨Ao38, co38, eo38⟩ := Kd.R_slice HO109.out
       (first | subst eo38 | (injection eo38 with f1_ f2_ f3_; have f4_ := f1_.symm; have f5_ := f3_.symm; clear f1_ f2_ f3_; subst f4_; subst f5_))
       obtain ⟨Ao39, co39, eo39⟩ := Kd.R_slice HO112.out
       (first | subst eo39 | (injection eo39 with f1_ f2_ f3_; have f4_ := f1_.symm; have f5_ := f3_.symm; clear f1_ f2_ f3_; subst f4_; subst f5_))
       refine hK.out _ _ ⟨(qb BK104.out 0).trans rfl, (qb BK104.out 1).trans rfl, (qb BK104.out 2).trans rfl, (qb BK104.out 3).trans rfl⟩ (fun hHeld => ?_)
       clear hK K
       refine norm_ (a' := ?_) ?_ ?_
       rotate_left
       ·show Act.put _ (some 21) _ = _
        simp only [Act.put, sq1, sq2, sq3, i64_w, i32_w]
        rfl
       refine two_ (i := 4) (j := 8) (Ni := some 22) (Nj := some 5) bq35 bq30 rfl rfl rfl rfl (two_of HT_.out (by kernel_rfl)) (by decide) (by decide) (fun K hK => ?_) (fun K hK => ?_)
       ·skip
        refine goes_ Try.func17 (by kernel_rfl) rfl #[.agg #[.slice Ao35 x105000_1.length co35, .int .i64 x105001_1, .int .i64 x105002_1, .int .i64 x105003_1], .agg #[.slice Ao38 t107.length co38, .slice Ao39 t110.length co39, .int .i64 t113, .int .i64 t114, .int .i64 t115]] (by rfl) rfl rfl yq82 ?_
        with_reducible refine (spec_Apply.calls k1 _ _ x105000_1 x105001_1 x105002_1 x105003_1 _ _ t107 _ _ t110 t113 t114 t115 t117 t120 t121 t122 false _ ?side1 ?side2 ?side3 ?side4 ?side5 ?side6 A13.out).mono ?_
        (case side1 => exact yq86)
        (case side2 => exact (Kd.R_reads' HO_105000.out).2.1)
        (case side3 => exact yq88)
        (case side4 => exact (Kd.R_reads' HO109.out).2.1)
        (case side5 => exact yq87)
        (case side6 => exact (Kd.R_reads' HO112.out).2.1)
        rintro e w40 ⟨v118, rfl, ho0, hb⟩
        refine ⟨_, rfl, ?_⟩
        replace HO112 := Qz.mk (Kd.R_below yq83 hb)
        have HO119 := Qz.mk (Kd.R_lower (Kd.R_new' (Kd.R_new' ho0 (Kd.R_lt yq77)) (Kd.R_lt yq84)) (qa1 (w := w) (g := g) (row := none) yq73))
        replace HO_105000 := Qz.mk (Kd.R_elder' yq77 (Kd.R_base ho0) hb)
        replace HO109 := Qz.mk (Kd.R_elder' yq84 (Kd.R_base ho0) hb)
        replace BK101 := Qz.mk (qq (g := gb101) (o := .cells #[.slice none 0 0, .int .i64 0, .int .i64 0, .int .i64 0] 32 (0, 0)) yq74 hb)
        replace BK104 := Qz.mk (qq (g := gb104) (o := .cells #[.slice Ao35 x105000_1.length co35, .int .i64 x105001_1, .int .i64 x105002_1, .int .i64 x105003_1] 32 (0, 0)) yq76 hb)
        replace HK := Qz.mk (KeepBut.trans yq73 (KeepBut.of_below hb g none) (.inl rfl))
        replace HB := Qz.mk (qn yq80 hb)
        replace HI0 := Qz.mk (IsS123.below yq78 hb)
        (try clear hb)
        (try clear hk)
        (try clear hi)
        (try clear ho0)
        refine hK.out _ _ ⟨(qb BK104.out 0).trans rfl, (qb BK104.out 1).trans rfl, (qb BK104.out 2).trans rfl, (qb BK104.out 3).trans rfl⟩ (fun hHeld => ?_)
        clear hK K
        refine norm_ (a' := ?_) ?_ ?_
        rotate_left
        ·show Act.put _ (some 22) _ = _
         simp only [Act.put, sq1, sq2, sq3, i64_w, i32_w]
         rfl
        refine pure_ (i := 5) (N := some 17) (v := ?_) (a' := ?_) bq42 rfl rfl (qr HT_.out (by kernel_rfl)) (fun _ _ _ h => h) (Or.inl ⟨by rfl, ?_⟩) ?_ ?_
        rotate_left
        ·intro w'
         go_simp
         with_reducible rfl
        rotate_left
        ·simp only [Act.put, sq1, sq2, sq3, i64_w, i32_w]
         rfl
        refine pure_ (i := 6) (N := some 23) (v := ?_) (a' := ?_) bq48 rfl rfl (qr HT_.out (by kernel_rfl)) (fun _ _ _ h => h) (Or.inl ⟨by rfl, ?_⟩) ?_ ?_
        rotate_left
        ·intro w'
         go_simp
         with_reducible rfl
        rotate_left
        ·simp only [Act.put, sq1, sq2, sq3, i64_w, i32_w]
         rfl
        refine pure_ (i := 7) (N := some 24) (v := ?_) (a' := ?_) bq57 rfl rfl (qr HT_.out (by kernel_rfl)) (fun _ _ _ h => h) (Or.inl ⟨by rfl, ?_⟩) ?_ ?_
        rotate_left
        ·intro w'
         go_simp
         with_reducible rfl
        rotate_left
        ·simp only [Act.put, sq1, sq2, sq3, i64_w, i32_w]
         rfl
        refine one_ (i := 8) (N := some 5) bq63 rfl rfl (one_of HT_.out (by kernel_rfl)) (by decide) (fun K hK => ?_)
        refine box_step ?hg (N := 5) ?hd (cs := #[.slice none 0 0, .int .i64 0, .int .i64 0, .int .i64 0]) (t := 32) ?hr ?_; (case hd => rfl); (case hg => rfl); (case hr => exact yq101)
        intro gb124 hg w41 hbox hb
        replace HO_105000 := Qz.mk (Kd.R_below yq77 hb)
        replace HO109 := Qz.mk (Kd.R_below yq84 hb)
        replace HO112 := Qz.mk (Kd.R_below yq83 hb)
        replace HO119 := Qz.mk (Kd.R_below (by (with_reducible repeat (first | apply Kd.R_alloc | apply Kd.R_drewN | apply Kd.R_drew)); exact HO119.out) hb)
        replace HB := Qz.mk (qn yq80 hb)
        have BK124 := Qz.mk (hbox)
        have GW124 := Qz.mk ((yq94 : w.heap.size ≤ gb124))
        have GE124 := Qz.mk ((Nat.le_trans HW0.out (yq94 : w.heap.size ≤ gb124) : w0.heap.size ≤ gb124))
        replace HK := Qz.mk (KeepBut.trans yq73 (KeepBut.of_below hb g none) (.inl rfl))
        have NB101_124 := Qz.mk ((yq89 : gb101 ≠ gb124))
        have NB124_101 := Qz.mk ((yq90 : gb124 ≠ gb101))
        replace BK101 := Qz.mk (qq (g := gb101) (o := .cells #[.slice none 0 0, .int .i64 0, .int .i64 0, .int .i64 0] 32 (0, 0)) yq74 hb)
        have NB104_124 := Qz.mk ((yq96 : gb104 ≠ gb124))
        have NB124_104 := Qz.mk ((yq98 : gb124 ≠ gb104))
        replace BK104 := Qz.mk (qq (g := gb104) (o := .cells #[.slice Ao35 x105000_1.length co35, .int .i64 x105001_1, .int .i64 x105002_1, .int .i64 x105003_1] 32 (0, 0)) yq76 hb)
        have NB0_124 := Qz.mk ((by rw [hg]; exact Nat.ne_of_lt (IsS123.lt (show IsS123 w0 _ g s0_0 t116 from by repeat (first | (with_reducible first | exact HI0.out | apply IsS123.alloc | apply IsS123.drewN | apply IsS123.drew | apply IsS123.set_1 | apply (fun h_ => IsS123.far h_ NB0_101.out _) | apply (fun h_ => IsS123.far h_ NB0_104.out _)) | exact HI0.out))) : g ≠ gb124))
        have NB124_0 := Qz.mk ((by rw [hg]; exact Nat.ne_of_gt (IsS123.lt (show IsS123 w0 _ g s0_0 t116 from by repeat (first | (with_reducible first | exact HI0.out | apply IsS123.alloc | apply IsS123.drewN | apply IsS123.drew | apply IsS123.set_1 | apply (fun h_ => IsS123.far h_ NB0_101.out _) | apply (fun h_ => IsS123.far h_ NB0_104.out _)) | exact HI0.out))) : gb124 ≠ g))
        replace HI0 := Qz.mk (IsS123.below yq78 hb)
        clear hb hbox hg
        refine hK.out _ _ ⟨(qb BK104.out 0).trans rfl, (qb BK104.out 1).trans rfl, (qb BK104.out 2).trans rfl, (qb BK104.out 3).trans rfl⟩ (fun hHeld => ?_)
        clear hK K
        refine norm_ (a' := ?_) ?_ ?_
        rotate_left
        ·show Act.put _ (some 5) _ = _
         simp only [Act.put, sq1, sq2, sq3, i64_w, i32_w]
         rfl
        exact norm_ (by simp only [putAll, Act.put, sq1, sq2, sq3]) (hCont (.slice Ao38 t107.length co38, .slice Ao39 t110.length co39, v118, gb124) _ ⟨hHeld, yq93, yq83, yq92, yq91, yq74, yq76, yq85, GW124.out, GE124.out, NB0_124.out, NB124_0.out, NB101_124.out, NB124_101.out, NB104_124.out, NB124_104.out, yq79, yq75, yq81⟩)
       ·skip
        refine box_step ?hg (N := 5) ?hd (cs := #[.slice none 0 0, .int .i64 0, .int .i64 0, .int .i64 0]) (t := 32) ?hr ?_; (case hd => rfl); (case hg => rfl); (case hr => exact yq101)
        intro gb124 hg w38 hbox hb
        replace HO_105000 := Qz.mk (Kd.R_below yq77 hb)
        replace HO109 := Qz.mk (Kd.R_below yq84 hb)
        replace HO112 := Qz.mk (Kd.R_below yq83 hb)
        replace HB := Qz.mk (qn yq80 hb)
        have BK124 := Qz.mk (hbox)
        have GW124 := Qz.mk ((yq94 : w.heap.size ≤ gb124))
        have GE124 := Qz.mk ((Nat.le_trans HW0.out (yq94 : w.heap.size ≤ gb124) : w0.heap.size ≤ gb124))
        replace HK := Qz.mk (KeepBut.trans yq73 (KeepBut.of_below hb g none) (.inl rfl))
        have NB101_124 := Qz.mk ((yq89 : gb101 ≠ gb124))
        have NB124_101 := Qz.mk ((yq90 : gb124 ≠ gb101))
        replace BK101 := Qz.mk (qq (g := gb101) (o := .cells #[.slice none 0 0, .int .i64 0, .int .i64 0, .int .i64 0] 32 (0, 0)) yq74 hb)
        have NB104_124 := Qz.mk ((yq96 : gb104 ≠ gb124))
        have NB124_104 := Qz.mk ((yq98 : gb124 ≠ gb104))
        replace BK104 := Qz.mk (qq (g := gb104) (o := .cells #[.slice Ao35 x105000_1.length co35, .int .i64 x105001_1, .int .i64 x105002_1, .int .i64 x105003_1] 32 (0, 0)) yq76 hb)
        have NB0_124 := Qz.mk ((by rw [hg]; exact Nat.ne_of_lt (IsS123.lt (show IsS123 w0 _ g s0_0 t116 from by repeat (first | (with_reducible first | exact HI0.out | apply IsS123.alloc | apply IsS123.drewN | apply IsS123.drew | apply IsS123.set_1 | apply (fun h_ => IsS123.far h_ NB0_101.out _) | apply (fun h_ => IsS123.far h_ NB0_104.out _)) | exact HI0.out))) : g ≠ gb124))
        have NB124_0 := Qz.mk ((by rw [hg]; exact Nat.ne_of_gt (IsS123.lt (show IsS123 w0 _ g s0_0 t116 from by repeat (first | (with_reducible first | exact HI0.out | apply IsS123.alloc | apply IsS123.drewN | apply IsS123.drew | apply IsS123.set_1 | apply (fun h_ => IsS123.far h_ NB0_101.out _) | apply (fun h_ => IsS123.far h_ NB0_104.out _)) | exact HI0.out))) : gb124 ≠ g))
        replace HI0 := Qz.mk (IsS123.below yq78 hb)
        clear hb hbox hg
        obtain ⟨Ao39, co39, eo39⟩ := Kd.R_slice HO109.out
        (first | subst eo39 | (injection eo39 with f1_ f2_ f3_; have f4_ := f1_.symm; have f5_ := f3_.symm; clear f1_ f2_ f3_; subst f4_; subst f5_))
        obtain ⟨Ao40, co40, eo40⟩ := Kd.R_slice HO112.out
        (first | subst eo40 | (injection eo40 with f1_ f2_ f3_; have f4_ := f1_.symm; have f5_ := f3_.symm; clear f1_ f2_ f3_; subst f4_; subst f5_))
        refine hK.out _ _ ⟨(qb BK104.out 0).trans rfl, (qb BK104.out 1).trans rfl, (qb BK104.out 2).trans rfl, (qb BK104.out 3).trans rfl⟩ (fun hHeld => ?_)
        clear hK K
        refine norm_ (a' := ?_) ?_ ?_
        rotate_left
        ·show Act.put _ (some 5) _ = _
         simp only [Act.put, sq1, sq2, sq3, i64_w, i32_w]
         rfl
        refine one_ (i := 4) (N := some 22) bq36 rfl rfl (one_of HT_.out (by kernel_rfl)) (by decide) (fun K hK => ?_)
        refine goes_ Try.func17 (by kernel_rfl) rfl #[.agg #[.slice Ao35 x105000_1.length co35, .int .i64 x105001_1, .int .i64 x105002_1, .int .i64 x105003_1], .agg #[.slice Ao39 t107.length co39, .slice Ao40 t110.length co40, .int .i64 t113, .int .i64 t114, .int .i64 t115]] (by rfl) rfl rfl yq82 ?_
        with_reducible refine (spec_Apply.calls k1 _ _ x105000_1 x105001_1 x105002_1 x105003_1 _ _ t107 _ _ t110 t113 t114 t115 t117 t120 t121 t122 false _ ?side1 ?side2 ?side3 ?side4 ?side5 ?side6 A13.out).mono ?_
        (case side1 => exact yq86)
        (case side2 => exact (Kd.R_reads' HO_105000.out).2.1)
        (case side3 => exact yq88)
        (case side4 => exact (Kd.R_reads' HO109.out).2.1)
        (case side5 => exact yq87)
        (case side6 => exact (Kd.R_reads' HO112.out).2.1)
        rintro e w41 ⟨v118, rfl, ho0, hb⟩
        refine ⟨_, rfl, ?_⟩
        replace HO112 := Qz.mk (Kd.R_below yq83 hb)
        have HO119 := Qz.mk (Kd.R_lower (Kd.R_new' (Kd.R_new' ho0 (Kd.R_lt yq77)) (Kd.R_lt yq84)) (qa1 (w := w) (g := g) (row := none) yq75))
        replace HO_105000 := Qz.mk (Kd.R_elder' yq77 (Kd.R_base ho0) hb)
        replace HO109 := Qz.mk (Kd.R_elder' yq84 (Kd.R_base ho0) hb)
        replace BK101 := Qz.mk (qq (g := gb101) (o := .cells #[.slice none 0 0, .int .i64 0, .int .i64 0, .int .i64 0] 32 (0, 0)) yq74 hb)
        replace BK104 := Qz.mk (qq (g := gb104) (o := .cells #[.slice Ao35 x105000_1.length co35, .int .i64 x105001_1, .int .i64 x105002_1, .int .i64 x105003_1] 32 (0, 0)) yq76 hb)
        replace BK124 := Qz.mk (qq (g := gb124) (o := .cells #[.slice none 0 0, .int .i64 0, .int .i64 0, .int .i64 0] 32 (0, 0)) yq85 hb)
        replace HK := Qz.mk (KeepBut.trans yq75 (KeepBut.of_below hb g none) (.inl rfl))
        replace HB := Qz.mk (qn yq81 hb)
        replace HI0 := Qz.mk (IsS123.below yq79 hb)
        (try clear hb)
        (try clear hk)
        (try clear hi)
        (try clear ho0)
        refine hK.out _ _ ⟨(qb BK104.out 0).trans rfl, (qb BK104.out 1).trans rfl, (qb BK104.out 2).trans rfl, (qb BK104.out 3).trans rfl⟩ (fun hHeld => ?_)
        clear hK K
        refine norm_ (a' := ?_) ?_ ?_
        rotate_left
        ·show Act.put _ (some 22) _ = _
         simp only [Act.put, sq1, sq2, sq3, i64_w, i32_w]
         rfl
        refine pure_ (i := 5) (N := some 17) (v := ?_) (a' := ?_) bq43 rfl rfl (qr HT_.out (by kernel_rfl)) (fun _ _ _ h => h) (Or.inl ⟨by rfl, ?_⟩) ?_ ?_
        rotate_left
        ·intro w'
         go_simp
         with_reducible rfl
        rotate_left
        ·simp only [Act.put, sq1, sq2, sq3, i64_w, i32_w]
         rfl
        refine pure_ (i := 6) (N := some 23) (v := ?_) (a' := ?_) bq53 rfl rfl (qr HT_.out (by kernel_rfl)) (fun _ _ _ h => h) (Or.inl ⟨by rfl, ?_⟩) ?_ ?_
        rotate_left
        ·intro w'
         go_simp
         with_reducible rfl
        rotate_left
        ·simp only [Act.put, sq1, sq2, sq3, i64_w, i32_w]
         rfl
        refine pure_ (i := 7) (N := some 24) (v := ?_) (a' := ?_) bq63 rfl rfl (qr HT_.out (by kernel_rfl)) (fun _ _ _ h => h) (Or.inl ⟨by rfl, ?_⟩) ?_ ?_
        rotate_left
        ·intro w'
         go_simp
         with_reducible rfl
        rotate_left
        ·simp only [Act.put, sq1, sq2, sq3, i64_w, i32_w]
         rfl
        exact norm_ (by simp only [putAll, Act.put, sq1, sq2, sq3]) (hCont (.slice Ao39 t107.length co39, .slice Ao40 t110.length co40, v118, gb124) _ ⟨hHeld, yq93, yq83, yq92, yq91, yq74, yq76, yq85, GW124.out, GE124.out, NB0_124.out, NB124_0.out, NB101_124.out, NB124_101.out, NB104_124.out, NB124_104.out, yq79, yq75, yq81⟩)
      ·skip
       refine box_step ?hg (N := 5) ?hd (cs := #[.slice none 0 0, .int .i64 0, .int .i64 0, .int .i64 0]) (t := 32) ?hr ?_; (case hd => rfl); (case hg => rfl); (case hr => exact yq101)
       intro gb124 hg w37 hbox hb
       replace HO_105000 := Qz.mk (Kd.R_below yq77 hb)
       replace HB := Qz.mk (qn yq80 hb)
       have BK124 := Qz.mk (hbox)
       have GW124 := Qz.mk ((yq94 : w.heap.size ≤ gb124))
       have GE124 := Qz.mk ((Nat.le_trans HW0.out (yq94 : w.heap.size ≤ gb124) : w0.heap.size ≤ gb124))
       replace HK := Qz.mk (KeepBut.trans yq73 (KeepBut.of_below hb g none) (.inl rfl))
       have NB101_124 := Qz.mk ((yq89 : gb101 ≠ gb124))
       have NB124_101 := Qz.mk ((yq90 : gb124 ≠ gb101))
       replace BK101 := Qz.mk (qq (g := gb101) (o := .cells #[.slice none 0 0, .int .i64 0, .int .i64 0, .int .i64 0] 32 (0, 0)) yq74 hb)
       have NB104_124 := Qz.mk ((yq96 : gb104 ≠ gb124))
       have NB124_104 := Qz.mk ((yq98 : gb124 ≠ gb104))
       replace BK104 := Qz.mk (qq (g := gb104) (o := .cells #[.slice Ao35 x105000_1.length co35, .int .i64 x105001_1, .int .i64 x105002_1, .int .i64 x105003_1] 32 (0, 0)) yq76 hb)
       have NB0_124 := Qz.mk ((by rw [hg]; exact Nat.ne_of_lt (IsS123.lt (show IsS123 w0 _ g s0_0 x1001_1 from by repeat (first | (with_reducible first | exact HI0.out | apply IsS123.alloc | apply IsS123.drewN | apply IsS123.drew | apply IsS123.set_1 | apply (fun h_ => IsS123.far h_ NB0_101.out _) | apply (fun h_ => IsS123.far h_ NB0_104.out _)) | exact HI0.out))) : g ≠ gb124))
       have NB124_0 := Qz.mk ((by rw [hg]; exact Nat.ne_of_gt (IsS123.lt (show IsS123 w0 _ g s0_0 x1001_1 from by repeat (first | (with_reducible first | exact HI0.out | apply IsS123.alloc | apply IsS123.drewN | apply IsS123.drew | apply IsS123.set_1 | apply (fun h_ => IsS123.far h_ NB0_101.out _) | apply (fun h_ => IsS123.far h_ NB0_104.out _)) | exact HI0.out))) : gb124 ≠ g))
       replace HI0 := Qz.mk (IsS123.below yq78 hb)
       clear hb hbox hg
       refine hK.out _ _ ⟨(qb BK104.out 0).trans rfl, (qb BK104.out 1).trans rfl, (qb BK104.out 2).trans rfl, (qb BK104.out 3).trans rfl⟩ (fun hHeld => ?_)
       clear hK K
       refine norm_ (a' := ?_) ?_ ?_
       rotate_left
       ·show Act.put _ (some 5) _ = _
        simp only [Act.put, sq1, sq2, sq3, i64_w, i32_w]
        rfl
       refine one_ (i := 3) (N := some 21) bq30 rfl rfl (one_of HT_.out (by kernel_rfl)) (by decide) (fun K hK => ?_)
       refine goes_ Try.func88 (by kernel_rfl) rfl #[.pointer (some ⟨g, 0, none⟩), .agg #[.slice Ao35 x105000_1.length co35, .int .i64 x105001_1, .int .i64 x105002_1, .int .i64 x105003_1]] (by rfl) rfl rfl yq82 ?_
       with_reducible refine (spec_l1Rd_edit.calls k1 g s0_0 x1001_1 _ _ x105000_1 x105001_1 x105002_1 x105003_1 t107 t110 t113 t114 t115 t116 w0 _ ?side1 ?side2 ?side3 ?side4 A12.out).mono ?_
       (case side1 => exact yq79)
       (case side2 => exact yq81)
       (case side3 => exact Kd.C_foot_own (IsS123.apart (show IsS123 w0 _ g s0_0 x1001_1 from by repeat (first | (with_reducible first | exact HI0.out | apply IsS123.alloc | apply IsS123.drewN | apply IsS123.drew | apply IsS123.set_1 | apply (fun h_ => IsS123.far h_ NB0_101.out _) | apply (fun h_ => IsS123.far h_ NB0_104.out _) | apply (fun h_ => IsS123.far h_ NB0_124.out _)) | exact HI0.out)) yq77 (by decide)) (fun _ h_ => h_.2))
       (case side4 => exact (Kd.R_reads' HO_105000.out).2.1)
       rintro e w38 ⟨v108, v111, rfl, ho0, ho1, hi, hb, hk⟩
       refine ⟨_, rfl, ?_⟩
       replace BK101 := Qz.mk (KeepBut.blk hk (g' := gb101) (o := .cells #[.slice none 0 0, .int .i64 0, .int .i64 0, .int .i64 0] 32 (0, 0)) yq74 NB101_0.out (by simp))
       replace BK104 := Qz.mk (KeepBut.blk hk (g' := gb104) (o := .cells #[.slice Ao35 x105000_1.length co35, .int .i64 x105001_1, .int .i64 x105002_1, .int .i64 x105003_1] 32 (0, 0)) yq76 NB104_0.out (by simp))
       replace BK124 := Qz.mk (KeepBut.blk hk (g' := gb124) (o := .cells #[.slice none 0 0, .int .i64 0, .int .i64 0, .int .i64 0] 32 (0, 0)) yq85 NB124_0.out (by simp))
       have HO109 := Qz.mk (Kd.R_lower (Kd.R_new' ho0 (Kd.R_lt yq77)) (qa1 (w := w) (g := g) (row := none) yq75))
       replace HO_105000 := Qz.mk (Kd.R_mono (Kd.R_told (Kd.R_oldK (IsS123.apart (show IsS123 w0 _ g s0_0 x1001_1 from by repeat (first | (with_reducible first | exact HI0.out | apply IsS123.alloc | apply IsS123.drewN | apply IsS123.drew | apply IsS123.set_1 | apply (fun h_ => IsS123.far h_ NB0_101.out _) | apply (fun h_ => IsS123.far h_ NB0_104.out _) | apply (fun h_ => IsS123.far h_ NB0_124.out _)) | exact HI0.out)) yq77 (by decide)) hk) (Kd.R_base ho0)) (fun _ h_ => h_.1))
       have HO112 := Qz.mk (Kd.R_lower ho1 (qa1 (w := w) (g := g) (row := none) yq75))
       replace HK := Qz.mk (KeepBut.trans yq75 hk (.inl rfl))
       replace HB := Qz.mk (hb)
       replace HI0 := Qz.mk (hi)
       (try clear hb)
       (try clear hk)
       (try clear hi)
       (try clear ho0)
       (try clear ho1)
       obtain ⟨Ao39, co39, eo39⟩ := Kd.R_slice HO109.out
       (first | subst eo39 | (injection eo39 with f1_ f2_ f3_; have f4_ := f1_.symm; have f5_ := f3_.symm; clear f1_ f2_ f3_; subst f4_; subst f5_))
       obtain ⟨Ao40, co40, eo40⟩ := Kd.R_slice HO112.out
       (first | subst eo40 | (injection eo40 with f1_ f2_ f3_; have f4_ := f1_.symm; have f5_ := f3_.symm; clear f1_ f2_ f3_; subst f4_; subst f5_))
       refine hK.out _ _ ⟨(qb BK104.out 0).trans rfl, (qb BK104.out 1).trans rfl, (qb BK104.out 2).trans rfl, (qb BK104.out 3).trans rfl⟩ (fun hHeld => ?_)
       clear hK K
       refine norm_ (a' := ?_) ?_ ?_
       rotate_left
       ·show Act.put _ (some 21) _ = _
        simp only [Act.put, sq1, sq2, sq3, i64_w, i32_w]
        rfl
       refine one_ (i := 4) (N := some 22) bq36 rfl rfl (one_of HT_.out (by kernel_rfl)) (by decide) (fun K hK => ?_)
       refine goes_ Try.func17 (by kernel_rfl) rfl #[.agg #[.slice Ao35 x105000_1.length co35, .int .i64 x105001_1, .int .i64 x105002_1, .int .i64 x105003_1], .agg #[.slice Ao39 t107.length co39, .slice Ao40 t110.length co40, .int .i64 t113, .int .i64 t114, .int .i64 t115]] (by rfl) rfl rfl yq82 ?_
       with_reducible refine (spec_Apply.calls k1 _ _ x105000_1 x105001_1 x105002_1 x105003_1 _ _ t107 _ _ t110 t113 t114 t115 t117 t120 t121 t122 false _ ?side1 ?side2 ?side3 ?side4 ?side5 ?side6 A13.out).mono ?_
       (case side1 => exact yq86)
       (case side2 => exact (Kd.R_reads' HO_105000.out).2.1)
       (case side3 => exact yq88)
       (case side4 => exact (Kd.R_reads' HO109.out).2.1)
       (case side5 => exact yq87)
       (case side6 => exact (Kd.R_reads' HO112.out).2.1)
       rintro e w41 ⟨v118, rfl, ho0, hb⟩
       refine ⟨_, rfl, ?_⟩
       replace HO112 := Qz.mk (Kd.R_below yq83 hb)
       have HO119 := Qz.mk (Kd.R_lower (Kd.R_new' (Kd.R_new' ho0 (Kd.R_lt yq77)) (Kd.R_lt yq84)) (qa1 (w := w) (g := g) (row := none) yq75))
       replace HO_105000 := Qz.mk (Kd.R_elder' yq77 (Kd.R_base ho0) hb)
       replace HO109 := Qz.mk (Kd.R_elder' yq84 (Kd.R_base ho0) hb)
       replace BK101 := Qz.mk (qq (g := gb101) (o := .cells #[.slice none 0 0, .int .i64 0, .int .i64 0, .int .i64 0] 32 (0, 0)) yq74 hb)
       replace BK104 := Qz.mk (qq (g := gb104) (o := .cells #[.slice Ao35 x105000_1.length co35, .int .i64 x105001_1, .int .i64 x105002_1, .int .i64 x105003_1] 32 (0, 0)) yq76 hb)
       replace BK124 := Qz.mk (qq (g := gb124) (o := .cells #[.slice none 0 0, .int .i64 0, .int .i64 0, .int .i64 0] 32 (0, 0)) yq85 hb)
       replace HK := Qz.mk (KeepBut.trans yq75 (KeepBut.of_below hb g none) (.inl rfl))
       replace HB := Qz.mk (qn yq81 hb)
       replace HI0 := Qz.mk (IsS123.below yq79 hb)
       (try clear hb)
       (try clear hk)
       (try clear hi)
       (try clear ho0)
       refine hK.out _ _ ⟨(qb BK104.out 0).trans rfl, (qb BK104.out 1).trans rfl, (qb BK104.out 2).trans rfl, (qb BK104.out 3).trans rfl⟩ (fun hHeld => ?_)
       clear hK K
       refine norm_ (a' := ?_) ?_ ?_
       rotate_left
       ·show Act.put _ (some 22) _ = _
        simp only [Act.put, sq1, sq2, sq3, i64_w, i32_w]
        rfl
       refine pure_ (i := 5) (N := some 17) (v := ?_) (a' := ?_) bq43 rfl rfl (qr HT_.out (by kernel_rfl)) (fun _ _ _ h => h) (Or.inl ⟨by rfl, ?_⟩) ?_ ?_
       rotate_left
       ·intro w'
        go_simp
        with_reducible rfl
       rotate_left
       ·simp only [Act.put, sq1, sq2, sq3, i64_w, i32_w]
        rfl
       refine pure_ (i := 6) (N := some 23) (v := ?_) (a' := ?_) bq53 rfl rfl (qr HT_.out (by kernel_rfl)) (fun _ _ _ h => h) (Or.inl ⟨by rfl, ?_⟩) ?_ ?_
       rotate_left
       ·intro w'
        go_simp
        with_reducible rfl
       rotate_left
       ·simp only [Act.put, sq1, sq2, sq3, i64_w, i32_w]
        rfl
       refine pure_ (i := 7) (N := some 24) (v := ?_) (a' := ?_) bq63 rfl rfl (qr HT_.out (by kernel_rfl)) (fun _ _ _ h => h) (Or.inl ⟨by rfl, ?_⟩) ?_ ?_
       rotate_left
       ·intro w'
        go_simp
        with_reducible rfl
       rotate_left
       ·simp only [Act.put, sq1, sq2, sq3, i64_w, i32_w]
        rfl
       exact norm_ (by simp only [putAll, Act.put, sq1, sq2, sq3]) (hCont (.slice Ao39 t107.length co39, .slice Ao40 t110.length co40, v118, gb124) _ ⟨hHeld, yq93, yq83, yq92, yq91, yq74, yq76, yq85, GW124.out, GE124.out, NB0_124.out, NB124_0.out, NB101_124.out, NB124_101.out, NB104_124.out, NB124_104.out, yq79, yq75, yq81⟩)
     rintro ⟨v108, v111, v118, gb124⟩ w42 ⟨hS_, h0_, h1_, h2_, h3_, h4_, h5_, h6_, h7_, h8_, h9_, h10_, h11_, h12_, h13_, h14_, h15_, h16_, h17_⟩
     have n0_ : Qz (Kd.R k66 66 w42 w.heap.size (fun k_ => some k_ ≠ (v118 : Value).ownBlock ∧ some k_ ≠ (.slice Ao35 x105000_1.length co35 : Value).ownBlock) v108 t107) := ⟨h0_⟩
     have n1_ : Qz (Kd.R (Kd.int .i64) 2 w42 w.heap.size (fun _ => True) v111 t110) := ⟨h1_⟩
     have n2_ : Qz (Kd.R k66 66 w42 w.heap.size (fun k_ => some k_ ≠ (v108 : Value).ownBlock ∧ some k_ ≠ (.slice Ao35 x105000_1.length co35 : Value).ownBlock) v118 t117) := ⟨h2_⟩
     have n3_ : Qz (Kd.R k66 66 w42 w.heap.size (fun k_ => some k_ ≠ (v108 : Value).ownBlock ∧ some k_ ≠ (v118 : Value).ownBlock) (.slice Ao35 x105000_1.length co35) x105000_1) := ⟨h3_⟩
     have n4_ : Qz (w42.heap[gb101]? = some (.cells #[.slice none 0 0, .int .i64 0, .int .i64 0, .int .i64 0] 32 (0, 0))) := ⟨h4_⟩
     have n5_ : Qz (w42.heap[gb104]? = some (.cells #[.slice Ao35 x105000_1.length co35, .int .i64 x105001_1, .int .i64 x105002_1, .int .i64 x105003_1] 32 (0, 0))) := ⟨h5_⟩
     have n6_ : Qz (w42.heap[gb124]? = some (.cells #[.slice none 0 0, .int .i64 0, .int .i64 0, .int .i64 0] 32 (0, 0))) := ⟨h6_⟩
     have n7_ : Qz (w.heap.size ≤ gb124) := ⟨h7_⟩
     have n8_ : Qz (w0.heap.size ≤ gb124) := ⟨h8_⟩
     have n9_ : Qz (g ≠ gb124) := ⟨h9_⟩
     have n10_ : Qz (gb124 ≠ g) := ⟨h10_⟩
     have n11_ : Qz (gb101 ≠ gb124) := ⟨h11_⟩
     have n12_ : Qz (gb124 ≠ gb101) := ⟨h12_⟩
     have n13_ : Qz (gb104 ≠ gb124) := ⟨h13_⟩
     have n14_ : Qz (gb124 ≠ gb104) := ⟨h14_⟩
     have n15_ : Qz (IsS123 w0 w42 g s0_0 t116) := ⟨h15_⟩
     have n16_ : Qz (KeepBut w w42 g none) := ⟨h16_⟩
     have n17_ : Qz (Below w0.heap.size w0 w42) := ⟨h17_⟩
     clear HO_105000
     clear BK101
     clear BK104
     clear HI0
     clear HK
     clear HB
     clear h0_ h1_ h2_ h3_ h4_ h5_ h6_ h7_ h8_ h9_ h10_ h11_ h12_ h13_ h14_ h15_ h16_ h17_
     have HO109 := n0_
     have HO112 := n1_
     have HO119 := n2_
     have HO_105000 := n3_
     have BK101 := n4_
     have BK104 := n5_
     have BK124 := n6_
     have GW124 := n7_
     have GE124 := n8_
     have NB0_124 := n9_
     have NB124_0 := n10_
     have NB101_124 := n11_
     have NB124_101 := n12_
     have NB104_124 := n13_
     have NB124_104 := n14_
     have HI0 := n15_
     have HK := n16_
     have HB := n17_
     clear n0_ n1_ n2_ n3_ n4_ n5_ n6_ n7_ n8_ n9_ n10_ n11_ n12_ n13_ n14_ n15_ n16_ n17_
     have hHeld : w42.cell? ⟨gb104, 0, none⟩ = some (.slice Ao35 x105000_1.length co35) ∧ w42.cell? ⟨gb104, 1, none⟩ = some (.int .i64 x105001_1) ∧ w42.cell? ⟨gb104, 2, none⟩ = some (.int .i64 x105002_1) ∧ w42.cell? ⟨gb104, 3, none⟩ = some (.int .i64 x105003_1) := hS_
     obtain ⟨Ao43, co43, eo43⟩ := Kd.R_slice HO119.out
     (first | subst eo43 | (injection eo43 with f1_ f2_ f3_; have f4_ := f1_.symm; have f5_ := f3_.symm; clear f1_ f2_ f3_; subst f4_; subst f5_))
     refine norm_ (a' := ?_) ?_ ?_
     rotate_left
     ·simp only [putAll, Act.put, sq1, sq2, sq3]
      rfl
     refine one_ (i := 9) (N := none) bq70 rfl rfl (one_of HT_.out (by kernel_rfl)) (by decide) (fun K hK => ?_)
     have hs44 : w42.cell? ⟨gb124, 0, none⟩ = some (.slice none 0 0) := (qb BK124.out 0).trans rfl
     have hfs44 := qe BK124.out 0
     have hns44_0 := NB101_124.out
     have hns44_1 := NB104_124.out
     have hms44_0 := NB124_101.out
     have hms44_1 := NB124_104.out
     have hs45 : w42.cell? ⟨gb124, 1, none⟩ = some (.int .i64 0) := (qb BK124.out 1).trans rfl
     have hfs45 := qe BK124.out 1
     have hns45_0 := NB101_124.out
     have hns45_1 := NB104_124.out
     have hms45_0 := NB124_101.out
     have hms45_1 := NB124_104.out
     have hs46 : w42.cell? ⟨gb124, 2, none⟩ = some (.int .i64 0) := (qb BK124.out 2).trans rfl
     have hfs46 := qe BK124.out 2
     have hns46_0 := NB101_124.out
     have hns46_1 := NB104_124.out
     have hms46_0 := NB124_101.out
     have hms46_1 := NB124_104.out
     have hs47 : w42.cell? ⟨gb124, 3, none⟩ = some (.int .i64 0) := (qb BK124.out 3).trans rfl
     have hfs47 := qe BK124.out 3
     have hns47_0 := NB101_124.out
     have hns47_1 := NB104_124.out
     have hms47_0 := NB124_101.out
     have hms47_1 := NB124_104.out
     refine skip_ (w1 := ?_) (by rfl) rfl ?_ ?_
     rotate_left
     ·go_simp
      rfl
     refine hK.out _ _ ⟨((qy (p := ⟨gb124, _, none⟩) NB104_124.out _).trans (((qy (p := ⟨gb124, _, none⟩) NB104_124.out _).trans (((qy (p := ⟨gb124, _, none⟩) NB104_124.out _).trans (((qy (p := ⟨gb124, _, none⟩) NB104_124.out _).trans (hHeld.1)))))))), ((qy (p := ⟨gb124, _, none⟩) NB104_124.out _).trans (((qy (p := ⟨gb124, _, none⟩) NB104_124.out _).trans (((qy (p := ⟨gb124, _, none⟩) NB104_124.out _).trans (((qy (p := ⟨gb124, _, none⟩) NB104_124.out _).trans (hHeld.2.1)))))))), ((qy (p := ⟨gb124, _, none⟩) NB104_124.out _).trans (((qy (p := ⟨gb124, _, none⟩) NB104_124.out _).trans (((qy (p := ⟨gb124, _, none⟩) NB104_124.out _).trans (((qy (p := ⟨gb124, _, none⟩) NB104_124.out _).trans (hHeld.2.2.1)))))))), ((qy (p := ⟨gb124, _, none⟩) NB104_124.out _).trans (((qy (p := ⟨gb124, _, none⟩) NB104_124.out _).trans (((qy (p := ⟨gb124, _, none⟩) NB104_124.out _).trans (((qy (p := ⟨gb124, _, none⟩) NB104_124.out _).trans (hHeld.2.2.2))))))))⟩ (fun hHeld => ?_)
     clear hK K
     refine pure_ (i := 10) (N := some 6) (v := ?_) (a' := ?_) bq114 rfl rfl (qr HT_.out (by kernel_rfl)) (fun _ _ _ h => h) (Or.inl ⟨by rfl, ?_⟩) ?_ ?_
     rotate_left
     ·intro w'
      go_simp
      with_reducible rfl
     rotate_left
     ·simp only [Act.put, sq1, sq2, sq3, i64_w, i32_w]
      rfl
     refine done_ (done_of HT_.out (by kernel_rfl)) ?_
     try go_wp2
     go_roundg k1
     case measure => have := HK1.out; omega
     case rel => exact ⟨(wrap64 (x4_1 - 1)), (t116), (x105000_1), (x105001_1), (x105002_1), (x105003_1), (.slice Ao35 x105000_1.length co35), (by first | rfl | (simp; done) | (simp [*]; done)), H', ⟨by have := HK1.out; omega⟩, ⟨by (with_reducible repeat (first | apply Kd.R_alloc | apply Kd.R_drewN | apply Kd.R_drew)); exact Kd.R_mono (Kd.R_far (p := ⟨gb124, 3, none⟩) (Kd.R_far (p := ⟨gb124, 2, none⟩) (Kd.R_far (p := ⟨gb124, 1, none⟩) (Kd.R_far (p := ⟨gb124, 0, none⟩) (Kd.R_types HO_105000.out BK124.out (by decide)) (fun _ hk => hk.2) (.slice Ao43 t117.length co43)) (fun _ hk => hk.2) (.int .i64 t120)) (fun _ hk => hk.2) (.int .i64 t121)) (fun _ hk => hk.2) (.int .i64 t122)) (fun _ hk => trivial)⟩, ⟨by (with_reducible repeat (first | refine qc ?_ _ | refine qf ?_ | refine qa ?_ _)); refine qu ?_ NB101_124.out _; (with_reducible repeat (first | refine qc ?_ _ | refine qf ?_ | refine qa ?_ _)); refine qu ?_ NB101_124.out _; (with_reducible repeat (first | refine qc ?_ _ | refine qf ?_ | refine qa ?_ _)); refine qu ?_ NB101_124.out _; (with_reducible repeat (first | refine qc ?_ _ | refine qf ?_ | refine qa ?_ _)); refine qu ?_ NB101_124.out _; (with_reducible repeat (first | refine qc ?_ _ | refine qf ?_ | refine qa ?_ _)); exact BK101.out⟩, ⟨by (with_reducible repeat (first | refine qc ?_ _ | refine qf ?_ | refine qa ?_ _)); refine qu ?_ NB104_124.out _; (with_reducible repeat (first | refine qc ?_ _ | refine qf ?_ | refine qa ?_ _)); refine qu ?_ NB104_124.out _; (with_reducible repeat (first | refine qc ?_ _ | refine qf ?_ | refine qa ?_ _)); refine qu ?_ NB104_124.out _; (with_reducible repeat (first | refine qc ?_ _ | refine qf ?_ | refine qa ?_ _)); refine qu ?_ NB104_124.out _; (with_reducible repeat (first | refine qc ?_ _ | refine qf ?_ | refine qa ?_ _)); exact BK104.out⟩, ⟨by repeat (first | (with_reducible first | exact HI0.out | apply IsS123.alloc | apply IsS123.drewN | apply IsS123.drew | apply IsS123.set_1 | apply (fun h_ => IsS123.far h_ NB0_101.out _) | apply (fun h_ => IsS123.far h_ NB0_104.out _) | apply (fun h_ => IsS123.far h_ NB0_124.out _)) | exact HI0.out)⟩, ⟨by repeat (first | (with_reducible first | exact HK.out | apply KeepBut.set_ | apply ql | apply qo | apply qm | refine qj ?_ GW101.out _ | refine qj ?_ GW104.out _ | refine qj ?_ GW124.out _) | exact HK.out)⟩, ⟨by repeat (first | (with_reducible first | exact HB.out | apply qi | apply qd | apply qh | refine qg ?_ (IsS123.ge HI0.out) | refine qg ?_ GE101.out | refine qg ?_ GE104.out | refine qg ?_ GE124.out) | exact HB.out)⟩⟩
   ·rw [if_neg c11] at H
    have c11b0 : decide (0 < x4_1) = false := decide_eq_false c11
    clear c11
    replace H := Option.bind_eq_some_iff.mp H
    obtain ⟨⟨t125, t126⟩, A480, H⟩ := H
    replace H : (if t125 = true then ((spec_l1Rd_meta.f k1 s0_0 t126).bind fun bt127 => (if x105000_1.length < 2513169434916 then (some ((x105000_1 ++ [(⟨bt127.1, bt127.2.1, bt127.2.2.1, bt127.2.2.2.1, bt127.2.2.2.2.1⟩ : S66)]), x105001_1, x105002_1, x105003_1, bt127.2.2.2.2.2)) else (none))) else (some (x105000_1, x105001_1, x105002_1, x105003_1, t126))) = some (r1, r2, r3, r4, r5) := H
    have A48 := Qz.mk A480
    clear A480
    by_cases c49 : t125 = true
    ·subst c49
     have H1 : ((spec_l1Rd_meta.f k1 s0_0 t126).bind fun bt127 => (if x105000_1.length < 2513169434916 then (some ((x105000_1 ++ [(⟨bt127.1, bt127.2.1, bt127.2.2.1, bt127.2.2.2.1, bt127.2.2.2.2.1⟩ : S66)]), x105001_1, x105002_1, x105003_1, bt127.2.2.2.2.2)) else (none))) = some (r1, r2, r3, r4, r5) := by rw [if_pos rfl] at H; exact H
     clear H
     have H := H1
     clear H1
     replace H := Option.bind_eq_some_iff.mp H
     obtain ⟨⟨t127, t128, t129, t130, t131, t132⟩, A500, H⟩ := H
     replace H : (if x105000_1.length < 2513169434916 then (some ((x105000_1 ++ [(⟨t127, t128, t129, t130, t131⟩ : S66)]), x105001_1, x105002_1, x105003_1, t132)) else (none)) = some (r1, r2, r3, r4, r5) := H
     have A50 := Qz.mk A500
     clear A500
     by_cases c51 : x105000_1.length < 2513169434916
     ·rw [if_pos c51] at H
      have LMc51 := Qz.mk c51
      clear c51
      obtain ⟨y133, hy133⟩ : ∃ y_ : List (S66), y_ = (x105000_1 ++ [(⟨t127, t128, t129, t130, t131⟩ : S66)]) := ⟨_, rfl⟩
      replace H : (some (y133, x105001_1, x105002_1, x105003_1, t132)) = some (r1, r2, r3, r4, r5) := by first | (rw [hy133]; with_reducible exact H) | (have H2_ := (Option.bind_some _ _).symm.trans H; rw [hy133]; with_reducible exact H2_) | (have H2_ := (Option.bind_some _ _).symm.trans H; with_reducible exact H2_) | with_reducible exact H | (rw [hy133]; exact H) | exact H
      have Ny133 := Qz.mk hy133
      clear hy133
      simp only [Option.some.injEq, Prod.mk.injEq] at H
      obtain ⟨rfl, rfl, rfl, rfl, rfl⟩ := H
      try go_wp2_with (first | ((with_reducible refine qp (f := 73) rfl ?_); refine qz (some 28) rfl rfl Try.func73 (by kernel_rfl) rfl #[.pointer (some ⟨g, 0, none⟩), .int .i64 16] rfl yq100 ?_; (with_reducible refine (spec_l1Rd_once.calls g s0_0 x1001_1 16 true t126 w0 _ ?side1 ?side2 A48.out).mono ?_); (case side1 => exact yq78); (case side2 => exact yq80); rintro e w52 ⟨rfl, hi, hb, hk⟩; refine ⟨_, rfl, ?_⟩; replace HO_105000 := Qz.mk (Kd.R_mono (Kd.R_keep (IsS123.apart (show IsS123 w0 _ g s0_0 x1001_1 from by repeat (first | (with_reducible first | exact HI0.out | apply IsS123.alloc | apply IsS123.drewN | apply IsS123.drew | apply IsS123.set_1 | apply (fun h_ => IsS123.far h_ NB0_101.out _) | apply (fun h_ => IsS123.far h_ NB0_104.out _)) | exact HI0.out)) yq77 (by decide)) hk (fun _ h => h.2)) (fun _ h => h.1)); replace BK101 := Qz.mk (KeepBut.blk hk (g' := gb101) (o := .cells #[.slice none 0 0, .int .i64 0, .int .i64 0, .int .i64 0] 32 (0, 0)) yq74 NB101_0.out (by simp)); replace BK104 := Qz.mk (KeepBut.blk hk (g' := gb104) (o := .cells #[u105000, .int .i64 x105001_1, .int .i64 x105002_1, .int .i64 x105003_1] 32 (0, 0)) yq76 NB104_0.out (by simp)); replace HK := Qz.mk (KeepBut.trans yq73 hk (.inl rfl)); replace HB := Qz.mk (hb); replace HI0 := Qz.mk (hi); (try clear hb); (try clear hk); (try clear hi)))
      replace HO_105000 := Qz.mk (Kd.R_drew HO_105000.out)
      replace BK101 := Qz.mk (qf BK101.out)
      replace BK104 := Qz.mk (qf BK104.out)
      replace HI0 := Qz.mk (IsS123.drew HI0.out)
      replace HK := Qz.mk (qo HK.out)
      replace HB := Qz.mk (qh HB.out)
      refine start_ (n := 8) (S := fun w' => w'.cell? ⟨gb104, 0, none⟩ = some (u105000) ∧ w'.cell? ⟨gb104, 1, none⟩ = some (.int .i64 x105001_1) ∧ w'.cell? ⟨gb104, 2, none⟩ = some (.int .i64 x105002_1) ∧ w'.cell? ⟨gb104, 3, none⟩ = some (.int .i64 x105003_1)) (ds := [7]) bq5 (by kernel_rfl) rfl rfl ⟨(qb BK104.out 0).trans rfl, (qb BK104.out 1).trans rfl, (qb BK104.out 2).trans rfl, (qb BK104.out 3).trans rfl⟩ (fun hHeld => ?_); refine with_tabW spec_l1Rd_version.tab9 spec_l1Rd_version.bits9 (fun HT_ HW_ => ?_)
      generalize w52.drew = w53 at HO_105000 BK101 BK104 HI0 HK HB hHeld ⊢
      refine pure_ (i := 0) (N := some 29) (v := ?_) (a' := ?_) bq11 rfl rfl (qr HT_.out (by kernel_rfl)) (fun _ _ _ h => h) (Or.inl ⟨by rfl, ?_⟩) ?_ ?_
      rotate_left
      ·intro w'
       go_simp
       with_reducible rfl
      rotate_left
      ·simp only [Act.put, sq1, sq2, sq3, i64_w, i32_w]
       rfl
      refine pure_ (i := 2) (N := some 31) (v := ?_) (a' := ?_) bq14 rfl rfl (qr HT_.out (by kernel_rfl)) (fun _ _ _ h => h) (Or.inl ⟨by rfl, ?_⟩) ?_ ?_
      rotate_left
      ·intro w'
       go_simp
       with_reducible rfl
      rotate_left
      ·simp only [Act.put, sq1, sq2, sq3, i64_w, i32_w]
       rfl
      refine take_ (i := 1) (N := some 30) (v := ?_) (a' := ?_) bq25 rfl rfl (qb1 HT_.out HW_.out (by kernel_rfl)) (fun _ _ _ h => h) (Or.inl ⟨by rfl, ?_⟩) hHeld ?_ ?_
      rotate_left
      ·rintro w' ⟨s0, s1, s2, s3⟩
       go_simp
       with_reducible rfl
      rotate_left
      ·simp only [Act.put, sq1, sq2, sq3, i64_w, i32_w]
       rfl
      refine one_ (i := 3) (N := some 32) bq31 rfl rfl (one_of HT_.out (by kernel_rfl)) (by decide) (fun K hK => ?_)
      refine goes_ Try.func103 (by kernel_rfl) rfl #[.pointer (some ⟨g, 0, none⟩)] (by rfl) rfl rfl yq100 ?_
      with_reducible refine (spec_l1Rd_meta.calls k1 g s0_0 t126 t127 t128 t129 t130 t131 t132 w0 _ ?side1 ?side2 A50.out).mono ?_
      (case side1 => exact yq78)
      (case side2 => exact yq80)
      rintro e w54 ⟨rfl, hi, hb, hk⟩
      refine ⟨_, rfl, ?_⟩
      replace HO_105000 := Qz.mk (Kd.R_mono (Kd.R_keep (IsS123.apart (show IsS123 w0 _ g s0_0 t126 from by repeat (first | (with_reducible first | exact HI0.out | apply IsS123.alloc | apply IsS123.drewN | apply IsS123.drew | apply IsS123.set_1 | apply (fun h_ => IsS123.far h_ NB0_101.out _) | apply (fun h_ => IsS123.far h_ NB0_104.out _)) | exact HI0.out)) yq77 (by decide)) hk (fun _ h => h.2)) (fun _ h => h.1))
      replace BK101 := Qz.mk (KeepBut.blk hk (g' := gb101) (o := .cells #[.slice none 0 0, .int .i64 0, .int .i64 0, .int .i64 0] 32 (0, 0)) yq74 NB101_0.out (by simp))
      replace BK104 := Qz.mk (KeepBut.blk hk (g' := gb104) (o := .cells #[u105000, .int .i64 x105001_1, .int .i64 x105002_1, .int .i64 x105003_1] 32 (0, 0)) yq76 NB104_0.out (by simp))
      replace HK := Qz.mk (KeepBut.trans yq73 hk (.inl rfl))
      replace HB := Qz.mk (hb)
      replace HI0 := Qz.mk (hi)
      (try clear hb)
      (try clear hk)
      (try clear hi)
      refine hK.out _ _ ⟨(qb BK104.out 0).trans rfl, (qb BK104.out 1).trans rfl, (qb BK104.out 2).trans rfl, (qb BK104.out 3).trans rfl⟩ (fun hHeld => ?_)
      clear hK K
      refine norm_ (a' := ?_) ?_ ?_
      rotate_left
      ·show Act.put _ (some 32) _ = _
       simp only [Act.put, sq1, sq2, sq3, i64_w, i32_w]
       rfl
      refine one_ (i := 4) (N := some 33) bq37 rfl rfl (one_of HT_.out (by kernel_rfl)) (by decide) (fun K hK => ?_)
      refine value_ (w1 := ?_) (v := ?_) (by rfl) rfl ?_ ?_
      rotate_left 2
      ·go_simp
       constructor
       ·rfl
       ·rfl
      refine hK.out _ _ ⟨(qb (qa BK104.out _) 0).trans rfl, (qb (qa BK104.out _) 1).trans rfl, (qb (qa BK104.out _) 2).trans rfl, (qb (qa BK104.out _) 3).trans rfl⟩ (fun hHeld => ?_)
      clear hK K
      refine norm_ (a' := ?_) ?_ ?_
      rotate_left
      ·show Act.put _ (some 33) _ = _
       simp only [Act.put, sq1, sq2, sq3, i64_w, i32_w]
       rfl
      refine one_ (i := 5) (N := some 34) bq44 rfl rfl (one_of HT_.out (by kernel_rfl)) (by decide) (fun K hK => ?_)
      refine Kd.R_append_step k66 w.heap.size (by rfl) (.tmp 30) (.tmp 33) 30 66 (.agg #[(.int .i64 0), (.int .i64 0), (.string ⟨#[]⟩), (.string ⟨#[]⟩), (.int .i64 0)]) 56 rfl Try.underlying30 info66 rfl (by decide) (by omega) u105000 x105000_1 (⟨t127, t128, t129, t130, t131⟩ : S66) [.int .i64 t127, .int .i64 t128, .string t129, .string t130, .int .i64 t131] (fun _ => True) (fun _ => False) rfl rfl ?aP (fun _ hk => hk.elim) ?aF ?aO (Below.refl _ _) ?aS ?aL ?_
      (case aP => exact k66_mkM _ _ _ (⟨t127, t128, t129, t130, t131⟩ : S66))
      (case aF => exact (fun _ _ => trivial))
      (case aO => exact yq77)
      (case aS => exact (qa1 (w := w) (g := g) (row := none) yq73))
      (case aL => have := LMc51.out; omega)
      intro v134 w55 ho hb hg hat
      rw [← Ny133.out] at ho
      have n0_ := Qz.mk (qd1 (g := gb101) (o := .cells #[.slice none 0 0, .int .i64 0, .int .i64 0, .int .i64 0] 32 (0, 0)) yq74 hg (Kd.R_ne HO_105000.out BK101.out (by decide)))
      have n1_ := Qz.mk (qd1 (g := gb104) (o := .cells #[u105000, .int .i64 x105001_1, .int .i64 x105002_1, .int .i64 x105003_1] 32 (0, 0)) yq76 hg (Kd.R_ne HO_105000.out BK104.out (by decide)))
      have n2_ := Qz.mk (IsS123.grown yq78 hg (IsS123.own_ne HI0.out HO_105000.out (by decide)))
      have n3_ := Qz.mk (below_weaken yq80 HL.out hb)
      have n4_ := Qz.mk (KeepBut.trans yq73 (KeepBut.of_grown hg g) (Kd.R_base2 HO_105000.out))
      have n5_ := Qz.mk (ho)
      clear BK101
      clear BK104
      clear HI0
      clear HB
      clear HK
      clear HO_105000
      have BK101 := n0_
      have BK104 := n1_
      have HI0 := n2_
      have HB := n3_
      have HK := n4_
      have HO135 := n5_
      clear n0_ n1_ n2_ n3_ n4_ n5_
      clear ho hb hg hat
      obtain ⟨Ao56, co56, eo56⟩ := Kd.R_slice HO135.out
      (first | subst eo56 | (injection eo56 with f1_ f2_ f3_; have f4_ := f1_.symm; have f5_ := f3_.symm; clear f1_ f2_ f3_; subst f4_; subst f5_))
      refine hK.out _ _ ⟨(qb BK104.out 0).trans rfl, (qb BK104.out 1).trans rfl, (qb BK104.out 2).trans rfl, (qb BK104.out 3).trans rfl⟩ (fun hHeld => ?_)
      clear hK K
      refine norm_ (a' := ?_) ?_ ?_
      rotate_left
      ·show Act.put _ (some 34) _ = _
       simp only [Act.put, sq1, sq2, sq3, i64_w, i32_w]
       rfl
      refine pure_ (i := 6) (N := some 35) (v := ?_) (a' := ?_) bq54 rfl rfl (qr HT_.out (by kernel_rfl)) (fun _ _ _ h => h) (Or.inl ⟨by rfl, ?_⟩) ?_ ?_
      rotate_left
      ·intro w'
       go_simp
       with_reducible rfl
      rotate_left
      ·simp only [Act.put, sq1, sq2, sq3, i64_w, i32_w]
       rfl
      refine last_ (i := 7) (N := none) bq115 rfl rfl (one_of HT_.out (by kernel_rfl)) (by decide) (fun K hK => ?_)
      have hs57 : w55.cell? ⟨gb104, 0, none⟩ = some (u105000) := (qb BK104.out 0).trans rfl
      have hfs57 := qe BK104.out 0
      have hns57_0 := NB101_104.out
      have hms57_0 := NB104_101.out
      refine skip_ (w1 := ?_) (by rfl) rfl ?_ ?_
      rotate_left
      ·go_simp
       rfl
      refine hK.out _ _ ?_
      clear hK K
      refine done_ (done_of HT_.out (by kernel_rfl)) ?_
      have hnb58 := NB104_101.out
      have hnc58 := NB101_104.out
      have hnb59 := NB104_0.out
      have hnc59 := NB0_104.out
      have hcz60_0 : w55.cell? ⟨gb104, 0, none⟩ = some (u105000) := (qb BK104.out 0).trans rfl
      have hcz60_1 : w55.cell? ⟨gb104, 1, none⟩ = some (.int .i64 x105001_1) := (qb BK104.out 1).trans rfl
      have hcz60_2 : w55.cell? ⟨gb104, 2, none⟩ = some (.int .i64 x105002_1) := (qb BK104.out 2).trans rfl
      have hcz60_3 : w55.cell? ⟨gb104, 3, none⟩ = some (.int .i64 x105003_1) := (qb BK104.out 3).trans rfl
      have hfz60_0 := qe BK104.out 0
      have hfz60_1 := qe BK104.out 1
      have hfz60_2 := qe BK104.out 2
      have hfz60_3 := qe BK104.out 3
      have hnb61 := NB101_0.out
      have hnc61 := NB0_101.out
      have hcz62_0 : w55.cell? ⟨gb101, 0, none⟩ = some (.slice none 0 0) := (qb BK101.out 0).trans rfl
      have hcz62_1 : w55.cell? ⟨gb101, 1, none⟩ = some (.int .i64 0) := (qb BK101.out 1).trans rfl
      have hcz62_2 : w55.cell? ⟨gb101, 2, none⟩ = some (.int .i64 0) := (qb BK101.out 2).trans rfl
      have hcz62_3 : w55.cell? ⟨gb101, 3, none⟩ = some (.int .i64 0) := (qb BK101.out 3).trans rfl
      have hfz62_0 := qe BK101.out 0
      have hfz62_1 := qe BK101.out 1
      have hfz62_2 := qe BK101.out 2
      have hfz62_3 := qe BK101.out 3
      try go_wp2
      refine bodyPost_ret (results_cell_row rfl _ _ gb101 32 #[.slice Ao56 y133.length co56, .int .i64 x105001_1, .int .i64 x105002_1, .int .i64 x105003_1] (0, 0) _ rfl (by (with_reducible repeat (first | refine qc ?_ _ | refine qf ?_ | refine qa ?_ _)); refine qx (cs := #[.slice Ao56 y133.length co56, .int .i64 x105001_1, .int .i64 x105002_1, .int .i64 0]) ?_ 3 _ rfl; (with_reducible repeat (first | refine qc ?_ _ | refine qf ?_ | refine qa ?_ _)); refine qx (cs := #[.slice Ao56 y133.length co56, .int .i64 x105001_1, .int .i64 0, .int .i64 0]) ?_ 2 _ rfl; (with_reducible repeat (first | refine qc ?_ _ | refine qf ?_ | refine qa ?_ _)); refine qx (cs := #[.slice Ao56 y133.length co56, .int .i64 0, .int .i64 0, .int .i64 0]) ?_ 1 _ rfl; (with_reducible repeat (first | refine qc ?_ _ | refine qf ?_ | refine qa ?_ _)); refine qx (cs := #[.slice none 0 0, .int .i64 0, .int .i64 0, .int .i64 0]) ?_ 0 _ rfl; (with_reducible repeat (first | refine qc ?_ _ | refine qf ?_ | refine qa ?_ _)); refine qu ?_ NB101_104.out _; (with_reducible repeat (first | refine qc ?_ _ | refine qf ?_ | refine qa ?_ _)); exact BK101.out) Try.underlying32 rfl (by kernel_rfl)) rfl ?_
      exact ⟨_, by first | rfl | (simp [qw, qv] <;> rfl) | (simp [*, qw, qv] <;> rfl), by (with_reducible repeat (first | apply Kd.R_alloc | apply Kd.R_drewN | apply Kd.R_drew)); exact Kd.R_mono (Kd.R_far (p := ⟨gb101, 3, none⟩) (Kd.R_far (p := ⟨gb101, 2, none⟩) (Kd.R_far (p := ⟨gb101, 1, none⟩) (Kd.R_far (p := ⟨gb101, 0, none⟩) (Kd.R_far (p := ⟨gb104, 0, none⟩) (Kd.R_types (Kd.R_types HO135.out BK104.out (by decide)) BK101.out (by decide)) (fun _ hk => hk.1.2) (.slice Ao56 y133.length co56)) (fun _ hk => hk.2) (.slice Ao56 y133.length co56)) (fun _ hk => hk.2) (.int .i64 x105001_1)) (fun _ hk => hk.2) (.int .i64 x105002_1)) (fun _ hk => hk.2) (.int .i64 x105003_1)) (fun _ hk => trivial), by repeat (first | (with_reducible first | exact HI0.out | apply IsS123.alloc | apply IsS123.drewN | apply IsS123.drew | apply IsS123.set_1 | apply (fun h_ => IsS123.far h_ NB0_101.out _) | apply (fun h_ => IsS123.far h_ NB0_104.out _)) | exact HI0.out), by repeat (first | (with_reducible first | exact HB.out | apply qi | apply qd | apply qh | refine qg ?_ (IsS123.ge HI0.out) | refine qg ?_ GE101.out | refine qg ?_ GE104.out) | exact HB.out), by repeat (first | (with_reducible first | exact HK.out | apply KeepBut.set_ | apply ql | apply qo | apply qm | refine qj ?_ GW101.out _ | refine qj ?_ GW104.out _) | exact HK.out)⟩
     ·rw [if_neg c51] at H
      exact absurd H (by simp)
    ·replace c49 := Bool.eq_false_iff.mpr c49
     subst c49
     have H1 : (some (x105000_1, x105001_1, x105002_1, x105003_1, t126)) = some (r1, r2, r3, r4, r5) := by rw [if_neg (show ¬ (false = true) by decide)] at H; exact H
     clear H
     have H := H1
     clear H1
     simp only [Option.some.injEq, Prod.mk.injEq] at H
     obtain ⟨rfl, rfl, rfl, rfl, rfl⟩ := H
     go_wp2_with (first | ((with_reducible refine qp (f := 73) rfl ?_); refine qz (some 28) rfl rfl Try.func73 (by kernel_rfl) rfl #[.pointer (some ⟨g, 0, none⟩), .int .i64 16] rfl yq100 ?_; (with_reducible refine (spec_l1Rd_once.calls g s0_0 x1001_1 16 false t126 w0 _ ?side1 ?side2 A48.out).mono ?_); (case side1 => exact yq78); (case side2 => exact yq80); rintro e w63 ⟨rfl, hi, hb, hk⟩; refine ⟨_, rfl, ?_⟩; replace HO_105000 := Qz.mk (Kd.R_mono (Kd.R_keep (IsS123.apart (show IsS123 w0 _ g s0_0 x1001_1 from by repeat (first | (with_reducible first | exact HI0.out | apply IsS123.alloc | apply IsS123.drewN | apply IsS123.drew | apply IsS123.set_1 | apply (fun h_ => IsS123.far h_ NB0_101.out _) | apply (fun h_ => IsS123.far h_ NB0_104.out _)) | exact HI0.out)) yq77 (by decide)) hk (fun _ h => h.2)) (fun _ h => h.1)); replace BK101 := Qz.mk (KeepBut.blk hk (g' := gb101) (o := .cells #[.slice none 0 0, .int .i64 0, .int .i64 0, .int .i64 0] 32 (0, 0)) yq74 NB101_0.out (by simp)); replace BK104 := Qz.mk (KeepBut.blk hk (g' := gb104) (o := .cells #[u105000, .int .i64 x105001_1, .int .i64 x105002_1, .int .i64 x105003_1] 32 (0, 0)) yq76 NB104_0.out (by simp)); replace HK := Qz.mk (KeepBut.trans yq73 hk (.inl rfl)); replace HB := Qz.mk (hb); replace HI0 := Qz.mk (hi); (try clear hb); (try clear hk); (try clear hi); have hnb64 := NB104_101.out; have hnc64 := NB101_104.out; have hnb65 := NB104_0.out; have hnc65 := NB0_104.out; have hcz66_0 : w63.cell? ⟨gb104, 0, none⟩ = some (u105000) := (qb BK104.out 0).trans rfl; have hcz66_1 : w63.cell? ⟨gb104, 1, none⟩ = some (.int .i64 x105001_1) := (qb BK104.out 1).trans rfl; have hcz66_2 : w63.cell? ⟨gb104, 2, none⟩ = some (.int .i64 x105002_1) := (qb BK104.out 2).trans rfl; have hcz66_3 : w63.cell? ⟨gb104, 3, none⟩ = some (.int .i64 x105003_1) := (qb BK104.out 3).trans rfl; have hfz66_0 := qe BK104.out 0; have hfz66_1 := qe BK104.out 1; have hfz66_2 := qe BK104.out 2; have hfz66_3 := qe BK104.out 3; obtain ⟨Ao67, co67, eo67⟩ := Kd.R_slice HO_105000.out; subst eo67; have hnb68 := NB101_0.out; have hnc68 := NB0_101.out; have hcz69_0 : w63.cell? ⟨gb101, 0, none⟩ = some (.slice none 0 0) := (qb BK101.out 0).trans rfl; have hcz69_1 : w63.cell? ⟨gb101, 1, none⟩ = some (.int .i64 0) := (qb BK101.out 1).trans rfl; have hcz69_2 : w63.cell? ⟨gb101, 2, none⟩ = some (.int .i64 0) := (qb BK101.out 2).trans rfl; have hcz69_3 : w63.cell? ⟨gb101, 3, none⟩ = some (.int .i64 0) := (qb BK101.out 3).trans rfl; have hfz69_0 := qe BK101.out 0; have hfz69_1 := qe BK101.out 1; have hfz69_2 := qe BK101.out 2; have hfz69_3 := qe BK101.out 3))
     refine bodyPost_ret (results_cell_row rfl _ _ gb101 32 #[.slice Ao67 x105000_1.length co67, .int .i64 x105001_1, .int .i64 x105002_1, .int .i64 x105003_1] (0, 0) _ rfl (by (with_reducible repeat (first | refine qc ?_ _ | refine qf ?_ | refine qa ?_ _)); refine qx (cs := #[.slice Ao67 x105000_1.length co67, .int .i64 x105001_1, .int .i64 x105002_1, .int .i64 0]) ?_ 3 _ rfl; (with_reducible repeat (first | refine qc ?_ _ | refine qf ?_ | refine qa ?_ _)); refine qx (cs := #[.slice Ao67 x105000_1.length co67, .int .i64 x105001_1, .int .i64 0, .int .i64 0]) ?_ 2 _ rfl; (with_reducible repeat (first | refine qc ?_ _ | refine qf ?_ | refine qa ?_ _)); refine qx (cs := #[.slice Ao67 x105000_1.length co67, .int .i64 0, .int .i64 0, .int .i64 0]) ?_ 1 _ rfl; (with_reducible repeat (first | refine qc ?_ _ | refine qf ?_ | refine qa ?_ _)); refine qx (cs := #[.slice none 0 0, .int .i64 0, .int .i64 0, .int .i64 0]) ?_ 0 _ rfl; (with_reducible repeat (first | refine qc ?_ _ | refine qf ?_ | refine qa ?_ _)); exact BK101.out) Try.underlying32 rfl (by kernel_rfl)) rfl ?_
     exact ⟨_, by first | rfl | (simp [qw, qv] <;> rfl) | (simp [*, qw, qv] <;> rfl), by (with_reducible repeat (first | apply Kd.R_alloc | apply Kd.R_drewN | apply Kd.R_drew)); exact Kd.R_mono (Kd.R_far (p := ⟨gb101, 3, none⟩) (Kd.R_far (p := ⟨gb101, 2, none⟩) (Kd.R_far (p := ⟨gb101, 1, none⟩) (Kd.R_far (p := ⟨gb101, 0, none⟩) (Kd.R_types HO_105000.out BK101.out (by decide)) (fun _ hk => hk.2) (.slice Ao67 x105000_1.length co67)) (fun _ hk => hk.2) (.int .i64 x105001_1)) (fun _ hk => hk.2) (.int .i64 x105002_1)) (fun _ hk => hk.2) (.int .i64 x105003_1)) (fun _ hk => trivial), by repeat (first | (with_reducible first | exact HI0.out | apply IsS123.alloc | apply IsS123.drewN | apply IsS123.drew | apply IsS123.set_1 | apply (fun h_ => IsS123.far h_ NB0_101.out _) | apply (fun h_ => IsS123.far h_ NB0_104.out _)) | exact HI0.out), by repeat (first | (with_reducible first | exact HB.out | apply qi | apply qd | apply qh | refine qg ?_ (IsS123.ge HI0.out) | refine qg ?_ GE101.out | refine qg ?_ GE104.out) | exact HB.out), by repeat (first | (with_reducible first | exact HK.out | apply KeepBut.set_ | apply ql | apply qo | apply qm | refine qj ?_ GW101.out _ | refine qj ?_ GW104.out _) | exact HK.out)⟩
theorem yq103 {P : Prop} (h : P := by repeat (first | (with_reducible first | exact HK.out | apply KeepBut.set_ | apply ql | apply qo | apply qm) | exact HK.out)) : P := h
def spec_l1Rd_text.f (s0_0 : List Int) (s0_1 : Int) : Option (ByteArray × Int) := (some (([(⟨#[]⟩ : ByteArray), (⟨#[97]⟩ : ByteArray), (⟨#[98]⟩ : ByteArray), (⟨#[97, 98]⟩ : ByteArray), (⟨#[97, 98, 99]⟩ : ByteArray), (⟨#[97, 98, 100]⟩ : ByteArray), (⟨#[107, 101, 121]⟩ : ByteArray), (⟨#[107, 101, 121, 49]⟩ : ByteArray), (⟨#[107, 101, 121, 50]⟩ : ByteArray), (⟨#[122, 122]⟩ : ByteArray), (⟨#[0]⟩ : ByteArray), (⟨#[97, 0]⟩ : ByteArray)] : List ByteArray) : List ByteArray)).bind fun y101 => ((spec_l1Rd_below.f s0_0 s0_1 12).bind fun bt104 => (if 0 ≤ bt104.1 then (if bt104.1 < (y101.length : Int) then (some (rdOf ByteArray.empty y101 bt104.1, bt104.2)) else (none)) else (none)))
set_option maxHeartbeats 8000000 in
set_option maxRecDepth 100000 in
theorem spec_l1Rd_text.calls (g : Nat) (s0_0 : List Int) (s0_1 : Int) (r1 : ByteArray) (r2 : Int) (w0 w : World) (hI : IsS123 w0 w g s0_0 s0_1) (hB : Below w0.heap.size w0 w) (h : spec_l1Rd_text.f s0_0 s0_1 = some (r1, r2)) :
  Calls Try.prog 75 #[.pointer (some ⟨g, 0, none⟩)] w fun e w' => e = .returned (.string r1) ∧ IsS123 w0 w' g s0_0 r2 ∧ Below w0.heap.size w0 w' ∧ KeepBut w w' g none := by
 have HI0 := Qz.mk hI
 have HK := Qz.mk (KeepBut.refl w g none)
 have HL := Qz.mk hB.size
 clear hI
 have HW0 := Qz.mk hB.size
 have HB := Qz.mk hB
 clear hB
 have H : ((some (([(⟨#[]⟩ : ByteArray), (⟨#[97]⟩ : ByteArray), (⟨#[98]⟩ : ByteArray), (⟨#[97, 98]⟩ : ByteArray), (⟨#[97, 98, 99]⟩ : ByteArray), (⟨#[97, 98, 100]⟩ : ByteArray), (⟨#[107, 101, 121]⟩ : ByteArray), (⟨#[107, 101, 121, 49]⟩ : ByteArray), (⟨#[107, 101, 121, 50]⟩ : ByteArray), (⟨#[122, 122]⟩ : ByteArray), (⟨#[0]⟩ : ByteArray), (⟨#[97, 0]⟩ : ByteArray)] : List ByteArray) : List ByteArray)).bind fun y101 => ((spec_l1Rd_below.f s0_0 s0_1 12).bind fun bt104 => (if 0 ≤ bt104.1 then (if bt104.1 < (y101.length : Int) then (some (rdOf ByteArray.empty y101 bt104.1, bt104.2)) else (none)) else (none)))) = some (r1, r2) := h
 clear h
 obtain ⟨y101, hy101⟩ : ∃ y_ : List ByteArray, y_ = (([(⟨#[]⟩ : ByteArray), (⟨#[97]⟩ : ByteArray), (⟨#[98]⟩ : ByteArray), (⟨#[97, 98]⟩ : ByteArray), (⟨#[97, 98, 99]⟩ : ByteArray), (⟨#[97, 98, 100]⟩ : ByteArray), (⟨#[107, 101, 121]⟩ : ByteArray), (⟨#[107, 101, 121, 49]⟩ : ByteArray), (⟨#[107, 101, 121, 50]⟩ : ByteArray), (⟨#[122, 122]⟩ : ByteArray), (⟨#[0]⟩ : ByteArray), (⟨#[97, 0]⟩ : ByteArray)] : List ByteArray)) := ⟨_, rfl⟩
 replace H : ((spec_l1Rd_below.f s0_0 s0_1 12).bind fun bt104 => (if 0 ≤ bt104.1 then (if bt104.1 < (y101.length : Int) then (some (rdOf ByteArray.empty y101 bt104.1, bt104.2)) else (none)) else (none))) = some (r1, r2) := by first | (rw [hy101]; with_reducible exact H) | (have H2_ := (Option.bind_some _ _).symm.trans H; rw [hy101]; with_reducible exact H2_) | (have H2_ := (Option.bind_some _ _).symm.trans H; with_reducible exact H2_) | with_reducible exact H | (rw [hy101]; exact H) | exact H
 have Ny101 := Qz.mk hy101
 clear hy101
 replace H := Option.bind_eq_some_iff.mp H
 obtain ⟨⟨t104, t105⟩, A20, H⟩ := H
 replace H : (if 0 ≤ t104 then (if t104 < (y101.length : Int) then (some (rdOf ByteArray.empty y101 t104, t105)) else (none)) else (none)) = some (r1, r2) := H
 have A2 := Qz.mk A20
 clear A20
 by_cases c3 : 0 ≤ t104
 ·rw [if_pos c3] at H
  have c3b0 : decide (0 ≤ t104) = true := decide_eq_true c3
  clear c3
  by_cases c4 : t104 < (y101.length : Int)
  ·rw [if_pos c4] at H
   have c4b0 : decide (t104 < (y101.length : Int)) = true := decide_eq_true c4
   clear c4
   simp only [Option.some.injEq, Prod.mk.injEq] at H
   obtain ⟨rfl, rfl⟩ := H
   go_enter Try.func75, Try.ntmps75
   go_wp2_with (first | ((with_reducible refine qf1 (N := 3) rfl ?_); refine Kd.R_lit Kd.string _ 9 ?hg (N := 3) ?hd (xs := ([(⟨#[]⟩ : ByteArray), (⟨#[97]⟩ : ByteArray), (⟨#[98]⟩ : ByteArray), (⟨#[97, 98]⟩ : ByteArray), (⟨#[97, 98, 99]⟩ : ByteArray), (⟨#[97, 98, 100]⟩ : ByteArray), (⟨#[107, 101, 121]⟩ : ByteArray), (⟨#[107, 101, 121, 49]⟩ : ByteArray), (⟨#[107, 101, 121, 50]⟩ : ByteArray), (⟨#[122, 122]⟩ : ByteArray), (⟨#[0]⟩ : ByteArray), (⟨#[97, 0]⟩ : ByteArray)] : List ByteArray)) (inner := [.string (⟨#[]⟩ : ByteArray), .string (⟨#[97]⟩ : ByteArray), .string (⟨#[98]⟩ : ByteArray), .string (⟨#[97, 98]⟩ : ByteArray), .string (⟨#[97, 98, 99]⟩ : ByteArray), .string (⟨#[97, 98, 100]⟩ : ByteArray), .string (⟨#[107, 101, 121]⟩ : ByteArray), .string (⟨#[107, 101, 121, 49]⟩ : ByteArray), .string (⟨#[107, 101, 121, 50]⟩ : ByteArray), .string (⟨#[122, 122]⟩ : ByteArray), .string (⟨#[0]⟩ : ByteArray), .string (⟨#[97, 0]⟩ : ByteArray)]) (ok := fun _ => True) (okp := fun _ => True) ?hr ?hp (fun _ hk => hk) trivial (Below.refl _ _) (Nat.le_refl _) (by simp) ?_; (case hd => rfl); (case hg => rfl); (case hr => first | (go_simp; done) | (go_simp; rfl)); (case hp => exact (Reps.one (show Kd.M Kd.string _ _ _ (⟨#[]⟩ : ByteArray) [.string (⟨#[]⟩ : ByteArray)] from rfl) (Reps.one (show Kd.M Kd.string _ _ _ (⟨#[97]⟩ : ByteArray) [.string (⟨#[97]⟩ : ByteArray)] from rfl) (Reps.one (show Kd.M Kd.string _ _ _ (⟨#[98]⟩ : ByteArray) [.string (⟨#[98]⟩ : ByteArray)] from rfl) (Reps.one (show Kd.M Kd.string _ _ _ (⟨#[97, 98]⟩ : ByteArray) [.string (⟨#[97, 98]⟩ : ByteArray)] from rfl) (Reps.one (show Kd.M Kd.string _ _ _ (⟨#[97, 98, 99]⟩ : ByteArray) [.string (⟨#[97, 98, 99]⟩ : ByteArray)] from rfl) (Reps.one (show Kd.M Kd.string _ _ _ (⟨#[97, 98, 100]⟩ : ByteArray) [.string (⟨#[97, 98, 100]⟩ : ByteArray)] from rfl) (Reps.one (show Kd.M Kd.string _ _ _ (⟨#[107, 101, 121]⟩ : ByteArray) [.string (⟨#[107, 101, 121]⟩ : ByteArray)] from rfl) (Reps.one (show Kd.M Kd.string _ _ _ (⟨#[107, 101, 121, 49]⟩ : ByteArray) [.string (⟨#[107, 101, 121, 49]⟩ : ByteArray)] from rfl) (Reps.one (show Kd.M Kd.string _ _ _ (⟨#[107, 101, 121, 50]⟩ : ByteArray) [.string (⟨#[107, 101, 121, 50]⟩ : ByteArray)] from rfl) (Reps.one (show Kd.M Kd.string _ _ _ (⟨#[122, 122]⟩ : ByteArray) [.string (⟨#[122, 122]⟩ : ByteArray)] from rfl) (Reps.one (show Kd.M Kd.string _ _ _ (⟨#[0]⟩ : ByteArray) [.string (⟨#[0]⟩ : ByteArray)] from rfl) (Reps.one (show Kd.M Kd.string _ _ _ (⟨#[97, 0]⟩ : ByteArray) [.string (⟨#[97, 0]⟩ : ByteArray)] from rfl) (Reps.none _ _)))))))))))))); intro v102 w5 ho6 hb hg_ hnew_; clear hg_ hnew_; (first | rw [← Ny101.out] at ho6 | (simp only [Int.reduceToNat] at ho6; rw [← Ny101.out] at ho6)); have HO103 := Qz.mk (Kd.R_lower ho6 (qa1 (w := w) (g := g) (row := none) yq103)); replace HK := Qz.mk (KeepBut.trans yq103 (KeepBut.of_below hb g none) (.inl rfl)); replace HB := Qz.mk (qn (by repeat (first | (with_reducible first | exact HB.out | apply qi | apply qd | apply qh | refine qg ?_ (IsS123.ge HI0.out)) | exact HB.out)) hb); replace HI0 := Qz.mk (IsS123.below (by repeat (first | (with_reducible first | exact HI0.out | apply IsS123.alloc | apply IsS123.drewN | apply IsS123.drew | apply IsS123.set_1) | exact HI0.out)) hb); clear hb ho6) | ((with_reducible refine qp (f := 80) rfl ?_); refine qz (some 5) rfl rfl Try.func80 (by kernel_rfl) rfl #[.pointer (some ⟨g, 0, none⟩), .int .i64 12] rfl (by (try simp only [List.map_toArray, List.map_cons, List.map_nil]); first | done | rfl) ?_; (with_reducible refine (spec_l1Rd_below.calls g s0_0 s0_1 12 t104 t105 w0 _ ?side1 ?side2 A2.out).mono ?_); (case side1 => repeat (first | (with_reducible first | exact HI0.out | apply IsS123.alloc | apply IsS123.drewN | apply IsS123.drew | apply IsS123.set_1) | exact HI0.out)); (case side2 => repeat (first | (with_reducible first | exact HB.out | apply qi | apply qd | apply qh | refine qg ?_ (IsS123.ge HI0.out)) | exact HB.out)); rintro e w7 ⟨rfl, hi, hb, hk⟩; refine ⟨_, rfl, ?_⟩; replace HO103 := Qz.mk (Kd.R_mono (Kd.R_keep (IsS123.apart (show IsS123 w0 _ g s0_0 s0_1 from by repeat (first | (with_reducible first | exact HI0.out | apply IsS123.alloc | apply IsS123.drewN | apply IsS123.drew | apply IsS123.set_1) | exact HI0.out)) (by (with_reducible repeat (first | apply Kd.R_alloc | apply Kd.R_drewN | apply Kd.R_drew)); exact HO103.out) (by decide)) hk (fun _ h => h.2)) (fun _ h => h.1)); replace HK := Qz.mk (KeepBut.trans yq103 hk (.inl rfl)); replace HB := Qz.mk (hb); replace HI0 := Qz.mk (hi); (try clear hb); (try clear hk); (try clear hi); obtain ⟨Ao8, co8, eo8⟩ := Kd.R_slice HO103.out; subst eo8; have p106 : 0 ≤ (t104 : Int) := of_decide_eq_true (by first | (with_reducible assumption) | assumption); have q106 : t104 < (y101.length : Int) := of_decide_eq_true (by first | (with_reducible assumption) | assumption); obtain ⟨ad106, e106, hx106_0⟩ := Kd.at_string (Kd.R_reads' HO103.out).2.2 t104 p106 q106; cases e106; replace p106 := eq_true p106; replace q106 := eq_true q106))
   go_ret
   exact ⟨by first | rfl | (simp [qw, qv] <;> rfl) | (simp [*, qw, qv] <;> rfl), by repeat (first | (with_reducible first | exact HI0.out | apply IsS123.alloc | apply IsS123.drewN | apply IsS123.drew | apply IsS123.set_1) | exact HI0.out), by repeat (first | (with_reducible first | exact HB.out | apply qi | apply qd | apply qh | refine qg ?_ (IsS123.ge HI0.out)) | exact HB.out), by repeat (first | (with_reducible first | exact HK.out | apply KeepBut.set_ | apply ql | apply qo | apply qm) | exact HK.out)⟩
  ·rw [if_neg c4] at H
   exact absurd H (by simp)
 ·rw [if_neg c3] at H
  exact absurd H (by simp)
theorem yq104 {P : Prop} (h : P := by (with_reducible repeat (first | refine qc ?_ _ | refine qf ?_ | refine qa ?_ _)); exact BK101.out) : P := h
theorem yq105 {P : Prop} (h : P := by repeat (first | (with_reducible first | exact HI104.out | apply IsS123.alloc | apply IsS123.drewN | apply IsS123.drew | apply IsS123.set_1 | apply (fun h_ => IsS123.far h_ NB104_101.out _) | apply (fun h_ => IsS123.far h_ NB104_112.out _)) | exact HI104.out)) : P := h
theorem yq106 {P : Prop} (h : P := by repeat (first | (with_reducible first | exact HB.out | apply qi | apply qd | apply qh | refine qg ?_ (IsS123.ge HI104.out) | refine qg ?_ GE101.out) | exact HB.out)) : P := h
theorem yq107 {P : Prop} (h : P := by repeat (first | (with_reducible first | exact HB.out | apply qi | apply qd | apply qh | refine qg ?_ (IsS123.ge HI104.out) | refine qg ?_ GE101.out | refine qg ?_ GE112.out) | exact HB.out)) : P := h
theorem yq108 {P : Prop} (h : P := by (try simp only [List.map_toArray, List.map_cons, List.map_nil]); first | done | rfl) : P := h
theorem yq109 {P : Prop} (h : P := by repeat (first | (with_reducible first | exact HI104.out | apply IsS123.alloc | apply IsS123.drewN | apply IsS123.drew | apply IsS123.set_1 | apply (fun h_ => IsS123.far h_ NB104_101.out _)) | exact HI104.out)) : P := h
theorem yq110 {P : Prop} (h : P := by (with_reducible repeat (first | apply Kd.R_alloc | apply Kd.R_drewN | apply Kd.R_drew)); exact HO107.out) : P := h
theorem yq111 {P : Prop} (h : P := by (with_reducible repeat (first | refine qc ?_ _ | refine qf ?_ | refine qa ?_ _)); refine qu ?_ NB101_112.out _; (with_reducible repeat (first | refine qc ?_ _ | refine qf ?_ | refine qa ?_ _)); refine qu ?_ NB101_112.out _; (with_reducible repeat (first | refine qc ?_ _ | refine qf ?_ | refine qa ?_ _)); refine qu ?_ NB101_112.out _; (with_reducible repeat (first | refine qc ?_ _ | refine qf ?_ | refine qa ?_ _)); refine qu ?_ NB101_112.out _; (with_reducible repeat (first | refine qc ?_ _ | refine qf ?_ | refine qa ?_ _)); exact BK101.out) : P := h
theorem yq112 {P : Prop} (h : P := by (with_reducible repeat (first | refine qc ?_ _ | refine qf ?_ | refine qa ?_ _)); exact BK112.out) : P := h
theorem yq113 {P : Prop} (h : P := by repeat (first | (with_reducible first | exact HB.out | apply qi | apply qd | apply qh) | exact HB.out)) : P := h
def spec_DrawOverlapping.f (k : Nat) (l0 : List Int) : Option ((List (S66)) × Int × Int × Int × Int × ByteArray × ByteArray) := (spec_l1Open.f l0).bind fun bt102 => ((spec_l1Rd_version.f k bt102.1 bt102.2).bind fun bt105 => ((spec_l1Rd_off.f k bt102.1 bt105.2.2.2.2 0 3).bind fun bt113 => ((spec_l1Rd_once.f bt102.1 bt113.2 2).bind fun bt115 => (if bt115.1 = true then ((spec_l1Rd_user.f bt102.1 bt115.2).bind fun bt117 => (some (bt105.1, bt105.2.1, bt105.2.2.1, bt105.2.2.2.1, bt113.1, (⟨#[]⟩ : ByteArray), bt117.1))) else ((spec_l1Rd_text.f bt102.1 bt115.2).bind fun bt119 => ((spec_l1Rd_user.f bt102.1 bt119.2).bind fun bt121 => (some (bt105.1, bt105.2.1, bt105.2.2.1, bt105.2.2.2.1, bt113.1, bt119.1, bt121.1))))))))
def spec_DrawOverlapping.T5 : Bool × List (List Nat × List Nat) := (true, [([], []), ([], []), ([], []), ([2], [2]), ([0, 3, 0], [0]), ([1, 4, 0, 1, 4], [1]), ([5, 0, 1, 4, 5], []), ([3, 6, 0, 1, 2, 3, 4, 5, 6], [3])])
def spec_DrawOverlapping.B5 : List Nat := [0, 0, 0, 4, 13, 31, 63, 127]
theorem spec_DrawOverlapping.tab5 : rtab .any (opsOf Try.f37 5) = spec_DrawOverlapping.T5 := by kernel_rfl
theorem spec_DrawOverlapping.bits5 : waitsOk spec_DrawOverlapping.T5.2 spec_DrawOverlapping.B5 = true := by kernel_rfl
def spec_DrawOverlapping.T6 : Bool × List (List Nat × List Nat) := (true, [([], []), ([], []), ([], []), ([2], [2]), ([], []), ([4, 3], [4]), ([0, 5, 0], [0]), ([1, 6, 0, 1, 6], [1]), ([3, 7, 0, 1, 2, 3, 6, 7], [3]), ([5, 8, 0, 1, 2, 3, 4, 5, 6, 7, 8], [5])])
def spec_DrawOverlapping.B6 : List Nat := [0, 0, 0, 4, 0, 28, 61, 127, 255, 511]
theorem spec_DrawOverlapping.tab6 : rtab .any (opsOf Try.f37 6) = spec_DrawOverlapping.T6 := by kernel_rfl
theorem spec_DrawOverlapping.bits6 : waitsOk spec_DrawOverlapping.T6.2 spec_DrawOverlapping.B6 = true := by kernel_rfl
set_option maxHeartbeats 8000000 in
set_option maxRecDepth 100000 in
theorem spec_DrawOverlapping.calls (k : Nat) (A0 : Option Addr) (c0 : Nat) (l0 : List Int) (r1 : List (S66)) (r2 : Int) (r3 : Int) (r4 : Int) (r5 : Int) (r6 : ByteArray) (r7 : ByteArray) (w : World) (hr0 : Kd.C (Kd.int .u8) w A0 l0.length l0) (hc0 : l0.length ≤ c0) (h : spec_DrawOverlapping.f k l0 = some (r1, r2, r3, r4, r5, r6, r7)) :
  Calls Try.prog 37 #[.slice A0 l0.length c0] w fun e w' => ∃ v0_ : Value, e = .returned (.tuple #[.agg #[v0_, .int .i64 r2, .int .i64 r3, .int .i64 r4], .int .i64 r5, .string r6, .string r7]) ∧ Kd.R k66 66 w' w.heap.size (fun _ => True) v0_ r1 ∧ Below w.heap.size w w' := by
 have hu32 := Try.underlying32
 have HR0 := Qz.mk hr0
 have HC0 := Qz.mk hc0
 clear hr0 hc0
 have HB := Qz.mk (Below.refl w.heap.size w)
 have H : ((spec_l1Open.f l0).bind fun bt102 => ((spec_l1Rd_version.f k bt102.1 bt102.2).bind fun bt105 => ((spec_l1Rd_off.f k bt102.1 bt105.2.2.2.2 0 3).bind fun bt113 => ((spec_l1Rd_once.f bt102.1 bt113.2 2).bind fun bt115 => (if bt115.1 = true then ((spec_l1Rd_user.f bt102.1 bt115.2).bind fun bt117 => (some (bt105.1, bt105.2.1, bt105.2.2.1, bt105.2.2.2.1, bt113.1, (⟨#[]⟩ : ByteArray), bt117.1))) else ((spec_l1Rd_text.f bt102.1 bt115.2).bind fun bt119 => ((spec_l1Rd_user.f bt102.1 bt119.2).bind fun bt121 => (some (bt105.1, bt105.2.1, bt105.2.2.1, bt105.2.2.2.1, bt113.1, bt119.1, bt121.1))))))))) = some (r1, r2, r3, r4, r5, r6, r7) := h
 clear h
 replace H := Option.bind_eq_some_iff.mp H
 obtain ⟨⟨t102, t103⟩, A20, H⟩ := H
 replace H : ((spec_l1Rd_version.f k t102 t103).bind fun bt105 => ((spec_l1Rd_off.f k t102 bt105.2.2.2.2 0 3).bind fun bt113 => ((spec_l1Rd_once.f t102 bt113.2 2).bind fun bt115 => (if bt115.1 = true then ((spec_l1Rd_user.f t102 bt115.2).bind fun bt117 => (some (bt105.1, bt105.2.1, bt105.2.2.1, bt105.2.2.2.1, bt113.1, (⟨#[]⟩ : ByteArray), bt117.1))) else ((spec_l1Rd_text.f t102 bt115.2).bind fun bt119 => ((spec_l1Rd_user.f t102 bt119.2).bind fun bt121 => (some (bt105.1, bt105.2.1, bt105.2.2.1, bt105.2.2.2.1, bt113.1, bt119.1, bt121.1)))))))) = some (r1, r2, r3, r4, r5, r6, r7) := H
 have A2 := Qz.mk A20
 clear A20
 replace H := Option.bind_eq_some_iff.mp H
 obtain ⟨⟨t105, t108, t109, t110, t111⟩, A30, H⟩ := H
 replace H : ((spec_l1Rd_off.f k t102 t111 0 3).bind fun bt113 => ((spec_l1Rd_once.f t102 bt113.2 2).bind fun bt115 => (if bt115.1 = true then ((spec_l1Rd_user.f t102 bt115.2).bind fun bt117 => (some (t105, t108, t109, t110, bt113.1, (⟨#[]⟩ : ByteArray), bt117.1))) else ((spec_l1Rd_text.f t102 bt115.2).bind fun bt119 => ((spec_l1Rd_user.f t102 bt119.2).bind fun bt121 => (some (t105, t108, t109, t110, bt113.1, bt119.1, bt121.1))))))) = some (r1, r2, r3, r4, r5, r6, r7) := H
 have A3 := Qz.mk A30
 clear A30
 replace H := Option.bind_eq_some_iff.mp H
 obtain ⟨⟨t113, t114⟩, A40, H⟩ := H
 replace H : ((spec_l1Rd_once.f t102 t114 2).bind fun bt115 => (if bt115.1 = true then ((spec_l1Rd_user.f t102 bt115.2).bind fun bt117 => (some (t105, t108, t109, t110, t113, (⟨#[]⟩ : ByteArray), bt117.1))) else ((spec_l1Rd_text.f t102 bt115.2).bind fun bt119 => ((spec_l1Rd_user.f t102 bt119.2).bind fun bt121 => (some (t105, t108, t109, t110, t113, bt119.1, bt121.1)))))) = some (r1, r2, r3, r4, r5, r6, r7) := H
 have A4 := Qz.mk A40
 clear A40
 replace H := Option.bind_eq_some_iff.mp H
 obtain ⟨⟨t115, t116⟩, A50, H⟩ := H
 replace H : (if t115 = true then ((spec_l1Rd_user.f t102 t116).bind fun bt117 => (some (t105, t108, t109, t110, t113, (⟨#[]⟩ : ByteArray), bt117.1))) else ((spec_l1Rd_text.f t102 t116).bind fun bt119 => ((spec_l1Rd_user.f t102 bt119.2).bind fun bt121 => (some (t105, t108, t109, t110, t113, bt119.1, bt121.1))))) = some (r1, r2, r3, r4, r5, r6, r7) := H
 have A5 := Qz.mk A50
 clear A50
 by_cases c6 : t115 = true
 ·subst c6
  have H1 : ((spec_l1Rd_user.f t102 t116).bind fun bt117 => (some (t105, t108, t109, t110, t113, (⟨#[]⟩ : ByteArray), bt117.1))) = some (r1, r2, r3, r4, r5, r6, r7) := by rw [if_pos rfl] at H; exact H
  clear H
  have H := H1
  clear H1
  replace H := Option.bind_eq_some_iff.mp H
  obtain ⟨⟨t117, t118⟩, A70, H⟩ := H
  replace H : (some (t105, t108, t109, t110, t113, (⟨#[]⟩ : ByteArray), t117)) = some (r1, r2, r3, r4, r5, r6, r7) := H
  have A7 := Qz.mk A70
  clear A70
  simp only [Option.some.injEq, Prod.mk.injEq] at H
  obtain ⟨rfl, rfl, rfl, rfl, rfl, rfl, rfl⟩ := H
  go_enter Try.func37, Try.ntmps37
  try go_wp2_with (first | ((with_reducible refine qf1 (N := 2) rfl ?_); refine qe1 ?hg (N := 2) ?hd (cs := #[.slice none 0 0, .int .i64 0, .int .i64 0, .int .i64 0]) (t := 32) ?hr ?_; (case hd => rfl); (case hg => rfl); (case hr => first | (go_simp; done) | (go_simp; rfl)); intro gb101 hg w8 hbox hb; have BK101 := Qz.mk (hbox); have GW101 := Qz.mk ((by rw [hg]; exact (qt yq113) : w.heap.size ≤ gb101)); have GE101 := GW101; replace HB := Qz.mk (qn yq113 hb); clear hb hbox hg) | ((with_reducible refine qp (f := 70) rfl ?_); refine qz (some 10) rfl rfl Try.func70 (by kernel_rfl) rfl #[.slice A0 l0.length c0] rfl (by (try simp only [List.map_toArray, List.map_cons, List.map_nil]); first | done | rfl | (simp only [List.length_drop, List.length_take]; rfl) | (rw [IntWalk.u64_in _ (by omega)] <;> rfl)) ?_; (with_reducible refine (spec_l1Open.calls _ _ l0 t102 t103 w _ ?side1 ?side2 ?side3 A2.out).mono ?_); (case side1 => repeat (first | (with_reducible first | exact HB.out | apply qi | apply qd | apply qh | refine qg ?_ GE101.out) | exact HB.out)); (case side2 => exact HR0.out); (case side3 => exact HC0.out); rintro e w9 ⟨g104, rfl, hi, hb, hb2⟩; refine ⟨_, rfl, ?_⟩; replace HB := Qz.mk (hb); have HI104 := Qz.mk (hi); have NB104_101 := Qz.mk (IsS123.ne_blk hi (qq (g := gb101) (o := .cells #[.slice none 0 0, .int .i64 0, .int .i64 0, .int .i64 0] 32 (0, 0)) yq104 hb2) (by decide)); have NB101_104 := Qz.mk (Ne.symm (IsS123.ne_blk hi (qq (g := gb101) (o := .cells #[.slice none 0 0, .int .i64 0, .int .i64 0, .int .i64 0] 32 (0, 0)) yq104 hb2) (by decide))); replace BK101 := Qz.mk (qq (g := gb101) (o := .cells #[.slice none 0 0, .int .i64 0, .int .i64 0, .int .i64 0] 32 (0, 0)) yq104 hb2); (try clear hb); (try clear hb2); (try clear hk); (try clear hi)) | ((with_reducible refine qp (f := 71) rfl ?_); refine qz (some 12) rfl rfl Try.func71 (by kernel_rfl) rfl #[.pointer (some ⟨g104, 0, none⟩)] rfl yq108 ?_; (with_reducible refine (spec_l1Rd_version.calls k g104 t102 t103 t105 t108 t109 t110 t111 w _ ?side1 ?side2 A3.out).mono ?_); (case side1 => exact yq109); (case side2 => exact yq106); rintro e w10 ⟨v106, rfl, ho0, hi, hb, hk⟩; refine ⟨_, rfl, ?_⟩; replace BK101 := Qz.mk (KeepBut.blk hk (g' := gb101) (o := .cells #[.slice none 0 0, .int .i64 0, .int .i64 0, .int .i64 0] 32 (0, 0)) yq104 NB101_104.out (by simp)); have HO107 := Qz.mk (Kd.R_lower ho0 (qt yq106)); replace HB := Qz.mk (hb); replace HI104 := Qz.mk (hi); (try clear hb); (try clear hb2); (try clear hk); (try clear hi); (try clear ho0)) | ((with_reducible refine qf1 (N := 7) rfl ?_); refine qe1 ?hg (N := 7) ?hd (cs := #[.slice none 0 0, .int .i64 0, .int .i64 0, .int .i64 0]) (t := 32) ?hr ?_; (case hd => rfl); (case hg => rfl); (case hr => first | (go_simp; done) | (go_simp; rfl)); intro gb112 hg w11 hbox hb; replace HO107 := Qz.mk (Kd.R_below yq110 hb); have BK112 := Qz.mk (hbox); have GW112 := Qz.mk ((by rw [hg]; exact (qt yq106) : w.heap.size ≤ gb112)); have GE112 := GW112; replace HB := Qz.mk (qn yq106 hb); have NB101_112 := Qz.mk ((by rw [hg]; exact Nat.ne_of_lt (qc1 (g := gb101) (o := .cells #[.slice none 0 0, .int .i64 0, .int .i64 0, .int .i64 0] 32 (0, 0)) yq104) : gb101 ≠ gb112)); have NB112_101 := Qz.mk ((by rw [hg]; exact Nat.ne_of_gt (qc1 (g := gb101) (o := .cells #[.slice none 0 0, .int .i64 0, .int .i64 0, .int .i64 0] 32 (0, 0)) yq104) : gb112 ≠ gb101)); replace BK101 := Qz.mk (qq (g := gb101) (o := .cells #[.slice none 0 0, .int .i64 0, .int .i64 0, .int .i64 0] 32 (0, 0)) yq104 hb); have NB104_112 := Qz.mk ((by rw [hg]; exact Nat.ne_of_lt (IsS123.lt (show IsS123 w _ g104 t102 t111 from by repeat (first | (with_reducible first | exact HI104.out | apply IsS123.alloc | apply IsS123.drewN | apply IsS123.drew | apply IsS123.set_1 | apply (fun h_ => IsS123.far h_ NB104_101.out _)) | exact HI104.out))) : g104 ≠ gb112)); have NB112_104 := Qz.mk ((by rw [hg]; exact Nat.ne_of_gt (IsS123.lt (show IsS123 w _ g104 t102 t111 from by repeat (first | (with_reducible first | exact HI104.out | apply IsS123.alloc | apply IsS123.drewN | apply IsS123.drew | apply IsS123.set_1 | apply (fun h_ => IsS123.far h_ NB104_101.out _)) | exact HI104.out))) : gb112 ≠ g104)); replace HI104 := Qz.mk (IsS123.below yq109 hb); clear hb hbox hg; obtain ⟨Ao12, co12, eo12⟩ := Kd.R_slice HO107.out; subst eo12; have hnb13 := NB112_101.out; have hnc13 := NB101_112.out; have hnb14 := NB112_104.out; have hnc14 := NB104_112.out; have hcz15_0 : w11.cell? ⟨gb112, 0, none⟩ = some (.slice none 0 0) := (qb BK112.out 0).trans rfl; have hcz15_1 : w11.cell? ⟨gb112, 1, none⟩ = some (.int .i64 0) := (qb BK112.out 1).trans rfl; have hcz15_2 : w11.cell? ⟨gb112, 2, none⟩ = some (.int .i64 0) := (qb BK112.out 2).trans rfl; have hcz15_3 : w11.cell? ⟨gb112, 3, none⟩ = some (.int .i64 0) := (qb BK112.out 3).trans rfl; have hfz15_0 := qe BK112.out 0; have hfz15_1 := qe BK112.out 1; have hfz15_2 := qe BK112.out 2; have hfz15_3 := qe BK112.out 3) | ((with_reducible refine qp (f := 72) rfl ?_); refine qz (some 14) rfl rfl Try.func72 (by kernel_rfl) rfl #[.pointer (some ⟨g104, 0, none⟩), .int .i64 0, .int .i64 3] rfl yq108 ?_; (with_reducible refine (spec_l1Rd_off.calls k g104 t102 t111 0 3 t113 t114 w _ ?side1 ?side2 A4.out).mono ?_); (case side1 => exact yq105); (case side2 => exact yq107); rintro e w16 ⟨rfl, hi, hb, hk⟩; refine ⟨_, rfl, ?_⟩; replace BK101 := Qz.mk (KeepBut.blk hk (g' := gb101) (o := .cells #[.slice none 0 0, .int .i64 0, .int .i64 0, .int .i64 0] 32 (0, 0)) yq111 NB101_104.out (by simp)); replace HO107 := Qz.mk (Kd.R_mono (Kd.R_keep (IsS123.apart (show IsS123 w _ g104 t102 t111 from by repeat (first | (with_reducible first | exact HI104.out | apply IsS123.alloc | apply IsS123.drewN | apply IsS123.drew | apply IsS123.set_1 | apply (fun h_ => IsS123.far h_ NB104_101.out _) | apply (fun h_ => IsS123.far h_ NB104_112.out _)) | exact HI104.out)) (by (with_reducible repeat (first | apply Kd.R_alloc | apply Kd.R_drewN | apply Kd.R_drew)); exact (Kd.R_mono (Kd.R_far (p := ⟨gb112, 3, none⟩) (Kd.R_far (p := ⟨gb112, 2, none⟩) (Kd.R_far (p := ⟨gb112, 1, none⟩) (Kd.R_far (p := ⟨gb112, 0, none⟩) (Kd.R_types HO107.out BK112.out (by decide)) (fun _ hk => hk.2) (.slice Ao12 t105.length co12)) (fun _ hk => hk.2) (.int .i64 t108)) (fun _ hk => hk.2) (.int .i64 t109)) (fun _ hk => hk.2) (.int .i64 t110)) (fun _ h_ => h_.1))) (by decide)) hk (fun _ h => h.2)) (fun _ h => h.1)); replace BK112 := Qz.mk (KeepBut.blk hk (g' := gb112) (o := .cells #[.slice Ao12 t105.length co12, .int .i64 t108, .int .i64 t109, .int .i64 t110] 32 (0, 0)) (by (with_reducible repeat (first | refine qc ?_ _ | refine qf ?_ | refine qa ?_ _)); refine qx (cs := #[.slice Ao12 t105.length co12, .int .i64 t108, .int .i64 t109, .int .i64 0]) ?_ 3 _ rfl; (with_reducible repeat (first | refine qc ?_ _ | refine qf ?_ | refine qa ?_ _)); refine qx (cs := #[.slice Ao12 t105.length co12, .int .i64 t108, .int .i64 0, .int .i64 0]) ?_ 2 _ rfl; (with_reducible repeat (first | refine qc ?_ _ | refine qf ?_ | refine qa ?_ _)); refine qx (cs := #[.slice Ao12 t105.length co12, .int .i64 0, .int .i64 0, .int .i64 0]) ?_ 1 _ rfl; (with_reducible repeat (first | refine qc ?_ _ | refine qf ?_ | refine qa ?_ _)); refine qx (cs := #[.slice none 0 0, .int .i64 0, .int .i64 0, .int .i64 0]) ?_ 0 _ rfl; (with_reducible repeat (first | refine qc ?_ _ | refine qf ?_ | refine qa ?_ _)); exact BK112.out) NB112_104.out (by simp)); replace HB := Qz.mk (hb); replace HI104 := Qz.mk (hi); (try clear hb); (try clear hb2); (try clear hk); (try clear hi)) | ((with_reducible refine qp (f := 73) rfl ?_); refine qz (some 16) rfl rfl Try.func73 (by kernel_rfl) rfl #[.pointer (some ⟨g104, 0, none⟩), .int .i64 2] rfl yq108 ?_; (with_reducible refine (spec_l1Rd_once.calls g104 t102 t114 2 true t116 w _ ?side1 ?side2 A5.out).mono ?_); (case side1 => exact yq105); (case side2 => exact yq107); rintro e w17 ⟨rfl, hi, hb, hk⟩; refine ⟨_, rfl, ?_⟩; replace BK101 := Qz.mk (KeepBut.blk hk (g' := gb101) (o := .cells #[.slice none 0 0, .int .i64 0, .int .i64 0, .int .i64 0] 32 (0, 0)) yq104 NB101_104.out (by simp)); replace HO107 := Qz.mk (Kd.R_mono (Kd.R_keep (IsS123.apart (show IsS123 w _ g104 t102 t114 from by repeat (first | (with_reducible first | exact HI104.out | apply IsS123.alloc | apply IsS123.drewN | apply IsS123.drew | apply IsS123.set_1 | apply (fun h_ => IsS123.far h_ NB104_101.out _) | apply (fun h_ => IsS123.far h_ NB104_112.out _)) | exact HI104.out)) yq110 (by decide)) hk (fun _ h => h.2)) (fun _ h => h.1)); replace BK112 := Qz.mk (KeepBut.blk hk (g' := gb112) (o := .cells #[.slice Ao12 t105.length co12, .int .i64 t108, .int .i64 t109, .int .i64 t110] 32 (0, 0)) yq112 NB112_104.out (by simp)); replace HB := Qz.mk (hb); replace HI104 := Qz.mk (hi); (try clear hb); (try clear hb2); (try clear hk); (try clear hi)))
  replace HO107 := Qz.mk (Kd.R_drew HO107.out)
  replace BK101 := Qz.mk (qf BK101.out)
  replace BK112 := Qz.mk (qf BK112.out)
  replace HI104 := Qz.mk (IsS123.drew HI104.out)
  replace HB := Qz.mk (qh HB.out)
  refine start_ (n := 8) (S := fun w' => w'.cell? ⟨gb112, 0, none⟩ = some (.slice Ao12 t105.length co12) ∧ w'.cell? ⟨gb112, 1, none⟩ = some (.int .i64 t108) ∧ w'.cell? ⟨gb112, 2, none⟩ = some (.int .i64 t109) ∧ w'.cell? ⟨gb112, 3, none⟩ = some (.int .i64 t110)) (ds := []) bq5 (by kernel_rfl) rfl rfl ⟨(qb BK112.out 0).trans rfl, (qb BK112.out 1).trans rfl, (qb BK112.out 2).trans rfl, (qb BK112.out 3).trans rfl⟩ (fun hHeld => ?_); refine with_tabW spec_DrawOverlapping.tab5 spec_DrawOverlapping.bits5 (fun HT_ HW_ => ?_)
  generalize w17.drew = w18 at HO107 BK101 BK112 HI104 HB hHeld ⊢
  refine pure_ (i := 1) (N := some 18) (v := ?_) (a' := ?_) #[false, true, false, false, false, false, false, false] rfl rfl (qr HT_.out (by kernel_rfl)) (fun _ _ _ h => h) (Or.inl ⟨by rfl, ?_⟩) ?_ ?_
  rotate_left
  ·intro w'
   go_simp
   with_reducible rfl
  rotate_left
  ·simp only [Act.put, sq1, sq2, sq3, i64_w, i32_w]
   rfl
  refine pure_ (i := 2) (N := some 19) (v := ?_) (a' := ?_) #[false, true, true, false, false, false, false, false] rfl rfl (qr HT_.out (by kernel_rfl)) (fun _ _ _ h => h) (Or.inl ⟨by rfl, ?_⟩) ?_ ?_
  rotate_left
  ·intro w'
   go_simp
   with_reducible rfl
  rotate_left
  ·simp only [Act.put, sq1, sq2, sq3, i64_w, i32_w]
   rfl
  refine take_ (i := 0) (N := some 17) (v := ?_) (a' := ?_) bq25 rfl rfl (qb1 HT_.out HW_.out (by kernel_rfl)) (fun _ _ _ h => h) (Or.inl ⟨by rfl, ?_⟩) hHeld ?_ ?_
  rotate_left
  ·rintro w' ⟨s0, s1, s2, s3⟩
   go_simp
   with_reducible rfl
  rotate_left
  ·simp only [Act.put, sq1, sq2, sq3, i64_w, i32_w]
   rfl
  refine one_ (i := 3) (N := some 20) bq31 rfl rfl (one_of HT_.out (by kernel_rfl)) (by decide) (fun K hK => ?_)
  refine goes_ Try.func74 (by kernel_rfl) rfl #[.pointer (some ⟨g104, 0, none⟩)] (by rfl) rfl rfl yq108 ?_
  with_reducible refine (spec_l1Rd_user.calls g104 t102 t116 t117 t118 w _ ?side1 ?side2 A7.out).mono ?_
  (case side1 => exact yq105)
  (case side2 => exact yq107)
  rintro e w19 ⟨rfl, hi, hb, hk⟩
  refine ⟨_, rfl, ?_⟩
  replace BK101 := Qz.mk (KeepBut.blk hk (g' := gb101) (o := .cells #[.slice none 0 0, .int .i64 0, .int .i64 0, .int .i64 0] 32 (0, 0)) yq104 NB101_104.out (by simp))
  replace HO107 := Qz.mk (Kd.R_mono (Kd.R_keep (IsS123.apart (show IsS123 w _ g104 t102 t116 from by repeat (first | (with_reducible first | exact HI104.out | apply IsS123.alloc | apply IsS123.drewN | apply IsS123.drew | apply IsS123.set_1 | apply (fun h_ => IsS123.far h_ NB104_101.out _) | apply (fun h_ => IsS123.far h_ NB104_112.out _)) | exact HI104.out)) yq110 (by decide)) hk (fun _ h => h.2)) (fun _ h => h.1))
  replace BK112 := Qz.mk (KeepBut.blk hk (g' := gb112) (o := .cells #[.slice Ao12 t105.length co12, .int .i64 t108, .int .i64 t109, .int .i64 t110] 32 (0, 0)) yq112 NB112_104.out (by simp))
  replace HB := Qz.mk (hb)
  replace HI104 := Qz.mk (hi)
  (try clear hb)
  (try clear hb2)
  (try clear hk)
  (try clear hi)
  refine hK.out _ _ ⟨(qb BK112.out 0).trans rfl, (qb BK112.out 1).trans rfl, (qb BK112.out 2).trans rfl, (qb BK112.out 3).trans rfl⟩ (fun hHeld => ?_)
  clear hK K
  refine norm_ (a' := ?_) ?_ ?_
  rotate_left
  ·show Act.put _ (some 20) _ = _
   simp only [Act.put, sq1, sq2, sq3, i64_w, i32_w]
   rfl
  refine one_ (i := 4) (N := none) bq37 rfl rfl (one_of HT_.out (by kernel_rfl)) (by decide) (fun K hK => ?_)
  have hs20 : w19.cell? ⟨gb101, 0, none⟩ = some (.slice none 0 0) := (qb BK101.out 0).trans rfl
  have hfs20 := qe BK101.out 0
  have hns20_1 := NB112_101.out
  have hms20_1 := NB101_112.out
  have hs21 : w19.cell? ⟨gb101, 1, none⟩ = some (.int .i64 0) := (qb BK101.out 1).trans rfl
  have hfs21 := qe BK101.out 1
  have hns21_1 := NB112_101.out
  have hms21_1 := NB101_112.out
  have hs22 : w19.cell? ⟨gb101, 2, none⟩ = some (.int .i64 0) := (qb BK101.out 2).trans rfl
  have hfs22 := qe BK101.out 2
  have hns22_1 := NB112_101.out
  have hms22_1 := NB101_112.out
  have hs23 : w19.cell? ⟨gb101, 3, none⟩ = some (.int .i64 0) := (qb BK101.out 3).trans rfl
  have hfs23 := qe BK101.out 3
  have hns23_1 := NB112_101.out
  have hms23_1 := NB101_112.out
  refine skip_ (w1 := ?_) (by rfl) rfl ?_ ?_
  rotate_left
  ·go_simp
   rfl
  refine hK.out _ _ ⟨((qy (p := ⟨gb101, _, none⟩) NB112_101.out _).trans (((qy (p := ⟨gb101, _, none⟩) NB112_101.out _).trans (((qy (p := ⟨gb101, _, none⟩) NB112_101.out _).trans (((qy (p := ⟨gb101, _, none⟩) NB112_101.out _).trans (hHeld.1)))))))), ((qy (p := ⟨gb101, _, none⟩) NB112_101.out _).trans (((qy (p := ⟨gb101, _, none⟩) NB112_101.out _).trans (((qy (p := ⟨gb101, _, none⟩) NB112_101.out _).trans (((qy (p := ⟨gb101, _, none⟩) NB112_101.out _).trans (hHeld.2.1)))))))), ((qy (p := ⟨gb101, _, none⟩) NB112_101.out _).trans (((qy (p := ⟨gb101, _, none⟩) NB112_101.out _).trans (((qy (p := ⟨gb101, _, none⟩) NB112_101.out _).trans (((qy (p := ⟨gb101, _, none⟩) NB112_101.out _).trans (hHeld.2.2.1)))))))), ((qy (p := ⟨gb101, _, none⟩) NB112_101.out _).trans (((qy (p := ⟨gb101, _, none⟩) NB112_101.out _).trans (((qy (p := ⟨gb101, _, none⟩) NB112_101.out _).trans (((qy (p := ⟨gb101, _, none⟩) NB112_101.out _).trans (hHeld.2.2.2))))))))⟩ (fun hHeld => ?_)
  clear hK K
  refine pure_ (i := 5) (N := some 3) (v := ?_) (a' := ?_) bq44 rfl rfl (qr HT_.out (by kernel_rfl)) (fun _ _ _ h => h) (Or.inl ⟨by rfl, ?_⟩) ?_ ?_
  rotate_left
  ·intro w'
   go_simp
   with_reducible rfl
  rotate_left
  ·simp only [Act.put, sq1, sq2, sq3, i64_w, i32_w]
   rfl
  refine pure_ (i := 6) (N := some 4) (v := ?_) (a' := ?_) bq54 rfl rfl (qr HT_.out (by kernel_rfl)) (fun _ _ _ h => h) (Or.inl ⟨by rfl, ?_⟩) ?_ ?_
  rotate_left
  ·intro w'
   go_simp
   with_reducible rfl
  rotate_left
  ·simp only [Act.put, sq1, sq2, sq3, i64_w, i32_w]
   rfl
  refine pure_ (i := 7) (N := some 5) (v := ?_) (a' := ?_) bq115 rfl rfl (qr HT_.out (by kernel_rfl)) (fun _ _ _ h => h) (Or.inl ⟨by rfl, ?_⟩) ?_ ?_
  rotate_left
  ·intro w'
   go_simp
   with_reducible rfl
  rotate_left
  ·simp only [Act.put, sq1, sq2, sq3, i64_w, i32_w]
   rfl
  refine done_ (done_of HT_.out (by kernel_rfl)) ?_
  try go_wp2
  refine bodyPost_ret (results_list (rs := [.cell 2 32, .tmp 3, .tmp 4, .tmp 5]) rfl (by simp) (.cell gb101 32 #[.slice Ao12 t105.length co12, .int .i64 t108, .int .i64 t109, .int .i64 t110] (0, 0) _ rfl (by (with_reducible repeat (first | refine qc ?_ _ | refine qf ?_ | refine qa ?_ _)); refine qx (cs := #[.slice Ao12 t105.length co12, .int .i64 t108, .int .i64 t109, .int .i64 0]) ?_ 3 _ rfl; (with_reducible repeat (first | refine qc ?_ _ | refine qf ?_ | refine qa ?_ _)); refine qx (cs := #[.slice Ao12 t105.length co12, .int .i64 t108, .int .i64 0, .int .i64 0]) ?_ 2 _ rfl; (with_reducible repeat (first | refine qc ?_ _ | refine qf ?_ | refine qa ?_ _)); refine qx (cs := #[.slice Ao12 t105.length co12, .int .i64 0, .int .i64 0, .int .i64 0]) ?_ 1 _ rfl; (with_reducible repeat (first | refine qc ?_ _ | refine qf ?_ | refine qa ?_ _)); refine qx (cs := #[.slice none 0 0, .int .i64 0, .int .i64 0, .int .i64 0]) ?_ 0 _ rfl; (with_reducible repeat (first | refine qc ?_ _ | refine qf ?_ | refine qa ?_ _)); exact BK101.out) Try.underlying32 rfl (by kernel_rfl) (.tmp (.tmp (.tmp .nil))))) rfl ?_
  exact ⟨_, by first | rfl | (simp [qw, qv] <;> rfl) | (simp [*, qw, qv] <;> rfl), by (with_reducible repeat (first | apply Kd.R_alloc | apply Kd.R_drewN | apply Kd.R_drew)); exact Kd.R_mono (Kd.R_far (p := ⟨gb101, 3, none⟩) (Kd.R_far (p := ⟨gb101, 2, none⟩) (Kd.R_far (p := ⟨gb101, 1, none⟩) (Kd.R_far (p := ⟨gb101, 0, none⟩) (Kd.R_types HO107.out BK101.out (by decide)) (fun _ hk => hk.2) (.slice Ao12 t105.length co12)) (fun _ hk => hk.2) (.int .i64 t108)) (fun _ hk => hk.2) (.int .i64 t109)) (fun _ hk => hk.2) (.int .i64 t110)) (fun _ hk => trivial), by repeat (first | (with_reducible first | exact HB.out | apply qi | apply qd | apply qh | refine qg ?_ (IsS123.ge HI104.out) | refine qg ?_ GE101.out | refine qg ?_ GE112.out) | exact HB.out)⟩
 ·replace c6 := Bool.eq_false_iff.mpr c6
  subst c6
  have H1 : ((spec_l1Rd_text.f t102 t116).bind fun bt119 => ((spec_l1Rd_user.f t102 bt119.2).bind fun bt121 => (some (t105, t108, t109, t110, t113, bt119.1, bt121.1)))) = some (r1, r2, r3, r4, r5, r6, r7) := by rw [if_neg (show ¬ (false = true) by decide)] at H; exact H
  clear H
  have H := H1
  clear H1
  replace H := Option.bind_eq_some_iff.mp H
  obtain ⟨⟨t119, t120⟩, A240, H⟩ := H
  replace H : ((spec_l1Rd_user.f t102 t120).bind fun bt121 => (some (t105, t108, t109, t110, t113, t119, bt121.1))) = some (r1, r2, r3, r4, r5, r6, r7) := H
  have A24 := Qz.mk A240
  clear A240
  replace H := Option.bind_eq_some_iff.mp H
  obtain ⟨⟨t121, t122⟩, A250, H⟩ := H
  replace H : (some (t105, t108, t109, t110, t113, t119, t121)) = some (r1, r2, r3, r4, r5, r6, r7) := H
  have A25 := Qz.mk A250
  clear A250
  simp only [Option.some.injEq, Prod.mk.injEq] at H
  obtain ⟨rfl, rfl, rfl, rfl, rfl, rfl, rfl⟩ := H
  go_enter Try.func37, Try.ntmps37
  try go_wp2_with (first | ((with_reducible refine qf1 (N := 2) rfl ?_); refine qe1 ?hg (N := 2) ?hd (cs := #[.slice none 0 0, .int .i64 0, .int .i64 0, .int .i64 0]) (t := 32) ?hr ?_; (case hd => rfl); (case hg => rfl); (case hr => first | (go_simp; done) | (go_simp; rfl)); intro gb101 hg w26 hbox hb; have BK101 := Qz.mk (hbox); have GW101 := Qz.mk ((by rw [hg]; exact (qt yq113) : w.heap.size ≤ gb101)); have GE101 := GW101; replace HB := Qz.mk (qn yq113 hb); clear hb hbox hg) | ((with_reducible refine qp (f := 70) rfl ?_); refine qz (some 10) rfl rfl Try.func70 (by kernel_rfl) rfl #[.slice A0 l0.length c0] rfl (by (try simp only [List.map_toArray, List.map_cons, List.map_nil]); first | done | rfl | (simp only [List.length_drop, List.length_take]; rfl) | (rw [IntWalk.u64_in _ (by omega)] <;> rfl)) ?_; (with_reducible refine (spec_l1Open.calls _ _ l0 t102 t103 w _ ?side1 ?side2 ?side3 A2.out).mono ?_); (case side1 => repeat (first | (with_reducible first | exact HB.out | apply qi | apply qd | apply qh | refine qg ?_ GE101.out) | exact HB.out)); (case side2 => exact HR0.out); (case side3 => exact HC0.out); rintro e w27 ⟨g104, rfl, hi, hb, hb2⟩; refine ⟨_, rfl, ?_⟩; replace HB := Qz.mk (hb); have HI104 := Qz.mk (hi); have NB104_101 := Qz.mk (IsS123.ne_blk hi (qq (g := gb101) (o := .cells #[.slice none 0 0, .int .i64 0, .int .i64 0, .int .i64 0] 32 (0, 0)) yq104 hb2) (by decide)); have NB101_104 := Qz.mk (Ne.symm (IsS123.ne_blk hi (qq (g := gb101) (o := .cells #[.slice none 0 0, .int .i64 0, .int .i64 0, .int .i64 0] 32 (0, 0)) yq104 hb2) (by decide))); replace BK101 := Qz.mk (qq (g := gb101) (o := .cells #[.slice none 0 0, .int .i64 0, .int .i64 0, .int .i64 0] 32 (0, 0)) yq104 hb2); (try clear hb); (try clear hb2); (try clear hk); (try clear hi)) | ((with_reducible refine qp (f := 71) rfl ?_); refine qz (some 12) rfl rfl Try.func71 (by kernel_rfl) rfl #[.pointer (some ⟨g104, 0, none⟩)] rfl yq108 ?_; (with_reducible refine (spec_l1Rd_version.calls k g104 t102 t103 t105 t108 t109 t110 t111 w _ ?side1 ?side2 A3.out).mono ?_); (case side1 => exact yq109); (case side2 => exact yq106); rintro e w28 ⟨v106, rfl, ho0, hi, hb, hk⟩; refine ⟨_, rfl, ?_⟩; replace BK101 := Qz.mk (KeepBut.blk hk (g' := gb101) (o := .cells #[.slice none 0 0, .int .i64 0, .int .i64 0, .int .i64 0] 32 (0, 0)) yq104 NB101_104.out (by simp)); have HO107 := Qz.mk (Kd.R_lower ho0 (qt yq106)); replace HB := Qz.mk (hb); replace HI104 := Qz.mk (hi); (try clear hb); (try clear hb2); (try clear hk); (try clear hi); (try clear ho0)) | ((with_reducible refine qf1 (N := 7) rfl ?_); refine qe1 ?hg (N := 7) ?hd (cs := #[.slice none 0 0, .int .i64 0, .int .i64 0, .int .i64 0]) (t := 32) ?hr ?_; (case hd => rfl); (case hg => rfl); (case hr => first | (go_simp; done) | (go_simp; rfl)); intro gb112 hg w29 hbox hb; replace HO107 := Qz.mk (Kd.R_below yq110 hb); have BK112 := Qz.mk (hbox); have GW112 := Qz.mk ((by rw [hg]; exact (qt yq106) : w.heap.size ≤ gb112)); have GE112 := GW112; replace HB := Qz.mk (qn yq106 hb); have NB101_112 := Qz.mk ((by rw [hg]; exact Nat.ne_of_lt (qc1 (g := gb101) (o := .cells #[.slice none 0 0, .int .i64 0, .int .i64 0, .int .i64 0] 32 (0, 0)) yq104) : gb101 ≠ gb112)); have NB112_101 := Qz.mk ((by rw [hg]; exact Nat.ne_of_gt (qc1 (g := gb101) (o := .cells #[.slice none 0 0, .int .i64 0, .int .i64 0, .int .i64 0] 32 (0, 0)) yq104) : gb112 ≠ gb101)); replace BK101 := Qz.mk (qq (g := gb101) (o := .cells #[.slice none 0 0, .int .i64 0, .int .i64 0, .int .i64 0] 32 (0, 0)) yq104 hb); have NB104_112 := Qz.mk ((by rw [hg]; exact Nat.ne_of_lt (IsS123.lt (show IsS123 w _ g104 t102 t111 from by repeat (first | (with_reducible first | exact HI104.out | apply IsS123.alloc | apply IsS123.drewN | apply IsS123.drew | apply IsS123.set_1 | apply (fun h_ => IsS123.far h_ NB104_101.out _)) | exact HI104.out))) : g104 ≠ gb112)); have NB112_104 := Qz.mk ((by rw [hg]; exact Nat.ne_of_gt (IsS123.lt (show IsS123 w _ g104 t102 t111 from by repeat (first | (with_reducible first | exact HI104.out | apply IsS123.alloc | apply IsS123.drewN | apply IsS123.drew | apply IsS123.set_1 | apply (fun h_ => IsS123.far h_ NB104_101.out _)) | exact HI104.out))) : gb112 ≠ g104)); replace HI104 := Qz.mk (IsS123.below yq109 hb); clear hb hbox hg; obtain ⟨Ao30, co30, eo30⟩ := Kd.R_slice HO107.out; subst eo30; have hnb31 := NB112_101.out; have hnc31 := NB101_112.out; have hnb32 := NB112_104.out; have hnc32 := NB104_112.out; have hcz33_0 : w29.cell? ⟨gb112, 0, none⟩ = some (.slice none 0 0) := (qb BK112.out 0).trans rfl; have hcz33_1 : w29.cell? ⟨gb112, 1, none⟩ = some (.int .i64 0) := (qb BK112.out 1).trans rfl; have hcz33_2 : w29.cell? ⟨gb112, 2, none⟩ = some (.int .i64 0) := (qb BK112.out 2).trans rfl; have hcz33_3 : w29.cell? ⟨gb112, 3, none⟩ = some (.int .i64 0) := (qb BK112.out 3).trans rfl; have hfz33_0 := qe BK112.out 0; have hfz33_1 := qe BK112.out 1; have hfz33_2 := qe BK112.out 2; have hfz33_3 := qe BK112.out 3) | ((with_reducible refine qp (f := 72) rfl ?_); refine qz (some 14) rfl rfl Try.func72 (by kernel_rfl) rfl #[.pointer (some ⟨g104, 0, none⟩), .int .i64 0, .int .i64 3] rfl yq108 ?_; (with_reducible refine (spec_l1Rd_off.calls k g104 t102 t111 0 3 t113 t114 w _ ?side1 ?side2 A4.out).mono ?_); (case side1 => exact yq105); (case side2 => exact yq107); rintro e w34 ⟨rfl, hi, hb, hk⟩; refine ⟨_, rfl, ?_⟩; replace BK101 := Qz.mk (KeepBut.blk hk (g' := gb101) (o := .cells #[.slice none 0 0, .int .i64 0, .int .i64 0, .int .i64 0] 32 (0, 0)) yq111 NB101_104.out (by simp)); replace HO107 := Qz.mk (Kd.R_mono (Kd.R_keep (IsS123.apart (show IsS123 w _ g104 t102 t111 from by repeat (first | (with_reducible first | exact HI104.out | apply IsS123.alloc | apply IsS123.drewN | apply IsS123.drew | apply IsS123.set_1 | apply (fun h_ => IsS123.far h_ NB104_101.out _) | apply (fun h_ => IsS123.far h_ NB104_112.out _)) | exact HI104.out)) (by (with_reducible repeat (first | apply Kd.R_alloc | apply Kd.R_drewN | apply Kd.R_drew)); exact (Kd.R_mono (Kd.R_far (p := ⟨gb112, 3, none⟩) (Kd.R_far (p := ⟨gb112, 2, none⟩) (Kd.R_far (p := ⟨gb112, 1, none⟩) (Kd.R_far (p := ⟨gb112, 0, none⟩) (Kd.R_types HO107.out BK112.out (by decide)) (fun _ hk => hk.2) (.slice Ao30 t105.length co30)) (fun _ hk => hk.2) (.int .i64 t108)) (fun _ hk => hk.2) (.int .i64 t109)) (fun _ hk => hk.2) (.int .i64 t110)) (fun _ h_ => h_.1))) (by decide)) hk (fun _ h => h.2)) (fun _ h => h.1)); replace BK112 := Qz.mk (KeepBut.blk hk (g' := gb112) (o := .cells #[.slice Ao30 t105.length co30, .int .i64 t108, .int .i64 t109, .int .i64 t110] 32 (0, 0)) (by (with_reducible repeat (first | refine qc ?_ _ | refine qf ?_ | refine qa ?_ _)); refine qx (cs := #[.slice Ao30 t105.length co30, .int .i64 t108, .int .i64 t109, .int .i64 0]) ?_ 3 _ rfl; (with_reducible repeat (first | refine qc ?_ _ | refine qf ?_ | refine qa ?_ _)); refine qx (cs := #[.slice Ao30 t105.length co30, .int .i64 t108, .int .i64 0, .int .i64 0]) ?_ 2 _ rfl; (with_reducible repeat (first | refine qc ?_ _ | refine qf ?_ | refine qa ?_ _)); refine qx (cs := #[.slice Ao30 t105.length co30, .int .i64 0, .int .i64 0, .int .i64 0]) ?_ 1 _ rfl; (with_reducible repeat (first | refine qc ?_ _ | refine qf ?_ | refine qa ?_ _)); refine qx (cs := #[.slice none 0 0, .int .i64 0, .int .i64 0, .int .i64 0]) ?_ 0 _ rfl; (with_reducible repeat (first | refine qc ?_ _ | refine qf ?_ | refine qa ?_ _)); exact BK112.out) NB112_104.out (by simp)); replace HB := Qz.mk (hb); replace HI104 := Qz.mk (hi); (try clear hb); (try clear hb2); (try clear hk); (try clear hi)) | ((with_reducible refine qp (f := 73) rfl ?_); refine qz (some 16) rfl rfl Try.func73 (by kernel_rfl) rfl #[.pointer (some ⟨g104, 0, none⟩), .int .i64 2] rfl yq108 ?_; (with_reducible refine (spec_l1Rd_once.calls g104 t102 t114 2 false t116 w _ ?side1 ?side2 A5.out).mono ?_); (case side1 => exact yq105); (case side2 => exact yq107); rintro e w35 ⟨rfl, hi, hb, hk⟩; refine ⟨_, rfl, ?_⟩; replace BK101 := Qz.mk (KeepBut.blk hk (g' := gb101) (o := .cells #[.slice none 0 0, .int .i64 0, .int .i64 0, .int .i64 0] 32 (0, 0)) yq104 NB101_104.out (by simp)); replace HO107 := Qz.mk (Kd.R_mono (Kd.R_keep (IsS123.apart (show IsS123 w _ g104 t102 t114 from by repeat (first | (with_reducible first | exact HI104.out | apply IsS123.alloc | apply IsS123.drewN | apply IsS123.drew | apply IsS123.set_1 | apply (fun h_ => IsS123.far h_ NB104_101.out _) | apply (fun h_ => IsS123.far h_ NB104_112.out _)) | exact HI104.out)) yq110 (by decide)) hk (fun _ h => h.2)) (fun _ h => h.1)); replace BK112 := Qz.mk (KeepBut.blk hk (g' := gb112) (o := .cells #[.slice Ao30 t105.length co30, .int .i64 t108, .int .i64 t109, .int .i64 t110] 32 (0, 0)) yq112 NB112_104.out (by simp)); replace HB := Qz.mk (hb); replace HI104 := Qz.mk (hi); (try clear hb); (try clear hb2); (try clear hk); (try clear hi)))
  replace HO107 := Qz.mk (Kd.R_drew HO107.out)
  replace BK101 := Qz.mk (qf BK101.out)
  replace BK112 := Qz.mk (qf BK112.out)
  replace HI104 := Qz.mk (IsS123.drew HI104.out)
  replace HB := Qz.mk (qh HB.out)
  refine start_ (n := 10) (S := fun w' => w'.cell? ⟨gb112, 0, none⟩ = some (.slice Ao30 t105.length co30) ∧ w'.cell? ⟨gb112, 1, none⟩ = some (.int .i64 t108) ∧ w'.cell? ⟨gb112, 2, none⟩ = some (.int .i64 t109) ∧ w'.cell? ⟨gb112, 3, none⟩ = some (.int .i64 t110)) (ds := []) #[false, false, false, false, false, false, false, false, false, false] (by kernel_rfl) rfl rfl ⟨(qb BK112.out 0).trans rfl, (qb BK112.out 1).trans rfl, (qb BK112.out 2).trans rfl, (qb BK112.out 3).trans rfl⟩ (fun hHeld => ?_); refine with_tabW spec_DrawOverlapping.tab6 spec_DrawOverlapping.bits6 (fun HT_ HW_ => ?_)
  generalize w35.drew = w36 at HO107 BK101 BK112 HI104 HB hHeld ⊢
  refine pure_ (i := 1) (N := some 22) (v := ?_) (a' := ?_) #[false, true, false, false, false, false, false, false, false, false] rfl rfl (qr HT_.out (by kernel_rfl)) (fun _ _ _ h => h) (Or.inl ⟨by rfl, ?_⟩) ?_ ?_
  rotate_left
  ·intro w'
   go_simp
   with_reducible rfl
  rotate_left
  ·simp only [Act.put, sq1, sq2, sq3, i64_w, i32_w]
   rfl
  refine pure_ (i := 2) (N := some 23) (v := ?_) (a' := ?_) #[false, true, true, false, false, false, false, false, false, false] rfl rfl (qr HT_.out (by kernel_rfl)) (fun _ _ _ h => h) (Or.inl ⟨by rfl, ?_⟩) ?_ ?_
  rotate_left
  ·intro w'
   go_simp
   with_reducible rfl
  rotate_left
  ·simp only [Act.put, sq1, sq2, sq3, i64_w, i32_w]
   rfl
  refine pure_ (i := 4) (N := some 25) (v := ?_) (a' := ?_) #[false, true, true, false, true, false, false, false, false, false] rfl rfl (qr HT_.out (by kernel_rfl)) (fun _ _ _ h => h) (Or.inl ⟨by rfl, ?_⟩) ?_ ?_
  rotate_left
  ·intro w'
   go_simp
   with_reducible rfl
  rotate_left
  ·simp only [Act.put, sq1, sq2, sq3, i64_w, i32_w]
   rfl
  refine take_ (i := 0) (N := some 21) (v := ?_) (a' := ?_) #[true, true, true, false, true, false, false, false, false, false] rfl rfl (qb1 HT_.out HW_.out (by kernel_rfl)) (fun _ _ _ h => h) (Or.inl ⟨by rfl, ?_⟩) hHeld ?_ ?_
  rotate_left
  ·rintro w' ⟨s0, s1, s2, s3⟩
   go_simp
   with_reducible rfl
  rotate_left
  ·simp only [Act.put, sq1, sq2, sq3, i64_w, i32_w]
   rfl
  refine one_ (i := 3) (N := some 24) #[true, true, true, true, true, false, false, false, false, false] rfl rfl (one_of HT_.out (by kernel_rfl)) (by decide) (fun K hK => ?_)
  refine goes_ Try.func75 (by kernel_rfl) rfl #[.pointer (some ⟨g104, 0, none⟩)] (by rfl) rfl rfl yq108 ?_
  with_reducible refine (spec_l1Rd_text.calls g104 t102 t116 t119 t120 w _ ?side1 ?side2 A24.out).mono ?_
  (case side1 => exact yq105)
  (case side2 => exact yq107)
  rintro e w37 ⟨rfl, hi, hb, hk⟩
  refine ⟨_, rfl, ?_⟩
  replace BK101 := Qz.mk (KeepBut.blk hk (g' := gb101) (o := .cells #[.slice none 0 0, .int .i64 0, .int .i64 0, .int .i64 0] 32 (0, 0)) yq104 NB101_104.out (by simp))
  replace HO107 := Qz.mk (Kd.R_mono (Kd.R_keep (IsS123.apart (show IsS123 w _ g104 t102 t116 from by repeat (first | (with_reducible first | exact HI104.out | apply IsS123.alloc | apply IsS123.drewN | apply IsS123.drew | apply IsS123.set_1 | apply (fun h_ => IsS123.far h_ NB104_101.out _) | apply (fun h_ => IsS123.far h_ NB104_112.out _)) | exact HI104.out)) yq110 (by decide)) hk (fun _ h => h.2)) (fun _ h => h.1))
  replace BK112 := Qz.mk (KeepBut.blk hk (g' := gb112) (o := .cells #[.slice Ao30 t105.length co30, .int .i64 t108, .int .i64 t109, .int .i64 t110] 32 (0, 0)) yq112 NB112_104.out (by simp))
  replace HB := Qz.mk (hb)
  replace HI104 := Qz.mk (hi)
  (try clear hb)
  (try clear hb2)
  (try clear hk)
  (try clear hi)
  refine hK.out _ _ ⟨(qb BK112.out 0).trans rfl, (qb BK112.out 1).trans rfl, (qb BK112.out 2).trans rfl, (qb BK112.out 3).trans rfl⟩ (fun hHeld => ?_)
  clear hK K
  refine norm_ (a' := ?_) ?_ ?_
  rotate_left
  ·show Act.put _ (some 24) _ = _
   simp only [Act.put, sq1, sq2, sq3, i64_w, i32_w]
   rfl
  refine one_ (i := 5) (N := some 26) #[true, true, true, true, true, true, false, false, false, false] rfl rfl (one_of HT_.out (by kernel_rfl)) (by decide) (fun K hK => ?_)
  refine goes_ Try.func74 (by kernel_rfl) rfl #[.pointer (some ⟨g104, 0, none⟩)] (by rfl) rfl rfl yq108 ?_
  with_reducible refine (spec_l1Rd_user.calls g104 t102 t120 t121 t122 w _ ?side1 ?side2 A25.out).mono ?_
  (case side1 => exact yq105)
  (case side2 => exact yq107)
  rintro e w38 ⟨rfl, hi, hb, hk⟩
  refine ⟨_, rfl, ?_⟩
  replace BK101 := Qz.mk (KeepBut.blk hk (g' := gb101) (o := .cells #[.slice none 0 0, .int .i64 0, .int .i64 0, .int .i64 0] 32 (0, 0)) yq104 NB101_104.out (by simp))
  replace HO107 := Qz.mk (Kd.R_mono (Kd.R_keep (IsS123.apart (show IsS123 w _ g104 t102 t120 from by repeat (first | (with_reducible first | exact HI104.out | apply IsS123.alloc | apply IsS123.drewN | apply IsS123.drew | apply IsS123.set_1 | apply (fun h_ => IsS123.far h_ NB104_101.out _) | apply (fun h_ => IsS123.far h_ NB104_112.out _)) | exact HI104.out)) yq110 (by decide)) hk (fun _ h => h.2)) (fun _ h => h.1))
  replace BK112 := Qz.mk (KeepBut.blk hk (g' := gb112) (o := .cells #[.slice Ao30 t105.length co30, .int .i64 t108, .int .i64 t109, .int .i64 t110] 32 (0, 0)) yq112 NB112_104.out (by simp))
  replace HB := Qz.mk (hb)
  replace HI104 := Qz.mk (hi)
  (try clear hb)
  (try clear hb2)
  (try clear hk)
  (try clear hi)
  refine hK.out _ _ ⟨(qb BK112.out 0).trans rfl, (qb BK112.out 1).trans rfl, (qb BK112.out 2).trans rfl, (qb BK112.out 3).trans rfl⟩ (fun hHeld => ?_)
  clear hK K
  refine norm_ (a' := ?_) ?_ ?_
  rotate_left
  ·show Act.put _ (some 26) _ = _
   simp only [Act.put, sq1, sq2, sq3, i64_w, i32_w]
   rfl
  refine one_ (i := 6) (N := none) #[true, true, true, true, true, true, true, false, false, false] rfl rfl (one_of HT_.out (by kernel_rfl)) (by decide) (fun K hK => ?_)
  have hs39 : w38.cell? ⟨gb101, 0, none⟩ = some (.slice none 0 0) := (qb BK101.out 0).trans rfl
  have hfs39 := qe BK101.out 0
  have hns39_1 := NB112_101.out
  have hms39_1 := NB101_112.out
  have hs40 : w38.cell? ⟨gb101, 1, none⟩ = some (.int .i64 0) := (qb BK101.out 1).trans rfl
  have hfs40 := qe BK101.out 1
  have hns40_1 := NB112_101.out
  have hms40_1 := NB101_112.out
  have hs41 : w38.cell? ⟨gb101, 2, none⟩ = some (.int .i64 0) := (qb BK101.out 2).trans rfl
  have hfs41 := qe BK101.out 2
  have hns41_1 := NB112_101.out
  have hms41_1 := NB101_112.out
  have hs42 : w38.cell? ⟨gb101, 3, none⟩ = some (.int .i64 0) := (qb BK101.out 3).trans rfl
  have hfs42 := qe BK101.out 3
  have hns42_1 := NB112_101.out
  have hms42_1 := NB101_112.out
  refine skip_ (w1 := ?_) (by rfl) rfl ?_ ?_
  rotate_left
  ·go_simp
   rfl
  refine hK.out _ _ ⟨((qy (p := ⟨gb101, _, none⟩) NB112_101.out _).trans (((qy (p := ⟨gb101, _, none⟩) NB112_101.out _).trans (((qy (p := ⟨gb101, _, none⟩) NB112_101.out _).trans (((qy (p := ⟨gb101, _, none⟩) NB112_101.out _).trans (hHeld.1)))))))), ((qy (p := ⟨gb101, _, none⟩) NB112_101.out _).trans (((qy (p := ⟨gb101, _, none⟩) NB112_101.out _).trans (((qy (p := ⟨gb101, _, none⟩) NB112_101.out _).trans (((qy (p := ⟨gb101, _, none⟩) NB112_101.out _).trans (hHeld.2.1)))))))), ((qy (p := ⟨gb101, _, none⟩) NB112_101.out _).trans (((qy (p := ⟨gb101, _, none⟩) NB112_101.out _).trans (((qy (p := ⟨gb101, _, none⟩) NB112_101.out _).trans (((qy (p := ⟨gb101, _, none⟩) NB112_101.out _).trans (hHeld.2.2.1)))))))), ((qy (p := ⟨gb101, _, none⟩) NB112_101.out _).trans (((qy (p := ⟨gb101, _, none⟩) NB112_101.out _).trans (((qy (p := ⟨gb101, _, none⟩) NB112_101.out _).trans (((qy (p := ⟨gb101, _, none⟩) NB112_101.out _).trans (hHeld.2.2.2))))))))⟩ (fun hHeld => ?_)
  clear hK K
  refine pure_ (i := 7) (N := some 3) (v := ?_) (a' := ?_) #[true, true, true, true, true, true, true, true, false, false] rfl rfl (qr HT_.out (by kernel_rfl)) (fun _ _ _ h => h) (Or.inl ⟨by rfl, ?_⟩) ?_ ?_
  rotate_left
  ·intro w'
   go_simp
   with_reducible rfl
  rotate_left
  ·simp only [Act.put, sq1, sq2, sq3, i64_w, i32_w]
   rfl
  refine pure_ (i := 8) (N := some 4) (v := ?_) (a' := ?_) #[true, true, true, true, true, true, true, true, true, false] rfl rfl (qr HT_.out (by kernel_rfl)) (fun _ _ _ h => h) (Or.inl ⟨by rfl, ?_⟩) ?_ ?_
  rotate_left
  ·intro w'
   go_simp
   with_reducible rfl
  rotate_left
  ·simp only [Act.put, sq1, sq2, sq3, i64_w, i32_w]
   rfl
  refine pure_ (i := 9) (N := some 5) (v := ?_) (a' := ?_) #[true, true, true, true, true, true, true, true, true, true] rfl rfl (qr HT_.out (by kernel_rfl)) (fun _ _ _ h => h) (Or.inl ⟨by rfl, ?_⟩) ?_ ?_
  rotate_left
  ·intro w'
   go_simp
   with_reducible rfl
  rotate_left
  ·simp only [Act.put, sq1, sq2, sq3, i64_w, i32_w]
   rfl
  refine done_ (done_of HT_.out (by kernel_rfl)) ?_
  try go_wp2
  refine bodyPost_ret (results_list (rs := [.cell 2 32, .tmp 3, .tmp 4, .tmp 5]) rfl (by simp) (.cell gb101 32 #[.slice Ao30 t105.length co30, .int .i64 t108, .int .i64 t109, .int .i64 t110] (0, 0) _ rfl (by (with_reducible repeat (first | refine qc ?_ _ | refine qf ?_ | refine qa ?_ _)); refine qx (cs := #[.slice Ao30 t105.length co30, .int .i64 t108, .int .i64 t109, .int .i64 0]) ?_ 3 _ rfl; (with_reducible repeat (first | refine qc ?_ _ | refine qf ?_ | refine qa ?_ _)); refine qx (cs := #[.slice Ao30 t105.length co30, .int .i64 t108, .int .i64 0, .int .i64 0]) ?_ 2 _ rfl; (with_reducible repeat (first | refine qc ?_ _ | refine qf ?_ | refine qa ?_ _)); refine qx (cs := #[.slice Ao30 t105.length co30, .int .i64 0, .int .i64 0, .int .i64 0]) ?_ 1 _ rfl; (with_reducible repeat (first | refine qc ?_ _ | refine qf ?_ | refine qa ?_ _)); refine qx (cs := #[.slice none 0 0, .int .i64 0, .int .i64 0, .int .i64 0]) ?_ 0 _ rfl; (with_reducible repeat (first | refine qc ?_ _ | refine qf ?_ | refine qa ?_ _)); exact BK101.out) Try.underlying32 rfl (by kernel_rfl) (.tmp (.tmp (.tmp .nil))))) rfl ?_
  exact ⟨_, by first | rfl | (simp [qw, qv] <;> rfl) | (simp [*, qw, qv] <;> rfl), by (with_reducible repeat (first | apply Kd.R_alloc | apply Kd.R_drewN | apply Kd.R_drew)); exact Kd.R_mono (Kd.R_far (p := ⟨gb101, 3, none⟩) (Kd.R_far (p := ⟨gb101, 2, none⟩) (Kd.R_far (p := ⟨gb101, 1, none⟩) (Kd.R_far (p := ⟨gb101, 0, none⟩) (Kd.R_types HO107.out BK101.out (by decide)) (fun _ hk => hk.2) (.slice Ao30 t105.length co30)) (fun _ hk => hk.2) (.int .i64 t108)) (fun _ hk => hk.2) (.int .i64 t109)) (fun _ hk => hk.2) (.int .i64 t110)) (fun _ hk => trivial), by repeat (first | (with_reducible first | exact HB.out | apply qi | apply qd | apply qh | refine qg ?_ (IsS123.ge HI104.out) | refine qg ?_ GE101.out | refine qg ?_ GE112.out) | exact HB.out)⟩
def impl_within.f (a0 : Int) (a1 : Int) (a2 : Int) : Option (Bool) := if a1 ≤ a0 then (some (decide (a0 ≤ a2))) else (some false)
set_option maxHeartbeats 8000000 in
set_option maxRecDepth 100000 in
theorem impl_within.calls (a0 : Int) (a1 : Int) (a2 : Int) (r : Bool) (w : World) (h : impl_within.f a0 a1 a2 = some r) :
  Calls Try.prog 65 #[.int .i64 a0, .int .i64 a1, .int .i64 a2] w fun e w' => e = .returned (.bool r) ∧ Drawn0 w w' := by
 have H : (if a1 ≤ a0 then (some (decide (a0 ≤ a2))) else (some false)) = some r := h
 clear h
 by_cases c4 : a1 ≤ a0
 ·rw [if_pos c4] at H
  have c4b0 : decide (a1 ≤ a0) = true := decide_eq_true c4
  clear c4
  obtain rfl := Option.some.inj H
  go_enter Try.func65, Try.ntmps65
  go_wp2
  go_ret
  exact ⟨by first | rfl | (simp; done) | (simp [*]; done), by repeat (first | exact Drawn0.refl _ | apply Drawn0.step)⟩
 ·rw [if_neg c4] at H
  have c4b0 : decide (a1 ≤ a0) = false := decide_eq_false c4
  clear c4
  obtain rfl := Option.some.inj H
  go_enter Try.func65, Try.ntmps65
  go_wp2
  go_ret
  exact ⟨by first | rfl | (simp; done) | (simp [*]; done), by repeat (first | exact Drawn0.refl _ | apply Drawn0.step)⟩
def impl_isUser.f (a0 : ByteArray) : Option (Bool) := if (a0.size : Int) ≥ 1 then (some (decide ((a0.size : Int) ≤ 40))) else (some false)
set_option maxHeartbeats 8000000 in
set_option maxRecDepth 100000 in
theorem impl_isUser.calls (a0 : ByteArray) (r : Bool) (w : World) (h : impl_isUser.f a0 = some r) :
  Calls Try.prog 66 #[.string a0] w fun e w' => e = .returned (.bool r) ∧ Drawn0 w w' := by
 have H : (if (a0.size : Int) ≥ 1 then (some (decide ((a0.size : Int) ≤ 40))) else (some false)) = some r := h
 clear h
 by_cases c2 : (a0.size : Int) ≥ 1
 ·rw [if_pos c2] at H
  have c2b0 : decide (1 ≤ (a0.size : Int)) = true := decide_eq_true c2
  have c2b1 : decide (1 ≤ a0.size) = true := decide_eq_true (by omega)
  clear c2
  obtain rfl := Option.some.inj H
  go_enter Try.func66, Try.ntmps66
  go_wp2
  go_ret
  exact ⟨by first | rfl | (simp; done) | (simp [*]; done), by repeat (first | exact Drawn0.refl _ | apply Drawn0.step)⟩
 ·rw [if_neg c2] at H
  have c2b0 : decide (1 ≤ (a0.size : Int)) = false := decide_eq_false c2
  have c2b1 : decide (1 ≤ a0.size) = false := decide_eq_false (by omega)
  clear c2
  obtain rfl := Option.some.inj H
  go_enter Try.func66, Try.ntmps66
  go_wp2
  go_ret
  exact ⟨by first | rfl | (simp; done) | (simp [*]; done), by repeat (first | exact Drawn0.refl _ | apply Drawn0.step)⟩
def cmp_Or_int.l0 : Nat → Int → List Int → Int → Int → Option (Int)
 | 0, _, _, _, _ => none
 | k + 1, x3, x6, x7, x8 => if x8 < x7 then (if 0 ≤ x8 then (if x8 < (x6.length : Int) then (if (rd x6 x8) = x3 then (cmp_Or_int.l0 k x3 x6 x7 (wrap64 (x8 + 1))) else (some (rd x6 x8))) else (none)) else (none)) else (some x3)
def cmp_Or_int.f (k : Nat) (l0 : List Int) : Option (Int) := cmp_Or_int.l0 k 0 l0 (l0.length : Int) 0
set_option maxHeartbeats 8000000 in
set_option maxRecDepth 100000 in
theorem cmp_Or_int.calls (k : Nat) (A0 : Option Addr) (c0 : Nat) (l0 : List Int) (r : Int) (w : World) (hr0 : Kd.C (Kd.int .i64) w A0 l0.length l0) (hc0 : l0.length ≤ c0) (h : cmp_Or_int.f k l0 = some r) :
  Calls Try.prog 100 #[.slice A0 l0.length c0] w fun e w' => e = .returned (.int .i64 r) ∧ Drawn0 w w' := by
 have HR0 := Qz.mk hr0
 have HC0 := Qz.mk hc0
 clear hr0 hc0
 have H : (cmp_Or_int.l0 k 0 l0 (l0.length : Int) 0) = some r := h
 clear h
 have H' := Qz.mk H
 clear H
 go_enter Try.func100, Try.ntmps100
 go_wp2
 go_loopg [8] k (fun kq v8 w' => ∃ (x8_1 : Int), v8 = .int .i64 x8_1 ∧ Qz (cmp_Or_int.l0 kq 0 l0 (l0.length : Int) x8_1 = some r) ∧ Qz (kq ≤ k) ∧ Drawn0 w w')
 case atStart => exact ⟨(0), (by first | rfl | (simp; done) | (simp [*]; done)), H', ⟨Nat.le_refl _⟩, by repeat (first | exact Drawn0.refl _ | apply Drawn0.step)⟩
 case round =>
  clear H'
  try clear c1
  obtain ⟨x8_1, rfl, HA, HK1, ⟨m1, rfl⟩⟩ := hrel
  cases gk with
  | zero => exact absurd HA.out (by simp [cmp_Or_int.l0])
  | succ k1 =>
   have H := HA.out
   clear HA
   simp only [cmp_Or_int.l0] at H
   by_cases c2 : x8_1 < (l0.length : Int)
   ·rw [if_pos c2] at H
    have c2b0 : decide (x8_1 < (l0.length : Int)) = true := decide_eq_true c2
    clear c2
    by_cases c3 : 0 ≤ x8_1
    ·rw [if_pos c3] at H
     have c3b0 : decide (0 ≤ x8_1) = true := decide_eq_true c3
     clear c3
     by_cases c4 : x8_1 < (l0.length : Int)
     ·rw [if_pos c4] at H
      have c4b0 : decide (x8_1 < (l0.length : Int)) = true := decide_eq_true c4
      clear c4
      by_cases c5 : (rd l0 x8_1) = 0
      ·rw [if_pos c5] at H
       have c5b0 : ((rd l0 x8_1) == 0) = true := beq_iff_eq.mpr c5
       have c5b1 : ((rd l0 x8_1) != 0) = false := bne_eq_false_iff_eq.mpr c5
       clear c5
       have H' := Qz.mk H
       clear H
       have p101 : 0 ≤ (x8_1 : Int) := of_decide_eq_true (by first | (with_reducible assumption) | assumption)
       have q101 : x8_1 < (l0.length : Int) := of_decide_eq_true (by first | (with_reducible assumption) | assumption)
       obtain ⟨ad101, e101, hx101_0⟩ := Kd.at_int HR0.out x8_1 p101 q101
       cases e101
       replace p101 := eq_true p101
       replace q101 := eq_true q101
       go_wp2
       go_roundg k1
       case measure => have := HK1.out; omega
       case rel => exact ⟨(wrap64 (x8_1 + 1)), (by first | rfl | (simp; done) | (simp [*]; done)), H', ⟨by have := HK1.out; omega⟩, by repeat (first | exact Drawn0.refl _ | apply Drawn0.step)⟩
      ·rw [if_neg c5] at H
       have c5b0 : ((rd l0 x8_1) == 0) = false := beq_eq_false_iff_ne.mpr c5
       have c5b1 : ((rd l0 x8_1) != 0) = true := bne_iff_ne.mpr c5
       obtain rfl := Option.some.inj H
       have p101 : 0 ≤ (x8_1 : Int) := of_decide_eq_true (by first | (with_reducible assumption) | assumption)
       have q101 : x8_1 < (l0.length : Int) := of_decide_eq_true (by first | (with_reducible assumption) | assumption)
       obtain ⟨ad101, e101, hx101_0⟩ := Kd.at_int HR0.out x8_1 p101 q101
       cases e101
       replace p101 := eq_true p101
       replace q101 := eq_true q101
       go_wp2
       go_ret
       exact ⟨by first | rfl | (simp; done) | (simp [*]; done), by repeat (first | exact Drawn0.refl _ | apply Drawn0.step)⟩
     ·rw [if_neg c4] at H
      exact absurd H (by simp)
    ·rw [if_neg c3] at H
     exact absurd H (by simp)
   ·rw [if_neg c2] at H
    have c2b0 : decide (x8_1 < (l0.length : Int)) = false := decide_eq_false c2
    clear c2
    obtain rfl := Option.some.inj H
    go_wp2
    go_ret
    exact ⟨by first | rfl | (simp; done) | (simp [*]; done), by repeat (first | exact Drawn0.refl _ | apply Drawn0.step)⟩
def cmp_isNaN_string.f (a0 : ByteArray) : Option (Bool) := some (a0.toList != a0.toList)
set_option maxHeartbeats 8000000 in
set_option maxRecDepth 100000 in
theorem cmp_isNaN_string.calls (a0 : ByteArray) (r : Bool) (w : World) (h : cmp_isNaN_string.f a0 = some r) :
  Calls Try.prog 118 #[.string a0] w fun e w' => e = .returned (.bool r) ∧ Drawn0 w w' := by
 have H : (some (a0.toList != a0.toList)) = some r := h
 clear h
 obtain rfl := Option.some.inj H
 go_enter Try.func118, Try.ntmps118
 go_wp2
 go_ret
 exact ⟨by first | rfl | (simp; done) | (simp [*]; done), by repeat (first | exact Drawn0.refl _ | apply Drawn0.step)⟩
theorem yq114 {P : Prop} (h : P := by (try simp only [List.map_toArray, List.map_cons, List.map_nil]); first | done | rfl) : P := h
def cmp_Compare_string.f (a0 : ByteArray) (a1 : ByteArray) : Option (Int) := (cmp_isNaN_string.f a0).bind fun t101 => ((cmp_isNaN_string.f a1).bind fun t102 => (if t101 = true then (if t102 = true then (some 0) else (some (-1))) else (if t102 = true then (some 1) else (if (Op.bytesLess a0.toList a1.toList) = true then (some (-1)) else (if (Op.bytesLess a1.toList a0.toList) = true then (some 1) else (some 0))))))
set_option maxHeartbeats 8000000 in
set_option maxRecDepth 100000 in
theorem cmp_Compare_string.calls (a0 : ByteArray) (a1 : ByteArray) (r : Int) (w : World) (h : cmp_Compare_string.f a0 a1 = some r) :
  Calls Try.prog 101 #[.string a0, .string a1] w fun e w' => e = .returned (.int .i64 r) ∧ Drawn0 w w' := by
 have H : ((cmp_isNaN_string.f a0).bind fun t101 => ((cmp_isNaN_string.f a1).bind fun t102 => (if t101 = true then (if t102 = true then (some 0) else (some (-1))) else (if t102 = true then (some 1) else (if (Op.bytesLess a0.toList a1.toList) = true then (some (-1)) else (if (Op.bytesLess a1.toList a0.toList) = true then (some 1) else (some 0))))))) = some r := h
 clear h
 replace H := Option.bind_eq_some_iff.mp H
 obtain ⟨t101, A30, H⟩ := H
 replace H : ((cmp_isNaN_string.f a1).bind fun t102 => (if t101 = true then (if t102 = true then (some 0) else (some (-1))) else (if t102 = true then (some 1) else (if (Op.bytesLess a0.toList a1.toList) = true then (some (-1)) else (if (Op.bytesLess a1.toList a0.toList) = true then (some 1) else (some 0)))))) = some r := H
 have A3 := Qz.mk A30
 clear A30
 replace H := Option.bind_eq_some_iff.mp H
 obtain ⟨t102, A40, H⟩ := H
 replace H : (if t101 = true then (if t102 = true then (some 0) else (some (-1))) else (if t102 = true then (some 1) else (if (Op.bytesLess a0.toList a1.toList) = true then (some (-1)) else (if (Op.bytesLess a1.toList a0.toList) = true then (some 1) else (some 0))))) = some r := H
 have A4 := Qz.mk A40
 clear A40
 by_cases c5 : t101 = true
 ·subst c5
  have H1 : (if t102 = true then (some 0) else (some (-1))) = some r := by rw [if_pos rfl] at H; exact H
  clear H
  have H := H1
  clear H1
  by_cases c6 : t102 = true
  ·subst c6
   have H1 : (some 0) = some r := by rw [if_pos rfl] at H; exact H
   clear H
   have H := H1
   clear H1
   obtain rfl := Option.some.inj H
   go_enter Try.func101, Try.ntmps101
   go_wp2_with (first | ((with_reducible refine qp (f := 118) rfl ?_); refine qz (some 8) rfl rfl Try.func118 (by kernel_rfl) rfl #[.string a0] rfl yq114 ?_; (with_reducible refine (cmp_isNaN_string.calls a0 true _ A3.out).mono ?_); rintro e w' ⟨rfl, ⟨nd, rfl⟩⟩; refine ⟨_, rfl, ?_⟩) | ((with_reducible refine qp (f := 118) rfl ?_); refine qz (some 10) rfl rfl Try.func118 (by kernel_rfl) rfl #[.string a1] rfl yq114 ?_; (with_reducible refine (cmp_isNaN_string.calls a1 true _ A4.out).mono ?_); rintro e w' ⟨rfl, ⟨nd, rfl⟩⟩; refine ⟨_, rfl, ?_⟩))
   go_ret
   exact ⟨by first | rfl | (simp; done) | (simp [*]; done), by repeat (first | exact Drawn0.refl _ | apply Drawn0.step)⟩
  ·replace c6 := Bool.eq_false_iff.mpr c6
   subst c6
   have H1 : (some (-1)) = some r := by rw [if_neg (show ¬ (false = true) by decide)] at H; exact H
   clear H
   have H := H1
   clear H1
   obtain rfl := Option.some.inj H
   go_enter Try.func101, Try.ntmps101
   go_wp2_with (first | ((with_reducible refine qp (f := 118) rfl ?_); refine qz (some 8) rfl rfl Try.func118 (by kernel_rfl) rfl #[.string a0] rfl yq114 ?_; (with_reducible refine (cmp_isNaN_string.calls a0 true _ A3.out).mono ?_); rintro e w' ⟨rfl, ⟨nd, rfl⟩⟩; refine ⟨_, rfl, ?_⟩) | ((with_reducible refine qp (f := 118) rfl ?_); refine qz (some 10) rfl rfl Try.func118 (by kernel_rfl) rfl #[.string a1] rfl yq114 ?_; (with_reducible refine (cmp_isNaN_string.calls a1 false _ A4.out).mono ?_); rintro e w' ⟨rfl, ⟨nd, rfl⟩⟩; refine ⟨_, rfl, ?_⟩))
   go_ret
   exact ⟨by first | rfl | (simp; done) | (simp [*]; done), by repeat (first | exact Drawn0.refl _ | apply Drawn0.step)⟩
 ·replace c5 := Bool.eq_false_iff.mpr c5
  subst c5
  have H1 : (if t102 = true then (some 1) else (if (Op.bytesLess a0.toList a1.toList) = true then (some (-1)) else (if (Op.bytesLess a1.toList a0.toList) = true then (some 1) else (some 0)))) = some r := by rw [if_neg (show ¬ (false = true) by decide)] at H; exact H
  clear H
  have H := H1
  clear H1
  by_cases c7 : t102 = true
  ·subst c7
   have H1 : (some 1) = some r := by rw [if_pos rfl] at H; exact H
   clear H
   have H := H1
   clear H1
   obtain rfl := Option.some.inj H
   go_enter Try.func101, Try.ntmps101
   go_wp2_with (first | ((with_reducible refine qp (f := 118) rfl ?_); refine qz (some 8) rfl rfl Try.func118 (by kernel_rfl) rfl #[.string a0] rfl yq114 ?_; (with_reducible refine (cmp_isNaN_string.calls a0 false _ A3.out).mono ?_); rintro e w' ⟨rfl, ⟨nd, rfl⟩⟩; refine ⟨_, rfl, ?_⟩) | ((with_reducible refine qp (f := 118) rfl ?_); refine qz (some 10) rfl rfl Try.func118 (by kernel_rfl) rfl #[.string a1] rfl yq114 ?_; (with_reducible refine (cmp_isNaN_string.calls a1 true _ A4.out).mono ?_); rintro e w' ⟨rfl, ⟨nd, rfl⟩⟩; refine ⟨_, rfl, ?_⟩))
   go_ret
   exact ⟨by first | rfl | (simp; done) | (simp [*]; done), by repeat (first | exact Drawn0.refl _ | apply Drawn0.step)⟩
  ·replace c7 := Bool.eq_false_iff.mpr c7
   subst c7
   have H1 : (if (Op.bytesLess a0.toList a1.toList) = true then (some (-1)) else (if (Op.bytesLess a1.toList a0.toList) = true then (some 1) else (some 0))) = some r := by rw [if_neg (show ¬ (false = true) by decide)] at H; exact H
   clear H
   have H := H1
   clear H1
   by_cases c8 : (Op.bytesLess a0.toList a1.toList) = true
   ·rw [if_pos c8] at H
    have c8b0 : (Op.bytesLess a0.toList a1.toList) = true := c8
    clear c8
    obtain rfl := Option.some.inj H
    go_enter Try.func101, Try.ntmps101
    go_wp2_with (first | ((with_reducible refine qp (f := 118) rfl ?_); refine qz (some 8) rfl rfl Try.func118 (by kernel_rfl) rfl #[.string a0] rfl yq114 ?_; (with_reducible refine (cmp_isNaN_string.calls a0 false _ A3.out).mono ?_); rintro e w' ⟨rfl, ⟨nd, rfl⟩⟩; refine ⟨_, rfl, ?_⟩) | ((with_reducible refine qp (f := 118) rfl ?_); refine qz (some 10) rfl rfl Try.func118 (by kernel_rfl) rfl #[.string a1] rfl yq114 ?_; (with_reducible refine (cmp_isNaN_string.calls a1 false _ A4.out).mono ?_); rintro e w' ⟨rfl, ⟨nd, rfl⟩⟩; refine ⟨_, rfl, ?_⟩))
    go_ret
    exact ⟨by first | rfl | (simp; done) | (simp [*]; done), by repeat (first | exact Drawn0.refl _ | apply Drawn0.step)⟩
   ·rw [if_neg c8] at H
    have c8b0 : (Op.bytesLess a0.toList a1.toList) = false := by simpa using c8
    clear c8
    by_cases c9 : (Op.bytesLess a1.toList a0.toList) = true
    ·rw [if_pos c9] at H
     have c9b0 : (Op.bytesLess a1.toList a0.toList) = true := c9
     clear c9
     obtain rfl := Option.some.inj H
     go_enter Try.func101, Try.ntmps101
     go_wp2_with (first | ((with_reducible refine qp (f := 118) rfl ?_); refine qz (some 8) rfl rfl Try.func118 (by kernel_rfl) rfl #[.string a0] rfl yq114 ?_; (with_reducible refine (cmp_isNaN_string.calls a0 false _ A3.out).mono ?_); rintro e w' ⟨rfl, ⟨nd, rfl⟩⟩; refine ⟨_, rfl, ?_⟩) | ((with_reducible refine qp (f := 118) rfl ?_); refine qz (some 10) rfl rfl Try.func118 (by kernel_rfl) rfl #[.string a1] rfl yq114 ?_; (with_reducible refine (cmp_isNaN_string.calls a1 false _ A4.out).mono ?_); rintro e w' ⟨rfl, ⟨nd, rfl⟩⟩; refine ⟨_, rfl, ?_⟩))
     go_ret
     exact ⟨by first | rfl | (simp; done) | (simp [*]; done), by repeat (first | exact Drawn0.refl _ | apply Drawn0.step)⟩
    ·rw [if_neg c9] at H
     have c9b0 : (Op.bytesLess a1.toList a0.toList) = false := by simpa using c9
     clear c9
     obtain rfl := Option.some.inj H
     go_enter Try.func101, Try.ntmps101
     go_wp2_with (first | ((with_reducible refine qp (f := 118) rfl ?_); refine qz (some 8) rfl rfl Try.func118 (by kernel_rfl) rfl #[.string a0] rfl yq114 ?_; (with_reducible refine (cmp_isNaN_string.calls a0 false _ A3.out).mono ?_); rintro e w' ⟨rfl, ⟨nd, rfl⟩⟩; refine ⟨_, rfl, ?_⟩) | ((with_reducible refine qp (f := 118) rfl ?_); refine qz (some 10) rfl rfl Try.func118 (by kernel_rfl) rfl #[.string a1] rfl yq114 ?_; (with_reducible refine (cmp_isNaN_string.calls a1 false _ A4.out).mono ?_); rintro e w' ⟨rfl, ⟨nd, rfl⟩⟩; refine ⟨_, rfl, ?_⟩))
     go_ret
     exact ⟨by first | rfl | (simp; done) | (simp [*]; done), by repeat (first | exact Drawn0.refl _ | apply Drawn0.step)⟩
def cmp_isNaN_int64.f (a0 : Int) : Option (Bool) := some (a0 != a0)
set_option maxHeartbeats 8000000 in
set_option maxRecDepth 100000 in
theorem cmp_isNaN_int64.calls (a0 : Int) (r : Bool) (w : World) (h : cmp_isNaN_int64.f a0 = some r) :
  Calls Try.prog 117 #[.int .i64 a0] w fun e w' => e = .returned (.bool r) ∧ Drawn0 w w' := by
 have H : (some (a0 != a0)) = some r := h
 clear h
 obtain rfl := Option.some.inj H
 go_enter Try.func117, Try.ntmps117
 go_wp2
 go_ret
 exact ⟨by first | rfl | (simp; done) | (simp [*]; done), by repeat (first | exact Drawn0.refl _ | apply Drawn0.step)⟩
theorem yq115 {P : Prop} (h : P := by (try simp only [List.map_toArray, List.map_cons, List.map_nil]); first | done | rfl) : P := h
def cmp_Compare_int64.f (a0 : Int) (a1 : Int) : Option (Int) := (cmp_isNaN_int64.f a0).bind fun t101 => ((cmp_isNaN_int64.f a1).bind fun t102 => (if t101 = true then (if t102 = true then (some 0) else (some (-1))) else (if t102 = true then (some 1) else (if a0 < a1 then (some (-1)) else (if a0 > a1 then (some 1) else (some 0))))))
set_option maxHeartbeats 8000000 in
set_option maxRecDepth 100000 in
theorem cmp_Compare_int64.calls (a0 : Int) (a1 : Int) (r : Int) (w : World) (h : cmp_Compare_int64.f a0 a1 = some r) :
  Calls Try.prog 99 #[.int .i64 a0, .int .i64 a1] w fun e w' => e = .returned (.int .i64 r) ∧ Drawn0 w w' := by
 have H : ((cmp_isNaN_int64.f a0).bind fun t101 => ((cmp_isNaN_int64.f a1).bind fun t102 => (if t101 = true then (if t102 = true then (some 0) else (some (-1))) else (if t102 = true then (some 1) else (if a0 < a1 then (some (-1)) else (if a0 > a1 then (some 1) else (some 0))))))) = some r := h
 clear h
 replace H := Option.bind_eq_some_iff.mp H
 obtain ⟨t101, A30, H⟩ := H
 replace H : ((cmp_isNaN_int64.f a1).bind fun t102 => (if t101 = true then (if t102 = true then (some 0) else (some (-1))) else (if t102 = true then (some 1) else (if a0 < a1 then (some (-1)) else (if a0 > a1 then (some 1) else (some 0)))))) = some r := H
 have A3 := Qz.mk A30
 clear A30
 replace H := Option.bind_eq_some_iff.mp H
 obtain ⟨t102, A40, H⟩ := H
 replace H : (if t101 = true then (if t102 = true then (some 0) else (some (-1))) else (if t102 = true then (some 1) else (if a0 < a1 then (some (-1)) else (if a0 > a1 then (some 1) else (some 0))))) = some r := H
 have A4 := Qz.mk A40
 clear A40
 by_cases c5 : t101 = true
 ·subst c5
  have H1 : (if t102 = true then (some 0) else (some (-1))) = some r := by rw [if_pos rfl] at H; exact H
  clear H
  have H := H1
  clear H1
  by_cases c6 : t102 = true
  ·subst c6
   have H1 : (some 0) = some r := by rw [if_pos rfl] at H; exact H
   clear H
   have H := H1
   clear H1
   obtain rfl := Option.some.inj H
   go_enter Try.func99, Try.ntmps99
   go_wp2_with (first | ((with_reducible refine qp (f := 117) rfl ?_); refine qz (some 8) rfl rfl Try.func117 (by kernel_rfl) rfl #[.int .i64 a0] rfl yq115 ?_; (with_reducible refine (cmp_isNaN_int64.calls a0 true _ A3.out).mono ?_); rintro e w' ⟨rfl, ⟨nd, rfl⟩⟩; refine ⟨_, rfl, ?_⟩) | ((with_reducible refine qp (f := 117) rfl ?_); refine qz (some 10) rfl rfl Try.func117 (by kernel_rfl) rfl #[.int .i64 a1] rfl yq115 ?_; (with_reducible refine (cmp_isNaN_int64.calls a1 true _ A4.out).mono ?_); rintro e w' ⟨rfl, ⟨nd, rfl⟩⟩; refine ⟨_, rfl, ?_⟩))
   go_ret
   exact ⟨by first | rfl | (simp; done) | (simp [*]; done), by repeat (first | exact Drawn0.refl _ | apply Drawn0.step)⟩
  ·replace c6 := Bool.eq_false_iff.mpr c6
   subst c6
   have H1 : (some (-1)) = some r := by rw [if_neg (show ¬ (false = true) by decide)] at H; exact H
   clear H
   have H := H1
   clear H1
   obtain rfl := Option.some.inj H
   go_enter Try.func99, Try.ntmps99
   go_wp2_with (first | ((with_reducible refine qp (f := 117) rfl ?_); refine qz (some 8) rfl rfl Try.func117 (by kernel_rfl) rfl #[.int .i64 a0] rfl yq115 ?_; (with_reducible refine (cmp_isNaN_int64.calls a0 true _ A3.out).mono ?_); rintro e w' ⟨rfl, ⟨nd, rfl⟩⟩; refine ⟨_, rfl, ?_⟩) | ((with_reducible refine qp (f := 117) rfl ?_); refine qz (some 10) rfl rfl Try.func117 (by kernel_rfl) rfl #[.int .i64 a1] rfl yq115 ?_; (with_reducible refine (cmp_isNaN_int64.calls a1 false _ A4.out).mono ?_); rintro e w' ⟨rfl, ⟨nd, rfl⟩⟩; refine ⟨_, rfl, ?_⟩))
   go_ret
   exact ⟨by first | rfl | (simp; done) | (simp [*]; done), by repeat (first | exact Drawn0.refl _ | apply Drawn0.step)⟩
 ·replace c5 := Bool.eq_false_iff.mpr c5
  subst c5
  have H1 : (if t102 = true then (some 1) else (if a0 < a1 then (some (-1)) else (if a0 > a1 then (some 1) else (some 0)))) = some r := by rw [if_neg (show ¬ (false = true) by decide)] at H; exact H
  clear H
  have H := H1
  clear H1
  by_cases c7 : t102 = true
  ·subst c7
   have H1 : (some 1) = some r := by rw [if_pos rfl] at H; exact H
   clear H
   have H := H1
   clear H1
   obtain rfl := Option.some.inj H
   go_enter Try.func99, Try.ntmps99
   go_wp2_with (first | ((with_reducible refine qp (f := 117) rfl ?_); refine qz (some 8) rfl rfl Try.func117 (by kernel_rfl) rfl #[.int .i64 a0] rfl yq115 ?_; (with_reducible refine (cmp_isNaN_int64.calls a0 false _ A3.out).mono ?_); rintro e w' ⟨rfl, ⟨nd, rfl⟩⟩; refine ⟨_, rfl, ?_⟩) | ((with_reducible refine qp (f := 117) rfl ?_); refine qz (some 10) rfl rfl Try.func117 (by kernel_rfl) rfl #[.int .i64 a1] rfl yq115 ?_; (with_reducible refine (cmp_isNaN_int64.calls a1 true _ A4.out).mono ?_); rintro e w' ⟨rfl, ⟨nd, rfl⟩⟩; refine ⟨_, rfl, ?_⟩))
   go_ret
   exact ⟨by first | rfl | (simp; done) | (simp [*]; done), by repeat (first | exact Drawn0.refl _ | apply Drawn0.step)⟩
  ·replace c7 := Bool.eq_false_iff.mpr c7
   subst c7
   have H1 : (if a0 < a1 then (some (-1)) else (if a0 > a1 then (some 1) else (some 0))) = some r := by rw [if_neg (show ¬ (false = true) by decide)] at H; exact H
   clear H
   have H := H1
   clear H1
   by_cases c8 : a0 < a1
   ·rw [if_pos c8] at H
    have c8b0 : decide (a0 < a1) = true := decide_eq_true c8
    clear c8
    obtain rfl := Option.some.inj H
    go_enter Try.func99, Try.ntmps99
    go_wp2_with (first | ((with_reducible refine qp (f := 117) rfl ?_); refine qz (some 8) rfl rfl Try.func117 (by kernel_rfl) rfl #[.int .i64 a0] rfl yq115 ?_; (with_reducible refine (cmp_isNaN_int64.calls a0 false _ A3.out).mono ?_); rintro e w' ⟨rfl, ⟨nd, rfl⟩⟩; refine ⟨_, rfl, ?_⟩) | ((with_reducible refine qp (f := 117) rfl ?_); refine qz (some 10) rfl rfl Try.func117 (by kernel_rfl) rfl #[.int .i64 a1] rfl yq115 ?_; (with_reducible refine (cmp_isNaN_int64.calls a1 false _ A4.out).mono ?_); rintro e w' ⟨rfl, ⟨nd, rfl⟩⟩; refine ⟨_, rfl, ?_⟩))
    go_ret
    exact ⟨by first | rfl | (simp; done) | (simp [*]; done), by repeat (first | exact Drawn0.refl _ | apply Drawn0.step)⟩
   ·rw [if_neg c8] at H
    have c8b0 : decide (a0 < a1) = false := decide_eq_false c8
    clear c8
    by_cases c9 : a0 > a1
    ·rw [if_pos c9] at H
     have c9b0 : decide (a1 < a0) = true := decide_eq_true c9
     clear c9
     obtain rfl := Option.some.inj H
     go_enter Try.func99, Try.ntmps99
     go_wp2_with (first | ((with_reducible refine qp (f := 117) rfl ?_); refine qz (some 8) rfl rfl Try.func117 (by kernel_rfl) rfl #[.int .i64 a0] rfl yq115 ?_; (with_reducible refine (cmp_isNaN_int64.calls a0 false _ A3.out).mono ?_); rintro e w' ⟨rfl, ⟨nd, rfl⟩⟩; refine ⟨_, rfl, ?_⟩) | ((with_reducible refine qp (f := 117) rfl ?_); refine qz (some 10) rfl rfl Try.func117 (by kernel_rfl) rfl #[.int .i64 a1] rfl yq115 ?_; (with_reducible refine (cmp_isNaN_int64.calls a1 false _ A4.out).mono ?_); rintro e w' ⟨rfl, ⟨nd, rfl⟩⟩; refine ⟨_, rfl, ?_⟩))
     go_ret
     exact ⟨by first | rfl | (simp; done) | (simp [*]; done), by repeat (first | exact Drawn0.refl _ | apply Drawn0.step)⟩
    ·rw [if_neg c9] at H
     have c9b0 : decide (a1 < a0) = false := decide_eq_false c9
     clear c9
     obtain rfl := Option.some.inj H
     go_enter Try.func99, Try.ntmps99
     go_wp2_with (first | ((with_reducible refine qp (f := 117) rfl ?_); refine qz (some 8) rfl rfl Try.func117 (by kernel_rfl) rfl #[.int .i64 a0] rfl yq115 ?_; (with_reducible refine (cmp_isNaN_int64.calls a0 false _ A3.out).mono ?_); rintro e w' ⟨rfl, ⟨nd, rfl⟩⟩; refine ⟨_, rfl, ?_⟩) | ((with_reducible refine qp (f := 117) rfl ?_); refine qz (some 10) rfl rfl Try.func117 (by kernel_rfl) rfl #[.int .i64 a1] rfl yq115 ?_; (with_reducible refine (cmp_isNaN_int64.calls a1 false _ A4.out).mono ?_); rintro e w' ⟨rfl, ⟨nd, rfl⟩⟩; refine ⟨_, rfl, ?_⟩))
     go_ret
     exact ⟨by first | rfl | (simp; done) | (simp [*]; done), by repeat (first | exact Drawn0.refl _ | apply Drawn0.step)⟩
theorem yq116 {P : Prop} (h : P := by (with_reducible repeat (first | refine qc ?_ _ | refine qf ?_ | refine qa ?_ _)); exact BK101.out) : P := h
def impl_cmpMetas.j0 : Nat → Bool → Int → Int → ByteArray → ByteArray → Int → Int → Int → ByteArray → ByteArray → Int → Option (Int)
 | 0, _, _, _, _, _, _, _, _, _, _, _ => none
 | k + 1, x14, x102000, x102001, x102002, x102003, x102004, x103000, x103001, x103002, x103003, x103004 => if x14 = true then ((cmp_Compare_int64.f x103000 x102000).bind fun t103 => (some t103)) else ((cmp_Compare_int64.f x102001 x103001).bind fun t104 => ((cmp_Compare_string.f x102002 x103002).bind fun t105 => ((cmp_Or_int.f k (([t104, t105] : List Int))).bind fun t109 => (some t109))))
def impl_cmpMetas.f (k : Nat) (a0_0 : Int) (a0_1 : Int) (a0_2 : ByteArray) (a0_3 : ByteArray) (a0_4 : Int) (a1_0 : Int) (a1_1 : Int) (a1_2 : ByteArray) (a1_3 : ByteArray) (a1_4 : Int) : Option (Int) := if a0_1 = a1_1 then (impl_cmpMetas.j0 k (a0_1 == 0) a0_0 a0_1 a0_2 a0_3 a0_4 a1_0 a1_1 a1_2 a1_3 a1_4) else (impl_cmpMetas.j0 k false a0_0 a0_1 a0_2 a0_3 a0_4 a1_0 a1_1 a1_2 a1_3 a1_4)
def impl_cmpMetas.T3 : Bool × List (List Nat × List Nat) := (true, [([], []), ([0], [0]), ([], []), ([2], [2]), ([1, 3], [1, 3]), ([], []), ([5], [5]), ([], []), ([7], [7]), ([6, 8, 4], [6, 8]), ([4, 9], [4, 9]), ([10, 9], [10]), ([11, 11, 0, 1, 2, 3, 4, 5, 6, 7, 8, 9, 10, 11], [11])])
def impl_cmpMetas.B3 : List Nat := [0, 1, 0, 4, 15, 0, 32, 0, 128, 511, 1023, 2047, 4095]
theorem impl_cmpMetas.tab3 : rtab .any (opsOf Try.f67 3) = impl_cmpMetas.T3 := by kernel_rfl
theorem impl_cmpMetas.bits3 : waitsOk impl_cmpMetas.T3.2 impl_cmpMetas.B3 = true := by kernel_rfl
set_option maxHeartbeats 8000000 in
set_option maxRecDepth 100000 in
theorem impl_cmpMetas.calls (k : Nat) (a0_0 : Int) (a0_1 : Int) (a0_2 : ByteArray) (a0_3 : ByteArray) (a0_4 : Int) (a1_0 : Int) (a1_1 : Int) (a1_2 : ByteArray) (a1_3 : ByteArray) (a1_4 : Int) (r : Int) (w : World) (h : impl_cmpMetas.f k a0_0 a0_1 a0_2 a0_3 a0_4 a1_0 a1_1 a1_2 a1_3 a1_4 = some r) :
  Calls Try.prog 67 #[.agg #[.int .i64 a0_0, .int .i64 a0_1, .string a0_2, .string a0_3, .int .i64 a0_4], .agg #[.int .i64 a1_0, .int .i64 a1_1, .string a1_2, .string a1_3, .int .i64 a1_4]] w fun e w' => e = .returned (.int .i64 r) ∧ Below w.heap.size w w' := by
 have hu66 := Try.underlying66
 have HB := Qz.mk (Below.refl w.heap.size w)
 have H : (if a0_1 = a1_1 then (impl_cmpMetas.j0 k (a0_1 == 0) a0_0 a0_1 a0_2 a0_3 a0_4 a1_0 a1_1 a1_2 a1_3 a1_4) else (impl_cmpMetas.j0 k false a0_0 a0_1 a0_2 a0_3 a0_4 a1_0 a1_1 a1_2 a1_3 a1_4)) = some r := h
 clear h
 have HC3 := Qz.mk H
 clear H
 go_enter Try.func67, Try.ntmps67
 go_upto_region 1 with (first | ((with_reducible refine qf1 (N := 2) rfl ?_); refine qe1 ?hg (N := 2) ?hd (cs := #[.int .i64 a0_0, .int .i64 a0_1, .string a0_2, .string a0_3, .int .i64 a0_4]) (t := 66) ?hr ?_; (case hd => rfl); (case hg => rfl); (case hr => first | (go_simp; done) | (go_simp; rfl)); intro gb101 hg w4 hbox hb; have BK101 := Qz.mk (hbox); have GW101 := Qz.mk ((by rw [hg]; exact (qt (by repeat (first | (with_reducible first | exact HB.out | apply qi | apply qd | apply qh) | exact HB.out))) : w.heap.size ≤ gb101)); have GE101 := GW101; replace HB := Qz.mk (qn (by repeat (first | (with_reducible first | exact HB.out | apply qi | apply qd | apply qh) | exact HB.out)) hb); clear hb hbox hg) | ((with_reducible refine qf1 (N := 3) rfl ?_); refine qe1 ?hg (N := 3) ?hd (cs := #[.int .i64 a1_0, .int .i64 a1_1, .string a1_2, .string a1_3, .int .i64 a1_4]) (t := 66) ?hr ?_; (case hd => rfl); (case hg => rfl); (case hr => first | (go_simp; done) | (go_simp; rfl)); intro gb102 hg w5 hbox hb; have BK102 := Qz.mk (hbox); have GW102 := Qz.mk ((by rw [hg]; exact (qt (by repeat (first | (with_reducible first | exact HB.out | apply qi | apply qd | apply qh | refine qg ?_ GE101.out) | exact HB.out))) : w.heap.size ≤ gb102)); have GE102 := GW102; replace HB := Qz.mk (qn (by repeat (first | (with_reducible first | exact HB.out | apply qi | apply qd | apply qh | refine qg ?_ GE101.out) | exact HB.out)) hb); have NB101_102 := Qz.mk ((by rw [hg]; exact Nat.ne_of_lt (qc1 (g := gb101) (o := .cells #[.int .i64 a0_0, .int .i64 a0_1, .string a0_2, .string a0_3, .int .i64 a0_4] 66 (0, 0)) yq116) : gb101 ≠ gb102)); have NB102_101 := Qz.mk ((by rw [hg]; exact Nat.ne_of_gt (qc1 (g := gb101) (o := .cells #[.int .i64 a0_0, .int .i64 a0_1, .string a0_2, .string a0_3, .int .i64 a0_4] 66 (0, 0)) yq116) : gb102 ≠ gb101)); replace BK101 := Qz.mk (qq (g := gb101) (o := .cells #[.int .i64 a0_0, .int .i64 a0_1, .string a0_2, .string a0_3, .int .i64 a0_4] 66 (0, 0)) yq116 hb); clear hb hbox hg))
 (try simp only [Act.put, sq1, sq2, sq3])
 go_cut [14] (fun v14 wc => ∃ (kq : Nat) (x14_2 : Bool), v14 = .bool x14_2 ∧ Qz (impl_cmpMetas.j0 kq x14_2 a0_0 a0_1 a0_2 a0_3 a0_4 a1_0 a1_1 a1_2 a1_3 a1_4 = some r) ∧ Qz (kq ≤ k) ∧ Qz (wc.heap[gb101]? = some (.cells #[.int .i64 a0_0, .int .i64 a0_1, .string a0_2, .string a0_3, .int .i64 a0_4] 66 (0, 0))) ∧ Qz (wc.heap[gb102]? = some (.cells #[.int .i64 a1_0, .int .i64 a1_1, .string a1_2, .string a1_3, .int .i64 a1_4] 66 (0, 0))) ∧ Qz (Below w.heap.size w wc))
 case first =>
  have H := HC3.out
  clear HC3
  by_cases c6 : a0_1 = a1_1
  ·rw [if_pos c6] at H
   have c6b0 : (a0_1 == a1_1) = true := beq_iff_eq.mpr c6
   have c6b1 : (a0_1 != a1_1) = false := bne_eq_false_iff_eq.mpr c6
   clear c6
   (first | rw [c6b0] | (simp only [i64_w, i32_w]; rw [c6b0]) | skip)
   have H' := Qz.mk H
   clear H
   have hnb7 := NB101_102.out
   have hnc7 := NB102_101.out
   have hcz8_0 : w5.cell? ⟨gb101, 0, none⟩ = some (.int .i64 a0_0) := (qb BK101.out 0).trans rfl
   have hcz8_1 : w5.cell? ⟨gb101, 1, none⟩ = some (.int .i64 a0_1) := (qb BK101.out 1).trans rfl
   have hcz8_2 : w5.cell? ⟨gb101, 2, none⟩ = some (.string a0_2) := (qb BK101.out 2).trans rfl
   have hcz8_3 : w5.cell? ⟨gb101, 3, none⟩ = some (.string a0_3) := (qb BK101.out 3).trans rfl
   have hcz8_4 : w5.cell? ⟨gb101, 4, none⟩ = some (.int .i64 a0_4) := (qb BK101.out 4).trans rfl
   have hfz8_0 := qe BK101.out 0
   have hfz8_1 := qe BK101.out 1
   have hfz8_2 := qe BK101.out 2
   have hfz8_3 := qe BK101.out 3
   have hfz8_4 := qe BK101.out 4
   have hcz9_0 : w5.cell? ⟨gb102, 0, none⟩ = some (.int .i64 a1_0) := (qb BK102.out 0).trans rfl
   have hcz9_1 : w5.cell? ⟨gb102, 1, none⟩ = some (.int .i64 a1_1) := (qb BK102.out 1).trans rfl
   have hcz9_2 : w5.cell? ⟨gb102, 2, none⟩ = some (.string a1_2) := (qb BK102.out 2).trans rfl
   have hcz9_3 : w5.cell? ⟨gb102, 3, none⟩ = some (.string a1_3) := (qb BK102.out 3).trans rfl
   have hcz9_4 : w5.cell? ⟨gb102, 4, none⟩ = some (.int .i64 a1_4) := (qb BK102.out 4).trans rfl
   have hfz9_0 := qe BK102.out 0
   have hfz9_1 := qe BK102.out 1
   have hfz9_2 := qe BK102.out 2
   have hfz9_3 := qe BK102.out 3
   have hfz9_4 := qe BK102.out 4
   go_wp2
   go_meet
   case rel => exact ⟨_, ((a0_1 == 0)), (by first | rfl | (simp; done) | (simp [*]; done)), H', ⟨by first | omega | exact Nat.le_refl _⟩, ⟨by (with_reducible repeat (first | refine qc ?_ _ | refine qf ?_ | refine qa ?_ _)); exact BK101.out⟩, ⟨by (with_reducible repeat (first | refine qc ?_ _ | refine qf ?_ | refine qa ?_ _)); exact BK102.out⟩, ⟨by repeat (first | (with_reducible first | exact HB.out | apply qi | apply qd | apply qh | refine qg ?_ GE101.out | refine qg ?_ GE102.out) | exact HB.out)⟩⟩
  ·rw [if_neg c6] at H
   have c6b0 : (a0_1 == a1_1) = false := beq_eq_false_iff_ne.mpr c6
   have c6b1 : (a0_1 != a1_1) = true := bne_iff_ne.mpr c6
   (first | rw [c6b0] | (simp only [i64_w, i32_w]; rw [c6b0]) | skip)
   have H' := Qz.mk H
   clear H
   have hnb10 := NB101_102.out
   have hnc10 := NB102_101.out
   have hcz11_0 : w5.cell? ⟨gb101, 0, none⟩ = some (.int .i64 a0_0) := (qb BK101.out 0).trans rfl
   have hcz11_1 : w5.cell? ⟨gb101, 1, none⟩ = some (.int .i64 a0_1) := (qb BK101.out 1).trans rfl
   have hcz11_2 : w5.cell? ⟨gb101, 2, none⟩ = some (.string a0_2) := (qb BK101.out 2).trans rfl
   have hcz11_3 : w5.cell? ⟨gb101, 3, none⟩ = some (.string a0_3) := (qb BK101.out 3).trans rfl
   have hcz11_4 : w5.cell? ⟨gb101, 4, none⟩ = some (.int .i64 a0_4) := (qb BK101.out 4).trans rfl
   have hfz11_0 := qe BK101.out 0
   have hfz11_1 := qe BK101.out 1
   have hfz11_2 := qe BK101.out 2
   have hfz11_3 := qe BK101.out 3
   have hfz11_4 := qe BK101.out 4
   have hcz12_0 : w5.cell? ⟨gb102, 0, none⟩ = some (.int .i64 a1_0) := (qb BK102.out 0).trans rfl
   have hcz12_1 : w5.cell? ⟨gb102, 1, none⟩ = some (.int .i64 a1_1) := (qb BK102.out 1).trans rfl
   have hcz12_2 : w5.cell? ⟨gb102, 2, none⟩ = some (.string a1_2) := (qb BK102.out 2).trans rfl
   have hcz12_3 : w5.cell? ⟨gb102, 3, none⟩ = some (.string a1_3) := (qb BK102.out 3).trans rfl
   have hcz12_4 : w5.cell? ⟨gb102, 4, none⟩ = some (.int .i64 a1_4) := (qb BK102.out 4).trans rfl
   have hfz12_0 := qe BK102.out 0
   have hfz12_1 := qe BK102.out 1
   have hfz12_2 := qe BK102.out 2
   have hfz12_3 := qe BK102.out 3
   have hfz12_4 := qe BK102.out 4
   go_wp2
   go_meet
   case rel => exact ⟨_, (false), (by first | rfl | (simp; done) | (simp [*]; done)), H', ⟨by first | omega | exact Nat.le_refl _⟩, ⟨by (with_reducible repeat (first | refine qc ?_ _ | refine qf ?_ | refine qa ?_ _)); exact BK101.out⟩, ⟨by (with_reducible repeat (first | refine qc ?_ _ | refine qf ?_ | refine qa ?_ _)); exact BK102.out⟩, ⟨by repeat (first | (with_reducible first | exact HB.out | apply qi | apply qd | apply qh | refine qg ?_ GE101.out | refine qg ?_ GE102.out) | exact HB.out)⟩⟩
 case rest =>
  clear HC3
  try clear c1
  try clear p2
  try clear c6
  try clear c6b0
  try clear c6b1
  try clear c7
  try clear c10
  try clear hcz11_0
  try clear hcz11_1
  try clear hcz11_2
  try clear hcz11_3
  try clear hcz11_4
  try clear hcz12_0
  try clear hcz12_1
  try clear hcz12_2
  try clear hcz12_3
  try clear hcz12_4
  try clear hcz8_0
  try clear hcz8_1
  try clear hcz8_2
  try clear hcz8_3
  try clear hcz8_4
  try clear hcz9_0
  try clear hcz9_1
  try clear hcz9_2
  try clear hcz9_3
  try clear hcz9_4
  try clear hfz11_0
  try clear hfz11_1
  try clear hfz11_2
  try clear hfz11_3
  try clear hfz11_4
  try clear hfz12_0
  try clear hfz12_1
  try clear hfz12_2
  try clear hfz12_3
  try clear hfz12_4
  try clear hfz8_0
  try clear hfz8_1
  try clear hfz8_2
  try clear hfz8_3
  try clear hfz8_4
  try clear hfz9_0
  try clear hfz9_1
  try clear hfz9_2
  try clear hfz9_3
  try clear hfz9_4
  obtain ⟨kq, x14_2, rfl, HA, HJ2, BK101, BK102, HB⟩ := hcut
  cases kq with
  | zero => exact absurd HA.out (by simp [impl_cmpMetas.j0])
  | succ kj2 =>
   have H := HA.out
   clear HA
   simp only [impl_cmpMetas.j0] at H
   by_cases c13 : x14_2 = true
   ·subst c13
    have H1 : ((cmp_Compare_int64.f a1_0 a0_0).bind fun t103 => (some t103)) = some r := by rw [if_pos rfl] at H; exact H
    clear H
    have H := H1
    clear H1
    replace H := Option.bind_eq_some_iff.mp H
    obtain ⟨t103, A140, H⟩ := H
    replace H : (some t103) = some r := H
    have A14 := Qz.mk A140
    clear A140
    obtain rfl := Option.some.inj H
    have hnb15 := NB102_101.out
    have hnc15 := NB101_102.out
    have hcz16_0 : wc.cell? ⟨gb102, 0, none⟩ = some (.int .i64 a1_0) := (qb BK102.out 0).trans rfl
    have hcz16_1 : wc.cell? ⟨gb102, 1, none⟩ = some (.int .i64 a1_1) := (qb BK102.out 1).trans rfl
    have hcz16_2 : wc.cell? ⟨gb102, 2, none⟩ = some (.string a1_2) := (qb BK102.out 2).trans rfl
    have hcz16_3 : wc.cell? ⟨gb102, 3, none⟩ = some (.string a1_3) := (qb BK102.out 3).trans rfl
    have hcz16_4 : wc.cell? ⟨gb102, 4, none⟩ = some (.int .i64 a1_4) := (qb BK102.out 4).trans rfl
    have hfz16_0 := qe BK102.out 0
    have hfz16_1 := qe BK102.out 1
    have hfz16_2 := qe BK102.out 2
    have hfz16_3 := qe BK102.out 3
    have hfz16_4 := qe BK102.out 4
    have hcz17_0 : wc.cell? ⟨gb101, 0, none⟩ = some (.int .i64 a0_0) := (qb BK101.out 0).trans rfl
    have hcz17_1 : wc.cell? ⟨gb101, 1, none⟩ = some (.int .i64 a0_1) := (qb BK101.out 1).trans rfl
    have hcz17_2 : wc.cell? ⟨gb101, 2, none⟩ = some (.string a0_2) := (qb BK101.out 2).trans rfl
    have hcz17_3 : wc.cell? ⟨gb101, 3, none⟩ = some (.string a0_3) := (qb BK101.out 3).trans rfl
    have hcz17_4 : wc.cell? ⟨gb101, 4, none⟩ = some (.int .i64 a0_4) := (qb BK101.out 4).trans rfl
    have hfz17_0 := qe BK101.out 0
    have hfz17_1 := qe BK101.out 1
    have hfz17_2 := qe BK101.out 2
    have hfz17_3 := qe BK101.out 3
    have hfz17_4 := qe BK101.out 4
    go_wp2_with (first | ((with_reducible refine qp (f := 99) rfl ?_); refine qz (some 19) rfl rfl Try.func99 (by kernel_rfl) rfl #[.int .i64 a1_0, .int .i64 a0_0] rfl (by (try simp only [List.map_toArray, List.map_cons, List.map_nil]); first | done | rfl) ?_; (with_reducible refine (cmp_Compare_int64.calls a1_0 a0_0 t103 _ A14.out).mono ?_); rintro e w' ⟨rfl, ⟨nd, rfl⟩⟩; refine ⟨_, rfl, ?_⟩))
    go_ret
    exact ⟨by first | rfl | (simp [qw, qv] <;> rfl) | (simp [*, qw, qv] <;> rfl), by repeat (first | (with_reducible first | exact HB.out | apply qi | apply qd | apply qh | refine qg ?_ GE101.out | refine qg ?_ GE102.out) | exact HB.out)⟩
   ·replace c13 := Bool.eq_false_iff.mpr c13
    subst c13
    have H1 : ((cmp_Compare_int64.f a0_1 a1_1).bind fun t104 => ((cmp_Compare_string.f a0_2 a1_2).bind fun t105 => ((cmp_Or_int.f kj2 (([t104, t105] : List Int))).bind fun t109 => (some t109)))) = some r := by rw [if_neg (show ¬ (false = true) by decide)] at H; exact H
    clear H
    have H := H1
    clear H1
    replace H := Option.bind_eq_some_iff.mp H
    obtain ⟨t104, A180, H⟩ := H
    replace H : ((cmp_Compare_string.f a0_2 a1_2).bind fun t105 => ((cmp_Or_int.f kj2 (([t104, t105] : List Int))).bind fun t109 => (some t109))) = some r := H
    have A18 := Qz.mk A180
    clear A180
    replace H := Option.bind_eq_some_iff.mp H
    obtain ⟨t105, A190, H⟩ := H
    replace H : ((cmp_Or_int.f kj2 (([t104, t105] : List Int))).bind fun t109 => (some t109)) = some r := H
    have A19 := Qz.mk A190
    clear A190
    obtain ⟨y106, hy106⟩ : ∃ y_ : List Int, y_ = (([t104, t105] : List Int)) := ⟨_, rfl⟩
    replace H : ((cmp_Or_int.f kj2 y106).bind fun t109 => (some t109)) = some r := by first | (rw [hy106]; with_reducible exact H) | (have H2_ := (Option.bind_some _ _).symm.trans H; rw [hy106]; with_reducible exact H2_) | (have H2_ := (Option.bind_some _ _).symm.trans H; with_reducible exact H2_) | with_reducible exact H | (rw [hy106]; exact H) | exact H
    have Ny106 := Qz.mk hy106
    clear hy106
    replace H := Option.bind_eq_some_iff.mp H
    obtain ⟨t109, A200, H⟩ := H
    replace H : (some t109) = some r := H
    have A20 := Qz.mk A200
    clear A200
    obtain rfl := Option.some.inj H
    try go_wp2
    replace BK101 := Qz.mk (qf BK101.out)
    replace BK102 := Qz.mk (qf BK102.out)
    replace HB := Qz.mk (qh HB.out)
    refine start_ (n := 13) (S := fun w' => w'.cell? ⟨gb101, 0, none⟩ = some (.int .i64 a0_0) ∧ w'.cell? ⟨gb101, 1, none⟩ = some (.int .i64 a0_1) ∧ w'.cell? ⟨gb101, 2, none⟩ = some (.string a0_2) ∧ w'.cell? ⟨gb101, 3, none⟩ = some (.string a0_3) ∧ w'.cell? ⟨gb101, 4, none⟩ = some (.int .i64 a0_4) ∧ w'.cell? ⟨gb102, 0, none⟩ = some (.int .i64 a1_0) ∧ w'.cell? ⟨gb102, 1, none⟩ = some (.int .i64 a1_1) ∧ w'.cell? ⟨gb102, 2, none⟩ = some (.string a1_2) ∧ w'.cell? ⟨gb102, 3, none⟩ = some (.string a1_3) ∧ w'.cell? ⟨gb102, 4, none⟩ = some (.int .i64 a1_4)) (ds := []) bq3 (by kernel_rfl) rfl rfl ⟨(qb BK101.out 0).trans rfl, (qb BK101.out 1).trans rfl, (qb BK101.out 2).trans rfl, (qb BK101.out 3).trans rfl, (qb BK101.out 4).trans rfl, (qb BK102.out 0).trans rfl, (qb BK102.out 1).trans rfl, (qb BK102.out 2).trans rfl, (qb BK102.out 3).trans rfl, (qb BK102.out 4).trans rfl⟩ (fun hHeld => ?_); refine with_tabW impl_cmpMetas.tab3 impl_cmpMetas.bits3 (fun HT_ HW_ => ?_)
    generalize wc.drew = w21 at BK101 BK102 HB hHeld ⊢
    refine pure_ (i := 0) (N := some 20) (v := ?_) (a' := ?_) bq10 rfl rfl (qr HT_.out (by kernel_rfl)) (fun _ _ _ h => h) (Or.inl ⟨by rfl, ?_⟩) ?_ ?_
    rotate_left
    ·intro w'
     go_simp
     with_reducible rfl
    rotate_left
    ·simp only [Act.put, sq1, sq2, sq3, i64_w, i32_w]
     rfl
    refine pure_ (i := 2) (N := some 22) (v := ?_) (a' := ?_) bq13 rfl rfl (qr HT_.out (by kernel_rfl)) (fun _ _ _ h => h) (Or.inl ⟨by rfl, ?_⟩) ?_ ?_
    rotate_left
    ·intro w'
     go_simp
     with_reducible rfl
    rotate_left
    ·simp only [Act.put, sq1, sq2, sq3, i64_w, i32_w]
     rfl
    refine pure_ (i := 5) (N := some 25) (v := ?_) (a' := ?_) #[true, false, true, false, false, true, false, false, false, false, false, false, false] rfl rfl (qr HT_.out (by kernel_rfl)) (fun _ _ _ h => h) (Or.inl ⟨by rfl, ?_⟩) ?_ ?_
    rotate_left
    ·intro w'
     go_simp
     with_reducible rfl
    rotate_left
    ·simp only [Act.put, sq1, sq2, sq3, i64_w, i32_w]
     rfl
    refine pure_ (i := 7) (N := some 27) (v := ?_) (a' := ?_) #[true, false, true, false, false, true, false, true, false, false, false, false, false] rfl rfl (qr HT_.out (by kernel_rfl)) (fun _ _ _ h => h) (Or.inl ⟨by rfl, ?_⟩) ?_ ?_
    rotate_left
    ·intro w'
     go_simp
     with_reducible rfl
    rotate_left
    ·simp only [Act.put, sq1, sq2, sq3, i64_w, i32_w]
     rfl
    refine take_ (i := 1) (N := some 21) (v := ?_) (a' := ?_) #[true, true, true, false, false, true, false, true, false, false, false, false, false] rfl rfl (qb1 HT_.out HW_.out (by kernel_rfl)) (fun _ _ _ h => h) (Or.inl ⟨by rfl, ?_⟩) hHeld ?_ ?_
    rotate_left
    ·rintro w' ⟨s0, s1, s2, s3, s4, s5, s6, s7, s8, s9⟩
     go_simp
     with_reducible rfl
    rotate_left
    ·simp only [Act.put, sq1, sq2, sq3, i64_w, i32_w]
     rfl
    refine take_ (i := 3) (N := some 23) (v := ?_) (a' := ?_) #[true, true, true, true, false, true, false, true, false, false, false, false, false] rfl rfl (qb1 HT_.out HW_.out (by kernel_rfl)) (fun _ _ _ h => h) (Or.inl ⟨by rfl, ?_⟩) hHeld ?_ ?_
    rotate_left
    ·rintro w' ⟨s0, s1, s2, s3, s4, s5, s6, s7, s8, s9⟩
     go_simp
     with_reducible rfl
    rotate_left
    ·simp only [Act.put, sq1, sq2, sq3, i64_w, i32_w]
     rfl
    refine take_ (i := 6) (N := some 26) (v := ?_) (a' := ?_) #[true, true, true, true, false, true, true, true, false, false, false, false, false] rfl rfl (qb1 HT_.out HW_.out (by kernel_rfl)) (fun _ _ _ h => h) (Or.inl ⟨by rfl, ?_⟩) hHeld ?_ ?_
    rotate_left
    ·rintro w' ⟨s0, s1, s2, s3, s4, s5, s6, s7, s8, s9⟩
     go_simp
     with_reducible rfl
    rotate_left
    ·simp only [Act.put, sq1, sq2, sq3, i64_w, i32_w]
     rfl
    refine take_ (i := 8) (N := some 28) (v := ?_) (a' := ?_) #[true, true, true, true, false, true, true, true, true, false, false, false, false] rfl rfl (qb1 HT_.out HW_.out (by kernel_rfl)) (fun _ _ _ h => h) (Or.inl ⟨by rfl, ?_⟩) hHeld ?_ ?_
    rotate_left
    ·rintro w' ⟨s0, s1, s2, s3, s4, s5, s6, s7, s8, s9⟩
     go_simp
     with_reducible rfl
    rotate_left
    ·simp only [Act.put, sq1, sq2, sq3, i64_w, i32_w]
     rfl
    refine one_ (i := 4) (N := some 24) bq61 rfl rfl (one_of HT_.out (by kernel_rfl)) (by decide) (fun K hK => ?_)
    refine goes_ Try.func99 (by kernel_rfl) rfl #[.int .i64 a0_1, .int .i64 a1_1] (by rfl) rfl rfl (by (try simp only [List.map_toArray, List.map_cons, List.map_nil]); first | done | rfl) ?_
    with_reducible refine (cmp_Compare_int64.calls a0_1 a1_1 t104 _ A18.out).mono ?_
    rintro e w' ⟨rfl, ⟨nd, rfl⟩⟩
    refine ⟨_, rfl, ?_⟩
    refine hK.out _ _ ⟨(qb BK101.out 0).trans rfl, (qb BK101.out 1).trans rfl, (qb BK101.out 2).trans rfl, (qb BK101.out 3).trans rfl, (qb BK101.out 4).trans rfl, (qb BK102.out 0).trans rfl, (qb BK102.out 1).trans rfl, (qb BK102.out 2).trans rfl, (qb BK102.out 3).trans rfl, (qb BK102.out 4).trans rfl⟩ (fun hHeld => ?_)
    clear hK K
    refine norm_ (a' := ?_) ?_ ?_
    rotate_left
    ·show Act.put _ (some 24) _ = _
     simp only [Act.put, sq1, sq2, sq3, i64_w, i32_w]
     rfl
    refine one_ (i := 9) (N := some 29) bq68 rfl rfl (one_of HT_.out (by kernel_rfl)) (by decide) (fun K hK => ?_)
    refine goes_ Try.func101 (by kernel_rfl) rfl #[.string a0_2, .string a1_2] (by rfl) rfl rfl (by (try simp only [List.map_toArray, List.map_cons, List.map_nil]); first | done | rfl) ?_
    with_reducible refine (cmp_Compare_string.calls a0_2 a1_2 t105 _ A19.out).mono ?_
    rintro e w' ⟨rfl, ⟨nd, rfl⟩⟩
    refine ⟨_, rfl, ?_⟩
    refine hK.out _ _ ⟨(qb BK101.out 0).trans rfl, (qb BK101.out 1).trans rfl, (qb BK101.out 2).trans rfl, (qb BK101.out 3).trans rfl, (qb BK101.out 4).trans rfl, (qb BK102.out 0).trans rfl, (qb BK102.out 1).trans rfl, (qb BK102.out 2).trans rfl, (qb BK102.out 3).trans rfl, (qb BK102.out 4).trans rfl⟩ (fun hHeld => ?_)
    clear hK K
    refine norm_ (a' := ?_) ?_ ?_
    rotate_left
    ·show Act.put _ (some 29) _ = _
     simp only [Act.put, sq1, sq2, sq3, i64_w, i32_w]
     rfl
    refine one_ (i := 10) (N := some 30) bq73 rfl rfl (one_of HT_.out (by kernel_rfl)) (by decide) (fun K hK => ?_)
    refine Kd.R_lit_step (Kd.int .i64) _ 3 ?hg (N := 30) ?hd (xs := ([t104, t105] : List Int)) (inner := [.int .i64 t104, .int .i64 t105]) (ok := fun _ => True) (okp := fun _ => True) ?hr ?hp (fun _ hk => hk) trivial (Below.refl _ _) (Nat.le_refl _) (by simp) ?_; (case hd => rfl); (case hg => rfl); (case hr => first | (go_simp; done) | (go_simp; rfl)); (case hp => exact (Reps.one (show Kd.M (Kd.int .i64) _ _ _ t104 [.int .i64 t104] from rfl) (Reps.one (show Kd.M (Kd.int .i64) _ _ _ t105 [.int .i64 t105] from rfl) (Reps.none _ _))))
    intro v107 w22 ho23 hb hg_ hnew_
    clear hg_ hnew_
    (first | rw [← Ny106.out] at ho23 | (simp only [Int.reduceToNat] at ho23; rw [← Ny106.out] at ho23))
    have HO108 := Qz.mk (Kd.R_lower ho23 (qt (by repeat (first | (with_reducible first | exact HB.out | apply qi | apply qd | apply qh | refine qg ?_ GE101.out | refine qg ?_ GE102.out) | exact HB.out))))
    replace BK101 := Qz.mk (qq (g := gb101) (o := .cells #[.int .i64 a0_0, .int .i64 a0_1, .string a0_2, .string a0_3, .int .i64 a0_4] 66 (0, 0)) yq116 hb)
    replace BK102 := Qz.mk (qq (g := gb102) (o := .cells #[.int .i64 a1_0, .int .i64 a1_1, .string a1_2, .string a1_3, .int .i64 a1_4] 66 (0, 0)) (by (with_reducible repeat (first | refine qc ?_ _ | refine qf ?_ | refine qa ?_ _)); exact BK102.out) hb)
    replace HB := Qz.mk (qn (by repeat (first | (with_reducible first | exact HB.out | apply qi | apply qd | apply qh | refine qg ?_ GE101.out | refine qg ?_ GE102.out) | exact HB.out)) hb)
    clear hb ho23
    obtain ⟨Ao24, co24, eo24⟩ := Kd.R_slice HO108.out
    (first | subst eo24 | (injection eo24 with f1_ f2_ f3_; have f4_ := f1_.symm; have f5_ := f3_.symm; clear f1_ f2_ f3_; subst f4_; subst f5_))
    refine hK.out _ _ ⟨(qb BK101.out 0).trans rfl, (qb BK101.out 1).trans rfl, (qb BK101.out 2).trans rfl, (qb BK101.out 3).trans rfl, (qb BK101.out 4).trans rfl, (qb BK102.out 0).trans rfl, (qb BK102.out 1).trans rfl, (qb BK102.out 2).trans rfl, (qb BK102.out 3).trans rfl, (qb BK102.out 4).trans rfl⟩ (fun hHeld => ?_)
    clear hK K
    refine norm_ (a' := ?_) ?_ ?_
    rotate_left
    ·show Act.put _ (some 30) _ = _
     simp only [Act.put, sq1, sq2, sq3, i64_w, i32_w]
     rfl
    refine one_ (i := 11) (N := some 31) bq78 rfl rfl (one_of HT_.out (by kernel_rfl)) (by decide) (fun K hK => ?_)
    refine goes_ Try.func100 (by kernel_rfl) rfl #[.slice Ao24 y106.length co24] (by rfl) rfl rfl (by (try simp only [List.map_toArray, List.map_cons, List.map_nil]); first | done | rfl | (simp only [List.length_drop, List.length_take]; rfl) | (rw [IntWalk.u64_in _ (by omega)] <;> rfl)) ?_
    with_reducible refine (cmp_Or_int.calls kj2 _ _ y106 t109 _ ?side1 ?side2 A20.out).mono ?_
    (case side1 => repeat (first | exact (Kd.R_reads' HO108.out).2.2 | (with_reducible refine Kd.C_alloc ?_ _) | (with_reducible refine Kd.C_drewN ?_ _) | (with_reducible refine Kd.C_drew ?_)))
    (case side2 => exact (Kd.R_reads' HO108.out).2.1)
    rintro e w' ⟨rfl, ⟨nd, rfl⟩⟩
    refine ⟨_, rfl, ?_⟩
    refine hK.out _ _ ⟨(qb BK101.out 0).trans rfl, (qb BK101.out 1).trans rfl, (qb BK101.out 2).trans rfl, (qb BK101.out 3).trans rfl, (qb BK101.out 4).trans rfl, (qb BK102.out 0).trans rfl, (qb BK102.out 1).trans rfl, (qb BK102.out 2).trans rfl, (qb BK102.out 3).trans rfl, (qb BK102.out 4).trans rfl⟩ (fun hHeld => ?_)
    clear hK K
    refine norm_ (a' := ?_) ?_ ?_
    rotate_left
    ·show Act.put _ (some 31) _ = _
     simp only [Act.put, sq1, sq2, sq3, i64_w, i32_w]
     rfl
    refine pure_ (i := 12) (N := some 4) (v := ?_) (a' := ?_) bq113 rfl rfl (qr HT_.out (by kernel_rfl)) (fun _ _ _ h => h) (Or.inl ⟨by rfl, ?_⟩) ?_ ?_
    rotate_left
    ·intro w'
     go_simp
     with_reducible rfl
    rotate_left
    ·simp only [Act.put, sq1, sq2, sq3, i64_w, i32_w]
     rfl
    refine done_ (done_of HT_.out (by kernel_rfl)) ?_
    try go_wp2
    go_ret
    exact ⟨by first | rfl | (simp [qw, qv] <;> rfl) | (simp [*, qw, qv] <;> rfl), by repeat (first | (with_reducible first | exact HB.out | apply qi | apply qd | apply qh | refine qg ?_ GE101.out | refine qg ?_ GE102.out) | exact HB.out)⟩
end Go.Proofs.Ytcgejabkjljeeaa.P
end

section
namespace Go.Proofs.Ytcgejabkjljeeaa.P
open Go.RowKit Go.Proofs.YtcgejabkjljeeaaW.PrintWords Go.Proofs.YtcgejabkjljeeaaW.PrintLast Go.Proofs.YtcgejabkjljeeaaW.PrintMore
attribute [local go_sem] str_gtr str_leq str_geq max2_int min2_int max_two min_two max_three min_three max_four min_four
set_option linter.unusedVariables false
set_option linter.unusedSimpArgs false
theorem wsucc {i : Nat} (h : i < 4611686018427387904) : wrap64 ((i : Int) + 1) = ((i + 1 : Nat) : Int) := by unfold wrap64; omega
theorem wid {x : Int} (h0 : -9223372036854775808 ≤ x) (h1 : x ≤ 9223372036854775807) : wrap64 x = x := by unfold wrap64; omega
theorem uid {x : Int} (h0 : 0 ≤ x) (h1 : x ≤ 18446744073709551615) : IntKind.u64.wrap x = x := IntWalk.u64_in x ⟨h0, h1⟩
theorem _root_.Go.Proofs.YtcgejabkjljeeaaW.PrintWords.Ev.pos {α : Type} {c : Prop} [Decidable c] {a b : Nat → Option α} {r : α} (hc : c) (h : Ev a r) : Ev (fun k => if c then a k else b k) r := Ev.congr (fun _ => if_pos hc) h
theorem _root_.Go.Proofs.YtcgejabkjljeeaaW.PrintWords.Ev.neg {α : Type} {c : Prop} [Decidable c] {a b : Nat → Option α} {r : α} (hc : ¬ c) (h : Ev b r) : Ev (fun k => if c then a k else b k) r := Ev.congr (fun _ => if_neg hc) h
theorem _root_.Go.Proofs.YtcgejabkjljeeaaW.PrintWords.Ev.bindS {α β : Type} {x : Option α} {a : α} {f : Nat → α → Option β} {r : β} (hx : x = some a) (h : Ev (fun k => f k a) r) : Ev (fun k => x.bind (f k)) r := Ev.congr (fun k => by rw [hx]; rfl) h
theorem _root_.Go.Proofs.YtcgejabkjljeeaaW.PrintWords.Ev.eqr {α : Type} {g : Nat → Option α} {r r' : α} (h : Ev g r) (e : r = r') : Ev g r' := e ▸ h
theorem downTo {P : Nat → Prop} (n : Nat) (hn : P n) (hs : ∀ i, i < n → P (i + 1) → P i) : ∀ i, i ≤ n → P i := by
  intro i hi
  obtain ⟨d, rfl⟩ := Nat.exists_eq_add_of_le hi
  clear hi
  induction d generalizing i with
  | zero => exact hn
  | succ d ih => exact hs i (by omega) (ih (i := i + 1) (by rwa [show i + 1 + d = i + (d + 1) from by omega]) (by rwa [show i + 1 + d = i + (d + 1) from by omega]))
theorem getD_rd (xs : List Int) (i : Nat) : rd xs (i : Int) = xs.getD i 0 := by unfold rd; rw [Int.toNat_natCast]
end Go.Proofs.Ytcgejabkjljeeaa.P
end

section
namespace Go.Proofs.Ytcgejabkjljeeaa.P
open Go.RowKit Go.Proofs.YtcgejabkjljeeaaW.PrintWords Go.Proofs.YtcgejabkjljeeaaW.PrintLast Go.Proofs.YtcgejabkjljeeaaW.PrintMore
attribute [local go_sem] str_gtr str_leq str_geq max2_int min2_int max_two min_two max_three min_three max_four min_four
set_option linter.unusedVariables false
set_option linter.unusedSimpArgs false
theorem within_ev (a b c : Int) : impl_within.f a b c = some (decide (b ≤ a ∧ a ≤ c)) := by
  unfold impl_within.f
  by_cases h : b ≤ a <;> simp [h]
theorem in_ev (a b c : Int) : spec_l1In.f a b c = some (decide (b ≤ a ∧ a ≤ c)) := by
  unfold spec_l1In.f
  by_cases h : b ≤ a <;> simp [h]
def isU (s : ByteArray) : Prop := 1 ≤ s.size ∧ s.size ≤ 40
instance (s : ByteArray) : Decidable (isU s) := by unfold isU; infer_instance
theorem isUser_ev (a : ByteArray) : impl_isUser.f a = some (decide (isU a)) := by
  unfold impl_isUser.f isU
  by_cases h : (a.size : Int) ≥ 1
  · rw [if_pos h]
    congr 1
    exact decide_eq_decide.2 (by omega)
  · rw [if_neg h]
    congr 1
    exact (decide_eq_false (by omega)).symm
theorem l2User_ev (a : ByteArray) : spec_l2User.f a = some (decide (isU a)) := by
  unfold spec_l2User.f isU
  by_cases h : (a.size : Int) ≥ 1
  · rw [if_pos h]
    congr 1
    exact decide_eq_decide.2 (by omega)
  · rw [if_neg h]
    congr 1
    exact (decide_eq_false (by omega)).symm
end Go.Proofs.Ytcgejabkjljeeaa.P
end

section
namespace Go.Proofs.Ytcgejabkjljeeaa.P
open Go.RowKit Go.Proofs.YtcgejabkjljeeaaW.PrintWords Go.Proofs.YtcgejabkjljeeaaW.PrintLast Go.Proofs.YtcgejabkjljeeaaW.PrintMore
attribute [local go_sem] str_gtr str_leq str_geq max2_int min2_int max_two min_two max_three min_three max_four min_four
set_option linter.unusedVariables false
set_option linter.unusedSimpArgs false
def isK (u : ByteArray) (seq kind : Int) : Prop := isU u ∧ (0 ≤ seq ∧ seq ≤ 1000000000000) ∧ 0 ≤ kind ∧ kind ≤ 1
instance (u : ByteArray) (seq kind : Int) : Decidable (isK u seq kind) := by unfold isK; infer_instance
def isE (u : ByteArray) (seq kind : Int) (v : ByteArray) : Prop := isK u seq kind ∧ v.size ≤ 200 ∧ (kind = 1 ∨ v.toList = [])
instance (u : ByteArray) (seq kind : Int) (v : ByteArray) : Decidable (isE u seq kind v) := by unfold isE; infer_instance
end Go.Proofs.Ytcgejabkjljeeaa.P
end

section
namespace Go.Proofs.Ytcgejabkjljeeaa.P
open Go.RowKit Go.Proofs.YtcgejabkjljeeaaW.PrintWords Go.Proofs.YtcgejabkjljeeaaW.PrintLast Go.Proofs.YtcgejabkjljeeaaW.PrintMore
attribute [local go_sem] str_gtr str_leq str_geq max2_int min2_int max_two min_two max_three min_three max_four min_four
set_option linter.unusedVariables false
set_option linter.unusedSimpArgs false
theorem bl_eq {a b : List UInt8} (h : Op.bytesLess a b = false) (h' : Op.bytesLess b a = false) : a = b := by
  rw [← bytesLess_swap, h] at h'
  simpa using h'
theorem bl_cons (a b : UInt8) (x y : List UInt8) : Op.bytesLess (a :: x) (b :: y) = true ↔ a < b ∨ a = b ∧ Op.bytesLess x y = true := by
  rcases Nat.lt_trichotomy a.toNat b.toNat with h | h | h
  · have h1 : a < b := UInt8.lt_iff_toNat_lt.2 h
    simp [Op.bytesLess, h1]
  · have h1 : a = b := UInt8.toNat_inj.1 h
    subst h1
    have h2 : ¬ a < a := fun h => by have := UInt8.lt_iff_toNat_lt.1 h; omega
    simp [Op.bytesLess, h2]
  · have h1 : ¬ a < b := fun h' => by have := UInt8.lt_iff_toNat_lt.1 h'; omega
    have h2 : ¬ a = b := fun h' => by rw [h'] at h; omega
    simp [Op.bytesLess, h1, h2]
theorem bl_trans : ∀ {a b c : List UInt8}, Op.bytesLess a b = true → Op.bytesLess b c = true → Op.bytesLess a c = true
  | _, [], _, h, _ => by cases ‹List UInt8› <;> simp [Op.bytesLess] at h
  | [], b :: y, [], _, h => by simp [Op.bytesLess] at h
  | [], b :: y, c :: z, _, _ => by simp [Op.bytesLess]
  | a :: x, b :: y, [], _, h => by simp [Op.bytesLess] at h
  | a :: x, b :: y, c :: z, h, h' => by
    rw [bl_cons] at h h' ⊢
    rcases h with h | ⟨rfl, h⟩
    · rcases h' with h' | ⟨rfl, h'⟩
      · exact .inl (UInt8.lt_iff_toNat_lt.2 (by have := UInt8.lt_iff_toNat_lt.1 h; have := UInt8.lt_iff_toNat_lt.1 h'; omega))
      · exact .inl h
    · rcases h' with h' | ⟨rfl, h'⟩
      · exact .inl h'
      · exact .inr ⟨rfl, bl_trans h h'⟩
def tless (a b : ByteArray) : Bool := Op.bytesLess a.toList b.toList
theorem compareS_ev (a b : ByteArray) : cmp_Compare_string.f a b = some (if tless a b = true then -1 else if tless b a = true then 1 else 0) := by
  unfold cmp_Compare_string.f cmp_isNaN_string.f tless
  simp only [bne_self_eq_false, Option.bind_some, Bool.false_eq_true, if_false]
  split
  · rfl
  · split <;> rfl
theorem compareI_ev (a b : Int) : cmp_Compare_int64.f a b = some (if a < b then -1 else if b < a then 1 else 0) := by
  unfold cmp_Compare_int64.f cmp_isNaN_int64.f
  simp only [bne_self_eq_false, Option.bind_some, Bool.false_eq_true, if_false]
  split
  · rfl
  · by_cases h : b < a
    · rw [if_pos h, if_pos h]
    · rw [if_neg h, if_neg h]
theorem orInt_ev : ∀ (n : Nat) (l : List Int), l.length = n → n < 1000 → Ev (fun k => cmp_Or_int.f k l) ((l.find? fun x => x != 0).getD 0) := by
  intro n l hn hb
  have key : ∀ i, i ≤ l.length → Ev (fun k => cmp_Or_int.l0 k 0 l (l.length : Int) (i : Int)) (((l.drop i).find? fun x => x != 0).getD 0) := by
    refine downTo l.length ?_ ?_
    · refine Ev.step (fun k => cmp_Or_int.l0.eq_2 ..) (Ev.neg (by omega) ?_)
      rw [List.drop_length]
      exact Ev.now _
    · intro i hi ih
      have hr : rd l (i : Int) = l[i] := by
        unfold rd
        rw [Int.toNat_natCast, List.getD_eq_getElem?_getD, List.getElem?_eq_getElem hi]
        rfl
      rw [List.drop_eq_getElem_cons hi]
      refine Ev.step (fun k => cmp_Or_int.l0.eq_2 ..) (Ev.pos (by omega) (Ev.pos (by omega) (Ev.pos (by omega) ?_)))
      rw [hr, wsucc (by omega)]
      by_cases c : l[i] = 0
      · refine Ev.pos c ?_
        rw [List.find?_cons_of_neg (by simp [c])]
        exact ih
      · refine Ev.neg c ?_
        rw [List.find?_cons_of_pos (by simp [c])]
        exact Ev.now _
  exact key 0 (Nat.zero_le _)
end Go.Proofs.Ytcgejabkjljeeaa.P
end
