/- Proved: the law FnApplied of the given program returns true for every input of its Go types and leaves each argument as it was; no condition. (Part 14 of 18.) -/
import Derived.Test.YtcgejabkjljeeaaCFnApplied4
import Derived.Test.YtcgejabkjljeeaaCFnApplied11
import Derived.Test.YtcgejabkjljeeaaCFnApplied8
import Derived.Test.YtcgejabkjljeeaaCFnApplied12
import Derived.Test.YtcgejabkjljeeaaCFnApplied6
section
namespace Go.Proofs.Ytcgejabkjljeeaa.P
open Go.RowKit Go.Proofs.YtcgejabkjljeeaaW.PrintWords Go.Proofs.YtcgejabkjljeeaaW.PrintLast Go.Proofs.YtcgejabkjljeeaaW.PrintMore
attribute [local go_sem] str_gtr str_leq str_geq max2_int min2_int max_two min_two qc1 qb1 max_four min_four
set_option linter.unusedVariables false
set_option linter.unusedSimpArgs false
theorem yq88 {P : Prop} (h : P := by repeat (first | (with_reducible first | exact HK.out | apply KeepBut.set_ | apply qk | apply qn | apply ql | refine qj ?_ GW101.out _ | refine qj ?_ GW104.out _) | exact HK.out)) : P := h
theorem yq89 {P : Prop} (h : P := by (with_reducible repeat (first | refine qb ?_ _ | refine qc ?_ | refine qa ?_ _)); exact BK101.out) : P := h
theorem yq90 {P : Prop} (h : P := by repeat (first | (with_reducible first | exact HK.out | apply KeepBut.set_ | apply qk | apply qn | apply ql | refine qj ?_ GW101.out _ | refine qj ?_ GW104.out _ | refine qj ?_ GW124.out _) | exact HK.out)) : P := h
theorem yq91 {P : Prop} (h : P := by (with_reducible repeat (first | refine qb ?_ _ | refine qc ?_ | refine qa ?_ _)); exact BK104.out) : P := h
theorem yq92 {P : Prop} (h : P := by (with_reducible repeat (first | apply Kd.R_alloc | apply Kd.R_drewN | apply Kd.R_drew)); exact HO_105000.out) : P := h
theorem yq93 {P : Prop} (h : P := by repeat (first | (with_reducible first | exact HI0.out | apply IsS123.alloc | apply IsS123.drewN | apply IsS123.drew | apply IsS123.set_1 | apply (fun h_ => IsS123.far h_ NB0_101.out _) | apply (fun h_ => IsS123.far h_ NB0_104.out _)) | exact HI0.out)) : P := h
theorem yq94 {P : Prop} (h : P := by repeat (first | (with_reducible first | exact HI0.out | apply IsS123.alloc | apply IsS123.drewN | apply IsS123.drew | apply IsS123.set_1 | apply (fun h_ => IsS123.far h_ NB0_101.out _) | apply (fun h_ => IsS123.far h_ NB0_104.out _) | apply (fun h_ => IsS123.far h_ NB0_124.out _)) | exact HI0.out)) : P := h
theorem yq95 {P : Prop} (h : P := by repeat (first | (with_reducible first | exact HB.out | apply qi | apply qg | apply qh | refine qf ?_ (IsS123.ge HI0.out) | refine qf ?_ GE101.out | refine qf ?_ GE104.out) | exact HB.out)) : P := h
theorem yq96 {P : Prop} (h : P := by repeat (first | (with_reducible first | exact HB.out | apply qi | apply qg | apply qh | refine qf ?_ (IsS123.ge HI0.out) | refine qf ?_ GE101.out | refine qf ?_ GE104.out | refine qf ?_ GE124.out) | exact HB.out)) : P := h
theorem yq97 {P : Prop} (h : P := by (try simp only [List.map_toArray, List.map_cons, List.map_nil]); first | done | rfl | (simp only [List.length_drop, List.length_take]; rfl) | (rw [IntWalk.u64_in _ (by omega)] <;> rfl)) : P := h
theorem yq98 {P : Prop} (h : P := by (with_reducible repeat (first | apply Kd.R_alloc | apply Kd.R_drewN | apply Kd.R_drew)); exact HO112.out) : P := h
theorem yq99 {P : Prop} (h : P := by (with_reducible repeat (first | apply Kd.R_alloc | apply Kd.R_drewN | apply Kd.R_drew)); exact HO109.out) : P := h
theorem yq100 {P : Prop} (h : P := by (with_reducible repeat (first | refine qb ?_ _ | refine qc ?_ | refine qa ?_ _)); exact BK124.out) : P := h
theorem yq101 {P : Prop} (h : P := by repeat (first | exact (Kd.R_reads' HO_105000.out).2.2 | (with_reducible refine Kd.C_alloc ?_ _) | (with_reducible refine Kd.C_drewN ?_ _) | (with_reducible refine Kd.C_drew ?_))) : P := h
theorem yq102 {P : Prop} (h : P := by repeat (first | exact (Kd.R_reads' HO112.out).2.2 | (with_reducible refine Kd.C_alloc ?_ _) | (with_reducible refine Kd.C_drewN ?_ _) | (with_reducible refine Kd.C_drew ?_))) : P := h
theorem yq103 {P : Prop} (h : P := by repeat (first | exact (Kd.R_reads' HO109.out).2.2 | (with_reducible refine Kd.C_alloc ?_ _) | (with_reducible refine Kd.C_drewN ?_ _) | (with_reducible refine Kd.C_drew ?_))) : P := h
theorem yq104 {P : Prop} (h : P := by rw [hg]; exact Nat.ne_of_lt (qy (g := gb101) (o := .cells #[.slice none 0 0, .int .i64 0, .int .i64 0, .int .i64 0] 32 (0, 0)) yq89)) : P := h
theorem yq105 {P : Prop} (h : P := by rw [hg]; exact Nat.ne_of_gt (qy (g := gb101) (o := .cells #[.slice none 0 0, .int .i64 0, .int .i64 0, .int .i64 0] 32 (0, 0)) yq89)) : P := h
theorem yq106 {P : Prop} (h : P := by (with_reducible repeat (first | apply Kd.R_alloc | apply Kd.R_drewN | apply Kd.R_drew)); exact Kd.R_mono HO_105000.out (fun _ hk => ⟨hk.1.2, hk.2⟩)) : P := h
theorem yq107 {P : Prop} (h : P := by (with_reducible repeat (first | apply Kd.R_alloc | apply Kd.R_drewN | apply Kd.R_drew)); exact Kd.R_mono HO119.out (fun _ hk => ⟨hk.2, hk.1.2⟩)) : P := h
theorem yq108 {P : Prop} (h : P := by (with_reducible repeat (first | apply Kd.R_alloc | apply Kd.R_drewN | apply Kd.R_drew)); exact Kd.R_mono HO109.out (fun _ hk => ⟨hk.2, hk.1.2⟩)) : P := h
theorem yq109 {P : Prop} (h : P := by rw [hg]; exact (qa1 (w := w) (g := g) (row := none) yq88)) : P := h
theorem yq110 {P : Prop} (h : P := by repeat (first | (with_reducible first | exact HK.out | apply KeepBut.set_ | apply qk | apply qn | apply ql | refine qj ?_ GW101.out _) | exact HK.out)) : P := h
theorem yq111 {P : Prop} (h : P := by rw [hg]; exact Nat.ne_of_lt (qy (g := gb104) (o := .cells #[.slice Ao35 x105000_1.length co35, .int .i64 x105001_1, .int .i64 x105002_1, .int .i64 x105003_1] 32 (0, 0)) yq91)) : P := h
theorem yq112 {P : Prop} (h : P := by rw [hg]; exact Nat.ne_of_lt (qy (g := gb104) (o := .cells #[.slice Ao15 x105000_1.length co15, .int .i64 x105001_1, .int .i64 x105002_1, .int .i64 x105003_1] 32 (0, 0)) yq91)) : P := h
theorem yq113 {P : Prop} (h : P := by rw [hg]; exact Nat.ne_of_gt (qy (g := gb104) (o := .cells #[.slice Ao35 x105000_1.length co35, .int .i64 x105001_1, .int .i64 x105002_1, .int .i64 x105003_1] 32 (0, 0)) yq91)) : P := h
theorem yq114 {P : Prop} (h : P := by rw [hg]; exact Nat.ne_of_gt (qy (g := gb104) (o := .cells #[.slice Ao15 x105000_1.length co15, .int .i64 x105001_1, .int .i64 x105002_1, .int .i64 x105003_1] 32 (0, 0)) yq91)) : P := h
theorem yq115 {P : Prop} (h : P := by (try simp only [List.map_toArray, List.map_cons, List.map_nil]); first | done | rfl) : P := h
theorem yq116 {P : Prop} (h : P := by first | (go_simp; done) | (go_simp; rfl)) : P := h
theorem yq117 {P : Prop} (h : P := by repeat (first | (with_reducible first | exact HK.out | apply KeepBut.set_ | apply qk | apply qn | apply ql) | exact HK.out)) : P := h
def spec_l1Rd_version.l0 : Nat → Int → List Int → Int → List (S66) → Int → Int → Int → Option ((List (S66)) × Int × Int × Int × Int)
 | 0, _, _, _, _, _, _, _ => none
 | k + 1, x4, x1000, x1001, x105000, x105001, x105002, x105003 => if x4 > 0 then ((spec_l1Rd_edit.f k x1000 x1001 x105000 x105001 x105002 x105003).bind fun bt107 => ((spec_Apply.f k x105000 x105001 x105002 x105003 bt107.1 bt107.2.1 bt107.2.2.1 bt107.2.2.2.1 bt107.2.2.2.2.1).bind fun bt117 => (if bt117.2.2.2.2 = true then (spec_l1Rd_version.l0 k (wrap64 (x4 - 1)) x1000 bt107.2.2.2.2.2 bt117.1 bt117.2.1 bt117.2.2.1 bt117.2.2.2.1) else (spec_l1Rd_version.l0 k (wrap64 (x4 - 1)) x1000 bt107.2.2.2.2.2 x105000 x105001 x105002 x105003)))) else ((spec_l1Rd_once.f x1000 x1001 16).bind fun bt125 => (if bt125.1 = true then ((spec_l1Rd_meta.f k x1000 bt125.2).bind fun bt127 => (if x105000.length < 2513169434916 then (some ((x105000 ++ [(⟨bt127.1, bt127.2.1, bt127.2.2.1, bt127.2.2.2.1, bt127.2.2.2.2.1⟩ : S66)]), x105001, x105002, x105003, bt127.2.2.2.2.2)) else (none))) else (some (x105000, x105001, x105002, x105003, bt125.2))))
def spec_l1Rd_version.f (k : Nat) (s0_0 : List Int) (s0_1 : Int) : Option ((List (S66)) × Int × Int × Int × Int) := (spec_l1Rd_near.f k s0_0 s0_1 0 5).bind fun bt102 => ((spec_l1Rd_below.f s0_0 bt102.2 7).bind fun bt105 => (spec_l1Rd_version.l0 k bt105.1 s0_0 bt105.2 ([] : List (S66)) (wrap64 (1 + bt102.1)) 0 0))
def spec_l1Rd_version.T5 : Bool × List (List Nat × List Nat) := (true, [([], []), ([], []), ([], []), ([1, 2], [1, 2]), ([0, 3, 3], [0, 3]), ([4], [4]), ([5], [5]), ([5], [5]), ([], []), ([8, 6, 4, 0, 1, 2, 3, 4, 5, 6, 8], [6, 8]), ([7, 9, 0, 1, 2, 3, 4, 5, 6, 7, 8, 9], [7])])
def spec_l1Rd_version.B5 : List Nat := [0, 0, 0, 6, 15, 31, 63, 63, 0, 383, 1023]
theorem spec_l1Rd_version.tab5 : rtab .any (opsOf Try.f71 5) = spec_l1Rd_version.T5 := by kernel_rfl
theorem spec_l1Rd_version.bits5 : waitsOk spec_l1Rd_version.T5.2 spec_l1Rd_version.B5 = true := by kernel_rfl
def spec_l1Rd_version.T9 : Bool × List (List Nat × List Nat) := (true, [([], []), ([0], [0]), ([], []), ([2], [2]), ([3], [3]), ([1, 4, 3], [1, 4]), ([0, 1, 2, 3, 4, 5], []), ([6, 5, 5, 0, 1, 2, 3, 4, 5], [5, 6])])
def spec_l1Rd_version.B9 : List Nat := [0, 1, 0, 4, 12, 31, 63, 127]
theorem spec_l1Rd_version.tab9 : rtab .any (opsOf Try.f71 9) = spec_l1Rd_version.T9 := by kernel_rfl
theorem spec_l1Rd_version.bits9 : waitsOk spec_l1Rd_version.T9.2 spec_l1Rd_version.B9 = true := by kernel_rfl
set_option maxHeartbeats 8000000 in
set_option maxRecDepth 100000 in
theorem spec_l1Rd_version.calls (k : Nat) (g : Nat) (s0_0 : List Int) (s0_1 : Int) (r1 : List (S66)) (r2 : Int) (r3 : Int) (r4 : Int) (r5 : Int) (w0 w : World) (hI : IsS123 w0 w g s0_0 s0_1) (hB : Below w0.heap.size w0 w) (h : spec_l1Rd_version.f k s0_0 s0_1 = some (r1, r2, r3, r4, r5)) :
  Calls Try.prog 71 #[.pointer (some ⟨g, 0, none⟩)] w fun e w' => ∃ v0_ : Value, e = .returned (.agg #[v0_, .int .i64 r2, .int .i64 r3, .int .i64 r4]) ∧ Kd.R k66 66 w' w.heap.size (fun _ => True) v0_ r1 ∧ IsS123 w0 w' g s0_0 r5 ∧ Below w0.heap.size w0 w' ∧ KeepBut w w' g none := by
 have hu32 := Try.underlying32
 have HI0 := Qz.mk hI
 have HK := Qz.mk (KeepBut.refl w g none)
 have HL := Qz.mk hB.size
 clear hI
 have HW0 := Qz.mk hB.size
 have HB := Qz.mk hB
 clear hB
 have H : ((spec_l1Rd_near.f k s0_0 s0_1 0 5).bind fun bt102 => ((spec_l1Rd_below.f s0_0 bt102.2 7).bind fun bt105 => (spec_l1Rd_version.l0 k bt105.1 s0_0 bt105.2 ([] : List (S66)) (wrap64 (1 + bt102.1)) 0 0))) = some (r1, r2, r3, r4, r5) := h
 clear h
 replace H := Option.bind_eq_some_iff.mp H
 obtain ⟨⟨t102, t103⟩, A20, H⟩ := H
 replace H : ((spec_l1Rd_below.f s0_0 t103 7).bind fun bt105 => (spec_l1Rd_version.l0 k bt105.1 s0_0 bt105.2 ([] : List (S66)) (wrap64 (1 + t102)) 0 0)) = some (r1, r2, r3, r4, r5) := H
 have A2 := Qz.mk A20
 clear A20
 replace H := Option.bind_eq_some_iff.mp H
 obtain ⟨⟨t105, t106⟩, A30, H⟩ := H
 replace H : (spec_l1Rd_version.l0 k t105 s0_0 t106 ([] : List (S66)) (wrap64 (1 + t102)) 0 0) = some (r1, r2, r3, r4, r5) := H
 have A3 := Qz.mk A30
 clear A30
 have H' := Qz.mk H
 clear H
 go_enter Try.func71, Try.ntmps71
 go_wp2_with (first | ((with_reducible refine gate_dst (N := 2) rfl ?_); refine box_event ?hg (N := 2) ?hd (cs := #[.slice none 0 0, .int .i64 0, .int .i64 0, .int .i64 0]) (t := 32) ?hr ?_; (case hd => rfl); (case hg => rfl); (case hr => exact yq116); intro gb101 hg w4 hbox hb; replace HB := Qz.mk (qp (by repeat (first | (with_reducible first | exact HB.out | apply qi | apply qg | apply qh | refine qf ?_ (IsS123.ge HI0.out)) | exact HB.out)) hb); have BK101 := Qz.mk (hbox); have GW101 := Qz.mk ((by rw [hg]; exact (qa1 (w := w) (g := g) (row := none) yq117) : w.heap.size ≤ gb101)); have GE101 := Qz.mk ((Nat.le_trans HW0.out (by rw [hg]; exact (qa1 (w := w) (g := g) (row := none) yq117) : w.heap.size ≤ gb101) : w0.heap.size ≤ gb101)); replace HK := Qz.mk (KeepBut.trans yq117 (KeepBut.of_below hb g none) (.inl rfl)); have NB0_101 := Qz.mk ((by rw [hg]; exact Nat.ne_of_lt (IsS123.lt (show IsS123 w0 _ g s0_0 s0_1 from by repeat (first | (with_reducible first | exact HI0.out | apply IsS123.alloc | apply IsS123.drewN | apply IsS123.drew | apply IsS123.set_1) | exact HI0.out))) : g ≠ gb101)); have NB101_0 := Qz.mk ((by rw [hg]; exact Nat.ne_of_gt (IsS123.lt (show IsS123 w0 _ g s0_0 s0_1 from by repeat (first | (with_reducible first | exact HI0.out | apply IsS123.alloc | apply IsS123.drewN | apply IsS123.drew | apply IsS123.set_1) | exact HI0.out))) : gb101 ≠ g)); replace HI0 := Qz.mk (IsS123.below (by repeat (first | (with_reducible first | exact HI0.out | apply IsS123.alloc | apply IsS123.drewN | apply IsS123.drew | apply IsS123.set_1) | exact HI0.out)) hb); clear hb hbox hg) | ((with_reducible refine qr (f := 102) rfl ?_); refine goesL_ (some 8) rfl rfl Try.func102 (by kernel_rfl) rfl #[.pointer (some ⟨g, 0, none⟩), .int .i64 0, .int .i64 5] rfl yq115 ?_; (with_reducible refine (spec_l1Rd_near.calls k g s0_0 s0_1 0 5 t102 t103 w0 _ ?side1 ?side2 A2.out).mono ?_); (case side1 => repeat (first | (with_reducible first | exact HI0.out | apply IsS123.alloc | apply IsS123.drewN | apply IsS123.drew | apply IsS123.set_1 | apply (fun h_ => IsS123.far h_ NB0_101.out _)) | exact HI0.out)); (case side2 => repeat (first | (with_reducible first | exact HB.out | apply qi | apply qg | apply qh | refine qf ?_ (IsS123.ge HI0.out) | refine qf ?_ GE101.out) | exact HB.out)); rintro e w5 ⟨rfl, hi, hb, hk⟩; refine ⟨_, rfl, ?_⟩; replace BK101 := Qz.mk (KeepBut.blk hk (g' := gb101) (o := .cells #[.slice none 0 0, .int .i64 0, .int .i64 0, .int .i64 0] 32 (0, 0)) yq89 NB101_0.out (by simp)); replace HK := Qz.mk (KeepBut.trans yq110 hk (.inl rfl)); replace HB := Qz.mk (hb); replace HI0 := Qz.mk (hi); (try clear hb); (try clear hk); (try clear hi)) | ((with_reducible refine gate_dst (N := 3) rfl ?_); refine box_event ?hg (N := 3) ?hd (cs := #[.slice none 0 0, .int .i64 0, .int .i64 0, .int .i64 0]) (t := 32) ?hr ?_; (case hd => rfl); (case hg => rfl); (case hr => exact yq116); intro gb104 hg w6 hbox hb; replace HB := Qz.mk (qp (by repeat (first | (with_reducible first | exact HB.out | apply qi | apply qg | apply qh | refine qf ?_ (IsS123.ge HI0.out) | refine qf ?_ GE101.out) | exact HB.out)) hb); have BK104 := Qz.mk (hbox); have GW104 := Qz.mk ((by rw [hg]; exact (qa1 (w := w) (g := g) (row := none) yq110) : w.heap.size ≤ gb104)); have GE104 := Qz.mk ((Nat.le_trans HW0.out (by rw [hg]; exact (qa1 (w := w) (g := g) (row := none) yq110) : w.heap.size ≤ gb104) : w0.heap.size ≤ gb104)); replace HK := Qz.mk (KeepBut.trans yq110 (KeepBut.of_below hb g none) (.inl rfl)); have NB101_104 := Qz.mk ((yq104 : gb101 ≠ gb104)); have NB104_101 := Qz.mk ((yq105 : gb104 ≠ gb101)); replace BK101 := Qz.mk (qo (g := gb101) (o := .cells #[.slice none 0 0, .int .i64 0, .int .i64 0, .int .i64 0] 32 (0, 0)) yq89 hb); have NB0_104 := Qz.mk ((by rw [hg]; exact Nat.ne_of_lt (IsS123.lt (show IsS123 w0 _ g s0_0 t103 from by repeat (first | (with_reducible first | exact HI0.out | apply IsS123.alloc | apply IsS123.drewN | apply IsS123.drew | apply IsS123.set_1 | apply (fun h_ => IsS123.far h_ NB0_101.out _)) | exact HI0.out))) : g ≠ gb104)); have NB104_0 := Qz.mk ((by rw [hg]; exact Nat.ne_of_gt (IsS123.lt (show IsS123 w0 _ g s0_0 t103 from by repeat (first | (with_reducible first | exact HI0.out | apply IsS123.alloc | apply IsS123.drewN | apply IsS123.drew | apply IsS123.set_1 | apply (fun h_ => IsS123.far h_ NB0_101.out _)) | exact HI0.out))) : gb104 ≠ g)); replace HI0 := Qz.mk (IsS123.below (by repeat (first | (with_reducible first | exact HI0.out | apply IsS123.alloc | apply IsS123.drewN | apply IsS123.drew | apply IsS123.set_1 | apply (fun h_ => IsS123.far h_ NB0_101.out _)) | exact HI0.out)) hb); clear hb hbox hg; have hnb7 := NB104_101.out; have hnc7 := NB101_104.out; have hnb8 := NB104_0.out; have hnc8 := NB0_104.out; have hcz9_0 := (qd BK104.out 0).trans rfl; have hcz9_1 := (qd BK104.out 1).trans rfl; have hcz9_2 := (qd BK104.out 2).trans rfl; have hcz9_3 := (qd BK104.out 3).trans rfl; have hfz9_0 := qe BK104.out 0; have hfz9_1 := qe BK104.out 1; have hfz9_2 := qe BK104.out 2; have hfz9_3 := qe BK104.out 3) | ((with_reducible refine qr (f := 80) rfl ?_); refine goesL_ (some 12) rfl rfl Try.func80 (by kernel_rfl) rfl #[.pointer (some ⟨g, 0, none⟩), .int .i64 7] rfl yq115 ?_; (with_reducible refine (spec_l1Rd_below.calls g s0_0 t103 7 t105 t106 w0 _ ?side1 ?side2 A3.out).mono ?_); (case side1 => exact yq93); (case side2 => exact yq95); rintro e w10 ⟨rfl, hi, hb, hk⟩; refine ⟨_, rfl, ?_⟩; replace BK101 := Qz.mk (KeepBut.blk hk (g' := gb101) (o := .cells #[.slice none 0 0, .int .i64 0, .int .i64 0, .int .i64 0] 32 (0, 0)) (by (with_reducible repeat (first | refine qb ?_ _ | refine qc ?_ | refine qa ?_ _)); refine qq ?_ NB101_104.out _; (with_reducible repeat (first | refine qb ?_ _ | refine qc ?_ | refine qa ?_ _)); refine qq ?_ NB101_104.out _; (with_reducible repeat (first | refine qb ?_ _ | refine qc ?_ | refine qa ?_ _)); refine qq ?_ NB101_104.out _; (with_reducible repeat (first | refine qb ?_ _ | refine qc ?_ | refine qa ?_ _)); refine qq ?_ NB101_104.out _; (with_reducible repeat (first | refine qb ?_ _ | refine qc ?_ | refine qa ?_ _)); exact BK101.out) NB101_0.out (by simp)); replace BK104 := Qz.mk (KeepBut.blk hk (g' := gb104) (o := .cells #[.slice none 0 0, .int .i64 (wrap64 (1 + t102)), .int .i64 0, .int .i64 0] 32 (0, 0)) (by (with_reducible repeat (first | refine qb ?_ _ | refine qc ?_ | refine qa ?_ _)); refine qt (cs := #[.slice none 0 0, .int .i64 (wrap64 (1 + t102)), .int .i64 0, .int .i64 0]) ?_ 3 _ rfl; (with_reducible repeat (first | refine qb ?_ _ | refine qc ?_ | refine qa ?_ _)); refine qt (cs := #[.slice none 0 0, .int .i64 (wrap64 (1 + t102)), .int .i64 0, .int .i64 0]) ?_ 2 _ rfl; (with_reducible repeat (first | refine qb ?_ _ | refine qc ?_ | refine qa ?_ _)); refine qt (cs := #[.slice none 0 0, .int .i64 0, .int .i64 0, .int .i64 0]) ?_ 1 _ rfl; (with_reducible repeat (first | refine qb ?_ _ | refine qc ?_ | refine qa ?_ _)); refine qt (cs := #[.slice none 0 0, .int .i64 0, .int .i64 0, .int .i64 0]) ?_ 0 _ rfl; (with_reducible repeat (first | refine qb ?_ _ | refine qc ?_ | refine qa ?_ _)); exact BK104.out) NB104_0.out (by simp)); replace HK := Qz.mk (KeepBut.trans yq88 hk (.inl rfl)); replace HB := Qz.mk (hb); replace HI0 := Qz.mk (hi); (try clear hb); (try clear hk); (try clear hi)))
 go_loopg [4] k (fun kq v4 w' => ∃ (x4_1 : Int) (x1001_1 : Int) (x105000_1 : List (S66)) (x105001_1 : Int) (x105002_1 : Int) (x105003_1 : Int) (u105000 : Value), v4 = .int .i64 x4_1 ∧ Qz (spec_l1Rd_version.l0 kq x4_1 s0_0 x1001_1 x105000_1 x105001_1 x105002_1 x105003_1 = some (r1, r2, r3, r4, r5)) ∧ Qz (kq ≤ k) ∧ Qz (Kd.R k66 66 w' w.heap.size (fun _ => True) u105000 x105000_1) ∧ Qz (w'.heap[gb101]? = some (.cells #[(.slice none 0 0), .int .i64 0, .int .i64 0, .int .i64 0] 32 (0, 0))) ∧ Qz (w'.heap[gb104]? = some (.cells #[u105000, .int .i64 x105001_1, .int .i64 x105002_1, .int .i64 x105003_1] 32 (0, 0))) ∧ Qz (IsS123 w0 w' g s0_0 x1001_1) ∧ Qz (KeepBut w w' g none) ∧ Qz (Below w0.heap.size w0 w'))
 case atStart => exact ⟨(t105), (t106), (([] : List (S66))), (wrap64 (1 + t102)), (0), (0), (.slice none 0 0), (by first | rfl | (simp; done) | (simp [*]; done)), H', ⟨Nat.le_refl _⟩, ⟨by first | exact Kd.R_nil _ _ _ _ _ | exact Kd.N_nil _ _ _ _ _ | exact Kd.V_nil _ _ _ _ _ | exact Kd.Q_nil _ _ _ _ _ | exact Kd.S_nil _ _ _ _ _⟩, ⟨by (with_reducible repeat (first | refine qb ?_ _ | refine qc ?_ | refine qa ?_ _)); exact BK101.out⟩, ⟨by (with_reducible repeat (first | refine qb ?_ _ | refine qc ?_ | refine qa ?_ _)); exact BK104.out⟩, ⟨by repeat (first | (with_reducible first | exact HI0.out | apply IsS123.alloc | apply IsS123.drewN | apply IsS123.drew | apply IsS123.set_1 | apply (fun h_ => IsS123.far h_ NB0_101.out _) | apply (fun h_ => IsS123.far h_ NB0_104.out _)) | exact HI0.out)⟩, ⟨by repeat (first | (with_reducible first | exact HK.out | apply KeepBut.set_ | apply qk | apply qn | apply ql | refine qj ?_ GW101.out _ | refine qj ?_ GW104.out _) | exact HK.out)⟩, ⟨by repeat (first | (with_reducible first | exact HB.out | apply qi | apply qg | apply qh | refine qf ?_ (IsS123.ge HI0.out) | refine qf ?_ GE101.out | refine qf ?_ GE104.out) | exact HB.out)⟩⟩
 case round =>
  clear H'
  (try clear c1);(try clear p2);(try clear p6);(try clear c7);(try clear c8);(try clear c10);(try clear hcz9_0);(try clear hcz9_1);(try clear hcz9_2);(try clear hcz9_3);(try clear hfz9_0);(try clear hfz9_1);(try clear hfz9_2);(try clear hfz9_3)
  obtain ⟨x4_1, x1001_1, x105000_1, x105001_1, x105002_1, x105003_1, u105000, rfl, HA, HK1, HO_105000, BK101, BK104, HI0, HK, HB⟩ := hrel
  cases gk with
  | zero => exact absurd HA.out (by simp [spec_l1Rd_version.l0])
  | succ k1 =>
   have H := HA.out
   clear HA
   simp only [spec_l1Rd_version.l0] at H
   by_cases c11 : x4_1 > 0
   ·rw [if_pos c11] at H
    have c11b0 : decide (0 < x4_1) = true := decide_eq_true c11
    clear c11
    replace H := Option.bind_eq_some_iff.mp H
    obtain ⟨⟨t107, t110, t113, t114, t115, t116⟩, A120, H⟩ := H
    replace H : ((spec_Apply.f k1 x105000_1 x105001_1 x105002_1 x105003_1 t107 t110 t113 t114 t115).bind fun bt117 => (if bt117.2.2.2.2 = true then (spec_l1Rd_version.l0 k1 (wrap64 (x4_1 - 1)) s0_0 t116 bt117.1 bt117.2.1 bt117.2.2.1 bt117.2.2.2.1) else (spec_l1Rd_version.l0 k1 (wrap64 (x4_1 - 1)) s0_0 t116 x105000_1 x105001_1 x105002_1 x105003_1))) = some (r1, r2, r3, r4, r5) := H
    have A12 := Qz.mk A120
    clear A120
    replace H := Option.bind_eq_some_iff.mp H
    obtain ⟨⟨t117, t120, t121, t122, t123⟩, A130, H⟩ := H
    replace H : (if t123 = true then (spec_l1Rd_version.l0 k1 (wrap64 (x4_1 - 1)) s0_0 t116 t117 t120 t121 t122) else (spec_l1Rd_version.l0 k1 (wrap64 (x4_1 - 1)) s0_0 t116 x105000_1 x105001_1 x105002_1 x105003_1)) = some (r1, r2, r3, r4, r5) := H
    have A13 := Qz.mk A130
    clear A130
    by_cases c14 : t123 = true
    ·subst c14
     have H1 : (spec_l1Rd_version.l0 k1 (wrap64 (x4_1 - 1)) s0_0 t116 t117 t120 t121 t122) = some (r1, r2, r3, r4, r5) := by rw [if_pos rfl] at H; exact H
     clear H
     have H := H1
     clear H1
     have H' := Qz.mk H
     clear H
     obtain ⟨Ao15, co15, eo15⟩ := Kd.R_slice HO_105000.out
     subst eo15
     try go_wp2
     replace HO_105000 := Qz.mk (Kd.R_drew HO_105000.out)
     replace BK101 := Qz.mk (qc BK101.out)
     replace BK104 := Qz.mk (qc BK104.out)
     replace HI0 := Qz.mk (IsS123.drew HI0.out)
     replace HK := Qz.mk (qn HK.out)
     replace HB := Qz.mk (qh HB.out)
     refine start_ (n := 11) (S := fun w' => w'.cell? ⟨gb104, 0, none⟩ = some (.slice Ao15 x105000_1.length co15) ∧ w'.cell? ⟨gb104, 1, none⟩ = some (.int .i64 x105001_1) ∧ w'.cell? ⟨gb104, 2, none⟩ = some (.int .i64 x105002_1) ∧ w'.cell? ⟨gb104, 3, none⟩ = some (.int .i64 x105003_1)) (ds := []) bq2 (by kernel_rfl) rfl rfl ⟨(qd BK104.out 0).trans rfl, (qd BK104.out 1).trans rfl, (qd BK104.out 2).trans rfl, (qd BK104.out 3).trans rfl⟩ (fun hHeld => ?_); refine with_tabW spec_l1Rd_version.tab5 spec_l1Rd_version.bits5 (fun HT_ HW_ => ?_)
     generalize wr.drew = w16 at HO_105000 BK101 BK104 HI0 HK HB hHeld ⊢
     refine pure_ (i := 1) (N := some 19) (v := ?_) (a' := ?_) bq4 rfl rfl (qz HT_.out (by kernel_rfl)) (fun _ _ _ h => h) (Or.inl ⟨by rfl, ?_⟩) ?_ ?_
     rotate_left
     ·intro w'
      go_simp
      with_reducible rfl
     rotate_left
     ·simp only [Act.put, sq1, sq2, sq3, i64_w, i32_w]
      rfl
     refine take_ (i := 0) (N := some 18) (v := ?_) (a' := ?_) bq11 rfl rfl (take_ofW HT_.out HW_.out (by kernel_rfl)) (fun _ _ _ h => h) (Or.inl ⟨by rfl, ?_⟩) hHeld ?_ ?_
     rotate_left
     ·rintro w' ⟨s0, s1, s2, s3⟩
      go_simp
      with_reducible rfl
     rotate_left
     ·simp only [Act.put, sq1, sq2, sq3, i64_w, i32_w]
      rfl
     refine take_ (i := 2) (N := some 20) (v := ?_) (a' := ?_) bq14 rfl rfl (take_ofW HT_.out HW_.out (by kernel_rfl)) (fun _ _ _ h => h) (Or.inl ⟨by rfl, ?_⟩) hHeld ?_ ?_
     rotate_left
     ·rintro w' ⟨s0, s1, s2, s3⟩
      go_simp
      with_reducible rfl
     rotate_left
     ·simp only [Act.put, sq1, sq2, sq3, i64_w, i32_w]
      rfl
     refine join_ (σ := Value × Value × Value × Nat) 2 bq43 (fun s_ => [(21, .agg #[s_.1, s_.2.1, .int .i64 t113, .int .i64 t114, .int .i64 t115]), (22, .tuple #[.agg #[s_.2.2.1, .int .i64 t120, .int .i64 t121, .int .i64 t122], .bool true]), (5, .pointer (some ⟨s_.2.2.2, 0, none⟩)), (17, .tuple #[.agg #[s_.2.2.1, .int .i64 t120, .int .i64 t121, .int .i64 t122], .bool true]), (23, .agg #[s_.2.2.1, .int .i64 t120, .int .i64 t121, .int .i64 t122]), (24, .bool true)]) (fun s_ w' => (w'.cell? ⟨gb104, 0, none⟩ = some (.slice Ao15 x105000_1.length co15) ∧ w'.cell? ⟨gb104, 1, none⟩ = some (.int .i64 x105001_1) ∧ w'.cell? ⟨gb104, 2, none⟩ = some (.int .i64 x105002_1) ∧ w'.cell? ⟨gb104, 3, none⟩ = some (.int .i64 x105003_1)) ∧ (Kd.R k66 66 w' w.heap.size (fun k_ => some k_ ≠ (s_.2.2.1 : Value).ownBlock ∧ some k_ ≠ (.slice Ao15 x105000_1.length co15 : Value).ownBlock) s_.1 t107) ∧ (Kd.R (Kd.int .i64) 2 w' w.heap.size (fun _ => True) s_.2.1 t110) ∧ (Kd.R k66 66 w' w.heap.size (fun k_ => some k_ ≠ (s_.1 : Value).ownBlock ∧ some k_ ≠ (.slice Ao15 x105000_1.length co15 : Value).ownBlock) s_.2.2.1 t117) ∧ (Kd.R k66 66 w' w.heap.size (fun k_ => some k_ ≠ (s_.1 : Value).ownBlock ∧ some k_ ≠ (s_.2.2.1 : Value).ownBlock) (.slice Ao15 x105000_1.length co15) x105000_1) ∧ (w'.heap[gb101]? = some (.cells #[.slice none 0 0, .int .i64 0, .int .i64 0, .int .i64 0] 32 (0, 0))) ∧ (w'.heap[gb104]? = some (.cells #[.slice Ao15 x105000_1.length co15, .int .i64 x105001_1, .int .i64 x105002_1, .int .i64 x105003_1] 32 (0, 0))) ∧ (w'.heap[s_.2.2.2]? = some (.cells #[.slice none 0 0, .int .i64 0, .int .i64 0, .int .i64 0] 32 (0, 0))) ∧ (w.heap.size ≤ s_.2.2.2) ∧ (w0.heap.size ≤ s_.2.2.2) ∧ (g ≠ s_.2.2.2) ∧ (s_.2.2.2 ≠ g) ∧ (gb101 ≠ s_.2.2.2) ∧ (s_.2.2.2 ≠ gb101) ∧ (gb104 ≠ s_.2.2.2) ∧ (s_.2.2.2 ≠ gb104) ∧ (IsS123 w0 w' g s0_0 t116) ∧ (KeepBut w w' g none) ∧ (Below w0.heap.size w0 w')) ?_ ?_
     rotate_left
     ·intro hCont
      refine two_ (i := 3) (j := 8) (Ni := some 21) (Nj := some 5) bq18 bq15 rfl rfl rfl rfl (two_of HT_.out (by kernel_rfl)) (by decide) (by decide) (fun K hK => ?_) (fun K hK => ?_)
      ·skip
       refine goes_ Try.func88 (by kernel_rfl) rfl #[.pointer (some ⟨g, 0, none⟩), .agg #[.slice Ao15 x105000_1.length co15, .int .i64 x105001_1, .int .i64 x105002_1, .int .i64 x105003_1]] (by rfl) rfl rfl yq97 ?_
       with_reducible refine (spec_l1Rd_edit.calls k1 g s0_0 x1001_1 _ _ x105000_1 x105001_1 x105002_1 x105003_1 t107 t110 t113 t114 t115 t116 w0 _ ?side1 ?side2 ?side3 ?side4 A12.out).mono ?_
       (case side1 => exact yq93)
       (case side2 => exact yq95)
       (case side3 => exact Kd.C_foot_own (IsS123.apart (show IsS123 w0 _ g s0_0 x1001_1 from by repeat (first | (with_reducible first | exact HI0.out | apply IsS123.alloc | apply IsS123.drewN | apply IsS123.drew | apply IsS123.set_1 | apply (fun h_ => IsS123.far h_ NB0_101.out _) | apply (fun h_ => IsS123.far h_ NB0_104.out _)) | exact HI0.out)) yq92 (by decide)) (fun _ h_ => h_.2))
       (case side4 => exact (Kd.R_reads' HO_105000.out).2.1)
       rintro e w17 ⟨v108, v111, rfl, ho0, ho1, hi, hb, hk⟩
       refine ⟨_, rfl, ?_⟩
       replace BK101 := Qz.mk (KeepBut.blk hk (g' := gb101) (o := .cells #[.slice none 0 0, .int .i64 0, .int .i64 0, .int .i64 0] 32 (0, 0)) yq89 NB101_0.out (by simp))
       replace BK104 := Qz.mk (KeepBut.blk hk (g' := gb104) (o := .cells #[.slice Ao15 x105000_1.length co15, .int .i64 x105001_1, .int .i64 x105002_1, .int .i64 x105003_1] 32 (0, 0)) yq91 NB104_0.out (by simp))
       have HO109 := Qz.mk (Kd.R_lower (Kd.R_new' ho0 (Kd.R_lt yq92)) (qa1 (w := w) (g := g) (row := none) yq88))
       replace HO_105000 := Qz.mk (Kd.R_mono (Kd.R_told (Kd.R_oldK (IsS123.apart (show IsS123 w0 _ g s0_0 x1001_1 from by repeat (first | (with_reducible first | exact HI0.out | apply IsS123.alloc | apply IsS123.drewN | apply IsS123.drew | apply IsS123.set_1 | apply (fun h_ => IsS123.far h_ NB0_101.out _) | apply (fun h_ => IsS123.far h_ NB0_104.out _)) | exact HI0.out)) yq92 (by decide)) hk) (Kd.R_base ho0)) (fun _ h_ => h_.1))
       have HO112 := Qz.mk (Kd.R_lower ho1 (qa1 (w := w) (g := g) (row := none) yq88))
       replace HK := Qz.mk (KeepBut.trans yq88 hk (.inl rfl))
       replace HB := Qz.mk (hb)
       replace HI0 := Qz.mk (hi)
       (try clear hb)
       (try clear hk)
       (try clear hi)
       (try clear ho0)
       (try clear ho1)
       obtain ⟨Ao18, co18, eo18⟩ := Kd.R_slice HO109.out
       (first | subst eo18 | (injection eo18 with f1_ f2_ f3_; have f4_ := f1_.symm; have f5_ := f3_.symm; clear f1_ f2_ f3_; subst f4_; subst f5_))
       obtain ⟨Ao19, co19, eo19⟩ := Kd.R_slice HO112.out
       (first | subst eo19 | (injection eo19 with f1_ f2_ f3_; have f4_ := f1_.symm; have f5_ := f3_.symm; clear f1_ f2_ f3_; subst f4_; subst f5_))
       refine hK.out _ _ ⟨(qd BK104.out 0).trans rfl, (qd BK104.out 1).trans rfl, (qd BK104.out 2).trans rfl, (qd BK104.out 3).trans rfl⟩ (fun hHeld => ?_)
       clear hK K
       refine norm_ (a' := ?_) ?_ ?_
       rotate_left
       ·show Act.put _ (some 21) _ = _
        simp only [Act.put, sq1, sq2, sq3, i64_w, i32_w]
        rfl
       refine two_ (i := 4) (j := 8) (Ni := some 22) (Nj := some 5) bq22 bq19 rfl rfl rfl rfl (two_of HT_.out (by kernel_rfl)) (by decide) (by decide) (fun K hK => ?_) (fun K hK => ?_)
       ·skip
        refine goes_ Try.func17 (by kernel_rfl) rfl #[.agg #[.slice Ao15 x105000_1.length co15, .int .i64 x105001_1, .int .i64 x105002_1, .int .i64 x105003_1], .agg #[.slice Ao18 t107.length co18, .slice Ao19 t110.length co19, .int .i64 t113, .int .i64 t114, .int .i64 t115]] (by rfl) rfl rfl yq97 ?_
        with_reducible refine (spec_Apply.calls k1 _ _ x105000_1 x105001_1 x105002_1 x105003_1 _ _ t107 _ _ t110 t113 t114 t115 t117 t120 t121 t122 true _ ?side1 ?side2 ?side3 ?side4 ?side5 ?side6 A13.out).mono ?_
        (case side1 => exact yq101)
        (case side2 => exact (Kd.R_reads' HO_105000.out).2.1)
        (case side3 => exact yq103)
        (case side4 => exact (Kd.R_reads' HO109.out).2.1)
        (case side5 => exact yq102)
        (case side6 => exact (Kd.R_reads' HO112.out).2.1)
        rintro e w20 ⟨v118, rfl, ho0, hb⟩
        refine ⟨_, rfl, ?_⟩
        replace HO112 := Qz.mk (Kd.R_below yq98 hb)
        have HO119 := Qz.mk (Kd.R_lower (Kd.R_new' (Kd.R_new' ho0 (Kd.R_lt yq92)) (Kd.R_lt yq99)) (qa1 (w := w) (g := g) (row := none) yq88))
        replace HO_105000 := Qz.mk (Kd.R_elder' yq92 (Kd.R_base ho0) hb)
        replace HO109 := Qz.mk (Kd.R_elder' yq99 (Kd.R_base ho0) hb)
        replace BK101 := Qz.mk (qo (g := gb101) (o := .cells #[.slice none 0 0, .int .i64 0, .int .i64 0, .int .i64 0] 32 (0, 0)) yq89 hb)
        replace BK104 := Qz.mk (qo (g := gb104) (o := .cells #[.slice Ao15 x105000_1.length co15, .int .i64 x105001_1, .int .i64 x105002_1, .int .i64 x105003_1] 32 (0, 0)) yq91 hb)
        replace HK := Qz.mk (KeepBut.trans yq88 (KeepBut.of_below hb g none) (.inl rfl))
        replace HB := Qz.mk (qp yq95 hb)
        replace HI0 := Qz.mk (IsS123.below yq93 hb)
        (try clear hb)
        (try clear hk)
        (try clear hi)
        (try clear ho0)
        refine hK.out _ _ ⟨(qd BK104.out 0).trans rfl, (qd BK104.out 1).trans rfl, (qd BK104.out 2).trans rfl, (qd BK104.out 3).trans rfl⟩ (fun hHeld => ?_)
        clear hK K
        refine norm_ (a' := ?_) ?_ ?_
        rotate_left
        ·show Act.put _ (some 22) _ = _
         simp only [Act.put, sq1, sq2, sq3, i64_w, i32_w]
         rfl
        refine pure_ (i := 5) (N := some 17) (v := ?_) (a' := ?_) bq27 rfl rfl (qz HT_.out (by kernel_rfl)) (fun _ _ _ h => h) (Or.inl ⟨by rfl, ?_⟩) ?_ ?_
        rotate_left
        ·intro w'
         go_simp
         with_reducible rfl
        rotate_left
        ·simp only [Act.put, sq1, sq2, sq3, i64_w, i32_w]
         rfl
        refine pure_ (i := 6) (N := some 23) (v := ?_) (a' := ?_) bq32 rfl rfl (qz HT_.out (by kernel_rfl)) (fun _ _ _ h => h) (Or.inl ⟨by rfl, ?_⟩) ?_ ?_
        rotate_left
        ·intro w'
         go_simp
         with_reducible rfl
        rotate_left
        ·simp only [Act.put, sq1, sq2, sq3, i64_w, i32_w]
         rfl
        refine pure_ (i := 7) (N := some 24) (v := ?_) (a' := ?_) bq39 rfl rfl (qz HT_.out (by kernel_rfl)) (fun _ _ _ h => h) (Or.inl ⟨by rfl, ?_⟩) ?_ ?_
        rotate_left
        ·intro w'
         go_simp
         with_reducible rfl
        rotate_left
        ·simp only [Act.put, sq1, sq2, sq3, i64_w, i32_w]
         rfl
        refine one_ (i := 8) (N := some 5) bq43 rfl rfl (one_of HT_.out (by kernel_rfl)) (by decide) (fun K hK => ?_)
        refine box_step ?hg (N := 5) ?hd (cs := #[.slice none 0 0, .int .i64 0, .int .i64 0, .int .i64 0]) (t := 32) ?hr ?_; (case hd => rfl); (case hg => rfl); (case hr => exact yq116)
        intro gb124 hg w21 hbox hb
        replace HO_105000 := Qz.mk (Kd.R_below yq92 hb)
        replace HO109 := Qz.mk (Kd.R_below yq99 hb)
        replace HO112 := Qz.mk (Kd.R_below yq98 hb)
        replace HO119 := Qz.mk (Kd.R_below (by (with_reducible repeat (first | apply Kd.R_alloc | apply Kd.R_drewN | apply Kd.R_drew)); exact HO119.out) hb)
        replace HB := Qz.mk (qp yq95 hb)
        have BK124 := Qz.mk (hbox)
        have GW124 := Qz.mk ((yq109 : w.heap.size ≤ gb124))
        have GE124 := Qz.mk ((Nat.le_trans HW0.out (yq109 : w.heap.size ≤ gb124) : w0.heap.size ≤ gb124))
        replace HK := Qz.mk (KeepBut.trans yq88 (KeepBut.of_below hb g none) (.inl rfl))
        have NB101_124 := Qz.mk ((yq104 : gb101 ≠ gb124))
        have NB124_101 := Qz.mk ((yq105 : gb124 ≠ gb101))
        replace BK101 := Qz.mk (qo (g := gb101) (o := .cells #[.slice none 0 0, .int .i64 0, .int .i64 0, .int .i64 0] 32 (0, 0)) yq89 hb)
        have NB104_124 := Qz.mk ((yq112 : gb104 ≠ gb124))
        have NB124_104 := Qz.mk ((yq114 : gb124 ≠ gb104))
        replace BK104 := Qz.mk (qo (g := gb104) (o := .cells #[.slice Ao15 x105000_1.length co15, .int .i64 x105001_1, .int .i64 x105002_1, .int .i64 x105003_1] 32 (0, 0)) yq91 hb)
        have NB0_124 := Qz.mk ((by rw [hg]; exact Nat.ne_of_lt (IsS123.lt (show IsS123 w0 _ g s0_0 t116 from by repeat (first | (with_reducible first | exact HI0.out | apply IsS123.alloc | apply IsS123.drewN | apply IsS123.drew | apply IsS123.set_1 | apply (fun h_ => IsS123.far h_ NB0_101.out _) | apply (fun h_ => IsS123.far h_ NB0_104.out _)) | exact HI0.out))) : g ≠ gb124))
        have NB124_0 := Qz.mk ((by rw [hg]; exact Nat.ne_of_gt (IsS123.lt (show IsS123 w0 _ g s0_0 t116 from by repeat (first | (with_reducible first | exact HI0.out | apply IsS123.alloc | apply IsS123.drewN | apply IsS123.drew | apply IsS123.set_1 | apply (fun h_ => IsS123.far h_ NB0_101.out _) | apply (fun h_ => IsS123.far h_ NB0_104.out _)) | exact HI0.out))) : gb124 ≠ g))
        replace HI0 := Qz.mk (IsS123.below yq93 hb)
        clear hb hbox hg
        refine hK.out _ _ ⟨(qd BK104.out 0).trans rfl, (qd BK104.out 1).trans rfl, (qd BK104.out 2).trans rfl, (qd BK104.out 3).trans rfl⟩ (fun hHeld => ?_)
        clear hK K
        refine norm_ (a' := ?_) ?_ ?_
        rotate_left
        ·show Act.put _ (some 5) _ = _
         simp only [Act.put, sq1, sq2, sq3, i64_w, i32_w]
         rfl
        exact norm_ (by simp only [putAll, Act.put, sq1, sq2, sq3]) (hCont (.slice Ao18 t107.length co18, .slice Ao19 t110.length co19, v118, gb124) _ ⟨hHeld, yq108, yq98, yq107, yq106, yq89, yq91, yq100, GW124.out, GE124.out, NB0_124.out, NB124_0.out, NB101_124.out, NB124_101.out, NB104_124.out, NB124_104.out, yq94, yq90, yq96⟩)
       ·skip
        refine box_step ?hg (N := 5) ?hd (cs := #[.slice none 0 0, .int .i64 0, .int .i64 0, .int .i64 0]) (t := 32) ?hr ?_; (case hd => rfl); (case hg => rfl); (case hr => exact yq116)
        intro gb124 hg w18 hbox hb
        replace HO_105000 := Qz.mk (Kd.R_below yq92 hb)
        replace HO109 := Qz.mk (Kd.R_below yq99 hb)
        replace HO112 := Qz.mk (Kd.R_below yq98 hb)
        replace HB := Qz.mk (qp yq95 hb)
        have BK124 := Qz.mk (hbox)
        have GW124 := Qz.mk ((yq109 : w.heap.size ≤ gb124))
        have GE124 := Qz.mk ((Nat.le_trans HW0.out (yq109 : w.heap.size ≤ gb124) : w0.heap.size ≤ gb124))
        replace HK := Qz.mk (KeepBut.trans yq88 (KeepBut.of_below hb g none) (.inl rfl))
        have NB101_124 := Qz.mk ((yq104 : gb101 ≠ gb124))
        have NB124_101 := Qz.mk ((yq105 : gb124 ≠ gb101))
        replace BK101 := Qz.mk (qo (g := gb101) (o := .cells #[.slice none 0 0, .int .i64 0, .int .i64 0, .int .i64 0] 32 (0, 0)) yq89 hb)
        have NB104_124 := Qz.mk ((yq112 : gb104 ≠ gb124))
        have NB124_104 := Qz.mk ((yq114 : gb124 ≠ gb104))
        replace BK104 := Qz.mk (qo (g := gb104) (o := .cells #[.slice Ao15 x105000_1.length co15, .int .i64 x105001_1, .int .i64 x105002_1, .int .i64 x105003_1] 32 (0, 0)) yq91 hb)
        have NB0_124 := Qz.mk ((by rw [hg]; exact Nat.ne_of_lt (IsS123.lt (show IsS123 w0 _ g s0_0 t116 from by repeat (first | (with_reducible first | exact HI0.out | apply IsS123.alloc | apply IsS123.drewN | apply IsS123.drew | apply IsS123.set_1 | apply (fun h_ => IsS123.far h_ NB0_101.out _) | apply (fun h_ => IsS123.far h_ NB0_104.out _)) | exact HI0.out))) : g ≠ gb124))
        have NB124_0 := Qz.mk ((by rw [hg]; exact Nat.ne_of_gt (IsS123.lt (show IsS123 w0 _ g s0_0 t116 from by repeat (first | (with_reducible first | exact HI0.out | apply IsS123.alloc | apply IsS123.drewN | apply IsS123.drew | apply IsS123.set_1 | apply (fun h_ => IsS123.far h_ NB0_101.out _) | apply (fun h_ => IsS123.far h_ NB0_104.out _)) | exact HI0.out))) : gb124 ≠ g))
        replace HI0 := Qz.mk (IsS123.below yq93 hb)
        clear hb hbox hg
        obtain ⟨Ao19, co19, eo19⟩ := Kd.R_slice HO109.out
        (first | subst eo19 | (injection eo19 with f1_ f2_ f3_; have f4_ := f1_.symm; have f5_ := f3_.symm; clear f1_ f2_ f3_; subst f4_; subst f5_))
        obtain ⟨Ao20, co20, eo20⟩ := Kd.R_slice HO112.out
        (first | subst eo20 | (injection eo20 with f1_ f2_ f3_; have f4_ := f1_.symm; have f5_ := f3_.symm; clear f1_ f2_ f3_; subst f4_; subst f5_))
        refine hK.out _ _ ⟨(qd BK104.out 0).trans rfl, (qd BK104.out 1).trans rfl, (qd BK104.out 2).trans rfl, (qd BK104.out 3).trans rfl⟩ (fun hHeld => ?_)
        clear hK K
        refine norm_ (a' := ?_) ?_ ?_
        rotate_left
        ·show Act.put _ (some 5) _ = _
         simp only [Act.put, sq1, sq2, sq3, i64_w, i32_w]
         rfl
        refine one_ (i := 4) (N := some 22) bq23 rfl rfl (one_of HT_.out (by kernel_rfl)) (by decide) (fun K hK => ?_)
        refine goes_ Try.func17 (by kernel_rfl) rfl #[.agg #[.slice Ao15 x105000_1.length co15, .int .i64 x105001_1, .int .i64 x105002_1, .int .i64 x105003_1], .agg #[.slice Ao19 t107.length co19, .slice Ao20 t110.length co20, .int .i64 t113, .int .i64 t114, .int .i64 t115]] (by rfl) rfl rfl yq97 ?_
        with_reducible refine (spec_Apply.calls k1 _ _ x105000_1 x105001_1 x105002_1 x105003_1 _ _ t107 _ _ t110 t113 t114 t115 t117 t120 t121 t122 true _ ?side1 ?side2 ?side3 ?side4 ?side5 ?side6 A13.out).mono ?_
        (case side1 => exact yq101)
        (case side2 => exact (Kd.R_reads' HO_105000.out).2.1)
        (case side3 => exact yq103)
        (case side4 => exact (Kd.R_reads' HO109.out).2.1)
        (case side5 => exact yq102)
        (case side6 => exact (Kd.R_reads' HO112.out).2.1)
        rintro e w21 ⟨v118, rfl, ho0, hb⟩
        refine ⟨_, rfl, ?_⟩
        replace HO112 := Qz.mk (Kd.R_below yq98 hb)
        have HO119 := Qz.mk (Kd.R_lower (Kd.R_new' (Kd.R_new' ho0 (Kd.R_lt yq92)) (Kd.R_lt yq99)) (qa1 (w := w) (g := g) (row := none) yq90))
        replace HO_105000 := Qz.mk (Kd.R_elder' yq92 (Kd.R_base ho0) hb)
        replace HO109 := Qz.mk (Kd.R_elder' yq99 (Kd.R_base ho0) hb)
        replace BK101 := Qz.mk (qo (g := gb101) (o := .cells #[.slice none 0 0, .int .i64 0, .int .i64 0, .int .i64 0] 32 (0, 0)) yq89 hb)
        replace BK104 := Qz.mk (qo (g := gb104) (o := .cells #[.slice Ao15 x105000_1.length co15, .int .i64 x105001_1, .int .i64 x105002_1, .int .i64 x105003_1] 32 (0, 0)) yq91 hb)
        replace BK124 := Qz.mk (qo (g := gb124) (o := .cells #[.slice none 0 0, .int .i64 0, .int .i64 0, .int .i64 0] 32 (0, 0)) yq100 hb)
        replace HK := Qz.mk (KeepBut.trans yq90 (KeepBut.of_below hb g none) (.inl rfl))
        replace HB := Qz.mk (qp yq96 hb)
        replace HI0 := Qz.mk (IsS123.below yq94 hb)
        (try clear hb)
        (try clear hk)
        (try clear hi)
        (try clear ho0)
        refine hK.out _ _ ⟨(qd BK104.out 0).trans rfl, (qd BK104.out 1).trans rfl, (qd BK104.out 2).trans rfl, (qd BK104.out 3).trans rfl⟩ (fun hHeld => ?_)
        clear hK K
        refine norm_ (a' := ?_) ?_ ?_
        rotate_left
        ·show Act.put _ (some 22) _ = _
         simp only [Act.put, sq1, sq2, sq3, i64_w, i32_w]
         rfl
        refine pure_ (i := 5) (N := some 17) (v := ?_) (a' := ?_) bq28 rfl rfl (qz HT_.out (by kernel_rfl)) (fun _ _ _ h => h) (Or.inl ⟨by rfl, ?_⟩) ?_ ?_
        rotate_left
        ·intro w'
         go_simp
         with_reducible rfl
        rotate_left
        ·simp only [Act.put, sq1, sq2, sq3, i64_w, i32_w]
         rfl
        refine pure_ (i := 6) (N := some 23) (v := ?_) (a' := ?_) bq36 rfl rfl (qz HT_.out (by kernel_rfl)) (fun _ _ _ h => h) (Or.inl ⟨by rfl, ?_⟩) ?_ ?_
        rotate_left
        ·intro w'
         go_simp
         with_reducible rfl
        rotate_left
        ·simp only [Act.put, sq1, sq2, sq3, i64_w, i32_w]
         rfl
        refine pure_ (i := 7) (N := some 24) (v := ?_) (a' := ?_) bq43 rfl rfl (qz HT_.out (by kernel_rfl)) (fun _ _ _ h => h) (Or.inl ⟨by rfl, ?_⟩) ?_ ?_
        rotate_left
        ·intro w'
         go_simp
         with_reducible rfl
        rotate_left
        ·simp only [Act.put, sq1, sq2, sq3, i64_w, i32_w]
         rfl
        exact norm_ (by simp only [putAll, Act.put, sq1, sq2, sq3]) (hCont (.slice Ao19 t107.length co19, .slice Ao20 t110.length co20, v118, gb124) _ ⟨hHeld, yq108, yq98, yq107, yq106, yq89, yq91, yq100, GW124.out, GE124.out, NB0_124.out, NB124_0.out, NB101_124.out, NB124_101.out, NB104_124.out, NB124_104.out, yq94, yq90, yq96⟩)
      ·skip
       refine box_step ?hg (N := 5) ?hd (cs := #[.slice none 0 0, .int .i64 0, .int .i64 0, .int .i64 0]) (t := 32) ?hr ?_; (case hd => rfl); (case hg => rfl); (case hr => exact yq116)
       intro gb124 hg w17 hbox hb
       replace HO_105000 := Qz.mk (Kd.R_below yq92 hb)
       replace HB := Qz.mk (qp yq95 hb)
       have BK124 := Qz.mk (hbox)
       have GW124 := Qz.mk ((yq109 : w.heap.size ≤ gb124))
       have GE124 := Qz.mk ((Nat.le_trans HW0.out (yq109 : w.heap.size ≤ gb124) : w0.heap.size ≤ gb124))
       replace HK := Qz.mk (KeepBut.trans yq88 (KeepBut.of_below hb g none) (.inl rfl))
       have NB101_124 := Qz.mk ((yq104 : gb101 ≠ gb124))
       have NB124_101 := Qz.mk ((yq105 : gb124 ≠ gb101))
       replace BK101 := Qz.mk (qo (g := gb101) (o := .cells #[.slice none 0 0, .int .i64 0, .int .i64 0, .int .i64 0] 32 (0, 0)) yq89 hb)
       have NB104_124 := Qz.mk ((yq112 : gb104 ≠ gb124))
       have NB124_104 := Qz.mk ((yq114 : gb124 ≠ gb104))
       replace BK104 := Qz.mk (qo (g := gb104) (o := .cells #[.slice Ao15 x105000_1.length co15, .int .i64 x105001_1, .int .i64 x105002_1, .int .i64 x105003_1] 32 (0, 0)) yq91 hb)
       have NB0_124 := Qz.mk ((by rw [hg]; exact Nat.ne_of_lt (IsS123.lt (show IsS123 w0 _ g s0_0 x1001_1 from by repeat (first | (with_reducible first | exact HI0.out | apply IsS123.alloc | apply IsS123.drewN | apply IsS123.drew | apply IsS123.set_1 | apply (fun h_ => IsS123.far h_ NB0_101.out _) | apply (fun h_ => IsS123.far h_ NB0_104.out _)) | exact HI0.out))) : g ≠ gb124))
       have NB124_0 := Qz.mk ((by rw [hg]; exact Nat.ne_of_gt (IsS123.lt (show IsS123 w0 _ g s0_0 x1001_1 from by repeat (first | (with_reducible first | exact HI0.out | apply IsS123.alloc | apply IsS123.drewN | apply IsS123.drew | apply IsS123.set_1 | apply (fun h_ => IsS123.far h_ NB0_101.out _) | apply (fun h_ => IsS123.far h_ NB0_104.out _)) | exact HI0.out))) : gb124 ≠ g))
       replace HI0 := Qz.mk (IsS123.below yq93 hb)
       clear hb hbox hg
       refine hK.out _ _ ⟨(qd BK104.out 0).trans rfl, (qd BK104.out 1).trans rfl, (qd BK104.out 2).trans rfl, (qd BK104.out 3).trans rfl⟩ (fun hHeld => ?_)
       clear hK K
       refine norm_ (a' := ?_) ?_ ?_
       rotate_left
       ·show Act.put _ (some 5) _ = _
        simp only [Act.put, sq1, sq2, sq3, i64_w, i32_w]
        rfl
       refine one_ (i := 3) (N := some 21) bq19 rfl rfl (one_of HT_.out (by kernel_rfl)) (by decide) (fun K hK => ?_)
       refine goes_ Try.func88 (by kernel_rfl) rfl #[.pointer (some ⟨g, 0, none⟩), .agg #[.slice Ao15 x105000_1.length co15, .int .i64 x105001_1, .int .i64 x105002_1, .int .i64 x105003_1]] (by rfl) rfl rfl yq97 ?_
       with_reducible refine (spec_l1Rd_edit.calls k1 g s0_0 x1001_1 _ _ x105000_1 x105001_1 x105002_1 x105003_1 t107 t110 t113 t114 t115 t116 w0 _ ?side1 ?side2 ?side3 ?side4 A12.out).mono ?_
       (case side1 => exact yq94)
       (case side2 => exact yq96)
       (case side3 => exact Kd.C_foot_own (IsS123.apart (show IsS123 w0 _ g s0_0 x1001_1 from by repeat (first | (with_reducible first | exact HI0.out | apply IsS123.alloc | apply IsS123.drewN | apply IsS123.drew | apply IsS123.set_1 | apply (fun h_ => IsS123.far h_ NB0_101.out _) | apply (fun h_ => IsS123.far h_ NB0_104.out _) | apply (fun h_ => IsS123.far h_ NB0_124.out _)) | exact HI0.out)) yq92 (by decide)) (fun _ h_ => h_.2))
       (case side4 => exact (Kd.R_reads' HO_105000.out).2.1)
       rintro e w18 ⟨v108, v111, rfl, ho0, ho1, hi, hb, hk⟩
       refine ⟨_, rfl, ?_⟩
       replace BK101 := Qz.mk (KeepBut.blk hk (g' := gb101) (o := .cells #[.slice none 0 0, .int .i64 0, .int .i64 0, .int .i64 0] 32 (0, 0)) yq89 NB101_0.out (by simp))
       replace BK104 := Qz.mk (KeepBut.blk hk (g' := gb104) (o := .cells #[.slice Ao15 x105000_1.length co15, .int .i64 x105001_1, .int .i64 x105002_1, .int .i64 x105003_1] 32 (0, 0)) yq91 NB104_0.out (by simp))
       replace BK124 := Qz.mk (KeepBut.blk hk (g' := gb124) (o := .cells #[.slice none 0 0, .int .i64 0, .int .i64 0, .int .i64 0] 32 (0, 0)) yq100 NB124_0.out (by simp))
       have HO109 := Qz.mk (Kd.R_lower (Kd.R_new' ho0 (Kd.R_lt yq92)) (qa1 (w := w) (g := g) (row := none) yq90))
       replace HO_105000 := Qz.mk (Kd.R_mono (Kd.R_told (Kd.R_oldK (IsS123.apart (show IsS123 w0 _ g s0_0 x1001_1 from by repeat (first | (with_reducible first | exact HI0.out | apply IsS123.alloc | apply IsS123.drewN | apply IsS123.drew | apply IsS123.set_1 | apply (fun h_ => IsS123.far h_ NB0_101.out _) | apply (fun h_ => IsS123.far h_ NB0_104.out _) | apply (fun h_ => IsS123.far h_ NB0_124.out _)) | exact HI0.out)) yq92 (by decide)) hk) (Kd.R_base ho0)) (fun _ h_ => h_.1))
       have HO112 := Qz.mk (Kd.R_lower ho1 (qa1 (w := w) (g := g) (row := none) yq90))
       replace HK := Qz.mk (KeepBut.trans yq90 hk (.inl rfl))
       replace HB := Qz.mk (hb)
       replace HI0 := Qz.mk (hi)
       (try clear hb)
       (try clear hk)
       (try clear hi)
       (try clear ho0)
       (try clear ho1)
       obtain ⟨Ao19, co19, eo19⟩ := Kd.R_slice HO109.out
       (first | subst eo19 | (injection eo19 with f1_ f2_ f3_; have f4_ := f1_.symm; have f5_ := f3_.symm; clear f1_ f2_ f3_; subst f4_; subst f5_))
       obtain ⟨Ao20, co20, eo20⟩ := Kd.R_slice HO112.out
       (first | subst eo20 | (injection eo20 with f1_ f2_ f3_; have f4_ := f1_.symm; have f5_ := f3_.symm; clear f1_ f2_ f3_; subst f4_; subst f5_))
       refine hK.out _ _ ⟨(qd BK104.out 0).trans rfl, (qd BK104.out 1).trans rfl, (qd BK104.out 2).trans rfl, (qd BK104.out 3).trans rfl⟩ (fun hHeld => ?_)
       clear hK K
       refine norm_ (a' := ?_) ?_ ?_
       rotate_left
       ·show Act.put _ (some 21) _ = _
        simp only [Act.put, sq1, sq2, sq3, i64_w, i32_w]
        rfl
       refine one_ (i := 4) (N := some 22) bq23 rfl rfl (one_of HT_.out (by kernel_rfl)) (by decide) (fun K hK => ?_)
       refine goes_ Try.func17 (by kernel_rfl) rfl #[.agg #[.slice Ao15 x105000_1.length co15, .int .i64 x105001_1, .int .i64 x105002_1, .int .i64 x105003_1], .agg #[.slice Ao19 t107.length co19, .slice Ao20 t110.length co20, .int .i64 t113, .int .i64 t114, .int .i64 t115]] (by rfl) rfl rfl yq97 ?_
       with_reducible refine (spec_Apply.calls k1 _ _ x105000_1 x105001_1 x105002_1 x105003_1 _ _ t107 _ _ t110 t113 t114 t115 t117 t120 t121 t122 true _ ?side1 ?side2 ?side3 ?side4 ?side5 ?side6 A13.out).mono ?_
       (case side1 => exact yq101)
       (case side2 => exact (Kd.R_reads' HO_105000.out).2.1)
       (case side3 => exact yq103)
       (case side4 => exact (Kd.R_reads' HO109.out).2.1)
       (case side5 => exact yq102)
       (case side6 => exact (Kd.R_reads' HO112.out).2.1)
       rintro e w21 ⟨v118, rfl, ho0, hb⟩
       refine ⟨_, rfl, ?_⟩
       replace HO112 := Qz.mk (Kd.R_below yq98 hb)
       have HO119 := Qz.mk (Kd.R_lower (Kd.R_new' (Kd.R_new' ho0 (Kd.R_lt yq92)) (Kd.R_lt yq99)) (qa1 (w := w) (g := g) (row := none) yq90))
       replace HO_105000 := Qz.mk (Kd.R_elder' yq92 (Kd.R_base ho0) hb)
       replace HO109 := Qz.mk (Kd.R_elder' yq99 (Kd.R_base ho0) hb)
       replace BK101 := Qz.mk (qo (g := gb101) (o := .cells #[.slice none 0 0, .int .i64 0, .int .i64 0, .int .i64 0] 32 (0, 0)) yq89 hb)
       replace BK104 := Qz.mk (qo (g := gb104) (o := .cells #[.slice Ao15 x105000_1.length co15, .int .i64 x105001_1, .int .i64 x105002_1, .int .i64 x105003_1] 32 (0, 0)) yq91 hb)
       replace BK124 := Qz.mk (qo (g := gb124) (o := .cells #[.slice none 0 0, .int .i64 0, .int .i64 0, .int .i64 0] 32 (0, 0)) yq100 hb)
       replace HK := Qz.mk (KeepBut.trans yq90 (KeepBut.of_below hb g none) (.inl rfl))
       replace HB := Qz.mk (qp yq96 hb)
       replace HI0 := Qz.mk (IsS123.below yq94 hb)
       (try clear hb)
       (try clear hk)
       (try clear hi)
       (try clear ho0)
       refine hK.out _ _ ⟨(qd BK104.out 0).trans rfl, (qd BK104.out 1).trans rfl, (qd BK104.out 2).trans rfl, (qd BK104.out 3).trans rfl⟩ (fun hHeld => ?_)
       clear hK K
       refine norm_ (a' := ?_) ?_ ?_
       rotate_left
       ·show Act.put _ (some 22) _ = _
        simp only [Act.put, sq1, sq2, sq3, i64_w, i32_w]
        rfl
       refine pure_ (i := 5) (N := some 17) (v := ?_) (a' := ?_) bq28 rfl rfl (qz HT_.out (by kernel_rfl)) (fun _ _ _ h => h) (Or.inl ⟨by rfl, ?_⟩) ?_ ?_
       rotate_left
       ·intro w'
        go_simp
        with_reducible rfl
       rotate_left
       ·simp only [Act.put, sq1, sq2, sq3, i64_w, i32_w]
        rfl
       refine pure_ (i := 6) (N := some 23) (v := ?_) (a' := ?_) bq36 rfl rfl (qz HT_.out (by kernel_rfl)) (fun _ _ _ h => h) (Or.inl ⟨by rfl, ?_⟩) ?_ ?_
       rotate_left
       ·intro w'
        go_simp
        with_reducible rfl
       rotate_left
       ·simp only [Act.put, sq1, sq2, sq3, i64_w, i32_w]
        rfl
       refine pure_ (i := 7) (N := some 24) (v := ?_) (a' := ?_) bq43 rfl rfl (qz HT_.out (by kernel_rfl)) (fun _ _ _ h => h) (Or.inl ⟨by rfl, ?_⟩) ?_ ?_
       rotate_left
       ·intro w'
        go_simp
        with_reducible rfl
       rotate_left
       ·simp only [Act.put, sq1, sq2, sq3, i64_w, i32_w]
        rfl
       exact norm_ (by simp only [putAll, Act.put, sq1, sq2, sq3]) (hCont (.slice Ao19 t107.length co19, .slice Ao20 t110.length co20, v118, gb124) _ ⟨hHeld, yq108, yq98, yq107, yq106, yq89, yq91, yq100, GW124.out, GE124.out, NB0_124.out, NB124_0.out, NB101_124.out, NB124_101.out, NB104_124.out, NB124_104.out, yq94, yq90, yq96⟩)
     rintro ⟨v108, v111, v118, gb124⟩ w22 ⟨hS_, h0_, h1_, h2_, h3_, h4_, h5_, h6_, h7_, h8_, h9_, h10_, h11_, h12_, h13_, h14_, h15_, h16_, h17_⟩
     have n0_ : Qz (Kd.R k66 66 w22 w.heap.size (fun k_ => some k_ ≠ (v118 : Value).ownBlock ∧ some k_ ≠ (.slice Ao15 x105000_1.length co15 : Value).ownBlock) v108 t107) := ⟨h0_⟩
     have n1_ : Qz (Kd.R (Kd.int .i64) 2 w22 w.heap.size (fun _ => True) v111 t110) := ⟨h1_⟩
     have n2_ : Qz (Kd.R k66 66 w22 w.heap.size (fun k_ => some k_ ≠ (v108 : Value).ownBlock ∧ some k_ ≠ (.slice Ao15 x105000_1.length co15 : Value).ownBlock) v118 t117) := ⟨h2_⟩
     have n3_ : Qz (Kd.R k66 66 w22 w.heap.size (fun k_ => some k_ ≠ (v108 : Value).ownBlock ∧ some k_ ≠ (v118 : Value).ownBlock) (.slice Ao15 x105000_1.length co15) x105000_1) := ⟨h3_⟩
     have n4_ : Qz (w22.heap[gb101]? = some (.cells #[.slice none 0 0, .int .i64 0, .int .i64 0, .int .i64 0] 32 (0, 0))) := ⟨h4_⟩
     have n5_ : Qz (w22.heap[gb104]? = some (.cells #[.slice Ao15 x105000_1.length co15, .int .i64 x105001_1, .int .i64 x105002_1, .int .i64 x105003_1] 32 (0, 0))) := ⟨h5_⟩
     have n6_ : Qz (w22.heap[gb124]? = some (.cells #[.slice none 0 0, .int .i64 0, .int .i64 0, .int .i64 0] 32 (0, 0))) := ⟨h6_⟩
     have n7_ : Qz (w.heap.size ≤ gb124) := ⟨h7_⟩
     have n8_ : Qz (w0.heap.size ≤ gb124) := ⟨h8_⟩
     have n9_ : Qz (g ≠ gb124) := ⟨h9_⟩
     have n10_ : Qz (gb124 ≠ g) := ⟨h10_⟩
     have n11_ : Qz (gb101 ≠ gb124) := ⟨h11_⟩
     have n12_ : Qz (gb124 ≠ gb101) := ⟨h12_⟩
     have n13_ : Qz (gb104 ≠ gb124) := ⟨h13_⟩
     have n14_ : Qz (gb124 ≠ gb104) := ⟨h14_⟩
     have n15_ : Qz (IsS123 w0 w22 g s0_0 t116) := ⟨h15_⟩
     have n16_ : Qz (KeepBut w w22 g none) := ⟨h16_⟩
     have n17_ : Qz (Below w0.heap.size w0 w22) := ⟨h17_⟩
     clear HO_105000
     clear BK101
     clear BK104
     clear HI0
     clear HK
     clear HB
     clear h0_ h1_ h2_ h3_ h4_ h5_ h6_ h7_ h8_ h9_ h10_ h11_ h12_ h13_ h14_ h15_ h16_ h17_
     have HO109 := n0_
     have HO112 := n1_
     have HO119 := n2_
     have HO_105000 := n3_
     have BK101 := n4_
     have BK104 := n5_
     have BK124 := n6_
     have GW124 := n7_
     have GE124 := n8_
     have NB0_124 := n9_
     have NB124_0 := n10_
     have NB101_124 := n11_
     have NB124_101 := n12_
     have NB104_124 := n13_
     have NB124_104 := n14_
     have HI0 := n15_
     have HK := n16_
     have HB := n17_
     clear n0_ n1_ n2_ n3_ n4_ n5_ n6_ n7_ n8_ n9_ n10_ n11_ n12_ n13_ n14_ n15_ n16_ n17_
     have hHeld : w22.cell? ⟨gb104, 0, none⟩ = some (.slice Ao15 x105000_1.length co15) ∧ w22.cell? ⟨gb104, 1, none⟩ = some (.int .i64 x105001_1) ∧ w22.cell? ⟨gb104, 2, none⟩ = some (.int .i64 x105002_1) ∧ w22.cell? ⟨gb104, 3, none⟩ = some (.int .i64 x105003_1) := hS_
     obtain ⟨Ao23, co23, eo23⟩ := Kd.R_slice HO119.out
     (first | subst eo23 | (injection eo23 with f1_ f2_ f3_; have f4_ := f1_.symm; have f5_ := f3_.symm; clear f1_ f2_ f3_; subst f4_; subst f5_))
     refine norm_ (a' := ?_) ?_ ?_
     rotate_left
     ·simp only [putAll, Act.put, sq1, sq2, sq3]
      rfl
     refine one_ (i := 9) (N := none) bq47 rfl rfl (one_of HT_.out (by kernel_rfl)) (by decide) (fun K hK => ?_)
     have hs24 : w22.cell? ⟨gb124, 0, none⟩ = some (.slice none 0 0) := (qd BK124.out 0).trans rfl
     have hfs24 := qe BK124.out 0
     have hns24_0 := NB101_124.out
     have hns24_1 := NB104_124.out
     have hms24_0 := NB124_101.out
     have hms24_1 := NB124_104.out
     have hs25 : w22.cell? ⟨gb124, 1, none⟩ = some (.int .i64 0) := (qd BK124.out 1).trans rfl
     have hfs25 := qe BK124.out 1
     have hns25_0 := NB101_124.out
     have hns25_1 := NB104_124.out
     have hms25_0 := NB124_101.out
     have hms25_1 := NB124_104.out
     have hs26 : w22.cell? ⟨gb124, 2, none⟩ = some (.int .i64 0) := (qd BK124.out 2).trans rfl
     have hfs26 := qe BK124.out 2
     have hns26_0 := NB101_124.out
     have hns26_1 := NB104_124.out
     have hms26_0 := NB124_101.out
     have hms26_1 := NB124_104.out
     have hs27 : w22.cell? ⟨gb124, 3, none⟩ = some (.int .i64 0) := (qd BK124.out 3).trans rfl
     have hfs27 := qe BK124.out 3
     have hns27_0 := NB101_124.out
     have hns27_1 := NB104_124.out
     have hms27_0 := NB124_101.out
     have hms27_1 := NB124_104.out
     refine skip_ (w1 := ?_) (by rfl) rfl ?_ ?_
     rotate_left
     ·go_simp
      rfl
     refine hK.out _ _ ⟨((qx (p := ⟨gb124, _, none⟩) NB104_124.out _).trans (((qx (p := ⟨gb124, _, none⟩) NB104_124.out _).trans (((qx (p := ⟨gb124, _, none⟩) NB104_124.out _).trans (((qx (p := ⟨gb124, _, none⟩) NB104_124.out _).trans (hHeld.1)))))))), ((qx (p := ⟨gb124, _, none⟩) NB104_124.out _).trans (((qx (p := ⟨gb124, _, none⟩) NB104_124.out _).trans (((qx (p := ⟨gb124, _, none⟩) NB104_124.out _).trans (((qx (p := ⟨gb124, _, none⟩) NB104_124.out _).trans (hHeld.2.1)))))))), ((qx (p := ⟨gb124, _, none⟩) NB104_124.out _).trans (((qx (p := ⟨gb124, _, none⟩) NB104_124.out _).trans (((qx (p := ⟨gb124, _, none⟩) NB104_124.out _).trans (((qx (p := ⟨gb124, _, none⟩) NB104_124.out _).trans (hHeld.2.2.1)))))))), ((qx (p := ⟨gb124, _, none⟩) NB104_124.out _).trans (((qx (p := ⟨gb124, _, none⟩) NB104_124.out _).trans (((qx (p := ⟨gb124, _, none⟩) NB104_124.out _).trans (((qx (p := ⟨gb124, _, none⟩) NB104_124.out _).trans (hHeld.2.2.2))))))))⟩ (fun hHeld => ?_)
     clear hK K
     refine pure_ (i := 10) (N := some 6) (v := ?_) (a' := ?_) bq62 rfl rfl (qz HT_.out (by kernel_rfl)) (fun _ _ _ h => h) (Or.inl ⟨by rfl, ?_⟩) ?_ ?_
     rotate_left
     ·intro w'
      go_simp
      with_reducible rfl
     rotate_left
     ·simp only [Act.put, sq1, sq2, sq3, i64_w, i32_w]
      rfl
     refine done_ (done_of HT_.out (by kernel_rfl)) ?_
     have hnb28 := NB124_101.out
     have hnc28 := NB101_124.out
     have hnb29 := NB124_104.out
     have hnc29 := NB104_124.out
     have hnb30 := NB124_0.out
     have hnc30 := NB0_124.out
     have hcz31_0 := (qd BK124.out 0).trans rfl
     have hcz31_1 := (qd BK124.out 1).trans rfl
     have hcz31_2 := (qd BK124.out 2).trans rfl
     have hcz31_3 := (qd BK124.out 3).trans rfl
     have hfz31_0 := qe BK124.out 0
     have hfz31_1 := qe BK124.out 1
     have hfz31_2 := qe BK124.out 2
     have hfz31_3 := qe BK124.out 3
     have hnb32 := NB104_101.out
     have hnc32 := NB101_104.out
     have hnb33 := NB104_0.out
     have hnc33 := NB0_104.out
     have hcz34_0 := (qd BK104.out 0).trans rfl
     have hcz34_1 := (qd BK104.out 1).trans rfl
     have hcz34_2 := (qd BK104.out 2).trans rfl
     have hcz34_3 := (qd BK104.out 3).trans rfl
     have hfz34_0 := qe BK104.out 0
     have hfz34_1 := qe BK104.out 1
     have hfz34_2 := qe BK104.out 2
     have hfz34_3 := qe BK104.out 3
     try go_wp2
     go_roundg k1
     case measure => have := HK1.out; omega
     case rel => exact ⟨(wrap64 (x4_1 - 1)), (t116), (t117), (t120), (t121), (t122), (.slice Ao23 t117.length co23), (by first | rfl | (simp; done) | (simp [*]; done)), H', ⟨by have := HK1.out; omega⟩, ⟨by (with_reducible repeat (first | apply Kd.R_alloc | apply Kd.R_drewN | apply Kd.R_drew)); exact Kd.R_mono (Kd.R_far (p := ⟨gb104, 3, none⟩) (Kd.R_far (p := ⟨gb104, 2, none⟩) (Kd.R_far (p := ⟨gb104, 1, none⟩) (Kd.R_far (p := ⟨gb104, 0, none⟩) (Kd.R_far (p := ⟨gb124, 3, none⟩) (Kd.R_far (p := ⟨gb124, 2, none⟩) (Kd.R_far (p := ⟨gb124, 1, none⟩) (Kd.R_far (p := ⟨gb124, 0, none⟩) (Kd.R_types (Kd.R_types HO119.out BK124.out (by decide)) BK104.out (by decide)) (fun _ hk => hk.1.2) (.slice Ao23 t117.length co23)) (fun _ hk => hk.1.2) (.int .i64 t120)) (fun _ hk => hk.1.2) (.int .i64 t121)) (fun _ hk => hk.1.2) (.int .i64 t122)) (fun _ hk => hk.2) (.slice Ao23 t117.length co23)) (fun _ hk => hk.2) (.int .i64 t120)) (fun _ hk => hk.2) (.int .i64 t121)) (fun _ hk => hk.2) (.int .i64 t122)) (fun _ hk => trivial)⟩, ⟨by (with_reducible repeat (first | refine qb ?_ _ | refine qc ?_ | refine qa ?_ _)); refine qq ?_ NB101_104.out _; (with_reducible repeat (first | refine qb ?_ _ | refine qc ?_ | refine qa ?_ _)); refine qq ?_ NB101_104.out _; (with_reducible repeat (first | refine qb ?_ _ | refine qc ?_ | refine qa ?_ _)); refine qq ?_ NB101_104.out _; (with_reducible repeat (first | refine qb ?_ _ | refine qc ?_ | refine qa ?_ _)); refine qq ?_ NB101_104.out _; (with_reducible repeat (first | refine qb ?_ _ | refine qc ?_ | refine qa ?_ _)); refine qq ?_ NB101_124.out _; (with_reducible repeat (first | refine qb ?_ _ | refine qc ?_ | refine qa ?_ _)); refine qq ?_ NB101_124.out _; (with_reducible repeat (first | refine qb ?_ _ | refine qc ?_ | refine qa ?_ _)); refine qq ?_ NB101_124.out _; (with_reducible repeat (first | refine qb ?_ _ | refine qc ?_ | refine qa ?_ _)); refine qq ?_ NB101_124.out _; (with_reducible repeat (first | refine qb ?_ _ | refine qc ?_ | refine qa ?_ _)); exact BK101.out⟩, ⟨by (with_reducible repeat (first | refine qb ?_ _ | refine qc ?_ | refine qa ?_ _)); refine qt (cs := #[.slice Ao23 t117.length co23, .int .i64 t120, .int .i64 t121, .int .i64 x105003_1]) ?_ 3 _ rfl; (with_reducible repeat (first | refine qb ?_ _ | refine qc ?_ | refine qa ?_ _)); refine qt (cs := #[.slice Ao23 t117.length co23, .int .i64 t120, .int .i64 x105002_1, .int .i64 x105003_1]) ?_ 2 _ rfl; (with_reducible repeat (first | refine qb ?_ _ | refine qc ?_ | refine qa ?_ _)); refine qt (cs := #[.slice Ao23 t117.length co23, .int .i64 x105001_1, .int .i64 x105002_1, .int .i64 x105003_1]) ?_ 1 _ rfl; (with_reducible repeat (first | refine qb ?_ _ | refine qc ?_ | refine qa ?_ _)); refine qt (cs := #[.slice Ao15 x105000_1.length co15, .int .i64 x105001_1, .int .i64 x105002_1, .int .i64 x105003_1]) ?_ 0 _ rfl; (with_reducible repeat (first | refine qb ?_ _ | refine qc ?_ | refine qa ?_ _)); refine qq ?_ NB104_124.out _; (with_reducible repeat (first | refine qb ?_ _ | refine qc ?_ | refine qa ?_ _)); refine qq ?_ NB104_124.out _; (with_reducible repeat (first | refine qb ?_ _ | refine qc ?_ | refine qa ?_ _)); refine qq ?_ NB104_124.out _; (with_reducible repeat (first | refine qb ?_ _ | refine qc ?_ | refine qa ?_ _)); refine qq ?_ NB104_124.out _; (with_reducible repeat (first | refine qb ?_ _ | refine qc ?_ | refine qa ?_ _)); exact BK104.out⟩, ⟨by repeat (first | (with_reducible first | exact HI0.out | apply IsS123.alloc | apply IsS123.drewN | apply IsS123.drew | apply IsS123.set_1 | apply (fun h_ => IsS123.far h_ NB0_101.out _) | apply (fun h_ => IsS123.far h_ NB0_104.out _) | apply (fun h_ => IsS123.far h_ NB0_124.out _)) | exact HI0.out)⟩, ⟨by repeat (first | (with_reducible first | exact HK.out | apply KeepBut.set_ | apply qk | apply qn | apply ql | refine qj ?_ GW101.out _ | refine qj ?_ GW104.out _ | refine qj ?_ GW124.out _) | exact HK.out)⟩, ⟨by repeat (first | (with_reducible first | exact HB.out | apply qi | apply qg | apply qh | refine qf ?_ (IsS123.ge HI0.out) | refine qf ?_ GE101.out | refine qf ?_ GE104.out | refine qf ?_ GE124.out) | exact HB.out)⟩⟩
    ·replace c14 := Bool.eq_false_iff.mpr c14
     subst c14
     have H1 : (spec_l1Rd_version.l0 k1 (wrap64 (x4_1 - 1)) s0_0 t116 x105000_1 x105001_1 x105002_1 x105003_1) = some (r1, r2, r3, r4, r5) := by rw [if_neg (show ¬ (false = true) by decide)] at H; exact H
     clear H
     have H := H1
     clear H1
     have H' := Qz.mk H
     clear H
     obtain ⟨Ao35, co35, eo35⟩ := Kd.R_slice HO_105000.out
     subst eo35
     try go_wp2
     replace HO_105000 := Qz.mk (Kd.R_drew HO_105000.out)
     replace BK101 := Qz.mk (qc BK101.out)
     replace BK104 := Qz.mk (qc BK104.out)
     replace HI0 := Qz.mk (IsS123.drew HI0.out)
     replace HK := Qz.mk (qn HK.out)
     replace HB := Qz.mk (qh HB.out)
     refine start_ (n := 11) (S := fun w' => w'.cell? ⟨gb104, 0, none⟩ = some (.slice Ao35 x105000_1.length co35) ∧ w'.cell? ⟨gb104, 1, none⟩ = some (.int .i64 x105001_1) ∧ w'.cell? ⟨gb104, 2, none⟩ = some (.int .i64 x105002_1) ∧ w'.cell? ⟨gb104, 3, none⟩ = some (.int .i64 x105003_1)) (ds := []) bq2 (by kernel_rfl) rfl rfl ⟨(qd BK104.out 0).trans rfl, (qd BK104.out 1).trans rfl, (qd BK104.out 2).trans rfl, (qd BK104.out 3).trans rfl⟩ (fun hHeld => ?_); refine with_tabW spec_l1Rd_version.tab5 spec_l1Rd_version.bits5 (fun HT_ HW_ => ?_)
     generalize wr.drew = w36 at HO_105000 BK101 BK104 HI0 HK HB hHeld ⊢
     refine pure_ (i := 1) (N := some 19) (v := ?_) (a' := ?_) bq4 rfl rfl (qz HT_.out (by kernel_rfl)) (fun _ _ _ h => h) (Or.inl ⟨by rfl, ?_⟩) ?_ ?_
     rotate_left
     ·intro w'
      go_simp
      with_reducible rfl
     rotate_left
     ·simp only [Act.put, sq1, sq2, sq3, i64_w, i32_w]
      rfl
     refine take_ (i := 0) (N := some 18) (v := ?_) (a' := ?_) bq11 rfl rfl (take_ofW HT_.out HW_.out (by kernel_rfl)) (fun _ _ _ h => h) (Or.inl ⟨by rfl, ?_⟩) hHeld ?_ ?_
     rotate_left
     ·rintro w' ⟨s0, s1, s2, s3⟩
      go_simp
      with_reducible rfl
     rotate_left
     ·simp only [Act.put, sq1, sq2, sq3, i64_w, i32_w]
      rfl
     refine take_ (i := 2) (N := some 20) (v := ?_) (a' := ?_) bq14 rfl rfl (take_ofW HT_.out HW_.out (by kernel_rfl)) (fun _ _ _ h => h) (Or.inl ⟨by rfl, ?_⟩) hHeld ?_ ?_
     rotate_left
     ·rintro w' ⟨s0, s1, s2, s3⟩
      go_simp
      with_reducible rfl
     rotate_left
     ·simp only [Act.put, sq1, sq2, sq3, i64_w, i32_w]
      rfl
     refine join_ (σ := Value × Value × Value × Nat) 2 bq43 (fun s_ => [(21, .agg #[s_.1, s_.2.1, .int .i64 t113, .int .i64 t114, .int .i64 t115]), (22, .tuple #[.agg #[s_.2.2.1, .int .i64 t120, .int .i64 t121, .int .i64 t122], .bool false]), (5, .pointer (some ⟨s_.2.2.2, 0, none⟩)), (17, .tuple #[.agg #[s_.2.2.1, .int .i64 t120, .int .i64 t121, .int .i64 t122], .bool false]), (23, .agg #[s_.2.2.1, .int .i64 t120, .int .i64 t121, .int .i64 t122]), (24, .bool false)]) (fun s_ w' => (w'.cell? ⟨gb104, 0, none⟩ = some (.slice Ao35 x105000_1.length co35) ∧ w'.cell? ⟨gb104, 1, none⟩ = some (.int .i64 x105001_1) ∧ w'.cell? ⟨gb104, 2, none⟩ = some (.int .i64 x105002_1) ∧ w'.cell? ⟨gb104, 3, none⟩ = some (.int .i64 x105003_1)) ∧ (Kd.R k66 66 w' w.heap.size (fun k_ => some k_ ≠ (s_.2.2.1 : Value).ownBlock ∧ some k_ ≠ (.slice Ao35 x105000_1.length co35 : Value).ownBlock) s_.1 t107) ∧ (Kd.R (Kd.int .i64) 2 w' w.heap.size (fun _ => True) s_.2.1 t110) ∧ (Kd.R k66 66 w' w.heap.size (fun k_ => some k_ ≠ (s_.1 : Value).ownBlock ∧ some k_ ≠ (.slice Ao35 x105000_1.length co35 : Value).ownBlock) s_.2.2.1 t117) ∧ (Kd.R k66 66 w' w.heap.size (fun k_ => some k_ ≠ (s_.1 : Value).ownBlock ∧ some k_ ≠ (s_.2.2.1 : Value).ownBlock) (.slice Ao35 x105000_1.length co35) x105000_1) ∧ (w'.heap[gb101]? = some (.cells #[.slice none 0 0, .int .i64 0, .int .i64 0, .int .i64 0] 32 (0, 0))) ∧ (w'.heap[gb104]? = some (.cells #[.slice Ao35 x105000_1.length co35, .int .i64 x105001_1, .int .i64 x105002_1, .int .i64 x105003_1] 32 (0, 0))) ∧ (w'.heap[s_.2.2.2]? = some (.cells #[.slice none 0 0, .int .i64 0, .int .i64 0, .int .i64 0] 32 (0, 0))) ∧ (w.heap.size ≤ s_.2.2.2) ∧ (w0.heap.size ≤ s_.2.2.2) ∧ (g ≠ s_.2.2.2) ∧ (s_.2.2.2 ≠ g) ∧ (gb101 ≠ s_.2.2.2) ∧ (s_.2.2.2 ≠ gb101) ∧ (gb104 ≠ s_.2.2.2) ∧ (s_.2.2.2 ≠ gb104) ∧ (IsS123 w0 w' g s0_0 t116) ∧ (KeepBut w w' g none) ∧ (Below w0.heap.size w0 w')) ?_ ?_
     rotate_left
     ·intro hCont
      refine two_ (i := 3) (j := 8) (Ni := some 21) (Nj := some 5) bq18 bq15 rfl rfl rfl rfl (two_of HT_.out (by kernel_rfl)) (by decide) (by decide) (fun K hK => ?_) (fun K hK => ?_)
      ·skip
       refine goes_ Try.func88 (by kernel_rfl) rfl #[.pointer (some ⟨g, 0, none⟩), .agg #[.slice Ao35 x105000_1.length co35, .int .i64 x105001_1, .int .i64 x105002_1, .int .i64 x105003_1]] (by rfl) rfl rfl yq97 ?_
       with_reducible refine (spec_l1Rd_edit.calls k1 g s0_0 x1001_1 _ _ x105000_1 x105001_1 x105002_1 x105003_1 t107 t110 t113 t114 t115 t116 w0 _ ?side1 ?side2 ?side3 ?side4 A12.out).mono ?_
       (case side1 => exact yq93)
       (case side2 => exact yq95)
       (case side3 => exact Kd.C_foot_own (IsS123.apart (show IsS123 w0 _ g s0_0 x1001_1 from by repeat (first | (with_reducible first | exact HI0.out | apply IsS123.alloc | apply IsS123.drewN | apply IsS123.drew | apply IsS123.set_1 | apply (fun h_ => IsS123.far h_ NB0_101.out _) | apply (fun h_ => IsS123.far h_ NB0_104.out _)) | exact HI0.out)) yq92 (by decide)) (fun _ h_ => h_.2))
       (case side4 => exact (Kd.R_reads' HO_105000.out).2.1)
       rintro e w37 ⟨v108, v111, rfl, ho0, ho1, hi, hb, hk⟩
       refine ⟨_, rfl, ?_⟩
       replace BK101 := Qz.mk (KeepBut.blk hk (g' := gb101) (o := .cells #[.slice none 0 0, .int .i64 0, .int .i64 0, .int .i64 0] 32 (0, 0)) yq89 NB101_0.out (by simp))
       replace BK104 := Qz.mk (KeepBut.blk hk (g' := gb104) (o := .cells #[.slice Ao35 x105000_1.length co35, .int .i64 x105001_1, .int .i64 x105002_1, .int .i64 x105003_1] 32 (0, 0)) yq91 NB104_0.out (by simp))
       have HO109 := Qz.mk (Kd.R_lower (Kd.R_new' ho0 (Kd.R_lt yq92)) (qa1 (w := w) (g := g) (row := none) yq88))
       replace HO_105000 := Qz.mk (Kd.R_mono (Kd.R_told (Kd.R_oldK (IsS123.apart (show IsS123 w0 _ g s0_0 x1001_1 from by repeat (first | (with_reducible first | exact HI0.out | apply IsS123.alloc | apply IsS123.drewN | apply IsS123.drew | apply IsS123.set_1 | apply (fun h_ => IsS123.far h_ NB0_101.out _) | apply (fun h_ => IsS123.far h_ NB0_104.out _)) | exact HI0.out)) yq92 (by decide)) hk) (Kd.R_base ho0)) (fun _ h_ => h_.1))
       have HO112 := Qz.mk (Kd.R_lower ho1 (qa1 (w := w) (g := g) (row := none) yq88))
       replace HK := Qz.mk (KeepBut.trans yq88 hk (.inl rfl))
       replace HB := Qz.mk (hb)
       replace HI0 := Qz.mk (hi)
       (try clear hb)
       (try clear hk)
       (try clear hi)
       (try clear ho0)
       (try clear ho1)
       obtain ⟨Ao38, co38, eo38⟩ := Kd.R_slice HO109.out
       (first | subst eo38 | (injection eo38 with f1_ f2_ f3_; have f4_ := f1_.symm; have f5_ := f3_.symm; clear f1_ f2_ f3_; subst f4_; subst f5_))
       obtain ⟨Ao39, co39, eo39⟩ := Kd.R_slice HO112.out
       (first | subst eo39 | (injection eo39 with f1_ f2_ f3_; have f4_ := f1_.symm; have f5_ := f3_.symm; clear f1_ f2_ f3_; subst f4_; subst f5_))
       refine hK.out _ _ ⟨(qd BK104.out 0).trans rfl, (qd BK104.out 1).trans rfl, (qd BK104.out 2).trans rfl, (qd BK104.out 3).trans rfl⟩ (fun hHeld => ?_)
       clear hK K
       refine norm_ (a' := ?_) ?_ ?_
       rotate_left
       ·show Act.put _ (some 21) _ = _
        simp only [Act.put, sq1, sq2, sq3, i64_w, i32_w]
        rfl
       refine two_ (i := 4) (j := 8) (Ni := some 22) (Nj := some 5) bq22 bq19 rfl rfl rfl rfl (two_of HT_.out (by kernel_rfl)) (by decide) (by decide) (fun K hK => ?_) (fun K hK => ?_)
       ·skip
        refine goes_ Try.func17 (by kernel_rfl) rfl #[.agg #[.slice Ao35 x105000_1.length co35, .int .i64 x105001_1, .int .i64 x105002_1, .int .i64 x105003_1], .agg #[.slice Ao38 t107.length co38, .slice Ao39 t110.length co39, .int .i64 t113, .int .i64 t114, .int .i64 t115]] (by rfl) rfl rfl yq97 ?_
        with_reducible refine (spec_Apply.calls k1 _ _ x105000_1 x105001_1 x105002_1 x105003_1 _ _ t107 _ _ t110 t113 t114 t115 t117 t120 t121 t122 false _ ?side1 ?side2 ?side3 ?side4 ?side5 ?side6 A13.out).mono ?_
        (case side1 => exact yq101)
        (case side2 => exact (Kd.R_reads' HO_105000.out).2.1)
        (case side3 => exact yq103)
        (case side4 => exact (Kd.R_reads' HO109.out).2.1)
        (case side5 => exact yq102)
        (case side6 => exact (Kd.R_reads' HO112.out).2.1)
        rintro e w40 ⟨v118, rfl, ho0, hb⟩
        refine ⟨_, rfl, ?_⟩
        replace HO112 := Qz.mk (Kd.R_below yq98 hb)
        have HO119 := Qz.mk (Kd.R_lower (Kd.R_new' (Kd.R_new' ho0 (Kd.R_lt yq92)) (Kd.R_lt yq99)) (qa1 (w := w) (g := g) (row := none) yq88))
        replace HO_105000 := Qz.mk (Kd.R_elder' yq92 (Kd.R_base ho0) hb)
        replace HO109 := Qz.mk (Kd.R_elder' yq99 (Kd.R_base ho0) hb)
        replace BK101 := Qz.mk (qo (g := gb101) (o := .cells #[.slice none 0 0, .int .i64 0, .int .i64 0, .int .i64 0] 32 (0, 0)) yq89 hb)
        replace BK104 := Qz.mk (qo (g := gb104) (o := .cells #[.slice Ao35 x105000_1.length co35, .int .i64 x105001_1, .int .i64 x105002_1, .int .i64 x105003_1] 32 (0, 0)) yq91 hb)
        replace HK := Qz.mk (KeepBut.trans yq88 (KeepBut.of_below hb g none) (.inl rfl))
        replace HB := Qz.mk (qp yq95 hb)
        replace HI0 := Qz.mk (IsS123.below yq93 hb)
        (try clear hb)
        (try clear hk)
        (try clear hi)
        (try clear ho0)
        refine hK.out _ _ ⟨(qd BK104.out 0).trans rfl, (qd BK104.out 1).trans rfl, (qd BK104.out 2).trans rfl, (qd BK104.out 3).trans rfl⟩ (fun hHeld => ?_)
        clear hK K
        refine norm_ (a' := ?_) ?_ ?_
        rotate_left
        ·show Act.put _ (some 22) _ = _
         simp only [Act.put, sq1, sq2, sq3, i64_w, i32_w]
         rfl
        refine pure_ (i := 5) (N := some 17) (v := ?_) (a' := ?_) bq27 rfl rfl (qz HT_.out (by kernel_rfl)) (fun _ _ _ h => h) (Or.inl ⟨by rfl, ?_⟩) ?_ ?_
        rotate_left
        ·intro w'
         go_simp
         with_reducible rfl
        rotate_left
        ·simp only [Act.put, sq1, sq2, sq3, i64_w, i32_w]
         rfl
        refine pure_ (i := 6) (N := some 23) (v := ?_) (a' := ?_) bq32 rfl rfl (qz HT_.out (by kernel_rfl)) (fun _ _ _ h => h) (Or.inl ⟨by rfl, ?_⟩) ?_ ?_
        rotate_left
        ·intro w'
         go_simp
         with_reducible rfl
        rotate_left
        ·simp only [Act.put, sq1, sq2, sq3, i64_w, i32_w]
         rfl
        refine pure_ (i := 7) (N := some 24) (v := ?_) (a' := ?_) bq39 rfl rfl (qz HT_.out (by kernel_rfl)) (fun _ _ _ h => h) (Or.inl ⟨by rfl, ?_⟩) ?_ ?_
        rotate_left
        ·intro w'
         go_simp
         with_reducible rfl
        rotate_left
        ·simp only [Act.put, sq1, sq2, sq3, i64_w, i32_w]
         rfl
        refine one_ (i := 8) (N := some 5) bq43 rfl rfl (one_of HT_.out (by kernel_rfl)) (by decide) (fun K hK => ?_)
        refine box_step ?hg (N := 5) ?hd (cs := #[.slice none 0 0, .int .i64 0, .int .i64 0, .int .i64 0]) (t := 32) ?hr ?_; (case hd => rfl); (case hg => rfl); (case hr => exact yq116)
        intro gb124 hg w41 hbox hb
        replace HO_105000 := Qz.mk (Kd.R_below yq92 hb)
        replace HO109 := Qz.mk (Kd.R_below yq99 hb)
        replace HO112 := Qz.mk (Kd.R_below yq98 hb)
        replace HO119 := Qz.mk (Kd.R_below (by (with_reducible repeat (first | apply Kd.R_alloc | apply Kd.R_drewN | apply Kd.R_drew)); exact HO119.out) hb)
        replace HB := Qz.mk (qp yq95 hb)
        have BK124 := Qz.mk (hbox)
        have GW124 := Qz.mk ((yq109 : w.heap.size ≤ gb124))
        have GE124 := Qz.mk ((Nat.le_trans HW0.out (yq109 : w.heap.size ≤ gb124) : w0.heap.size ≤ gb124))
        replace HK := Qz.mk (KeepBut.trans yq88 (KeepBut.of_below hb g none) (.inl rfl))
        have NB101_124 := Qz.mk ((yq104 : gb101 ≠ gb124))
        have NB124_101 := Qz.mk ((yq105 : gb124 ≠ gb101))
        replace BK101 := Qz.mk (qo (g := gb101) (o := .cells #[.slice none 0 0, .int .i64 0, .int .i64 0, .int .i64 0] 32 (0, 0)) yq89 hb)
        have NB104_124 := Qz.mk ((yq111 : gb104 ≠ gb124))
        have NB124_104 := Qz.mk ((yq113 : gb124 ≠ gb104))
        replace BK104 := Qz.mk (qo (g := gb104) (o := .cells #[.slice Ao35 x105000_1.length co35, .int .i64 x105001_1, .int .i64 x105002_1, .int .i64 x105003_1] 32 (0, 0)) yq91 hb)
        have NB0_124 := Qz.mk ((by rw [hg]; exact Nat.ne_of_lt (IsS123.lt (show IsS123 w0 _ g s0_0 t116 from by repeat (first | (with_reducible first | exact HI0.out | apply IsS123.alloc | apply IsS123.drewN | apply IsS123.drew | apply IsS123.set_1 | apply (fun h_ => IsS123.far h_ NB0_101.out _) | apply (fun h_ => IsS123.far h_ NB0_104.out _)) | exact HI0.out))) : g ≠ gb124))
        have NB124_0 := Qz.mk ((by rw [hg]; exact Nat.ne_of_gt (IsS123.lt (show IsS123 w0 _ g s0_0 t116 from by repeat (first | (with_reducible first | exact HI0.out | apply IsS123.alloc | apply IsS123.drewN | apply IsS123.drew | apply IsS123.set_1 | apply (fun h_ => IsS123.far h_ NB0_101.out _) | apply (fun h_ => IsS123.far h_ NB0_104.out _)) | exact HI0.out))) : gb124 ≠ g))
        replace HI0 := Qz.mk (IsS123.below yq93 hb)
        clear hb hbox hg
        refine hK.out _ _ ⟨(qd BK104.out 0).trans rfl, (qd BK104.out 1).trans rfl, (qd BK104.out 2).trans rfl, (qd BK104.out 3).trans rfl⟩ (fun hHeld => ?_)
        clear hK K
        refine norm_ (a' := ?_) ?_ ?_
        rotate_left
        ·show Act.put _ (some 5) _ = _
         simp only [Act.put, sq1, sq2, sq3, i64_w, i32_w]
         rfl
        exact norm_ (by simp only [putAll, Act.put, sq1, sq2, sq3]) (hCont (.slice Ao38 t107.length co38, .slice Ao39 t110.length co39, v118, gb124) _ ⟨hHeld, yq108, yq98, yq107, yq106, yq89, yq91, yq100, GW124.out, GE124.out, NB0_124.out, NB124_0.out, NB101_124.out, NB124_101.out, NB104_124.out, NB124_104.out, yq94, yq90, yq96⟩)
       ·skip
        refine box_step ?hg (N := 5) ?hd (cs := #[.slice none 0 0, .int .i64 0, .int .i64 0, .int .i64 0]) (t := 32) ?hr ?_; (case hd => rfl); (case hg => rfl); (case hr => exact yq116)
        intro gb124 hg w38 hbox hb
        replace HO_105000 := Qz.mk (Kd.R_below yq92 hb)
        replace HO109 := Qz.mk (Kd.R_below yq99 hb)
        replace HO112 := Qz.mk (Kd.R_below yq98 hb)
        replace HB := Qz.mk (qp yq95 hb)
        have BK124 := Qz.mk (hbox)
        have GW124 := Qz.mk ((yq109 : w.heap.size ≤ gb124))
        have GE124 := Qz.mk ((Nat.le_trans HW0.out (yq109 : w.heap.size ≤ gb124) : w0.heap.size ≤ gb124))
        replace HK := Qz.mk (KeepBut.trans yq88 (KeepBut.of_below hb g none) (.inl rfl))
        have NB101_124 := Qz.mk ((yq104 : gb101 ≠ gb124))
        have NB124_101 := Qz.mk ((yq105 : gb124 ≠ gb101))
        replace BK101 := Qz.mk (qo (g := gb101) (o := .cells #[.slice none 0 0, .int .i64 0, .int .i64 0, .int .i64 0] 32 (0, 0)) yq89 hb)
        have NB104_124 := Qz.mk ((yq111 : gb104 ≠ gb124))
        have NB124_104 := Qz.mk ((yq113 : gb124 ≠ gb104))
        replace BK104 := Qz.mk (qo (g := gb104) (o := .cells #[.slice Ao35 x105000_1.length co35, .int .i64 x105001_1, .int .i64 x105002_1, .int .i64 x105003_1] 32 (0, 0)) yq91 hb)
        have NB0_124 := Qz.mk ((by rw [hg]; exact Nat.ne_of_lt (IsS123.lt (show IsS123 w0 _ g s0_0 t116 from by repeat (first | (with_reducible first | exact HI0.out | apply IsS123.alloc | apply IsS123.drewN | apply IsS123.drew | apply IsS123.set_1 | apply (fun h_ => IsS123.far h_ NB0_101.out _) | apply (fun h_ => IsS123.far h_ NB0_104.out _)) | exact HI0.out))) : g ≠ gb124))
        have NB124_0 := Qz.mk ((by rw [hg]; exact Nat.ne_of_gt (IsS123.lt (show IsS123 w0 _ g s0_0 t116 from by repeat (first | (with_reducible first | exact HI0.out | apply IsS123.alloc | apply IsS123.drewN | apply IsS123.drew | apply IsS123.set_1 | apply (fun h_ => IsS123.far h_ NB0_101.out _) | apply (fun h_ => IsS123.far h_ NB0_104.out _)) | exact HI0.out))) : gb124 ≠ g))
        replace HI0 := Qz.mk (IsS123.below yq93 hb)
        clear hb hbox hg
        obtain ⟨Ao39, co39, eo39⟩ := Kd.R_slice HO109.out
        (first | subst eo39 | (injection eo39 with f1_ f2_ f3_; have f4_ := f1_.symm; have f5_ := f3_.symm; clear f1_ f2_ f3_; subst f4_; subst f5_))
        obtain ⟨Ao40, co40, eo40⟩ := Kd.R_slice HO112.out
        (first | subst eo40 | (injection eo40 with f1_ f2_ f3_; have f4_ := f1_.symm; have f5_ := f3_.symm; clear f1_ f2_ f3_; subst f4_; subst f5_))
        refine hK.out _ _ ⟨(qd BK104.out 0).trans rfl, (qd BK104.out 1).trans rfl, (qd BK104.out 2).trans rfl, (qd BK104.out 3).trans rfl⟩ (fun hHeld => ?_)
        clear hK K
        refine norm_ (a' := ?_) ?_ ?_
        rotate_left
        ·show Act.put _ (some 5) _ = _
         simp only [Act.put, sq1, sq2, sq3, i64_w, i32_w]
         rfl
        refine one_ (i := 4) (N := some 22) bq23 rfl rfl (one_of HT_.out (by kernel_rfl)) (by decide) (fun K hK => ?_)
        refine goes_ Try.func17 (by kernel_rfl) rfl #[.agg #[.slice Ao35 x105000_1.length co35, .int .i64 x105001_1, .int .i64 x105002_1, .int .i64 x105003_1], .agg #[.slice Ao39 t107.length co39, .slice Ao40 t110.length co40, .int .i64 t113, .int .i64 t114, .int .i64 t115]] (by rfl) rfl rfl yq97 ?_
        with_reducible refine (spec_Apply.calls k1 _ _ x105000_1 x105001_1 x105002_1 x105003_1 _ _ t107 _ _ t110 t113 t114 t115 t117 t120 t121 t122 false _ ?side1 ?side2 ?side3 ?side4 ?side5 ?side6 A13.out).mono ?_
        (case side1 => exact yq101)
        (case side2 => exact (Kd.R_reads' HO_105000.out).2.1)
        (case side3 => exact yq103)
        (case side4 => exact (Kd.R_reads' HO109.out).2.1)
        (case side5 => exact yq102)
        (case side6 => exact (Kd.R_reads' HO112.out).2.1)
        rintro e w41 ⟨v118, rfl, ho0, hb⟩
        refine ⟨_, rfl, ?_⟩
        replace HO112 := Qz.mk (Kd.R_below yq98 hb)
        have HO119 := Qz.mk (Kd.R_lower (Kd.R_new' (Kd.R_new' ho0 (Kd.R_lt yq92)) (Kd.R_lt yq99)) (qa1 (w := w) (g := g) (row := none) yq90))
        replace HO_105000 := Qz.mk (Kd.R_elder' yq92 (Kd.R_base ho0) hb)
        replace HO109 := Qz.mk (Kd.R_elder' yq99 (Kd.R_base ho0) hb)
        replace BK101 := Qz.mk (qo (g := gb101) (o := .cells #[.slice none 0 0, .int .i64 0, .int .i64 0, .int .i64 0] 32 (0, 0)) yq89 hb)
        replace BK104 := Qz.mk (qo (g := gb104) (o := .cells #[.slice Ao35 x105000_1.length co35, .int .i64 x105001_1, .int .i64 x105002_1, .int .i64 x105003_1] 32 (0, 0)) yq91 hb)
        replace BK124 := Qz.mk (qo (g := gb124) (o := .cells #[.slice none 0 0, .int .i64 0, .int .i64 0, .int .i64 0] 32 (0, 0)) yq100 hb)
        replace HK := Qz.mk (KeepBut.trans yq90 (KeepBut.of_below hb g none) (.inl rfl))
        replace HB := Qz.mk (qp yq96 hb)
        replace HI0 := Qz.mk (IsS123.below yq94 hb)
        (try clear hb)
        (try clear hk)
        (try clear hi)
        (try clear ho0)
        refine hK.out _ _ ⟨(qd BK104.out 0).trans rfl, (qd BK104.out 1).trans rfl, (qd BK104.out 2).trans rfl, (qd BK104.out 3).trans rfl⟩ (fun hHeld => ?_)
        clear hK K
        refine norm_ (a' := ?_) ?_ ?_
        rotate_left
        ·show Act.put _ (some 22) _ = _
         simp only [Act.put, sq1, sq2, sq3, i64_w, i32_w]
         rfl
        refine pure_ (i := 5) (N := some 17) (v := ?_) (a' := ?_) bq28 rfl rfl (qz HT_.out (by kernel_rfl)) (fun _ _ _ h => h) (Or.inl ⟨by rfl, ?_⟩) ?_ ?_
        rotate_left
        ·intro w'
         go_simp
         with_reducible rfl
        rotate_left
        ·simp only [Act.put, sq1, sq2, sq3, i64_w, i32_w]
         rfl
        refine pure_ (i := 6) (N := some 23) (v := ?_) (a' := ?_) bq36 rfl rfl (qz HT_.out (by kernel_rfl)) (fun _ _ _ h => h) (Or.inl ⟨by rfl, ?_⟩) ?_ ?_
        rotate_left
        ·intro w'
         go_simp
         with_reducible rfl
        rotate_left
        ·simp only [Act.put, sq1, sq2, sq3, i64_w, i32_w]
         rfl
        refine pure_ (i := 7) (N := some 24) (v := ?_) (a' := ?_) bq43 rfl rfl (qz HT_.out (by kernel_rfl)) (fun _ _ _ h => h) (Or.inl ⟨by rfl, ?_⟩) ?_ ?_
        rotate_left
        ·intro w'
         go_simp
         with_reducible rfl
        rotate_left
        ·simp only [Act.put, sq1, sq2, sq3, i64_w, i32_w]
         rfl
        exact norm_ (by simp only [putAll, Act.put, sq1, sq2, sq3]) (hCont (.slice Ao39 t107.length co39, .slice Ao40 t110.length co40, v118, gb124) _ ⟨hHeld, yq108, yq98, yq107, yq106, yq89, yq91, yq100, GW124.out, GE124.out, NB0_124.out, NB124_0.out, NB101_124.out, NB124_101.out, NB104_124.out, NB124_104.out, yq94, yq90, yq96⟩)
      ·skip
       refine box_step ?hg (N := 5) ?hd (cs := #[.slice none 0 0, .int .i64 0, .int .i64 0, .int .i64 0]) (t := 32) ?hr ?_; (case hd => rfl); (case hg => rfl); (case hr => exact yq116)
       intro gb124 hg w37 hbox hb
       replace HO_105000 := Qz.mk (Kd.R_below yq92 hb)
       replace HB := Qz.mk (qp yq95 hb)
       have BK124 := Qz.mk (hbox)
       have GW124 := Qz.mk ((yq109 : w.heap.size ≤ gb124))
       have GE124 := Qz.mk ((Nat.le_trans HW0.out (yq109 : w.heap.size ≤ gb124) : w0.heap.size ≤ gb124))
       replace HK := Qz.mk (KeepBut.trans yq88 (KeepBut.of_below hb g none) (.inl rfl))
       have NB101_124 := Qz.mk ((yq104 : gb101 ≠ gb124))
       have NB124_101 := Qz.mk ((yq105 : gb124 ≠ gb101))
       replace BK101 := Qz.mk (qo (g := gb101) (o := .cells #[.slice none 0 0, .int .i64 0, .int .i64 0, .int .i64 0] 32 (0, 0)) yq89 hb)
       have NB104_124 := Qz.mk ((yq111 : gb104 ≠ gb124))
       have NB124_104 := Qz.mk ((yq113 : gb124 ≠ gb104))
       replace BK104 := Qz.mk (qo (g := gb104) (o := .cells #[.slice Ao35 x105000_1.length co35, .int .i64 x105001_1, .int .i64 x105002_1, .int .i64 x105003_1] 32 (0, 0)) yq91 hb)
       have NB0_124 := Qz.mk ((by rw [hg]; exact Nat.ne_of_lt (IsS123.lt (show IsS123 w0 _ g s0_0 x1001_1 from by repeat (first | (with_reducible first | exact HI0.out | apply IsS123.alloc | apply IsS123.drewN | apply IsS123.drew | apply IsS123.set_1 | apply (fun h_ => IsS123.far h_ NB0_101.out _) | apply (fun h_ => IsS123.far h_ NB0_104.out _)) | exact HI0.out))) : g ≠ gb124))
       have NB124_0 := Qz.mk ((by rw [hg]; exact Nat.ne_of_gt (IsS123.lt (show IsS123 w0 _ g s0_0 x1001_1 from by repeat (first | (with_reducible first | exact HI0.out | apply IsS123.alloc | apply IsS123.drewN | apply IsS123.drew | apply IsS123.set_1 | apply (fun h_ => IsS123.far h_ NB0_101.out _) | apply (fun h_ => IsS123.far h_ NB0_104.out _)) | exact HI0.out))) : gb124 ≠ g))
       replace HI0 := Qz.mk (IsS123.below yq93 hb)
       clear hb hbox hg
       refine hK.out _ _ ⟨(qd BK104.out 0).trans rfl, (qd BK104.out 1).trans rfl, (qd BK104.out 2).trans rfl, (qd BK104.out 3).trans rfl⟩ (fun hHeld => ?_)
       clear hK K
       refine norm_ (a' := ?_) ?_ ?_
       rotate_left
       ·show Act.put _ (some 5) _ = _
        simp only [Act.put, sq1, sq2, sq3, i64_w, i32_w]
        rfl
       refine one_ (i := 3) (N := some 21) bq19 rfl rfl (one_of HT_.out (by kernel_rfl)) (by decide) (fun K hK => ?_)
       refine goes_ Try.func88 (by kernel_rfl) rfl #[.pointer (some ⟨g, 0, none⟩), .agg #[.slice Ao35 x105000_1.length co35, .int .i64 x105001_1, .int .i64 x105002_1, .int .i64 x105003_1]] (by rfl) rfl rfl yq97 ?_
       with_reducible refine (spec_l1Rd_edit.calls k1 g s0_0 x1001_1 _ _ x105000_1 x105001_1 x105002_1 x105003_1 t107 t110 t113 t114 t115 t116 w0 _ ?side1 ?side2 ?side3 ?side4 A12.out).mono ?_
       (case side1 => exact yq94)
       (case side2 => exact yq96)
       (case side3 => exact Kd.C_foot_own (IsS123.apart (show IsS123 w0 _ g s0_0 x1001_1 from by repeat (first | (with_reducible first | exact HI0.out | apply IsS123.alloc | apply IsS123.drewN | apply IsS123.drew | apply IsS123.set_1 | apply (fun h_ => IsS123.far h_ NB0_101.out _) | apply (fun h_ => IsS123.far h_ NB0_104.out _) | apply (fun h_ => IsS123.far h_ NB0_124.out _)) | exact HI0.out)) yq92 (by decide)) (fun _ h_ => h_.2))
       (case side4 => exact (Kd.R_reads' HO_105000.out).2.1)
       rintro e w38 ⟨v108, v111, rfl, ho0, ho1, hi, hb, hk⟩
       refine ⟨_, rfl, ?_⟩
       replace BK101 := Qz.mk (KeepBut.blk hk (g' := gb101) (o := .cells #[.slice none 0 0, .int .i64 0, .int .i64 0, .int .i64 0] 32 (0, 0)) yq89 NB101_0.out (by simp))
       replace BK104 := Qz.mk (KeepBut.blk hk (g' := gb104) (o := .cells #[.slice Ao35 x105000_1.length co35, .int .i64 x105001_1, .int .i64 x105002_1, .int .i64 x105003_1] 32 (0, 0)) yq91 NB104_0.out (by simp))
       replace BK124 := Qz.mk (KeepBut.blk hk (g' := gb124) (o := .cells #[.slice none 0 0, .int .i64 0, .int .i64 0, .int .i64 0] 32 (0, 0)) yq100 NB124_0.out (by simp))
       have HO109 := Qz.mk (Kd.R_lower (Kd.R_new' ho0 (Kd.R_lt yq92)) (qa1 (w := w) (g := g) (row := none) yq90))
       replace HO_105000 := Qz.mk (Kd.R_mono (Kd.R_told (Kd.R_oldK (IsS123.apart (show IsS123 w0 _ g s0_0 x1001_1 from by repeat (first | (with_reducible first | exact HI0.out | apply IsS123.alloc | apply IsS123.drewN | apply IsS123.drew | apply IsS123.set_1 | apply (fun h_ => IsS123.far h_ NB0_101.out _) | apply (fun h_ => IsS123.far h_ NB0_104.out _) | apply (fun h_ => IsS123.far h_ NB0_124.out _)) | exact HI0.out)) yq92 (by decide)) hk) (Kd.R_base ho0)) (fun _ h_ => h_.1))
       have HO112 := Qz.mk (Kd.R_lower ho1 (qa1 (w := w) (g := g) (row := none) yq90))
       replace HK := Qz.mk (KeepBut.trans yq90 hk (.inl rfl))
       replace HB := Qz.mk (hb)
       replace HI0 := Qz.mk (hi)
       (try clear hb)
       (try clear hk)
       (try clear hi)
       (try clear ho0)
       (try clear ho1)
       obtain ⟨Ao39, co39, eo39⟩ := Kd.R_slice HO109.out
       (first | subst eo39 | (injection eo39 with f1_ f2_ f3_; have f4_ := f1_.symm; have f5_ := f3_.symm; clear f1_ f2_ f3_; subst f4_; subst f5_))
       obtain ⟨Ao40, co40, eo40⟩ := Kd.R_slice HO112.out
       (first | subst eo40 | (injection eo40 with f1_ f2_ f3_; have f4_ := f1_.symm; have f5_ := f3_.symm; clear f1_ f2_ f3_; subst f4_; subst f5_))
       refine hK.out _ _ ⟨(qd BK104.out 0).trans rfl, (qd BK104.out 1).trans rfl, (qd BK104.out 2).trans rfl, (qd BK104.out 3).trans rfl⟩ (fun hHeld => ?_)
       clear hK K
       refine norm_ (a' := ?_) ?_ ?_
       rotate_left
       ·show Act.put _ (some 21) _ = _
        simp only [Act.put, sq1, sq2, sq3, i64_w, i32_w]
        rfl
       refine one_ (i := 4) (N := some 22) bq23 rfl rfl (one_of HT_.out (by kernel_rfl)) (by decide) (fun K hK => ?_)
       refine goes_ Try.func17 (by kernel_rfl) rfl #[.agg #[.slice Ao35 x105000_1.length co35, .int .i64 x105001_1, .int .i64 x105002_1, .int .i64 x105003_1], .agg #[.slice Ao39 t107.length co39, .slice Ao40 t110.length co40, .int .i64 t113, .int .i64 t114, .int .i64 t115]] (by rfl) rfl rfl yq97 ?_
       with_reducible refine (spec_Apply.calls k1 _ _ x105000_1 x105001_1 x105002_1 x105003_1 _ _ t107 _ _ t110 t113 t114 t115 t117 t120 t121 t122 false _ ?side1 ?side2 ?side3 ?side4 ?side5 ?side6 A13.out).mono ?_
       (case side1 => exact yq101)
       (case side2 => exact (Kd.R_reads' HO_105000.out).2.1)
       (case side3 => exact yq103)
       (case side4 => exact (Kd.R_reads' HO109.out).2.1)
       (case side5 => exact yq102)
       (case side6 => exact (Kd.R_reads' HO112.out).2.1)
       rintro e w41 ⟨v118, rfl, ho0, hb⟩
       refine ⟨_, rfl, ?_⟩
       replace HO112 := Qz.mk (Kd.R_below yq98 hb)
       have HO119 := Qz.mk (Kd.R_lower (Kd.R_new' (Kd.R_new' ho0 (Kd.R_lt yq92)) (Kd.R_lt yq99)) (qa1 (w := w) (g := g) (row := none) yq90))
       replace HO_105000 := Qz.mk (Kd.R_elder' yq92 (Kd.R_base ho0) hb)
       replace HO109 := Qz.mk (Kd.R_elder' yq99 (Kd.R_base ho0) hb)
       replace BK101 := Qz.mk (qo (g := gb101) (o := .cells #[.slice none 0 0, .int .i64 0, .int .i64 0, .int .i64 0] 32 (0, 0)) yq89 hb)
       replace BK104 := Qz.mk (qo (g := gb104) (o := .cells #[.slice Ao35 x105000_1.length co35, .int .i64 x105001_1, .int .i64 x105002_1, .int .i64 x105003_1] 32 (0, 0)) yq91 hb)
       replace BK124 := Qz.mk (qo (g := gb124) (o := .cells #[.slice none 0 0, .int .i64 0, .int .i64 0, .int .i64 0] 32 (0, 0)) yq100 hb)
       replace HK := Qz.mk (KeepBut.trans yq90 (KeepBut.of_below hb g none) (.inl rfl))
       replace HB := Qz.mk (qp yq96 hb)
       replace HI0 := Qz.mk (IsS123.below yq94 hb)
       (try clear hb)
       (try clear hk)
       (try clear hi)
       (try clear ho0)
       refine hK.out _ _ ⟨(qd BK104.out 0).trans rfl, (qd BK104.out 1).trans rfl, (qd BK104.out 2).trans rfl, (qd BK104.out 3).trans rfl⟩ (fun hHeld => ?_)
       clear hK K
       refine norm_ (a' := ?_) ?_ ?_
       rotate_left
       ·show Act.put _ (some 22) _ = _
        simp only [Act.put, sq1, sq2, sq3, i64_w, i32_w]
        rfl
       refine pure_ (i := 5) (N := some 17) (v := ?_) (a' := ?_) bq28 rfl rfl (qz HT_.out (by kernel_rfl)) (fun _ _ _ h => h) (Or.inl ⟨by rfl, ?_⟩) ?_ ?_
       rotate_left
       ·intro w'
        go_simp
        with_reducible rfl
       rotate_left
       ·simp only [Act.put, sq1, sq2, sq3, i64_w, i32_w]
        rfl
       refine pure_ (i := 6) (N := some 23) (v := ?_) (a' := ?_) bq36 rfl rfl (qz HT_.out (by kernel_rfl)) (fun _ _ _ h => h) (Or.inl ⟨by rfl, ?_⟩) ?_ ?_
       rotate_left
       ·intro w'
        go_simp
        with_reducible rfl
       rotate_left
       ·simp only [Act.put, sq1, sq2, sq3, i64_w, i32_w]
        rfl
       refine pure_ (i := 7) (N := some 24) (v := ?_) (a' := ?_) bq43 rfl rfl (qz HT_.out (by kernel_rfl)) (fun _ _ _ h => h) (Or.inl ⟨by rfl, ?_⟩) ?_ ?_
       rotate_left
       ·intro w'
        go_simp
        with_reducible rfl
       rotate_left
       ·simp only [Act.put, sq1, sq2, sq3, i64_w, i32_w]
        rfl
       exact norm_ (by simp only [putAll, Act.put, sq1, sq2, sq3]) (hCont (.slice Ao39 t107.length co39, .slice Ao40 t110.length co40, v118, gb124) _ ⟨hHeld, yq108, yq98, yq107, yq106, yq89, yq91, yq100, GW124.out, GE124.out, NB0_124.out, NB124_0.out, NB101_124.out, NB124_101.out, NB104_124.out, NB124_104.out, yq94, yq90, yq96⟩)
     rintro ⟨v108, v111, v118, gb124⟩ w42 ⟨hS_, h0_, h1_, h2_, h3_, h4_, h5_, h6_, h7_, h8_, h9_, h10_, h11_, h12_, h13_, h14_, h15_, h16_, h17_⟩
     have n0_ : Qz (Kd.R k66 66 w42 w.heap.size (fun k_ => some k_ ≠ (v118 : Value).ownBlock ∧ some k_ ≠ (.slice Ao35 x105000_1.length co35 : Value).ownBlock) v108 t107) := ⟨h0_⟩
     have n1_ : Qz (Kd.R (Kd.int .i64) 2 w42 w.heap.size (fun _ => True) v111 t110) := ⟨h1_⟩
     have n2_ : Qz (Kd.R k66 66 w42 w.heap.size (fun k_ => some k_ ≠ (v108 : Value).ownBlock ∧ some k_ ≠ (.slice Ao35 x105000_1.length co35 : Value).ownBlock) v118 t117) := ⟨h2_⟩
     have n3_ : Qz (Kd.R k66 66 w42 w.heap.size (fun k_ => some k_ ≠ (v108 : Value).ownBlock ∧ some k_ ≠ (v118 : Value).ownBlock) (.slice Ao35 x105000_1.length co35) x105000_1) := ⟨h3_⟩
     have n4_ : Qz (w42.heap[gb101]? = some (.cells #[.slice none 0 0, .int .i64 0, .int .i64 0, .int .i64 0] 32 (0, 0))) := ⟨h4_⟩
     have n5_ : Qz (w42.heap[gb104]? = some (.cells #[.slice Ao35 x105000_1.length co35, .int .i64 x105001_1, .int .i64 x105002_1, .int .i64 x105003_1] 32 (0, 0))) := ⟨h5_⟩
     have n6_ : Qz (w42.heap[gb124]? = some (.cells #[.slice none 0 0, .int .i64 0, .int .i64 0, .int .i64 0] 32 (0, 0))) := ⟨h6_⟩
     have n7_ : Qz (w.heap.size ≤ gb124) := ⟨h7_⟩
     have n8_ : Qz (w0.heap.size ≤ gb124) := ⟨h8_⟩
     have n9_ : Qz (g ≠ gb124) := ⟨h9_⟩
     have n10_ : Qz (gb124 ≠ g) := ⟨h10_⟩
     have n11_ : Qz (gb101 ≠ gb124) := ⟨h11_⟩
     have n12_ : Qz (gb124 ≠ gb101) := ⟨h12_⟩
     have n13_ : Qz (gb104 ≠ gb124) := ⟨h13_⟩
     have n14_ : Qz (gb124 ≠ gb104) := ⟨h14_⟩
     have n15_ : Qz (IsS123 w0 w42 g s0_0 t116) := ⟨h15_⟩
     have n16_ : Qz (KeepBut w w42 g none) := ⟨h16_⟩
     have n17_ : Qz (Below w0.heap.size w0 w42) := ⟨h17_⟩
     clear HO_105000
     clear BK101
     clear BK104
     clear HI0
     clear HK
     clear HB
     clear h0_ h1_ h2_ h3_ h4_ h5_ h6_ h7_ h8_ h9_ h10_ h11_ h12_ h13_ h14_ h15_ h16_ h17_
     have HO109 := n0_
     have HO112 := n1_
     have HO119 := n2_
     have HO_105000 := n3_
     have BK101 := n4_
     have BK104 := n5_
     have BK124 := n6_
     have GW124 := n7_
     have GE124 := n8_
     have NB0_124 := n9_
     have NB124_0 := n10_
     have NB101_124 := n11_
     have NB124_101 := n12_
     have NB104_124 := n13_
     have NB124_104 := n14_
     have HI0 := n15_
     have HK := n16_
     have HB := n17_
     clear n0_ n1_ n2_ n3_ n4_ n5_ n6_ n7_ n8_ n9_ n10_ n11_ n12_ n13_ n14_ n15_ n16_ n17_
     have hHeld : w42.cell? ⟨gb104, 0, none⟩ = some (.slice Ao35 x105000_1.length co35) ∧ w42.cell? ⟨gb104, 1, none⟩ = some (.int .i64 x105001_1) ∧ w42.cell? ⟨gb104, 2, none⟩ = some (.int .i64 x105002_1) ∧ w42.cell? ⟨gb104, 3, none⟩ = some (.int .i64 x105003_1) := hS_
     obtain ⟨Ao43, co43, eo43⟩ := Kd.R_slice HO119.out
     (first | subst eo43 | (injection eo43 with f1_ f2_ f3_; have f4_ := f1_.symm; have f5_ := f3_.symm; clear f1_ f2_ f3_; subst f4_; subst f5_))
     refine norm_ (a' := ?_) ?_ ?_
     rotate_left
     ·simp only [putAll, Act.put, sq1, sq2, sq3]
      rfl
     refine one_ (i := 9) (N := none) bq47 rfl rfl (one_of HT_.out (by kernel_rfl)) (by decide) (fun K hK => ?_)
     have hs44 : w42.cell? ⟨gb124, 0, none⟩ = some (.slice none 0 0) := (qd BK124.out 0).trans rfl
     have hfs44 := qe BK124.out 0
     have hns44_0 := NB101_124.out
     have hns44_1 := NB104_124.out
     have hms44_0 := NB124_101.out
     have hms44_1 := NB124_104.out
     have hs45 : w42.cell? ⟨gb124, 1, none⟩ = some (.int .i64 0) := (qd BK124.out 1).trans rfl
     have hfs45 := qe BK124.out 1
     have hns45_0 := NB101_124.out
     have hns45_1 := NB104_124.out
     have hms45_0 := NB124_101.out
     have hms45_1 := NB124_104.out
     have hs46 : w42.cell? ⟨gb124, 2, none⟩ = some (.int .i64 0) := (qd BK124.out 2).trans rfl
     have hfs46 := qe BK124.out 2
     have hns46_0 := NB101_124.out
     have hns46_1 := NB104_124.out
     have hms46_0 := NB124_101.out
     have hms46_1 := NB124_104.out
     have hs47 : w42.cell? ⟨gb124, 3, none⟩ = some (.int .i64 0) := (qd BK124.out 3).trans rfl
     have hfs47 := qe BK124.out 3
     have hns47_0 := NB101_124.out
     have hns47_1 := NB104_124.out
     have hms47_0 := NB124_101.out
     have hms47_1 := NB124_104.out
     refine skip_ (w1 := ?_) (by rfl) rfl ?_ ?_
     rotate_left
     ·go_simp
      rfl
     refine hK.out _ _ ⟨((qx (p := ⟨gb124, _, none⟩) NB104_124.out _).trans (((qx (p := ⟨gb124, _, none⟩) NB104_124.out _).trans (((qx (p := ⟨gb124, _, none⟩) NB104_124.out _).trans (((qx (p := ⟨gb124, _, none⟩) NB104_124.out _).trans (hHeld.1)))))))), ((qx (p := ⟨gb124, _, none⟩) NB104_124.out _).trans (((qx (p := ⟨gb124, _, none⟩) NB104_124.out _).trans (((qx (p := ⟨gb124, _, none⟩) NB104_124.out _).trans (((qx (p := ⟨gb124, _, none⟩) NB104_124.out _).trans (hHeld.2.1)))))))), ((qx (p := ⟨gb124, _, none⟩) NB104_124.out _).trans (((qx (p := ⟨gb124, _, none⟩) NB104_124.out _).trans (((qx (p := ⟨gb124, _, none⟩) NB104_124.out _).trans (((qx (p := ⟨gb124, _, none⟩) NB104_124.out _).trans (hHeld.2.2.1)))))))), ((qx (p := ⟨gb124, _, none⟩) NB104_124.out _).trans (((qx (p := ⟨gb124, _, none⟩) NB104_124.out _).trans (((qx (p := ⟨gb124, _, none⟩) NB104_124.out _).trans (((qx (p := ⟨gb124, _, none⟩) NB104_124.out _).trans (hHeld.2.2.2))))))))⟩ (fun hHeld => ?_)
     clear hK K
     refine pure_ (i := 10) (N := some 6) (v := ?_) (a' := ?_) bq62 rfl rfl (qz HT_.out (by kernel_rfl)) (fun _ _ _ h => h) (Or.inl ⟨by rfl, ?_⟩) ?_ ?_
     rotate_left
     ·intro w'
      go_simp
      with_reducible rfl
     rotate_left
     ·simp only [Act.put, sq1, sq2, sq3, i64_w, i32_w]
      rfl
     refine done_ (done_of HT_.out (by kernel_rfl)) ?_
     try go_wp2
     go_roundg k1
     case measure => have := HK1.out; omega
     case rel => exact ⟨(wrap64 (x4_1 - 1)), (t116), (x105000_1), (x105001_1), (x105002_1), (x105003_1), (.slice Ao35 x105000_1.length co35), (by first | rfl | (simp; done) | (simp [*]; done)), H', ⟨by have := HK1.out; omega⟩, ⟨by (with_reducible repeat (first | apply Kd.R_alloc | apply Kd.R_drewN | apply Kd.R_drew)); exact Kd.R_mono (Kd.R_far (p := ⟨gb124, 3, none⟩) (Kd.R_far (p := ⟨gb124, 2, none⟩) (Kd.R_far (p := ⟨gb124, 1, none⟩) (Kd.R_far (p := ⟨gb124, 0, none⟩) (Kd.R_types HO_105000.out BK124.out (by decide)) (fun _ hk => hk.2) (.slice Ao43 t117.length co43)) (fun _ hk => hk.2) (.int .i64 t120)) (fun _ hk => hk.2) (.int .i64 t121)) (fun _ hk => hk.2) (.int .i64 t122)) (fun _ hk => trivial)⟩, ⟨by (with_reducible repeat (first | refine qb ?_ _ | refine qc ?_ | refine qa ?_ _)); refine qq ?_ NB101_124.out _; (with_reducible repeat (first | refine qb ?_ _ | refine qc ?_ | refine qa ?_ _)); refine qq ?_ NB101_124.out _; (with_reducible repeat (first | refine qb ?_ _ | refine qc ?_ | refine qa ?_ _)); refine qq ?_ NB101_124.out _; (with_reducible repeat (first | refine qb ?_ _ | refine qc ?_ | refine qa ?_ _)); refine qq ?_ NB101_124.out _; (with_reducible repeat (first | refine qb ?_ _ | refine qc ?_ | refine qa ?_ _)); exact BK101.out⟩, ⟨by (with_reducible repeat (first | refine qb ?_ _ | refine qc ?_ | refine qa ?_ _)); refine qq ?_ NB104_124.out _; (with_reducible repeat (first | refine qb ?_ _ | refine qc ?_ | refine qa ?_ _)); refine qq ?_ NB104_124.out _; (with_reducible repeat (first | refine qb ?_ _ | refine qc ?_ | refine qa ?_ _)); refine qq ?_ NB104_124.out _; (with_reducible repeat (first | refine qb ?_ _ | refine qc ?_ | refine qa ?_ _)); refine qq ?_ NB104_124.out _; (with_reducible repeat (first | refine qb ?_ _ | refine qc ?_ | refine qa ?_ _)); exact BK104.out⟩, ⟨by repeat (first | (with_reducible first | exact HI0.out | apply IsS123.alloc | apply IsS123.drewN | apply IsS123.drew | apply IsS123.set_1 | apply (fun h_ => IsS123.far h_ NB0_101.out _) | apply (fun h_ => IsS123.far h_ NB0_104.out _) | apply (fun h_ => IsS123.far h_ NB0_124.out _)) | exact HI0.out)⟩, ⟨by repeat (first | (with_reducible first | exact HK.out | apply KeepBut.set_ | apply qk | apply qn | apply ql | refine qj ?_ GW101.out _ | refine qj ?_ GW104.out _ | refine qj ?_ GW124.out _) | exact HK.out)⟩, ⟨by repeat (first | (with_reducible first | exact HB.out | apply qi | apply qg | apply qh | refine qf ?_ (IsS123.ge HI0.out) | refine qf ?_ GE101.out | refine qf ?_ GE104.out | refine qf ?_ GE124.out) | exact HB.out)⟩⟩
   ·rw [if_neg c11] at H
    have c11b0 : decide (0 < x4_1) = false := decide_eq_false c11
    clear c11
    replace H := Option.bind_eq_some_iff.mp H
    obtain ⟨⟨t125, t126⟩, A480, H⟩ := H
    replace H : (if t125 = true then ((spec_l1Rd_meta.f k1 s0_0 t126).bind fun bt127 => (if x105000_1.length < 2513169434916 then (some ((x105000_1 ++ [(⟨bt127.1, bt127.2.1, bt127.2.2.1, bt127.2.2.2.1, bt127.2.2.2.2.1⟩ : S66)]), x105001_1, x105002_1, x105003_1, bt127.2.2.2.2.2)) else (none))) else (some (x105000_1, x105001_1, x105002_1, x105003_1, t126))) = some (r1, r2, r3, r4, r5) := H
    have A48 := Qz.mk A480
    clear A480
    by_cases c49 : t125 = true
    ·subst c49
     have H1 : ((spec_l1Rd_meta.f k1 s0_0 t126).bind fun bt127 => (if x105000_1.length < 2513169434916 then (some ((x105000_1 ++ [(⟨bt127.1, bt127.2.1, bt127.2.2.1, bt127.2.2.2.1, bt127.2.2.2.2.1⟩ : S66)]), x105001_1, x105002_1, x105003_1, bt127.2.2.2.2.2)) else (none))) = some (r1, r2, r3, r4, r5) := by rw [if_pos rfl] at H; exact H
     clear H
     have H := H1
     clear H1
     replace H := Option.bind_eq_some_iff.mp H
     obtain ⟨⟨t127, t128, t129, t130, t131, t132⟩, A500, H⟩ := H
     replace H : (if x105000_1.length < 2513169434916 then (some ((x105000_1 ++ [(⟨t127, t128, t129, t130, t131⟩ : S66)]), x105001_1, x105002_1, x105003_1, t132)) else (none)) = some (r1, r2, r3, r4, r5) := H
     have A50 := Qz.mk A500
     clear A500
     by_cases c51 : x105000_1.length < 2513169434916
     ·rw [if_pos c51] at H
      have LMc51 := Qz.mk c51
      clear c51
      obtain ⟨y133, hy133⟩ : ∃ y_ : List (S66), y_ = (x105000_1 ++ [(⟨t127, t128, t129, t130, t131⟩ : S66)]) := ⟨_, rfl⟩
      replace H : (some (y133, x105001_1, x105002_1, x105003_1, t132)) = some (r1, r2, r3, r4, r5) := by first | (rw [hy133]; with_reducible exact H) | (have H2_ := (Option.bind_some _ _).symm.trans H; rw [hy133]; with_reducible exact H2_) | (have H2_ := (Option.bind_some _ _).symm.trans H; with_reducible exact H2_) | with_reducible exact H | (rw [hy133]; exact H) | exact H
      have Ny133 := Qz.mk hy133
      clear hy133
      simp only [Option.some.injEq, Prod.mk.injEq] at H
      obtain ⟨rfl, rfl, rfl, rfl, rfl⟩ := H
      try go_wp2_with (first | ((with_reducible refine qr (f := 73) rfl ?_); refine goesL_ (some 28) rfl rfl Try.func73 (by kernel_rfl) rfl #[.pointer (some ⟨g, 0, none⟩), .int .i64 16] rfl yq115 ?_; (with_reducible refine (spec_l1Rd_once.calls g s0_0 x1001_1 16 true t126 w0 _ ?side1 ?side2 A48.out).mono ?_); (case side1 => exact yq93); (case side2 => exact yq95); rintro e w52 ⟨rfl, hi, hb, hk⟩; refine ⟨_, rfl, ?_⟩; replace HO_105000 := Qz.mk (Kd.R_mono (Kd.R_keep (IsS123.apart (show IsS123 w0 _ g s0_0 x1001_1 from by repeat (first | (with_reducible first | exact HI0.out | apply IsS123.alloc | apply IsS123.drewN | apply IsS123.drew | apply IsS123.set_1 | apply (fun h_ => IsS123.far h_ NB0_101.out _) | apply (fun h_ => IsS123.far h_ NB0_104.out _)) | exact HI0.out)) yq92 (by decide)) hk (fun _ h => h.2)) (fun _ h => h.1)); replace BK101 := Qz.mk (KeepBut.blk hk (g' := gb101) (o := .cells #[.slice none 0 0, .int .i64 0, .int .i64 0, .int .i64 0] 32 (0, 0)) yq89 NB101_0.out (by simp)); replace BK104 := Qz.mk (KeepBut.blk hk (g' := gb104) (o := .cells #[u105000, .int .i64 x105001_1, .int .i64 x105002_1, .int .i64 x105003_1] 32 (0, 0)) yq91 NB104_0.out (by simp)); replace HK := Qz.mk (KeepBut.trans yq88 hk (.inl rfl)); replace HB := Qz.mk (hb); replace HI0 := Qz.mk (hi); (try clear hb); (try clear hk); (try clear hi)))
      replace HO_105000 := Qz.mk (Kd.R_drew HO_105000.out)
      replace BK101 := Qz.mk (qc BK101.out)
      replace BK104 := Qz.mk (qc BK104.out)
      replace HI0 := Qz.mk (IsS123.drew HI0.out)
      replace HK := Qz.mk (qn HK.out)
      replace HB := Qz.mk (qh HB.out)
      refine start_ (n := 8) (S := fun w' => w'.cell? ⟨gb104, 0, none⟩ = some (u105000) ∧ w'.cell? ⟨gb104, 1, none⟩ = some (.int .i64 x105001_1) ∧ w'.cell? ⟨gb104, 2, none⟩ = some (.int .i64 x105002_1) ∧ w'.cell? ⟨gb104, 3, none⟩ = some (.int .i64 x105003_1)) (ds := [7]) bq3 (by kernel_rfl) rfl rfl ⟨(qd BK104.out 0).trans rfl, (qd BK104.out 1).trans rfl, (qd BK104.out 2).trans rfl, (qd BK104.out 3).trans rfl⟩ (fun hHeld => ?_); refine with_tabW spec_l1Rd_version.tab9 spec_l1Rd_version.bits9 (fun HT_ HW_ => ?_)
      generalize w52.drew = w53 at HO_105000 BK101 BK104 HI0 HK HB hHeld ⊢
      refine pure_ (i := 0) (N := some 29) (v := ?_) (a' := ?_) bq7 rfl rfl (qz HT_.out (by kernel_rfl)) (fun _ _ _ h => h) (Or.inl ⟨by rfl, ?_⟩) ?_ ?_
      rotate_left
      ·intro w'
       go_simp
       with_reducible rfl
      rotate_left
      ·simp only [Act.put, sq1, sq2, sq3, i64_w, i32_w]
       rfl
      refine pure_ (i := 2) (N := some 31) (v := ?_) (a' := ?_) bq8 rfl rfl (qz HT_.out (by kernel_rfl)) (fun _ _ _ h => h) (Or.inl ⟨by rfl, ?_⟩) ?_ ?_
      rotate_left
      ·intro w'
       go_simp
       with_reducible rfl
      rotate_left
      ·simp only [Act.put, sq1, sq2, sq3, i64_w, i32_w]
       rfl
      refine take_ (i := 1) (N := some 30) (v := ?_) (a' := ?_) bq16 rfl rfl (take_ofW HT_.out HW_.out (by kernel_rfl)) (fun _ _ _ h => h) (Or.inl ⟨by rfl, ?_⟩) hHeld ?_ ?_
      rotate_left
      ·rintro w' ⟨s0, s1, s2, s3⟩
       go_simp
       with_reducible rfl
      rotate_left
      ·simp only [Act.put, sq1, sq2, sq3, i64_w, i32_w]
       rfl
      refine one_ (i := 3) (N := some 32) bq20 rfl rfl (one_of HT_.out (by kernel_rfl)) (by decide) (fun K hK => ?_)
      refine goes_ Try.func103 (by kernel_rfl) rfl #[.pointer (some ⟨g, 0, none⟩)] (by rfl) rfl rfl yq115 ?_
      with_reducible refine (spec_l1Rd_meta.calls k1 g s0_0 t126 t127 t128 t129 t130 t131 t132 w0 _ ?side1 ?side2 A50.out).mono ?_
      (case side1 => exact yq93)
      (case side2 => exact yq95)
      rintro e w54 ⟨rfl, hi, hb, hk⟩
      refine ⟨_, rfl, ?_⟩
      replace HO_105000 := Qz.mk (Kd.R_mono (Kd.R_keep (IsS123.apart (show IsS123 w0 _ g s0_0 t126 from by repeat (first | (with_reducible first | exact HI0.out | apply IsS123.alloc | apply IsS123.drewN | apply IsS123.drew | apply IsS123.set_1 | apply (fun h_ => IsS123.far h_ NB0_101.out _) | apply (fun h_ => IsS123.far h_ NB0_104.out _)) | exact HI0.out)) yq92 (by decide)) hk (fun _ h => h.2)) (fun _ h => h.1))
      replace BK101 := Qz.mk (KeepBut.blk hk (g' := gb101) (o := .cells #[.slice none 0 0, .int .i64 0, .int .i64 0, .int .i64 0] 32 (0, 0)) yq89 NB101_0.out (by simp))
      replace BK104 := Qz.mk (KeepBut.blk hk (g' := gb104) (o := .cells #[u105000, .int .i64 x105001_1, .int .i64 x105002_1, .int .i64 x105003_1] 32 (0, 0)) yq91 NB104_0.out (by simp))
      replace HK := Qz.mk (KeepBut.trans yq88 hk (.inl rfl))
      replace HB := Qz.mk (hb)
      replace HI0 := Qz.mk (hi)
      (try clear hb)
      (try clear hk)
      (try clear hi)
      refine hK.out _ _ ⟨(qd BK104.out 0).trans rfl, (qd BK104.out 1).trans rfl, (qd BK104.out 2).trans rfl, (qd BK104.out 3).trans rfl⟩ (fun hHeld => ?_)
      clear hK K
      refine norm_ (a' := ?_) ?_ ?_
      rotate_left
      ·show Act.put _ (some 32) _ = _
       simp only [Act.put, sq1, sq2, sq3, i64_w, i32_w]
       rfl
      refine one_ (i := 4) (N := some 33) bq24 rfl rfl (one_of HT_.out (by kernel_rfl)) (by decide) (fun K hK => ?_)
      refine value_ (w1 := ?_) (v := ?_) (by rfl) rfl ?_ ?_
      rotate_left 2
      ·go_simp
       constructor
       ·rfl
       ·rfl
      refine hK.out _ _ ⟨(qd (qa BK104.out _) 0).trans rfl, (qd (qa BK104.out _) 1).trans rfl, (qd (qa BK104.out _) 2).trans rfl, (qd (qa BK104.out _) 3).trans rfl⟩ (fun hHeld => ?_)
      clear hK K
      refine norm_ (a' := ?_) ?_ ?_
      rotate_left
      ·show Act.put _ (some 33) _ = _
       simp only [Act.put, sq1, sq2, sq3, i64_w, i32_w]
       rfl
      refine one_ (i := 5) (N := some 34) bq29 rfl rfl (one_of HT_.out (by kernel_rfl)) (by decide) (fun K hK => ?_)
      refine Kd.R_append_step k66 w.heap.size (by rfl) (.tmp 30) (.tmp 33) 30 66 (.agg #[(.int .i64 0), (.int .i64 0), (.string ⟨#[]⟩), (.string ⟨#[]⟩), (.int .i64 0)]) 56 rfl Try.underlying30 info66 rfl (by decide) (by omega) u105000 x105000_1 (⟨t127, t128, t129, t130, t131⟩ : S66) [.int .i64 t127, .int .i64 t128, .string t129, .string t130, .int .i64 t131] (fun _ => True) (fun _ => False) rfl rfl ?aP (fun _ hk => hk.elim) ?aF ?aO (Below.refl _ _) ?aS ?aL ?_
      (case aP => exact k66_mkM _ _ _ (⟨t127, t128, t129, t130, t131⟩ : S66))
      (case aF => exact (fun _ _ => trivial))
      (case aO => exact yq92)
      (case aS => exact (qa1 (w := w) (g := g) (row := none) yq88))
      (case aL => have := LMc51.out; omega)
      intro v134 w55 ho hb hg hat
      rw [← Ny133.out] at ho
      have n0_ := Qz.mk (qd1 (g := gb101) (o := .cells #[.slice none 0 0, .int .i64 0, .int .i64 0, .int .i64 0] 32 (0, 0)) yq89 hg (Kd.R_ne HO_105000.out BK101.out (by decide)))
      have n1_ := Qz.mk (qd1 (g := gb104) (o := .cells #[u105000, .int .i64 x105001_1, .int .i64 x105002_1, .int .i64 x105003_1] 32 (0, 0)) yq91 hg (Kd.R_ne HO_105000.out BK104.out (by decide)))
      have n2_ := Qz.mk (IsS123.grown yq93 hg (IsS123.own_ne HI0.out HO_105000.out (by decide)))
      have n3_ := Qz.mk (below_weaken yq95 HL.out hb)
      have n4_ := Qz.mk (KeepBut.trans yq88 (KeepBut.of_grown hg g) (Kd.R_base2 HO_105000.out))
      have n5_ := Qz.mk (ho)
      clear BK101
      clear BK104
      clear HI0
      clear HB
      clear HK
      clear HO_105000
      have BK101 := n0_
      have BK104 := n1_
      have HI0 := n2_
      have HB := n3_
      have HK := n4_
      have HO135 := n5_
      clear n0_ n1_ n2_ n3_ n4_ n5_
      clear ho hb hg hat
      obtain ⟨Ao56, co56, eo56⟩ := Kd.R_slice HO135.out
      (first | subst eo56 | (injection eo56 with f1_ f2_ f3_; have f4_ := f1_.symm; have f5_ := f3_.symm; clear f1_ f2_ f3_; subst f4_; subst f5_))
      refine hK.out _ _ ⟨(qd BK104.out 0).trans rfl, (qd BK104.out 1).trans rfl, (qd BK104.out 2).trans rfl, (qd BK104.out 3).trans rfl⟩ (fun hHeld => ?_)
      clear hK K
      refine norm_ (a' := ?_) ?_ ?_
      rotate_left
      ·show Act.put _ (some 34) _ = _
       simp only [Act.put, sq1, sq2, sq3, i64_w, i32_w]
       rfl
      refine pure_ (i := 6) (N := some 35) (v := ?_) (a' := ?_) bq37 rfl rfl (qz HT_.out (by kernel_rfl)) (fun _ _ _ h => h) (Or.inl ⟨by rfl, ?_⟩) ?_ ?_
      rotate_left
      ·intro w'
       go_simp
       with_reducible rfl
      rotate_left
      ·simp only [Act.put, sq1, sq2, sq3, i64_w, i32_w]
       rfl
      refine last_ (i := 7) (N := none) bq63 rfl rfl (one_of HT_.out (by kernel_rfl)) (by decide) (fun K hK => ?_)
      have hs57 : w55.cell? ⟨gb104, 0, none⟩ = some (u105000) := (qd BK104.out 0).trans rfl
      have hfs57 := qe BK104.out 0
      have hns57_0 := NB101_104.out
      have hms57_0 := NB104_101.out
      refine skip_ (w1 := ?_) (by rfl) rfl ?_ ?_
      rotate_left
      ·go_simp
       rfl
      refine hK.out _ _ ?_
      clear hK K
      refine done_ (done_of HT_.out (by kernel_rfl)) ?_
      have hnb58 := NB104_101.out
      have hnc58 := NB101_104.out
      have hnb59 := NB104_0.out
      have hnc59 := NB0_104.out
      have hcz60_0 := (qd BK104.out 0).trans rfl
      have hcz60_1 := (qd BK104.out 1).trans rfl
      have hcz60_2 := (qd BK104.out 2).trans rfl
      have hcz60_3 := (qd BK104.out 3).trans rfl
      have hfz60_0 := qe BK104.out 0
      have hfz60_1 := qe BK104.out 1
      have hfz60_2 := qe BK104.out 2
      have hfz60_3 := qe BK104.out 3
      have hnb61 := NB101_0.out
      have hnc61 := NB0_101.out
      have hcz62_0 := (qd BK101.out 0).trans rfl
      have hcz62_1 := (qd BK101.out 1).trans rfl
      have hcz62_2 := (qd BK101.out 2).trans rfl
      have hcz62_3 := (qd BK101.out 3).trans rfl
      have hfz62_0 := qe BK101.out 0
      have hfz62_1 := qe BK101.out 1
      have hfz62_2 := qe BK101.out 2
      have hfz62_3 := qe BK101.out 3
      try go_wp2
      refine bodyPost_ret (results_cell_row rfl _ _ gb101 32 #[.slice Ao56 y133.length co56, .int .i64 x105001_1, .int .i64 x105002_1, .int .i64 x105003_1] (0, 0) _ rfl (by (with_reducible repeat (first | refine qb ?_ _ | refine qc ?_ | refine qa ?_ _)); refine qt (cs := #[.slice Ao56 y133.length co56, .int .i64 x105001_1, .int .i64 x105002_1, .int .i64 0]) ?_ 3 _ rfl; (with_reducible repeat (first | refine qb ?_ _ | refine qc ?_ | refine qa ?_ _)); refine qt (cs := #[.slice Ao56 y133.length co56, .int .i64 x105001_1, .int .i64 0, .int .i64 0]) ?_ 2 _ rfl; (with_reducible repeat (first | refine qb ?_ _ | refine qc ?_ | refine qa ?_ _)); refine qt (cs := #[.slice Ao56 y133.length co56, .int .i64 0, .int .i64 0, .int .i64 0]) ?_ 1 _ rfl; (with_reducible repeat (first | refine qb ?_ _ | refine qc ?_ | refine qa ?_ _)); refine qt (cs := #[.slice none 0 0, .int .i64 0, .int .i64 0, .int .i64 0]) ?_ 0 _ rfl; (with_reducible repeat (first | refine qb ?_ _ | refine qc ?_ | refine qa ?_ _)); refine qq ?_ NB101_104.out _; (with_reducible repeat (first | refine qb ?_ _ | refine qc ?_ | refine qa ?_ _)); exact BK101.out) Try.underlying32 rfl (by kernel_rfl)) rfl ?_
      exact ⟨_, by first | rfl | (simp [qw, qv] <;> rfl) | (simp [*, qw, qv] <;> rfl), by (with_reducible repeat (first | apply Kd.R_alloc | apply Kd.R_drewN | apply Kd.R_drew)); exact Kd.R_mono (Kd.R_far (p := ⟨gb101, 3, none⟩) (Kd.R_far (p := ⟨gb101, 2, none⟩) (Kd.R_far (p := ⟨gb101, 1, none⟩) (Kd.R_far (p := ⟨gb101, 0, none⟩) (Kd.R_far (p := ⟨gb104, 0, none⟩) (Kd.R_types (Kd.R_types HO135.out BK104.out (by decide)) BK101.out (by decide)) (fun _ hk => hk.1.2) (.slice Ao56 y133.length co56)) (fun _ hk => hk.2) (.slice Ao56 y133.length co56)) (fun _ hk => hk.2) (.int .i64 x105001_1)) (fun _ hk => hk.2) (.int .i64 x105002_1)) (fun _ hk => hk.2) (.int .i64 x105003_1)) (fun _ hk => trivial), by repeat (first | (with_reducible first | exact HI0.out | apply IsS123.alloc | apply IsS123.drewN | apply IsS123.drew | apply IsS123.set_1 | apply (fun h_ => IsS123.far h_ NB0_101.out _) | apply (fun h_ => IsS123.far h_ NB0_104.out _)) | exact HI0.out), by repeat (first | (with_reducible first | exact HB.out | apply qi | apply qg | apply qh | refine qf ?_ (IsS123.ge HI0.out) | refine qf ?_ GE101.out | refine qf ?_ GE104.out) | exact HB.out), by repeat (first | (with_reducible first | exact HK.out | apply KeepBut.set_ | apply qk | apply qn | apply ql | refine qj ?_ GW101.out _ | refine qj ?_ GW104.out _) | exact HK.out)⟩
     ·rw [if_neg c51] at H
      exact absurd H (by simp)
    ·replace c49 := Bool.eq_false_iff.mpr c49
     subst c49
     have H1 : (some (x105000_1, x105001_1, x105002_1, x105003_1, t126)) = some (r1, r2, r3, r4, r5) := by rw [if_neg (show ¬ (false = true) by decide)] at H; exact H
     clear H
     have H := H1
     clear H1
     simp only [Option.some.injEq, Prod.mk.injEq] at H
     obtain ⟨rfl, rfl, rfl, rfl, rfl⟩ := H
     go_wp2_with (first | ((with_reducible refine qr (f := 73) rfl ?_); refine goesL_ (some 28) rfl rfl Try.func73 (by kernel_rfl) rfl #[.pointer (some ⟨g, 0, none⟩), .int .i64 16] rfl yq115 ?_; (with_reducible refine (spec_l1Rd_once.calls g s0_0 x1001_1 16 false t126 w0 _ ?side1 ?side2 A48.out).mono ?_); (case side1 => exact yq93); (case side2 => exact yq95); rintro e w63 ⟨rfl, hi, hb, hk⟩; refine ⟨_, rfl, ?_⟩; replace HO_105000 := Qz.mk (Kd.R_mono (Kd.R_keep (IsS123.apart (show IsS123 w0 _ g s0_0 x1001_1 from by repeat (first | (with_reducible first | exact HI0.out | apply IsS123.alloc | apply IsS123.drewN | apply IsS123.drew | apply IsS123.set_1 | apply (fun h_ => IsS123.far h_ NB0_101.out _) | apply (fun h_ => IsS123.far h_ NB0_104.out _)) | exact HI0.out)) yq92 (by decide)) hk (fun _ h => h.2)) (fun _ h => h.1)); replace BK101 := Qz.mk (KeepBut.blk hk (g' := gb101) (o := .cells #[.slice none 0 0, .int .i64 0, .int .i64 0, .int .i64 0] 32 (0, 0)) yq89 NB101_0.out (by simp)); replace BK104 := Qz.mk (KeepBut.blk hk (g' := gb104) (o := .cells #[u105000, .int .i64 x105001_1, .int .i64 x105002_1, .int .i64 x105003_1] 32 (0, 0)) yq91 NB104_0.out (by simp)); replace HK := Qz.mk (KeepBut.trans yq88 hk (.inl rfl)); replace HB := Qz.mk (hb); replace HI0 := Qz.mk (hi); (try clear hb); (try clear hk); (try clear hi); have hnb64 := NB104_101.out; have hnc64 := NB101_104.out; have hnb65 := NB104_0.out; have hnc65 := NB0_104.out; have hcz66_0 := (qd BK104.out 0).trans rfl; have hcz66_1 := (qd BK104.out 1).trans rfl; have hcz66_2 := (qd BK104.out 2).trans rfl; have hcz66_3 := (qd BK104.out 3).trans rfl; have hfz66_0 := qe BK104.out 0; have hfz66_1 := qe BK104.out 1; have hfz66_2 := qe BK104.out 2; have hfz66_3 := qe BK104.out 3; obtain ⟨Ao67, co67, eo67⟩ := Kd.R_slice HO_105000.out; subst eo67; have hnb68 := NB101_0.out; have hnc68 := NB0_101.out; have hcz69_0 := (qd BK101.out 0).trans rfl; have hcz69_1 := (qd BK101.out 1).trans rfl; have hcz69_2 := (qd BK101.out 2).trans rfl; have hcz69_3 := (qd BK101.out 3).trans rfl; have hfz69_0 := qe BK101.out 0; have hfz69_1 := qe BK101.out 1; have hfz69_2 := qe BK101.out 2; have hfz69_3 := qe BK101.out 3))
     refine bodyPost_ret (results_cell_row rfl _ _ gb101 32 #[.slice Ao67 x105000_1.length co67, .int .i64 x105001_1, .int .i64 x105002_1, .int .i64 x105003_1] (0, 0) _ rfl (by (with_reducible repeat (first | refine qb ?_ _ | refine qc ?_ | refine qa ?_ _)); refine qt (cs := #[.slice Ao67 x105000_1.length co67, .int .i64 x105001_1, .int .i64 x105002_1, .int .i64 0]) ?_ 3 _ rfl; (with_reducible repeat (first | refine qb ?_ _ | refine qc ?_ | refine qa ?_ _)); refine qt (cs := #[.slice Ao67 x105000_1.length co67, .int .i64 x105001_1, .int .i64 0, .int .i64 0]) ?_ 2 _ rfl; (with_reducible repeat (first | refine qb ?_ _ | refine qc ?_ | refine qa ?_ _)); refine qt (cs := #[.slice Ao67 x105000_1.length co67, .int .i64 0, .int .i64 0, .int .i64 0]) ?_ 1 _ rfl; (with_reducible repeat (first | refine qb ?_ _ | refine qc ?_ | refine qa ?_ _)); refine qt (cs := #[.slice none 0 0, .int .i64 0, .int .i64 0, .int .i64 0]) ?_ 0 _ rfl; (with_reducible repeat (first | refine qb ?_ _ | refine qc ?_ | refine qa ?_ _)); exact BK101.out) Try.underlying32 rfl (by kernel_rfl)) rfl ?_
     exact ⟨_, by first | rfl | (simp [qw, qv] <;> rfl) | (simp [*, qw, qv] <;> rfl), by (with_reducible repeat (first | apply Kd.R_alloc | apply Kd.R_drewN | apply Kd.R_drew)); exact Kd.R_mono (Kd.R_far (p := ⟨gb101, 3, none⟩) (Kd.R_far (p := ⟨gb101, 2, none⟩) (Kd.R_far (p := ⟨gb101, 1, none⟩) (Kd.R_far (p := ⟨gb101, 0, none⟩) (Kd.R_types HO_105000.out BK101.out (by decide)) (fun _ hk => hk.2) (.slice Ao67 x105000_1.length co67)) (fun _ hk => hk.2) (.int .i64 x105001_1)) (fun _ hk => hk.2) (.int .i64 x105002_1)) (fun _ hk => hk.2) (.int .i64 x105003_1)) (fun _ hk => trivial), by repeat (first | (with_reducible first | exact HI0.out | apply IsS123.alloc | apply IsS123.drewN | apply IsS123.drew | apply IsS123.set_1 | apply (fun h_ => IsS123.far h_ NB0_101.out _) | apply (fun h_ => IsS123.far h_ NB0_104.out _)) | exact HI0.out), by repeat (first | (with_reducible first | exact HB.out | apply qi | apply qg | apply qh | refine qf ?_ (IsS123.ge HI0.out) | refine qf ?_ GE101.out | refine qf ?_ GE104.out) | exact HB.out), by repeat (first | (with_reducible first | exact HK.out | apply KeepBut.set_ | apply qk | apply qn | apply ql | refine qj ?_ GW101.out _ | refine qj ?_ GW104.out _) | exact HK.out)⟩
theorem yq118 {P : Prop} (h : P := by (with_reducible repeat (first | refine qb ?_ _ | refine qc ?_ | refine qa ?_ _)); exact BK101.out) : P := h
theorem yq119 {P : Prop} (h : P := by (with_reducible repeat (first | refine qb ?_ _ | refine qc ?_ | refine qa ?_ _)); exact BK102.out) : P := h
theorem yq120 {P : Prop} (h : P := by repeat (first | (with_reducible first | exact HB.out | apply qi | apply qg | apply qh | refine qf ?_ (IsS123.ge HI105.out) | refine qf ?_ GE101.out | refine qf ?_ GE102.out) | exact HB.out)) : P := h
theorem yq121 {P : Prop} (h : P := by repeat (first | (with_reducible first | exact HB.out | apply qi | apply qg | apply qh | refine qf ?_ (IsS123.ge HI105.out) | refine qf ?_ GE101.out | refine qf ?_ GE102.out | refine qf ?_ GE113.out) | exact HB.out)) : P := h
theorem yq122 {P : Prop} (h : P := by (with_reducible repeat (first | apply Kd.R_alloc | apply Kd.R_drewN | apply Kd.R_drew)); exact HO108.out) : P := h
theorem yq123 {P : Prop} (h : P := by repeat (first | (with_reducible first | exact HI105.out | apply IsS123.alloc | apply IsS123.drewN | apply IsS123.drew | apply IsS123.set_1 | apply (fun h_ => IsS123.far h_ NB105_101.out _) | apply (fun h_ => IsS123.far h_ NB105_102.out _)) | exact HI105.out)) : P := h
def spec_DrawApply.f (k : Nat) (l0 : List Int) : Option ((List (S66)) × Int × Int × Int × (List (S66)) × List Int × Int × Int × Int) := (spec_l1Open.f l0).bind fun bt103 => ((spec_l1Rd_version.f k bt103.1 bt103.2).bind fun bt106 => ((spec_l1Rd_edit.f k bt103.1 bt106.2.2.2.2 bt106.1 bt106.2.1 bt106.2.2.1 bt106.2.2.2.1).bind fun bt114 => (some (bt106.1, bt106.2.1, bt106.2.2.1, bt106.2.2.2.1, bt114.1, bt114.2.1, bt114.2.2.1, bt114.2.2.2.1, bt114.2.2.2.2.1))))
set_option maxHeartbeats 8000000 in
set_option maxRecDepth 100000 in
theorem spec_DrawApply.calls (k : Nat) (A0 : Option Addr) (c0 : Nat) (l0 : List Int) (r1 : List (S66)) (r2 : Int) (r3 : Int) (r4 : Int) (r5 : List (S66)) (r6 : List Int) (r7 : Int) (r8 : Int) (r9 : Int) (w : World) (hr0 : Kd.C (Kd.int .u8) w A0 l0.length l0) (hc0 : l0.length ≤ c0) (h : spec_DrawApply.f k l0 = some (r1, r2, r3, r4, r5, r6, r7, r8, r9)) :
  Calls Try.prog 49 #[.slice A0 l0.length c0] w fun e w' => ∃ v0_ v4_ v5_ : Value, e = .returned (.tuple #[.agg #[v0_, .int .i64 r2, .int .i64 r3, .int .i64 r4], .agg #[v4_, v5_, .int .i64 r7, .int .i64 r8, .int .i64 r9]]) ∧ Kd.R k66 66 w' w.heap.size (fun k_ => some k_ ≠ (v4_ : Value).ownBlock) v0_ r1 ∧ Kd.R k66 66 w' w.heap.size (fun k_ => some k_ ≠ (v0_ : Value).ownBlock) v4_ r5 ∧ Kd.R (Kd.int .i64) 2 w' w.heap.size (fun _ => True) v5_ r6 ∧ Below w.heap.size w w' := by
 have hu32 := Try.underlying32
 have hu37 := Try.underlying37
 have HR0 := Qz.mk hr0
 have HC0 := Qz.mk hc0
 clear hr0 hc0
 have HB := Qz.mk (Below.refl w.heap.size w)
 have H : ((spec_l1Open.f l0).bind fun bt103 => ((spec_l1Rd_version.f k bt103.1 bt103.2).bind fun bt106 => ((spec_l1Rd_edit.f k bt103.1 bt106.2.2.2.2 bt106.1 bt106.2.1 bt106.2.2.1 bt106.2.2.2.1).bind fun bt114 => (some (bt106.1, bt106.2.1, bt106.2.2.1, bt106.2.2.2.1, bt114.1, bt114.2.1, bt114.2.2.1, bt114.2.2.2.1, bt114.2.2.2.2.1))))) = some (r1, r2, r3, r4, r5, r6, r7, r8, r9) := h
 clear h
 replace H := Option.bind_eq_some_iff.mp H
 obtain ⟨⟨t103, t104⟩, A20, H⟩ := H
 replace H : ((spec_l1Rd_version.f k t103 t104).bind fun bt106 => ((spec_l1Rd_edit.f k t103 bt106.2.2.2.2 bt106.1 bt106.2.1 bt106.2.2.1 bt106.2.2.2.1).bind fun bt114 => (some (bt106.1, bt106.2.1, bt106.2.2.1, bt106.2.2.2.1, bt114.1, bt114.2.1, bt114.2.2.1, bt114.2.2.2.1, bt114.2.2.2.2.1)))) = some (r1, r2, r3, r4, r5, r6, r7, r8, r9) := H
 have A2 := Qz.mk A20
 clear A20
 replace H := Option.bind_eq_some_iff.mp H
 obtain ⟨⟨t106, t109, t110, t111, t112⟩, A30, H⟩ := H
 replace H : ((spec_l1Rd_edit.f k t103 t112 t106 t109 t110 t111).bind fun bt114 => (some (t106, t109, t110, t111, bt114.1, bt114.2.1, bt114.2.2.1, bt114.2.2.2.1, bt114.2.2.2.2.1))) = some (r1, r2, r3, r4, r5, r6, r7, r8, r9) := H
 have A3 := Qz.mk A30
 clear A30
 replace H := Option.bind_eq_some_iff.mp H
 obtain ⟨⟨t114, t117, t120, t121, t122, t123⟩, A40, H⟩ := H
 replace H : (some (t106, t109, t110, t111, t114, t117, t120, t121, t122)) = some (r1, r2, r3, r4, r5, r6, r7, r8, r9) := H
 have A4 := Qz.mk A40
 clear A40
 simp only [Option.some.injEq, Prod.mk.injEq] at H
 obtain ⟨rfl, rfl, rfl, rfl, rfl, rfl, rfl, rfl, rfl⟩ := H
 go_enter Try.func49, Try.ntmps49
 try go_wp2_with (first | ((with_reducible refine gate_dst (N := 2) rfl ?_); refine box_event ?hg (N := 2) ?hd (cs := #[.slice none 0 0, .int .i64 0, .int .i64 0, .int .i64 0]) (t := 32) ?hr ?_; (case hd => rfl); (case hg => rfl); (case hr => first | (go_simp; done) | (go_simp; rfl)); intro gb101 hg w5 hbox hb; have BK101 := Qz.mk (hbox); have GW101 := Qz.mk ((by rw [hg]; exact (qu (by repeat (first | (with_reducible first | exact HB.out | apply qi | apply qg | apply qh) | exact HB.out))) : w.heap.size ≤ gb101)); have GE101 := GW101; replace HB := Qz.mk (qp (by repeat (first | (with_reducible first | exact HB.out | apply qi | apply qg | apply qh) | exact HB.out)) hb); clear hb hbox hg) | ((with_reducible refine gate_dst (N := 3) rfl ?_); refine box_event ?hg (N := 3) ?hd (cs := #[.slice none 0 0, .slice none 0 0, .int .i64 0, .int .i64 0, .int .i64 0]) (t := 37) ?hr ?_; (case hd => rfl); (case hg => rfl); (case hr => first | (go_simp; done) | (go_simp; rfl)); intro gb102 hg w6 hbox hb; have BK102 := Qz.mk (hbox); have GW102 := Qz.mk ((by rw [hg]; exact (qu (by repeat (first | (with_reducible first | exact HB.out | apply qi | apply qg | apply qh | refine qf ?_ GE101.out) | exact HB.out))) : w.heap.size ≤ gb102)); have GE102 := GW102; replace HB := Qz.mk (qp (by repeat (first | (with_reducible first | exact HB.out | apply qi | apply qg | apply qh | refine qf ?_ GE101.out) | exact HB.out)) hb); have NB101_102 := Qz.mk ((by rw [hg]; exact Nat.ne_of_lt (qy (g := gb101) (o := .cells #[.slice none 0 0, .int .i64 0, .int .i64 0, .int .i64 0] 32 (0, 0)) yq118) : gb101 ≠ gb102)); have NB102_101 := Qz.mk ((by rw [hg]; exact Nat.ne_of_gt (qy (g := gb101) (o := .cells #[.slice none 0 0, .int .i64 0, .int .i64 0, .int .i64 0] 32 (0, 0)) yq118) : gb102 ≠ gb101)); replace BK101 := Qz.mk (qo (g := gb101) (o := .cells #[.slice none 0 0, .int .i64 0, .int .i64 0, .int .i64 0] 32 (0, 0)) yq118 hb); clear hb hbox hg) | ((with_reducible refine qr (f := 70) rfl ?_); refine goesL_ (some 7) rfl rfl Try.func70 (by kernel_rfl) rfl #[.slice A0 l0.length c0] rfl (by (try simp only [List.map_toArray, List.map_cons, List.map_nil]); first | done | rfl | (simp only [List.length_drop, List.length_take]; rfl) | (rw [IntWalk.u64_in _ (by omega)] <;> rfl)) ?_; (with_reducible refine (spec_l1Open.calls _ _ l0 t103 t104 w _ ?side1 ?side2 ?side3 A2.out).mono ?_); (case side1 => repeat (first | (with_reducible first | exact HB.out | apply qi | apply qg | apply qh | refine qf ?_ GE101.out | refine qf ?_ GE102.out) | exact HB.out)); (case side2 => exact HR0.out); (case side3 => exact HC0.out); rintro e w7 ⟨g105, rfl, hi, hb, hb2⟩; refine ⟨_, rfl, ?_⟩; replace HB := Qz.mk (hb); have HI105 := Qz.mk (hi); have NB105_101 := Qz.mk (IsS123.ne_blk hi (qo (g := gb101) (o := .cells #[.slice none 0 0, .int .i64 0, .int .i64 0, .int .i64 0] 32 (0, 0)) yq118 hb2) (by decide)); have NB101_105 := Qz.mk (Ne.symm (IsS123.ne_blk hi (qo (g := gb101) (o := .cells #[.slice none 0 0, .int .i64 0, .int .i64 0, .int .i64 0] 32 (0, 0)) yq118 hb2) (by decide))); replace BK101 := Qz.mk (qo (g := gb101) (o := .cells #[.slice none 0 0, .int .i64 0, .int .i64 0, .int .i64 0] 32 (0, 0)) yq118 hb2); have NB105_102 := Qz.mk (IsS123.ne_blk hi (qo (g := gb102) (o := .cells #[.slice none 0 0, .slice none 0 0, .int .i64 0, .int .i64 0, .int .i64 0] 37 (0, 0)) yq119 hb2) (by decide)); have NB102_105 := Qz.mk (Ne.symm (IsS123.ne_blk hi (qo (g := gb102) (o := .cells #[.slice none 0 0, .slice none 0 0, .int .i64 0, .int .i64 0, .int .i64 0] 37 (0, 0)) yq119 hb2) (by decide))); replace BK102 := Qz.mk (qo (g := gb102) (o := .cells #[.slice none 0 0, .slice none 0 0, .int .i64 0, .int .i64 0, .int .i64 0] 37 (0, 0)) yq119 hb2); (try clear hb); (try clear hb2); (try clear hk); (try clear hi)) | ((with_reducible refine qr (f := 71) rfl ?_); refine goesL_ (some 9) rfl rfl Try.func71 (by kernel_rfl) rfl #[.pointer (some ⟨g105, 0, none⟩)] rfl (by (try simp only [List.map_toArray, List.map_cons, List.map_nil]); first | done | rfl) ?_; (with_reducible refine (spec_l1Rd_version.calls k g105 t103 t104 t106 t109 t110 t111 t112 w _ ?side1 ?side2 A3.out).mono ?_); (case side1 => exact yq123); (case side2 => exact yq120); rintro e w8 ⟨v107, rfl, ho0, hi, hb, hk⟩; refine ⟨_, rfl, ?_⟩; replace BK101 := Qz.mk (KeepBut.blk hk (g' := gb101) (o := .cells #[.slice none 0 0, .int .i64 0, .int .i64 0, .int .i64 0] 32 (0, 0)) yq118 NB101_105.out (by simp)); replace BK102 := Qz.mk (KeepBut.blk hk (g' := gb102) (o := .cells #[.slice none 0 0, .slice none 0 0, .int .i64 0, .int .i64 0, .int .i64 0] 37 (0, 0)) yq119 NB102_105.out (by simp)); have HO108 := Qz.mk (Kd.R_lower ho0 (qu yq120)); replace HB := Qz.mk (hb); replace HI105 := Qz.mk (hi); (try clear hb); (try clear hb2); (try clear hk); (try clear hi); (try clear ho0)) | ((with_reducible refine gate_dst (N := 5) rfl ?_); refine box_event ?hg (N := 5) ?hd (cs := #[.slice none 0 0, .int .i64 0, .int .i64 0, .int .i64 0]) (t := 32) ?hr ?_; (case hd => rfl); (case hg => rfl); (case hr => first | (go_simp; done) | (go_simp; rfl)); intro gb113 hg w9 hbox hb; replace HO108 := Qz.mk (Kd.R_below yq122 hb); have BK113 := Qz.mk (hbox); have GW113 := Qz.mk ((by rw [hg]; exact (qu yq120) : w.heap.size ≤ gb113)); have GE113 := GW113; replace HB := Qz.mk (qp yq120 hb); have NB101_113 := Qz.mk ((by rw [hg]; exact Nat.ne_of_lt (qy (g := gb101) (o := .cells #[.slice none 0 0, .int .i64 0, .int .i64 0, .int .i64 0] 32 (0, 0)) yq118) : gb101 ≠ gb113)); have NB113_101 := Qz.mk ((by rw [hg]; exact Nat.ne_of_gt (qy (g := gb101) (o := .cells #[.slice none 0 0, .int .i64 0, .int .i64 0, .int .i64 0] 32 (0, 0)) yq118) : gb113 ≠ gb101)); replace BK101 := Qz.mk (qo (g := gb101) (o := .cells #[.slice none 0 0, .int .i64 0, .int .i64 0, .int .i64 0] 32 (0, 0)) yq118 hb); have NB102_113 := Qz.mk ((by rw [hg]; exact Nat.ne_of_lt (qy (g := gb102) (o := .cells #[.slice none 0 0, .slice none 0 0, .int .i64 0, .int .i64 0, .int .i64 0] 37 (0, 0)) yq119) : gb102 ≠ gb113)); have NB113_102 := Qz.mk ((by rw [hg]; exact Nat.ne_of_gt (qy (g := gb102) (o := .cells #[.slice none 0 0, .slice none 0 0, .int .i64 0, .int .i64 0, .int .i64 0] 37 (0, 0)) yq119) : gb113 ≠ gb102)); replace BK102 := Qz.mk (qo (g := gb102) (o := .cells #[.slice none 0 0, .slice none 0 0, .int .i64 0, .int .i64 0, .int .i64 0] 37 (0, 0)) yq119 hb); have NB105_113 := Qz.mk ((by rw [hg]; exact Nat.ne_of_lt (IsS123.lt (show IsS123 w _ g105 t103 t112 from by repeat (first | (with_reducible first | exact HI105.out | apply IsS123.alloc | apply IsS123.drewN | apply IsS123.drew | apply IsS123.set_1 | apply (fun h_ => IsS123.far h_ NB105_101.out _) | apply (fun h_ => IsS123.far h_ NB105_102.out _)) | exact HI105.out))) : g105 ≠ gb113)); have NB113_105 := Qz.mk ((by rw [hg]; exact Nat.ne_of_gt (IsS123.lt (show IsS123 w _ g105 t103 t112 from by repeat (first | (with_reducible first | exact HI105.out | apply IsS123.alloc | apply IsS123.drewN | apply IsS123.drew | apply IsS123.set_1 | apply (fun h_ => IsS123.far h_ NB105_101.out _) | apply (fun h_ => IsS123.far h_ NB105_102.out _)) | exact HI105.out))) : gb113 ≠ g105)); replace HI105 := Qz.mk (IsS123.below yq123 hb); clear hb hbox hg; obtain ⟨Ao10, co10, eo10⟩ := Kd.R_slice HO108.out; subst eo10; have hnb11 := NB113_101.out; have hnc11 := NB101_113.out; have hnb12 := NB113_102.out; have hnc12 := NB102_113.out; have hnb13 := NB113_105.out; have hnc13 := NB105_113.out; have hcz14_0 := (qd BK113.out 0).trans rfl; have hcz14_1 := (qd BK113.out 1).trans rfl; have hcz14_2 := (qd BK113.out 2).trans rfl; have hcz14_3 := (qd BK113.out 3).trans rfl; have hfz14_0 := qe BK113.out 0; have hfz14_1 := qe BK113.out 1; have hfz14_2 := qe BK113.out 2; have hfz14_3 := qe BK113.out 3))
 have n0_ : Qz (Kd.R k66 66 ((((w9.setCell ⟨gb113, 0, none⟩ (.slice Ao10 t106.length co10)).setCell ⟨gb113, 1, none⟩ (.int .i64 t109)).setCell ⟨gb113, 2, none⟩ (.int .i64 t110)).setCell ⟨gb113, 3, none⟩ (.int .i64 t111)) w.heap.size (fun _ => True) (.slice Ao10 t106.length co10) t106) := ⟨by (with_reducible repeat (first | apply Kd.R_alloc | apply Kd.R_drewN | apply Kd.R_drew)); exact Kd.R_mono (Kd.R_far (p := ⟨gb113, 3, none⟩) (Kd.R_far (p := ⟨gb113, 2, none⟩) (Kd.R_far (p := ⟨gb113, 1, none⟩) (Kd.R_far (p := ⟨gb113, 0, none⟩) (Kd.R_types HO108.out BK113.out (by decide)) (fun _ hk => hk.2) (.slice Ao10 t106.length co10)) (fun _ hk => hk.2) (.int .i64 t109)) (fun _ hk => hk.2) (.int .i64 t110)) (fun _ hk => hk.2) (.int .i64 t111)) (fun _ hk => trivial)⟩
 have n1_ : Qz (((((w9.setCell ⟨gb113, 0, none⟩ (.slice Ao10 t106.length co10)).setCell ⟨gb113, 1, none⟩ (.int .i64 t109)).setCell ⟨gb113, 2, none⟩ (.int .i64 t110)).setCell ⟨gb113, 3, none⟩ (.int .i64 t111)).heap[gb101]? = some (.cells #[.slice none 0 0, .int .i64 0, .int .i64 0, .int .i64 0] 32 (0, 0))) := ⟨by (with_reducible repeat (first | refine qb ?_ _ | refine qc ?_ | refine qa ?_ _)); refine qq ?_ NB101_113.out _; (with_reducible repeat (first | refine qb ?_ _ | refine qc ?_ | refine qa ?_ _)); refine qq ?_ NB101_113.out _; (with_reducible repeat (first | refine qb ?_ _ | refine qc ?_ | refine qa ?_ _)); refine qq ?_ NB101_113.out _; (with_reducible repeat (first | refine qb ?_ _ | refine qc ?_ | refine qa ?_ _)); refine qq ?_ NB101_113.out _; (with_reducible repeat (first | refine qb ?_ _ | refine qc ?_ | refine qa ?_ _)); exact BK101.out⟩
 have n2_ : Qz (((((w9.setCell ⟨gb113, 0, none⟩ (.slice Ao10 t106.length co10)).setCell ⟨gb113, 1, none⟩ (.int .i64 t109)).setCell ⟨gb113, 2, none⟩ (.int .i64 t110)).setCell ⟨gb113, 3, none⟩ (.int .i64 t111)).heap[gb102]? = some (.cells #[.slice none 0 0, .slice none 0 0, .int .i64 0, .int .i64 0, .int .i64 0] 37 (0, 0))) := ⟨by (with_reducible repeat (first | refine qb ?_ _ | refine qc ?_ | refine qa ?_ _)); refine qq ?_ NB102_113.out _; (with_reducible repeat (first | refine qb ?_ _ | refine qc ?_ | refine qa ?_ _)); refine qq ?_ NB102_113.out _; (with_reducible repeat (first | refine qb ?_ _ | refine qc ?_ | refine qa ?_ _)); refine qq ?_ NB102_113.out _; (with_reducible repeat (first | refine qb ?_ _ | refine qc ?_ | refine qa ?_ _)); refine qq ?_ NB102_113.out _; (with_reducible repeat (first | refine qb ?_ _ | refine qc ?_ | refine qa ?_ _)); exact BK102.out⟩
 have n3_ : Qz (((((w9.setCell ⟨gb113, 0, none⟩ (.slice Ao10 t106.length co10)).setCell ⟨gb113, 1, none⟩ (.int .i64 t109)).setCell ⟨gb113, 2, none⟩ (.int .i64 t110)).setCell ⟨gb113, 3, none⟩ (.int .i64 t111)).heap[gb113]? = some (.cells #[.slice Ao10 t106.length co10, .int .i64 t109, .int .i64 t110, .int .i64 t111] 32 (0, 0))) := ⟨by (with_reducible repeat (first | refine qb ?_ _ | refine qc ?_ | refine qa ?_ _)); refine qt (cs := #[.slice Ao10 t106.length co10, .int .i64 t109, .int .i64 t110, .int .i64 0]) ?_ 3 _ rfl; (with_reducible repeat (first | refine qb ?_ _ | refine qc ?_ | refine qa ?_ _)); refine qt (cs := #[.slice Ao10 t106.length co10, .int .i64 t109, .int .i64 0, .int .i64 0]) ?_ 2 _ rfl; (with_reducible repeat (first | refine qb ?_ _ | refine qc ?_ | refine qa ?_ _)); refine qt (cs := #[.slice Ao10 t106.length co10, .int .i64 0, .int .i64 0, .int .i64 0]) ?_ 1 _ rfl; (with_reducible repeat (first | refine qb ?_ _ | refine qc ?_ | refine qa ?_ _)); refine qt (cs := #[.slice none 0 0, .int .i64 0, .int .i64 0, .int .i64 0]) ?_ 0 _ rfl; (with_reducible repeat (first | refine qb ?_ _ | refine qc ?_ | refine qa ?_ _)); exact BK113.out⟩
 have n4_ : Qz (IsS123 w ((((w9.setCell ⟨gb113, 0, none⟩ (.slice Ao10 t106.length co10)).setCell ⟨gb113, 1, none⟩ (.int .i64 t109)).setCell ⟨gb113, 2, none⟩ (.int .i64 t110)).setCell ⟨gb113, 3, none⟩ (.int .i64 t111)) g105 t103 t112) := ⟨by repeat (first | (with_reducible first | exact HI105.out | apply IsS123.alloc | apply IsS123.drewN | apply IsS123.drew | apply IsS123.set_1 | apply (fun h_ => IsS123.far h_ NB105_101.out _) | apply (fun h_ => IsS123.far h_ NB105_102.out _) | apply (fun h_ => IsS123.far h_ NB105_113.out _)) | exact HI105.out)⟩
 have n5_ : Qz (Below w.heap.size w ((((w9.setCell ⟨gb113, 0, none⟩ (.slice Ao10 t106.length co10)).setCell ⟨gb113, 1, none⟩ (.int .i64 t109)).setCell ⟨gb113, 2, none⟩ (.int .i64 t110)).setCell ⟨gb113, 3, none⟩ (.int .i64 t111))) := ⟨by repeat (first | (with_reducible first | exact HB.out | apply qi | apply qg | apply qh | refine qf ?_ (IsS123.ge HI105.out) | refine qf ?_ GE101.out | refine qf ?_ GE102.out | refine qf ?_ GE113.out) | exact HB.out)⟩
 (try clear HO108)
 (try clear BK101)
 (try clear BK102)
 (try clear BK113)
 (try clear HI105)
 (try clear HB)
 generalize ((((w9.setCell ⟨gb113, 0, none⟩ (.slice Ao10 t106.length co10)).setCell ⟨gb113, 1, none⟩ (.int .i64 t109)).setCell ⟨gb113, 2, none⟩ (.int .i64 t110)).setCell ⟨gb113, 3, none⟩ (.int .i64 t111)) = w15 at n0_ n1_ n2_ n3_ n4_ n5_ ⊢
 have HO108 := n0_
 have BK101 := n1_
 have BK102 := n2_
 have BK113 := n3_
 have HI105 := n4_
 have HB := n5_
 clear n0_ n1_ n2_ n3_ n4_ n5_
 replace HO108 := Qz.mk (Kd.R_drew HO108.out)
 replace BK101 := Qz.mk (qc BK101.out)
 replace BK102 := Qz.mk (qc BK102.out)
 replace BK113 := Qz.mk (qc BK113.out)
 replace HI105 := Qz.mk (IsS123.drew HI105.out)
 replace HB := Qz.mk (qh HB.out)
 refine start_ (n := 6) (S := fun w' => w'.cell? ⟨gb113, 0, none⟩ = some (.slice Ao10 t106.length co10) ∧ w'.cell? ⟨gb113, 1, none⟩ = some (.int .i64 t109) ∧ w'.cell? ⟨gb113, 2, none⟩ = some (.int .i64 t110) ∧ w'.cell? ⟨gb113, 3, none⟩ = some (.int .i64 t111)) (ds := []) #[false, false, false, false, false, false] (by kernel_rfl) rfl rfl ⟨(qd BK113.out 0).trans rfl, (qd BK113.out 1).trans rfl, (qd BK113.out 2).trans rfl, (qd BK113.out 3).trans rfl⟩ (fun hHeld => ?_)
 generalize w15.drew = w16 at HO108 BK101 BK102 BK113 HI105 HB hHeld ⊢
 refine pure_ (i := 1) (N := some 11) (v := ?_) (a' := ?_) #[false, true, false, false, false, false] rfl rfl (by kernel_rfl) (fun _ _ _ h => h) (Or.inl ⟨by rfl, ?_⟩) ?_ ?_
 rotate_left
 ·intro w'
  go_simp
  with_reducible rfl
 rotate_left
 ·simp only [Act.put, sq1, sq2, sq3, i64_w, i32_w]
  rfl
 refine take_ (i := 0) (N := some 10) (v := ?_) (a' := ?_) #[true, true, false, false, false, false] rfl rfl (by kernel_rfl) (fun _ _ _ h => h) (Or.inl ⟨by rfl, ?_⟩) hHeld ?_ ?_
 rotate_left
 ·rintro w' ⟨s0, s1, s2, s3⟩
  go_simp
  with_reducible rfl
 rotate_left
 ·simp only [Act.put, sq1, sq2, sq3, i64_w, i32_w]
  rfl
 refine take_ (i := 2) (N := some 12) (v := ?_) (a' := ?_) #[true, true, true, false, false, false] rfl rfl (by kernel_rfl) (fun _ _ _ h => h) (Or.inl ⟨by rfl, ?_⟩) hHeld ?_ ?_
 rotate_left
 ·rintro w' ⟨s0, s1, s2, s3⟩
  go_simp
  with_reducible rfl
 rotate_left
 ·simp only [Act.put, sq1, sq2, sq3, i64_w, i32_w]
  rfl
 refine one_ (i := 3) (N := some 13) #[true, true, true, true, false, false] rfl rfl (by kernel_rfl) (by decide) (fun K hK => ?_)
 refine goes_ Try.func88 (by kernel_rfl) rfl #[.pointer (some ⟨g105, 0, none⟩), .agg #[.slice Ao10 t106.length co10, .int .i64 t109, .int .i64 t110, .int .i64 t111]] (by rfl) rfl rfl (by (try simp only [List.map_toArray, List.map_cons, List.map_nil]); first | done | rfl | (simp only [List.length_drop, List.length_take]; rfl) | (rw [IntWalk.u64_in _ (by omega)] <;> rfl)) ?_
 with_reducible refine (spec_l1Rd_edit.calls k g105 t103 t112 _ _ t106 t109 t110 t111 t114 t117 t120 t121 t122 t123 w _ ?side1 ?side2 ?side3 ?side4 A4.out).mono ?_
 (case side1 => repeat (first | (with_reducible first | exact HI105.out | apply IsS123.alloc | apply IsS123.drewN | apply IsS123.drew | apply IsS123.set_1 | apply (fun h_ => IsS123.far h_ NB105_101.out _) | apply (fun h_ => IsS123.far h_ NB105_102.out _) | apply (fun h_ => IsS123.far h_ NB105_113.out _)) | exact HI105.out))
 (case side2 => exact yq121)
 (case side3 => exact Kd.C_foot_own (IsS123.apart (show IsS123 w _ g105 t103 t112 from by repeat (first | (with_reducible first | exact HI105.out | apply IsS123.alloc | apply IsS123.drewN | apply IsS123.drew | apply IsS123.set_1 | apply (fun h_ => IsS123.far h_ NB105_101.out _) | apply (fun h_ => IsS123.far h_ NB105_102.out _) | apply (fun h_ => IsS123.far h_ NB105_113.out _)) | exact HI105.out)) yq122 (by decide)) (fun _ h_ => h_.2))
 (case side4 => exact (Kd.R_reads' HO108.out).2.1)
 rintro e w17 ⟨v115, v118, rfl, ho0, ho1, hi, hb, hk⟩
 refine ⟨_, rfl, ?_⟩
 replace BK101 := Qz.mk (KeepBut.blk hk (g' := gb101) (o := .cells #[.slice none 0 0, .int .i64 0, .int .i64 0, .int .i64 0] 32 (0, 0)) yq118 NB101_105.out (by simp))
 replace BK102 := Qz.mk (KeepBut.blk hk (g' := gb102) (o := .cells #[.slice none 0 0, .slice none 0 0, .int .i64 0, .int .i64 0, .int .i64 0] 37 (0, 0)) yq119 NB102_105.out (by simp))
 replace BK113 := Qz.mk (KeepBut.blk hk (g' := gb113) (o := .cells #[.slice Ao10 t106.length co10, .int .i64 t109, .int .i64 t110, .int .i64 t111] 32 (0, 0)) (by (with_reducible repeat (first | refine qb ?_ _ | refine qc ?_ | refine qa ?_ _)); exact BK113.out) NB113_105.out (by simp))
 have HO116 := Qz.mk (Kd.R_lower (Kd.R_new' ho0 (Kd.R_lt yq122)) (qu yq121))
 replace HO108 := Qz.mk (Kd.R_mono (Kd.R_told (Kd.R_oldK (IsS123.apart (show IsS123 w _ g105 t103 t112 from by repeat (first | (with_reducible first | exact HI105.out | apply IsS123.alloc | apply IsS123.drewN | apply IsS123.drew | apply IsS123.set_1 | apply (fun h_ => IsS123.far h_ NB105_101.out _) | apply (fun h_ => IsS123.far h_ NB105_102.out _) | apply (fun h_ => IsS123.far h_ NB105_113.out _)) | exact HI105.out)) yq122 (by decide)) hk) (Kd.R_base ho0)) (fun _ h_ => h_.1))
 have HO119 := Qz.mk (Kd.R_lower ho1 (qu yq121))
 replace HB := Qz.mk (hb)
 replace HI105 := Qz.mk (hi)
 (try clear hb)
 (try clear hb2)
 (try clear hk)
 (try clear hi)
 (try clear ho0)
 (try clear ho1)
 obtain ⟨Ao22, co22, eo22⟩ := Kd.R_slice HO116.out
 (first | subst eo22 | (injection eo22 with f1_ f2_ f3_; have f4_ := f1_.symm; have f5_ := f3_.symm; clear f1_ f2_ f3_; subst f4_; subst f5_))
 obtain ⟨Ao24, co24, eo24⟩ := Kd.R_slice HO119.out
 (first | subst eo24 | (injection eo24 with f1_ f2_ f3_; have f4_ := f1_.symm; have f5_ := f3_.symm; clear f1_ f2_ f3_; subst f4_; subst f5_))
 refine hK.out _ _ ⟨(qd BK113.out 0).trans rfl, (qd BK113.out 1).trans rfl, (qd BK113.out 2).trans rfl, (qd BK113.out 3).trans rfl⟩ (fun hHeld => ?_)
 clear hK K
 refine norm_ (a' := ?_) ?_ ?_
 rotate_left
 ·show Act.put _ (some 13) _ = _
  simp only [Act.put, sq1, sq2, sq3, i64_w, i32_w]
  rfl
 refine one_ (i := 4) (N := none) #[true, true, true, true, true, false] rfl rfl (by kernel_rfl) (by decide) (fun K hK => ?_)
 have hs18 : w17.cell? ⟨gb101, 0, none⟩ = some (.slice none 0 0) := (qd BK101.out 0).trans rfl
 have hfs18 := qe BK101.out 0
 have hns18_1 := NB102_101.out
 have hns18_2 := NB113_101.out
 have hms18_1 := NB101_102.out
 have hms18_2 := NB101_113.out
 have hs19 : w17.cell? ⟨gb101, 1, none⟩ = some (.int .i64 0) := (qd BK101.out 1).trans rfl
 have hfs19 := qe BK101.out 1
 have hns19_1 := NB102_101.out
 have hns19_2 := NB113_101.out
 have hms19_1 := NB101_102.out
 have hms19_2 := NB101_113.out
 have hs20 : w17.cell? ⟨gb101, 2, none⟩ = some (.int .i64 0) := (qd BK101.out 2).trans rfl
 have hfs20 := qe BK101.out 2
 have hns20_1 := NB102_101.out
 have hns20_2 := NB113_101.out
 have hms20_1 := NB101_102.out
 have hms20_2 := NB101_113.out
 have hs21 : w17.cell? ⟨gb101, 3, none⟩ = some (.int .i64 0) := (qd BK101.out 3).trans rfl
 have hfs21 := qe BK101.out 3
 have hns21_1 := NB102_101.out
 have hns21_2 := NB113_101.out
 have hms21_1 := NB101_102.out
 have hms21_2 := NB101_113.out
 refine skip_ (w1 := ?_) (by rfl) rfl ?_ ?_
 rotate_left
 ·go_simp
  rfl
 refine hK.out _ _ ⟨((qx (p := ⟨gb101, _, none⟩) NB113_101.out _).trans (((qx (p := ⟨gb101, _, none⟩) NB113_101.out _).trans (((qx (p := ⟨gb101, _, none⟩) NB113_101.out _).trans (((qx (p := ⟨gb101, _, none⟩) NB113_101.out _).trans (hHeld.1)))))))), ((qx (p := ⟨gb101, _, none⟩) NB113_101.out _).trans (((qx (p := ⟨gb101, _, none⟩) NB113_101.out _).trans (((qx (p := ⟨gb101, _, none⟩) NB113_101.out _).trans (((qx (p := ⟨gb101, _, none⟩) NB113_101.out _).trans (hHeld.2.1)))))))), ((qx (p := ⟨gb101, _, none⟩) NB113_101.out _).trans (((qx (p := ⟨gb101, _, none⟩) NB113_101.out _).trans (((qx (p := ⟨gb101, _, none⟩) NB113_101.out _).trans (((qx (p := ⟨gb101, _, none⟩) NB113_101.out _).trans (hHeld.2.2.1)))))))), ((qx (p := ⟨gb101, _, none⟩) NB113_101.out _).trans (((qx (p := ⟨gb101, _, none⟩) NB113_101.out _).trans (((qx (p := ⟨gb101, _, none⟩) NB113_101.out _).trans (((qx (p := ⟨gb101, _, none⟩) NB113_101.out _).trans (hHeld.2.2.2))))))))⟩ (fun hHeld => ?_)
 clear hK K
 refine one_ (i := 5) (N := none) #[true, true, true, true, true, true] rfl rfl (by kernel_rfl) (by decide) (fun K hK => ?_)
 have hs23 : w17.cell? ⟨gb102, 0, none⟩ = some (.slice none 0 0) := (qd BK102.out 0).trans rfl
 have hfs23 := qe BK102.out 0
 have hns23_0 := NB101_102.out
 have hns23_2 := NB113_102.out
 have hms23_0 := NB102_101.out
 have hms23_2 := NB102_113.out
 have hs25 : w17.cell? ⟨gb102, 1, none⟩ = some (.slice none 0 0) := (qd BK102.out 1).trans rfl
 have hfs25 := qe BK102.out 1
 have hns25_0 := NB101_102.out
 have hns25_2 := NB113_102.out
 have hms25_0 := NB102_101.out
 have hms25_2 := NB102_113.out
 have hs26 : w17.cell? ⟨gb102, 2, none⟩ = some (.int .i64 0) := (qd BK102.out 2).trans rfl
 have hfs26 := qe BK102.out 2
 have hns26_0 := NB101_102.out
 have hns26_2 := NB113_102.out
 have hms26_0 := NB102_101.out
 have hms26_2 := NB102_113.out
 have hs27 : w17.cell? ⟨gb102, 3, none⟩ = some (.int .i64 0) := (qd BK102.out 3).trans rfl
 have hfs27 := qe BK102.out 3
 have hns27_0 := NB101_102.out
 have hns27_2 := NB113_102.out
 have hms27_0 := NB102_101.out
 have hms27_2 := NB102_113.out
 have hs28 : w17.cell? ⟨gb102, 4, none⟩ = some (.int .i64 0) := (qd BK102.out 4).trans rfl
 have hfs28 := qe BK102.out 4
 have hns28_0 := NB101_102.out
 have hns28_2 := NB113_102.out
 have hms28_0 := NB102_101.out
 have hms28_2 := NB102_113.out
 refine skip_ (w1 := ?_) (by rfl) rfl ?_ ?_
 rotate_left
 ·go_simp
  rfl
 refine hK.out _ _ ⟨((qx (p := ⟨gb102, _, none⟩) NB113_102.out _).trans (((qx (p := ⟨gb102, _, none⟩) NB113_102.out _).trans (((qx (p := ⟨gb102, _, none⟩) NB113_102.out _).trans (((qx (p := ⟨gb102, _, none⟩) NB113_102.out _).trans (((qx (p := ⟨gb102, _, none⟩) NB113_102.out _).trans (hHeld.1)))))))))), ((qx (p := ⟨gb102, _, none⟩) NB113_102.out _).trans (((qx (p := ⟨gb102, _, none⟩) NB113_102.out _).trans (((qx (p := ⟨gb102, _, none⟩) NB113_102.out _).trans (((qx (p := ⟨gb102, _, none⟩) NB113_102.out _).trans (((qx (p := ⟨gb102, _, none⟩) NB113_102.out _).trans (hHeld.2.1)))))))))), ((qx (p := ⟨gb102, _, none⟩) NB113_102.out _).trans (((qx (p := ⟨gb102, _, none⟩) NB113_102.out _).trans (((qx (p := ⟨gb102, _, none⟩) NB113_102.out _).trans (((qx (p := ⟨gb102, _, none⟩) NB113_102.out _).trans (((qx (p := ⟨gb102, _, none⟩) NB113_102.out _).trans (hHeld.2.2.1)))))))))), ((qx (p := ⟨gb102, _, none⟩) NB113_102.out _).trans (((qx (p := ⟨gb102, _, none⟩) NB113_102.out _).trans (((qx (p := ⟨gb102, _, none⟩) NB113_102.out _).trans (((qx (p := ⟨gb102, _, none⟩) NB113_102.out _).trans (((qx (p := ⟨gb102, _, none⟩) NB113_102.out _).trans (hHeld.2.2.2))))))))))⟩ (fun hHeld => ?_)
 clear hK K
 refine done_ (by kernel_rfl) ?_
 try go_wp2
 refine bodyPost_ret (results_cc rfl _ _ gb101 gb102 32 37 #[.slice Ao10 t106.length co10, .int .i64 t109, .int .i64 t110, .int .i64 t111] #[.slice Ao22 t114.length co22, .slice Ao24 t117.length co24, .int .i64 t120, .int .i64 t121, .int .i64 t122] (0, 0) (0, 0) _ _ rfl (by (with_reducible repeat (first | refine qb ?_ _ | refine qc ?_ | refine qa ?_ _)); refine qq ?_ NB101_102.out _; (with_reducible repeat (first | refine qb ?_ _ | refine qc ?_ | refine qa ?_ _)); refine qq ?_ NB101_102.out _; (with_reducible repeat (first | refine qb ?_ _ | refine qc ?_ | refine qa ?_ _)); refine qq ?_ NB101_102.out _; (with_reducible repeat (first | refine qb ?_ _ | refine qc ?_ | refine qa ?_ _)); refine qq ?_ NB101_102.out _; (with_reducible repeat (first | refine qb ?_ _ | refine qc ?_ | refine qa ?_ _)); refine qq ?_ NB101_102.out _; (with_reducible repeat (first | refine qb ?_ _ | refine qc ?_ | refine qa ?_ _)); refine qt (cs := #[.slice Ao10 t106.length co10, .int .i64 t109, .int .i64 t110, .int .i64 0]) ?_ 3 _ rfl; (with_reducible repeat (first | refine qb ?_ _ | refine qc ?_ | refine qa ?_ _)); refine qt (cs := #[.slice Ao10 t106.length co10, .int .i64 t109, .int .i64 0, .int .i64 0]) ?_ 2 _ rfl; (with_reducible repeat (first | refine qb ?_ _ | refine qc ?_ | refine qa ?_ _)); refine qt (cs := #[.slice Ao10 t106.length co10, .int .i64 0, .int .i64 0, .int .i64 0]) ?_ 1 _ rfl; (with_reducible repeat (first | refine qb ?_ _ | refine qc ?_ | refine qa ?_ _)); refine qt (cs := #[.slice none 0 0, .int .i64 0, .int .i64 0, .int .i64 0]) ?_ 0 _ rfl; (with_reducible repeat (first | refine qb ?_ _ | refine qc ?_ | refine qa ?_ _)); exact BK101.out) Try.underlying32 rfl (by kernel_rfl) rfl (by (with_reducible repeat (first | refine qb ?_ _ | refine qc ?_ | refine qa ?_ _)); refine qt (cs := #[.slice Ao22 t114.length co22, .slice Ao24 t117.length co24, .int .i64 t120, .int .i64 t121, .int .i64 0]) ?_ 4 _ rfl; (with_reducible repeat (first | refine qb ?_ _ | refine qc ?_ | refine qa ?_ _)); refine qt (cs := #[.slice Ao22 t114.length co22, .slice Ao24 t117.length co24, .int .i64 t120, .int .i64 0, .int .i64 0]) ?_ 3 _ rfl; (with_reducible repeat (first | refine qb ?_ _ | refine qc ?_ | refine qa ?_ _)); refine qt (cs := #[.slice Ao22 t114.length co22, .slice Ao24 t117.length co24, .int .i64 0, .int .i64 0, .int .i64 0]) ?_ 2 _ rfl; (with_reducible repeat (first | refine qb ?_ _ | refine qc ?_ | refine qa ?_ _)); refine qt (cs := #[.slice Ao22 t114.length co22, .slice none 0 0, .int .i64 0, .int .i64 0, .int .i64 0]) ?_ 1 _ rfl; (with_reducible repeat (first | refine qb ?_ _ | refine qc ?_ | refine qa ?_ _)); refine qt (cs := #[.slice none 0 0, .slice none 0 0, .int .i64 0, .int .i64 0, .int .i64 0]) ?_ 0 _ rfl; (with_reducible repeat (first | refine qb ?_ _ | refine qc ?_ | refine qa ?_ _)); refine qq ?_ NB102_101.out _; (with_reducible repeat (first | refine qb ?_ _ | refine qc ?_ | refine qa ?_ _)); refine qq ?_ NB102_101.out _; (with_reducible repeat (first | refine qb ?_ _ | refine qc ?_ | refine qa ?_ _)); refine qq ?_ NB102_101.out _; (with_reducible repeat (first | refine qb ?_ _ | refine qc ?_ | refine qa ?_ _)); refine qq ?_ NB102_101.out _; (with_reducible repeat (first | refine qb ?_ _ | refine qc ?_ | refine qa ?_ _)); exact BK102.out) Try.underlying37 rfl (by kernel_rfl)) rfl ?_
 exact ⟨_, _, _, by first | rfl | (simp [qw, qv] <;> rfl) | (simp [*, qw, qv] <;> rfl), by (with_reducible repeat (first | apply Kd.R_alloc | apply Kd.R_drewN | apply Kd.R_drew)); exact Kd.R_mono (Kd.R_far (p := ⟨gb102, 4, none⟩) (Kd.R_far (p := ⟨gb102, 3, none⟩) (Kd.R_far (p := ⟨gb102, 2, none⟩) (Kd.R_far (p := ⟨gb102, 1, none⟩) (Kd.R_far (p := ⟨gb102, 0, none⟩) (Kd.R_far (p := ⟨gb101, 3, none⟩) (Kd.R_far (p := ⟨gb101, 2, none⟩) (Kd.R_far (p := ⟨gb101, 1, none⟩) (Kd.R_far (p := ⟨gb101, 0, none⟩) (Kd.R_types (Kd.R_types HO108.out BK101.out (by decide)) BK102.out (by decide)) (fun _ hk => hk.1.2) (.slice Ao10 t106.length co10)) (fun _ hk => hk.1.2) (.int .i64 t109)) (fun _ hk => hk.1.2) (.int .i64 t110)) (fun _ hk => hk.1.2) (.int .i64 t111)) (fun _ hk => hk.2) (.slice Ao22 t114.length co22)) (fun _ hk => hk.2) (.slice Ao24 t117.length co24)) (fun _ hk => hk.2) (.int .i64 t120)) (fun _ hk => hk.2) (.int .i64 t121)) (fun _ hk => hk.2) (.int .i64 t122)) (fun _ hk => hk.1.1.2), by (with_reducible repeat (first | apply Kd.R_alloc | apply Kd.R_drewN | apply Kd.R_drew)); exact Kd.R_mono (Kd.R_far (p := ⟨gb102, 4, none⟩) (Kd.R_far (p := ⟨gb102, 3, none⟩) (Kd.R_far (p := ⟨gb102, 2, none⟩) (Kd.R_far (p := ⟨gb102, 1, none⟩) (Kd.R_far (p := ⟨gb102, 0, none⟩) (Kd.R_far (p := ⟨gb101, 3, none⟩) (Kd.R_far (p := ⟨gb101, 2, none⟩) (Kd.R_far (p := ⟨gb101, 1, none⟩) (Kd.R_far (p := ⟨gb101, 0, none⟩) (Kd.R_types (Kd.R_types HO116.out BK101.out (by decide)) BK102.out (by decide)) (fun _ hk => hk.1.2) (.slice Ao10 t106.length co10)) (fun _ hk => hk.1.2) (.int .i64 t109)) (fun _ hk => hk.1.2) (.int .i64 t110)) (fun _ hk => hk.1.2) (.int .i64 t111)) (fun _ hk => hk.2) (.slice Ao22 t114.length co22)) (fun _ hk => hk.2) (.slice Ao24 t117.length co24)) (fun _ hk => hk.2) (.int .i64 t120)) (fun _ hk => hk.2) (.int .i64 t121)) (fun _ hk => hk.2) (.int .i64 t122)) (fun _ hk => hk.1.1.2), by (with_reducible repeat (first | apply Kd.R_alloc | apply Kd.R_drewN | apply Kd.R_drew)); exact Kd.R_mono (Kd.R_far (p := ⟨gb102, 4, none⟩) (Kd.R_far (p := ⟨gb102, 3, none⟩) (Kd.R_far (p := ⟨gb102, 2, none⟩) (Kd.R_far (p := ⟨gb102, 1, none⟩) (Kd.R_far (p := ⟨gb102, 0, none⟩) (Kd.R_far (p := ⟨gb101, 3, none⟩) (Kd.R_far (p := ⟨gb101, 2, none⟩) (Kd.R_far (p := ⟨gb101, 1, none⟩) (Kd.R_far (p := ⟨gb101, 0, none⟩) (Kd.R_types (Kd.R_types HO119.out BK101.out (by decide)) BK102.out (by decide)) (fun _ hk => hk.1.2) (.slice Ao10 t106.length co10)) (fun _ hk => hk.1.2) (.int .i64 t109)) (fun _ hk => hk.1.2) (.int .i64 t110)) (fun _ hk => hk.1.2) (.int .i64 t111)) (fun _ hk => hk.2) (.slice Ao22 t114.length co22)) (fun _ hk => hk.2) (.slice Ao24 t117.length co24)) (fun _ hk => hk.2) (.int .i64 t120)) (fun _ hk => hk.2) (.int .i64 t121)) (fun _ hk => hk.2) (.int .i64 t122)) (fun _ hk => trivial), by repeat (first | (with_reducible first | exact HB.out | apply qi | apply qg | apply qh | refine qf ?_ (IsS123.ge HI105.out) | refine qf ?_ GE101.out | refine qf ?_ GE102.out | refine qf ?_ GE113.out) | exact HB.out)⟩
end Go.Proofs.Ytcgejabkjljeeaa.P
end

section
namespace Go.Proofs.Ytcgejabkjljeeaa.P
open Go.RowKit Go.Proofs.YtcgejabkjljeeaaW.PrintWords Go.Proofs.YtcgejabkjljeeaaW.PrintLast Go.Proofs.YtcgejabkjljeeaaW.PrintMore
attribute [local go_sem] str_gtr str_leq str_geq max2_int min2_int max_two min_two qc1 qb1 max_four min_four
set_option linter.unusedVariables false
set_option linter.unusedSimpArgs false
attribute [local go_sem high] eqA66
theorem yq124 {P : Prop} (h : P := by first | (with_reducible assumption) | assumption) : P := h
def laws_sameMetas.l0 : Nat → List (S66) → List (S66) → Int → Option (Bool)
 | 0, _, _, _ => none
 | k + 1, x0, x1, x5 => if x5 < (x0.length : Int) then (if 0 ≤ x5 then (if x5 < (x1.length : Int) then (if (!(((qm x0 x5).f0) == ((qm x1 x5).f0)) || (!(((qm x0 x5).f1) == ((qm x1 x5).f1)) || (!((((qm x0 x5).f2).toList) == (((qm x1 x5).f2).toList)) || (!((((qm x0 x5).f3).toList) == (((qm x1 x5).f3).toList)) || (!(((qm x0 x5).f4) == ((qm x1 x5).f4))))))) = true then (some false) else (laws_sameMetas.l0 k x0 x1 (wrap64 (x5 + 1)))) else (none)) else (none)) else (some true)
def laws_sameMetas.f (k : Nat) (l0 : List (S66)) (l1 : List (S66)) : Option (Bool) := if (l0.length : Int) = (l1.length : Int) then (laws_sameMetas.l0 k l0 l1 0) else (some false)
set_option maxHeartbeats 8000000 in
set_option maxRecDepth 100000 in
theorem laws_sameMetas.calls (k : Nat) (A0 : Option Addr) (c0 : Nat) (l0 : List (S66)) (A1 : Option Addr) (c1 : Nat) (l1 : List (S66)) (r : Bool) (w : World) (hr0 : Kd.C k66 w A0 l0.length l0) (hc0 : l0.length ≤ c0) (hr1 : Kd.C k66 w A1 l1.length l1) (hc1 : l1.length ≤ c1) (h : laws_sameMetas.f k l0 l1 = some r) :
  Calls Try.prog 50 #[.slice A0 l0.length c0, .slice A1 l1.length c1] w fun e w' => e = .returned (.bool r) ∧ Drawn0 w w' := by
 have hu66 := Try.underlying66
 have HR0 := Qz.mk hr0
 have HC0 := Qz.mk hc0
 clear hr0 hc0
 have HR1 := Qz.mk hr1
 have HC1 := Qz.mk hc1
 clear hr1 hc1
 have H : (if (l0.length : Int) = (l1.length : Int) then (laws_sameMetas.l0 k l0 l1 0) else (some false)) = some r := h
 clear h
 by_cases c3 : (l0.length : Int) = (l1.length : Int)
 ·rw [if_pos c3] at H
  have c3b0 : ((l0.length : Int) == (l1.length : Int)) = true := beq_iff_eq.mpr c3
  have c3b1 : ((l0.length : Int) != (l1.length : Int)) = false := bne_eq_false_iff_eq.mpr c3
  have c3b2 : (l0.length == l1.length) = true := by first | simpa using c3 | (simp at c3 ⊢; omega)
  clear c3
  have H' := Qz.mk H
  clear H
  go_enter Try.func50, Try.ntmps50
  go_wp2
  repeat (go_quiet (fail); try go_wp2)
  go_loopg [5] k (fun kq v5 w' => ∃ (x5_1 : Int), v5 = .int .i64 x5_1 ∧ Qz (laws_sameMetas.l0 kq l0 l1 x5_1 = some r) ∧ Qz (kq ≤ k) ∧ Drawn0 w w')
  case atStart => exact ⟨(0), (by first | rfl | (simp; done) | (simp [*]; done)), H', ⟨Nat.le_refl _⟩, by repeat (first | exact Drawn0.refl _ | apply Drawn0.step)⟩
  case round =>
   clear H'
   (try clear c1);(try clear p2);(try clear c3);(try clear c3b0);(try clear c3b1);(try clear c3b2)
   obtain ⟨x5_1, rfl, HA, HK1, ⟨m1, rfl⟩⟩ := hrel
   cases gk with
   | zero => exact absurd HA.out (by simp [laws_sameMetas.l0])
   | succ k1 =>
    have H := HA.out
    clear HA
    simp only [laws_sameMetas.l0] at H
    by_cases c4 : x5_1 < (l0.length : Int)
    ·rw [if_pos c4] at H
     have c4b0 : decide (x5_1 < (l0.length : Int)) = true := decide_eq_true c4
     clear c4
     by_cases c5 : 0 ≤ x5_1
     ·rw [if_pos c5] at H
      have c5b0 : decide (0 ≤ x5_1) = true := decide_eq_true c5
      clear c5
      by_cases c6 : x5_1 < (l1.length : Int)
      ·rw [if_pos c6] at H
       have c6b0 : decide (x5_1 < (l1.length : Int)) = true := decide_eq_true c6
       clear c6
       by_cases c7 : (!(((qm l0 x5_1).f0) == ((qm l1 x5_1).f0)) || (!(((qm l0 x5_1).f1) == ((qm l1 x5_1).f1)) || (!((((qm l0 x5_1).f2).toList) == (((qm l1 x5_1).f2).toList)) || (!((((qm l0 x5_1).f3).toList) == (((qm l1 x5_1).f3).toList)) || (!(((qm l0 x5_1).f4) == ((qm l1 x5_1).f4))))))) = true
       ·rw [if_pos c7] at H
        have c7b0 : (!(((qm l0 x5_1).f0) == ((qm l1 x5_1).f0)) || (!(((qm l0 x5_1).f1) == ((qm l1 x5_1).f1)) || (!((((qm l0 x5_1).f2).toList) == (((qm l1 x5_1).f2).toList)) || (!((((qm l0 x5_1).f3).toList) == (((qm l1 x5_1).f3).toList)) || (!(((qm l0 x5_1).f4) == ((qm l1 x5_1).f4))))))) = true := c7
        clear c7
        obtain rfl := Option.some.inj H
        have p101 : 0 ≤ (x5_1 : Int) := of_decide_eq_true yq124
        have q101 : x5_1 < (l0.length : Int) := of_decide_eq_true yq124
        obtain ⟨ad101, e101, hx101_0, hx101_1, hx101_2, hx101_3, hx101_4⟩ := at_T66 HR0.out x5_1 p101 q101
        cases e101
        replace p101 := eq_true p101
        replace q101 := eq_true q101
        have p102 : 0 ≤ (x5_1 : Int) := of_decide_eq_true yq124
        have q102 : x5_1 < (l1.length : Int) := of_decide_eq_true yq124
        obtain ⟨ad102, e102, hx102_0, hx102_1, hx102_2, hx102_3, hx102_4⟩ := at_T66 HR1.out x5_1 p102 q102
        cases e102
        replace p102 := eq_true p102
        replace q102 := eq_true q102
        go_wp2
        repeat (go_quiet (fail); try go_wp2)
        go_ret
        exact ⟨by first | rfl | (simp; done) | (simp [*]; done), by repeat (first | exact Drawn0.refl _ | apply Drawn0.step)⟩
       ·rw [if_neg c7] at H
        have c7b0 : (!(((qm l0 x5_1).f0) == ((qm l1 x5_1).f0)) || (!(((qm l0 x5_1).f1) == ((qm l1 x5_1).f1)) || (!((((qm l0 x5_1).f2).toList) == (((qm l1 x5_1).f2).toList)) || (!((((qm l0 x5_1).f3).toList) == (((qm l1 x5_1).f3).toList)) || (!(((qm l0 x5_1).f4) == ((qm l1 x5_1).f4))))))) = false := by simpa using c7
        clear c7
        have H' := Qz.mk H
        clear H
        have p101 : 0 ≤ (x5_1 : Int) := of_decide_eq_true yq124
        have q101 : x5_1 < (l0.length : Int) := of_decide_eq_true yq124
        obtain ⟨ad101, e101, hx101_0, hx101_1, hx101_2, hx101_3, hx101_4⟩ := at_T66 HR0.out x5_1 p101 q101
        cases e101
        replace p101 := eq_true p101
        replace q101 := eq_true q101
        have p102 : 0 ≤ (x5_1 : Int) := of_decide_eq_true yq124
        have q102 : x5_1 < (l1.length : Int) := of_decide_eq_true yq124
        obtain ⟨ad102, e102, hx102_0, hx102_1, hx102_2, hx102_3, hx102_4⟩ := at_T66 HR1.out x5_1 p102 q102
        cases e102
        replace p102 := eq_true p102
        replace q102 := eq_true q102
        go_wp2
        repeat (go_quiet (fail); try go_wp2)
        go_roundg k1
        case measure => have := HK1.out; omega
        case rel => exact ⟨(wrap64 (x5_1 + 1)), (by first | rfl | (simp; done) | (simp [*]; done)), H', ⟨by have := HK1.out; omega⟩, by repeat (first | exact Drawn0.refl _ | apply Drawn0.step)⟩
      ·rw [if_neg c6] at H
       exact absurd H (by simp)
     ·rw [if_neg c5] at H
      exact absurd H (by simp)
    ·rw [if_neg c4] at H
     have c4b0 : decide (x5_1 < (l0.length : Int)) = false := decide_eq_false c4
     clear c4
     obtain rfl := Option.some.inj H
     go_wp2
     repeat (go_quiet (fail); try go_wp2)
     go_ret
     exact ⟨by first | rfl | (simp; done) | (simp [*]; done), by repeat (first | exact Drawn0.refl _ | apply Drawn0.step)⟩
 ·rw [if_neg c3] at H
  have c3b0 : ((l0.length : Int) == (l1.length : Int)) = false := beq_eq_false_iff_ne.mpr c3
  have c3b1 : ((l0.length : Int) != (l1.length : Int)) = true := bne_iff_ne.mpr c3
  have c3b2 : (l0.length == l1.length) = false := by first | simpa using c3 | (simp at c3 ⊢; omega)
  obtain rfl := Option.some.inj H
  go_enter Try.func50, Try.ntmps50
  go_wp2
  repeat (go_quiet (fail); try go_wp2)
  go_ret
  exact ⟨by first | rfl | (simp; done) | (simp [*]; done), by repeat (first | exact Drawn0.refl _ | apply Drawn0.step)⟩
end Go.Proofs.Ytcgejabkjljeeaa.P
end
