/- Proved: the law FnReplayed of the given program returns true for every input of its Go types and leaves each argument as it was; no condition. (Part 8 of 17.) -/
import Derived.Test.YtcgejabkjljeeaaCFnReplayed4
import Derived.Test.YtcgejabkjljeeaaCFnReplayed5
import Derived.Test.YtcgejabkjljeeaaCFnReplayed6
section
namespace Go.Proofs.Ytcgejabkjljeeaa.P
open Go.RowKit Go.Proofs.YtcgejabkjljeeaaW.PrintWords Go.Proofs.YtcgejabkjljeeaaW.PrintLast Go.Proofs.YtcgejabkjljeeaaW.PrintMore
attribute [local go_sem] str_gtr str_leq str_geq max2_int min2_int max_two min_two qe1 qd1 max_four min_four
set_option linter.unusedVariables false
set_option linter.unusedSimpArgs false
theorem yq58 {P : Prop} (h : P := by repeat (first | (with_reducible first | exact HK.out | apply KeepBut.set_ | apply ql | apply qo | apply qm | refine qj ?_ GW101.out _ | refine qj ?_ GW104.out _) | exact HK.out)) : P := h
theorem yq59 {P : Prop} (h : P := by (with_reducible repeat (first | refine qb ?_ _ | refine qc ?_ | refine qa ?_ _)); exact BK101.out) : P := h
theorem yq60 {P : Prop} (h : P := by repeat (first | (with_reducible first | exact HK.out | apply KeepBut.set_ | apply ql | apply qo | apply qm | refine qj ?_ GW101.out _ | refine qj ?_ GW104.out _ | refine qj ?_ GW124.out _) | exact HK.out)) : P := h
theorem yq61 {P : Prop} (h : P := by (with_reducible repeat (first | refine qb ?_ _ | refine qc ?_ | refine qa ?_ _)); exact BK104.out) : P := h
theorem yq62 {P : Prop} (h : P := by (with_reducible repeat (first | apply Kd.R_alloc | apply Kd.R_drewN | apply Kd.R_drew)); exact HO_105000.out) : P := h
theorem yq63 {P : Prop} (h : P := by repeat (first | (with_reducible first | exact HI0.out | apply IsS123.alloc | apply IsS123.drewN | apply IsS123.drew | apply IsS123.set_1 | apply (fun h_ => IsS123.far h_ NB0_101.out _) | apply (fun h_ => IsS123.far h_ NB0_104.out _)) | exact HI0.out)) : P := h
theorem yq64 {P : Prop} (h : P := by repeat (first | (with_reducible first | exact HI0.out | apply IsS123.alloc | apply IsS123.drewN | apply IsS123.drew | apply IsS123.set_1 | apply (fun h_ => IsS123.far h_ NB0_101.out _) | apply (fun h_ => IsS123.far h_ NB0_104.out _) | apply (fun h_ => IsS123.far h_ NB0_124.out _)) | exact HI0.out)) : P := h
theorem yq65 {P : Prop} (h : P := by repeat (first | (with_reducible first | exact HB.out | apply qh | apply qg | apply qi | refine qe ?_ (IsS123.ge HI0.out) | refine qe ?_ GE101.out | refine qe ?_ GE104.out) | exact HB.out)) : P := h
theorem yq66 {P : Prop} (h : P := by repeat (first | (with_reducible first | exact HB.out | apply qh | apply qg | apply qi | refine qe ?_ (IsS123.ge HI0.out) | refine qe ?_ GE101.out | refine qe ?_ GE104.out | refine qe ?_ GE124.out) | exact HB.out)) : P := h
theorem yq67 {P : Prop} (h : P := by (try simp only [List.map_toArray, List.map_cons, List.map_nil]); first | done | rfl | (simp only [List.length_drop, List.length_take]; rfl) | (rw [IntWalk.u64_in _ (by omega)] <;> rfl)) : P := h
theorem yq68 {P : Prop} (h : P := by (with_reducible repeat (first | apply Kd.R_alloc | apply Kd.R_drewN | apply Kd.R_drew)); exact HO112.out) : P := h
theorem yq69 {P : Prop} (h : P := by (with_reducible repeat (first | apply Kd.R_alloc | apply Kd.R_drewN | apply Kd.R_drew)); exact HO109.out) : P := h
theorem yq70 {P : Prop} (h : P := by (with_reducible repeat (first | refine qb ?_ _ | refine qc ?_ | refine qa ?_ _)); exact BK124.out) : P := h
theorem yq71 {P : Prop} (h : P := by repeat (first | exact (Kd.R_reads' HO_105000.out).2.2 | (with_reducible refine Kd.C_alloc ?_ _) | (with_reducible refine Kd.C_drewN ?_ _) | (with_reducible refine Kd.C_drew ?_))) : P := h
theorem yq72 {P : Prop} (h : P := by repeat (first | exact (Kd.R_reads' HO112.out).2.2 | (with_reducible refine Kd.C_alloc ?_ _) | (with_reducible refine Kd.C_drewN ?_ _) | (with_reducible refine Kd.C_drew ?_))) : P := h
theorem yq73 {P : Prop} (h : P := by repeat (first | exact (Kd.R_reads' HO109.out).2.2 | (with_reducible refine Kd.C_alloc ?_ _) | (with_reducible refine Kd.C_drewN ?_ _) | (with_reducible refine Kd.C_drew ?_))) : P := h
theorem yq74 {P : Prop} (h : P := by rw [hg]; exact Nat.ne_of_lt (qv (g := gb101) (o := .cells #[.slice none 0 0, .int .i64 0, .int .i64 0, .int .i64 0] 32 (0, 0)) yq59)) : P := h
theorem yq75 {P : Prop} (h : P := by rw [hg]; exact Nat.ne_of_gt (qv (g := gb101) (o := .cells #[.slice none 0 0, .int .i64 0, .int .i64 0, .int .i64 0] 32 (0, 0)) yq59)) : P := h
theorem yq76 {P : Prop} (h : P := by (with_reducible repeat (first | apply Kd.R_alloc | apply Kd.R_drewN | apply Kd.R_drew)); exact Kd.R_mono HO_105000.out (fun _ hk => ⟨hk.1.2, hk.2⟩)) : P := h
theorem yq77 {P : Prop} (h : P := by (with_reducible repeat (first | apply Kd.R_alloc | apply Kd.R_drewN | apply Kd.R_drew)); exact Kd.R_mono HO119.out (fun _ hk => ⟨hk.2, hk.1.2⟩)) : P := h
theorem yq78 {P : Prop} (h : P := by (with_reducible repeat (first | apply Kd.R_alloc | apply Kd.R_drewN | apply Kd.R_drew)); exact Kd.R_mono HO109.out (fun _ hk => ⟨hk.2, hk.1.2⟩)) : P := h
theorem yq79 {P : Prop} (h : P := by rw [hg]; exact (qc1 (w := w) (g := g) (row := none) yq58)) : P := h
theorem yq80 {P : Prop} (h : P := by repeat (first | (with_reducible first | exact HK.out | apply KeepBut.set_ | apply ql | apply qo | apply qm | refine qj ?_ GW101.out _) | exact HK.out)) : P := h
theorem yq81 {P : Prop} (h : P := by rw [hg]; exact Nat.ne_of_lt (qv (g := gb104) (o := .cells #[.slice Ao35 x105000_1.length co35, .int .i64 x105001_1, .int .i64 x105002_1, .int .i64 x105003_1] 32 (0, 0)) yq61)) : P := h
theorem yq82 {P : Prop} (h : P := by rw [hg]; exact Nat.ne_of_lt (qv (g := gb104) (o := .cells #[.slice Ao15 x105000_1.length co15, .int .i64 x105001_1, .int .i64 x105002_1, .int .i64 x105003_1] 32 (0, 0)) yq61)) : P := h
theorem yq83 {P : Prop} (h : P := by rw [hg]; exact Nat.ne_of_gt (qv (g := gb104) (o := .cells #[.slice Ao35 x105000_1.length co35, .int .i64 x105001_1, .int .i64 x105002_1, .int .i64 x105003_1] 32 (0, 0)) yq61)) : P := h
theorem yq84 {P : Prop} (h : P := by rw [hg]; exact Nat.ne_of_gt (qv (g := gb104) (o := .cells #[.slice Ao15 x105000_1.length co15, .int .i64 x105001_1, .int .i64 x105002_1, .int .i64 x105003_1] 32 (0, 0)) yq61)) : P := h
theorem yq85 {P : Prop} (h : P := by (try simp only [List.map_toArray, List.map_cons, List.map_nil]); first | done | rfl) : P := h
theorem yq86 {P : Prop} (h : P := by first | (go_simp; done) | (go_simp; rfl)) : P := h
theorem yq87 {P : Prop} (h : P := by repeat (first | (with_reducible first | exact HK.out | apply KeepBut.set_ | apply ql | apply qo | apply qm) | exact HK.out)) : P := h
theorem bkbf71 {w0 W W2 : World} {g : Nat} {o : Obj} (_ : Qz (w0.heap[g]? = some o)) (h : W.heap[g]? = some o) (hb : Below W.heap.size W W2) : Qz (W2.heap[g]? = some o) := Qz.mk (qb1 h hb)
def spec_l1Rd_version.l0 : Nat → Int → List Int → Int → List (S66) → Int → Int → Int → Option ((List (S66)) × Int × Int × Int × Int)
 | 0, _, _, _, _, _, _, _ => none
 | k + 1, x4, x1000, x1001, x105000, x105001, x105002, x105003 => if x4 > 0 then ((spec_l1Rd_edit.f k x1000 x1001 x105000 x105001 x105002 x105003).bind fun bt107 => ((spec_Apply.f k x105000 x105001 x105002 x105003 bt107.1 bt107.2.1 bt107.2.2.1 bt107.2.2.2.1 bt107.2.2.2.2.1).bind fun bt117 => (if bt117.2.2.2.2 = true then (spec_l1Rd_version.l0 k (wrap64 (x4 - 1)) x1000 bt107.2.2.2.2.2 bt117.1 bt117.2.1 bt117.2.2.1 bt117.2.2.2.1) else (spec_l1Rd_version.l0 k (wrap64 (x4 - 1)) x1000 bt107.2.2.2.2.2 x105000 x105001 x105002 x105003)))) else ((spec_l1Rd_once.f x1000 x1001 16).bind fun bt125 => (if bt125.1 = true then ((spec_l1Rd_meta.f k x1000 bt125.2).bind fun bt127 => (if x105000.length < 2513169434916 then (some ((x105000 ++ [(⟨bt127.1, bt127.2.1, bt127.2.2.1, bt127.2.2.2.1, bt127.2.2.2.2.1⟩ : S66)]), x105001, x105002, x105003, bt127.2.2.2.2.2)) else (none))) else (some (x105000, x105001, x105002, x105003, bt125.2))))
def spec_l1Rd_version.f (k : Nat) (s0_0 : List Int) (s0_1 : Int) : Option ((List (S66)) × Int × Int × Int × Int) := (spec_l1Rd_near.f k s0_0 s0_1 0 5).bind fun bt102 => ((spec_l1Rd_below.f s0_0 bt102.2 7).bind fun bt105 => (spec_l1Rd_version.l0 k bt105.1 s0_0 bt105.2 ([] : List (S66)) (wrap64 (1 + bt102.1)) 0 0))
def spec_l1Rd_version.T5 : Bool × List (List Nat × List Nat) := (true, [([], []), ([], []), ([], []), ([1, 2], [1, 2]), ([0, 3, 3], [0, 3]), ([4], [4]), ([5], [5]), ([5], [5]), ([], []), ([8, 6, 4, 0, 1, 2, 3, 4, 5, 6, 8], [6, 8]), ([7, 9, 0, 1, 2, 3, 4, 5, 6, 7, 8, 9], [7])])
def spec_l1Rd_version.B5 : List Nat := [0, 0, 0, 6, 15, 31, 63, 63, 0, 383, 1023]
theorem spec_l1Rd_version.tab5 : rtab .any (opsOf Try.f71 5) = spec_l1Rd_version.T5 := by kernel_rfl
theorem spec_l1Rd_version.bits5 : waitsOk spec_l1Rd_version.T5.2 spec_l1Rd_version.B5 = true := by kernel_rfl
def spec_l1Rd_version.T9 : Bool × List (List Nat × List Nat) := (true, [([], []), ([0], [0]), ([], []), ([2], [2]), ([3], [3]), ([1, 4, 3], [1, 4]), ([0, 1, 2, 3, 4, 5], []), ([6, 5, 5, 0, 1, 2, 3, 4, 5], [5, 6])])
def spec_l1Rd_version.B9 : List Nat := [0, 1, 0, 4, 12, 31, 63, 127]
theorem spec_l1Rd_version.tab9 : rtab .any (opsOf Try.f71 9) = spec_l1Rd_version.T9 := by kernel_rfl
theorem spec_l1Rd_version.bits9 : waitsOk spec_l1Rd_version.T9.2 spec_l1Rd_version.B9 = true := by kernel_rfl
set_option maxHeartbeats 8000000 in
set_option maxRecDepth 100000 in
theorem spec_l1Rd_version.calls (k : Nat) (g : Nat) (s0_0 : List Int) (s0_1 : Int) (r1 : List (S66)) (r2 : Int) (r3 : Int) (r4 : Int) (r5 : Int) (w0 w : World) (hI : IsS123 w0 w g s0_0 s0_1) (hB : Below w0.heap.size w0 w) (h : spec_l1Rd_version.f k s0_0 s0_1 = some (r1, r2, r3, r4, r5)) :
  Calls Try.prog 71 #[.pointer (some ⟨g, 0, none⟩)] w fun e w' => ∃ v0_ : Value, e = .returned (.agg #[v0_, .int .i64 r2, .int .i64 r3, .int .i64 r4]) ∧ Kd.R k66 66 w' w.heap.size (fun _ => True) v0_ r1 ∧ IsS123 w0 w' g s0_0 r5 ∧ Below w0.heap.size w0 w' ∧ KeepBut w w' g none := by
 have hu32 := Try.underlying32
 have HI0 := Qz.mk hI
 have HK := Qz.mk (KeepBut.refl w g none)
 have HL := Qz.mk hB.size
 clear hI
 have HW0 := Qz.mk hB.size
 have HB := Qz.mk hB
 clear hB
 have H : ((spec_l1Rd_near.f k s0_0 s0_1 0 5).bind fun bt102 => ((spec_l1Rd_below.f s0_0 bt102.2 7).bind fun bt105 => (spec_l1Rd_version.l0 k bt105.1 s0_0 bt105.2 ([] : List (S66)) (wrap64 (1 + bt102.1)) 0 0))) = some (r1, r2, r3, r4, r5) := h
 clear h
 replace H := Option.bind_eq_some_iff.mp H
 obtain ⟨⟨t102, t103⟩, A20, H⟩ := H
 replace H : ((spec_l1Rd_below.f s0_0 t103 7).bind fun bt105 => (spec_l1Rd_version.l0 k bt105.1 s0_0 bt105.2 ([] : List (S66)) (wrap64 (1 + t102)) 0 0)) = some (r1, r2, r3, r4, r5) := H
 have A2 := Qz.mk A20
 clear A20
 replace H := Option.bind_eq_some_iff.mp H
 obtain ⟨⟨t105, t106⟩, A30, H⟩ := H
 replace H : (spec_l1Rd_version.l0 k t105 s0_0 t106 ([] : List (S66)) (wrap64 (1 + t102)) 0 0) = some (r1, r2, r3, r4, r5) := H
 have A3 := Qz.mk A30
 clear A30
 have H' := Qz.mk H
 clear H
 go_enter Try.func71, Try.ntmps71
 go_wp2_with (first | ((with_reducible refine gate_dst (N := 2) rfl ?_); refine box_event ?hg (N := 2) ?hd (cs := #[.slice none 0 0, .int .i64 0, .int .i64 0, .int .i64 0]) (t := 32) ?hr ?_; (case hd => rfl); (case hg => rfl); (case hr => exact yq86); intro gb101 hg w4 hbox hb; replace HB := Qz.mk (qq (by repeat (first | (with_reducible first | exact HB.out | apply qh | apply qg | apply qi | refine qe ?_ (IsS123.ge HI0.out)) | exact HB.out)) hb); have BK101 := Qz.mk (hbox); have GW101 := Qz.mk ((by rw [hg]; exact (qc1 (w := w) (g := g) (row := none) yq87) : w.heap.size ≤ gb101)); have GE101 := Qz.mk ((Nat.le_trans HW0.out (by rw [hg]; exact (qc1 (w := w) (g := g) (row := none) yq87) : w.heap.size ≤ gb101) : w0.heap.size ≤ gb101)); replace HK := Qz.mk (KeepBut.trans yq87 (KeepBut.of_below hb g none) (.inl rfl)); have NB0_101 := Qz.mk ((by rw [hg]; exact Nat.ne_of_lt (IsS123.lt (show IsS123 w0 _ g s0_0 s0_1 from by repeat (first | (with_reducible first | exact HI0.out | apply IsS123.alloc | apply IsS123.drewN | apply IsS123.drew | apply IsS123.set_1) | exact HI0.out))) : g ≠ gb101)); have NB101_0 := Qz.mk ((by rw [hg]; exact Nat.ne_of_gt (IsS123.lt (show IsS123 w0 _ g s0_0 s0_1 from by repeat (first | (with_reducible first | exact HI0.out | apply IsS123.alloc | apply IsS123.drewN | apply IsS123.drew | apply IsS123.set_1) | exact HI0.out))) : gb101 ≠ g)); replace HI0 := Qz.mk (IsS123.below (by repeat (first | (with_reducible first | exact HI0.out | apply IsS123.alloc | apply IsS123.drewN | apply IsS123.drew | apply IsS123.set_1) | exact HI0.out)) hb); clear hb hbox hg) | ((with_reducible refine qu (f := 102) rfl ?_); refine goesL_ (some 8) rfl rfl Try.func102 (by kernel_rfl) rfl #[.pointer (some ⟨g, 0, none⟩), .int .i64 0, .int .i64 5] rfl yq85 ?_; (with_reducible refine (spec_l1Rd_near.calls k g s0_0 s0_1 0 5 t102 t103 w0 _ ?side1 ?side2 A2.out).mono ?_); (case side1 => repeat (first | (with_reducible first | exact HI0.out | apply IsS123.alloc | apply IsS123.drewN | apply IsS123.drew | apply IsS123.set_1 | apply (fun h_ => IsS123.far h_ NB0_101.out _)) | exact HI0.out)); (case side2 => repeat (first | (with_reducible first | exact HB.out | apply qh | apply qg | apply qi | refine qe ?_ (IsS123.ge HI0.out) | refine qe ?_ GE101.out) | exact HB.out)); rintro e w5 ⟨rfl, hi, hb, hk⟩; refine ⟨_, rfl, ?_⟩; replace BK101 := Qz.mk (KeepBut.blk hk (g' := gb101) (o := .cells #[.slice none 0 0, .int .i64 0, .int .i64 0, .int .i64 0] 32 (0, 0)) yq59 NB101_0.out (by simp)); replace HK := Qz.mk (KeepBut.trans yq80 hk (.inl rfl)); replace HB := Qz.mk (hb); replace HI0 := Qz.mk (hi); (try clear hb); (try clear hk); (try clear hi)) | ((with_reducible refine gate_dst (N := 3) rfl ?_); refine box_event ?hg (N := 3) ?hd (cs := #[.slice none 0 0, .int .i64 0, .int .i64 0, .int .i64 0]) (t := 32) ?hr ?_; (case hd => rfl); (case hg => rfl); (case hr => exact yq86); intro gb104 hg w6 hbox hb; replace HB := Qz.mk (qq (by repeat (first | (with_reducible first | exact HB.out | apply qh | apply qg | apply qi | refine qe ?_ (IsS123.ge HI0.out) | refine qe ?_ GE101.out) | exact HB.out)) hb); have BK104 := Qz.mk (hbox); have GW104 := Qz.mk ((by rw [hg]; exact (qc1 (w := w) (g := g) (row := none) yq80) : w.heap.size ≤ gb104)); have GE104 := Qz.mk ((Nat.le_trans HW0.out (by rw [hg]; exact (qc1 (w := w) (g := g) (row := none) yq80) : w.heap.size ≤ gb104) : w0.heap.size ≤ gb104)); replace HK := Qz.mk (KeepBut.trans yq80 (KeepBut.of_below hb g none) (.inl rfl)); have NB101_104 := Qz.mk ((yq74 : gb101 ≠ gb104)); have NB104_101 := Qz.mk ((yq75 : gb104 ≠ gb101)); replace BK101 := bkbf71 BK101 yq59 hb; have NB0_104 := Qz.mk ((by rw [hg]; exact Nat.ne_of_lt (IsS123.lt (show IsS123 w0 _ g s0_0 t103 from by repeat (first | (with_reducible first | exact HI0.out | apply IsS123.alloc | apply IsS123.drewN | apply IsS123.drew | apply IsS123.set_1 | apply (fun h_ => IsS123.far h_ NB0_101.out _)) | exact HI0.out))) : g ≠ gb104)); have NB104_0 := Qz.mk ((by rw [hg]; exact Nat.ne_of_gt (IsS123.lt (show IsS123 w0 _ g s0_0 t103 from by repeat (first | (with_reducible first | exact HI0.out | apply IsS123.alloc | apply IsS123.drewN | apply IsS123.drew | apply IsS123.set_1 | apply (fun h_ => IsS123.far h_ NB0_101.out _)) | exact HI0.out))) : gb104 ≠ g)); replace HI0 := Qz.mk (IsS123.below (by repeat (first | (with_reducible first | exact HI0.out | apply IsS123.alloc | apply IsS123.drewN | apply IsS123.drew | apply IsS123.set_1 | apply (fun h_ => IsS123.far h_ NB0_101.out _)) | exact HI0.out)) hb); clear hb hbox hg; have hnb7 := NB104_101.out; have hnc7 := NB101_104.out; have hnb8 := NB104_0.out; have hnc8 := NB0_104.out; have hcz9_0 := (qd BK104.out 0).trans rfl; have hcz9_1 := (qd BK104.out 1).trans rfl; have hcz9_2 := (qd BK104.out 2).trans rfl; have hcz9_3 := (qd BK104.out 3).trans rfl; have hfz9_0 := qf BK104.out 0; have hfz9_1 := qf BK104.out 1; have hfz9_2 := qf BK104.out 2; have hfz9_3 := qf BK104.out 3) | ((with_reducible refine qu (f := 80) rfl ?_); refine goesL_ (some 12) rfl rfl Try.func80 (by kernel_rfl) rfl #[.pointer (some ⟨g, 0, none⟩), .int .i64 7] rfl yq85 ?_; (with_reducible refine (spec_l1Rd_below.calls g s0_0 t103 7 t105 t106 w0 _ ?side1 ?side2 A3.out).mono ?_); (case side1 => exact yq63); (case side2 => exact yq65); rintro e w10 ⟨rfl, hi, hb, hk⟩; refine ⟨_, rfl, ?_⟩; replace BK101 := Qz.mk (KeepBut.blk hk (g' := gb101) (o := .cells #[.slice none 0 0, .int .i64 0, .int .i64 0, .int .i64 0] 32 (0, 0)) (by (with_reducible repeat (first | refine qb ?_ _ | refine qc ?_ | refine qa ?_ _)); refine qp ?_ NB101_104.out _; (with_reducible repeat (first | refine qb ?_ _ | refine qc ?_ | refine qa ?_ _)); refine qp ?_ NB101_104.out _; (with_reducible repeat (first | refine qb ?_ _ | refine qc ?_ | refine qa ?_ _)); refine qp ?_ NB101_104.out _; (with_reducible repeat (first | refine qb ?_ _ | refine qc ?_ | refine qa ?_ _)); refine qp ?_ NB101_104.out _; (with_reducible repeat (first | refine qb ?_ _ | refine qc ?_ | refine qa ?_ _)); exact BK101.out) NB101_0.out (by simp)); replace BK104 := Qz.mk (KeepBut.blk hk (g' := gb104) (o := .cells #[.slice none 0 0, .int .i64 (wrap64 (1 + t102)), .int .i64 0, .int .i64 0] 32 (0, 0)) (by (with_reducible repeat (first | refine qb ?_ _ | refine qc ?_ | refine qa ?_ _)); refine qt (cs := #[.slice none 0 0, .int .i64 (wrap64 (1 + t102)), .int .i64 0, .int .i64 0]) ?_ 3 _ rfl; (with_reducible repeat (first | refine qb ?_ _ | refine qc ?_ | refine qa ?_ _)); refine qt (cs := #[.slice none 0 0, .int .i64 (wrap64 (1 + t102)), .int .i64 0, .int .i64 0]) ?_ 2 _ rfl; (with_reducible repeat (first | refine qb ?_ _ | refine qc ?_ | refine qa ?_ _)); refine qt (cs := #[.slice none 0 0, .int .i64 0, .int .i64 0, .int .i64 0]) ?_ 1 _ rfl; (with_reducible repeat (first | refine qb ?_ _ | refine qc ?_ | refine qa ?_ _)); refine qt (cs := #[.slice none 0 0, .int .i64 0, .int .i64 0, .int .i64 0]) ?_ 0 _ rfl; (with_reducible repeat (first | refine qb ?_ _ | refine qc ?_ | refine qa ?_ _)); exact BK104.out) NB104_0.out (by simp)); replace HK := Qz.mk (KeepBut.trans yq58 hk (.inl rfl)); replace HB := Qz.mk (hb); replace HI0 := Qz.mk (hi); (try clear hb); (try clear hk); (try clear hi)))
 go_loopg [4] k (fun kq v4 w' => ∃ (x4_1 : Int) (x1001_1 : Int) (x105000_1 : List (S66)) (x105001_1 : Int) (x105002_1 : Int) (x105003_1 : Int) (u105000 : Value), v4 = .int .i64 x4_1 ∧ Qz (spec_l1Rd_version.l0 kq x4_1 s0_0 x1001_1 x105000_1 x105001_1 x105002_1 x105003_1 = some (r1, r2, r3, r4, r5)) ∧ Qz (kq ≤ k) ∧ Qz (Kd.R k66 66 w' w.heap.size (fun _ => True) u105000 x105000_1) ∧ Qz (w'.heap[gb101]? = some (.cells #[(.slice none 0 0), .int .i64 0, .int .i64 0, .int .i64 0] 32 (0, 0))) ∧ Qz (w'.heap[gb104]? = some (.cells #[u105000, .int .i64 x105001_1, .int .i64 x105002_1, .int .i64 x105003_1] 32 (0, 0))) ∧ Qz (IsS123 w0 w' g s0_0 x1001_1) ∧ Qz (KeepBut w w' g none) ∧ Qz (Below w0.heap.size w0 w'))
 case atStart => exact ⟨(t105), (t106), (([] : List (S66))), (wrap64 (1 + t102)), (0), (0), (.slice none 0 0), (by first | rfl | (simp; done) | (simp [*]; done)), H', ⟨Nat.le_refl _⟩, ⟨by first | exact Kd.R_nil _ _ _ _ _ | exact Kd.N_nil _ _ _ _ _ | exact Kd.V_nil _ _ _ _ _ | exact Kd.Q_nil _ _ _ _ _ | exact Kd.S_nil _ _ _ _ _⟩, ⟨by (with_reducible repeat (first | refine qb ?_ _ | refine qc ?_ | refine qa ?_ _)); exact BK101.out⟩, ⟨by (with_reducible repeat (first | refine qb ?_ _ | refine qc ?_ | refine qa ?_ _)); exact BK104.out⟩, ⟨by repeat (first | (with_reducible first | exact HI0.out | apply IsS123.alloc | apply IsS123.drewN | apply IsS123.drew | apply IsS123.set_1 | apply (fun h_ => IsS123.far h_ NB0_101.out _) | apply (fun h_ => IsS123.far h_ NB0_104.out _)) | exact HI0.out)⟩, ⟨by repeat (first | (with_reducible first | exact HK.out | apply KeepBut.set_ | apply ql | apply qo | apply qm | refine qj ?_ GW101.out _ | refine qj ?_ GW104.out _) | exact HK.out)⟩, ⟨by repeat (first | (with_reducible first | exact HB.out | apply qh | apply qg | apply qi | refine qe ?_ (IsS123.ge HI0.out) | refine qe ?_ GE101.out | refine qe ?_ GE104.out) | exact HB.out)⟩⟩
 case round =>
  clear H'
  (try clear c1);(try clear p2);(try clear p6);(try clear c7);(try clear c8);(try clear c10);(try clear hcz9_0);(try clear hcz9_1);(try clear hcz9_2);(try clear hcz9_3);(try clear hfz9_0);(try clear hfz9_1);(try clear hfz9_2);(try clear hfz9_3)
  obtain ⟨x4_1, x1001_1, x105000_1, x105001_1, x105002_1, x105003_1, u105000, rfl, HA, HK1, HO_105000, BK101, BK104, HI0, HK, HB⟩ := hrel
  cases gk with
  | zero => exact absurd HA.out (by simp [spec_l1Rd_version.l0])
  | succ k1 =>
   have H := HA.out
   clear HA
   simp only [spec_l1Rd_version.l0] at H
   by_cases c11 : x4_1 > 0
   ·rw [if_pos c11] at H
    have c11b0 : decide (0 < x4_1) = true := decide_eq_true c11
    clear c11
    replace H := Option.bind_eq_some_iff.mp H
    obtain ⟨⟨t107, t110, t113, t114, t115, t116⟩, A120, H⟩ := H
    replace H : ((spec_Apply.f k1 x105000_1 x105001_1 x105002_1 x105003_1 t107 t110 t113 t114 t115).bind fun bt117 => (if bt117.2.2.2.2 = true then (spec_l1Rd_version.l0 k1 (wrap64 (x4_1 - 1)) s0_0 t116 bt117.1 bt117.2.1 bt117.2.2.1 bt117.2.2.2.1) else (spec_l1Rd_version.l0 k1 (wrap64 (x4_1 - 1)) s0_0 t116 x105000_1 x105001_1 x105002_1 x105003_1))) = some (r1, r2, r3, r4, r5) := H
    have A12 := Qz.mk A120
    clear A120
    replace H := Option.bind_eq_some_iff.mp H
    obtain ⟨⟨t117, t120, t121, t122, t123⟩, A130, H⟩ := H
    replace H : (if t123 = true then (spec_l1Rd_version.l0 k1 (wrap64 (x4_1 - 1)) s0_0 t116 t117 t120 t121 t122) else (spec_l1Rd_version.l0 k1 (wrap64 (x4_1 - 1)) s0_0 t116 x105000_1 x105001_1 x105002_1 x105003_1)) = some (r1, r2, r3, r4, r5) := H
    have A13 := Qz.mk A130
    clear A130
    by_cases c14 : t123 = true
    ·subst c14
     have H1 : (spec_l1Rd_version.l0 k1 (wrap64 (x4_1 - 1)) s0_0 t116 t117 t120 t121 t122) = some (r1, r2, r3, r4, r5) := by rw [if_pos rfl] at H; exact H
     clear H
     have H := H1
     clear H1
     have H' := Qz.mk H
     clear H
     obtain ⟨Ao15, co15, eo15⟩ := Kd.R_slice HO_105000.out
     subst eo15
     try go_wp2
     replace HO_105000 := Qz.mk (Kd.R_drew HO_105000.out)
     replace BK101 := Qz.mk (qc BK101.out)
     replace BK104 := Qz.mk (qc BK104.out)
     replace HI0 := Qz.mk (IsS123.drew HI0.out)
     replace HK := Qz.mk (qo HK.out)
     replace HB := Qz.mk (qi HB.out)
     refine start_ (n := 11) (S := fun w' => w'.cell? ⟨gb104, 0, none⟩ = some (.slice Ao15 x105000_1.length co15) ∧ w'.cell? ⟨gb104, 1, none⟩ = some (.int .i64 x105001_1) ∧ w'.cell? ⟨gb104, 2, none⟩ = some (.int .i64 x105002_1) ∧ w'.cell? ⟨gb104, 3, none⟩ = some (.int .i64 x105003_1)) (ds := []) bq1 (by kernel_rfl) rfl rfl ⟨(qd BK104.out 0).trans rfl, (qd BK104.out 1).trans rfl, (qd BK104.out 2).trans rfl, (qd BK104.out 3).trans rfl⟩ (fun hHeld => ?_); refine with_tabW spec_l1Rd_version.tab5 spec_l1Rd_version.bits5 (fun HT_ HW_ => ?_)
     generalize wr.drew = w16 at HO_105000 BK101 BK104 HI0 HK HB hHeld ⊢
     refine pure_ (i := 1) (N := some 19) (v := ?_) (a' := ?_) bq4 rfl rfl (qf1 HT_.out (by kernel_rfl)) (fun _ _ _ h => h) (Or.inl ⟨by rfl, ?_⟩) ?_ ?_
     rotate_left
     ·intro w'
      go_simp
      with_reducible rfl
     rotate_left
     ·simp only [Act.put, sq1, sq2, sq3, i64_w, i32_w]
      rfl
     refine take_ (i := 0) (N := some 18) (v := ?_) (a' := ?_) bq11 rfl rfl (take_ofW HT_.out HW_.out (by kernel_rfl)) (fun _ _ _ h => h) (Or.inl ⟨by rfl, ?_⟩) hHeld ?_ ?_
     rotate_left
     ·rintro w' ⟨s0, s1, s2, s3⟩
      go_simp
      with_reducible rfl
     rotate_left
     ·simp only [Act.put, sq1, sq2, sq3, i64_w, i32_w]
      rfl
     refine take_ (i := 2) (N := some 20) (v := ?_) (a' := ?_) bq12 rfl rfl (take_ofW HT_.out HW_.out (by kernel_rfl)) (fun _ _ _ h => h) (Or.inl ⟨by rfl, ?_⟩) hHeld ?_ ?_
     rotate_left
     ·rintro w' ⟨s0, s1, s2, s3⟩
      go_simp
      with_reducible rfl
     rotate_left
     ·simp only [Act.put, sq1, sq2, sq3, i64_w, i32_w]
      rfl
     refine join_ (σ := Value × Value × Value × Nat) 2 bq39 (fun s_ => [(21, .agg #[s_.1, s_.2.1, .int .i64 t113, .int .i64 t114, .int .i64 t115]), (22, .tuple #[.agg #[s_.2.2.1, .int .i64 t120, .int .i64 t121, .int .i64 t122], .bool true]), (5, .pointer (some ⟨s_.2.2.2, 0, none⟩)), (17, .tuple #[.agg #[s_.2.2.1, .int .i64 t120, .int .i64 t121, .int .i64 t122], .bool true]), (23, .agg #[s_.2.2.1, .int .i64 t120, .int .i64 t121, .int .i64 t122]), (24, .bool true)]) (fun s_ w' => (w'.cell? ⟨gb104, 0, none⟩ = some (.slice Ao15 x105000_1.length co15) ∧ w'.cell? ⟨gb104, 1, none⟩ = some (.int .i64 x105001_1) ∧ w'.cell? ⟨gb104, 2, none⟩ = some (.int .i64 x105002_1) ∧ w'.cell? ⟨gb104, 3, none⟩ = some (.int .i64 x105003_1)) ∧ (Kd.R k66 66 w' w.heap.size (fun k_ => some k_ ≠ (s_.2.2.1 : Value).ownBlock ∧ some k_ ≠ (.slice Ao15 x105000_1.length co15 : Value).ownBlock) s_.1 t107) ∧ (Kd.R (Kd.int .i64) 2 w' w.heap.size (fun _ => True) s_.2.1 t110) ∧ (Kd.R k66 66 w' w.heap.size (fun k_ => some k_ ≠ (s_.1 : Value).ownBlock ∧ some k_ ≠ (.slice Ao15 x105000_1.length co15 : Value).ownBlock) s_.2.2.1 t117) ∧ (Kd.R k66 66 w' w.heap.size (fun k_ => some k_ ≠ (s_.1 : Value).ownBlock ∧ some k_ ≠ (s_.2.2.1 : Value).ownBlock) (.slice Ao15 x105000_1.length co15) x105000_1) ∧ (w'.heap[gb101]? = some (.cells #[.slice none 0 0, .int .i64 0, .int .i64 0, .int .i64 0] 32 (0, 0))) ∧ (w'.heap[gb104]? = some (.cells #[.slice Ao15 x105000_1.length co15, .int .i64 x105001_1, .int .i64 x105002_1, .int .i64 x105003_1] 32 (0, 0))) ∧ (w'.heap[s_.2.2.2]? = some (.cells #[.slice none 0 0, .int .i64 0, .int .i64 0, .int .i64 0] 32 (0, 0))) ∧ (w.heap.size ≤ s_.2.2.2) ∧ (w0.heap.size ≤ s_.2.2.2) ∧ (g ≠ s_.2.2.2) ∧ (s_.2.2.2 ≠ g) ∧ (gb101 ≠ s_.2.2.2) ∧ (s_.2.2.2 ≠ gb101) ∧ (gb104 ≠ s_.2.2.2) ∧ (s_.2.2.2 ≠ gb104) ∧ (IsS123 w0 w' g s0_0 t116) ∧ (KeepBut w w' g none) ∧ (Below w0.heap.size w0 w')) ?_ ?_
     rotate_left
     ·intro hCont
      refine two_ (i := 3) (j := 8) (Ni := some 21) (Nj := some 5) bq16 bq13 rfl rfl rfl rfl (two_of HT_.out (by kernel_rfl)) (by decide) (by decide) (fun K hK => ?_) (fun K hK => ?_)
      ·skip
       refine goes_ Try.func88 (by kernel_rfl) rfl #[.pointer (some ⟨g, 0, none⟩), .agg #[.slice Ao15 x105000_1.length co15, .int .i64 x105001_1, .int .i64 x105002_1, .int .i64 x105003_1]] (by rfl) rfl rfl yq67 ?_
       with_reducible refine (spec_l1Rd_edit.calls k1 g s0_0 x1001_1 _ _ x105000_1 x105001_1 x105002_1 x105003_1 t107 t110 t113 t114 t115 t116 w0 _ ?side1 ?side2 ?side3 ?side4 A12.out).mono ?_
       (case side1 => exact yq63)
       (case side2 => exact yq65)
       (case side3 => exact Kd.C_foot_own (IsS123.apart (show IsS123 w0 _ g s0_0 x1001_1 from by repeat (first | (with_reducible first | exact HI0.out | apply IsS123.alloc | apply IsS123.drewN | apply IsS123.drew | apply IsS123.set_1 | apply (fun h_ => IsS123.far h_ NB0_101.out _) | apply (fun h_ => IsS123.far h_ NB0_104.out _)) | exact HI0.out)) yq62 (by decide)) (fun _ h_ => h_.2))
       (case side4 => exact (Kd.R_reads' HO_105000.out).2.1)
       rintro e w17 ⟨v108, v111, rfl, ho0, ho1, hi, hb, hk⟩
       refine ⟨_, rfl, ?_⟩
       replace BK101 := Qz.mk (KeepBut.blk hk (g' := gb101) (o := .cells #[.slice none 0 0, .int .i64 0, .int .i64 0, .int .i64 0] 32 (0, 0)) yq59 NB101_0.out (by simp))
       replace BK104 := Qz.mk (KeepBut.blk hk (g' := gb104) (o := .cells #[.slice Ao15 x105000_1.length co15, .int .i64 x105001_1, .int .i64 x105002_1, .int .i64 x105003_1] 32 (0, 0)) yq61 NB104_0.out (by simp))
       have HO109 := Qz.mk (Kd.R_lower (Kd.R_new' ho0 (Kd.R_lt yq62)) (qc1 (w := w) (g := g) (row := none) yq58))
       replace HO_105000 := Qz.mk (Kd.R_mono (Kd.R_told (Kd.R_oldK (IsS123.apart (show IsS123 w0 _ g s0_0 x1001_1 from by repeat (first | (with_reducible first | exact HI0.out | apply IsS123.alloc | apply IsS123.drewN | apply IsS123.drew | apply IsS123.set_1 | apply (fun h_ => IsS123.far h_ NB0_101.out _) | apply (fun h_ => IsS123.far h_ NB0_104.out _)) | exact HI0.out)) yq62 (by decide)) hk) (Kd.R_base ho0)) (fun _ h_ => h_.1))
       have HO112 := Qz.mk (Kd.R_lower ho1 (qc1 (w := w) (g := g) (row := none) yq58))
       replace HK := Qz.mk (KeepBut.trans yq58 hk (.inl rfl))
       replace HB := Qz.mk (hb)
       replace HI0 := Qz.mk (hi)
       (try clear hb)
       (try clear hk)
       (try clear hi)
       (try clear ho0)
       (try clear ho1)
       obtain ⟨Ao18, co18, eo18⟩ := Kd.R_slice HO109.out
       (first | subst eo18 | (injection eo18 with f1_ f2_ f3_; have f4_ := f1_.symm; have f5_ := f3_.symm; clear f1_ f2_ f3_; subst f4_; subst f5_))
       obtain ⟨Ao19, co19, eo19⟩ := Kd.R_slice HO112.out
       (first | subst eo19 | (injection eo19 with f1_ f2_ f3_; have f4_ := f1_.symm; have f5_ := f3_.symm; clear f1_ f2_ f3_; subst f4_; subst f5_))
       refine hK.out _ _ ⟨(qd BK104.out 0).trans rfl, (qd BK104.out 1).trans rfl, (qd BK104.out 2).trans rfl, (qd BK104.out 3).trans rfl⟩ (fun hHeld => ?_)
       clear hK K
       refine norm_ (a' := ?_) ?_ ?_
       rotate_left
       ·show Act.put _ (some 21) _ = _
        simp only [Act.put, sq1, sq2, sq3, i64_w, i32_w]
        rfl
       refine two_ (i := 4) (j := 8) (Ni := some 22) (Nj := some 5) bq20 bq17 rfl rfl rfl rfl (two_of HT_.out (by kernel_rfl)) (by decide) (by decide) (fun K hK => ?_) (fun K hK => ?_)
       ·skip
        refine goes_ Try.func17 (by kernel_rfl) rfl #[.agg #[.slice Ao15 x105000_1.length co15, .int .i64 x105001_1, .int .i64 x105002_1, .int .i64 x105003_1], .agg #[.slice Ao18 t107.length co18, .slice Ao19 t110.length co19, .int .i64 t113, .int .i64 t114, .int .i64 t115]] (by rfl) rfl rfl yq67 ?_
        with_reducible refine (spec_Apply.calls k1 _ _ x105000_1 x105001_1 x105002_1 x105003_1 _ _ t107 _ _ t110 t113 t114 t115 t117 t120 t121 t122 true _ ?side1 ?side2 ?side3 ?side4 ?side5 ?side6 A13.out).mono ?_
        (case side1 => exact yq71)
        (case side2 => exact (Kd.R_reads' HO_105000.out).2.1)
        (case side3 => exact yq73)
        (case side4 => exact (Kd.R_reads' HO109.out).2.1)
        (case side5 => exact yq72)
        (case side6 => exact (Kd.R_reads' HO112.out).2.1)
        rintro e w20 ⟨v118, rfl, ho0, hb⟩
        refine ⟨_, rfl, ?_⟩
        replace HO112 := Qz.mk (Kd.R_below yq68 hb)
        have HO119 := Qz.mk (Kd.R_lower (Kd.R_new' (Kd.R_new' ho0 (Kd.R_lt yq62)) (Kd.R_lt yq69)) (qc1 (w := w) (g := g) (row := none) yq58))
        replace HO_105000 := Qz.mk (Kd.R_elder' yq62 (Kd.R_base ho0) hb)
        replace HO109 := Qz.mk (Kd.R_elder' yq69 (Kd.R_base ho0) hb)
        replace BK101 := bkbf71 BK101 yq59 hb
        replace BK104 := bkbf71 BK104 yq61 hb
        replace HK := Qz.mk (KeepBut.trans yq58 (KeepBut.of_below hb g none) (.inl rfl))
        replace HB := Qz.mk (qq yq65 hb)
        replace HI0 := Qz.mk (IsS123.below yq63 hb)
        (try clear hb)
        (try clear hk)
        (try clear hi)
        (try clear ho0)
        refine hK.out _ _ ⟨(qd BK104.out 0).trans rfl, (qd BK104.out 1).trans rfl, (qd BK104.out 2).trans rfl, (qd BK104.out 3).trans rfl⟩ (fun hHeld => ?_)
        clear hK K
        refine norm_ (a' := ?_) ?_ ?_
        rotate_left
        ·show Act.put _ (some 22) _ = _
         simp only [Act.put, sq1, sq2, sq3, i64_w, i32_w]
         rfl
        refine pure_ (i := 5) (N := some 17) (v := ?_) (a' := ?_) bq25 rfl rfl (qf1 HT_.out (by kernel_rfl)) (fun _ _ _ h => h) (Or.inl ⟨by rfl, ?_⟩) ?_ ?_
        rotate_left
        ·intro w'
         go_simp
         with_reducible rfl
        rotate_left
        ·simp only [Act.put, sq1, sq2, sq3, i64_w, i32_w]
         rfl
        refine pure_ (i := 6) (N := some 23) (v := ?_) (a' := ?_) bq30 rfl rfl (qf1 HT_.out (by kernel_rfl)) (fun _ _ _ h => h) (Or.inl ⟨by rfl, ?_⟩) ?_ ?_
        rotate_left
        ·intro w'
         go_simp
         with_reducible rfl
        rotate_left
        ·simp only [Act.put, sq1, sq2, sq3, i64_w, i32_w]
         rfl
        refine pure_ (i := 7) (N := some 24) (v := ?_) (a' := ?_) bq35 rfl rfl (qf1 HT_.out (by kernel_rfl)) (fun _ _ _ h => h) (Or.inl ⟨by rfl, ?_⟩) ?_ ?_
        rotate_left
        ·intro w'
         go_simp
         with_reducible rfl
        rotate_left
        ·simp only [Act.put, sq1, sq2, sq3, i64_w, i32_w]
         rfl
        refine one_ (i := 8) (N := some 5) bq39 rfl rfl (one_of HT_.out (by kernel_rfl)) (by decide) (fun K hK => ?_)
        refine box_step ?hg (N := 5) ?hd (cs := #[.slice none 0 0, .int .i64 0, .int .i64 0, .int .i64 0]) (t := 32) ?hr ?_; (case hd => rfl); (case hg => rfl); (case hr => exact yq86)
        intro gb124 hg w21 hbox hb
        replace HO_105000 := Qz.mk (Kd.R_below yq62 hb)
        replace HO109 := Qz.mk (Kd.R_below yq69 hb)
        replace HO112 := Qz.mk (Kd.R_below yq68 hb)
        replace HO119 := Qz.mk (Kd.R_below (by (with_reducible repeat (first | apply Kd.R_alloc | apply Kd.R_drewN | apply Kd.R_drew)); exact HO119.out) hb)
        replace HB := Qz.mk (qq yq65 hb)
        have BK124 := Qz.mk (hbox)
        have GW124 := Qz.mk ((yq79 : w.heap.size ≤ gb124))
        have GE124 := Qz.mk ((Nat.le_trans HW0.out (yq79 : w.heap.size ≤ gb124) : w0.heap.size ≤ gb124))
        replace HK := Qz.mk (KeepBut.trans yq58 (KeepBut.of_below hb g none) (.inl rfl))
        have NB101_124 := Qz.mk ((yq74 : gb101 ≠ gb124))
        have NB124_101 := Qz.mk ((yq75 : gb124 ≠ gb101))
        replace BK101 := bkbf71 BK101 yq59 hb
        have NB104_124 := Qz.mk ((yq82 : gb104 ≠ gb124))
        have NB124_104 := Qz.mk ((yq84 : gb124 ≠ gb104))
        replace BK104 := bkbf71 BK104 yq61 hb
        have NB0_124 := Qz.mk ((by rw [hg]; exact Nat.ne_of_lt (IsS123.lt (show IsS123 w0 _ g s0_0 t116 from by repeat (first | (with_reducible first | exact HI0.out | apply IsS123.alloc | apply IsS123.drewN | apply IsS123.drew | apply IsS123.set_1 | apply (fun h_ => IsS123.far h_ NB0_101.out _) | apply (fun h_ => IsS123.far h_ NB0_104.out _)) | exact HI0.out))) : g ≠ gb124))
        have NB124_0 := Qz.mk ((by rw [hg]; exact Nat.ne_of_gt (IsS123.lt (show IsS123 w0 _ g s0_0 t116 from by repeat (first | (with_reducible first | exact HI0.out | apply IsS123.alloc | apply IsS123.drewN | apply IsS123.drew | apply IsS123.set_1 | apply (fun h_ => IsS123.far h_ NB0_101.out _) | apply (fun h_ => IsS123.far h_ NB0_104.out _)) | exact HI0.out))) : gb124 ≠ g))
        replace HI0 := Qz.mk (IsS123.below yq63 hb)
        clear hb hbox hg
        refine hK.out _ _ ⟨(qd BK104.out 0).trans rfl, (qd BK104.out 1).trans rfl, (qd BK104.out 2).trans rfl, (qd BK104.out 3).trans rfl⟩ (fun hHeld => ?_)
        clear hK K
        refine norm_ (a' := ?_) ?_ ?_
        rotate_left
        ·show Act.put _ (some 5) _ = _
         simp only [Act.put, sq1, sq2, sq3, i64_w, i32_w]
         rfl
        exact norm_ (by simp only [putAll, Act.put, sq1, sq2, sq3]) (hCont (.slice Ao18 t107.length co18, .slice Ao19 t110.length co19, v118, gb124) _ ⟨hHeld, yq78, yq68, yq77, yq76, yq59, yq61, yq70, GW124.out, GE124.out, NB0_124.out, NB124_0.out, NB101_124.out, NB124_101.out, NB104_124.out, NB124_104.out, yq64, yq60, yq66⟩)
       ·skip
        refine box_step ?hg (N := 5) ?hd (cs := #[.slice none 0 0, .int .i64 0, .int .i64 0, .int .i64 0]) (t := 32) ?hr ?_; (case hd => rfl); (case hg => rfl); (case hr => exact yq86)
        intro gb124 hg w18 hbox hb
        replace HO_105000 := Qz.mk (Kd.R_below yq62 hb)
        replace HO109 := Qz.mk (Kd.R_below yq69 hb)
        replace HO112 := Qz.mk (Kd.R_below yq68 hb)
        replace HB := Qz.mk (qq yq65 hb)
        have BK124 := Qz.mk (hbox)
        have GW124 := Qz.mk ((yq79 : w.heap.size ≤ gb124))
        have GE124 := Qz.mk ((Nat.le_trans HW0.out (yq79 : w.heap.size ≤ gb124) : w0.heap.size ≤ gb124))
        replace HK := Qz.mk (KeepBut.trans yq58 (KeepBut.of_below hb g none) (.inl rfl))
        have NB101_124 := Qz.mk ((yq74 : gb101 ≠ gb124))
        have NB124_101 := Qz.mk ((yq75 : gb124 ≠ gb101))
        replace BK101 := bkbf71 BK101 yq59 hb
        have NB104_124 := Qz.mk ((yq82 : gb104 ≠ gb124))
        have NB124_104 := Qz.mk ((yq84 : gb124 ≠ gb104))
        replace BK104 := bkbf71 BK104 yq61 hb
        have NB0_124 := Qz.mk ((by rw [hg]; exact Nat.ne_of_lt (IsS123.lt (show IsS123 w0 _ g s0_0 t116 from by repeat (first | (with_reducible first | exact HI0.out | apply IsS123.alloc | apply IsS123.drewN | apply IsS123.drew | apply IsS123.set_1 | apply (fun h_ => IsS123.far h_ NB0_101.out _) | apply (fun h_ => IsS123.far h_ NB0_104.out _)) | exact HI0.out))) : g ≠ gb124))
        have NB124_0 := Qz.mk ((by rw [hg]; exact Nat.ne_of_gt (IsS123.lt (show IsS123 w0 _ g s0_0 t116 from by repeat (first | (with_reducible first | exact HI0.out | apply IsS123.alloc | apply IsS123.drewN | apply IsS123.drew | apply IsS123.set_1 | apply (fun h_ => IsS123.far h_ NB0_101.out _) | apply (fun h_ => IsS123.far h_ NB0_104.out _)) | exact HI0.out))) : gb124 ≠ g))
        replace HI0 := Qz.mk (IsS123.below yq63 hb)
        clear hb hbox hg
        obtain ⟨Ao19, co19, eo19⟩ := Kd.R_slice HO109.out
        (first | subst eo19 | (injection eo19 with f1_ f2_ f3_; have f4_ := f1_.symm; have f5_ := f3_.symm; clear f1_ f2_ f3_; subst f4_; subst f5_))
        obtain ⟨Ao20, co20, eo20⟩ := Kd.R_slice HO112.out
        (first | subst eo20 | (injection eo20 with f1_ f2_ f3_; have f4_ := f1_.symm; have f5_ := f3_.symm; clear f1_ f2_ f3_; subst f4_; subst f5_))
        refine hK.out _ _ ⟨(qd BK104.out 0).trans rfl, (qd BK104.out 1).trans rfl, (qd BK104.out 2).trans rfl, (qd BK104.out 3).trans rfl⟩ (fun hHeld => ?_)
        clear hK K
        refine norm_ (a' := ?_) ?_ ?_
        rotate_left
        ·show Act.put _ (some 5) _ = _
         simp only [Act.put, sq1, sq2, sq3, i64_w, i32_w]
         rfl
        refine one_ (i := 4) (N := some 22) bq22 rfl rfl (one_of HT_.out (by kernel_rfl)) (by decide) (fun K hK => ?_)
        refine goes_ Try.func17 (by kernel_rfl) rfl #[.agg #[.slice Ao15 x105000_1.length co15, .int .i64 x105001_1, .int .i64 x105002_1, .int .i64 x105003_1], .agg #[.slice Ao19 t107.length co19, .slice Ao20 t110.length co20, .int .i64 t113, .int .i64 t114, .int .i64 t115]] (by rfl) rfl rfl yq67 ?_
        with_reducible refine (spec_Apply.calls k1 _ _ x105000_1 x105001_1 x105002_1 x105003_1 _ _ t107 _ _ t110 t113 t114 t115 t117 t120 t121 t122 true _ ?side1 ?side2 ?side3 ?side4 ?side5 ?side6 A13.out).mono ?_
        (case side1 => exact yq71)
        (case side2 => exact (Kd.R_reads' HO_105000.out).2.1)
        (case side3 => exact yq73)
        (case side4 => exact (Kd.R_reads' HO109.out).2.1)
        (case side5 => exact yq72)
        (case side6 => exact (Kd.R_reads' HO112.out).2.1)
        rintro e w21 ⟨v118, rfl, ho0, hb⟩
        refine ⟨_, rfl, ?_⟩
        replace HO112 := Qz.mk (Kd.R_below yq68 hb)
        have HO119 := Qz.mk (Kd.R_lower (Kd.R_new' (Kd.R_new' ho0 (Kd.R_lt yq62)) (Kd.R_lt yq69)) (qc1 (w := w) (g := g) (row := none) yq60))
        replace HO_105000 := Qz.mk (Kd.R_elder' yq62 (Kd.R_base ho0) hb)
        replace HO109 := Qz.mk (Kd.R_elder' yq69 (Kd.R_base ho0) hb)
        replace BK101 := bkbf71 BK101 yq59 hb
        replace BK104 := bkbf71 BK104 yq61 hb
        replace BK124 := bkbf71 BK124 yq70 hb
        replace HK := Qz.mk (KeepBut.trans yq60 (KeepBut.of_below hb g none) (.inl rfl))
        replace HB := Qz.mk (qq yq66 hb)
        replace HI0 := Qz.mk (IsS123.below yq64 hb)
        (try clear hb)
        (try clear hk)
        (try clear hi)
        (try clear ho0)
        refine hK.out _ _ ⟨(qd BK104.out 0).trans rfl, (qd BK104.out 1).trans rfl, (qd BK104.out 2).trans rfl, (qd BK104.out 3).trans rfl⟩ (fun hHeld => ?_)
        clear hK K
        refine norm_ (a' := ?_) ?_ ?_
        rotate_left
        ·show Act.put _ (some 22) _ = _
         simp only [Act.put, sq1, sq2, sq3, i64_w, i32_w]
         rfl
        refine pure_ (i := 5) (N := some 17) (v := ?_) (a' := ?_) bq27 rfl rfl (qf1 HT_.out (by kernel_rfl)) (fun _ _ _ h => h) (Or.inl ⟨by rfl, ?_⟩) ?_ ?_
        rotate_left
        ·intro w'
         go_simp
         with_reducible rfl
        rotate_left
        ·simp only [Act.put, sq1, sq2, sq3, i64_w, i32_w]
         rfl
        refine pure_ (i := 6) (N := some 23) (v := ?_) (a' := ?_) bq32 rfl rfl (qf1 HT_.out (by kernel_rfl)) (fun _ _ _ h => h) (Or.inl ⟨by rfl, ?_⟩) ?_ ?_
        rotate_left
        ·intro w'
         go_simp
         with_reducible rfl
        rotate_left
        ·simp only [Act.put, sq1, sq2, sq3, i64_w, i32_w]
         rfl
        refine pure_ (i := 7) (N := some 24) (v := ?_) (a' := ?_) bq39 rfl rfl (qf1 HT_.out (by kernel_rfl)) (fun _ _ _ h => h) (Or.inl ⟨by rfl, ?_⟩) ?_ ?_
        rotate_left
        ·intro w'
         go_simp
         with_reducible rfl
        rotate_left
        ·simp only [Act.put, sq1, sq2, sq3, i64_w, i32_w]
         rfl
        exact norm_ (by simp only [putAll, Act.put, sq1, sq2, sq3]) (hCont (.slice Ao19 t107.length co19, .slice Ao20 t110.length co20, v118, gb124) _ ⟨hHeld, yq78, yq68, yq77, yq76, yq59, yq61, yq70, GW124.out, GE124.out, NB0_124.out, NB124_0.out, NB101_124.out, NB124_101.out, NB104_124.out, NB124_104.out, yq64, yq60, yq66⟩)
      ·skip
       refine box_step ?hg (N := 5) ?hd (cs := #[.slice none 0 0, .int .i64 0, .int .i64 0, .int .i64 0]) (t := 32) ?hr ?_; (case hd => rfl); (case hg => rfl); (case hr => exact yq86)
       intro gb124 hg w17 hbox hb
       replace HO_105000 := Qz.mk (Kd.R_below yq62 hb)
       replace HB := Qz.mk (qq yq65 hb)
       have BK124 := Qz.mk (hbox)
       have GW124 := Qz.mk ((yq79 : w.heap.size ≤ gb124))
       have GE124 := Qz.mk ((Nat.le_trans HW0.out (yq79 : w.heap.size ≤ gb124) : w0.heap.size ≤ gb124))
       replace HK := Qz.mk (KeepBut.trans yq58 (KeepBut.of_below hb g none) (.inl rfl))
       have NB101_124 := Qz.mk ((yq74 : gb101 ≠ gb124))
       have NB124_101 := Qz.mk ((yq75 : gb124 ≠ gb101))
       replace BK101 := bkbf71 BK101 yq59 hb
       have NB104_124 := Qz.mk ((yq82 : gb104 ≠ gb124))
       have NB124_104 := Qz.mk ((yq84 : gb124 ≠ gb104))
       replace BK104 := bkbf71 BK104 yq61 hb
       have NB0_124 := Qz.mk ((by rw [hg]; exact Nat.ne_of_lt (IsS123.lt (show IsS123 w0 _ g s0_0 x1001_1 from by repeat (first | (with_reducible first | exact HI0.out | apply IsS123.alloc | apply IsS123.drewN | apply IsS123.drew | apply IsS123.set_1 | apply (fun h_ => IsS123.far h_ NB0_101.out _) | apply (fun h_ => IsS123.far h_ NB0_104.out _)) | exact HI0.out))) : g ≠ gb124))
       have NB124_0 := Qz.mk ((by rw [hg]; exact Nat.ne_of_gt (IsS123.lt (show IsS123 w0 _ g s0_0 x1001_1 from by repeat (first | (with_reducible first | exact HI0.out | apply IsS123.alloc | apply IsS123.drewN | apply IsS123.drew | apply IsS123.set_1 | apply (fun h_ => IsS123.far h_ NB0_101.out _) | apply (fun h_ => IsS123.far h_ NB0_104.out _)) | exact HI0.out))) : gb124 ≠ g))
       replace HI0 := Qz.mk (IsS123.below yq63 hb)
       clear hb hbox hg
       refine hK.out _ _ ⟨(qd BK104.out 0).trans rfl, (qd BK104.out 1).trans rfl, (qd BK104.out 2).trans rfl, (qd BK104.out 3).trans rfl⟩ (fun hHeld => ?_)
       clear hK K
       refine norm_ (a' := ?_) ?_ ?_
       rotate_left
       ·show Act.put _ (some 5) _ = _
        simp only [Act.put, sq1, sq2, sq3, i64_w, i32_w]
        rfl
       refine one_ (i := 3) (N := some 21) bq17 rfl rfl (one_of HT_.out (by kernel_rfl)) (by decide) (fun K hK => ?_)
       refine goes_ Try.func88 (by kernel_rfl) rfl #[.pointer (some ⟨g, 0, none⟩), .agg #[.slice Ao15 x105000_1.length co15, .int .i64 x105001_1, .int .i64 x105002_1, .int .i64 x105003_1]] (by rfl) rfl rfl yq67 ?_
       with_reducible refine (spec_l1Rd_edit.calls k1 g s0_0 x1001_1 _ _ x105000_1 x105001_1 x105002_1 x105003_1 t107 t110 t113 t114 t115 t116 w0 _ ?side1 ?side2 ?side3 ?side4 A12.out).mono ?_
       (case side1 => exact yq64)
       (case side2 => exact yq66)
       (case side3 => exact Kd.C_foot_own (IsS123.apart (show IsS123 w0 _ g s0_0 x1001_1 from by repeat (first | (with_reducible first | exact HI0.out | apply IsS123.alloc | apply IsS123.drewN | apply IsS123.drew | apply IsS123.set_1 | apply (fun h_ => IsS123.far h_ NB0_101.out _) | apply (fun h_ => IsS123.far h_ NB0_104.out _) | apply (fun h_ => IsS123.far h_ NB0_124.out _)) | exact HI0.out)) yq62 (by decide)) (fun _ h_ => h_.2))
       (case side4 => exact (Kd.R_reads' HO_105000.out).2.1)
       rintro e w18 ⟨v108, v111, rfl, ho0, ho1, hi, hb, hk⟩
       refine ⟨_, rfl, ?_⟩
       replace BK101 := Qz.mk (KeepBut.blk hk (g' := gb101) (o := .cells #[.slice none 0 0, .int .i64 0, .int .i64 0, .int .i64 0] 32 (0, 0)) yq59 NB101_0.out (by simp))
       replace BK104 := Qz.mk (KeepBut.blk hk (g' := gb104) (o := .cells #[.slice Ao15 x105000_1.length co15, .int .i64 x105001_1, .int .i64 x105002_1, .int .i64 x105003_1] 32 (0, 0)) yq61 NB104_0.out (by simp))
       replace BK124 := Qz.mk (KeepBut.blk hk (g' := gb124) (o := .cells #[.slice none 0 0, .int .i64 0, .int .i64 0, .int .i64 0] 32 (0, 0)) yq70 NB124_0.out (by simp))
       have HO109 := Qz.mk (Kd.R_lower (Kd.R_new' ho0 (Kd.R_lt yq62)) (qc1 (w := w) (g := g) (row := none) yq60))
       replace HO_105000 := Qz.mk (Kd.R_mono (Kd.R_told (Kd.R_oldK (IsS123.apart (show IsS123 w0 _ g s0_0 x1001_1 from by repeat (first | (with_reducible first | exact HI0.out | apply IsS123.alloc | apply IsS123.drewN | apply IsS123.drew | apply IsS123.set_1 | apply (fun h_ => IsS123.far h_ NB0_101.out _) | apply (fun h_ => IsS123.far h_ NB0_104.out _) | apply (fun h_ => IsS123.far h_ NB0_124.out _)) | exact HI0.out)) yq62 (by decide)) hk) (Kd.R_base ho0)) (fun _ h_ => h_.1))
       have HO112 := Qz.mk (Kd.R_lower ho1 (qc1 (w := w) (g := g) (row := none) yq60))
       replace HK := Qz.mk (KeepBut.trans yq60 hk (.inl rfl))
       replace HB := Qz.mk (hb)
       replace HI0 := Qz.mk (hi)
       (try clear hb)
       (try clear hk)
       (try clear hi)
       (try clear ho0)
       (try clear ho1)
       obtain ⟨Ao19, co19, eo19⟩ := Kd.R_slice HO109.out
       (first | subst eo19 | (injection eo19 with f1_ f2_ f3_; have f4_ := f1_.symm; have f5_ := f3_.symm; clear f1_ f2_ f3_; subst f4_; subst f5_))
       obtain ⟨Ao20, co20, eo20⟩ := Kd.R_slice HO112.out
       (first | subst eo20 | (injection eo20 with f1_ f2_ f3_; have f4_ := f1_.symm; have f5_ := f3_.symm; clear f1_ f2_ f3_; subst f4_; subst f5_))
       refine hK.out _ _ ⟨(qd BK104.out 0).trans rfl, (qd BK104.out 1).trans rfl, (qd BK104.out 2).trans rfl, (qd BK104.out 3).trans rfl⟩ (fun hHeld => ?_)
       clear hK K
       refine norm_ (a' := ?_) ?_ ?_
       rotate_left
       ·show Act.put _ (some 21) _ = _
        simp only [Act.put, sq1, sq2, sq3, i64_w, i32_w]
        rfl
       refine one_ (i := 4) (N := some 22) bq22 rfl rfl (one_of HT_.out (by kernel_rfl)) (by decide) (fun K hK => ?_)
       refine goes_ Try.func17 (by kernel_rfl) rfl #[.agg #[.slice Ao15 x105000_1.length co15, .int .i64 x105001_1, .int .i64 x105002_1, .int .i64 x105003_1], .agg #[.slice Ao19 t107.length co19, .slice Ao20 t110.length co20, .int .i64 t113, .int .i64 t114, .int .i64 t115]] (by rfl) rfl rfl yq67 ?_
       with_reducible refine (spec_Apply.calls k1 _ _ x105000_1 x105001_1 x105002_1 x105003_1 _ _ t107 _ _ t110 t113 t114 t115 t117 t120 t121 t122 true _ ?side1 ?side2 ?side3 ?side4 ?side5 ?side6 A13.out).mono ?_
       (case side1 => exact yq71)
       (case side2 => exact (Kd.R_reads' HO_105000.out).2.1)
       (case side3 => exact yq73)
       (case side4 => exact (Kd.R_reads' HO109.out).2.1)
       (case side5 => exact yq72)
       (case side6 => exact (Kd.R_reads' HO112.out).2.1)
       rintro e w21 ⟨v118, rfl, ho0, hb⟩
       refine ⟨_, rfl, ?_⟩
       replace HO112 := Qz.mk (Kd.R_below yq68 hb)
       have HO119 := Qz.mk (Kd.R_lower (Kd.R_new' (Kd.R_new' ho0 (Kd.R_lt yq62)) (Kd.R_lt yq69)) (qc1 (w := w) (g := g) (row := none) yq60))
       replace HO_105000 := Qz.mk (Kd.R_elder' yq62 (Kd.R_base ho0) hb)
       replace HO109 := Qz.mk (Kd.R_elder' yq69 (Kd.R_base ho0) hb)
       replace BK101 := bkbf71 BK101 yq59 hb
       replace BK104 := bkbf71 BK104 yq61 hb
       replace BK124 := bkbf71 BK124 yq70 hb
       replace HK := Qz.mk (KeepBut.trans yq60 (KeepBut.of_below hb g none) (.inl rfl))
       replace HB := Qz.mk (qq yq66 hb)
       replace HI0 := Qz.mk (IsS123.below yq64 hb)
       (try clear hb)
       (try clear hk)
       (try clear hi)
       (try clear ho0)
       refine hK.out _ _ ⟨(qd BK104.out 0).trans rfl, (qd BK104.out 1).trans rfl, (qd BK104.out 2).trans rfl, (qd BK104.out 3).trans rfl⟩ (fun hHeld => ?_)
       clear hK K
       refine norm_ (a' := ?_) ?_ ?_
       rotate_left
       ·show Act.put _ (some 22) _ = _
        simp only [Act.put, sq1, sq2, sq3, i64_w, i32_w]
        rfl
       refine pure_ (i := 5) (N := some 17) (v := ?_) (a' := ?_) bq27 rfl rfl (qf1 HT_.out (by kernel_rfl)) (fun _ _ _ h => h) (Or.inl ⟨by rfl, ?_⟩) ?_ ?_
       rotate_left
       ·intro w'
        go_simp
        with_reducible rfl
       rotate_left
       ·simp only [Act.put, sq1, sq2, sq3, i64_w, i32_w]
        rfl
       refine pure_ (i := 6) (N := some 23) (v := ?_) (a' := ?_) bq32 rfl rfl (qf1 HT_.out (by kernel_rfl)) (fun _ _ _ h => h) (Or.inl ⟨by rfl, ?_⟩) ?_ ?_
       rotate_left
       ·intro w'
        go_simp
        with_reducible rfl
       rotate_left
       ·simp only [Act.put, sq1, sq2, sq3, i64_w, i32_w]
        rfl
       refine pure_ (i := 7) (N := some 24) (v := ?_) (a' := ?_) bq39 rfl rfl (qf1 HT_.out (by kernel_rfl)) (fun _ _ _ h => h) (Or.inl ⟨by rfl, ?_⟩) ?_ ?_
       rotate_left
       ·intro w'
        go_simp
        with_reducible rfl
       rotate_left
       ·simp only [Act.put, sq1, sq2, sq3, i64_w, i32_w]
        rfl
       exact norm_ (by simp only [putAll, Act.put, sq1, sq2, sq3]) (hCont (.slice Ao19 t107.length co19, .slice Ao20 t110.length co20, v118, gb124) _ ⟨hHeld, yq78, yq68, yq77, yq76, yq59, yq61, yq70, GW124.out, GE124.out, NB0_124.out, NB124_0.out, NB101_124.out, NB124_101.out, NB104_124.out, NB124_104.out, yq64, yq60, yq66⟩)
     rintro ⟨v108, v111, v118, gb124⟩ w22 ⟨hS_, h0_, h1_, h2_, h3_, h4_, h5_, h6_, h7_, h8_, h9_, h10_, h11_, h12_, h13_, h14_, h15_, h16_, h17_⟩
     have n0_ : Qz (Kd.R k66 66 w22 w.heap.size (fun k_ => some k_ ≠ (v118 : Value).ownBlock ∧ some k_ ≠ (.slice Ao15 x105000_1.length co15 : Value).ownBlock) v108 t107) := ⟨h0_⟩
     have n1_ : Qz (Kd.R (Kd.int .i64) 2 w22 w.heap.size (fun _ => True) v111 t110) := ⟨h1_⟩
     have n2_ : Qz (Kd.R k66 66 w22 w.heap.size (fun k_ => some k_ ≠ (v108 : Value).ownBlock ∧ some k_ ≠ (.slice Ao15 x105000_1.length co15 : Value).ownBlock) v118 t117) := ⟨h2_⟩
     have n3_ : Qz (Kd.R k66 66 w22 w.heap.size (fun k_ => some k_ ≠ (v108 : Value).ownBlock ∧ some k_ ≠ (v118 : Value).ownBlock) (.slice Ao15 x105000_1.length co15) x105000_1) := ⟨h3_⟩
     have n4_ : Qz (w22.heap[gb101]? = some (.cells #[.slice none 0 0, .int .i64 0, .int .i64 0, .int .i64 0] 32 (0, 0))) := ⟨h4_⟩
     have n5_ : Qz (w22.heap[gb104]? = some (.cells #[.slice Ao15 x105000_1.length co15, .int .i64 x105001_1, .int .i64 x105002_1, .int .i64 x105003_1] 32 (0, 0))) := ⟨h5_⟩
     have n6_ : Qz (w22.heap[gb124]? = some (.cells #[.slice none 0 0, .int .i64 0, .int .i64 0, .int .i64 0] 32 (0, 0))) := ⟨h6_⟩
     have n7_ : Qz (w.heap.size ≤ gb124) := ⟨h7_⟩
     have n8_ : Qz (w0.heap.size ≤ gb124) := ⟨h8_⟩
     have n9_ : Qz (g ≠ gb124) := ⟨h9_⟩
     have n10_ : Qz (gb124 ≠ g) := ⟨h10_⟩
     have n11_ : Qz (gb101 ≠ gb124) := ⟨h11_⟩
     have n12_ : Qz (gb124 ≠ gb101) := ⟨h12_⟩
     have n13_ : Qz (gb104 ≠ gb124) := ⟨h13_⟩
     have n14_ : Qz (gb124 ≠ gb104) := ⟨h14_⟩
     have n15_ : Qz (IsS123 w0 w22 g s0_0 t116) := ⟨h15_⟩
     have n16_ : Qz (KeepBut w w22 g none) := ⟨h16_⟩
     have n17_ : Qz (Below w0.heap.size w0 w22) := ⟨h17_⟩
     clear HO_105000
     clear BK101
     clear BK104
     clear HI0
     clear HK
     clear HB
     clear h0_ h1_ h2_ h3_ h4_ h5_ h6_ h7_ h8_ h9_ h10_ h11_ h12_ h13_ h14_ h15_ h16_ h17_
     have HO109 := n0_
     have HO112 := n1_
     have HO119 := n2_
     have HO_105000 := n3_
     have BK101 := n4_
     have BK104 := n5_
     have BK124 := n6_
     have GW124 := n7_
     have GE124 := n8_
     have NB0_124 := n9_
     have NB124_0 := n10_
     have NB101_124 := n11_
     have NB124_101 := n12_
     have NB104_124 := n13_
     have NB124_104 := n14_
     have HI0 := n15_
     have HK := n16_
     have HB := n17_
     clear n0_ n1_ n2_ n3_ n4_ n5_ n6_ n7_ n8_ n9_ n10_ n11_ n12_ n13_ n14_ n15_ n16_ n17_
     have hHeld : w22.cell? ⟨gb104, 0, none⟩ = some (.slice Ao15 x105000_1.length co15) ∧ w22.cell? ⟨gb104, 1, none⟩ = some (.int .i64 x105001_1) ∧ w22.cell? ⟨gb104, 2, none⟩ = some (.int .i64 x105002_1) ∧ w22.cell? ⟨gb104, 3, none⟩ = some (.int .i64 x105003_1) := hS_
     obtain ⟨Ao23, co23, eo23⟩ := Kd.R_slice HO119.out
     (first | subst eo23 | (injection eo23 with f1_ f2_ f3_; have f4_ := f1_.symm; have f5_ := f3_.symm; clear f1_ f2_ f3_; subst f4_; subst f5_))
     refine norm_ (a' := ?_) ?_ ?_
     rotate_left
     ·simp only [putAll, Act.put, sq1, sq2, sq3]
      rfl
     refine one_ (i := 9) (N := none) bq42 rfl rfl (one_of HT_.out (by kernel_rfl)) (by decide) (fun K hK => ?_)
     have hs24 : w22.cell? ⟨gb124, 0, none⟩ = some (.slice none 0 0) := (qd BK124.out 0).trans rfl
     have hfs24 := qf BK124.out 0
     have hns24_0 := NB101_124.out
     have hns24_1 := NB104_124.out
     have hms24_0 := NB124_101.out
     have hms24_1 := NB124_104.out
     have hs25 : w22.cell? ⟨gb124, 1, none⟩ = some (.int .i64 0) := (qd BK124.out 1).trans rfl
     have hfs25 := qf BK124.out 1
     have hns25_0 := NB101_124.out
     have hns25_1 := NB104_124.out
     have hms25_0 := NB124_101.out
     have hms25_1 := NB124_104.out
     have hs26 : w22.cell? ⟨gb124, 2, none⟩ = some (.int .i64 0) := (qd BK124.out 2).trans rfl
     have hfs26 := qf BK124.out 2
     have hns26_0 := NB101_124.out
     have hns26_1 := NB104_124.out
     have hms26_0 := NB124_101.out
     have hms26_1 := NB124_104.out
     have hs27 : w22.cell? ⟨gb124, 3, none⟩ = some (.int .i64 0) := (qd BK124.out 3).trans rfl
     have hfs27 := qf BK124.out 3
     have hns27_0 := NB101_124.out
     have hns27_1 := NB104_124.out
     have hms27_0 := NB124_101.out
     have hms27_1 := NB124_104.out
     refine skip_ (w1 := ?_) (by rfl) rfl ?_ ?_
     rotate_left
     ·go_simp
      rfl
     refine hK.out _ _ ⟨((qr (p := ⟨gb124, _, none⟩) NB104_124.out _).trans (((qr (p := ⟨gb124, _, none⟩) NB104_124.out _).trans (((qr (p := ⟨gb124, _, none⟩) NB104_124.out _).trans (((qr (p := ⟨gb124, _, none⟩) NB104_124.out _).trans (hHeld.1)))))))), ((qr (p := ⟨gb124, _, none⟩) NB104_124.out _).trans (((qr (p := ⟨gb124, _, none⟩) NB104_124.out _).trans (((qr (p := ⟨gb124, _, none⟩) NB104_124.out _).trans (((qr (p := ⟨gb124, _, none⟩) NB104_124.out _).trans (hHeld.2.1)))))))), ((qr (p := ⟨gb124, _, none⟩) NB104_124.out _).trans (((qr (p := ⟨gb124, _, none⟩) NB104_124.out _).trans (((qr (p := ⟨gb124, _, none⟩) NB104_124.out _).trans (((qr (p := ⟨gb124, _, none⟩) NB104_124.out _).trans (hHeld.2.2.1)))))))), ((qr (p := ⟨gb124, _, none⟩) NB104_124.out _).trans (((qr (p := ⟨gb124, _, none⟩) NB104_124.out _).trans (((qr (p := ⟨gb124, _, none⟩) NB104_124.out _).trans (((qr (p := ⟨gb124, _, none⟩) NB104_124.out _).trans (hHeld.2.2.2))))))))⟩ (fun hHeld => ?_)
     clear hK K
     refine pure_ (i := 10) (N := some 6) (v := ?_) (a' := ?_) bq47 rfl rfl (qf1 HT_.out (by kernel_rfl)) (fun _ _ _ h => h) (Or.inl ⟨by rfl, ?_⟩) ?_ ?_
     rotate_left
     ·intro w'
      go_simp
      with_reducible rfl
     rotate_left
     ·simp only [Act.put, sq1, sq2, sq3, i64_w, i32_w]
      rfl
     refine done_ (done_of HT_.out (by kernel_rfl)) ?_
     have hnb28 := NB124_101.out
     have hnc28 := NB101_124.out
     have hnb29 := NB124_104.out
     have hnc29 := NB104_124.out
     have hnb30 := NB124_0.out
     have hnc30 := NB0_124.out
     have hcz31_0 := (qd BK124.out 0).trans rfl
     have hcz31_1 := (qd BK124.out 1).trans rfl
     have hcz31_2 := (qd BK124.out 2).trans rfl
     have hcz31_3 := (qd BK124.out 3).trans rfl
     have hfz31_0 := qf BK124.out 0
     have hfz31_1 := qf BK124.out 1
     have hfz31_2 := qf BK124.out 2
     have hfz31_3 := qf BK124.out 3
     have hnb32 := NB104_101.out
     have hnc32 := NB101_104.out
     have hnb33 := NB104_0.out
     have hnc33 := NB0_104.out
     have hcz34_0 := (qd BK104.out 0).trans rfl
     have hcz34_1 := (qd BK104.out 1).trans rfl
     have hcz34_2 := (qd BK104.out 2).trans rfl
     have hcz34_3 := (qd BK104.out 3).trans rfl
     have hfz34_0 := qf BK104.out 0
     have hfz34_1 := qf BK104.out 1
     have hfz34_2 := qf BK104.out 2
     have hfz34_3 := qf BK104.out 3
     try go_wp2
     go_roundg k1
     case measure => have := HK1.out; omega
     case rel => exact ⟨(wrap64 (x4_1 - 1)), (t116), (t117), (t120), (t121), (t122), (.slice Ao23 t117.length co23), (by first | rfl | (simp; done) | (simp [*]; done)), H', ⟨by have := HK1.out; omega⟩, ⟨by (with_reducible repeat (first | apply Kd.R_alloc | apply Kd.R_drewN | apply Kd.R_drew)); exact Kd.R_mono (Kd.R_far (p := ⟨gb104, 3, none⟩) (Kd.R_far (p := ⟨gb104, 2, none⟩) (Kd.R_far (p := ⟨gb104, 1, none⟩) (Kd.R_far (p := ⟨gb104, 0, none⟩) (Kd.R_far (p := ⟨gb124, 3, none⟩) (Kd.R_far (p := ⟨gb124, 2, none⟩) (Kd.R_far (p := ⟨gb124, 1, none⟩) (Kd.R_far (p := ⟨gb124, 0, none⟩) (Kd.R_types (Kd.R_types HO119.out BK124.out (by decide)) BK104.out (by decide)) (fun _ hk => hk.1.2) (.slice Ao23 t117.length co23)) (fun _ hk => hk.1.2) (.int .i64 t120)) (fun _ hk => hk.1.2) (.int .i64 t121)) (fun _ hk => hk.1.2) (.int .i64 t122)) (fun _ hk => hk.2) (.slice Ao23 t117.length co23)) (fun _ hk => hk.2) (.int .i64 t120)) (fun _ hk => hk.2) (.int .i64 t121)) (fun _ hk => hk.2) (.int .i64 t122)) (fun _ hk => trivial)⟩, ⟨by (with_reducible repeat (first | refine qb ?_ _ | refine qc ?_ | refine qa ?_ _)); refine qp ?_ NB101_104.out _; (with_reducible repeat (first | refine qb ?_ _ | refine qc ?_ | refine qa ?_ _)); refine qp ?_ NB101_104.out _; (with_reducible repeat (first | refine qb ?_ _ | refine qc ?_ | refine qa ?_ _)); refine qp ?_ NB101_104.out _; (with_reducible repeat (first | refine qb ?_ _ | refine qc ?_ | refine qa ?_ _)); refine qp ?_ NB101_104.out _; (with_reducible repeat (first | refine qb ?_ _ | refine qc ?_ | refine qa ?_ _)); refine qp ?_ NB101_124.out _; (with_reducible repeat (first | refine qb ?_ _ | refine qc ?_ | refine qa ?_ _)); refine qp ?_ NB101_124.out _; (with_reducible repeat (first | refine qb ?_ _ | refine qc ?_ | refine qa ?_ _)); refine qp ?_ NB101_124.out _; (with_reducible repeat (first | refine qb ?_ _ | refine qc ?_ | refine qa ?_ _)); refine qp ?_ NB101_124.out _; (with_reducible repeat (first | refine qb ?_ _ | refine qc ?_ | refine qa ?_ _)); exact BK101.out⟩, ⟨by (with_reducible repeat (first | refine qb ?_ _ | refine qc ?_ | refine qa ?_ _)); refine qt (cs := #[.slice Ao23 t117.length co23, .int .i64 t120, .int .i64 t121, .int .i64 x105003_1]) ?_ 3 _ rfl; (with_reducible repeat (first | refine qb ?_ _ | refine qc ?_ | refine qa ?_ _)); refine qt (cs := #[.slice Ao23 t117.length co23, .int .i64 t120, .int .i64 x105002_1, .int .i64 x105003_1]) ?_ 2 _ rfl; (with_reducible repeat (first | refine qb ?_ _ | refine qc ?_ | refine qa ?_ _)); refine qt (cs := #[.slice Ao23 t117.length co23, .int .i64 x105001_1, .int .i64 x105002_1, .int .i64 x105003_1]) ?_ 1 _ rfl; (with_reducible repeat (first | refine qb ?_ _ | refine qc ?_ | refine qa ?_ _)); refine qt (cs := #[.slice Ao15 x105000_1.length co15, .int .i64 x105001_1, .int .i64 x105002_1, .int .i64 x105003_1]) ?_ 0 _ rfl; (with_reducible repeat (first | refine qb ?_ _ | refine qc ?_ | refine qa ?_ _)); refine qp ?_ NB104_124.out _; (with_reducible repeat (first | refine qb ?_ _ | refine qc ?_ | refine qa ?_ _)); refine qp ?_ NB104_124.out _; (with_reducible repeat (first | refine qb ?_ _ | refine qc ?_ | refine qa ?_ _)); refine qp ?_ NB104_124.out _; (with_reducible repeat (first | refine qb ?_ _ | refine qc ?_ | refine qa ?_ _)); refine qp ?_ NB104_124.out _; (with_reducible repeat (first | refine qb ?_ _ | refine qc ?_ | refine qa ?_ _)); exact BK104.out⟩, ⟨by repeat (first | (with_reducible first | exact HI0.out | apply IsS123.alloc | apply IsS123.drewN | apply IsS123.drew | apply IsS123.set_1 | apply (fun h_ => IsS123.far h_ NB0_101.out _) | apply (fun h_ => IsS123.far h_ NB0_104.out _) | apply (fun h_ => IsS123.far h_ NB0_124.out _)) | exact HI0.out)⟩, ⟨by repeat (first | (with_reducible first | exact HK.out | apply KeepBut.set_ | apply ql | apply qo | apply qm | refine qj ?_ GW101.out _ | refine qj ?_ GW104.out _ | refine qj ?_ GW124.out _) | exact HK.out)⟩, ⟨by repeat (first | (with_reducible first | exact HB.out | apply qh | apply qg | apply qi | refine qe ?_ (IsS123.ge HI0.out) | refine qe ?_ GE101.out | refine qe ?_ GE104.out | refine qe ?_ GE124.out) | exact HB.out)⟩⟩
    ·replace c14 := Bool.eq_false_iff.mpr c14
     subst c14
     have H1 : (spec_l1Rd_version.l0 k1 (wrap64 (x4_1 - 1)) s0_0 t116 x105000_1 x105001_1 x105002_1 x105003_1) = some (r1, r2, r3, r4, r5) := by rw [if_neg (show ¬ (false = true) by decide)] at H; exact H
     clear H
     have H := H1
     clear H1
     have H' := Qz.mk H
     clear H
     obtain ⟨Ao35, co35, eo35⟩ := Kd.R_slice HO_105000.out
     subst eo35
     try go_wp2
     replace HO_105000 := Qz.mk (Kd.R_drew HO_105000.out)
     replace BK101 := Qz.mk (qc BK101.out)
     replace BK104 := Qz.mk (qc BK104.out)
     replace HI0 := Qz.mk (IsS123.drew HI0.out)
     replace HK := Qz.mk (qo HK.out)
     replace HB := Qz.mk (qi HB.out)
     refine start_ (n := 11) (S := fun w' => w'.cell? ⟨gb104, 0, none⟩ = some (.slice Ao35 x105000_1.length co35) ∧ w'.cell? ⟨gb104, 1, none⟩ = some (.int .i64 x105001_1) ∧ w'.cell? ⟨gb104, 2, none⟩ = some (.int .i64 x105002_1) ∧ w'.cell? ⟨gb104, 3, none⟩ = some (.int .i64 x105003_1)) (ds := []) bq1 (by kernel_rfl) rfl rfl ⟨(qd BK104.out 0).trans rfl, (qd BK104.out 1).trans rfl, (qd BK104.out 2).trans rfl, (qd BK104.out 3).trans rfl⟩ (fun hHeld => ?_); refine with_tabW spec_l1Rd_version.tab5 spec_l1Rd_version.bits5 (fun HT_ HW_ => ?_)
     generalize wr.drew = w36 at HO_105000 BK101 BK104 HI0 HK HB hHeld ⊢
     refine pure_ (i := 1) (N := some 19) (v := ?_) (a' := ?_) bq4 rfl rfl (qf1 HT_.out (by kernel_rfl)) (fun _ _ _ h => h) (Or.inl ⟨by rfl, ?_⟩) ?_ ?_
     rotate_left
     ·intro w'
      go_simp
      with_reducible rfl
     rotate_left
     ·simp only [Act.put, sq1, sq2, sq3, i64_w, i32_w]
      rfl
     refine take_ (i := 0) (N := some 18) (v := ?_) (a' := ?_) bq11 rfl rfl (take_ofW HT_.out HW_.out (by kernel_rfl)) (fun _ _ _ h => h) (Or.inl ⟨by rfl, ?_⟩) hHeld ?_ ?_
     rotate_left
     ·rintro w' ⟨s0, s1, s2, s3⟩
      go_simp
      with_reducible rfl
     rotate_left
     ·simp only [Act.put, sq1, sq2, sq3, i64_w, i32_w]
      rfl
     refine take_ (i := 2) (N := some 20) (v := ?_) (a' := ?_) bq12 rfl rfl (take_ofW HT_.out HW_.out (by kernel_rfl)) (fun _ _ _ h => h) (Or.inl ⟨by rfl, ?_⟩) hHeld ?_ ?_
     rotate_left
     ·rintro w' ⟨s0, s1, s2, s3⟩
      go_simp
      with_reducible rfl
     rotate_left
     ·simp only [Act.put, sq1, sq2, sq3, i64_w, i32_w]
      rfl
     refine join_ (σ := Value × Value × Value × Nat) 2 bq39 (fun s_ => [(21, .agg #[s_.1, s_.2.1, .int .i64 t113, .int .i64 t114, .int .i64 t115]), (22, .tuple #[.agg #[s_.2.2.1, .int .i64 t120, .int .i64 t121, .int .i64 t122], .bool false]), (5, .pointer (some ⟨s_.2.2.2, 0, none⟩)), (17, .tuple #[.agg #[s_.2.2.1, .int .i64 t120, .int .i64 t121, .int .i64 t122], .bool false]), (23, .agg #[s_.2.2.1, .int .i64 t120, .int .i64 t121, .int .i64 t122]), (24, .bool false)]) (fun s_ w' => (w'.cell? ⟨gb104, 0, none⟩ = some (.slice Ao35 x105000_1.length co35) ∧ w'.cell? ⟨gb104, 1, none⟩ = some (.int .i64 x105001_1) ∧ w'.cell? ⟨gb104, 2, none⟩ = some (.int .i64 x105002_1) ∧ w'.cell? ⟨gb104, 3, none⟩ = some (.int .i64 x105003_1)) ∧ (Kd.R k66 66 w' w.heap.size (fun k_ => some k_ ≠ (s_.2.2.1 : Value).ownBlock ∧ some k_ ≠ (.slice Ao35 x105000_1.length co35 : Value).ownBlock) s_.1 t107) ∧ (Kd.R (Kd.int .i64) 2 w' w.heap.size (fun _ => True) s_.2.1 t110) ∧ (Kd.R k66 66 w' w.heap.size (fun k_ => some k_ ≠ (s_.1 : Value).ownBlock ∧ some k_ ≠ (.slice Ao35 x105000_1.length co35 : Value).ownBlock) s_.2.2.1 t117) ∧ (Kd.R k66 66 w' w.heap.size (fun k_ => some k_ ≠ (s_.1 : Value).ownBlock ∧ some k_ ≠ (s_.2.2.1 : Value).ownBlock) (.slice Ao35 x105000_1.length co35) x105000_1) ∧ (w'.heap[gb101]? = some (.cells #[.slice none 0 0, .int .i64 0, .int .i64 0, .int .i64 0] 32 (0, 0))) ∧ (w'.heap[gb104]? = some (.cells #[.slice Ao35 x105000_1.length co35, .int .i64 x105001_1, .int .i64 x105002_1, .int .i64 x105003_1] 32 (0, 0))) ∧ (w'.heap[s_.2.2.2]? = some (.cells #[.slice none 0 0, .int .i64 0, .int .i64 0, .int .i64 0] 32 (0, 0))) ∧ (w.heap.size ≤ s_.2.2.2) ∧ (w0.heap.size ≤ s_.2.2.2) ∧ (g ≠ s_.2.2.2) ∧ (s_.2.2.2 ≠ g) ∧ (gb101 ≠ s_.2.2.2) ∧ (s_.2.2.2 ≠ gb101) ∧ (gb104 ≠ s_.2.2.2) ∧ (s_.2.2.2 ≠ gb104) ∧ (IsS123 w0 w' g s0_0 t116) ∧ (KeepBut w w' g none) ∧ (Below w0.heap.size w0 w')) ?_ ?_
     rotate_left
     ·intro hCont
      refine two_ (i := 3) (j := 8) (Ni := some 21) (Nj := some 5) bq16 bq13 rfl rfl rfl rfl (two_of HT_.out (by kernel_rfl)) (by decide) (by decide) (fun K hK => ?_) (fun K hK => ?_)
      ·skip
       refine goes_ Try.func88 (by kernel_rfl) rfl #[.pointer (some ⟨g, 0, none⟩), .agg #[.slice Ao35 x105000_1.length co35, .int .i64 x105001_1, .int .i64 x105002_1, .int .i64 x105003_1]] (by rfl) rfl rfl yq67 ?_
       with_reducible refine (spec_l1Rd_edit.calls k1 g s0_0 x1001_1 _ _ x105000_1 x105001_1 x105002_1 x105003_1 t107 t110 t113 t114 t115 t116 w0 _ ?side1 ?side2 ?side3 ?side4 A12.out).mono ?_
       (case side1 => exact yq63)
       (case side2 => exact yq65)
       (case side3 => exact Kd.C_foot_own (IsS123.apart (show IsS123 w0 _ g s0_0 x1001_1 from by repeat (first | (with_reducible first | exact HI0.out | apply IsS123.alloc | apply IsS123.drewN | apply IsS123.drew | apply IsS123.set_1 | apply (fun h_ => IsS123.far h_ NB0_101.out _) | apply (fun h_ => IsS123.far h_ NB0_104.out _)) | exact HI0.out)) yq62 (by decide)) (fun _ h_ => h_.2))
       (case side4 => exact (Kd.R_reads' HO_105000.out).2.1)
       rintro e w37 ⟨v108, v111, rfl, ho0, ho1, hi, hb, hk⟩
       refine ⟨_, rfl, ?_⟩
       replace BK101 := Qz.mk (KeepBut.blk hk (g' := gb101) (o := .cells #[.slice none 0 0, .int .i64 0, .int .i64 0, .int .i64 0] 32 (0, 0)) yq59 NB101_0.out (by simp))
       replace BK104 := Qz.mk (KeepBut.blk hk (g' := gb104) (o := .cells #[.slice Ao35 x105000_1.length co35, .int .i64 x105001_1, .int .i64 x105002_1, .int .i64 x105003_1] 32 (0, 0)) yq61 NB104_0.out (by simp))
       have HO109 := Qz.mk (Kd.R_lower (Kd.R_new' ho0 (Kd.R_lt yq62)) (qc1 (w := w) (g := g) (row := none) yq58))
       replace HO_105000 := Qz.mk (Kd.R_mono (Kd.R_told (Kd.R_oldK (IsS123.apart (show IsS123 w0 _ g s0_0 x1001_1 from by repeat (first | (with_reducible first | exact HI0.out | apply IsS123.alloc | apply IsS123.drewN | apply IsS123.drew | apply IsS123.set_1 | apply (fun h_ => IsS123.far h_ NB0_101.out _) | apply (fun h_ => IsS123.far h_ NB0_104.out _)) | exact HI0.out)) yq62 (by decide)) hk) (Kd.R_base ho0)) (fun _ h_ => h_.1))
       have HO112 := Qz.mk (Kd.R_lower ho1 (qc1 (w := w) (g := g) (row := none) yq58))
       replace HK := Qz.mk (KeepBut.trans yq58 hk (.inl rfl))
       replace HB := Qz.mk (hb)
       replace HI0 := Qz.mk (hi)
       (try clear hb)
       (try clear hk)
       (try clear hi)
       (try clear ho0)
       (try clear ho1)
       obtain ⟨Ao38, co38, eo38⟩ := Kd.R_slice HO109.out
       (first | subst eo38 | (injection eo38 with f1_ f2_ f3_; have f4_ := f1_.symm; have f5_ := f3_.symm; clear f1_ f2_ f3_; subst f4_; subst f5_))
       obtain ⟨Ao39, co39, eo39⟩ := Kd.R_slice HO112.out
       (first | subst eo39 | (injection eo39 with f1_ f2_ f3_; have f4_ := f1_.symm; have f5_ := f3_.symm; clear f1_ f2_ f3_; subst f4_; subst f5_))
       refine hK.out _ _ ⟨(qd BK104.out 0).trans rfl, (qd BK104.out 1).trans rfl, (qd BK104.out 2).trans rfl, (qd BK104.out 3).trans rfl⟩ (fun hHeld => ?_)
       clear hK K
       refine norm_ (a' := ?_) ?_ ?_
       rotate_left
       ·show Act.put _ (some 21) _ = _
        simp only [Act.put, sq1, sq2, sq3, i64_w, i32_w]
        rfl
       refine two_ (i := 4) (j := 8) (Ni := some 22) (Nj := some 5) bq20 bq17 rfl rfl rfl rfl (two_of HT_.out (by kernel_rfl)) (by decide) (by decide) (fun K hK => ?_) (fun K hK => ?_)
       ·skip
        refine goes_ Try.func17 (by kernel_rfl) rfl #[.agg #[.slice Ao35 x105000_1.length co35, .int .i64 x105001_1, .int .i64 x105002_1, .int .i64 x105003_1], .agg #[.slice Ao38 t107.length co38, .slice Ao39 t110.length co39, .int .i64 t113, .int .i64 t114, .int .i64 t115]] (by rfl) rfl rfl yq67 ?_
        with_reducible refine (spec_Apply.calls k1 _ _ x105000_1 x105001_1 x105002_1 x105003_1 _ _ t107 _ _ t110 t113 t114 t115 t117 t120 t121 t122 false _ ?side1 ?side2 ?side3 ?side4 ?side5 ?side6 A13.out).mono ?_
        (case side1 => exact yq71)
        (case side2 => exact (Kd.R_reads' HO_105000.out).2.1)
        (case side3 => exact yq73)
        (case side4 => exact (Kd.R_reads' HO109.out).2.1)
        (case side5 => exact yq72)
        (case side6 => exact (Kd.R_reads' HO112.out).2.1)
        rintro e w40 ⟨v118, rfl, ho0, hb⟩
        refine ⟨_, rfl, ?_⟩
        replace HO112 := Qz.mk (Kd.R_below yq68 hb)
        have HO119 := Qz.mk (Kd.R_lower (Kd.R_new' (Kd.R_new' ho0 (Kd.R_lt yq62)) (Kd.R_lt yq69)) (qc1 (w := w) (g := g) (row := none) yq58))
        replace HO_105000 := Qz.mk (Kd.R_elder' yq62 (Kd.R_base ho0) hb)
        replace HO109 := Qz.mk (Kd.R_elder' yq69 (Kd.R_base ho0) hb)
        replace BK101 := bkbf71 BK101 yq59 hb
        replace BK104 := bkbf71 BK104 yq61 hb
        replace HK := Qz.mk (KeepBut.trans yq58 (KeepBut.of_below hb g none) (.inl rfl))
        replace HB := Qz.mk (qq yq65 hb)
        replace HI0 := Qz.mk (IsS123.below yq63 hb)
        (try clear hb)
        (try clear hk)
        (try clear hi)
        (try clear ho0)
        refine hK.out _ _ ⟨(qd BK104.out 0).trans rfl, (qd BK104.out 1).trans rfl, (qd BK104.out 2).trans rfl, (qd BK104.out 3).trans rfl⟩ (fun hHeld => ?_)
        clear hK K
        refine norm_ (a' := ?_) ?_ ?_
        rotate_left
        ·show Act.put _ (some 22) _ = _
         simp only [Act.put, sq1, sq2, sq3, i64_w, i32_w]
         rfl
        refine pure_ (i := 5) (N := some 17) (v := ?_) (a' := ?_) bq25 rfl rfl (qf1 HT_.out (by kernel_rfl)) (fun _ _ _ h => h) (Or.inl ⟨by rfl, ?_⟩) ?_ ?_
        rotate_left
        ·intro w'
         go_simp
         with_reducible rfl
        rotate_left
        ·simp only [Act.put, sq1, sq2, sq3, i64_w, i32_w]
         rfl
        refine pure_ (i := 6) (N := some 23) (v := ?_) (a' := ?_) bq30 rfl rfl (qf1 HT_.out (by kernel_rfl)) (fun _ _ _ h => h) (Or.inl ⟨by rfl, ?_⟩) ?_ ?_
        rotate_left
        ·intro w'
         go_simp
         with_reducible rfl
        rotate_left
        ·simp only [Act.put, sq1, sq2, sq3, i64_w, i32_w]
         rfl
        refine pure_ (i := 7) (N := some 24) (v := ?_) (a' := ?_) bq35 rfl rfl (qf1 HT_.out (by kernel_rfl)) (fun _ _ _ h => h) (Or.inl ⟨by rfl, ?_⟩) ?_ ?_
        rotate_left
        ·intro w'
         go_simp
         with_reducible rfl
        rotate_left
        ·simp only [Act.put, sq1, sq2, sq3, i64_w, i32_w]
         rfl
        refine one_ (i := 8) (N := some 5) bq39 rfl rfl (one_of HT_.out (by kernel_rfl)) (by decide) (fun K hK => ?_)
        refine box_step ?hg (N := 5) ?hd (cs := #[.slice none 0 0, .int .i64 0, .int .i64 0, .int .i64 0]) (t := 32) ?hr ?_; (case hd => rfl); (case hg => rfl); (case hr => exact yq86)
        intro gb124 hg w41 hbox hb
        replace HO_105000 := Qz.mk (Kd.R_below yq62 hb)
        replace HO109 := Qz.mk (Kd.R_below yq69 hb)
        replace HO112 := Qz.mk (Kd.R_below yq68 hb)
        replace HO119 := Qz.mk (Kd.R_below (by (with_reducible repeat (first | apply Kd.R_alloc | apply Kd.R_drewN | apply Kd.R_drew)); exact HO119.out) hb)
        replace HB := Qz.mk (qq yq65 hb)
        have BK124 := Qz.mk (hbox)
        have GW124 := Qz.mk ((yq79 : w.heap.size ≤ gb124))
        have GE124 := Qz.mk ((Nat.le_trans HW0.out (yq79 : w.heap.size ≤ gb124) : w0.heap.size ≤ gb124))
        replace HK := Qz.mk (KeepBut.trans yq58 (KeepBut.of_below hb g none) (.inl rfl))
        have NB101_124 := Qz.mk ((yq74 : gb101 ≠ gb124))
        have NB124_101 := Qz.mk ((yq75 : gb124 ≠ gb101))
        replace BK101 := bkbf71 BK101 yq59 hb
        have NB104_124 := Qz.mk ((yq81 : gb104 ≠ gb124))
        have NB124_104 := Qz.mk ((yq83 : gb124 ≠ gb104))
        replace BK104 := bkbf71 BK104 yq61 hb
        have NB0_124 := Qz.mk ((by rw [hg]; exact Nat.ne_of_lt (IsS123.lt (show IsS123 w0 _ g s0_0 t116 from by repeat (first | (with_reducible first | exact HI0.out | apply IsS123.alloc | apply IsS123.drewN | apply IsS123.drew | apply IsS123.set_1 | apply (fun h_ => IsS123.far h_ NB0_101.out _) | apply (fun h_ => IsS123.far h_ NB0_104.out _)) | exact HI0.out))) : g ≠ gb124))
        have NB124_0 := Qz.mk ((by rw [hg]; exact Nat.ne_of_gt (IsS123.lt (show IsS123 w0 _ g s0_0 t116 from by repeat (first | (with_reducible first | exact HI0.out | apply IsS123.alloc | apply IsS123.drewN | apply IsS123.drew | apply IsS123.set_1 | apply (fun h_ => IsS123.far h_ NB0_101.out _) | apply (fun h_ => IsS123.far h_ NB0_104.out _)) | exact HI0.out))) : gb124 ≠ g))
        replace HI0 := Qz.mk (IsS123.below yq63 hb)
        clear hb hbox hg
        refine hK.out _ _ ⟨(qd BK104.out 0).trans rfl, (qd BK104.out 1).trans rfl, (qd BK104.out 2).trans rfl, (qd BK104.out 3).trans rfl⟩ (fun hHeld => ?_)
        clear hK K
        refine norm_ (a' := ?_) ?_ ?_
        rotate_left
        ·show Act.put _ (some 5) _ = _
         simp only [Act.put, sq1, sq2, sq3, i64_w, i32_w]
         rfl
        exact norm_ (by simp only [putAll, Act.put, sq1, sq2, sq3]) (hCont (.slice Ao38 t107.length co38, .slice Ao39 t110.length co39, v118, gb124) _ ⟨hHeld, yq78, yq68, yq77, yq76, yq59, yq61, yq70, GW124.out, GE124.out, NB0_124.out, NB124_0.out, NB101_124.out, NB124_101.out, NB104_124.out, NB124_104.out, yq64, yq60, yq66⟩)
       ·skip
        refine box_step ?hg (N := 5) ?hd (cs := #[.slice none 0 0, .int .i64 0, .int .i64 0, .int .i64 0]) (t := 32) ?hr ?_; (case hd => rfl); (case hg => rfl); (case hr => exact yq86)
        intro gb124 hg w38 hbox hb
        replace HO_105000 := Qz.mk (Kd.R_below yq62 hb)
        replace HO109 := Qz.mk (Kd.R_below yq69 hb)
        replace HO112 := Qz.mk (Kd.R_below yq68 hb)
        replace HB := Qz.mk (qq yq65 hb)
        have BK124 := Qz.mk (hbox)
        have GW124 := Qz.mk ((yq79 : w.heap.size ≤ gb124))
        have GE124 := Qz.mk ((Nat.le_trans HW0.out (yq79 : w.heap.size ≤ gb124) : w0.heap.size ≤ gb124))
        replace HK := Qz.mk (KeepBut.trans yq58 (KeepBut.of_below hb g none) (.inl rfl))
        have NB101_124 := Qz.mk ((yq74 : gb101 ≠ gb124))
        have NB124_101 := Qz.mk ((yq75 : gb124 ≠ gb101))
        replace BK101 := bkbf71 BK101 yq59 hb
        have NB104_124 := Qz.mk ((yq81 : gb104 ≠ gb124))
        have NB124_104 := Qz.mk ((yq83 : gb124 ≠ gb104))
        replace BK104 := bkbf71 BK104 yq61 hb
        have NB0_124 := Qz.mk ((by rw [hg]; exact Nat.ne_of_lt (IsS123.lt (show IsS123 w0 _ g s0_0 t116 from by repeat (first | (with_reducible first | exact HI0.out | apply IsS123.alloc | apply IsS123.drewN | apply IsS123.drew | apply IsS123.set_1 | apply (fun h_ => IsS123.far h_ NB0_101.out _) | apply (fun h_ => IsS123.far h_ NB0_104.out _)) | exact HI0.out))) : g ≠ gb124))
        have NB124_0 := Qz.mk ((by rw [hg]; exact Nat.ne_of_gt (IsS123.lt (show IsS123 w0 _ g s0_0 t116 from by repeat (first | (with_reducible first | exact HI0.out | apply IsS123.alloc | apply IsS123.drewN | apply IsS123.drew | apply IsS123.set_1 | apply (fun h_ => IsS123.far h_ NB0_101.out _) | apply (fun h_ => IsS123.far h_ NB0_104.out _)) | exact HI0.out))) : gb124 ≠ g))
        replace HI0 := Qz.mk (IsS123.below yq63 hb)
        clear hb hbox hg
        obtain ⟨Ao39, co39, eo39⟩ := Kd.R_slice HO109.out
        (first | subst eo39 | (injection eo39 with f1_ f2_ f3_; have f4_ := f1_.symm; have f5_ := f3_.symm; clear f1_ f2_ f3_; subst f4_; subst f5_))
        obtain ⟨Ao40, co40, eo40⟩ := Kd.R_slice HO112.out
        (first | subst eo40 | (injection eo40 with f1_ f2_ f3_; have f4_ := f1_.symm; have f5_ := f3_.symm; clear f1_ f2_ f3_; subst f4_; subst f5_))
        refine hK.out _ _ ⟨(qd BK104.out 0).trans rfl, (qd BK104.out 1).trans rfl, (qd BK104.out 2).trans rfl, (qd BK104.out 3).trans rfl⟩ (fun hHeld => ?_)
        clear hK K
        refine norm_ (a' := ?_) ?_ ?_
        rotate_left
        ·show Act.put _ (some 5) _ = _
         simp only [Act.put, sq1, sq2, sq3, i64_w, i32_w]
         rfl
        refine one_ (i := 4) (N := some 22) bq22 rfl rfl (one_of HT_.out (by kernel_rfl)) (by decide) (fun K hK => ?_)
        refine goes_ Try.func17 (by kernel_rfl) rfl #[.agg #[.slice Ao35 x105000_1.length co35, .int .i64 x105001_1, .int .i64 x105002_1, .int .i64 x105003_1], .agg #[.slice Ao39 t107.length co39, .slice Ao40 t110.length co40, .int .i64 t113, .int .i64 t114, .int .i64 t115]] (by rfl) rfl rfl yq67 ?_
        with_reducible refine (spec_Apply.calls k1 _ _ x105000_1 x105001_1 x105002_1 x105003_1 _ _ t107 _ _ t110 t113 t114 t115 t117 t120 t121 t122 false _ ?side1 ?side2 ?side3 ?side4 ?side5 ?side6 A13.out).mono ?_
        (case side1 => exact yq71)
        (case side2 => exact (Kd.R_reads' HO_105000.out).2.1)
        (case side3 => exact yq73)
        (case side4 => exact (Kd.R_reads' HO109.out).2.1)
        (case side5 => exact yq72)
        (case side6 => exact (Kd.R_reads' HO112.out).2.1)
        rintro e w41 ⟨v118, rfl, ho0, hb⟩
        refine ⟨_, rfl, ?_⟩
        replace HO112 := Qz.mk (Kd.R_below yq68 hb)
        have HO119 := Qz.mk (Kd.R_lower (Kd.R_new' (Kd.R_new' ho0 (Kd.R_lt yq62)) (Kd.R_lt yq69)) (qc1 (w := w) (g := g) (row := none) yq60))
        replace HO_105000 := Qz.mk (Kd.R_elder' yq62 (Kd.R_base ho0) hb)
        replace HO109 := Qz.mk (Kd.R_elder' yq69 (Kd.R_base ho0) hb)
        replace BK101 := bkbf71 BK101 yq59 hb
        replace BK104 := bkbf71 BK104 yq61 hb
        replace BK124 := bkbf71 BK124 yq70 hb
        replace HK := Qz.mk (KeepBut.trans yq60 (KeepBut.of_below hb g none) (.inl rfl))
        replace HB := Qz.mk (qq yq66 hb)
        replace HI0 := Qz.mk (IsS123.below yq64 hb)
        (try clear hb)
        (try clear hk)
        (try clear hi)
        (try clear ho0)
        refine hK.out _ _ ⟨(qd BK104.out 0).trans rfl, (qd BK104.out 1).trans rfl, (qd BK104.out 2).trans rfl, (qd BK104.out 3).trans rfl⟩ (fun hHeld => ?_)
        clear hK K
        refine norm_ (a' := ?_) ?_ ?_
        rotate_left
        ·show Act.put _ (some 22) _ = _
         simp only [Act.put, sq1, sq2, sq3, i64_w, i32_w]
         rfl
        refine pure_ (i := 5) (N := some 17) (v := ?_) (a' := ?_) bq27 rfl rfl (qf1 HT_.out (by kernel_rfl)) (fun _ _ _ h => h) (Or.inl ⟨by rfl, ?_⟩) ?_ ?_
        rotate_left
        ·intro w'
         go_simp
         with_reducible rfl
        rotate_left
        ·simp only [Act.put, sq1, sq2, sq3, i64_w, i32_w]
         rfl
        refine pure_ (i := 6) (N := some 23) (v := ?_) (a' := ?_) bq32 rfl rfl (qf1 HT_.out (by kernel_rfl)) (fun _ _ _ h => h) (Or.inl ⟨by rfl, ?_⟩) ?_ ?_
        rotate_left
        ·intro w'
         go_simp
         with_reducible rfl
        rotate_left
        ·simp only [Act.put, sq1, sq2, sq3, i64_w, i32_w]
         rfl
        refine pure_ (i := 7) (N := some 24) (v := ?_) (a' := ?_) bq39 rfl rfl (qf1 HT_.out (by kernel_rfl)) (fun _ _ _ h => h) (Or.inl ⟨by rfl, ?_⟩) ?_ ?_
        rotate_left
        ·intro w'
         go_simp
         with_reducible rfl
        rotate_left
        ·simp only [Act.put, sq1, sq2, sq3, i64_w, i32_w]
         rfl
        exact norm_ (by simp only [putAll, Act.put, sq1, sq2, sq3]) (hCont (.slice Ao39 t107.length co39, .slice Ao40 t110.length co40, v118, gb124) _ ⟨hHeld, yq78, yq68, yq77, yq76, yq59, yq61, yq70, GW124.out, GE124.out, NB0_124.out, NB124_0.out, NB101_124.out, NB124_101.out, NB104_124.out, NB124_104.out, yq64, yq60, yq66⟩)
      ·skip
       refine box_step ?hg (N := 5) ?hd (cs := #[.slice none 0 0, .int .i64 0, .int .i64 0, .int .i64 0]) (t := 32) ?hr ?_; (case hd => rfl); (case hg => rfl); (case hr => exact yq86)
       intro gb124 hg w37 hbox hb
       replace HO_105000 := Qz.mk (Kd.R_below yq62 hb)
       replace HB := Qz.mk (qq yq65 hb)
       have BK124 := Qz.mk (hbox)
       have GW124 := Qz.mk ((yq79 : w.heap.size ≤ gb124))
       have GE124 := Qz.mk ((Nat.le_trans HW0.out (yq79 : w.heap.size ≤ gb124) : w0.heap.size ≤ gb124))
       replace HK := Qz.mk (KeepBut.trans yq58 (KeepBut.of_below hb g none) (.inl rfl))
       have NB101_124 := Qz.mk ((yq74 : gb101 ≠ gb124))
       have NB124_101 := Qz.mk ((yq75 : gb124 ≠ gb101))
       replace BK101 := bkbf71 BK101 yq59 hb
       have NB104_124 := Qz.mk ((yq81 : gb104 ≠ gb124))
       have NB124_104 := Qz.mk ((yq83 : gb124 ≠ gb104))
       replace BK104 := bkbf71 BK104 yq61 hb
       have NB0_124 := Qz.mk ((by rw [hg]; exact Nat.ne_of_lt (IsS123.lt (show IsS123 w0 _ g s0_0 x1001_1 from by repeat (first | (with_reducible first | exact HI0.out | apply IsS123.alloc | apply IsS123.drewN | apply IsS123.drew | apply IsS123.set_1 | apply (fun h_ => IsS123.far h_ NB0_101.out _) | apply (fun h_ => IsS123.far h_ NB0_104.out _)) | exact HI0.out))) : g ≠ gb124))
       have NB124_0 := Qz.mk ((by rw [hg]; exact Nat.ne_of_gt (IsS123.lt (show IsS123 w0 _ g s0_0 x1001_1 from by repeat (first | (with_reducible first | exact HI0.out | apply IsS123.alloc | apply IsS123.drewN | apply IsS123.drew | apply IsS123.set_1 | apply (fun h_ => IsS123.far h_ NB0_101.out _) | apply (fun h_ => IsS123.far h_ NB0_104.out _)) | exact HI0.out))) : gb124 ≠ g))
       replace HI0 := Qz.mk (IsS123.below yq63 hb)
       clear hb hbox hg
       refine hK.out _ _ ⟨(qd BK104.out 0).trans rfl, (qd BK104.out 1).trans rfl, (qd BK104.out 2).trans rfl, (qd BK104.out 3).trans rfl⟩ (fun hHeld => ?_)
       clear hK K
       refine norm_ (a' := ?_) ?_ ?_
       rotate_left
       ·show Act.put _ (some 5) _ = _
        simp only [Act.put, sq1, sq2, sq3, i64_w, i32_w]
        rfl
       refine one_ (i := 3) (N := some 21) bq17 rfl rfl (one_of HT_.out (by kernel_rfl)) (by decide) (fun K hK => ?_)
       refine goes_ Try.func88 (by kernel_rfl) rfl #[.pointer (some ⟨g, 0, none⟩), .agg #[.slice Ao35 x105000_1.length co35, .int .i64 x105001_1, .int .i64 x105002_1, .int .i64 x105003_1]] (by rfl) rfl rfl yq67 ?_
       with_reducible refine (spec_l1Rd_edit.calls k1 g s0_0 x1001_1 _ _ x105000_1 x105001_1 x105002_1 x105003_1 t107 t110 t113 t114 t115 t116 w0 _ ?side1 ?side2 ?side3 ?side4 A12.out).mono ?_
       (case side1 => exact yq64)
       (case side2 => exact yq66)
       (case side3 => exact Kd.C_foot_own (IsS123.apart (show IsS123 w0 _ g s0_0 x1001_1 from by repeat (first | (with_reducible first | exact HI0.out | apply IsS123.alloc | apply IsS123.drewN | apply IsS123.drew | apply IsS123.set_1 | apply (fun h_ => IsS123.far h_ NB0_101.out _) | apply (fun h_ => IsS123.far h_ NB0_104.out _) | apply (fun h_ => IsS123.far h_ NB0_124.out _)) | exact HI0.out)) yq62 (by decide)) (fun _ h_ => h_.2))
       (case side4 => exact (Kd.R_reads' HO_105000.out).2.1)
       rintro e w38 ⟨v108, v111, rfl, ho0, ho1, hi, hb, hk⟩
       refine ⟨_, rfl, ?_⟩
       replace BK101 := Qz.mk (KeepBut.blk hk (g' := gb101) (o := .cells #[.slice none 0 0, .int .i64 0, .int .i64 0, .int .i64 0] 32 (0, 0)) yq59 NB101_0.out (by simp))
       replace BK104 := Qz.mk (KeepBut.blk hk (g' := gb104) (o := .cells #[.slice Ao35 x105000_1.length co35, .int .i64 x105001_1, .int .i64 x105002_1, .int .i64 x105003_1] 32 (0, 0)) yq61 NB104_0.out (by simp))
       replace BK124 := Qz.mk (KeepBut.blk hk (g' := gb124) (o := .cells #[.slice none 0 0, .int .i64 0, .int .i64 0, .int .i64 0] 32 (0, 0)) yq70 NB124_0.out (by simp))
       have HO109 := Qz.mk (Kd.R_lower (Kd.R_new' ho0 (Kd.R_lt yq62)) (qc1 (w := w) (g := g) (row := none) yq60))
       replace HO_105000 := Qz.mk (Kd.R_mono (Kd.R_told (Kd.R_oldK (IsS123.apart (show IsS123 w0 _ g s0_0 x1001_1 from by repeat (first | (with_reducible first | exact HI0.out | apply IsS123.alloc | apply IsS123.drewN | apply IsS123.drew | apply IsS123.set_1 | apply (fun h_ => IsS123.far h_ NB0_101.out _) | apply (fun h_ => IsS123.far h_ NB0_104.out _) | apply (fun h_ => IsS123.far h_ NB0_124.out _)) | exact HI0.out)) yq62 (by decide)) hk) (Kd.R_base ho0)) (fun _ h_ => h_.1))
       have HO112 := Qz.mk (Kd.R_lower ho1 (qc1 (w := w) (g := g) (row := none) yq60))
       replace HK := Qz.mk (KeepBut.trans yq60 hk (.inl rfl))
       replace HB := Qz.mk (hb)
       replace HI0 := Qz.mk (hi)
       (try clear hb)
       (try clear hk)
       (try clear hi)
       (try clear ho0)
       (try clear ho1)
       obtain ⟨Ao39, co39, eo39⟩ := Kd.R_slice HO109.out
       (first | subst eo39 | (injection eo39 with f1_ f2_ f3_; have f4_ := f1_.symm; have f5_ := f3_.symm; clear f1_ f2_ f3_; subst f4_; subst f5_))
       obtain ⟨Ao40, co40, eo40⟩ := Kd.R_slice HO112.out
       (first | subst eo40 | (injection eo40 with f1_ f2_ f3_; have f4_ := f1_.symm; have f5_ := f3_.symm; clear f1_ f2_ f3_; subst f4_; subst f5_))
       refine hK.out _ _ ⟨(qd BK104.out 0).trans rfl, (qd BK104.out 1).trans rfl, (qd BK104.out 2).trans rfl, (qd BK104.out 3).trans rfl⟩ (fun hHeld => ?_)
       clear hK K
       refine norm_ (a' := ?_) ?_ ?_
       rotate_left
       ·show Act.put _ (some 21) _ = _
        simp only [Act.put, sq1, sq2, sq3, i64_w, i32_w]
        rfl
       refine one_ (i := 4) (N := some 22) bq22 rfl rfl (one_of HT_.out (by kernel_rfl)) (by decide) (fun K hK => ?_)
       refine goes_ Try.func17 (by kernel_rfl) rfl #[.agg #[.slice Ao35 x105000_1.length co35, .int .i64 x105001_1, .int .i64 x105002_1, .int .i64 x105003_1], .agg #[.slice Ao39 t107.length co39, .slice Ao40 t110.length co40, .int .i64 t113, .int .i64 t114, .int .i64 t115]] (by rfl) rfl rfl yq67 ?_
       with_reducible refine (spec_Apply.calls k1 _ _ x105000_1 x105001_1 x105002_1 x105003_1 _ _ t107 _ _ t110 t113 t114 t115 t117 t120 t121 t122 false _ ?side1 ?side2 ?side3 ?side4 ?side5 ?side6 A13.out).mono ?_
       (case side1 => exact yq71)
       (case side2 => exact (Kd.R_reads' HO_105000.out).2.1)
       (case side3 => exact yq73)
       (case side4 => exact (Kd.R_reads' HO109.out).2.1)
       (case side5 => exact yq72)
       (case side6 => exact (Kd.R_reads' HO112.out).2.1)
       rintro e w41 ⟨v118, rfl, ho0, hb⟩
       refine ⟨_, rfl, ?_⟩
       replace HO112 := Qz.mk (Kd.R_below yq68 hb)
       have HO119 := Qz.mk (Kd.R_lower (Kd.R_new' (Kd.R_new' ho0 (Kd.R_lt yq62)) (Kd.R_lt yq69)) (qc1 (w := w) (g := g) (row := none) yq60))
       replace HO_105000 := Qz.mk (Kd.R_elder' yq62 (Kd.R_base ho0) hb)
       replace HO109 := Qz.mk (Kd.R_elder' yq69 (Kd.R_base ho0) hb)
       replace BK101 := bkbf71 BK101 yq59 hb
       replace BK104 := bkbf71 BK104 yq61 hb
       replace BK124 := bkbf71 BK124 yq70 hb
       replace HK := Qz.mk (KeepBut.trans yq60 (KeepBut.of_below hb g none) (.inl rfl))
       replace HB := Qz.mk (qq yq66 hb)
       replace HI0 := Qz.mk (IsS123.below yq64 hb)
       (try clear hb)
       (try clear hk)
       (try clear hi)
       (try clear ho0)
       refine hK.out _ _ ⟨(qd BK104.out 0).trans rfl, (qd BK104.out 1).trans rfl, (qd BK104.out 2).trans rfl, (qd BK104.out 3).trans rfl⟩ (fun hHeld => ?_)
       clear hK K
       refine norm_ (a' := ?_) ?_ ?_
       rotate_left
       ·show Act.put _ (some 22) _ = _
        simp only [Act.put, sq1, sq2, sq3, i64_w, i32_w]
        rfl
       refine pure_ (i := 5) (N := some 17) (v := ?_) (a' := ?_) bq27 rfl rfl (qf1 HT_.out (by kernel_rfl)) (fun _ _ _ h => h) (Or.inl ⟨by rfl, ?_⟩) ?_ ?_
       rotate_left
       ·intro w'
        go_simp
        with_reducible rfl
       rotate_left
       ·simp only [Act.put, sq1, sq2, sq3, i64_w, i32_w]
        rfl
       refine pure_ (i := 6) (N := some 23) (v := ?_) (a' := ?_) bq32 rfl rfl (qf1 HT_.out (by kernel_rfl)) (fun _ _ _ h => h) (Or.inl ⟨by rfl, ?_⟩) ?_ ?_
       rotate_left
       ·intro w'
        go_simp
        with_reducible rfl
       rotate_left
       ·simp only [Act.put, sq1, sq2, sq3, i64_w, i32_w]
        rfl
       refine pure_ (i := 7) (N := some 24) (v := ?_) (a' := ?_) bq39 rfl rfl (qf1 HT_.out (by kernel_rfl)) (fun _ _ _ h => h) (Or.inl ⟨by rfl, ?_⟩) ?_ ?_
       rotate_left
       ·intro w'
        go_simp
        with_reducible rfl
       rotate_left
       ·simp only [Act.put, sq1, sq2, sq3, i64_w, i32_w]
        rfl
       exact norm_ (by simp only [putAll, Act.put, sq1, sq2, sq3]) (hCont (.slice Ao39 t107.length co39, .slice Ao40 t110.length co40, v118, gb124) _ ⟨hHeld, yq78, yq68, yq77, yq76, yq59, yq61, yq70, GW124.out, GE124.out, NB0_124.out, NB124_0.out, NB101_124.out, NB124_101.out, NB104_124.out, NB124_104.out, yq64, yq60, yq66⟩)
     rintro ⟨v108, v111, v118, gb124⟩ w42 ⟨hS_, h0_, h1_, h2_, h3_, h4_, h5_, h6_, h7_, h8_, h9_, h10_, h11_, h12_, h13_, h14_, h15_, h16_, h17_⟩
     have n0_ : Qz (Kd.R k66 66 w42 w.heap.size (fun k_ => some k_ ≠ (v118 : Value).ownBlock ∧ some k_ ≠ (.slice Ao35 x105000_1.length co35 : Value).ownBlock) v108 t107) := ⟨h0_⟩
     have n1_ : Qz (Kd.R (Kd.int .i64) 2 w42 w.heap.size (fun _ => True) v111 t110) := ⟨h1_⟩
     have n2_ : Qz (Kd.R k66 66 w42 w.heap.size (fun k_ => some k_ ≠ (v108 : Value).ownBlock ∧ some k_ ≠ (.slice Ao35 x105000_1.length co35 : Value).ownBlock) v118 t117) := ⟨h2_⟩
     have n3_ : Qz (Kd.R k66 66 w42 w.heap.size (fun k_ => some k_ ≠ (v108 : Value).ownBlock ∧ some k_ ≠ (v118 : Value).ownBlock) (.slice Ao35 x105000_1.length co35) x105000_1) := ⟨h3_⟩
     have n4_ : Qz (w42.heap[gb101]? = some (.cells #[.slice none 0 0, .int .i64 0, .int .i64 0, .int .i64 0] 32 (0, 0))) := ⟨h4_⟩
     have n5_ : Qz (w42.heap[gb104]? = some (.cells #[.slice Ao35 x105000_1.length co35, .int .i64 x105001_1, .int .i64 x105002_1, .int .i64 x105003_1] 32 (0, 0))) := ⟨h5_⟩
     have n6_ : Qz (w42.heap[gb124]? = some (.cells #[.slice none 0 0, .int .i64 0, .int .i64 0, .int .i64 0] 32 (0, 0))) := ⟨h6_⟩
     have n7_ : Qz (w.heap.size ≤ gb124) := ⟨h7_⟩
     have n8_ : Qz (w0.heap.size ≤ gb124) := ⟨h8_⟩
     have n9_ : Qz (g ≠ gb124) := ⟨h9_⟩
     have n10_ : Qz (gb124 ≠ g) := ⟨h10_⟩
     have n11_ : Qz (gb101 ≠ gb124) := ⟨h11_⟩
     have n12_ : Qz (gb124 ≠ gb101) := ⟨h12_⟩
     have n13_ : Qz (gb104 ≠ gb124) := ⟨h13_⟩
     have n14_ : Qz (gb124 ≠ gb104) := ⟨h14_⟩
     have n15_ : Qz (IsS123 w0 w42 g s0_0 t116) := ⟨h15_⟩
     have n16_ : Qz (KeepBut w w42 g none) := ⟨h16_⟩
     have n17_ : Qz (Below w0.heap.size w0 w42) := ⟨h17_⟩
     clear HO_105000
     clear BK101
     clear BK104
     clear HI0
     clear HK
     clear HB
     clear h0_ h1_ h2_ h3_ h4_ h5_ h6_ h7_ h8_ h9_ h10_ h11_ h12_ h13_ h14_ h15_ h16_ h17_
     have HO109 := n0_
     have HO112 := n1_
     have HO119 := n2_
     have HO_105000 := n3_
     have BK101 := n4_
     have BK104 := n5_
     have BK124 := n6_
     have GW124 := n7_
     have GE124 := n8_
     have NB0_124 := n9_
     have NB124_0 := n10_
     have NB101_124 := n11_
     have NB124_101 := n12_
     have NB104_124 := n13_
     have NB124_104 := n14_
     have HI0 := n15_
     have HK := n16_
     have HB := n17_
     clear n0_ n1_ n2_ n3_ n4_ n5_ n6_ n7_ n8_ n9_ n10_ n11_ n12_ n13_ n14_ n15_ n16_ n17_
     have hHeld : w42.cell? ⟨gb104, 0, none⟩ = some (.slice Ao35 x105000_1.length co35) ∧ w42.cell? ⟨gb104, 1, none⟩ = some (.int .i64 x105001_1) ∧ w42.cell? ⟨gb104, 2, none⟩ = some (.int .i64 x105002_1) ∧ w42.cell? ⟨gb104, 3, none⟩ = some (.int .i64 x105003_1) := hS_
     obtain ⟨Ao43, co43, eo43⟩ := Kd.R_slice HO119.out
     (first | subst eo43 | (injection eo43 with f1_ f2_ f3_; have f4_ := f1_.symm; have f5_ := f3_.symm; clear f1_ f2_ f3_; subst f4_; subst f5_))
     refine norm_ (a' := ?_) ?_ ?_
     rotate_left
     ·simp only [putAll, Act.put, sq1, sq2, sq3]
      rfl
     refine one_ (i := 9) (N := none) bq42 rfl rfl (one_of HT_.out (by kernel_rfl)) (by decide) (fun K hK => ?_)
     have hs44 : w42.cell? ⟨gb124, 0, none⟩ = some (.slice none 0 0) := (qd BK124.out 0).trans rfl
     have hfs44 := qf BK124.out 0
     have hns44_0 := NB101_124.out
     have hns44_1 := NB104_124.out
     have hms44_0 := NB124_101.out
     have hms44_1 := NB124_104.out
     have hs45 : w42.cell? ⟨gb124, 1, none⟩ = some (.int .i64 0) := (qd BK124.out 1).trans rfl
     have hfs45 := qf BK124.out 1
     have hns45_0 := NB101_124.out
     have hns45_1 := NB104_124.out
     have hms45_0 := NB124_101.out
     have hms45_1 := NB124_104.out
     have hs46 : w42.cell? ⟨gb124, 2, none⟩ = some (.int .i64 0) := (qd BK124.out 2).trans rfl
     have hfs46 := qf BK124.out 2
     have hns46_0 := NB101_124.out
     have hns46_1 := NB104_124.out
     have hms46_0 := NB124_101.out
     have hms46_1 := NB124_104.out
     have hs47 : w42.cell? ⟨gb124, 3, none⟩ = some (.int .i64 0) := (qd BK124.out 3).trans rfl
     have hfs47 := qf BK124.out 3
     have hns47_0 := NB101_124.out
     have hns47_1 := NB104_124.out
     have hms47_0 := NB124_101.out
     have hms47_1 := NB124_104.out
     refine skip_ (w1 := ?_) (by rfl) rfl ?_ ?_
     rotate_left
     ·go_simp
      rfl
     refine hK.out _ _ ⟨((qr (p := ⟨gb124, _, none⟩) NB104_124.out _).trans (((qr (p := ⟨gb124, _, none⟩) NB104_124.out _).trans (((qr (p := ⟨gb124, _, none⟩) NB104_124.out _).trans (((qr (p := ⟨gb124, _, none⟩) NB104_124.out _).trans (hHeld.1)))))))), ((qr (p := ⟨gb124, _, none⟩) NB104_124.out _).trans (((qr (p := ⟨gb124, _, none⟩) NB104_124.out _).trans (((qr (p := ⟨gb124, _, none⟩) NB104_124.out _).trans (((qr (p := ⟨gb124, _, none⟩) NB104_124.out _).trans (hHeld.2.1)))))))), ((qr (p := ⟨gb124, _, none⟩) NB104_124.out _).trans (((qr (p := ⟨gb124, _, none⟩) NB104_124.out _).trans (((qr (p := ⟨gb124, _, none⟩) NB104_124.out _).trans (((qr (p := ⟨gb124, _, none⟩) NB104_124.out _).trans (hHeld.2.2.1)))))))), ((qr (p := ⟨gb124, _, none⟩) NB104_124.out _).trans (((qr (p := ⟨gb124, _, none⟩) NB104_124.out _).trans (((qr (p := ⟨gb124, _, none⟩) NB104_124.out _).trans (((qr (p := ⟨gb124, _, none⟩) NB104_124.out _).trans (hHeld.2.2.2))))))))⟩ (fun hHeld => ?_)
     clear hK K
     refine pure_ (i := 10) (N := some 6) (v := ?_) (a' := ?_) bq47 rfl rfl (qf1 HT_.out (by kernel_rfl)) (fun _ _ _ h => h) (Or.inl ⟨by rfl, ?_⟩) ?_ ?_
     rotate_left
     ·intro w'
      go_simp
      with_reducible rfl
     rotate_left
     ·simp only [Act.put, sq1, sq2, sq3, i64_w, i32_w]
      rfl
     refine done_ (done_of HT_.out (by kernel_rfl)) ?_
     try go_wp2
     go_roundg k1
     case measure => have := HK1.out; omega
     case rel => exact ⟨(wrap64 (x4_1 - 1)), (t116), (x105000_1), (x105001_1), (x105002_1), (x105003_1), (.slice Ao35 x105000_1.length co35), (by first | rfl | (simp; done) | (simp [*]; done)), H', ⟨by have := HK1.out; omega⟩, ⟨by (with_reducible repeat (first | apply Kd.R_alloc | apply Kd.R_drewN | apply Kd.R_drew)); exact Kd.R_mono (Kd.R_far (p := ⟨gb124, 3, none⟩) (Kd.R_far (p := ⟨gb124, 2, none⟩) (Kd.R_far (p := ⟨gb124, 1, none⟩) (Kd.R_far (p := ⟨gb124, 0, none⟩) (Kd.R_types HO_105000.out BK124.out (by decide)) (fun _ hk => hk.2) (.slice Ao43 t117.length co43)) (fun _ hk => hk.2) (.int .i64 t120)) (fun _ hk => hk.2) (.int .i64 t121)) (fun _ hk => hk.2) (.int .i64 t122)) (fun _ hk => trivial)⟩, ⟨by (with_reducible repeat (first | refine qb ?_ _ | refine qc ?_ | refine qa ?_ _)); refine qp ?_ NB101_124.out _; (with_reducible repeat (first | refine qb ?_ _ | refine qc ?_ | refine qa ?_ _)); refine qp ?_ NB101_124.out _; (with_reducible repeat (first | refine qb ?_ _ | refine qc ?_ | refine qa ?_ _)); refine qp ?_ NB101_124.out _; (with_reducible repeat (first | refine qb ?_ _ | refine qc ?_ | refine qa ?_ _)); refine qp ?_ NB101_124.out _; (with_reducible repeat (first | refine qb ?_ _ | refine qc ?_ | refine qa ?_ _)); exact BK101.out⟩, ⟨by (with_reducible repeat (first | refine qb ?_ _ | refine qc ?_ | refine qa ?_ _)); refine qp ?_ NB104_124.out _; (with_reducible repeat (first | refine qb ?_ _ | refine qc ?_ | refine qa ?_ _)); refine qp ?_ NB104_124.out _; (with_reducible repeat (first | refine qb ?_ _ | refine qc ?_ | refine qa ?_ _)); refine qp ?_ NB104_124.out _; (with_reducible repeat (first | refine qb ?_ _ | refine qc ?_ | refine qa ?_ _)); refine qp ?_ NB104_124.out _; (with_reducible repeat (first | refine qb ?_ _ | refine qc ?_ | refine qa ?_ _)); exact BK104.out⟩, ⟨by repeat (first | (with_reducible first | exact HI0.out | apply IsS123.alloc | apply IsS123.drewN | apply IsS123.drew | apply IsS123.set_1 | apply (fun h_ => IsS123.far h_ NB0_101.out _) | apply (fun h_ => IsS123.far h_ NB0_104.out _) | apply (fun h_ => IsS123.far h_ NB0_124.out _)) | exact HI0.out)⟩, ⟨by repeat (first | (with_reducible first | exact HK.out | apply KeepBut.set_ | apply ql | apply qo | apply qm | refine qj ?_ GW101.out _ | refine qj ?_ GW104.out _ | refine qj ?_ GW124.out _) | exact HK.out)⟩, ⟨by repeat (first | (with_reducible first | exact HB.out | apply qh | apply qg | apply qi | refine qe ?_ (IsS123.ge HI0.out) | refine qe ?_ GE101.out | refine qe ?_ GE104.out | refine qe ?_ GE124.out) | exact HB.out)⟩⟩
   ·rw [if_neg c11] at H
    have c11b0 : decide (0 < x4_1) = false := decide_eq_false c11
    clear c11
    replace H := Option.bind_eq_some_iff.mp H
    obtain ⟨⟨t125, t126⟩, A480, H⟩ := H
    replace H : (if t125 = true then ((spec_l1Rd_meta.f k1 s0_0 t126).bind fun bt127 => (if x105000_1.length < 2513169434916 then (some ((x105000_1 ++ [(⟨bt127.1, bt127.2.1, bt127.2.2.1, bt127.2.2.2.1, bt127.2.2.2.2.1⟩ : S66)]), x105001_1, x105002_1, x105003_1, bt127.2.2.2.2.2)) else (none))) else (some (x105000_1, x105001_1, x105002_1, x105003_1, t126))) = some (r1, r2, r3, r4, r5) := H
    have A48 := Qz.mk A480
    clear A480
    by_cases c49 : t125 = true
    ·subst c49
     have H1 : ((spec_l1Rd_meta.f k1 s0_0 t126).bind fun bt127 => (if x105000_1.length < 2513169434916 then (some ((x105000_1 ++ [(⟨bt127.1, bt127.2.1, bt127.2.2.1, bt127.2.2.2.1, bt127.2.2.2.2.1⟩ : S66)]), x105001_1, x105002_1, x105003_1, bt127.2.2.2.2.2)) else (none))) = some (r1, r2, r3, r4, r5) := by rw [if_pos rfl] at H; exact H
     clear H
     have H := H1
     clear H1
     replace H := Option.bind_eq_some_iff.mp H
     obtain ⟨⟨t127, t128, t129, t130, t131, t132⟩, A500, H⟩ := H
     replace H : (if x105000_1.length < 2513169434916 then (some ((x105000_1 ++ [(⟨t127, t128, t129, t130, t131⟩ : S66)]), x105001_1, x105002_1, x105003_1, t132)) else (none)) = some (r1, r2, r3, r4, r5) := H
     have A50 := Qz.mk A500
     clear A500
     by_cases c51 : x105000_1.length < 2513169434916
     ·rw [if_pos c51] at H
      have LMc51 := Qz.mk c51
      clear c51
      obtain ⟨y133, hy133⟩ : ∃ y_ : List (S66), y_ = (x105000_1 ++ [(⟨t127, t128, t129, t130, t131⟩ : S66)]) := ⟨_, rfl⟩
      replace H : (some (y133, x105001_1, x105002_1, x105003_1, t132)) = some (r1, r2, r3, r4, r5) := by first | (rw [hy133]; with_reducible exact H) | (have H2_ := (Option.bind_some _ _).symm.trans H; rw [hy133]; with_reducible exact H2_) | (have H2_ := (Option.bind_some _ _).symm.trans H; with_reducible exact H2_) | with_reducible exact H | (rw [hy133]; exact H) | exact H
      have Ny133 := Qz.mk hy133
      clear hy133
      simp only [Option.some.injEq, Prod.mk.injEq] at H
      obtain ⟨rfl, rfl, rfl, rfl, rfl⟩ := H
      try go_wp2_with (first | ((with_reducible refine qu (f := 73) rfl ?_); refine goesL_ (some 28) rfl rfl Try.func73 (by kernel_rfl) rfl #[.pointer (some ⟨g, 0, none⟩), .int .i64 16] rfl yq85 ?_; (with_reducible refine (spec_l1Rd_once.calls g s0_0 x1001_1 16 true t126 w0 _ ?side1 ?side2 A48.out).mono ?_); (case side1 => exact yq63); (case side2 => exact yq65); rintro e w52 ⟨rfl, hi, hb, hk⟩; refine ⟨_, rfl, ?_⟩; replace HO_105000 := Qz.mk (Kd.R_mono (Kd.R_keep (IsS123.apart (show IsS123 w0 _ g s0_0 x1001_1 from by repeat (first | (with_reducible first | exact HI0.out | apply IsS123.alloc | apply IsS123.drewN | apply IsS123.drew | apply IsS123.set_1 | apply (fun h_ => IsS123.far h_ NB0_101.out _) | apply (fun h_ => IsS123.far h_ NB0_104.out _)) | exact HI0.out)) yq62 (by decide)) hk (fun _ h => h.2)) (fun _ h => h.1)); replace BK101 := Qz.mk (KeepBut.blk hk (g' := gb101) (o := .cells #[.slice none 0 0, .int .i64 0, .int .i64 0, .int .i64 0] 32 (0, 0)) yq59 NB101_0.out (by simp)); replace BK104 := Qz.mk (KeepBut.blk hk (g' := gb104) (o := .cells #[u105000, .int .i64 x105001_1, .int .i64 x105002_1, .int .i64 x105003_1] 32 (0, 0)) yq61 NB104_0.out (by simp)); replace HK := Qz.mk (KeepBut.trans yq58 hk (.inl rfl)); replace HB := Qz.mk (hb); replace HI0 := Qz.mk (hi); (try clear hb); (try clear hk); (try clear hi)))
      replace HO_105000 := Qz.mk (Kd.R_drew HO_105000.out)
      replace BK101 := Qz.mk (qc BK101.out)
      replace BK104 := Qz.mk (qc BK104.out)
      replace HI0 := Qz.mk (IsS123.drew HI0.out)
      replace HK := Qz.mk (qo HK.out)
      replace HB := Qz.mk (qi HB.out)
      refine start_ (n := 8) (S := fun w' => w'.cell? ⟨gb104, 0, none⟩ = some (u105000) ∧ w'.cell? ⟨gb104, 1, none⟩ = some (.int .i64 x105001_1) ∧ w'.cell? ⟨gb104, 2, none⟩ = some (.int .i64 x105002_1) ∧ w'.cell? ⟨gb104, 3, none⟩ = some (.int .i64 x105003_1)) (ds := [7]) bq2 (by kernel_rfl) rfl rfl ⟨(qd BK104.out 0).trans rfl, (qd BK104.out 1).trans rfl, (qd BK104.out 2).trans rfl, (qd BK104.out 3).trans rfl⟩ (fun hHeld => ?_); refine with_tabW spec_l1Rd_version.tab9 spec_l1Rd_version.bits9 (fun HT_ HW_ => ?_)
      generalize w52.drew = w53 at HO_105000 BK101 BK104 HI0 HK HB hHeld ⊢
      refine pure_ (i := 0) (N := some 29) (v := ?_) (a' := ?_) bq9 rfl rfl (qf1 HT_.out (by kernel_rfl)) (fun _ _ _ h => h) (Or.inl ⟨by rfl, ?_⟩) ?_ ?_
      rotate_left
      ·intro w'
       go_simp
       with_reducible rfl
      rotate_left
      ·simp only [Act.put, sq1, sq2, sq3, i64_w, i32_w]
       rfl
      refine pure_ (i := 2) (N := some 31) (v := ?_) (a' := ?_) bq10 rfl rfl (qf1 HT_.out (by kernel_rfl)) (fun _ _ _ h => h) (Or.inl ⟨by rfl, ?_⟩) ?_ ?_
      rotate_left
      ·intro w'
       go_simp
       with_reducible rfl
      rotate_left
      ·simp only [Act.put, sq1, sq2, sq3, i64_w, i32_w]
       rfl
      refine take_ (i := 1) (N := some 30) (v := ?_) (a' := ?_) bq14 rfl rfl (take_ofW HT_.out HW_.out (by kernel_rfl)) (fun _ _ _ h => h) (Or.inl ⟨by rfl, ?_⟩) hHeld ?_ ?_
      rotate_left
      ·rintro w' ⟨s0, s1, s2, s3⟩
       go_simp
       with_reducible rfl
      rotate_left
      ·simp only [Act.put, sq1, sq2, sq3, i64_w, i32_w]
       rfl
      refine one_ (i := 3) (N := some 32) bq18 rfl rfl (one_of HT_.out (by kernel_rfl)) (by decide) (fun K hK => ?_)
      refine goes_ Try.func103 (by kernel_rfl) rfl #[.pointer (some ⟨g, 0, none⟩)] (by rfl) rfl rfl yq85 ?_
      with_reducible refine (spec_l1Rd_meta.calls k1 g s0_0 t126 t127 t128 t129 t130 t131 t132 w0 _ ?side1 ?side2 A50.out).mono ?_
      (case side1 => exact yq63)
      (case side2 => exact yq65)
      rintro e w54 ⟨rfl, hi, hb, hk⟩
      refine ⟨_, rfl, ?_⟩
      replace HO_105000 := Qz.mk (Kd.R_mono (Kd.R_keep (IsS123.apart (show IsS123 w0 _ g s0_0 t126 from by repeat (first | (with_reducible first | exact HI0.out | apply IsS123.alloc | apply IsS123.drewN | apply IsS123.drew | apply IsS123.set_1 | apply (fun h_ => IsS123.far h_ NB0_101.out _) | apply (fun h_ => IsS123.far h_ NB0_104.out _)) | exact HI0.out)) yq62 (by decide)) hk (fun _ h => h.2)) (fun _ h => h.1))
      replace BK101 := Qz.mk (KeepBut.blk hk (g' := gb101) (o := .cells #[.slice none 0 0, .int .i64 0, .int .i64 0, .int .i64 0] 32 (0, 0)) yq59 NB101_0.out (by simp))
      replace BK104 := Qz.mk (KeepBut.blk hk (g' := gb104) (o := .cells #[u105000, .int .i64 x105001_1, .int .i64 x105002_1, .int .i64 x105003_1] 32 (0, 0)) yq61 NB104_0.out (by simp))
      replace HK := Qz.mk (KeepBut.trans yq58 hk (.inl rfl))
      replace HB := Qz.mk (hb)
      replace HI0 := Qz.mk (hi)
      (try clear hb)
      (try clear hk)
      (try clear hi)
      refine hK.out _ _ ⟨(qd BK104.out 0).trans rfl, (qd BK104.out 1).trans rfl, (qd BK104.out 2).trans rfl, (qd BK104.out 3).trans rfl⟩ (fun hHeld => ?_)
      clear hK K
      refine norm_ (a' := ?_) ?_ ?_
      rotate_left
      ·show Act.put _ (some 32) _ = _
       simp only [Act.put, sq1, sq2, sq3, i64_w, i32_w]
       rfl
      refine one_ (i := 4) (N := some 33) bq23 rfl rfl (one_of HT_.out (by kernel_rfl)) (by decide) (fun K hK => ?_)
      refine value_ (w1 := ?_) (v := ?_) (by rfl) rfl ?_ ?_
      rotate_left 2
      ·go_simp
       constructor
       ·rfl
       ·rfl
      refine hK.out _ _ ⟨(qd (qa BK104.out _) 0).trans rfl, (qd (qa BK104.out _) 1).trans rfl, (qd (qa BK104.out _) 2).trans rfl, (qd (qa BK104.out _) 3).trans rfl⟩ (fun hHeld => ?_)
      clear hK K
      refine norm_ (a' := ?_) ?_ ?_
      rotate_left
      ·show Act.put _ (some 33) _ = _
       simp only [Act.put, sq1, sq2, sq3, i64_w, i32_w]
       rfl
      refine one_ (i := 5) (N := some 34) bq28 rfl rfl (one_of HT_.out (by kernel_rfl)) (by decide) (fun K hK => ?_)
      refine Kd.R_append_step k66 w.heap.size (by rfl) (.tmp 30) (.tmp 33) 30 66 (.agg #[(.int .i64 0), (.int .i64 0), (.string ⟨#[]⟩), (.string ⟨#[]⟩), (.int .i64 0)]) 56 rfl Try.underlying30 info66 rfl (by decide) (by omega) u105000 x105000_1 (⟨t127, t128, t129, t130, t131⟩ : S66) [.int .i64 t127, .int .i64 t128, .string t129, .string t130, .int .i64 t131] (fun _ => True) (fun _ => False) rfl rfl ?aP (fun _ hk => hk.elim) ?aF ?aO (Below.refl _ _) ?aS ?aL ?_
      (case aP => exact k66_mkM _ _ _ (⟨t127, t128, t129, t130, t131⟩ : S66))
      (case aF => exact (fun _ _ => trivial))
      (case aO => exact yq62)
      (case aS => exact (qc1 (w := w) (g := g) (row := none) yq58))
      (case aL => have := LMc51.out; omega)
      intro v134 w55 ho hb hg hat
      rw [← Ny133.out] at ho
      have n0_ := Qz.mk (blk_grown (g := gb101) (o := .cells #[.slice none 0 0, .int .i64 0, .int .i64 0, .int .i64 0] 32 (0, 0)) yq59 hg (Kd.R_ne HO_105000.out BK101.out (by decide)))
      have n1_ := Qz.mk (blk_grown (g := gb104) (o := .cells #[u105000, .int .i64 x105001_1, .int .i64 x105002_1, .int .i64 x105003_1] 32 (0, 0)) yq61 hg (Kd.R_ne HO_105000.out BK104.out (by decide)))
      have n2_ := Qz.mk (IsS123.grown yq63 hg (IsS123.own_ne HI0.out HO_105000.out (by decide)))
      have n3_ := Qz.mk (below_weaken yq65 HL.out hb)
      have n4_ := Qz.mk (KeepBut.trans yq58 (KeepBut.of_grown hg g) (Kd.R_base2 HO_105000.out))
      have n5_ := Qz.mk (ho)
      clear BK101
      clear BK104
      clear HI0
      clear HB
      clear HK
      clear HO_105000
      have BK101 := n0_
      have BK104 := n1_
      have HI0 := n2_
      have HB := n3_
      have HK := n4_
      have HO135 := n5_
      clear n0_ n1_ n2_ n3_ n4_ n5_
      clear ho hb hg hat
      obtain ⟨Ao56, co56, eo56⟩ := Kd.R_slice HO135.out
      (first | subst eo56 | (injection eo56 with f1_ f2_ f3_; have f4_ := f1_.symm; have f5_ := f3_.symm; clear f1_ f2_ f3_; subst f4_; subst f5_))
      refine hK.out _ _ ⟨(qd BK104.out 0).trans rfl, (qd BK104.out 1).trans rfl, (qd BK104.out 2).trans rfl, (qd BK104.out 3).trans rfl⟩ (fun hHeld => ?_)
      clear hK K
      refine norm_ (a' := ?_) ?_ ?_
      rotate_left
      ·show Act.put _ (some 34) _ = _
       simp only [Act.put, sq1, sq2, sq3, i64_w, i32_w]
       rfl
      refine pure_ (i := 6) (N := some 35) (v := ?_) (a' := ?_) bq33 rfl rfl (qf1 HT_.out (by kernel_rfl)) (fun _ _ _ h => h) (Or.inl ⟨by rfl, ?_⟩) ?_ ?_
      rotate_left
      ·intro w'
       go_simp
       with_reducible rfl
      rotate_left
      ·simp only [Act.put, sq1, sq2, sq3, i64_w, i32_w]
       rfl
      refine last_ (i := 7) (N := none) bq48 rfl rfl (one_of HT_.out (by kernel_rfl)) (by decide) (fun K hK => ?_)
      have hs57 : w55.cell? ⟨gb104, 0, none⟩ = some (u105000) := (qd BK104.out 0).trans rfl
      have hfs57 := qf BK104.out 0
      have hns57_0 := NB101_104.out
      have hms57_0 := NB104_101.out
      refine skip_ (w1 := ?_) (by rfl) rfl ?_ ?_
      rotate_left
      ·go_simp
       rfl
      refine hK.out _ _ ?_
      clear hK K
      refine done_ (done_of HT_.out (by kernel_rfl)) ?_
      have hnb58 := NB104_101.out
      have hnc58 := NB101_104.out
      have hnb59 := NB104_0.out
      have hnc59 := NB0_104.out
      have hcz60_0 := (qd BK104.out 0).trans rfl
      have hcz60_1 := (qd BK104.out 1).trans rfl
      have hcz60_2 := (qd BK104.out 2).trans rfl
      have hcz60_3 := (qd BK104.out 3).trans rfl
      have hfz60_0 := qf BK104.out 0
      have hfz60_1 := qf BK104.out 1
      have hfz60_2 := qf BK104.out 2
      have hfz60_3 := qf BK104.out 3
      have hnb61 := NB101_0.out
      have hnc61 := NB0_101.out
      have hcz62_0 := (qd BK101.out 0).trans rfl
      have hcz62_1 := (qd BK101.out 1).trans rfl
      have hcz62_2 := (qd BK101.out 2).trans rfl
      have hcz62_3 := (qd BK101.out 3).trans rfl
      have hfz62_0 := qf BK101.out 0
      have hfz62_1 := qf BK101.out 1
      have hfz62_2 := qf BK101.out 2
      have hfz62_3 := qf BK101.out 3
      try go_wp2
      refine bodyPost_ret (results_cell_row rfl _ _ gb101 32 #[.slice Ao56 y133.length co56, .int .i64 x105001_1, .int .i64 x105002_1, .int .i64 x105003_1] (0, 0) _ rfl (by (with_reducible repeat (first | refine qb ?_ _ | refine qc ?_ | refine qa ?_ _)); refine qt (cs := #[.slice Ao56 y133.length co56, .int .i64 x105001_1, .int .i64 x105002_1, .int .i64 0]) ?_ 3 _ rfl; (with_reducible repeat (first | refine qb ?_ _ | refine qc ?_ | refine qa ?_ _)); refine qt (cs := #[.slice Ao56 y133.length co56, .int .i64 x105001_1, .int .i64 0, .int .i64 0]) ?_ 2 _ rfl; (with_reducible repeat (first | refine qb ?_ _ | refine qc ?_ | refine qa ?_ _)); refine qt (cs := #[.slice Ao56 y133.length co56, .int .i64 0, .int .i64 0, .int .i64 0]) ?_ 1 _ rfl; (with_reducible repeat (first | refine qb ?_ _ | refine qc ?_ | refine qa ?_ _)); refine qt (cs := #[.slice none 0 0, .int .i64 0, .int .i64 0, .int .i64 0]) ?_ 0 _ rfl; (with_reducible repeat (first | refine qb ?_ _ | refine qc ?_ | refine qa ?_ _)); refine qp ?_ NB101_104.out _; (with_reducible repeat (first | refine qb ?_ _ | refine qc ?_ | refine qa ?_ _)); exact BK101.out) Try.underlying32 rfl (by kernel_rfl)) rfl ?_
      exact ⟨_, by first | rfl | (simp [qy, qx] <;> rfl) | (simp [*, qy, qx] <;> rfl), by (with_reducible repeat (first | apply Kd.R_alloc | apply Kd.R_drewN | apply Kd.R_drew)); exact Kd.R_mono (Kd.R_far (p := ⟨gb101, 3, none⟩) (Kd.R_far (p := ⟨gb101, 2, none⟩) (Kd.R_far (p := ⟨gb101, 1, none⟩) (Kd.R_far (p := ⟨gb101, 0, none⟩) (Kd.R_far (p := ⟨gb104, 0, none⟩) (Kd.R_types (Kd.R_types HO135.out BK104.out (by decide)) BK101.out (by decide)) (fun _ hk => hk.1.2) (.slice Ao56 y133.length co56)) (fun _ hk => hk.2) (.slice Ao56 y133.length co56)) (fun _ hk => hk.2) (.int .i64 x105001_1)) (fun _ hk => hk.2) (.int .i64 x105002_1)) (fun _ hk => hk.2) (.int .i64 x105003_1)) (fun _ hk => trivial), by repeat (first | (with_reducible first | exact HI0.out | apply IsS123.alloc | apply IsS123.drewN | apply IsS123.drew | apply IsS123.set_1 | apply (fun h_ => IsS123.far h_ NB0_101.out _) | apply (fun h_ => IsS123.far h_ NB0_104.out _)) | exact HI0.out), by repeat (first | (with_reducible first | exact HB.out | apply qh | apply qg | apply qi | refine qe ?_ (IsS123.ge HI0.out) | refine qe ?_ GE101.out | refine qe ?_ GE104.out) | exact HB.out), by repeat (first | (with_reducible first | exact HK.out | apply KeepBut.set_ | apply ql | apply qo | apply qm | refine qj ?_ GW101.out _ | refine qj ?_ GW104.out _) | exact HK.out)⟩
     ·rw [if_neg c51] at H
      exact absurd H (by simp)
    ·replace c49 := Bool.eq_false_iff.mpr c49
     subst c49
     have H1 : (some (x105000_1, x105001_1, x105002_1, x105003_1, t126)) = some (r1, r2, r3, r4, r5) := by rw [if_neg (show ¬ (false = true) by decide)] at H; exact H
     clear H
     have H := H1
     clear H1
     simp only [Option.some.injEq, Prod.mk.injEq] at H
     obtain ⟨rfl, rfl, rfl, rfl, rfl⟩ := H
     go_wp2_with (first | ((with_reducible refine qu (f := 73) rfl ?_); refine goesL_ (some 28) rfl rfl Try.func73 (by kernel_rfl) rfl #[.pointer (some ⟨g, 0, none⟩), .int .i64 16] rfl yq85 ?_; (with_reducible refine (spec_l1Rd_once.calls g s0_0 x1001_1 16 false t126 w0 _ ?side1 ?side2 A48.out).mono ?_); (case side1 => exact yq63); (case side2 => exact yq65); rintro e w63 ⟨rfl, hi, hb, hk⟩; refine ⟨_, rfl, ?_⟩; replace HO_105000 := Qz.mk (Kd.R_mono (Kd.R_keep (IsS123.apart (show IsS123 w0 _ g s0_0 x1001_1 from by repeat (first | (with_reducible first | exact HI0.out | apply IsS123.alloc | apply IsS123.drewN | apply IsS123.drew | apply IsS123.set_1 | apply (fun h_ => IsS123.far h_ NB0_101.out _) | apply (fun h_ => IsS123.far h_ NB0_104.out _)) | exact HI0.out)) yq62 (by decide)) hk (fun _ h => h.2)) (fun _ h => h.1)); replace BK101 := Qz.mk (KeepBut.blk hk (g' := gb101) (o := .cells #[.slice none 0 0, .int .i64 0, .int .i64 0, .int .i64 0] 32 (0, 0)) yq59 NB101_0.out (by simp)); replace BK104 := Qz.mk (KeepBut.blk hk (g' := gb104) (o := .cells #[u105000, .int .i64 x105001_1, .int .i64 x105002_1, .int .i64 x105003_1] 32 (0, 0)) yq61 NB104_0.out (by simp)); replace HK := Qz.mk (KeepBut.trans yq58 hk (.inl rfl)); replace HB := Qz.mk (hb); replace HI0 := Qz.mk (hi); (try clear hb); (try clear hk); (try clear hi); have hnb64 := NB104_101.out; have hnc64 := NB101_104.out; have hnb65 := NB104_0.out; have hnc65 := NB0_104.out; have hcz66_0 := (qd BK104.out 0).trans rfl; have hcz66_1 := (qd BK104.out 1).trans rfl; have hcz66_2 := (qd BK104.out 2).trans rfl; have hcz66_3 := (qd BK104.out 3).trans rfl; have hfz66_0 := qf BK104.out 0; have hfz66_1 := qf BK104.out 1; have hfz66_2 := qf BK104.out 2; have hfz66_3 := qf BK104.out 3; obtain ⟨Ao67, co67, eo67⟩ := Kd.R_slice HO_105000.out; subst eo67; have hnb68 := NB101_0.out; have hnc68 := NB0_101.out; have hcz69_0 := (qd BK101.out 0).trans rfl; have hcz69_1 := (qd BK101.out 1).trans rfl; have hcz69_2 := (qd BK101.out 2).trans rfl; have hcz69_3 := (qd BK101.out 3).trans rfl; have hfz69_0 := qf BK101.out 0; have hfz69_1 := qf BK101.out 1; have hfz69_2 := qf BK101.out 2; have hfz69_3 := qf BK101.out 3))
     refine bodyPost_ret (results_cell_row rfl _ _ gb101 32 #[.slice Ao67 x105000_1.length co67, .int .i64 x105001_1, .int .i64 x105002_1, .int .i64 x105003_1] (0, 0) _ rfl (by (with_reducible repeat (first | refine qb ?_ _ | refine qc ?_ | refine qa ?_ _)); refine qt (cs := #[.slice Ao67 x105000_1.length co67, .int .i64 x105001_1, .int .i64 x105002_1, .int .i64 0]) ?_ 3 _ rfl; (with_reducible repeat (first | refine qb ?_ _ | refine qc ?_ | refine qa ?_ _)); refine qt (cs := #[.slice Ao67 x105000_1.length co67, .int .i64 x105001_1, .int .i64 0, .int .i64 0]) ?_ 2 _ rfl; (with_reducible repeat (first | refine qb ?_ _ | refine qc ?_ | refine qa ?_ _)); refine qt (cs := #[.slice Ao67 x105000_1.length co67, .int .i64 0, .int .i64 0, .int .i64 0]) ?_ 1 _ rfl; (with_reducible repeat (first | refine qb ?_ _ | refine qc ?_ | refine qa ?_ _)); refine qt (cs := #[.slice none 0 0, .int .i64 0, .int .i64 0, .int .i64 0]) ?_ 0 _ rfl; (with_reducible repeat (first | refine qb ?_ _ | refine qc ?_ | refine qa ?_ _)); exact BK101.out) Try.underlying32 rfl (by kernel_rfl)) rfl ?_
     exact ⟨_, by first | rfl | (simp [qy, qx] <;> rfl) | (simp [*, qy, qx] <;> rfl), by (with_reducible repeat (first | apply Kd.R_alloc | apply Kd.R_drewN | apply Kd.R_drew)); exact Kd.R_mono (Kd.R_far (p := ⟨gb101, 3, none⟩) (Kd.R_far (p := ⟨gb101, 2, none⟩) (Kd.R_far (p := ⟨gb101, 1, none⟩) (Kd.R_far (p := ⟨gb101, 0, none⟩) (Kd.R_types HO_105000.out BK101.out (by decide)) (fun _ hk => hk.2) (.slice Ao67 x105000_1.length co67)) (fun _ hk => hk.2) (.int .i64 x105001_1)) (fun _ hk => hk.2) (.int .i64 x105002_1)) (fun _ hk => hk.2) (.int .i64 x105003_1)) (fun _ hk => trivial), by repeat (first | (with_reducible first | exact HI0.out | apply IsS123.alloc | apply IsS123.drewN | apply IsS123.drew | apply IsS123.set_1 | apply (fun h_ => IsS123.far h_ NB0_101.out _) | apply (fun h_ => IsS123.far h_ NB0_104.out _)) | exact HI0.out), by repeat (first | (with_reducible first | exact HB.out | apply qh | apply qg | apply qi | refine qe ?_ (IsS123.ge HI0.out) | refine qe ?_ GE101.out | refine qe ?_ GE104.out) | exact HB.out), by repeat (first | (with_reducible first | exact HK.out | apply KeepBut.set_ | apply ql | apply qo | apply qm | refine qj ?_ GW101.out _ | refine qj ?_ GW104.out _) | exact HK.out)⟩
end Go.Proofs.Ytcgejabkjljeeaa.P
end

section
namespace Go.Proofs.Ytcgejabkjljeeaa.P
open Go.RowKit Go.Proofs.YtcgejabkjljeeaaW.PrintWords Go.Proofs.YtcgejabkjljeeaaW.PrintLast Go.Proofs.YtcgejabkjljeeaaW.PrintMore
attribute [local go_sem] str_gtr str_leq str_geq max2_int min2_int max_two min_two qe1 qd1 max_four min_four
set_option linter.unusedVariables false
set_option linter.unusedSimpArgs false
def spec_DrawReplay.l0 : Nat → Int → List Int → Int → List S66 → Int → Int → Int → List S66 → Int → Int → Int → List S37 → Option (List S66 × Int × Int × Int × List S37)
 | 0, _, _, _, _, _, _, _, _, _, _, _, _ => none
 | k + 1, x, L, p, fs, n, s, q, fn, nn, sn, qn, es => if x > 0 then ((spec_l1Rd_edit.f k L p fn nn sn qn).bind fun e => (spec_Apply.f k fn nn sn qn e.1 e.2.1 e.2.2.1 e.2.2.2.1 e.2.2.2.2.1).bind fun a => if a.2.2.2.2 = true then (if es.length < 1000000000000 then spec_DrawReplay.l0 k (wrap64 (x - 1)) L e.2.2.2.2.2 fs n s q a.1 a.2.1 a.2.2.1 a.2.2.2.1 (es ++ [⟨e.1, e.2.1, e.2.2.1, e.2.2.2.1, e.2.2.2.2.1⟩]) else none) else (spec_l1Rd_once.f L e.2.2.2.2.2 4).bind fun o => if o.1 = true then (if es.length < 1000000000000 then spec_DrawReplay.l0 k (wrap64 (x - 1)) L o.2 fs n s q fn nn sn qn (es ++ [⟨e.1, e.2.1, e.2.2.1, e.2.2.2.1, e.2.2.2.2.1⟩]) else none) else spec_DrawReplay.l0 k (wrap64 (x - 1)) L o.2 fs n s q fn nn sn qn es) else some (fs, n, s, q, es)
def spec_DrawReplay.f (k : Nat) (l0 : List Int) : Option (List S66 × Int × Int × Int × List S37) := (spec_l1Open.f l0).bind fun o => (spec_l1Rd_version.f k o.1 o.2).bind fun v => (spec_l1Rd_below.f o.1 v.2.2.2.2 5).bind fun b => spec_DrawReplay.l0 k b.1 o.1 b.2 v.1 v.2.1 v.2.2.1 v.2.2.2.1 v.1 v.2.1 v.2.2.1 v.2.2.2.1 []
structure DrW (w W : World) (g b2 b5 b7 hi : Nat) (L : List Int) (p : Int) (Vv : Value) (fs : List S66) (n s q : Int) (Vn : Value) (fn : List S66) (C7 : Array Value) : Prop where
 hI : IsS123 w W g L p
 hB : Below w.heap.size w W
 k2 : W.heap[b2]? = some (.cells #[.slice none 0 0, .int .i64 0, .int .i64 0, .int .i64 0] 32 (0, 0))
 k5 : W.heap[b5]? = some (.cells #[Vv, .int .i64 n, .int .i64 s, .int .i64 q] 32 (0, 0))
 k7 : W.heap[b7]? = some (.cells C7 32 (0, 0))
 hV : Kd.R k66 66 W w.heap.size (fun _ => True) Vv fs
 hN : Kd.R k66 66 W w.heap.size (fun _ => True) Vn fn
 lt : ∀ k, Vv.ownBlock = some k → k < hi
 n2 : w.heap.size ≤ b2
 n5 : w.heap.size ≤ b5
 n7 : w.heap.size ≤ b7
 n25 : b2 ≠ b5
 n27 : b2 ≠ b7
 n57 : b5 ≠ b7
 h1 : w.heap.size ≤ hi
 h2 : hi ≤ W.heap.size
section
variable {w W W1 : World} {g b2 b5 b7 hi : Nat} {L : List Int} {p p1 : Int} {Vv Vn : Value} {fs fn : List S66} {n s q : Int} {C7 : Array Value}
theorem DrW.below (h : DrW w W g b2 b5 b7 hi L p Vv fs n s q Vn fn C7) (hb : Below W.heap.size W W1) : DrW w W1 g b2 b5 b7 hi L p Vv fs n s q Vn fn C7 :=
 ⟨h.hI.below hb, qq h.hB hb, qb1 h.k2 hb, qb1 h.k5 hb, qb1 h.k7 hb, Kd.R_below h.hV hb, Kd.R_below h.hN hb, h.lt, h.n2, h.n5, h.n7, h.n25, h.n27, h.n57, h.h1, Nat.le_trans h.h2 hb.size⟩
theorem DrW.keep (h : DrW w W g b2 b5 b7 hi L p Vv fs n s q Vn fn C7) (hI : IsS123 w W1 g L p1) (hB : Below w.heap.size w W1) (hk : KeepBut W W1 g none) : DrW w W1 g b2 b5 b7 hi L p1 Vv fs n s q Vn fn C7 :=
 ⟨hI, hB, KeepBut.blk hk h.k2 (IsS123.ne_blk h.hI h.k2 (by decide)).symm (by simp), KeepBut.blk hk h.k5 (IsS123.ne_blk h.hI h.k5 (by decide)).symm (by simp), KeepBut.blk hk h.k7 (IsS123.ne_blk h.hI h.k7 (by decide)).symm (by simp),
  Kd.R_mono (Kd.R_keep (IsS123.apart h.hI h.hV (by decide)) hk (fun _ h => h.2)) (fun _ h => h.1), Kd.R_mono (Kd.R_keep (IsS123.apart h.hI h.hN (by decide)) hk (fun _ h => h.2)) (fun _ h => h.1), h.lt, h.n2, h.n5, h.n7, h.n25, h.n27, h.n57, h.h1, Nat.le_trans h.h2 hk.1⟩
theorem DrW.grown {v : Value} (h : DrW w W g b2 b5 b7 hi L p Vv fs n s q Vn fn C7) (hb : Below w.heap.size w W1) (hg : W.grownBy W1 v.ownBlock) (hty : ∀ k, v.ownBlock = some k → ∃ cells, W.heap[k]? = some (.cells cells 37 (0, 0))) : DrW w W1 g b2 b5 b7 hi L p Vv fs n s q Vn fn C7 := by
 have ne : ∀ {a : Nat} {cs : Array Value} {t : Nat}, W.heap[a]? = some (.cells cs t (0, 0)) → t ≠ 37 → some a ≠ v.ownBlock := by
  intro a cs t ha ht he
  obtain ⟨c, hc⟩ := hty a he.symm
  rw [ha] at hc
  exact ht (by injection hc with hc; injection hc)
 have ng : some g ≠ v.ownBlock := by
  obtain ⟨A, c, hc, _⟩ := h.hI
  exact ne hc (by decide)
 exact ⟨h.hI.grown hg ng, hb, blk_grown h.k2 hg (ne h.k2 (by decide)), blk_grown h.k5 hg (ne h.k5 (by decide)), blk_grown h.k7 hg (ne h.k7 (by decide)), Kd.R_over' h.hV hty (by decide) hg, Kd.R_over' h.hN hty (by decide) hg, h.lt, h.n2, h.n5, h.n7, h.n25, h.n27, h.n57, h.h1, Nat.le_trans h.h2 hg.size⟩
theorem DrW.put (h : DrW w W g b2 b5 b7 hi L p Vv fs n s q Vn fn C7) (j : Nat) (u : Value) : DrW w (W.setCell ⟨b7, j, none⟩ u) g b2 b5 b7 hi L p Vv fs n s q Vn fn (C7.setIfInBounds j u) :=
 ⟨IsS123.far h.hI (IsS123.ne_blk h.hI h.k7 (by decide)) u, qe h.hB h.n7, qp h.k2 h.n27 u, qp h.k5 h.n57 u, qt h.k7 j u rfl, Kd.R_set h.hV h.k7 (by decide) j u, Kd.R_set h.hN h.k7 (by decide) j u, h.lt, h.n2, h.n5, h.n7, h.n25, h.n27, h.n57, h.h1, by simpa using h.h2⟩
theorem DrW.row {Vx : Value} {fx : List S66} (h : DrW w W g b2 b5 b7 hi L p Vv fs n s q Vn fn C7) (hx : Kd.R k66 66 W w.heap.size (fun _ => True) Vx fx) : DrW w W g b2 b5 b7 hi L p Vv fs n s q Vx fx C7 :=
 ⟨h.hI, h.hB, h.k2, h.k5, h.k7, h.hV, hx, h.lt, h.n2, h.n5, h.n7, h.n25, h.n27, h.n57, h.h1, h.h2⟩
end
section
variable {w W : World} {b a g : Nat} {t t' : Nat} {cs : Array Value} {L : List Int} {p : Int} {V u0 u1 u2 u3 x0 x1 x2 x3 : Value} {fs : List S66}
theorem dr_far4 (h : W.heap[a]? = some (.cells cs t (0, 0))) (hn : a ≠ b) : ((((W.setCell ⟨b, 0, none⟩ u0).setCell ⟨b, 1, none⟩ u1).setCell ⟨b, 2, none⟩ u2).setCell ⟨b, 3, none⟩ u3).heap[a]? = some (.cells cs t (0, 0)) := qp (qp (qp (qp h hn _) hn _) hn _) hn _
theorem dr_put4 (h : W.heap[b]? = some (.cells #[x0, x1, x2, x3] t (0, 0))) : ((((W.setCell ⟨b, 0, none⟩ u0).setCell ⟨b, 1, none⟩ u1).setCell ⟨b, 2, none⟩ u2).setCell ⟨b, 3, none⟩ u3).heap[b]? = some (.cells #[u0, u1, u2, u3] t (0, 0)) := qt (qt (qt (qt h 0 u0 rfl) 1 u1 rfl) 2 u2 rfl) 3 u3 rfl
theorem dr_isS4 (h : IsS123 w W g L p) (hn : g ≠ b) : IsS123 w ((((W.setCell ⟨b, 0, none⟩ u0).setCell ⟨b, 1, none⟩ u1).setCell ⟨b, 2, none⟩ u2).setCell ⟨b, 3, none⟩ u3) g L p := IsS123.far (IsS123.far (IsS123.far (IsS123.far h hn u0) hn u1) hn u2) hn u3
theorem dr_bel4 (h : Below w.heap.size w W) (hn : w.heap.size ≤ b) : Below w.heap.size w ((((W.setCell ⟨b, 0, none⟩ u0).setCell ⟨b, 1, none⟩ u1).setCell ⟨b, 2, none⟩ u2).setCell ⟨b, 3, none⟩ u3) := qe (qe (qe (qe h hn) hn) hn) hn
theorem dr_row4 {base : Nat} (h : Kd.R k66 66 W base (fun _ => True) V fs) (hb : W.heap[b]? = some (.cells cs 32 (0, 0))) : Kd.R k66 66 ((((W.setCell ⟨b, 0, none⟩ u0).setCell ⟨b, 1, none⟩ u1).setCell ⟨b, 2, none⟩ u2).setCell ⟨b, 3, none⟩ u3) base (fun _ => True) V fs :=
 have h1 := qt hb 0 u0 rfl
 have h2 := qt h1 1 u1 rfl
 have h3 := qt h2 2 u2 rfl
 Kd.R_set (Kd.R_set (Kd.R_set (Kd.R_set h hb (by decide) 0 u0) h1 (by decide) 1 u1) h2 (by decide) 2 u2) h3 (by decide) 3 u3
theorem dr_S_made0 (W : World) (base : Nat) (hb : base ≤ W.heap.size) : Kd.S k37 37 (W.alloc (.cells #[] 37)) base (fun _ => True) (.slice (some ⟨W.heap.size, 0, none⟩) 0 0) [] :=
 ⟨fun _ => 0, fun _ _ => trivial, [], World.ownsRow_made W #[] 0 hb (Nat.zero_le _) (by simp), Reps.none _ _⟩
end
theorem dr_ne_types {W : World} {a b t t' : Nat} {cs cs' : Array Value} (h : W.heap[a]? = some (.cells cs t (0, 0))) (h' : W.heap[b]? = some (.cells cs' t' (0, 0))) (ht : t ≠ t') : a ≠ b := by
 intro e
 subst e
 rw [h] at h'
 exact ht (by injection h' with h'; injection h')
theorem DrW.far {w W : World} {g b2 b5 b7 hi b : Nat} {L : List Int} {p : Int} {Vv Vn : Value} {fs fn : List S66} {n s q : Int} {C7 cs : Array Value} (h : DrW w W g b2 b5 b7 hi L p Vv fs n s q Vn fn C7) (hb : W.heap[b]? = some (.cells cs 37 (0, 0))) (hge : w.heap.size ≤ b) (j : Nat) (u : Value) : DrW w (W.setCell ⟨b, j, none⟩ u) g b2 b5 b7 hi L p Vv fs n s q Vn fn C7 :=
 ⟨IsS123.far h.hI (IsS123.ne_blk h.hI hb (by decide)) u, qe h.hB hge, qp h.k2 (dr_ne_types h.k2 hb (by decide)) u, qp h.k5 (dr_ne_types h.k5 hb (by decide)) u, qp h.k7 (dr_ne_types h.k7 hb (by decide)) u, Kd.R_set h.hV hb (by decide) j u, Kd.R_set h.hN hb (by decide) j u, h.lt, h.n2, h.n5, h.n7, h.n25, h.n27, h.n57, h.h1, by simpa using h.h2⟩
theorem DrW.far' {w W : World} {g b2 b5 b7 hi b : Nat} {L : List Int} {p : Int} {Vv Vn : Value} {fs fn : List S66} {n s q : Int} {C7 cs : Array Value} (h : DrW w W g b2 b5 b7 hi L p Vv fs n s q Vn fn C7) (hb : W.heap[b]? = some (.cells cs 32 (0, 0))) (h2 : b2 ≠ b) (h5 : b5 ≠ b) (h7 : b7 ≠ b) (hge : w.heap.size ≤ b) (j : Nat) (u : Value) : DrW w (W.setCell ⟨b, j, none⟩ u) g b2 b5 b7 hi L p Vv fs n s q Vn fn C7 :=
 ⟨IsS123.far h.hI (IsS123.ne_blk h.hI hb (by decide)) u, qe h.hB hge, qp h.k2 h2 u, qp h.k5 h5 u, qp h.k7 h7 u, Kd.R_set h.hV hb (by decide) j u, Kd.R_set h.hN hb (by decide) j u, h.lt, h.n2, h.n5, h.n7, h.n25, h.n27, h.n57, h.h1, by simpa using h.h2⟩
structure DrE (lo base W : Nat) (w : World) (b9 : Nat) (v0 v1 v6 : Value) (ea : List S66) (ec : List Int) (en esq elog : Int) (es : List S37) : Prop where
 ha : Kd.R k66 66 w lo (fun _ => True) v0 ea
 hc : Kd.R (Kd.int .i64) 2 w lo (fun _ => True) v1 ec
 k9 : w.heap[b9]? = some (.cells #[v0, v1, .int .i64 en, .int .i64 esq, .int .i64 elog] 37 (0, 0))
 hs : Kd.S k37 37 w base (fun k => True ∧ k < lo) v6 es
 h9 : W ≤ b9
 hl : lo ≤ b9
section
variable {lo base N : Nat} {w W W1 : World} {b9 b g : Nat} {v0 v1 v6 : Value} {ea : List S66} {ec : List Int} {en esq elog : Int} {es : List S37}
theorem DrE.below (h : DrE lo base N W b9 v0 v1 v6 ea ec en esq elog es) (hb : Below W.heap.size W W1) : DrE lo base N W1 b9 v0 v1 v6 ea ec en esq elog es :=
 ⟨Kd.R_below h.ha hb, Kd.R_below h.hc hb, qb1 h.k9 hb, Kd.S_below h.hs hb, h.h9, h.hl⟩
theorem DrE.elem (h : DrE lo base N W b9 v0 v1 v6 ea ec en esq elog es) (hb : base ≤ lo) : k37.M W base (fun k_ => lo ≤ k_) (⟨ea, ec, en, esq, elog⟩ : S37) [v0, v1, .int .i64 en, .int .i64 esq, .int .i64 elog] :=
 k37_mkM W base (fun k_ => lo ≤ k_) (⟨ea, ec, en, esq, elog⟩ : S37) (Kd.R_lower (Kd.R_mono (Kd.R_bound h.ha) (fun _ hk => hk.2.1)) hb) (Kd.R_lower (Kd.R_mono (Kd.R_bound h.hc) (fun _ hk => hk.2.1)) hb)
theorem DrE.new {x0 x1 x2 x3 x4 : Value} (ha : Kd.R k66 66 W lo (fun _ => True) v0 ea) (hc : Kd.R (Kd.int .i64) 2 W lo (fun _ => True) v1 ec) (e0 : W.heap[b9]? = some (.cells #[x0, x1, x2, x3, x4] 37 (0, 0))) (hs : Kd.S k37 37 W base (fun k => True ∧ k < lo) v6 es) (h9 : N ≤ b9) (hl : lo ≤ b9) :
  DrE lo base N (((((W.setCell ⟨b9, 0, none⟩ v0).setCell ⟨b9, 1, none⟩ v1).setCell ⟨b9, 2, none⟩ (.int .i64 en)).setCell ⟨b9, 3, none⟩ (.int .i64 esq)).setCell ⟨b9, 4, none⟩ (.int .i64 elog)) b9 v0 v1 v6 ea ec en esq elog es := by
 have e1 := qt e0 0 v0 rfl
 have e2 := qt e1 1 v1 rfl
 have e3 := qt e2 2 (.int .i64 en) rfl
 have e4 := qt e3 3 (.int .i64 esq) rfl
 have hn : ∀ k, True ∧ k < lo → k ≠ b9 := fun k hk => by omega
 refine ⟨?_, ?_, qt e4 4 (.int .i64 elog) rfl, ?_, h9, hl⟩
 ·exact Kd.R_set (Kd.R_set (Kd.R_set (Kd.R_set (Kd.R_set ha e0 (by decide) 0 v0) e1 (by decide) 1 v1) e2 (by decide) 2 (.int .i64 en)) e3 (by decide) 3 (.int .i64 esq)) e4 (by decide) 4 (.int .i64 elog)
 ·exact Kd.R_set (Kd.R_set (Kd.R_set (Kd.R_set (Kd.R_set hc e0 (by decide) 0 v0) e1 (by decide) 1 v1) e2 (by decide) 2 (.int .i64 en)) e3 (by decide) 3 (.int .i64 esq)) e4 (by decide) 4 (.int .i64 elog)
 ·exact Kd.S_far (Kd.S_far (Kd.S_far (Kd.S_far (Kd.S_far hs (p := ⟨b9, 0, none⟩) hn v0) (p := ⟨b9, 1, none⟩) hn v1) (p := ⟨b9, 2, none⟩) hn (.int .i64 en)) (p := ⟨b9, 3, none⟩) hn (.int .i64 esq)) (p := ⟨b9, 4, none⟩) hn (.int .i64 elog)
theorem DrE.set {cs : Array Value} (h : DrE lo base N W b9 v0 v1 v6 ea ec en esq elog es) (hb : W.heap[b]? = some (.cells cs 32 (0, 0))) (j : Nat) (u : Value) : DrE lo base N (W.setCell ⟨b, j, none⟩ u) b9 v0 v1 v6 ea ec en esq elog es :=
 ⟨Kd.R_set h.ha hb (by decide) j u, Kd.R_set h.hc hb (by decide) j u, qp h.k9 (dr_ne_types h.k9 hb (by decide)) u, Kd.S_set h.hs hb (by decide) j u, h.h9, h.hl⟩
theorem DrE.keep {L : List Int} {p : Int} (h : DrE lo base N W b9 v0 v1 v6 ea ec en esq elog es) (hI : IsS123 w W g L p) (hk : KeepBut W W1 g none) : DrE lo base N W1 b9 v0 v1 v6 ea ec en esq elog es :=
 ⟨Kd.R_mono (Kd.R_keep (IsS123.apart hI h.ha (by decide)) hk (fun _ h => h.2)) (fun _ h => h.1), Kd.R_mono (Kd.R_keep (IsS123.apart hI h.hc (by decide)) hk (fun _ h => h.2)) (fun _ h => h.1), KeepBut.blk hk h.k9 (IsS123.ne_blk hI h.k9 (by decide)).symm (by simp), Kd.S_mono (Kd.S_keep (IsS123.apartS hI h.hs (by decide)) hk (fun _ h => h.2)) (fun _ h => h.1), h.h9, h.hl⟩
end
set_option maxHeartbeats 8000000 in
set_option maxRecDepth 100000 in
theorem spec_DrawReplay.calls (k : Nat) (A0 : Option Addr) (c0 : Nat) (l0 : List Int) (r1 : List S66) (r2 r3 r4 : Int) (r5 : List S37) (w : World) (hr0 : Kd.C (Kd.int .u8) w A0 l0.length l0) (hc0 : l0.length ≤ c0) (h : spec_DrawReplay.f k l0 = some (r1, r2, r3, r4, r5)) :
  Calls Try.prog 51 #[.slice A0 l0.length c0] w fun e w' => ∃ v0_ v4_ : Value, e = .returned (.tuple #[.agg #[v0_, .int .i64 r2, .int .i64 r3, .int .i64 r4], v4_]) ∧ Kd.R k66 66 w' w.heap.size (fun _ => True) v0_ r1 ∧ Kd.S k37 37 w' w.heap.size (fun k_ => some k_ ≠ (v0_ : Value).ownBlock) v4_ r5 ∧ Below w.heap.size w w' := by
 have hu32 := Try.underlying32
 have hu37 := Try.underlying37
 have HR0 := Qz.mk hr0
 have HC0 := Qz.mk hc0
 clear hr0 hc0
 unfold spec_DrawReplay.f at h
 replace h := Option.bind_eq_some_iff.mp h
 obtain ⟨⟨L, p0⟩, A1_, h⟩ := h
 have A1 := Qz.mk A1_
 clear A1_
 replace h := Option.bind_eq_some_iff.mp h
 obtain ⟨⟨fs, n, s, q, p1⟩, A2_, h⟩ := h
 have A2 := Qz.mk A2_
 clear A2_
 replace h := Option.bind_eq_some_iff.mp h
 obtain ⟨⟨x0, p2⟩, A3_, h⟩ := h
 have A3 := Qz.mk A3_
 clear A3_
 replace h : spec_DrawReplay.l0 k x0 L p2 fs n s q fs n s q [] = some (r1, r2, r3, r4, r5) := h
 have H' := Qz.mk h
 clear h
 go_enter Try.func51, Try.ntmps51
 go_wp2_with fail
 have K2 := Qz.mk (blk_new w (.cells #[.slice none 0 0, .int .i64 0, .int .i64 0, .int .i64 0] 32))
 have HB0 := Qz.mk (qh (Below.refl w.heap.size w) (.cells #[.slice none 0 0, .int .i64 0, .int .i64 0, .int .i64 0] 32))
 generalize w.alloc (.cells #[.slice none 0 0, .int .i64 0, .int .i64 0, .int .i64 0] 32) = w0 at K2 HB0 ⊢
 (with_reducible refine (spec_l1Open.calls A0 c0 l0 L p0 w w0 HB0.out HR0.out HC0.out A1.out).mono ?_)
 rintro e w1 ⟨g, rfl, hI, hB, hb⟩
 have n_ := Qz.mk (qb1 K2.out hb)
 clear K2 HB0
 have K2 := n_
 have HI := Qz.mk hI
 have HB := Qz.mk hB
 clear n_ hI hB hb A1
 go_wp2_with fail
 (with_reducible refine (spec_l1Rd_version.calls k g L p0 fs n s q p1 w w1 HI.out HB.out A2.out).mono ?_)
 rintro e w2 ⟨Vv, rfl, hV, hI, hB, hk⟩
 have n_ := Qz.mk (KeepBut.blk hk K2.out (IsS123.ne_blk HI.out K2.out (by decide)).symm (by simp))
 have HV := Qz.mk (Kd.R_lower hV HB.out.size)
 clear K2 HI HB
 have K2 := n_
 have HI := Qz.mk hI
 have HB := Qz.mk hB
 clear n_ hI hB hk hV A2
 obtain ⟨Av, cv, rfl⟩ := Kd.R_slice HV.out
 go_upto_region 3 with (first | ((with_reducible refine gate_dst (N := 5) rfl ?_); refine box_event ?hg (N := 5) ?hd (cs := #[.slice none 0 0, .int .i64 0, .int .i64 0, .int .i64 0]) (t := 32) ?hr ?_; (case hd => rfl); (case hg => rfl); (case hr => first | (go_simp; done) | (go_simp; rfl)); intro b5 hg w3 hbox hb; have E5 := Qz.mk hbox; have B5 := Qz.mk hb; have G5 := Qz.mk hg; have hz50 := (qd hbox 0).trans (show _ = some (.slice none 0 0) from rfl); have hz51 := (qd hbox 1).trans (show _ = some (.int .i64 0) from rfl); have hz52 := (qd hbox 2).trans (show _ = some (.int .i64 0) from rfl); have hz53 := (qd hbox 3).trans (show _ = some (.int .i64 0) from rfl); have hf50 := qf hbox 0; have hf51 := qf hbox 1; have hf52 := qf hbox 2; have hf53 := qf hbox 3; clear hbox hb hg))
 clear hz50 hf50 hz51 hf51 hz52 hf52 hz53 hf53
 have hV3 := Kd.R_below HV.out B5.out
 have hK3 := qb1 K2.out B5.out
 have hI3 := IsS123.below HI.out B5.out
 have hB3 := qq HB.out B5.out
 have hb5 : w2.heap.size ≤ b5 := by rw [G5.out]; exact Nat.le_refl _
 have hn5 : w.heap.size ≠ b5 := by rw [G5.out]; exact Nat.ne_of_lt (qv K2.out)
 have hg5 : g ≠ b5 := by rw [G5.out]; exact Nat.ne_of_lt (IsS123.lt HI.out)
 have hs3 := B5.out.size
 have hlt : ∀ k, (Value.slice Av fs.length cv).ownBlock = some k → k < w2.heap.size := Kd.R_lt HV.out
 have hh := HB.out.size
 have n0 : Qz (Kd.R k66 66 ((((w3.setCell ⟨b5, 0, none⟩ (.slice Av fs.length cv)).setCell ⟨b5, 1, none⟩ (.int .i64 n)).setCell ⟨b5, 2, none⟩ (.int .i64 s)).setCell ⟨b5, 3, none⟩ (.int .i64 q)) w.heap.size (fun _ => True) (.slice Av fs.length cv) fs) := ⟨dr_row4 hV3 E5.out⟩
 have n1 : Qz (((((w3.setCell ⟨b5, 0, none⟩ (.slice Av fs.length cv)).setCell ⟨b5, 1, none⟩ (.int .i64 n)).setCell ⟨b5, 2, none⟩ (.int .i64 s)).setCell ⟨b5, 3, none⟩ (.int .i64 q)).heap[w.heap.size]? = some (.cells #[.slice none 0 0, .int .i64 0, .int .i64 0, .int .i64 0] 32 (0, 0))) := ⟨dr_far4 hK3 hn5⟩
 have n2 : Qz (((((w3.setCell ⟨b5, 0, none⟩ (.slice Av fs.length cv)).setCell ⟨b5, 1, none⟩ (.int .i64 n)).setCell ⟨b5, 2, none⟩ (.int .i64 s)).setCell ⟨b5, 3, none⟩ (.int .i64 q)).heap[b5]? = some (.cells #[.slice Av fs.length cv, .int .i64 n, .int .i64 s, .int .i64 q] 32 (0, 0))) := ⟨dr_put4 E5.out⟩
 have n3 : Qz (IsS123 w ((((w3.setCell ⟨b5, 0, none⟩ (.slice Av fs.length cv)).setCell ⟨b5, 1, none⟩ (.int .i64 n)).setCell ⟨b5, 2, none⟩ (.int .i64 s)).setCell ⟨b5, 3, none⟩ (.int .i64 q)) g L p1) := ⟨dr_isS4 hI3 hg5⟩
 have n4 : Qz (Below w.heap.size w ((((w3.setCell ⟨b5, 0, none⟩ (.slice Av fs.length cv)).setCell ⟨b5, 1, none⟩ (.int .i64 n)).setCell ⟨b5, 2, none⟩ (.int .i64 s)).setCell ⟨b5, 3, none⟩ (.int .i64 q))) := ⟨dr_bel4 hB3 (Nat.le_trans hh hb5)⟩
 have n5 : Qz (w2.heap.size ≤ ((((w3.setCell ⟨b5, 0, none⟩ (.slice Av fs.length cv)).setCell ⟨b5, 1, none⟩ (.int .i64 n)).setCell ⟨b5, 2, none⟩ (.int .i64 s)).setCell ⟨b5, 3, none⟩ (.int .i64 q)).heap.size) := ⟨by simpa using hs3⟩
 have n6 : Qz (w.heap.size ≤ b5 ∧ w.heap.size ≠ b5 ∧ w.heap.size ≤ w2.heap.size ∧ ∀ k, (Value.slice Av fs.length cv).ownBlock = some k → k < w2.heap.size) := ⟨Nat.le_trans hh hb5, hn5, hh, hlt⟩
 clear hV3 hK3 hI3 hB3 hb5 hn5 hg5 hs3 hlt hh K2 HI HB HV E5 B5 G5
 generalize ((((w3.setCell ⟨b5, 0, none⟩ (.slice Av fs.length cv)).setCell ⟨b5, 1, none⟩ (.int .i64 n)).setCell ⟨b5, 2, none⟩ (.int .i64 s)).setCell ⟨b5, 3, none⟩ (.int .i64 q)) = w4 at n0 n1 n2 n3 n4 n5 ⊢
 go_upto_region 4 with fail
 have m0 := Qz.mk (Kd.R_alloc n0.out (.cells #[] 37))
 have m1 := Qz.mk (qa n1.out (.cells #[] 37))
 have m2 := Qz.mk (qa n2.out (.cells #[] 37))
 have m3 := Qz.mk (IsS123.alloc n3.out (.cells #[] 37))
 have m4 := Qz.mk (qh n4.out (.cells #[] 37))
 have m5 := Qz.mk (dr_S_made0 w4 w2.heap.size n5.out)
 have m7 : Qz (w2.heap.size ≤ (w4.alloc (.cells #[] 37)).heap.size) := ⟨Nat.le_trans n5.out (by simp)⟩
 clear n0 n1 n2 n3 n4 n5
 generalize hVl : (Value.slice (some ⟨w4.heap.size, 0, none⟩) 0 0) = Vl at m5 ⊢
 generalize w4.alloc (.cells #[] 37) = w5 at m0 m1 m2 m3 m4 m5 m7 ⊢
 clear hVl
 have hq0 := (qd m2.out 0).trans (show _ = some (.slice Av fs.length cv) from rfl)
 have hq1 := (qd m2.out 1).trans (show _ = some (.int .i64 n) from rfl)
 have hq2 := (qd m2.out 2).trans (show _ = some (.int .i64 s) from rfl)
 have hq3 := (qd m2.out 3).trans (show _ = some (.int .i64 q) from rfl)
 go_upto_region 5 with (first | ((with_reducible refine gate_dst (N := 7) rfl ?_); refine box_event ?hg (N := 7) ?hd (cs := #[.slice none 0 0, .int .i64 0, .int .i64 0, .int .i64 0]) (t := 32) ?hr ?_; (case hd => rfl); (case hg => rfl); (case hr => first | (go_simp; done) | (go_simp; rfl)); intro b7 hg w6 hbox hb; have E7 := Qz.mk hbox; have B7 := Qz.mk hb; have G7 := Qz.mk hg; have hz70 := (qd hbox 0).trans (show _ = some (.slice none 0 0) from rfl); have hz71 := (qd hbox 1).trans (show _ = some (.int .i64 0) from rfl); have hz72 := (qd hbox 2).trans (show _ = some (.int .i64 0) from rfl); have hz73 := (qd hbox 3).trans (show _ = some (.int .i64 0) from rfl); have hf70 := qf hbox 0; have hf71 := qf hbox 1; have hf72 := qf hbox 2; have hf73 := qf hbox 3; clear hbox hb hg))
 clear hz70 hf70 hz71 hf71 hz72 hf72 hz73 hf73
 clear hq0 hq1 hq2 hq3
 have hD : DrW w w6 g w.heap.size b5 b7 w2.heap.size L p1 (.slice Av fs.length cv) fs n s q (.slice Av fs.length cv) fs #[.slice none 0 0, .int .i64 0, .int .i64 0, .int .i64 0] := by
  have hb := B7.out
  have hn : ∀ {a : Nat} {o : Obj}, w5.heap[a]? = some o → a ≠ b7 := fun h => by rw [G7.out]; exact Nat.ne_of_lt (qv h)
  exact ⟨m3.out.below hb, qq m4.out hb, qb1 m1.out hb, qb1 m2.out hb, E7.out, Kd.R_below m0.out hb, Kd.R_below m0.out hb, n6.out.2.2.2, Nat.le_refl _, n6.out.1, by rw [G7.out]; exact m4.out.size, n6.out.2.1, hn m1.out, hn m2.out, n6.out.2.2.1, Nat.le_trans m7.out hb.size⟩
 have HS := Qz.mk (Kd.S_below m5.out B7.out)
 have HD := Qz.mk ((((hD.put 0 (.slice Av fs.length cv)).put 1 (.int .i64 n)).put 2 (.int .i64 s)).put 3 (.int .i64 q))
 have HS2 := Qz.mk (Kd.S_set (Kd.S_set (Kd.S_set (Kd.S_set HS.out hD.k7 (by decide) 0 (.slice Av fs.length cv)) (hD.put 0 (.slice Av fs.length cv)).k7 (by decide) 1 (.int .i64 n)) ((hD.put 0 (.slice Av fs.length cv)).put 1 (.int .i64 n)).k7 (by decide) 2 (.int .i64 s)) (((hD.put 0 (.slice Av fs.length cv)).put 1 (.int .i64 n)).put 2 (.int .i64 s)).k7 (by decide) 3 (.int .i64 q))
 clear hD HS E7 B7 G7 m0 m1 m2 m3 m4 m5 m7 n6
 generalize (((w6.setCell ⟨b7, 0, none⟩ (.slice Av fs.length cv)).setCell ⟨b7, 1, none⟩ (.int .i64 n)).setCell ⟨b7, 2, none⟩ (.int .i64 s)).setCell ⟨b7, 3, none⟩ (.int .i64 q) = w7 at HD HS2 ⊢
 go_wp2_with fail
 (with_reducible refine (spec_l1Rd_below.calls g L p1 5 x0 p2 w w7 HD.out.hI HD.out.hB A3.out).mono ?_)
 rintro e w8 ⟨rfl, hI, hB, hk⟩
 have n0 := Qz.mk (HD.out.keep hI hB hk)
 have n1 := Qz.mk (Kd.S_mono (Kd.S_keep (IsS123.apartS HD.out.hI HS2.out (by decide)) hk (fun _ h => h.2)) (fun _ h => h.1))
 clear HD HS2 hI hB hk A3
 go_wp2_with fail
 go_loopg [6, 8] k (fun kq v6 v8 w' => ∃ (x p : Int) (Vn : Value) (fn : List S66) (nn sn qn : Int) (es : List S37), v8 = .int .i64 x ∧ Qz (spec_DrawReplay.l0 kq x L p fs n s q fn nn sn qn es = some (r1, r2, r3, r4, r5)) ∧ Qz (kq ≤ k) ∧ Qz (DrW w w' g w.heap.size b5 b7 w2.heap.size L p (.slice Av fs.length cv) fs n s q Vn fn #[Vn, .int .i64 nn, .int .i64 sn, .int .i64 qn]) ∧ Qz (Kd.S k37 37 w' w2.heap.size (fun _ => True) v6 es))
 case atStart => exact ⟨x0, p2, _, fs, n, s, q, [], rfl, H', ⟨Nat.le_refl _⟩, n0, n1⟩
 case round =>
  clear H' n0 n1
  obtain ⟨x, p, Vn, fn, nn, sn, qn, es, rfl, HA, HK, HD, HS⟩ := hrel
  rename World => wr
  cases gk with
  | zero => exact absurd HA.out (by simp [spec_DrawReplay.l0])
  | succ k1 =>
  have H := HA.out
  clear HA
  simp only [spec_DrawReplay.l0] at H
  by_cases c : x > 0
  case neg =>
   rw [if_neg c] at H
   have cb : decide (0 < x) = false := decide_eq_false c
   clear c
   simp only [Option.some.injEq, Prod.mk.injEq] at H
   obtain ⟨rfl, rfl, rfl, rfl, rfl⟩ := H
   have hq0 := (qd HD.out.k5 0).trans (show _ = some (.slice Av fs.length cv) from rfl)
   have hq1 := (qd HD.out.k5 1).trans (show _ = some (.int .i64 n) from rfl)
   have hq2 := (qd HD.out.k5 2).trans (show _ = some (.int .i64 s) from rfl)
   have hq3 := (qd HD.out.k5 3).trans (show _ = some (.int .i64 q) from rfl)
   have hz0 := (qd HD.out.k2 0).trans (show _ = some (.slice none 0 0) from rfl)
   have hz1 := (qd HD.out.k2 1).trans (show _ = some (.int .i64 0) from rfl)
   have hz2 := (qd HD.out.k2 2).trans (show _ = some (.int .i64 0) from rfl)
   have hz3 := (qd HD.out.k2 3).trans (show _ = some (.int .i64 0) from rfl)
   have hf0 := qf HD.out.k2 0
   have hf1 := qf HD.out.k2 1
   have hf2 := qf HD.out.k2 2
   have hf3 := qf HD.out.k2 3
   go_wp2
   refine bodyPost_ret (results_ct rfl _ _ w.heap.size 32 _ (0, 0) _ rfl (dr_put4 HD.out.k2) Try.underlying32 rfl (by kernel_rfl)) rfl ?_
   have e1 := qt HD.out.k2 0 (.slice Av fs.length cv) rfl
   have e2 := qt e1 1 (.int .i64 n) rfl
   have e3 := qt e2 2 (.int .i64 s) rfl
   have hS := Kd.S_set (Kd.S_set (Kd.S_set (Kd.S_set HS.out HD.out.k2 (by decide) 0 (.slice Av fs.length cv)) e1 (by decide) 1 (.int .i64 n)) e2 (by decide) 2 (.int .i64 s)) e3 (by decide) 3 (.int .i64 q)
   refine ⟨_, _, rfl, ?_, ?_, dr_bel4 HD.out.hB (Nat.le_refl _)⟩
   ·exact dr_row4 HD.out.hV HD.out.k2
   ·refine Kd.S_lower (Kd.S_mono (Kd.S_bound hS) (fun k_ hk he => ?_)) HD.out.h1
    have := HD.out.lt k_ he.symm
    have := hk.2.1
    omega
  rw [if_pos c] at H
  have cb : decide (0 < x) = true := decide_eq_true c
  clear c
  replace H := Option.bind_eq_some_iff.mp H
  obtain ⟨⟨ea, ec, en, esq, elog, p3⟩, B1_, H⟩ := H
  have B1 := Qz.mk B1_
  clear B1_
  replace H := Option.bind_eq_some_iff.mp H
  obtain ⟨⟨af, an, asq, alog, ok⟩, B2_, H⟩ := H
  have B2 := Qz.mk B2_
  clear B2_
  have HH := Qz.mk H
  clear H
  obtain ⟨An, cn, rfl⟩ := Kd.R_slice HD.out.hN
  have hq0 := (qd HD.out.k7 0).trans (show _ = some (.slice An fn.length cn) from rfl)
  have hq1 := (qd HD.out.k7 1).trans (show _ = some (.int .i64 nn) from rfl)
  have hq2 := (qd HD.out.k7 2).trans (show _ = some (.int .i64 sn) from rfl)
  have hq3 := (qd HD.out.k7 3).trans (show _ = some (.int .i64 qn) from rfl)
  go_wp2_with fail
  (with_reducible refine (spec_l1Rd_edit.calls k1 g L p An cn fn nn sn qn ea ec en esq elog p3 w wr HD.out.hI HD.out.hB ?s3 ?s4 B1.out).mono ?_)
  case s3 => exact Kd.C_foot_own (IsS123.apart HD.out.hI HD.out.hN (by decide)) (fun _ h_ => h_.2)
  case s4 => exact (Kd.R_reads' HD.out.hN).2.1
  rintro e w9 ⟨v0, v1, rfl, ho0, ho1, hI, hB, hk⟩
  have n0 := Qz.mk (HD.out.keep hI hB hk)
  have n1 := Qz.mk (Kd.S_oldK (IsS123.apartS HD.out.hI HS.out (by decide)) hk)
  have n2 := Qz.mk (show w.heap.size ≤ wr.heap.size ∧ wr.heap.size ≤ w9.heap.size ∧ w2.heap.size ≤ wr.heap.size from ⟨HD.out.hB.size, hk.1, HD.out.h2⟩)
  clear HD HS hI hB hk B1 hq0 hq1 hq2 hq3
  obtain ⟨Ae, ce, rfl⟩ := Kd.R_slice ho0
  obtain ⟨Ac, cc, rfl⟩ := Kd.R_slice ho1
  have n3 := Qz.mk ho0
  have n4 := Qz.mk ho1
  clear ho0 ho1
  go_upto_region 9 with (first | ((with_reducible refine gate_dst (N := 9) rfl ?_); refine box_event ?hg (N := 9) ?hd (cs := #[.slice none 0 0, .slice none 0 0, .int .i64 0, .int .i64 0, .int .i64 0]) (t := 37) ?hr ?_; (case hd => rfl); (case hg => rfl); (case hr => first | (go_simp; done) | (go_simp; rfl)); intro b9 hg w10 hbox hb; have E9 := Qz.mk hbox; have B9 := Qz.mk hb; have G9 := Qz.mk hg; have hz90 := (qd hbox 0).trans (show _ = some (.slice none 0 0) from rfl); have hz91 := (qd hbox 1).trans (show _ = some (.slice none 0 0) from rfl); have hz92 := (qd hbox 2).trans (show _ = some (.int .i64 0) from rfl); have hz93 := (qd hbox 3).trans (show _ = some (.int .i64 0) from rfl); have hz94 := (qd hbox 4).trans (show _ = some (.int .i64 0) from rfl); have hf90 := qf hbox 0; have hf91 := qf hbox 1; have hf92 := qf hbox 2; have hf93 := qf hbox 3; have hf94 := qf hbox 4; clear hbox hb hg))
  clear hz90 hf90 hz91 hf91 hz92 hf92 hz93 hf93 hz94 hf94
  have HD := n0.out.below B9.out
  have hge : w.heap.size ≤ b9 := by rw [G9.out]; have := n2.out; omega
  have hgl : wr.heap.size ≤ b9 := by rw [G9.out]; have := n2.out; omega
  have e0 := E9.out
  have e1 := qt e0 0 (.slice Ae ea.length ce) rfl
  have e2 := qt e1 1 (.slice Ac ec.length cc) rfl
  have e3 := qt e2 2 (.int .i64 en) rfl
  have e4 := qt e3 3 (.int .i64 esq) rfl
  have HD1 := Qz.mk (((((HD.far e0 hge 0 (.slice Ae ea.length ce)).far e1 hge 1 (.slice Ac ec.length cc)).far e2 hge 2 (.int .i64 en)).far e3 hge 3 (.int .i64 esq)).far e4 hge 4 (.int .i64 elog))
  have r0 := Kd.R_below n3.out B9.out
  have r1 := Kd.R_below n4.out B9.out
  have r2 := Kd.S_below n1.out B9.out
  have HE1 : Qz (DrE wr.heap.size w2.heap.size w.heap.size (((((w10.setCell ⟨b9, 0, none⟩ (.slice Ae ea.length ce)).setCell ⟨b9, 1, none⟩ (.slice Ac ec.length cc)).setCell ⟨b9, 2, none⟩ (.int .i64 en)).setCell ⟨b9, 3, none⟩ (.int .i64 esq)).setCell ⟨b9, 4, none⟩ (.int .i64 elog)) b9 (.slice Ae ea.length ce) (.slice Ac ec.length cc) u6 ea ec en esq elog es) :=
   ⟨DrE.new r0 r1 e0 r2 hge hgl⟩
  clear HD hge hgl e0 e1 e2 e3 e4 r0 r1 r2 n0 n1 n3 n4 E9 B9 G9
  generalize (((((w10.setCell ⟨b9, 0, none⟩ (.slice Ae ea.length ce)).setCell ⟨b9, 1, none⟩ (.slice Ac ec.length cc)).setCell ⟨b9, 2, none⟩ (.int .i64 en)).setCell ⟨b9, 3, none⟩ (.int .i64 esq)).setCell ⟨b9, 4, none⟩ (.int .i64 elog)) = w11 at HD1 HE1 ⊢
  have hq0 := (qd HD1.out.k7 0).trans (show _ = some (.slice An fn.length cn) from rfl)
  have hq1 := (qd HD1.out.k7 1).trans (show _ = some (.int .i64 nn) from rfl)
  have hq2 := (qd HD1.out.k7 2).trans (show _ = some (.int .i64 sn) from rfl)
  have hq3 := (qd HD1.out.k7 3).trans (show _ = some (.int .i64 qn) from rfl)
  have hu0 := (qd HE1.out.k9 0).trans (show _ = some (.slice Ae ea.length ce) from rfl)
  have hu1 := (qd HE1.out.k9 1).trans (show _ = some (.slice Ac ec.length cc) from rfl)
  have hu2 := (qd HE1.out.k9 2).trans (show _ = some (.int .i64 en) from rfl)
  have hu3 := (qd HE1.out.k9 3).trans (show _ = some (.int .i64 esq) from rfl)
  have hu4 := (qd HE1.out.k9 4).trans (show _ = some (.int .i64 elog) from rfl)
  go_wp2_with fail
  (with_reducible refine (spec_Apply.calls k1 An cn fn nn sn qn Ae ce ea Ac cc ec en esq elog af an asq alog ok w11 (Kd.R_reads' HD1.out.hN).2.2 (Kd.R_reads' HD1.out.hN).2.1 (Kd.R_reads' HE1.out.ha).2.2 (Kd.R_reads' HE1.out.ha).2.1 (Kd.R_reads' HE1.out.hc).2.2 (Kd.R_reads' HE1.out.hc).2.1 B2.out).mono ?_)
  rintro e w12 ⟨vx, rfl, hox, hb⟩
  have HD2 := Qz.mk (HD1.out.below hb)
  have HE2 := Qz.mk (HE1.out.below hb)
  have HX2 := Qz.mk (Kd.R_lower hox HD1.out.hB.size)
  clear HD1 HE1 hb hox B2 hq0 hq1 hq2 hq3 hu0 hu1 hu2 hu3 hu4
  obtain ⟨Ax, cx, rfl⟩ := Kd.R_slice HX2.out
  go_upto_region 10 with (first | ((with_reducible refine gate_dst (N := 10) rfl ?_); refine box_event ?hg (N := 10) ?hd (cs := #[.slice none 0 0, .int .i64 0, .int .i64 0, .int .i64 0]) (t := 32) ?hr ?_; (case hd => rfl); (case hg => rfl); (case hr => first | (go_simp; done) | (go_simp; rfl)); intro b10 hg w13 hbox hb; have E10 := Qz.mk hbox; have B10 := Qz.mk hb; have G10 := Qz.mk hg; have hz100 := (qd hbox 0).trans (show _ = some (.slice none 0 0) from rfl); have hz101 := (qd hbox 1).trans (show _ = some (.int .i64 0) from rfl); have hz102 := (qd hbox 2).trans (show _ = some (.int .i64 0) from rfl); have hz103 := (qd hbox 3).trans (show _ = some (.int .i64 0) from rfl); have hf100 := qf hbox 0; have hf101 := qf hbox 1; have hf102 := qf hbox 2; have hf103 := qf hbox 3; clear hbox hb hg))
  clear hz100 hf100 hz101 hf101 hz102 hf102 hz103 hf103
  have HD3 : Qz (DrW w ((((w13.setCell ⟨b10, 0, none⟩ (.slice Ax af.length cx)).setCell ⟨b10, 1, none⟩ (.int .i64 an)).setCell ⟨b10, 2, none⟩ (.int .i64 asq)).setCell ⟨b10, 3, none⟩ (.int .i64 alog)) g w.heap.size b5 b7 w2.heap.size L p3 (.slice Av fs.length cv) fs n s q (.slice An fn.length cn) fn #[.slice An fn.length cn, .int .i64 nn, .int .i64 sn, .int .i64 qn]) := by
   have h := HD2.out.below B10.out
   have hn : ∀ {a : Nat} {o : Obj}, w12.heap[a]? = some o → a ≠ b10 := fun h => by rw [G10.out]; exact Nat.ne_of_lt (qv h)
   have hge : w.heap.size ≤ b10 := by rw [G10.out]; exact HD2.out.hB.size
   have e0 := E10.out
   have e1 := qt e0 0 (.slice Ax af.length cx) rfl
   have e2 := qt e1 1 (.int .i64 an) rfl
   have e3 := qt e2 2 (.int .i64 asq) rfl
   exact ⟨(((h.far' e0 (hn HD2.out.k2) (hn HD2.out.k5) (hn HD2.out.k7) hge 0 _).far' e1 (hn HD2.out.k2) (hn HD2.out.k5) (hn HD2.out.k7) hge 1 _).far' e2 (hn HD2.out.k2) (hn HD2.out.k5) (hn HD2.out.k7) hge 2 _).far' e3 (hn HD2.out.k2) (hn HD2.out.k5) (hn HD2.out.k7) hge 3 _⟩
  have HE3 : Qz (DrE wr.heap.size w2.heap.size w.heap.size ((((w13.setCell ⟨b10, 0, none⟩ (.slice Ax af.length cx)).setCell ⟨b10, 1, none⟩ (.int .i64 an)).setCell ⟨b10, 2, none⟩ (.int .i64 asq)).setCell ⟨b10, 3, none⟩ (.int .i64 alog)) b9 (.slice Ae ea.length ce) (.slice Ac ec.length cc) u6 ea ec en esq elog es) := by
   have e0 := E10.out
   have e1 := qt e0 0 (.slice Ax af.length cx) rfl
   have e2 := qt e1 1 (.int .i64 an) rfl
   have e3 := qt e2 2 (.int .i64 asq) rfl
   exact ⟨((((HE2.out.below B10.out).set e0 0 _).set e1 1 _).set e2 2 _).set e3 3 _⟩
  have HX3 : Qz (Kd.R k66 66 ((((w13.setCell ⟨b10, 0, none⟩ (.slice Ax af.length cx)).setCell ⟨b10, 1, none⟩ (.int .i64 an)).setCell ⟨b10, 2, none⟩ (.int .i64 asq)).setCell ⟨b10, 3, none⟩ (.int .i64 alog)) w.heap.size (fun _ => True) (.slice Ax af.length cx) af) := ⟨dr_row4 (Kd.R_below HX2.out B10.out) E10.out⟩
  have K10 : Qz (((((w13.setCell ⟨b10, 0, none⟩ (.slice Ax af.length cx)).setCell ⟨b10, 1, none⟩ (.int .i64 an)).setCell ⟨b10, 2, none⟩ (.int .i64 asq)).setCell ⟨b10, 3, none⟩ (.int .i64 alog)).heap[b10]? = some (.cells #[.slice Ax af.length cx, .int .i64 an, .int .i64 asq, .int .i64 alog] 32 (0, 0))) := ⟨dr_put4 E10.out⟩
  have N10 : Qz (b10 ≠ b7) := ⟨by rw [G10.out]; exact Nat.ne_of_gt (qv HD2.out.k7)⟩
  clear HD2 HE2 HX2 E10 B10 G10
  generalize ((((w13.setCell ⟨b10, 0, none⟩ (.slice Ax af.length cx)).setCell ⟨b10, 1, none⟩ (.int .i64 an)).setCell ⟨b10, 2, none⟩ (.int .i64 asq)).setCell ⟨b10, 3, none⟩ (.int .i64 alog)) = w14 at HD3 HE3 HX3 K10 ⊢
  cases ok with
  | true =>
   replace HH := Qz.mk ((if_pos (show true = true from rfl)).symm.trans HH.out)
   have hq0 := (qd K10.out 0).trans (show _ = some (.slice Ax af.length cx) from rfl)
   have hq1 := (qd K10.out 1).trans (show _ = some (.int .i64 an) from rfl)
   have hq2 := (qd K10.out 2).trans (show _ = some (.int .i64 asq) from rfl)
   have hq3 := (qd K10.out 3).trans (show _ = some (.int .i64 alog) from rfl)
   have hz0 := (qd HD3.out.k7 0).trans (show _ = some (.slice An fn.length cn) from rfl)
   have hz1 := (qd HD3.out.k7 1).trans (show _ = some (.int .i64 nn) from rfl)
   have hz2 := (qd HD3.out.k7 2).trans (show _ = some (.int .i64 sn) from rfl)
   have hz3 := (qd HD3.out.k7 3).trans (show _ = some (.int .i64 qn) from rfl)
   have hf0 := qf HD3.out.k7 0
   have hf1 := qf HD3.out.k7 1
   have hf2 := qf HD3.out.k7 2
   have hf3 := qf HD3.out.k7 3
   go_upto_region 12 with fail
   clear hq0 hq1 hq2 hq3 hz0 hz1 hz2 hz3 hf0 hf1 hf2 hf3
   have HE4 : Qz (DrE wr.heap.size w2.heap.size w.heap.size ((((w14.setCell ⟨b7, 0, none⟩ (.slice Ax af.length cx)).setCell ⟨b7, 1, none⟩ (.int .i64 an)).setCell ⟨b7, 2, none⟩ (.int .i64 asq)).setCell ⟨b7, 3, none⟩ (.int .i64 alog)) b9 (.slice Ae ea.length ce) (.slice Ac ec.length cc) u6 ea ec en esq elog es) := by
    have e0 := HD3.out.k7
    have e1 := qt e0 0 (.slice Ax af.length cx) rfl
    have e2 := qt e1 1 (.int .i64 an) rfl
    have e3 := qt e2 2 (.int .i64 asq) rfl
    exact ⟨(((HE3.out.set e0 0 _).set e1 1 _).set e2 2 _).set e3 3 _⟩
   have HD4 : Qz (DrW w ((((w14.setCell ⟨b7, 0, none⟩ (.slice Ax af.length cx)).setCell ⟨b7, 1, none⟩ (.int .i64 an)).setCell ⟨b7, 2, none⟩ (.int .i64 asq)).setCell ⟨b7, 3, none⟩ (.int .i64 alog)) g w.heap.size b5 b7 w2.heap.size L p3 (.slice Av fs.length cv) fs n s q (.slice Ax af.length cx) af #[.slice Ax af.length cx, .int .i64 an, .int .i64 asq, .int .i64 alog]) :=
    ⟨((((HD3.out.put 0 (.slice Ax af.length cx)).put 1 (.int .i64 an)).put 2 (.int .i64 asq)).put 3 (.int .i64 alog)).row (dr_row4 HX3.out HD3.out.k7)⟩
   clear HD3 HE3 HX3 K10 N10
   generalize ((((w14.setCell ⟨b7, 0, none⟩ (.slice Ax af.length cx)).setCell ⟨b7, 1, none⟩ (.int .i64 an)).setCell ⟨b7, 2, none⟩ (.int .i64 asq)).setCell ⟨b7, 3, none⟩ (.int .i64 alog)) = w15 at HD4 HE4 ⊢
   have H := HH.out
   clear HH
   split at H
   case isFalse => cases H
   rename_i hcap
   have HH := Qz.mk H
   clear H
   have hu0 := (qd HE4.out.k9 0).trans (show _ = some (.slice Ae ea.length ce) from rfl)
   have hu1 := (qd HE4.out.k9 1).trans (show _ = some (.slice Ac ec.length cc) from rfl)
   have hu2 := (qd HE4.out.k9 2).trans (show _ = some (.int .i64 en) from rfl)
   have hu3 := (qd HE4.out.k9 3).trans (show _ = some (.int .i64 esq) from rfl)
   have hu4 := (qd HE4.out.k9 4).trans (show _ = some (.int .i64 elog) from rfl)
   go_wp2_with (first | ((with_reducible refine gate_builtin (b := .append) (xs := #[.tmp 40, .tmp 42]) rfl ?_); at_builtin; refine Kd.S_append k37 (w0 := w15) w2.heap.size rfl (.tmp 40) (.tmp 42) 50 37 (.agg #[.slice none 0 0, .slice none 0 0, .int .i64 0, .int .i64 0, .int .i64 0]) 72 rfl Try.underlying50 info37 rfl (by decide) (by decide) u6 es (⟨ea, ec, en, esq, elog⟩ : S37) [.slice Ae ea.length ce, .slice Ac ec.length cc, .int .i64 en, .int .i64 esq, .int .i64 elog] (fun _ => True) (fun k_ => wr.heap.size ≤ k_) rfl rfl ?aP ?aO (fun _ _ => trivial) ?aS (Below.refl _ _) HD4.out.h2 ?aL ?_; (case aP => exact HE4.out.elem n2.out.2.2); (case aO => exact fun k_ hk => ⟨trivial, Kd.S_away HE4.out.hs (fun j_ hj => by omega)⟩); (case aS => exact Kd.S_mono HE4.out.hs (fun k_ hk => ⟨trivial, by omega⟩)); (case aL => omega); intro v1 W1 ho hb hg hat; have HD5 := Qz.mk (HD4.out.grown (below_weaken HD4.out.hB HD4.out.h1 hb) hg (Kd.S_typed HE4.out.hs)); have HS5 := Qz.mk ho; clear ho hb hg hat))
   go_roundg k1
   case measure => exact Nat.lt_succ_self _
   case rel => exact ⟨_, _, _, _, _, _, _, _, rfl, HH, ⟨by have := HK.out; omega⟩, HD5, HS5⟩
  | false =>
   replace HH := Qz.mk ((if_neg (show ¬ false = true by decide)).symm.trans HH.out)
   have H := HH.out
   clear HH
   replace H := Option.bind_eq_some_iff.mp H
   obtain ⟨⟨o, p4⟩, B3_, H⟩ := H
   have B3 := Qz.mk B3_
   have HH := Qz.mk H
   clear H B3_
   go_wp2_with fail
   (with_reducible refine (spec_l1Rd_once.calls g L p3 4 o p4 w w14 HD3.out.hI HD3.out.hB B3.out).mono ?_)
   rintro e w15 ⟨rfl, hI, hB, hk⟩
   have HD4 := Qz.mk (HD3.out.keep hI hB hk)
   have HE4 := Qz.mk (HE3.out.keep HD3.out.hI hk)
   clear HD3 HE3 HX3 K10 N10 B3 hI hB hk
   cases o with
   | true =>
    have H := (if_pos (show true = true from rfl)).symm.trans HH.out
    clear HH
    split at H
    case isFalse => cases H
    rename_i hcap
    have HH := Qz.mk H
    clear H
    have hu0 := (qd HE4.out.k9 0).trans (show _ = some (.slice Ae ea.length ce) from rfl)
    have hu1 := (qd HE4.out.k9 1).trans (show _ = some (.slice Ac ec.length cc) from rfl)
    have hu2 := (qd HE4.out.k9 2).trans (show _ = some (.int .i64 en) from rfl)
    have hu3 := (qd HE4.out.k9 3).trans (show _ = some (.int .i64 esq) from rfl)
    have hu4 := (qd HE4.out.k9 4).trans (show _ = some (.int .i64 elog) from rfl)
    go_wp2_with (first | ((with_reducible refine gate_builtin (b := .append) (xs := #[.tmp 40, .tmp 42]) rfl ?_); at_builtin; refine Kd.S_append k37 (w0 := w15) w2.heap.size rfl (.tmp 40) (.tmp 42) 50 37 (.agg #[.slice none 0 0, .slice none 0 0, .int .i64 0, .int .i64 0, .int .i64 0]) 72 rfl Try.underlying50 info37 rfl (by decide) (by decide) u6 es (⟨ea, ec, en, esq, elog⟩ : S37) [.slice Ae ea.length ce, .slice Ac ec.length cc, .int .i64 en, .int .i64 esq, .int .i64 elog] (fun _ => True) (fun k_ => wr.heap.size ≤ k_) rfl rfl ?aP ?aO (fun _ _ => trivial) ?aS (Below.refl _ _) HD4.out.h2 ?aL ?_; (case aP => exact HE4.out.elem n2.out.2.2); (case aO => exact fun k_ hk => ⟨trivial, Kd.S_away HE4.out.hs (fun j_ hj => by omega)⟩); (case aS => exact Kd.S_mono HE4.out.hs (fun k_ hk => ⟨trivial, by omega⟩)); (case aL => omega); intro v1 W1 ho hb hg hat; have HD5 := Qz.mk (HD4.out.grown (below_weaken HD4.out.hB HD4.out.h1 hb) hg (Kd.S_typed HE4.out.hs)); have HS5 := Qz.mk ho; clear ho hb hg hat))
    go_roundg k1
    case measure => exact Nat.lt_succ_self _
    case rel => exact ⟨_, _, _, _, _, _, _, _, rfl, HH, ⟨by have := HK.out; omega⟩, HD5, HS5⟩
   | false =>
    replace HH := Qz.mk ((if_neg (show ¬ false = true by decide)).symm.trans HH.out)
    go_wp2
    go_roundg k1
    case measure => exact Nat.lt_succ_self _
    case rel => exact ⟨_, _, _, _, _, _, _, _, rfl, HH, ⟨by have := HK.out; omega⟩, HD4, ⟨Kd.S_mono HE4.out.hs (fun _ _ => trivial)⟩⟩
theorem yq88 {P : Prop} (h : P := by repeat (first | (with_reducible first | exact HB.out | apply qh | apply qg | apply qi | refine qe ?_ GE101.out | refine qe ?_ GE102.out) | exact HB.out)) : P := h
theorem yq89 {P : Prop} (h : P := by (with_reducible repeat (first | refine qb ?_ _ | refine qc ?_ | refine qa ?_ _)); exact BK101.out) : P := h
def spec_l12Copy.f (l0_0 : List (S66)) (a0_1 : Int) (a0_2 : Int) (a0_3 : Int) : Option ((List (S66)) × Int × Int × Int) := (some (([] : List (S66)) : List (S66))).bind fun y103 => (if y103.length + l0_0.length < 2513169434916 then (some ((y103 ++ l0_0), a0_1, a0_2, a0_3)) else (none))
set_option maxHeartbeats 8000000 in
set_option maxRecDepth 100000 in
theorem spec_l12Copy.calls (A0_0 : Option Addr) (c0_0 : Nat) (l0_0 : List (S66)) (a0_1 : Int) (a0_2 : Int) (a0_3 : Int) (r1 : List (S66)) (r2 : Int) (r3 : Int) (r4 : Int) (w : World) (hr0_0 : Kd.C k66 w A0_0 l0_0.length l0_0) (hc0_0 : l0_0.length ≤ c0_0) (h : spec_l12Copy.f l0_0 a0_1 a0_2 a0_3 = some (r1, r2, r3, r4)) :
  Calls Try.prog 68 #[.agg #[.slice A0_0 l0_0.length c0_0, .int .i64 a0_1, .int .i64 a0_2, .int .i64 a0_3]] w fun e w' => ∃ v0_ : Value, e = .returned (.agg #[v0_, .int .i64 r2, .int .i64 r3, .int .i64 r4]) ∧ Kd.R k66 66 w' w.heap.size (fun _ => True) v0_ r1 ∧ Below w.heap.size w w' := by
 have hu32 := Try.underlying32
 have HR0_0 := Qz.mk hr0_0
 have HC0_0 := Qz.mk hc0_0
 clear hr0_0 hc0_0
 have HB := Qz.mk (Below.refl w.heap.size w)
 have H : ((some (([] : List (S66)) : List (S66))).bind fun y103 => (if y103.length + l0_0.length < 2513169434916 then (some ((y103 ++ l0_0), a0_1, a0_2, a0_3)) else (none))) = some (r1, r2, r3, r4) := h
 clear h
 obtain ⟨y103, hy103⟩ : ∃ y_ : List (S66), y_ = (([] : List (S66))) := ⟨_, rfl⟩
 replace H : (if y103.length + l0_0.length < 2513169434916 then (some ((y103 ++ l0_0), a0_1, a0_2, a0_3)) else (none)) = some (r1, r2, r3, r4) := by first | (rw [hy103]; with_reducible exact H) | (have H2_ := (Option.bind_some _ _).symm.trans H; rw [hy103]; with_reducible exact H2_) | (have H2_ := (Option.bind_some _ _).symm.trans H; with_reducible exact H2_) | with_reducible exact H | (rw [hy103]; exact H) | exact H
 have Ny103 := Qz.mk hy103
 clear hy103
 by_cases c2 : y103.length + l0_0.length < 2513169434916
 ·rw [if_pos c2] at H
  have LMc2 := Qz.mk c2
  clear c2
  obtain ⟨y106, hy106⟩ : ∃ y_ : List (S66), y_ = (y103 ++ l0_0) := ⟨_, rfl⟩
  replace H : (some (y106, a0_1, a0_2, a0_3)) = some (r1, r2, r3, r4) := by first | (rw [hy106]; with_reducible exact H) | (have H2_ := (Option.bind_some _ _).symm.trans H; rw [hy106]; with_reducible exact H2_) | (have H2_ := (Option.bind_some _ _).symm.trans H; with_reducible exact H2_) | with_reducible exact H | (rw [hy106]; exact H) | exact H
  have Ny106 := Qz.mk hy106
  clear hy106
  simp only [Option.some.injEq, Prod.mk.injEq] at H
  obtain ⟨rfl, rfl, rfl, rfl⟩ := H
  go_enter Try.func68, Try.ntmps68
  go_wp2_with (first | ((with_reducible refine gate_dst (N := 1) rfl ?_); refine box_event ?hg (N := 1) ?hd (cs := #[.slice A0_0 l0_0.length c0_0, .int .i64 a0_1, .int .i64 a0_2, .int .i64 a0_3]) (t := 32) ?hr ?_; (case hd => rfl); (case hg => rfl); (case hr => first | (go_simp; done) | (go_simp; rfl)); intro gb101 hg w3 hbox hb; have BK101 := Qz.mk (hbox); have GW101 := Qz.mk ((by rw [hg]; exact (qz (by repeat (first | (with_reducible first | exact HB.out | apply qh | apply qg | apply qi) | exact HB.out))) : w.heap.size ≤ gb101)); have GE101 := GW101; replace HB := Qz.mk (qq (by repeat (first | (with_reducible first | exact HB.out | apply qh | apply qg | apply qi) | exact HB.out)) hb); clear hb hbox hg) | ((with_reducible refine gate_dst (N := 2) rfl ?_); refine box_event ?hg (N := 2) ?hd (cs := #[.slice none 0 0, .int .i64 0, .int .i64 0, .int .i64 0]) (t := 32) ?hr ?_; (case hd => rfl); (case hg => rfl); (case hr => first | (go_simp; done) | (go_simp; rfl)); intro gb102 hg w4 hbox hb; have BK102 := Qz.mk (hbox); have GW102 := Qz.mk ((by rw [hg]; exact (qz (by repeat (first | (with_reducible first | exact HB.out | apply qh | apply qg | apply qi | refine qe ?_ GE101.out) | exact HB.out))) : w.heap.size ≤ gb102)); have GE102 := GW102; replace HB := Qz.mk (qq (by repeat (first | (with_reducible first | exact HB.out | apply qh | apply qg | apply qi | refine qe ?_ GE101.out) | exact HB.out)) hb); have NB101_102 := Qz.mk ((by rw [hg]; exact Nat.ne_of_lt (qv (g := gb101) (o := .cells #[.slice A0_0 l0_0.length c0_0, .int .i64 a0_1, .int .i64 a0_2, .int .i64 a0_3] 32 (0, 0)) yq89) : gb101 ≠ gb102)); have NB102_101 := Qz.mk ((by rw [hg]; exact Nat.ne_of_gt (qv (g := gb101) (o := .cells #[.slice A0_0 l0_0.length c0_0, .int .i64 a0_1, .int .i64 a0_2, .int .i64 a0_3] 32 (0, 0)) yq89) : gb102 ≠ gb101)); replace BK101 := Qz.mk (qb1 (g := gb101) (o := .cells #[.slice A0_0 l0_0.length c0_0, .int .i64 a0_1, .int .i64 a0_2, .int .i64 a0_3] 32 (0, 0)) yq89 hb); clear hb hbox hg) | ((with_reducible refine gate_dst (N := 3) rfl ?_); refine Kd.R_lit k66 _ 66 ?hg (N := 3) ?hd (xs := ([] : List (S66))) (inner := []) (ok := fun _ => True) (okp := fun _ => True) ?hr ?hp (fun _ hk => hk) trivial (Below.refl _ _) (Nat.le_refl _) (by simp) ?_; (case hd => rfl); (case hg => rfl); (case hr => first | (go_simp; done) | (go_simp; rfl)); (case hp => exact (Reps.none _ _)); intro v104 w5 ho6 hb hg_ hnew_; clear hg_ hnew_; (first | rw [← Ny103.out] at ho6 | (simp only [Int.reduceToNat] at ho6; rw [← Ny103.out] at ho6)); have HO105 := Qz.mk (Kd.R_lower ho6 (qz yq88)); replace BK101 := Qz.mk (qb1 (g := gb101) (o := .cells #[.slice A0_0 l0_0.length c0_0, .int .i64 a0_1, .int .i64 a0_2, .int .i64 a0_3] 32 (0, 0)) yq89 hb); replace BK102 := Qz.mk (qb1 (g := gb102) (o := .cells #[.slice none 0 0, .int .i64 0, .int .i64 0, .int .i64 0] 32 (0, 0)) (by (with_reducible repeat (first | refine qb ?_ _ | refine qc ?_ | refine qa ?_ _)); exact BK102.out) hb); replace HB := Qz.mk (qq yq88 hb); clear hb ho6; have hnb7 := NB101_102.out; have hnc7 := NB102_101.out; have hcz8_0 := (qd BK101.out 0).trans rfl; have hcz8_1 := (qd BK101.out 1).trans rfl; have hcz8_2 := (qd BK101.out 2).trans rfl; have hcz8_3 := (qd BK101.out 3).trans rfl; have hfz8_0 := qf BK101.out 0; have hfz8_1 := qf BK101.out 1; have hfz8_2 := qf BK101.out 2; have hfz8_3 := qf BK101.out 3) | ((with_reducible refine gate_builtin (b := .append) (xs := #[.tmp 3, .tmp 5]) rfl ?_); at_builtin; refine Kd.R_append_rows k66 (w0 := w) w.heap.size rfl (.tmp 3) (.tmp 5) 30 66 (.agg #[(.int .i64 0), (.int .i64 0), (.string ⟨#[]⟩), (.string ⟨#[]⟩), (.int .i64 0)]) 56 rfl Try.underlying30 info66 rfl (by decide) (by omega) v104 y103 l0_0 _ _ _ (fun _ => True) (fun _ => False) rfl rfl ?aO ?aR (fun _ _ h => h) (fun _ h => h.elim) ?aF ?aB ?aS ?aL ?_; (case aR => repeat (first | exact (Kd.C_below HR0_0.out HB.out) | (with_reducible refine Kd.C_alloc ?_ _) | (with_reducible refine Kd.C_drewN ?_ _) | (with_reducible refine Kd.C_drew ?_))); (case aB => exact yq88); (case aF => exact (fun _ _ => trivial)); (case aO => exact (by (with_reducible repeat (first | apply Kd.R_alloc | apply Kd.R_drewN | apply Kd.R_drew)); exact HO105.out)); (case aS => exact (qz yq88)); (case aL => have := LMc2.out; omega); intro v107 w9 ho hb hg hat; rw [← Ny106.out] at ho; have n0_ := Qz.mk (blk_grown (g := gb101) (o := .cells #[.slice A0_0 l0_0.length c0_0, .int .i64 a0_1, .int .i64 a0_2, .int .i64 a0_3] 32 (0, 0)) yq89 hg (Kd.R_ne HO105.out BK101.out (by decide))); have n1_ := Qz.mk (blk_grown (g := gb102) (o := .cells #[.slice none 0 0, .int .i64 0, .int .i64 0, .int .i64 0] 32 (0, 0)) (by (with_reducible repeat (first | refine qb ?_ _ | refine qc ?_ | refine qa ?_ _)); exact BK102.out) hg (Kd.R_ne HO105.out BK102.out (by decide))); have n2_ := Qz.mk (hb); have n3_ := Qz.mk (ho); clear BK101; clear BK102; clear HB; clear HO105; have BK101 := n0_; have BK102 := n1_; have HB := n2_; have HO108 := n3_; clear n0_ n1_ n2_ n3_; clear ho hb hg hat; obtain ⟨Ao10, co10, eo10⟩ := Kd.R_slice HO108.out; subst eo10; have hcz11_0 := (qd BK101.out 0).trans rfl; have hcz11_1 := (qd BK101.out 1).trans rfl; have hcz11_2 := (qd BK101.out 2).trans rfl; have hcz11_3 := (qd BK101.out 3).trans rfl; have hfz11_0 := qf BK101.out 0; have hfz11_1 := qf BK101.out 1; have hfz11_2 := qf BK101.out 2; have hfz11_3 := qf BK101.out 3; have hcz12_0 := (qd BK102.out 0).trans rfl; have hcz12_1 := (qd BK102.out 1).trans rfl; have hcz12_2 := (qd BK102.out 2).trans rfl; have hcz12_3 := (qd BK102.out 3).trans rfl; have hfz12_0 := qf BK102.out 0; have hfz12_1 := qf BK102.out 1; have hfz12_2 := qf BK102.out 2; have hfz12_3 := qf BK102.out 3))
  refine bodyPost_ret (results_cell_row rfl _ _ gb102 32 #[.slice Ao10 y106.length co10, .int .i64 a0_1, .int .i64 a0_2, .int .i64 a0_3] (0, 0) _ rfl (by (with_reducible repeat (first | refine qb ?_ _ | refine qc ?_ | refine qa ?_ _)); refine qt (cs := #[.slice Ao10 y106.length co10, .int .i64 a0_1, .int .i64 a0_2, .int .i64 0]) ?_ 3 _ rfl; (with_reducible repeat (first | refine qb ?_ _ | refine qc ?_ | refine qa ?_ _)); refine qt (cs := #[.slice Ao10 y106.length co10, .int .i64 a0_1, .int .i64 0, .int .i64 0]) ?_ 2 _ rfl; (with_reducible repeat (first | refine qb ?_ _ | refine qc ?_ | refine qa ?_ _)); refine qt (cs := #[.slice Ao10 y106.length co10, .int .i64 0, .int .i64 0, .int .i64 0]) ?_ 1 _ rfl; (with_reducible repeat (first | refine qb ?_ _ | refine qc ?_ | refine qa ?_ _)); refine qt (cs := #[.slice none 0 0, .int .i64 0, .int .i64 0, .int .i64 0]) ?_ 0 _ rfl; (with_reducible repeat (first | refine qb ?_ _ | refine qc ?_ | refine qa ?_ _)); refine qp ?_ NB102_101.out _; (with_reducible repeat (first | refine qb ?_ _ | refine qc ?_ | refine qa ?_ _)); exact BK102.out) Try.underlying32 rfl (by kernel_rfl)) rfl ?_
  exact ⟨_, by first | rfl | (simp [qy, qx] <;> rfl) | (simp [*, qy, qx] <;> rfl), by (with_reducible repeat (first | apply Kd.R_alloc | apply Kd.R_drewN | apply Kd.R_drew)); exact Kd.R_mono (Kd.R_far (p := ⟨gb102, 3, none⟩) (Kd.R_far (p := ⟨gb102, 2, none⟩) (Kd.R_far (p := ⟨gb102, 1, none⟩) (Kd.R_far (p := ⟨gb102, 0, none⟩) (Kd.R_far (p := ⟨gb101, 0, none⟩) (Kd.R_types (Kd.R_types HO108.out BK101.out (by decide)) BK102.out (by decide)) (fun _ hk => hk.1.2) (.slice Ao10 y106.length co10)) (fun _ hk => hk.2) (.slice Ao10 y106.length co10)) (fun _ hk => hk.2) (.int .i64 a0_1)) (fun _ hk => hk.2) (.int .i64 a0_2)) (fun _ hk => hk.2) (.int .i64 a0_3)) (fun _ hk => trivial), by repeat (first | (with_reducible first | exact HB.out | apply qh | apply qg | apply qi | refine qe ?_ GE101.out | refine qe ?_ GE102.out) | exact HB.out)⟩
 ·rw [if_neg c2] at H
  exact absurd H (by simp)
end Go.Proofs.Ytcgejabkjljeeaa.P
end
