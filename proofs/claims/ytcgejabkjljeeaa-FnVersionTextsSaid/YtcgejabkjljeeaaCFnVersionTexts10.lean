/- Proved: the law FnVersionTexts of the given program returns true for every input of its Go types and leaves each argument as it was; no condition. (Part 11 of 15.) -/
import Derived.Test.YtcgejabkjljeeaaCFnVersionTexts4
import Derived.Test.YtcgejabkjljeeaaCFnVersionTexts9
import Derived.Test.YtcgejabkjljeeaaCFnVersionTexts8
import Derived.Test.YtcgejabkjljeeaaCFnVersionTexts7
import Derived.Test.YtcgejabkjljeeaaCFnVersionTexts6
section
namespace Go.Proofs.Ytcgejabkjljeeaa.P
open Go.RowKit Go.Proofs.YtcgejabkjljeeaaW.PrintWords Go.Proofs.YtcgejabkjljeeaaW.PrintLast Go.Proofs.YtcgejabkjljeeaaW.PrintMore
attribute [local go_sem] qk1 qj1 ql1 qf1 qd1 qn1 qm1 qa1 qz qe1 qc1
set_option linter.unusedVariables false
set_option linter.unusedSimpArgs false
theorem yq118 {P : Prop} (h : P := by repeat (first | (with_reducible first | exact HK.out | apply KeepBut.set_ | apply qn | apply qp | apply qo | refine qk ?_ GW101.out _ | refine qk ?_ GW104.out _) | exact HK.out)) : P := h
theorem yq119 {P : Prop} (h : P := by (with_reducible repeat (first | refine qc ?_ _ | refine qf ?_ | refine qa ?_ _)); exact BK101.out) : P := h
theorem yq120 {P : Prop} (h : P := by repeat (first | (with_reducible first | exact HK.out | apply KeepBut.set_ | apply qn | apply qp | apply qo | refine qk ?_ GW101.out _ | refine qk ?_ GW104.out _ | refine qk ?_ GW124.out _) | exact HK.out)) : P := h
theorem yq121 {P : Prop} (h : P := by (with_reducible repeat (first | refine qc ?_ _ | refine qf ?_ | refine qa ?_ _)); exact BK104.out) : P := h
theorem yq122 {P : Prop} (h : P := by (with_reducible repeat (first | apply Kd.R_alloc | apply Kd.R_drewN | apply Kd.R_drew)); exact HO_105000.out) : P := h
theorem yq123 {P : Prop} (h : P := by repeat (first | (with_reducible first | exact HI0.out | apply IsS123.alloc | apply IsS123.drewN | apply IsS123.drew | apply IsS123.set_1 | apply (fun h_ => IsS123.far h_ NB0_101.out _) | apply (fun h_ => IsS123.far h_ NB0_104.out _)) | exact HI0.out)) : P := h
theorem yq124 {P : Prop} (h : P := by repeat (first | (with_reducible first | exact HI0.out | apply IsS123.alloc | apply IsS123.drewN | apply IsS123.drew | apply IsS123.set_1 | apply (fun h_ => IsS123.far h_ NB0_101.out _) | apply (fun h_ => IsS123.far h_ NB0_104.out _) | apply (fun h_ => IsS123.far h_ NB0_124.out _)) | exact HI0.out)) : P := h
theorem yq125 {P : Prop} (h : P := by repeat (first | (with_reducible first | exact HB.out | apply qi | apply qd | apply qh | refine qe ?_ (IsS123.ge HI0.out) | refine qe ?_ GE101.out | refine qe ?_ GE104.out) | exact HB.out)) : P := h
theorem yq126 {P : Prop} (h : P := by repeat (first | (with_reducible first | exact HB.out | apply qi | apply qd | apply qh | refine qe ?_ (IsS123.ge HI0.out) | refine qe ?_ GE101.out | refine qe ?_ GE104.out | refine qe ?_ GE124.out) | exact HB.out)) : P := h
theorem yq127 {P : Prop} (h : P := by (try simp only [List.map_toArray, List.map_cons, List.map_nil]); first | done | rfl | (simp only [List.length_drop, List.length_take]; rfl) | (rw [IntWalk.u64_in _ (by omega)] <;> rfl)) : P := h
theorem yq128 {P : Prop} (h : P := by (with_reducible repeat (first | apply Kd.R_alloc | apply Kd.R_drewN | apply Kd.R_drew)); exact HO112.out) : P := h
theorem yq129 {P : Prop} (h : P := by (with_reducible repeat (first | apply Kd.R_alloc | apply Kd.R_drewN | apply Kd.R_drew)); exact HO109.out) : P := h
theorem yq130 {P : Prop} (h : P := by (with_reducible repeat (first | refine qc ?_ _ | refine qf ?_ | refine qa ?_ _)); exact BK124.out) : P := h
theorem yq131 {P : Prop} (h : P := by repeat (first | exact (Kd.R_reads' HO_105000.out).2.2 | (with_reducible refine Kd.C_alloc ?_ _) | (with_reducible refine Kd.C_drewN ?_ _) | (with_reducible refine Kd.C_drew ?_))) : P := h
theorem yq132 {P : Prop} (h : P := by repeat (first | exact (Kd.R_reads' HO112.out).2.2 | (with_reducible refine Kd.C_alloc ?_ _) | (with_reducible refine Kd.C_drewN ?_ _) | (with_reducible refine Kd.C_drew ?_))) : P := h
theorem yq133 {P : Prop} (h : P := by repeat (first | exact (Kd.R_reads' HO109.out).2.2 | (with_reducible refine Kd.C_alloc ?_ _) | (with_reducible refine Kd.C_drewN ?_ _) | (with_reducible refine Kd.C_drew ?_))) : P := h
theorem yq134 {P : Prop} (h : P := by rw [hg]; exact Nat.ne_of_lt (qh1 (g := gb101) (o := .cells #[.slice none 0 0, .int .i64 0, .int .i64 0, .int .i64 0] 32 (0, 0)) yq119)) : P := h
theorem yq135 {P : Prop} (h : P := by rw [hg]; exact Nat.ne_of_gt (qh1 (g := gb101) (o := .cells #[.slice none 0 0, .int .i64 0, .int .i64 0, .int .i64 0] 32 (0, 0)) yq119)) : P := h
theorem yq136 {P : Prop} (h : P := by (with_reducible repeat (first | apply Kd.R_alloc | apply Kd.R_drewN | apply Kd.R_drew)); exact Kd.R_mono HO_105000.out (fun _ hk => ⟨hk.1.2, hk.2⟩)) : P := h
theorem yq137 {P : Prop} (h : P := by (with_reducible repeat (first | apply Kd.R_alloc | apply Kd.R_drewN | apply Kd.R_drew)); exact Kd.R_mono HO119.out (fun _ hk => ⟨hk.2, hk.1.2⟩)) : P := h
theorem yq138 {P : Prop} (h : P := by (with_reducible repeat (first | apply Kd.R_alloc | apply Kd.R_drewN | apply Kd.R_drew)); exact Kd.R_mono HO109.out (fun _ hk => ⟨hk.2, hk.1.2⟩)) : P := h
theorem yq139 {P : Prop} (h : P := by rw [hg]; exact (qi1 (w := w) (g := g) (row := none) yq118)) : P := h
theorem yq140 {P : Prop} (h : P := by repeat (first | (with_reducible first | exact HK.out | apply KeepBut.set_ | apply qn | apply qp | apply qo | refine qk ?_ GW101.out _) | exact HK.out)) : P := h
theorem yq141 {P : Prop} (h : P := by rw [hg]; exact Nat.ne_of_lt (qh1 (g := gb104) (o := .cells #[.slice Ao35 x105000_1.length co35, .int .i64 x105001_1, .int .i64 x105002_1, .int .i64 x105003_1] 32 (0, 0)) yq121)) : P := h
theorem yq142 {P : Prop} (h : P := by rw [hg]; exact Nat.ne_of_lt (qh1 (g := gb104) (o := .cells #[.slice Ao15 x105000_1.length co15, .int .i64 x105001_1, .int .i64 x105002_1, .int .i64 x105003_1] 32 (0, 0)) yq121)) : P := h
theorem yq143 {P : Prop} (h : P := by rw [hg]; exact Nat.ne_of_gt (qh1 (g := gb104) (o := .cells #[.slice Ao35 x105000_1.length co35, .int .i64 x105001_1, .int .i64 x105002_1, .int .i64 x105003_1] 32 (0, 0)) yq121)) : P := h
theorem yq144 {P : Prop} (h : P := by rw [hg]; exact Nat.ne_of_gt (qh1 (g := gb104) (o := .cells #[.slice Ao15 x105000_1.length co15, .int .i64 x105001_1, .int .i64 x105002_1, .int .i64 x105003_1] 32 (0, 0)) yq121)) : P := h
theorem yq145 {P : Prop} (h : P := by (try simp only [List.map_toArray, List.map_cons, List.map_nil]); first | done | rfl) : P := h
theorem yq146 {P : Prop} (h : P := by first | (go_simp; done) | (go_simp; rfl)) : P := h
theorem yq147 {P : Prop} (h : P := by repeat (first | (with_reducible first | exact HK.out | apply KeepBut.set_ | apply qn | apply qp | apply qo) | exact HK.out)) : P := h
def spec_l1Rd_version.l0 : Nat → Int → List Int → Int → List (S66) → Int → Int → Int → Option ((List (S66)) × Int × Int × Int × Int)
 | 0, _, _, _, _, _, _, _ => none
 | k + 1, x4, x1000, x1001, x105000, x105001, x105002, x105003 => if x4 > 0 then ((spec_l1Rd_edit.f k x1000 x1001 x105000 x105001 x105002 x105003).bind fun bt107 => ((spec_Apply.f k x105000 x105001 x105002 x105003 bt107.1 bt107.2.1 bt107.2.2.1 bt107.2.2.2.1 bt107.2.2.2.2.1).bind fun bt117 => (if bt117.2.2.2.2 = true then (spec_l1Rd_version.l0 k (wrap64 (x4 - 1)) x1000 bt107.2.2.2.2.2 bt117.1 bt117.2.1 bt117.2.2.1 bt117.2.2.2.1) else (spec_l1Rd_version.l0 k (wrap64 (x4 - 1)) x1000 bt107.2.2.2.2.2 x105000 x105001 x105002 x105003)))) else ((spec_l1Rd_once.f x1000 x1001 16).bind fun bt125 => (if bt125.1 = true then ((spec_l1Rd_meta.f k x1000 bt125.2).bind fun bt127 => (if x105000.length < 2513169434916 then (some ((x105000 ++ [(⟨bt127.1, bt127.2.1, bt127.2.2.1, bt127.2.2.2.1, bt127.2.2.2.2.1⟩ : S66)]), x105001, x105002, x105003, bt127.2.2.2.2.2)) else (none))) else (some (x105000, x105001, x105002, x105003, bt125.2))))
def spec_l1Rd_version.f (k : Nat) (s0_0 : List Int) (s0_1 : Int) : Option ((List (S66)) × Int × Int × Int × Int) := (spec_l1Rd_near.f k s0_0 s0_1 0 5).bind fun bt102 => ((spec_l1Rd_below.f s0_0 bt102.2 7).bind fun bt105 => (spec_l1Rd_version.l0 k bt105.1 s0_0 bt105.2 ([] : List (S66)) (wrap64 (1 + bt102.1)) 0 0))
def spec_l1Rd_version.T5 : Bool × List (List Nat × List Nat) := (true, [([], []), ([], []), ([], []), ([1, 2], [1, 2]), ([0, 3, 3], [0, 3]), ([4], [4]), ([5], [5]), ([5], [5]), ([], []), ([8, 6, 4, 0, 1, 2, 3, 4, 5, 6, 8], [6, 8]), ([7, 9, 0, 1, 2, 3, 4, 5, 6, 7, 8, 9], [7])])
def spec_l1Rd_version.B5 : List Nat := [0, 0, 0, 6, 15, 31, 63, 63, 0, 383, 1023]
theorem spec_l1Rd_version.tab5 : rtab .any (opsOf Try.f71 5) = spec_l1Rd_version.T5 := by kernel_rfl
theorem spec_l1Rd_version.bits5 : waitsOk spec_l1Rd_version.T5.2 spec_l1Rd_version.B5 = true := by kernel_rfl
def spec_l1Rd_version.T9 : Bool × List (List Nat × List Nat) := (true, [([], []), ([0], [0]), ([], []), ([2], [2]), ([3], [3]), ([1, 4, 3], [1, 4]), ([0, 1, 2, 3, 4, 5], []), ([6, 5, 5, 0, 1, 2, 3, 4, 5], [5, 6])])
def spec_l1Rd_version.B9 : List Nat := [0, 1, 0, 4, 12, 31, 63, 127]
theorem spec_l1Rd_version.tab9 : rtab .any (opsOf Try.f71 9) = spec_l1Rd_version.T9 := by kernel_rfl
theorem spec_l1Rd_version.bits9 : waitsOk spec_l1Rd_version.T9.2 spec_l1Rd_version.B9 = true := by kernel_rfl
set_option maxHeartbeats 8000000 in
set_option maxRecDepth 100000 in
theorem spec_l1Rd_version.calls (k : Nat) (g : Nat) (s0_0 : List Int) (s0_1 : Int) (r1 : List (S66)) (r2 : Int) (r3 : Int) (r4 : Int) (r5 : Int) (w0 w : World) (hI : IsS123 w0 w g s0_0 s0_1) (hB : Below w0.heap.size w0 w) (h : spec_l1Rd_version.f k s0_0 s0_1 = some (r1, r2, r3, r4, r5)) :
  Calls Try.prog 71 #[.pointer (some ⟨g, 0, none⟩)] w fun e w' => ∃ v0_ : Value, e = .returned (.agg #[v0_, .int .i64 r2, .int .i64 r3, .int .i64 r4]) ∧ Kd.R k66 66 w' w.heap.size (fun _ => True) v0_ r1 ∧ IsS123 w0 w' g s0_0 r5 ∧ Below w0.heap.size w0 w' ∧ KeepBut w w' g none := by
 have hu32 := Try.underlying32
 have HI0 := Qz.mk hI
 have HK := Qz.mk (KeepBut.refl w g none)
 have HL := Qz.mk hB.size
 clear hI
 have HW0 := Qz.mk hB.size
 have HB := Qz.mk hB
 clear hB
 have H : ((spec_l1Rd_near.f k s0_0 s0_1 0 5).bind fun bt102 => ((spec_l1Rd_below.f s0_0 bt102.2 7).bind fun bt105 => (spec_l1Rd_version.l0 k bt105.1 s0_0 bt105.2 ([] : List (S66)) (wrap64 (1 + bt102.1)) 0 0))) = some (r1, r2, r3, r4, r5) := h
 clear h
 replace H := Option.bind_eq_some_iff.mp H
 obtain ⟨⟨t102, t103⟩, A20, H⟩ := H
 replace H : ((spec_l1Rd_below.f s0_0 t103 7).bind fun bt105 => (spec_l1Rd_version.l0 k bt105.1 s0_0 bt105.2 ([] : List (S66)) (wrap64 (1 + t102)) 0 0)) = some (r1, r2, r3, r4, r5) := H
 have A2 := Qz.mk A20
 clear A20
 replace H := Option.bind_eq_some_iff.mp H
 obtain ⟨⟨t105, t106⟩, A30, H⟩ := H
 replace H : (spec_l1Rd_version.l0 k t105 s0_0 t106 ([] : List (S66)) (wrap64 (1 + t102)) 0 0) = some (r1, r2, r3, r4, r5) := H
 have A3 := Qz.mk A30
 clear A30
 have H' := Qz.mk H
 clear H
 go_enter Try.func71, Try.ntmps71
 go_wp2_with (first | ((with_reducible refine gate_dst (N := 2) rfl ?_); refine box_event ?hg (N := 2) ?hd (cs := #[.slice none 0 0, .int .i64 0, .int .i64 0, .int .i64 0]) (t := 32) ?hr ?_; (case hd => rfl); (case hg => rfl); (case hr => exact yq146); intro gb101 hg w4 hbox hb; replace HB := Qz.mk (qq (by repeat (first | (with_reducible first | exact HB.out | apply qi | apply qd | apply qh | refine qe ?_ (IsS123.ge HI0.out)) | exact HB.out)) hb); have BK101 := Qz.mk (hbox); have GW101 := Qz.mk ((by rw [hg]; exact (qi1 (w := w) (g := g) (row := none) yq147) : w.heap.size ≤ gb101)); have GE101 := Qz.mk ((Nat.le_trans HW0.out (by rw [hg]; exact (qi1 (w := w) (g := g) (row := none) yq147) : w.heap.size ≤ gb101) : w0.heap.size ≤ gb101)); replace HK := Qz.mk (KeepBut.trans yq147 (KeepBut.of_below hb g none) (.inl rfl)); have NB0_101 := Qz.mk ((by rw [hg]; exact Nat.ne_of_lt (IsS123.lt (show IsS123 w0 _ g s0_0 s0_1 from by repeat (first | (with_reducible first | exact HI0.out | apply IsS123.alloc | apply IsS123.drewN | apply IsS123.drew | apply IsS123.set_1) | exact HI0.out))) : g ≠ gb101)); have NB101_0 := Qz.mk ((by rw [hg]; exact Nat.ne_of_gt (IsS123.lt (show IsS123 w0 _ g s0_0 s0_1 from by repeat (first | (with_reducible first | exact HI0.out | apply IsS123.alloc | apply IsS123.drewN | apply IsS123.drew | apply IsS123.set_1) | exact HI0.out))) : gb101 ≠ g)); replace HI0 := Qz.mk (IsS123.below (by repeat (first | (with_reducible first | exact HI0.out | apply IsS123.alloc | apply IsS123.drewN | apply IsS123.drew | apply IsS123.set_1) | exact HI0.out)) hb); clear hb hbox hg) | ((with_reducible refine qm (f := 102) rfl ?_); refine qy (some 8) rfl rfl Try.func102 (by kernel_rfl) rfl #[.pointer (some ⟨g, 0, none⟩), .int .i64 0, .int .i64 5] rfl yq145 ?_; (with_reducible refine (spec_l1Rd_near.calls k g s0_0 s0_1 0 5 t102 t103 w0 _ ?side1 ?side2 A2.out).mono ?_); (case side1 => repeat (first | (with_reducible first | exact HI0.out | apply IsS123.alloc | apply IsS123.drewN | apply IsS123.drew | apply IsS123.set_1 | apply (fun h_ => IsS123.far h_ NB0_101.out _)) | exact HI0.out)); (case side2 => repeat (first | (with_reducible first | exact HB.out | apply qi | apply qd | apply qh | refine qe ?_ (IsS123.ge HI0.out) | refine qe ?_ GE101.out) | exact HB.out)); rintro e w5 ⟨rfl, hi, hb, hk⟩; refine ⟨_, rfl, ?_⟩; replace BK101 := Qz.mk (KeepBut.blk hk (g' := gb101) (o := .cells #[.slice none 0 0, .int .i64 0, .int .i64 0, .int .i64 0] 32 (0, 0)) yq119 NB101_0.out (by simp)); replace HK := Qz.mk (KeepBut.trans yq140 hk (.inl rfl)); replace HB := Qz.mk (hb); replace HI0 := Qz.mk (hi); (try clear hb); (try clear hk); (try clear hi)) | ((with_reducible refine gate_dst (N := 3) rfl ?_); refine box_event ?hg (N := 3) ?hd (cs := #[.slice none 0 0, .int .i64 0, .int .i64 0, .int .i64 0]) (t := 32) ?hr ?_; (case hd => rfl); (case hg => rfl); (case hr => exact yq146); intro gb104 hg w6 hbox hb; replace HB := Qz.mk (qq (by repeat (first | (with_reducible first | exact HB.out | apply qi | apply qd | apply qh | refine qe ?_ (IsS123.ge HI0.out) | refine qe ?_ GE101.out) | exact HB.out)) hb); have BK104 := Qz.mk (hbox); have GW104 := Qz.mk ((by rw [hg]; exact (qi1 (w := w) (g := g) (row := none) yq140) : w.heap.size ≤ gb104)); have GE104 := Qz.mk ((Nat.le_trans HW0.out (by rw [hg]; exact (qi1 (w := w) (g := g) (row := none) yq140) : w.heap.size ≤ gb104) : w0.heap.size ≤ gb104)); replace HK := Qz.mk (KeepBut.trans yq140 (KeepBut.of_below hb g none) (.inl rfl)); have NB101_104 := Qz.mk ((yq134 : gb101 ≠ gb104)); have NB104_101 := Qz.mk ((yq135 : gb104 ≠ gb101)); replace BK101 := Qz.mk (qu (g := gb101) (o := .cells #[.slice none 0 0, .int .i64 0, .int .i64 0, .int .i64 0] 32 (0, 0)) yq119 hb); have NB0_104 := Qz.mk ((by rw [hg]; exact Nat.ne_of_lt (IsS123.lt (show IsS123 w0 _ g s0_0 t103 from by repeat (first | (with_reducible first | exact HI0.out | apply IsS123.alloc | apply IsS123.drewN | apply IsS123.drew | apply IsS123.set_1 | apply (fun h_ => IsS123.far h_ NB0_101.out _)) | exact HI0.out))) : g ≠ gb104)); have NB104_0 := Qz.mk ((by rw [hg]; exact Nat.ne_of_gt (IsS123.lt (show IsS123 w0 _ g s0_0 t103 from by repeat (first | (with_reducible first | exact HI0.out | apply IsS123.alloc | apply IsS123.drewN | apply IsS123.drew | apply IsS123.set_1 | apply (fun h_ => IsS123.far h_ NB0_101.out _)) | exact HI0.out))) : gb104 ≠ g)); replace HI0 := Qz.mk (IsS123.below (by repeat (first | (with_reducible first | exact HI0.out | apply IsS123.alloc | apply IsS123.drewN | apply IsS123.drew | apply IsS123.set_1 | apply (fun h_ => IsS123.far h_ NB0_101.out _)) | exact HI0.out)) hb); clear hb hbox hg; have hnb7 := NB104_101.out; have hnc7 := NB101_104.out; have hnb8 := NB104_0.out; have hnc8 := NB0_104.out; have hcz9_0 := (qg BK104.out 0).trans rfl; have hcz9_1 := (qg BK104.out 1).trans rfl; have hcz9_2 := (qg BK104.out 2).trans rfl; have hcz9_3 := (qg BK104.out 3).trans rfl; have hfz9_0 := qj BK104.out 0; have hfz9_1 := qj BK104.out 1; have hfz9_2 := qj BK104.out 2; have hfz9_3 := qj BK104.out 3) | ((with_reducible refine qm (f := 80) rfl ?_); refine qy (some 12) rfl rfl Try.func80 (by kernel_rfl) rfl #[.pointer (some ⟨g, 0, none⟩), .int .i64 7] rfl yq145 ?_; (with_reducible refine (spec_l1Rd_below.calls g s0_0 t103 7 t105 t106 w0 _ ?side1 ?side2 A3.out).mono ?_); (case side1 => exact yq123); (case side2 => exact yq125); rintro e w10 ⟨rfl, hi, hb, hk⟩; refine ⟨_, rfl, ?_⟩; replace BK101 := Qz.mk (KeepBut.blk hk (g' := gb101) (o := .cells #[.slice none 0 0, .int .i64 0, .int .i64 0, .int .i64 0] 32 (0, 0)) (by (with_reducible repeat (first | refine qc ?_ _ | refine qf ?_ | refine qa ?_ _)); refine qx ?_ NB101_104.out _; (with_reducible repeat (first | refine qc ?_ _ | refine qf ?_ | refine qa ?_ _)); refine qx ?_ NB101_104.out _; (with_reducible repeat (first | refine qc ?_ _ | refine qf ?_ | refine qa ?_ _)); refine qx ?_ NB101_104.out _; (with_reducible repeat (first | refine qc ?_ _ | refine qf ?_ | refine qa ?_ _)); refine qx ?_ NB101_104.out _; (with_reducible repeat (first | refine qc ?_ _ | refine qf ?_ | refine qa ?_ _)); exact BK101.out) NB101_0.out (by simp)); replace BK104 := Qz.mk (KeepBut.blk hk (g' := gb104) (o := .cells #[.slice none 0 0, .int .i64 (wrap64 (1 + t102)), .int .i64 0, .int .i64 0] 32 (0, 0)) (by (with_reducible repeat (first | refine qc ?_ _ | refine qf ?_ | refine qa ?_ _)); refine qw (cs := #[.slice none 0 0, .int .i64 (wrap64 (1 + t102)), .int .i64 0, .int .i64 0]) ?_ 3 _ rfl; (with_reducible repeat (first | refine qc ?_ _ | refine qf ?_ | refine qa ?_ _)); refine qw (cs := #[.slice none 0 0, .int .i64 (wrap64 (1 + t102)), .int .i64 0, .int .i64 0]) ?_ 2 _ rfl; (with_reducible repeat (first | refine qc ?_ _ | refine qf ?_ | refine qa ?_ _)); refine qw (cs := #[.slice none 0 0, .int .i64 0, .int .i64 0, .int .i64 0]) ?_ 1 _ rfl; (with_reducible repeat (first | refine qc ?_ _ | refine qf ?_ | refine qa ?_ _)); refine qw (cs := #[.slice none 0 0, .int .i64 0, .int .i64 0, .int .i64 0]) ?_ 0 _ rfl; (with_reducible repeat (first | refine qc ?_ _ | refine qf ?_ | refine qa ?_ _)); exact BK104.out) NB104_0.out (by simp)); replace HK := Qz.mk (KeepBut.trans yq118 hk (.inl rfl)); replace HB := Qz.mk (hb); replace HI0 := Qz.mk (hi); (try clear hb); (try clear hk); (try clear hi)))
 go_loopg [4] k (fun kq v4 w' => ∃ (x4_1 : Int) (x1001_1 : Int) (x105000_1 : List (S66)) (x105001_1 : Int) (x105002_1 : Int) (x105003_1 : Int) (u105000 : Value), v4 = .int .i64 x4_1 ∧ Qz (spec_l1Rd_version.l0 kq x4_1 s0_0 x1001_1 x105000_1 x105001_1 x105002_1 x105003_1 = some (r1, r2, r3, r4, r5)) ∧ Qz (kq ≤ k) ∧ Qz (Kd.R k66 66 w' w.heap.size (fun _ => True) u105000 x105000_1) ∧ Qz (w'.heap[gb101]? = some (.cells #[(.slice none 0 0), .int .i64 0, .int .i64 0, .int .i64 0] 32 (0, 0))) ∧ Qz (w'.heap[gb104]? = some (.cells #[u105000, .int .i64 x105001_1, .int .i64 x105002_1, .int .i64 x105003_1] 32 (0, 0))) ∧ Qz (IsS123 w0 w' g s0_0 x1001_1) ∧ Qz (KeepBut w w' g none) ∧ Qz (Below w0.heap.size w0 w'))
 case atStart => exact ⟨(t105), (t106), (([] : List (S66))), (wrap64 (1 + t102)), (0), (0), (.slice none 0 0), (by first | rfl | (simp; done) | (simp [*]; done)), H', ⟨Nat.le_refl _⟩, ⟨by first | exact Kd.R_nil _ _ _ _ _ | exact Kd.N_nil _ _ _ _ _ | exact Kd.V_nil _ _ _ _ _ | exact Kd.Q_nil _ _ _ _ _ | exact Kd.S_nil _ _ _ _ _⟩, ⟨by (with_reducible repeat (first | refine qc ?_ _ | refine qf ?_ | refine qa ?_ _)); exact BK101.out⟩, ⟨by (with_reducible repeat (first | refine qc ?_ _ | refine qf ?_ | refine qa ?_ _)); exact BK104.out⟩, ⟨by repeat (first | (with_reducible first | exact HI0.out | apply IsS123.alloc | apply IsS123.drewN | apply IsS123.drew | apply IsS123.set_1 | apply (fun h_ => IsS123.far h_ NB0_101.out _) | apply (fun h_ => IsS123.far h_ NB0_104.out _)) | exact HI0.out)⟩, ⟨by repeat (first | (with_reducible first | exact HK.out | apply KeepBut.set_ | apply qn | apply qp | apply qo | refine qk ?_ GW101.out _ | refine qk ?_ GW104.out _) | exact HK.out)⟩, ⟨by repeat (first | (with_reducible first | exact HB.out | apply qi | apply qd | apply qh | refine qe ?_ (IsS123.ge HI0.out) | refine qe ?_ GE101.out | refine qe ?_ GE104.out) | exact HB.out)⟩⟩
 case round =>
  clear H'
  (try clear c1);(try clear p2);(try clear p6);(try clear c7);(try clear c8);(try clear c10);(try clear hcz9_0);(try clear hcz9_1);(try clear hcz9_2);(try clear hcz9_3);(try clear hfz9_0);(try clear hfz9_1);(try clear hfz9_2);(try clear hfz9_3)
  obtain ⟨x4_1, x1001_1, x105000_1, x105001_1, x105002_1, x105003_1, u105000, rfl, HA, HK1, HO_105000, BK101, BK104, HI0, HK, HB⟩ := hrel
  cases gk with
  | zero => exact absurd HA.out (by simp [spec_l1Rd_version.l0])
  | succ k1 =>
   have H := HA.out
   clear HA
   simp only [spec_l1Rd_version.l0] at H
   by_cases c11 : x4_1 > 0
   ·rw [if_pos c11] at H
    have c11b0 : decide (0 < x4_1) = true := decide_eq_true c11
    clear c11
    replace H := Option.bind_eq_some_iff.mp H
    obtain ⟨⟨t107, t110, t113, t114, t115, t116⟩, A120, H⟩ := H
    replace H : ((spec_Apply.f k1 x105000_1 x105001_1 x105002_1 x105003_1 t107 t110 t113 t114 t115).bind fun bt117 => (if bt117.2.2.2.2 = true then (spec_l1Rd_version.l0 k1 (wrap64 (x4_1 - 1)) s0_0 t116 bt117.1 bt117.2.1 bt117.2.2.1 bt117.2.2.2.1) else (spec_l1Rd_version.l0 k1 (wrap64 (x4_1 - 1)) s0_0 t116 x105000_1 x105001_1 x105002_1 x105003_1))) = some (r1, r2, r3, r4, r5) := H
    have A12 := Qz.mk A120
    clear A120
    replace H := Option.bind_eq_some_iff.mp H
    obtain ⟨⟨t117, t120, t121, t122, t123⟩, A130, H⟩ := H
    replace H : (if t123 = true then (spec_l1Rd_version.l0 k1 (wrap64 (x4_1 - 1)) s0_0 t116 t117 t120 t121 t122) else (spec_l1Rd_version.l0 k1 (wrap64 (x4_1 - 1)) s0_0 t116 x105000_1 x105001_1 x105002_1 x105003_1)) = some (r1, r2, r3, r4, r5) := H
    have A13 := Qz.mk A130
    clear A130
    by_cases c14 : t123 = true
    ·subst c14
     have H1 : (spec_l1Rd_version.l0 k1 (wrap64 (x4_1 - 1)) s0_0 t116 t117 t120 t121 t122) = some (r1, r2, r3, r4, r5) := by rw [if_pos rfl] at H; exact H
     clear H
     have H := H1
     clear H1
     have H' := Qz.mk H
     clear H
     obtain ⟨Ao15, co15, eo15⟩ := Kd.R_slice HO_105000.out
     subst eo15
     try go_wp2
     replace HO_105000 := Qz.mk (Kd.R_drew HO_105000.out)
     replace BK101 := Qz.mk (qf BK101.out)
     replace BK104 := Qz.mk (qf BK104.out)
     replace HI0 := Qz.mk (IsS123.drew HI0.out)
     replace HK := Qz.mk (qp HK.out)
     replace HB := Qz.mk (qh HB.out)
     refine start_ (n := 11) (S := fun w' => w'.cell? ⟨gb104, 0, none⟩ = some (.slice Ao15 x105000_1.length co15) ∧ w'.cell? ⟨gb104, 1, none⟩ = some (.int .i64 x105001_1) ∧ w'.cell? ⟨gb104, 2, none⟩ = some (.int .i64 x105002_1) ∧ w'.cell? ⟨gb104, 3, none⟩ = some (.int .i64 x105003_1)) (ds := []) bq1 (by kernel_rfl) rfl rfl ⟨(qg BK104.out 0).trans rfl, (qg BK104.out 1).trans rfl, (qg BK104.out 2).trans rfl, (qg BK104.out 3).trans rfl⟩ (fun hHeld => ?_); refine with_tabW spec_l1Rd_version.tab5 spec_l1Rd_version.bits5 (fun HT_ HW_ => ?_)
     generalize wr.drew = w16 at HO_105000 BK101 BK104 HI0 HK HB hHeld ⊢
     refine pure_ (i := 1) (N := some 19) (v := ?_) (a' := ?_) bq3 rfl rfl (qg1 HT_.out (by kernel_rfl)) (fun _ _ _ h => h) (Or.inl ⟨by rfl, ?_⟩) ?_ ?_
     rotate_left
     ·intro w'
      go_simp
      with_reducible rfl
     rotate_left
     ·simp only [Act.put, sq1, sq2, sq3, i64_w, i32_w]
      rfl
     refine take_ (i := 0) (N := some 18) (v := ?_) (a' := ?_) bq7 rfl rfl (take_ofW HT_.out HW_.out (by kernel_rfl)) (fun _ _ _ h => h) (Or.inl ⟨by rfl, ?_⟩) hHeld ?_ ?_
     rotate_left
     ·rintro w' ⟨s0, s1, s2, s3⟩
      go_simp
      with_reducible rfl
     rotate_left
     ·simp only [Act.put, sq1, sq2, sq3, i64_w, i32_w]
      rfl
     refine take_ (i := 2) (N := some 20) (v := ?_) (a' := ?_) bq8 rfl rfl (take_ofW HT_.out HW_.out (by kernel_rfl)) (fun _ _ _ h => h) (Or.inl ⟨by rfl, ?_⟩) hHeld ?_ ?_
     rotate_left
     ·rintro w' ⟨s0, s1, s2, s3⟩
      go_simp
      with_reducible rfl
     rotate_left
     ·simp only [Act.put, sq1, sq2, sq3, i64_w, i32_w]
      rfl
     refine join_ (σ := Value × Value × Value × Nat) 2 bq25 (fun s_ => [(21, .agg #[s_.1, s_.2.1, .int .i64 t113, .int .i64 t114, .int .i64 t115]), (22, .tuple #[.agg #[s_.2.2.1, .int .i64 t120, .int .i64 t121, .int .i64 t122], .bool true]), (5, .pointer (some ⟨s_.2.2.2, 0, none⟩)), (17, .tuple #[.agg #[s_.2.2.1, .int .i64 t120, .int .i64 t121, .int .i64 t122], .bool true]), (23, .agg #[s_.2.2.1, .int .i64 t120, .int .i64 t121, .int .i64 t122]), (24, .bool true)]) (fun s_ w' => (w'.cell? ⟨gb104, 0, none⟩ = some (.slice Ao15 x105000_1.length co15) ∧ w'.cell? ⟨gb104, 1, none⟩ = some (.int .i64 x105001_1) ∧ w'.cell? ⟨gb104, 2, none⟩ = some (.int .i64 x105002_1) ∧ w'.cell? ⟨gb104, 3, none⟩ = some (.int .i64 x105003_1)) ∧ (Kd.R k66 66 w' w.heap.size (fun k_ => some k_ ≠ (s_.2.2.1 : Value).ownBlock ∧ some k_ ≠ (.slice Ao15 x105000_1.length co15 : Value).ownBlock) s_.1 t107) ∧ (Kd.R (Kd.int .i64) 2 w' w.heap.size (fun _ => True) s_.2.1 t110) ∧ (Kd.R k66 66 w' w.heap.size (fun k_ => some k_ ≠ (s_.1 : Value).ownBlock ∧ some k_ ≠ (.slice Ao15 x105000_1.length co15 : Value).ownBlock) s_.2.2.1 t117) ∧ (Kd.R k66 66 w' w.heap.size (fun k_ => some k_ ≠ (s_.1 : Value).ownBlock ∧ some k_ ≠ (s_.2.2.1 : Value).ownBlock) (.slice Ao15 x105000_1.length co15) x105000_1) ∧ (w'.heap[gb101]? = some (.cells #[.slice none 0 0, .int .i64 0, .int .i64 0, .int .i64 0] 32 (0, 0))) ∧ (w'.heap[gb104]? = some (.cells #[.slice Ao15 x105000_1.length co15, .int .i64 x105001_1, .int .i64 x105002_1, .int .i64 x105003_1] 32 (0, 0))) ∧ (w'.heap[s_.2.2.2]? = some (.cells #[.slice none 0 0, .int .i64 0, .int .i64 0, .int .i64 0] 32 (0, 0))) ∧ (w.heap.size ≤ s_.2.2.2) ∧ (w0.heap.size ≤ s_.2.2.2) ∧ (g ≠ s_.2.2.2) ∧ (s_.2.2.2 ≠ g) ∧ (gb101 ≠ s_.2.2.2) ∧ (s_.2.2.2 ≠ gb101) ∧ (gb104 ≠ s_.2.2.2) ∧ (s_.2.2.2 ≠ gb104) ∧ (IsS123 w0 w' g s0_0 t116) ∧ (KeepBut w w' g none) ∧ (Below w0.heap.size w0 w')) ?_ ?_
     rotate_left
     ·intro hCont
      refine two_ (i := 3) (j := 8) (Ni := some 21) (Nj := some 5) bq11 bq9 rfl rfl rfl rfl (two_of HT_.out (by kernel_rfl)) (by decide) (by decide) (fun K hK => ?_) (fun K hK => ?_)
      ·skip
       refine goes_ Try.func88 (by kernel_rfl) rfl #[.pointer (some ⟨g, 0, none⟩), .agg #[.slice Ao15 x105000_1.length co15, .int .i64 x105001_1, .int .i64 x105002_1, .int .i64 x105003_1]] (by rfl) rfl rfl yq127 ?_
       with_reducible refine (spec_l1Rd_edit.calls k1 g s0_0 x1001_1 _ _ x105000_1 x105001_1 x105002_1 x105003_1 t107 t110 t113 t114 t115 t116 w0 _ ?side1 ?side2 ?side3 ?side4 A12.out).mono ?_
       (case side1 => exact yq123)
       (case side2 => exact yq125)
       (case side3 => exact Kd.C_foot_own (IsS123.apart (show IsS123 w0 _ g s0_0 x1001_1 from by repeat (first | (with_reducible first | exact HI0.out | apply IsS123.alloc | apply IsS123.drewN | apply IsS123.drew | apply IsS123.set_1 | apply (fun h_ => IsS123.far h_ NB0_101.out _) | apply (fun h_ => IsS123.far h_ NB0_104.out _)) | exact HI0.out)) yq122 (by decide)) (fun _ h_ => h_.2))
       (case side4 => exact (Kd.R_reads' HO_105000.out).2.1)
       rintro e w17 ⟨v108, v111, rfl, ho0, ho1, hi, hb, hk⟩
       refine ⟨_, rfl, ?_⟩
       replace BK101 := Qz.mk (KeepBut.blk hk (g' := gb101) (o := .cells #[.slice none 0 0, .int .i64 0, .int .i64 0, .int .i64 0] 32 (0, 0)) yq119 NB101_0.out (by simp))
       replace BK104 := Qz.mk (KeepBut.blk hk (g' := gb104) (o := .cells #[.slice Ao15 x105000_1.length co15, .int .i64 x105001_1, .int .i64 x105002_1, .int .i64 x105003_1] 32 (0, 0)) yq121 NB104_0.out (by simp))
       have HO109 := Qz.mk (Kd.R_lower (Kd.R_new' ho0 (Kd.R_lt yq122)) (qi1 (w := w) (g := g) (row := none) yq118))
       replace HO_105000 := Qz.mk (Kd.R_mono (Kd.R_told (Kd.R_oldK (IsS123.apart (show IsS123 w0 _ g s0_0 x1001_1 from by repeat (first | (with_reducible first | exact HI0.out | apply IsS123.alloc | apply IsS123.drewN | apply IsS123.drew | apply IsS123.set_1 | apply (fun h_ => IsS123.far h_ NB0_101.out _) | apply (fun h_ => IsS123.far h_ NB0_104.out _)) | exact HI0.out)) yq122 (by decide)) hk) (Kd.R_base ho0)) (fun _ h_ => h_.1))
       have HO112 := Qz.mk (Kd.R_lower ho1 (qi1 (w := w) (g := g) (row := none) yq118))
       replace HK := Qz.mk (KeepBut.trans yq118 hk (.inl rfl))
       replace HB := Qz.mk (hb)
       replace HI0 := Qz.mk (hi)
       (try clear hb)
       (try clear hk)
       (try clear hi)
       (try clear ho0)
       (try clear ho1)
       obtain ⟨Ao18, co18, eo18⟩ := Kd.R_slice HO109.out
       (first | subst eo18 | (injection eo18 with f1_ f2_ f3_; have f4_ := f1_.symm; have f5_ := f3_.symm; clear f1_ f2_ f3_; subst f4_; subst f5_))
       obtain ⟨Ao19, co19, eo19⟩ := Kd.R_slice HO112.out
       (first | subst eo19 | (injection eo19 with f1_ f2_ f3_; have f4_ := f1_.symm; have f5_ := f3_.symm; clear f1_ f2_ f3_; subst f4_; subst f5_))
       refine hK.out _ _ ⟨(qg BK104.out 0).trans rfl, (qg BK104.out 1).trans rfl, (qg BK104.out 2).trans rfl, (qg BK104.out 3).trans rfl⟩ (fun hHeld => ?_)
       clear hK K
       refine norm_ (a' := ?_) ?_ ?_
       rotate_left
       ·show Act.put _ (some 21) _ = _
        simp only [Act.put, sq1, sq2, sq3, i64_w, i32_w]
        rfl
       refine two_ (i := 4) (j := 8) (Ni := some 22) (Nj := some 5) bq14 bq12 rfl rfl rfl rfl (two_of HT_.out (by kernel_rfl)) (by decide) (by decide) (fun K hK => ?_) (fun K hK => ?_)
       ·skip
        refine goes_ Try.func17 (by kernel_rfl) rfl #[.agg #[.slice Ao15 x105000_1.length co15, .int .i64 x105001_1, .int .i64 x105002_1, .int .i64 x105003_1], .agg #[.slice Ao18 t107.length co18, .slice Ao19 t110.length co19, .int .i64 t113, .int .i64 t114, .int .i64 t115]] (by rfl) rfl rfl yq127 ?_
        with_reducible refine (spec_Apply.calls k1 _ _ x105000_1 x105001_1 x105002_1 x105003_1 _ _ t107 _ _ t110 t113 t114 t115 t117 t120 t121 t122 true _ ?side1 ?side2 ?side3 ?side4 ?side5 ?side6 A13.out).mono ?_
        (case side1 => exact yq131)
        (case side2 => exact (Kd.R_reads' HO_105000.out).2.1)
        (case side3 => exact yq133)
        (case side4 => exact (Kd.R_reads' HO109.out).2.1)
        (case side5 => exact yq132)
        (case side6 => exact (Kd.R_reads' HO112.out).2.1)
        rintro e w20 ⟨v118, rfl, ho0, hb⟩
        refine ⟨_, rfl, ?_⟩
        replace HO112 := Qz.mk (Kd.R_below yq128 hb)
        have HO119 := Qz.mk (Kd.R_lower (Kd.R_new' (Kd.R_new' ho0 (Kd.R_lt yq122)) (Kd.R_lt yq129)) (qi1 (w := w) (g := g) (row := none) yq118))
        replace HO_105000 := Qz.mk (Kd.R_elder' yq122 (Kd.R_base ho0) hb)
        replace HO109 := Qz.mk (Kd.R_elder' yq129 (Kd.R_base ho0) hb)
        replace BK101 := Qz.mk (qu (g := gb101) (o := .cells #[.slice none 0 0, .int .i64 0, .int .i64 0, .int .i64 0] 32 (0, 0)) yq119 hb)
        replace BK104 := Qz.mk (qu (g := gb104) (o := .cells #[.slice Ao15 x105000_1.length co15, .int .i64 x105001_1, .int .i64 x105002_1, .int .i64 x105003_1] 32 (0, 0)) yq121 hb)
        replace HK := Qz.mk (KeepBut.trans yq118 (KeepBut.of_below hb g none) (.inl rfl))
        replace HB := Qz.mk (qq yq125 hb)
        replace HI0 := Qz.mk (IsS123.below yq123 hb)
        (try clear hb)
        (try clear hk)
        (try clear hi)
        (try clear ho0)
        refine hK.out _ _ ⟨(qg BK104.out 0).trans rfl, (qg BK104.out 1).trans rfl, (qg BK104.out 2).trans rfl, (qg BK104.out 3).trans rfl⟩ (fun hHeld => ?_)
        clear hK K
        refine norm_ (a' := ?_) ?_ ?_
        rotate_left
        ·show Act.put _ (some 22) _ = _
         simp only [Act.put, sq1, sq2, sq3, i64_w, i32_w]
         rfl
        refine pure_ (i := 5) (N := some 17) (v := ?_) (a' := ?_) bq17 rfl rfl (qg1 HT_.out (by kernel_rfl)) (fun _ _ _ h => h) (Or.inl ⟨by rfl, ?_⟩) ?_ ?_
        rotate_left
        ·intro w'
         go_simp
         with_reducible rfl
        rotate_left
        ·simp only [Act.put, sq1, sq2, sq3, i64_w, i32_w]
         rfl
        refine pure_ (i := 6) (N := some 23) (v := ?_) (a' := ?_) bq20 rfl rfl (qg1 HT_.out (by kernel_rfl)) (fun _ _ _ h => h) (Or.inl ⟨by rfl, ?_⟩) ?_ ?_
        rotate_left
        ·intro w'
         go_simp
         with_reducible rfl
        rotate_left
        ·simp only [Act.put, sq1, sq2, sq3, i64_w, i32_w]
         rfl
        refine pure_ (i := 7) (N := some 24) (v := ?_) (a' := ?_) bq23 rfl rfl (qg1 HT_.out (by kernel_rfl)) (fun _ _ _ h => h) (Or.inl ⟨by rfl, ?_⟩) ?_ ?_
        rotate_left
        ·intro w'
         go_simp
         with_reducible rfl
        rotate_left
        ·simp only [Act.put, sq1, sq2, sq3, i64_w, i32_w]
         rfl
        refine one_ (i := 8) (N := some 5) bq25 rfl rfl (one_of HT_.out (by kernel_rfl)) (by decide) (fun K hK => ?_)
        refine box_step ?hg (N := 5) ?hd (cs := #[.slice none 0 0, .int .i64 0, .int .i64 0, .int .i64 0]) (t := 32) ?hr ?_; (case hd => rfl); (case hg => rfl); (case hr => exact yq146)
        intro gb124 hg w21 hbox hb
        replace HO_105000 := Qz.mk (Kd.R_below yq122 hb)
        replace HO109 := Qz.mk (Kd.R_below yq129 hb)
        replace HO112 := Qz.mk (Kd.R_below yq128 hb)
        replace HO119 := Qz.mk (Kd.R_below (by (with_reducible repeat (first | apply Kd.R_alloc | apply Kd.R_drewN | apply Kd.R_drew)); exact HO119.out) hb)
        replace HB := Qz.mk (qq yq125 hb)
        have BK124 := Qz.mk (hbox)
        have GW124 := Qz.mk ((yq139 : w.heap.size ≤ gb124))
        have GE124 := Qz.mk ((Nat.le_trans HW0.out (yq139 : w.heap.size ≤ gb124) : w0.heap.size ≤ gb124))
        replace HK := Qz.mk (KeepBut.trans yq118 (KeepBut.of_below hb g none) (.inl rfl))
        have NB101_124 := Qz.mk ((yq134 : gb101 ≠ gb124))
        have NB124_101 := Qz.mk ((yq135 : gb124 ≠ gb101))
        replace BK101 := Qz.mk (qu (g := gb101) (o := .cells #[.slice none 0 0, .int .i64 0, .int .i64 0, .int .i64 0] 32 (0, 0)) yq119 hb)
        have NB104_124 := Qz.mk ((yq142 : gb104 ≠ gb124))
        have NB124_104 := Qz.mk ((yq144 : gb124 ≠ gb104))
        replace BK104 := Qz.mk (qu (g := gb104) (o := .cells #[.slice Ao15 x105000_1.length co15, .int .i64 x105001_1, .int .i64 x105002_1, .int .i64 x105003_1] 32 (0, 0)) yq121 hb)
        have NB0_124 := Qz.mk ((by rw [hg]; exact Nat.ne_of_lt (IsS123.lt (show IsS123 w0 _ g s0_0 t116 from by repeat (first | (with_reducible first | exact HI0.out | apply IsS123.alloc | apply IsS123.drewN | apply IsS123.drew | apply IsS123.set_1 | apply (fun h_ => IsS123.far h_ NB0_101.out _) | apply (fun h_ => IsS123.far h_ NB0_104.out _)) | exact HI0.out))) : g ≠ gb124))
        have NB124_0 := Qz.mk ((by rw [hg]; exact Nat.ne_of_gt (IsS123.lt (show IsS123 w0 _ g s0_0 t116 from by repeat (first | (with_reducible first | exact HI0.out | apply IsS123.alloc | apply IsS123.drewN | apply IsS123.drew | apply IsS123.set_1 | apply (fun h_ => IsS123.far h_ NB0_101.out _) | apply (fun h_ => IsS123.far h_ NB0_104.out _)) | exact HI0.out))) : gb124 ≠ g))
        replace HI0 := Qz.mk (IsS123.below yq123 hb)
        clear hb hbox hg
        refine hK.out _ _ ⟨(qg BK104.out 0).trans rfl, (qg BK104.out 1).trans rfl, (qg BK104.out 2).trans rfl, (qg BK104.out 3).trans rfl⟩ (fun hHeld => ?_)
        clear hK K
        refine norm_ (a' := ?_) ?_ ?_
        rotate_left
        ·show Act.put _ (some 5) _ = _
         simp only [Act.put, sq1, sq2, sq3, i64_w, i32_w]
         rfl
        exact norm_ (by simp only [putAll, Act.put, sq1, sq2, sq3]) (hCont (.slice Ao18 t107.length co18, .slice Ao19 t110.length co19, v118, gb124) _ ⟨hHeld, yq138, yq128, yq137, yq136, yq119, yq121, yq130, GW124.out, GE124.out, NB0_124.out, NB124_0.out, NB101_124.out, NB124_101.out, NB104_124.out, NB124_104.out, yq124, yq120, yq126⟩)
       ·skip
        refine box_step ?hg (N := 5) ?hd (cs := #[.slice none 0 0, .int .i64 0, .int .i64 0, .int .i64 0]) (t := 32) ?hr ?_; (case hd => rfl); (case hg => rfl); (case hr => exact yq146)
        intro gb124 hg w18 hbox hb
        replace HO_105000 := Qz.mk (Kd.R_below yq122 hb)
        replace HO109 := Qz.mk (Kd.R_below yq129 hb)
        replace HO112 := Qz.mk (Kd.R_below yq128 hb)
        replace HB := Qz.mk (qq yq125 hb)
        have BK124 := Qz.mk (hbox)
        have GW124 := Qz.mk ((yq139 : w.heap.size ≤ gb124))
        have GE124 := Qz.mk ((Nat.le_trans HW0.out (yq139 : w.heap.size ≤ gb124) : w0.heap.size ≤ gb124))
        replace HK := Qz.mk (KeepBut.trans yq118 (KeepBut.of_below hb g none) (.inl rfl))
        have NB101_124 := Qz.mk ((yq134 : gb101 ≠ gb124))
        have NB124_101 := Qz.mk ((yq135 : gb124 ≠ gb101))
        replace BK101 := Qz.mk (qu (g := gb101) (o := .cells #[.slice none 0 0, .int .i64 0, .int .i64 0, .int .i64 0] 32 (0, 0)) yq119 hb)
        have NB104_124 := Qz.mk ((yq142 : gb104 ≠ gb124))
        have NB124_104 := Qz.mk ((yq144 : gb124 ≠ gb104))
        replace BK104 := Qz.mk (qu (g := gb104) (o := .cells #[.slice Ao15 x105000_1.length co15, .int .i64 x105001_1, .int .i64 x105002_1, .int .i64 x105003_1] 32 (0, 0)) yq121 hb)
        have NB0_124 := Qz.mk ((by rw [hg]; exact Nat.ne_of_lt (IsS123.lt (show IsS123 w0 _ g s0_0 t116 from by repeat (first | (with_reducible first | exact HI0.out | apply IsS123.alloc | apply IsS123.drewN | apply IsS123.drew | apply IsS123.set_1 | apply (fun h_ => IsS123.far h_ NB0_101.out _) | apply (fun h_ => IsS123.far h_ NB0_104.out _)) | exact HI0.out))) : g ≠ gb124))
        have NB124_0 := Qz.mk ((by rw [hg]; exact Nat.ne_of_gt (IsS123.lt (show IsS123 w0 _ g s0_0 t116 from by repeat (first | (with_reducible first | exact HI0.out | apply IsS123.alloc | apply IsS123.drewN | apply IsS123.drew | apply IsS123.set_1 | apply (fun h_ => IsS123.far h_ NB0_101.out _) | apply (fun h_ => IsS123.far h_ NB0_104.out _)) | exact HI0.out))) : gb124 ≠ g))
        replace HI0 := Qz.mk (IsS123.below yq123 hb)
        clear hb hbox hg
        obtain ⟨Ao19, co19, eo19⟩ := Kd.R_slice HO109.out
        (first | subst eo19 | (injection eo19 with f1_ f2_ f3_; have f4_ := f1_.symm; have f5_ := f3_.symm; clear f1_ f2_ f3_; subst f4_; subst f5_))
        obtain ⟨Ao20, co20, eo20⟩ := Kd.R_slice HO112.out
        (first | subst eo20 | (injection eo20 with f1_ f2_ f3_; have f4_ := f1_.symm; have f5_ := f3_.symm; clear f1_ f2_ f3_; subst f4_; subst f5_))
        refine hK.out _ _ ⟨(qg BK104.out 0).trans rfl, (qg BK104.out 1).trans rfl, (qg BK104.out 2).trans rfl, (qg BK104.out 3).trans rfl⟩ (fun hHeld => ?_)
        clear hK K
        refine norm_ (a' := ?_) ?_ ?_
        rotate_left
        ·show Act.put _ (some 5) _ = _
         simp only [Act.put, sq1, sq2, sq3, i64_w, i32_w]
         rfl
        refine one_ (i := 4) (N := some 22) bq15 rfl rfl (one_of HT_.out (by kernel_rfl)) (by decide) (fun K hK => ?_)
        refine goes_ Try.func17 (by kernel_rfl) rfl #[.agg #[.slice Ao15 x105000_1.length co15, .int .i64 x105001_1, .int .i64 x105002_1, .int .i64 x105003_1], .agg #[.slice Ao19 t107.length co19, .slice Ao20 t110.length co20, .int .i64 t113, .int .i64 t114, .int .i64 t115]] (by rfl) rfl rfl yq127 ?_
        with_reducible refine (spec_Apply.calls k1 _ _ x105000_1 x105001_1 x105002_1 x105003_1 _ _ t107 _ _ t110 t113 t114 t115 t117 t120 t121 t122 true _ ?side1 ?side2 ?side3 ?side4 ?side5 ?side6 A13.out).mono ?_
        (case side1 => exact yq131)
        (case side2 => exact (Kd.R_reads' HO_105000.out).2.1)
        (case side3 => exact yq133)
        (case side4 => exact (Kd.R_reads' HO109.out).2.1)
        (case side5 => exact yq132)
        (case side6 => exact (Kd.R_reads' HO112.out).2.1)
        rintro e w21 ⟨v118, rfl, ho0, hb⟩
        refine ⟨_, rfl, ?_⟩
        replace HO112 := Qz.mk (Kd.R_below yq128 hb)
        have HO119 := Qz.mk (Kd.R_lower (Kd.R_new' (Kd.R_new' ho0 (Kd.R_lt yq122)) (Kd.R_lt yq129)) (qi1 (w := w) (g := g) (row := none) yq120))
        replace HO_105000 := Qz.mk (Kd.R_elder' yq122 (Kd.R_base ho0) hb)
        replace HO109 := Qz.mk (Kd.R_elder' yq129 (Kd.R_base ho0) hb)
        replace BK101 := Qz.mk (qu (g := gb101) (o := .cells #[.slice none 0 0, .int .i64 0, .int .i64 0, .int .i64 0] 32 (0, 0)) yq119 hb)
        replace BK104 := Qz.mk (qu (g := gb104) (o := .cells #[.slice Ao15 x105000_1.length co15, .int .i64 x105001_1, .int .i64 x105002_1, .int .i64 x105003_1] 32 (0, 0)) yq121 hb)
        replace BK124 := Qz.mk (qu (g := gb124) (o := .cells #[.slice none 0 0, .int .i64 0, .int .i64 0, .int .i64 0] 32 (0, 0)) yq130 hb)
        replace HK := Qz.mk (KeepBut.trans yq120 (KeepBut.of_below hb g none) (.inl rfl))
        replace HB := Qz.mk (qq yq126 hb)
        replace HI0 := Qz.mk (IsS123.below yq124 hb)
        (try clear hb)
        (try clear hk)
        (try clear hi)
        (try clear ho0)
        refine hK.out _ _ ⟨(qg BK104.out 0).trans rfl, (qg BK104.out 1).trans rfl, (qg BK104.out 2).trans rfl, (qg BK104.out 3).trans rfl⟩ (fun hHeld => ?_)
        clear hK K
        refine norm_ (a' := ?_) ?_ ?_
        rotate_left
        ·show Act.put _ (some 22) _ = _
         simp only [Act.put, sq1, sq2, sq3, i64_w, i32_w]
         rfl
        refine pure_ (i := 5) (N := some 17) (v := ?_) (a' := ?_) bq18 rfl rfl (qg1 HT_.out (by kernel_rfl)) (fun _ _ _ h => h) (Or.inl ⟨by rfl, ?_⟩) ?_ ?_
        rotate_left
        ·intro w'
         go_simp
         with_reducible rfl
        rotate_left
        ·simp only [Act.put, sq1, sq2, sq3, i64_w, i32_w]
         rfl
        refine pure_ (i := 6) (N := some 23) (v := ?_) (a' := ?_) bq21 rfl rfl (qg1 HT_.out (by kernel_rfl)) (fun _ _ _ h => h) (Or.inl ⟨by rfl, ?_⟩) ?_ ?_
        rotate_left
        ·intro w'
         go_simp
         with_reducible rfl
        rotate_left
        ·simp only [Act.put, sq1, sq2, sq3, i64_w, i32_w]
         rfl
        refine pure_ (i := 7) (N := some 24) (v := ?_) (a' := ?_) bq25 rfl rfl (qg1 HT_.out (by kernel_rfl)) (fun _ _ _ h => h) (Or.inl ⟨by rfl, ?_⟩) ?_ ?_
        rotate_left
        ·intro w'
         go_simp
         with_reducible rfl
        rotate_left
        ·simp only [Act.put, sq1, sq2, sq3, i64_w, i32_w]
         rfl
        exact norm_ (by simp only [putAll, Act.put, sq1, sq2, sq3]) (hCont (.slice Ao19 t107.length co19, .slice Ao20 t110.length co20, v118, gb124) _ ⟨hHeld, yq138, yq128, yq137, yq136, yq119, yq121, yq130, GW124.out, GE124.out, NB0_124.out, NB124_0.out, NB101_124.out, NB124_101.out, NB104_124.out, NB124_104.out, yq124, yq120, yq126⟩)
      ·skip
       refine box_step ?hg (N := 5) ?hd (cs := #[.slice none 0 0, .int .i64 0, .int .i64 0, .int .i64 0]) (t := 32) ?hr ?_; (case hd => rfl); (case hg => rfl); (case hr => exact yq146)
       intro gb124 hg w17 hbox hb
       replace HO_105000 := Qz.mk (Kd.R_below yq122 hb)
       replace HB := Qz.mk (qq yq125 hb)
       have BK124 := Qz.mk (hbox)
       have GW124 := Qz.mk ((yq139 : w.heap.size ≤ gb124))
       have GE124 := Qz.mk ((Nat.le_trans HW0.out (yq139 : w.heap.size ≤ gb124) : w0.heap.size ≤ gb124))
       replace HK := Qz.mk (KeepBut.trans yq118 (KeepBut.of_below hb g none) (.inl rfl))
       have NB101_124 := Qz.mk ((yq134 : gb101 ≠ gb124))
       have NB124_101 := Qz.mk ((yq135 : gb124 ≠ gb101))
       replace BK101 := Qz.mk (qu (g := gb101) (o := .cells #[.slice none 0 0, .int .i64 0, .int .i64 0, .int .i64 0] 32 (0, 0)) yq119 hb)
       have NB104_124 := Qz.mk ((yq142 : gb104 ≠ gb124))
       have NB124_104 := Qz.mk ((yq144 : gb124 ≠ gb104))
       replace BK104 := Qz.mk (qu (g := gb104) (o := .cells #[.slice Ao15 x105000_1.length co15, .int .i64 x105001_1, .int .i64 x105002_1, .int .i64 x105003_1] 32 (0, 0)) yq121 hb)
       have NB0_124 := Qz.mk ((by rw [hg]; exact Nat.ne_of_lt (IsS123.lt (show IsS123 w0 _ g s0_0 x1001_1 from by repeat (first | (with_reducible first | exact HI0.out | apply IsS123.alloc | apply IsS123.drewN | apply IsS123.drew | apply IsS123.set_1 | apply (fun h_ => IsS123.far h_ NB0_101.out _) | apply (fun h_ => IsS123.far h_ NB0_104.out _)) | exact HI0.out))) : g ≠ gb124))
       have NB124_0 := Qz.mk ((by rw [hg]; exact Nat.ne_of_gt (IsS123.lt (show IsS123 w0 _ g s0_0 x1001_1 from by repeat (first | (with_reducible first | exact HI0.out | apply IsS123.alloc | apply IsS123.drewN | apply IsS123.drew | apply IsS123.set_1 | apply (fun h_ => IsS123.far h_ NB0_101.out _) | apply (fun h_ => IsS123.far h_ NB0_104.out _)) | exact HI0.out))) : gb124 ≠ g))
       replace HI0 := Qz.mk (IsS123.below yq123 hb)
       clear hb hbox hg
       refine hK.out _ _ ⟨(qg BK104.out 0).trans rfl, (qg BK104.out 1).trans rfl, (qg BK104.out 2).trans rfl, (qg BK104.out 3).trans rfl⟩ (fun hHeld => ?_)
       clear hK K
       refine norm_ (a' := ?_) ?_ ?_
       rotate_left
       ·show Act.put _ (some 5) _ = _
        simp only [Act.put, sq1, sq2, sq3, i64_w, i32_w]
        rfl
       refine one_ (i := 3) (N := some 21) bq12 rfl rfl (one_of HT_.out (by kernel_rfl)) (by decide) (fun K hK => ?_)
       refine goes_ Try.func88 (by kernel_rfl) rfl #[.pointer (some ⟨g, 0, none⟩), .agg #[.slice Ao15 x105000_1.length co15, .int .i64 x105001_1, .int .i64 x105002_1, .int .i64 x105003_1]] (by rfl) rfl rfl yq127 ?_
       with_reducible refine (spec_l1Rd_edit.calls k1 g s0_0 x1001_1 _ _ x105000_1 x105001_1 x105002_1 x105003_1 t107 t110 t113 t114 t115 t116 w0 _ ?side1 ?side2 ?side3 ?side4 A12.out).mono ?_
       (case side1 => exact yq124)
       (case side2 => exact yq126)
       (case side3 => exact Kd.C_foot_own (IsS123.apart (show IsS123 w0 _ g s0_0 x1001_1 from by repeat (first | (with_reducible first | exact HI0.out | apply IsS123.alloc | apply IsS123.drewN | apply IsS123.drew | apply IsS123.set_1 | apply (fun h_ => IsS123.far h_ NB0_101.out _) | apply (fun h_ => IsS123.far h_ NB0_104.out _) | apply (fun h_ => IsS123.far h_ NB0_124.out _)) | exact HI0.out)) yq122 (by decide)) (fun _ h_ => h_.2))
       (case side4 => exact (Kd.R_reads' HO_105000.out).2.1)
       rintro e w18 ⟨v108, v111, rfl, ho0, ho1, hi, hb, hk⟩
       refine ⟨_, rfl, ?_⟩
       replace BK101 := Qz.mk (KeepBut.blk hk (g' := gb101) (o := .cells #[.slice none 0 0, .int .i64 0, .int .i64 0, .int .i64 0] 32 (0, 0)) yq119 NB101_0.out (by simp))
       replace BK104 := Qz.mk (KeepBut.blk hk (g' := gb104) (o := .cells #[.slice Ao15 x105000_1.length co15, .int .i64 x105001_1, .int .i64 x105002_1, .int .i64 x105003_1] 32 (0, 0)) yq121 NB104_0.out (by simp))
       replace BK124 := Qz.mk (KeepBut.blk hk (g' := gb124) (o := .cells #[.slice none 0 0, .int .i64 0, .int .i64 0, .int .i64 0] 32 (0, 0)) yq130 NB124_0.out (by simp))
       have HO109 := Qz.mk (Kd.R_lower (Kd.R_new' ho0 (Kd.R_lt yq122)) (qi1 (w := w) (g := g) (row := none) yq120))
       replace HO_105000 := Qz.mk (Kd.R_mono (Kd.R_told (Kd.R_oldK (IsS123.apart (show IsS123 w0 _ g s0_0 x1001_1 from by repeat (first | (with_reducible first | exact HI0.out | apply IsS123.alloc | apply IsS123.drewN | apply IsS123.drew | apply IsS123.set_1 | apply (fun h_ => IsS123.far h_ NB0_101.out _) | apply (fun h_ => IsS123.far h_ NB0_104.out _) | apply (fun h_ => IsS123.far h_ NB0_124.out _)) | exact HI0.out)) yq122 (by decide)) hk) (Kd.R_base ho0)) (fun _ h_ => h_.1))
       have HO112 := Qz.mk (Kd.R_lower ho1 (qi1 (w := w) (g := g) (row := none) yq120))
       replace HK := Qz.mk (KeepBut.trans yq120 hk (.inl rfl))
       replace HB := Qz.mk (hb)
       replace HI0 := Qz.mk (hi)
       (try clear hb)
       (try clear hk)
       (try clear hi)
       (try clear ho0)
       (try clear ho1)
       obtain ⟨Ao19, co19, eo19⟩ := Kd.R_slice HO109.out
       (first | subst eo19 | (injection eo19 with f1_ f2_ f3_; have f4_ := f1_.symm; have f5_ := f3_.symm; clear f1_ f2_ f3_; subst f4_; subst f5_))
       obtain ⟨Ao20, co20, eo20⟩ := Kd.R_slice HO112.out
       (first | subst eo20 | (injection eo20 with f1_ f2_ f3_; have f4_ := f1_.symm; have f5_ := f3_.symm; clear f1_ f2_ f3_; subst f4_; subst f5_))
       refine hK.out _ _ ⟨(qg BK104.out 0).trans rfl, (qg BK104.out 1).trans rfl, (qg BK104.out 2).trans rfl, (qg BK104.out 3).trans rfl⟩ (fun hHeld => ?_)
       clear hK K
       refine norm_ (a' := ?_) ?_ ?_
       rotate_left
       ·show Act.put _ (some 21) _ = _
        simp only [Act.put, sq1, sq2, sq3, i64_w, i32_w]
        rfl
       refine one_ (i := 4) (N := some 22) bq15 rfl rfl (one_of HT_.out (by kernel_rfl)) (by decide) (fun K hK => ?_)
       refine goes_ Try.func17 (by kernel_rfl) rfl #[.agg #[.slice Ao15 x105000_1.length co15, .int .i64 x105001_1, .int .i64 x105002_1, .int .i64 x105003_1], .agg #[.slice Ao19 t107.length co19, .slice Ao20 t110.length co20, .int .i64 t113, .int .i64 t114, .int .i64 t115]] (by rfl) rfl rfl yq127 ?_
       with_reducible refine (spec_Apply.calls k1 _ _ x105000_1 x105001_1 x105002_1 x105003_1 _ _ t107 _ _ t110 t113 t114 t115 t117 t120 t121 t122 true _ ?side1 ?side2 ?side3 ?side4 ?side5 ?side6 A13.out).mono ?_
       (case side1 => exact yq131)
       (case side2 => exact (Kd.R_reads' HO_105000.out).2.1)
       (case side3 => exact yq133)
       (case side4 => exact (Kd.R_reads' HO109.out).2.1)
       (case side5 => exact yq132)
       (case side6 => exact (Kd.R_reads' HO112.out).2.1)
       rintro e w21 ⟨v118, rfl, ho0, hb⟩
       refine ⟨_, rfl, ?_⟩
       replace HO112 := Qz.mk (Kd.R_below yq128 hb)
       have HO119 := Qz.mk (Kd.R_lower (Kd.R_new' (Kd.R_new' ho0 (Kd.R_lt yq122)) (Kd.R_lt yq129)) (qi1 (w := w) (g := g) (row := none) yq120))
       replace HO_105000 := Qz.mk (Kd.R_elder' yq122 (Kd.R_base ho0) hb)
       replace HO109 := Qz.mk (Kd.R_elder' yq129 (Kd.R_base ho0) hb)
       replace BK101 := Qz.mk (qu (g := gb101) (o := .cells #[.slice none 0 0, .int .i64 0, .int .i64 0, .int .i64 0] 32 (0, 0)) yq119 hb)
       replace BK104 := Qz.mk (qu (g := gb104) (o := .cells #[.slice Ao15 x105000_1.length co15, .int .i64 x105001_1, .int .i64 x105002_1, .int .i64 x105003_1] 32 (0, 0)) yq121 hb)
       replace BK124 := Qz.mk (qu (g := gb124) (o := .cells #[.slice none 0 0, .int .i64 0, .int .i64 0, .int .i64 0] 32 (0, 0)) yq130 hb)
       replace HK := Qz.mk (KeepBut.trans yq120 (KeepBut.of_below hb g none) (.inl rfl))
       replace HB := Qz.mk (qq yq126 hb)
       replace HI0 := Qz.mk (IsS123.below yq124 hb)
       (try clear hb)
       (try clear hk)
       (try clear hi)
       (try clear ho0)
       refine hK.out _ _ ⟨(qg BK104.out 0).trans rfl, (qg BK104.out 1).trans rfl, (qg BK104.out 2).trans rfl, (qg BK104.out 3).trans rfl⟩ (fun hHeld => ?_)
       clear hK K
       refine norm_ (a' := ?_) ?_ ?_
       rotate_left
       ·show Act.put _ (some 22) _ = _
        simp only [Act.put, sq1, sq2, sq3, i64_w, i32_w]
        rfl
       refine pure_ (i := 5) (N := some 17) (v := ?_) (a' := ?_) bq18 rfl rfl (qg1 HT_.out (by kernel_rfl)) (fun _ _ _ h => h) (Or.inl ⟨by rfl, ?_⟩) ?_ ?_
       rotate_left
       ·intro w'
        go_simp
        with_reducible rfl
       rotate_left
       ·simp only [Act.put, sq1, sq2, sq3, i64_w, i32_w]
        rfl
       refine pure_ (i := 6) (N := some 23) (v := ?_) (a' := ?_) bq21 rfl rfl (qg1 HT_.out (by kernel_rfl)) (fun _ _ _ h => h) (Or.inl ⟨by rfl, ?_⟩) ?_ ?_
       rotate_left
       ·intro w'
        go_simp
        with_reducible rfl
       rotate_left
       ·simp only [Act.put, sq1, sq2, sq3, i64_w, i32_w]
        rfl
       refine pure_ (i := 7) (N := some 24) (v := ?_) (a' := ?_) bq25 rfl rfl (qg1 HT_.out (by kernel_rfl)) (fun _ _ _ h => h) (Or.inl ⟨by rfl, ?_⟩) ?_ ?_
       rotate_left
       ·intro w'
        go_simp
        with_reducible rfl
       rotate_left
       ·simp only [Act.put, sq1, sq2, sq3, i64_w, i32_w]
        rfl
       exact norm_ (by simp only [putAll, Act.put, sq1, sq2, sq3]) (hCont (.slice Ao19 t107.length co19, .slice Ao20 t110.length co20, v118, gb124) _ ⟨hHeld, yq138, yq128, yq137, yq136, yq119, yq121, yq130, GW124.out, GE124.out, NB0_124.out, NB124_0.out, NB101_124.out, NB124_101.out, NB104_124.out, NB124_104.out, yq124, yq120, yq126⟩)
     rintro ⟨v108, v111, v118, gb124⟩ w22 ⟨hS_, h0_, h1_, h2_, h3_, h4_, h5_, h6_, h7_, h8_, h9_, h10_, h11_, h12_, h13_, h14_, h15_, h16_, h17_⟩
     have n0_ : Qz (Kd.R k66 66 w22 w.heap.size (fun k_ => some k_ ≠ (v118 : Value).ownBlock ∧ some k_ ≠ (.slice Ao15 x105000_1.length co15 : Value).ownBlock) v108 t107) := ⟨h0_⟩
     have n1_ : Qz (Kd.R (Kd.int .i64) 2 w22 w.heap.size (fun _ => True) v111 t110) := ⟨h1_⟩
     have n2_ : Qz (Kd.R k66 66 w22 w.heap.size (fun k_ => some k_ ≠ (v108 : Value).ownBlock ∧ some k_ ≠ (.slice Ao15 x105000_1.length co15 : Value).ownBlock) v118 t117) := ⟨h2_⟩
     have n3_ : Qz (Kd.R k66 66 w22 w.heap.size (fun k_ => some k_ ≠ (v108 : Value).ownBlock ∧ some k_ ≠ (v118 : Value).ownBlock) (.slice Ao15 x105000_1.length co15) x105000_1) := ⟨h3_⟩
     have n4_ : Qz (w22.heap[gb101]? = some (.cells #[.slice none 0 0, .int .i64 0, .int .i64 0, .int .i64 0] 32 (0, 0))) := ⟨h4_⟩
     have n5_ : Qz (w22.heap[gb104]? = some (.cells #[.slice Ao15 x105000_1.length co15, .int .i64 x105001_1, .int .i64 x105002_1, .int .i64 x105003_1] 32 (0, 0))) := ⟨h5_⟩
     have n6_ : Qz (w22.heap[gb124]? = some (.cells #[.slice none 0 0, .int .i64 0, .int .i64 0, .int .i64 0] 32 (0, 0))) := ⟨h6_⟩
     have n7_ : Qz (w.heap.size ≤ gb124) := ⟨h7_⟩
     have n8_ : Qz (w0.heap.size ≤ gb124) := ⟨h8_⟩
     have n9_ : Qz (g ≠ gb124) := ⟨h9_⟩
     have n10_ : Qz (gb124 ≠ g) := ⟨h10_⟩
     have n11_ : Qz (gb101 ≠ gb124) := ⟨h11_⟩
     have n12_ : Qz (gb124 ≠ gb101) := ⟨h12_⟩
     have n13_ : Qz (gb104 ≠ gb124) := ⟨h13_⟩
     have n14_ : Qz (gb124 ≠ gb104) := ⟨h14_⟩
     have n15_ : Qz (IsS123 w0 w22 g s0_0 t116) := ⟨h15_⟩
     have n16_ : Qz (KeepBut w w22 g none) := ⟨h16_⟩
     have n17_ : Qz (Below w0.heap.size w0 w22) := ⟨h17_⟩
     clear HO_105000
     clear BK101
     clear BK104
     clear HI0
     clear HK
     clear HB
     clear h0_ h1_ h2_ h3_ h4_ h5_ h6_ h7_ h8_ h9_ h10_ h11_ h12_ h13_ h14_ h15_ h16_ h17_
     have HO109 := n0_
     have HO112 := n1_
     have HO119 := n2_
     have HO_105000 := n3_
     have BK101 := n4_
     have BK104 := n5_
     have BK124 := n6_
     have GW124 := n7_
     have GE124 := n8_
     have NB0_124 := n9_
     have NB124_0 := n10_
     have NB101_124 := n11_
     have NB124_101 := n12_
     have NB104_124 := n13_
     have NB124_104 := n14_
     have HI0 := n15_
     have HK := n16_
     have HB := n17_
     clear n0_ n1_ n2_ n3_ n4_ n5_ n6_ n7_ n8_ n9_ n10_ n11_ n12_ n13_ n14_ n15_ n16_ n17_
     have hHeld : w22.cell? ⟨gb104, 0, none⟩ = some (.slice Ao15 x105000_1.length co15) ∧ w22.cell? ⟨gb104, 1, none⟩ = some (.int .i64 x105001_1) ∧ w22.cell? ⟨gb104, 2, none⟩ = some (.int .i64 x105002_1) ∧ w22.cell? ⟨gb104, 3, none⟩ = some (.int .i64 x105003_1) := hS_
     obtain ⟨Ao23, co23, eo23⟩ := Kd.R_slice HO119.out
     (first | subst eo23 | (injection eo23 with f1_ f2_ f3_; have f4_ := f1_.symm; have f5_ := f3_.symm; clear f1_ f2_ f3_; subst f4_; subst f5_))
     refine norm_ (a' := ?_) ?_ ?_
     rotate_left
     ·simp only [putAll, Act.put, sq1, sq2, sq3]
      rfl
     refine one_ (i := 9) (N := none) bq27 rfl rfl (one_of HT_.out (by kernel_rfl)) (by decide) (fun K hK => ?_)
     have hs24 : w22.cell? ⟨gb124, 0, none⟩ = some (.slice none 0 0) := (qg BK124.out 0).trans rfl
     have hfs24 := qj BK124.out 0
     have hns24_0 := NB101_124.out
     have hns24_1 := NB104_124.out
     have hms24_0 := NB124_101.out
     have hms24_1 := NB124_104.out
     have hs25 : w22.cell? ⟨gb124, 1, none⟩ = some (.int .i64 0) := (qg BK124.out 1).trans rfl
     have hfs25 := qj BK124.out 1
     have hns25_0 := NB101_124.out
     have hns25_1 := NB104_124.out
     have hms25_0 := NB124_101.out
     have hms25_1 := NB124_104.out
     have hs26 : w22.cell? ⟨gb124, 2, none⟩ = some (.int .i64 0) := (qg BK124.out 2).trans rfl
     have hfs26 := qj BK124.out 2
     have hns26_0 := NB101_124.out
     have hns26_1 := NB104_124.out
     have hms26_0 := NB124_101.out
     have hms26_1 := NB124_104.out
     have hs27 : w22.cell? ⟨gb124, 3, none⟩ = some (.int .i64 0) := (qg BK124.out 3).trans rfl
     have hfs27 := qj BK124.out 3
     have hns27_0 := NB101_124.out
     have hns27_1 := NB104_124.out
     have hms27_0 := NB124_101.out
     have hms27_1 := NB124_104.out
     refine skip_ (w1 := ?_) (by rfl) rfl ?_ ?_
     rotate_left
     ·go_simp
      rfl
     refine hK.out _ _ ⟨((cell_far (p := ⟨gb124, _, none⟩) NB104_124.out _).trans (((cell_far (p := ⟨gb124, _, none⟩) NB104_124.out _).trans (((cell_far (p := ⟨gb124, _, none⟩) NB104_124.out _).trans (((cell_far (p := ⟨gb124, _, none⟩) NB104_124.out _).trans (hHeld.1)))))))), ((cell_far (p := ⟨gb124, _, none⟩) NB104_124.out _).trans (((cell_far (p := ⟨gb124, _, none⟩) NB104_124.out _).trans (((cell_far (p := ⟨gb124, _, none⟩) NB104_124.out _).trans (((cell_far (p := ⟨gb124, _, none⟩) NB104_124.out _).trans (hHeld.2.1)))))))), ((cell_far (p := ⟨gb124, _, none⟩) NB104_124.out _).trans (((cell_far (p := ⟨gb124, _, none⟩) NB104_124.out _).trans (((cell_far (p := ⟨gb124, _, none⟩) NB104_124.out _).trans (((cell_far (p := ⟨gb124, _, none⟩) NB104_124.out _).trans (hHeld.2.2.1)))))))), ((cell_far (p := ⟨gb124, _, none⟩) NB104_124.out _).trans (((cell_far (p := ⟨gb124, _, none⟩) NB104_124.out _).trans (((cell_far (p := ⟨gb124, _, none⟩) NB104_124.out _).trans (((cell_far (p := ⟨gb124, _, none⟩) NB104_124.out _).trans (hHeld.2.2.2))))))))⟩ (fun hHeld => ?_)
     clear hK K
     refine pure_ (i := 10) (N := some 6) (v := ?_) (a' := ?_) bq34 rfl rfl (qg1 HT_.out (by kernel_rfl)) (fun _ _ _ h => h) (Or.inl ⟨by rfl, ?_⟩) ?_ ?_
     rotate_left
     ·intro w'
      go_simp
      with_reducible rfl
     rotate_left
     ·simp only [Act.put, sq1, sq2, sq3, i64_w, i32_w]
      rfl
     refine done_ (done_of HT_.out (by kernel_rfl)) ?_
     have hnb28 := NB124_101.out
     have hnc28 := NB101_124.out
     have hnb29 := NB124_104.out
     have hnc29 := NB104_124.out
     have hnb30 := NB124_0.out
     have hnc30 := NB0_124.out
     have hcz31_0 := (qg BK124.out 0).trans rfl
     have hcz31_1 := (qg BK124.out 1).trans rfl
     have hcz31_2 := (qg BK124.out 2).trans rfl
     have hcz31_3 := (qg BK124.out 3).trans rfl
     have hfz31_0 := qj BK124.out 0
     have hfz31_1 := qj BK124.out 1
     have hfz31_2 := qj BK124.out 2
     have hfz31_3 := qj BK124.out 3
     have hnb32 := NB104_101.out
     have hnc32 := NB101_104.out
     have hnb33 := NB104_0.out
     have hnc33 := NB0_104.out
     have hcz34_0 := (qg BK104.out 0).trans rfl
     have hcz34_1 := (qg BK104.out 1).trans rfl
     have hcz34_2 := (qg BK104.out 2).trans rfl
     have hcz34_3 := (qg BK104.out 3).trans rfl
     have hfz34_0 := qj BK104.out 0
     have hfz34_1 := qj BK104.out 1
     have hfz34_2 := qj BK104.out 2
     have hfz34_3 := qj BK104.out 3
     try go_wp2
     go_roundg k1
     case measure => have := HK1.out; omega
     case rel => exact ⟨(wrap64 (x4_1 - 1)), (t116), (t117), (t120), (t121), (t122), (.slice Ao23 t117.length co23), (by first | rfl | (simp; done) | (simp [*]; done)), H', ⟨by have := HK1.out; omega⟩, ⟨by (with_reducible repeat (first | apply Kd.R_alloc | apply Kd.R_drewN | apply Kd.R_drew)); exact Kd.R_mono (Kd.R_far (p := ⟨gb104, 3, none⟩) (Kd.R_far (p := ⟨gb104, 2, none⟩) (Kd.R_far (p := ⟨gb104, 1, none⟩) (Kd.R_far (p := ⟨gb104, 0, none⟩) (Kd.R_far (p := ⟨gb124, 3, none⟩) (Kd.R_far (p := ⟨gb124, 2, none⟩) (Kd.R_far (p := ⟨gb124, 1, none⟩) (Kd.R_far (p := ⟨gb124, 0, none⟩) (Kd.R_types (Kd.R_types HO119.out BK124.out (by decide)) BK104.out (by decide)) (fun _ hk => hk.1.2) (.slice Ao23 t117.length co23)) (fun _ hk => hk.1.2) (.int .i64 t120)) (fun _ hk => hk.1.2) (.int .i64 t121)) (fun _ hk => hk.1.2) (.int .i64 t122)) (fun _ hk => hk.2) (.slice Ao23 t117.length co23)) (fun _ hk => hk.2) (.int .i64 t120)) (fun _ hk => hk.2) (.int .i64 t121)) (fun _ hk => hk.2) (.int .i64 t122)) (fun _ hk => trivial)⟩, ⟨by (with_reducible repeat (first | refine qc ?_ _ | refine qf ?_ | refine qa ?_ _)); refine qx ?_ NB101_104.out _; (with_reducible repeat (first | refine qc ?_ _ | refine qf ?_ | refine qa ?_ _)); refine qx ?_ NB101_104.out _; (with_reducible repeat (first | refine qc ?_ _ | refine qf ?_ | refine qa ?_ _)); refine qx ?_ NB101_104.out _; (with_reducible repeat (first | refine qc ?_ _ | refine qf ?_ | refine qa ?_ _)); refine qx ?_ NB101_104.out _; (with_reducible repeat (first | refine qc ?_ _ | refine qf ?_ | refine qa ?_ _)); refine qx ?_ NB101_124.out _; (with_reducible repeat (first | refine qc ?_ _ | refine qf ?_ | refine qa ?_ _)); refine qx ?_ NB101_124.out _; (with_reducible repeat (first | refine qc ?_ _ | refine qf ?_ | refine qa ?_ _)); refine qx ?_ NB101_124.out _; (with_reducible repeat (first | refine qc ?_ _ | refine qf ?_ | refine qa ?_ _)); refine qx ?_ NB101_124.out _; (with_reducible repeat (first | refine qc ?_ _ | refine qf ?_ | refine qa ?_ _)); exact BK101.out⟩, ⟨by (with_reducible repeat (first | refine qc ?_ _ | refine qf ?_ | refine qa ?_ _)); refine qw (cs := #[.slice Ao23 t117.length co23, .int .i64 t120, .int .i64 t121, .int .i64 x105003_1]) ?_ 3 _ rfl; (with_reducible repeat (first | refine qc ?_ _ | refine qf ?_ | refine qa ?_ _)); refine qw (cs := #[.slice Ao23 t117.length co23, .int .i64 t120, .int .i64 x105002_1, .int .i64 x105003_1]) ?_ 2 _ rfl; (with_reducible repeat (first | refine qc ?_ _ | refine qf ?_ | refine qa ?_ _)); refine qw (cs := #[.slice Ao23 t117.length co23, .int .i64 x105001_1, .int .i64 x105002_1, .int .i64 x105003_1]) ?_ 1 _ rfl; (with_reducible repeat (first | refine qc ?_ _ | refine qf ?_ | refine qa ?_ _)); refine qw (cs := #[.slice Ao15 x105000_1.length co15, .int .i64 x105001_1, .int .i64 x105002_1, .int .i64 x105003_1]) ?_ 0 _ rfl; (with_reducible repeat (first | refine qc ?_ _ | refine qf ?_ | refine qa ?_ _)); refine qx ?_ NB104_124.out _; (with_reducible repeat (first | refine qc ?_ _ | refine qf ?_ | refine qa ?_ _)); refine qx ?_ NB104_124.out _; (with_reducible repeat (first | refine qc ?_ _ | refine qf ?_ | refine qa ?_ _)); refine qx ?_ NB104_124.out _; (with_reducible repeat (first | refine qc ?_ _ | refine qf ?_ | refine qa ?_ _)); refine qx ?_ NB104_124.out _; (with_reducible repeat (first | refine qc ?_ _ | refine qf ?_ | refine qa ?_ _)); exact BK104.out⟩, ⟨by repeat (first | (with_reducible first | exact HI0.out | apply IsS123.alloc | apply IsS123.drewN | apply IsS123.drew | apply IsS123.set_1 | apply (fun h_ => IsS123.far h_ NB0_101.out _) | apply (fun h_ => IsS123.far h_ NB0_104.out _) | apply (fun h_ => IsS123.far h_ NB0_124.out _)) | exact HI0.out)⟩, ⟨by repeat (first | (with_reducible first | exact HK.out | apply KeepBut.set_ | apply qn | apply qp | apply qo | refine qk ?_ GW101.out _ | refine qk ?_ GW104.out _ | refine qk ?_ GW124.out _) | exact HK.out)⟩, ⟨by repeat (first | (with_reducible first | exact HB.out | apply qi | apply qd | apply qh | refine qe ?_ (IsS123.ge HI0.out) | refine qe ?_ GE101.out | refine qe ?_ GE104.out | refine qe ?_ GE124.out) | exact HB.out)⟩⟩
    ·replace c14 := Bool.eq_false_iff.mpr c14
     subst c14
     have H1 : (spec_l1Rd_version.l0 k1 (wrap64 (x4_1 - 1)) s0_0 t116 x105000_1 x105001_1 x105002_1 x105003_1) = some (r1, r2, r3, r4, r5) := by rw [if_neg (show ¬ (false = true) by decide)] at H; exact H
     clear H
     have H := H1
     clear H1
     have H' := Qz.mk H
     clear H
     obtain ⟨Ao35, co35, eo35⟩ := Kd.R_slice HO_105000.out
     subst eo35
     try go_wp2
     replace HO_105000 := Qz.mk (Kd.R_drew HO_105000.out)
     replace BK101 := Qz.mk (qf BK101.out)
     replace BK104 := Qz.mk (qf BK104.out)
     replace HI0 := Qz.mk (IsS123.drew HI0.out)
     replace HK := Qz.mk (qp HK.out)
     replace HB := Qz.mk (qh HB.out)
     refine start_ (n := 11) (S := fun w' => w'.cell? ⟨gb104, 0, none⟩ = some (.slice Ao35 x105000_1.length co35) ∧ w'.cell? ⟨gb104, 1, none⟩ = some (.int .i64 x105001_1) ∧ w'.cell? ⟨gb104, 2, none⟩ = some (.int .i64 x105002_1) ∧ w'.cell? ⟨gb104, 3, none⟩ = some (.int .i64 x105003_1)) (ds := []) bq1 (by kernel_rfl) rfl rfl ⟨(qg BK104.out 0).trans rfl, (qg BK104.out 1).trans rfl, (qg BK104.out 2).trans rfl, (qg BK104.out 3).trans rfl⟩ (fun hHeld => ?_); refine with_tabW spec_l1Rd_version.tab5 spec_l1Rd_version.bits5 (fun HT_ HW_ => ?_)
     generalize wr.drew = w36 at HO_105000 BK101 BK104 HI0 HK HB hHeld ⊢
     refine pure_ (i := 1) (N := some 19) (v := ?_) (a' := ?_) bq3 rfl rfl (qg1 HT_.out (by kernel_rfl)) (fun _ _ _ h => h) (Or.inl ⟨by rfl, ?_⟩) ?_ ?_
     rotate_left
     ·intro w'
      go_simp
      with_reducible rfl
     rotate_left
     ·simp only [Act.put, sq1, sq2, sq3, i64_w, i32_w]
      rfl
     refine take_ (i := 0) (N := some 18) (v := ?_) (a' := ?_) bq7 rfl rfl (take_ofW HT_.out HW_.out (by kernel_rfl)) (fun _ _ _ h => h) (Or.inl ⟨by rfl, ?_⟩) hHeld ?_ ?_
     rotate_left
     ·rintro w' ⟨s0, s1, s2, s3⟩
      go_simp
      with_reducible rfl
     rotate_left
     ·simp only [Act.put, sq1, sq2, sq3, i64_w, i32_w]
      rfl
     refine take_ (i := 2) (N := some 20) (v := ?_) (a' := ?_) bq8 rfl rfl (take_ofW HT_.out HW_.out (by kernel_rfl)) (fun _ _ _ h => h) (Or.inl ⟨by rfl, ?_⟩) hHeld ?_ ?_
     rotate_left
     ·rintro w' ⟨s0, s1, s2, s3⟩
      go_simp
      with_reducible rfl
     rotate_left
     ·simp only [Act.put, sq1, sq2, sq3, i64_w, i32_w]
      rfl
     refine join_ (σ := Value × Value × Value × Nat) 2 bq25 (fun s_ => [(21, .agg #[s_.1, s_.2.1, .int .i64 t113, .int .i64 t114, .int .i64 t115]), (22, .tuple #[.agg #[s_.2.2.1, .int .i64 t120, .int .i64 t121, .int .i64 t122], .bool false]), (5, .pointer (some ⟨s_.2.2.2, 0, none⟩)), (17, .tuple #[.agg #[s_.2.2.1, .int .i64 t120, .int .i64 t121, .int .i64 t122], .bool false]), (23, .agg #[s_.2.2.1, .int .i64 t120, .int .i64 t121, .int .i64 t122]), (24, .bool false)]) (fun s_ w' => (w'.cell? ⟨gb104, 0, none⟩ = some (.slice Ao35 x105000_1.length co35) ∧ w'.cell? ⟨gb104, 1, none⟩ = some (.int .i64 x105001_1) ∧ w'.cell? ⟨gb104, 2, none⟩ = some (.int .i64 x105002_1) ∧ w'.cell? ⟨gb104, 3, none⟩ = some (.int .i64 x105003_1)) ∧ (Kd.R k66 66 w' w.heap.size (fun k_ => some k_ ≠ (s_.2.2.1 : Value).ownBlock ∧ some k_ ≠ (.slice Ao35 x105000_1.length co35 : Value).ownBlock) s_.1 t107) ∧ (Kd.R (Kd.int .i64) 2 w' w.heap.size (fun _ => True) s_.2.1 t110) ∧ (Kd.R k66 66 w' w.heap.size (fun k_ => some k_ ≠ (s_.1 : Value).ownBlock ∧ some k_ ≠ (.slice Ao35 x105000_1.length co35 : Value).ownBlock) s_.2.2.1 t117) ∧ (Kd.R k66 66 w' w.heap.size (fun k_ => some k_ ≠ (s_.1 : Value).ownBlock ∧ some k_ ≠ (s_.2.2.1 : Value).ownBlock) (.slice Ao35 x105000_1.length co35) x105000_1) ∧ (w'.heap[gb101]? = some (.cells #[.slice none 0 0, .int .i64 0, .int .i64 0, .int .i64 0] 32 (0, 0))) ∧ (w'.heap[gb104]? = some (.cells #[.slice Ao35 x105000_1.length co35, .int .i64 x105001_1, .int .i64 x105002_1, .int .i64 x105003_1] 32 (0, 0))) ∧ (w'.heap[s_.2.2.2]? = some (.cells #[.slice none 0 0, .int .i64 0, .int .i64 0, .int .i64 0] 32 (0, 0))) ∧ (w.heap.size ≤ s_.2.2.2) ∧ (w0.heap.size ≤ s_.2.2.2) ∧ (g ≠ s_.2.2.2) ∧ (s_.2.2.2 ≠ g) ∧ (gb101 ≠ s_.2.2.2) ∧ (s_.2.2.2 ≠ gb101) ∧ (gb104 ≠ s_.2.2.2) ∧ (s_.2.2.2 ≠ gb104) ∧ (IsS123 w0 w' g s0_0 t116) ∧ (KeepBut w w' g none) ∧ (Below w0.heap.size w0 w')) ?_ ?_
     rotate_left
     ·intro hCont
      refine two_ (i := 3) (j := 8) (Ni := some 21) (Nj := some 5) bq11 bq9 rfl rfl rfl rfl (two_of HT_.out (by kernel_rfl)) (by decide) (by decide) (fun K hK => ?_) (fun K hK => ?_)
      ·skip
       refine goes_ Try.func88 (by kernel_rfl) rfl #[.pointer (some ⟨g, 0, none⟩), .agg #[.slice Ao35 x105000_1.length co35, .int .i64 x105001_1, .int .i64 x105002_1, .int .i64 x105003_1]] (by rfl) rfl rfl yq127 ?_
       with_reducible refine (spec_l1Rd_edit.calls k1 g s0_0 x1001_1 _ _ x105000_1 x105001_1 x105002_1 x105003_1 t107 t110 t113 t114 t115 t116 w0 _ ?side1 ?side2 ?side3 ?side4 A12.out).mono ?_
       (case side1 => exact yq123)
       (case side2 => exact yq125)
       (case side3 => exact Kd.C_foot_own (IsS123.apart (show IsS123 w0 _ g s0_0 x1001_1 from by repeat (first | (with_reducible first | exact HI0.out | apply IsS123.alloc | apply IsS123.drewN | apply IsS123.drew | apply IsS123.set_1 | apply (fun h_ => IsS123.far h_ NB0_101.out _) | apply (fun h_ => IsS123.far h_ NB0_104.out _)) | exact HI0.out)) yq122 (by decide)) (fun _ h_ => h_.2))
       (case side4 => exact (Kd.R_reads' HO_105000.out).2.1)
       rintro e w37 ⟨v108, v111, rfl, ho0, ho1, hi, hb, hk⟩
       refine ⟨_, rfl, ?_⟩
       replace BK101 := Qz.mk (KeepBut.blk hk (g' := gb101) (o := .cells #[.slice none 0 0, .int .i64 0, .int .i64 0, .int .i64 0] 32 (0, 0)) yq119 NB101_0.out (by simp))
       replace BK104 := Qz.mk (KeepBut.blk hk (g' := gb104) (o := .cells #[.slice Ao35 x105000_1.length co35, .int .i64 x105001_1, .int .i64 x105002_1, .int .i64 x105003_1] 32 (0, 0)) yq121 NB104_0.out (by simp))
       have HO109 := Qz.mk (Kd.R_lower (Kd.R_new' ho0 (Kd.R_lt yq122)) (qi1 (w := w) (g := g) (row := none) yq118))
       replace HO_105000 := Qz.mk (Kd.R_mono (Kd.R_told (Kd.R_oldK (IsS123.apart (show IsS123 w0 _ g s0_0 x1001_1 from by repeat (first | (with_reducible first | exact HI0.out | apply IsS123.alloc | apply IsS123.drewN | apply IsS123.drew | apply IsS123.set_1 | apply (fun h_ => IsS123.far h_ NB0_101.out _) | apply (fun h_ => IsS123.far h_ NB0_104.out _)) | exact HI0.out)) yq122 (by decide)) hk) (Kd.R_base ho0)) (fun _ h_ => h_.1))
       have HO112 := Qz.mk (Kd.R_lower ho1 (qi1 (w := w) (g := g) (row := none) yq118))
       replace HK := Qz.mk (KeepBut.trans yq118 hk (.inl rfl))
       replace HB := Qz.mk (hb)
       replace HI0 := Qz.mk (hi)
       (try clear hb)
       (try clear hk)
       (try clear hi)
       (try clear ho0)
       (try clear ho1)
       obtain ⟨Ao38, co38, eo38⟩ := Kd.R_slice HO109.out
       (first | subst eo38 | (injection eo38 with f1_ f2_ f3_; have f4_ := f1_.symm; have f5_ := f3_.symm; clear f1_ f2_ f3_; subst f4_; subst f5_))
       obtain ⟨Ao39, co39, eo39⟩ := Kd.R_slice HO112.out
       (first | subst eo39 | (injection eo39 with f1_ f2_ f3_; have f4_ := f1_.symm; have f5_ := f3_.symm; clear f1_ f2_ f3_; subst f4_; subst f5_))
       refine hK.out _ _ ⟨(qg BK104.out 0).trans rfl, (qg BK104.out 1).trans rfl, (qg BK104.out 2).trans rfl, (qg BK104.out 3).trans rfl⟩ (fun hHeld => ?_)
       clear hK K
       refine norm_ (a' := ?_) ?_ ?_
       rotate_left
       ·show Act.put _ (some 21) _ = _
        simp only [Act.put, sq1, sq2, sq3, i64_w, i32_w]
        rfl
       refine two_ (i := 4) (j := 8) (Ni := some 22) (Nj := some 5) bq14 bq12 rfl rfl rfl rfl (two_of HT_.out (by kernel_rfl)) (by decide) (by decide) (fun K hK => ?_) (fun K hK => ?_)
       ·skip
        refine goes_ Try.func17 (by kernel_rfl) rfl #[.agg #[.slice Ao35 x105000_1.length co35, .int .i64 x105001_1, .int .i64 x105002_1, .int .i64 x105003_1], .agg #[.slice Ao38 t107.length co38, .slice Ao39 t110.length co39, .int .i64 t113, .int .i64 t114, .int .i64 t115]] (by rfl) rfl rfl yq127 ?_
        with_reducible refine (spec_Apply.calls k1 _ _ x105000_1 x105001_1 x105002_1 x105003_1 _ _ t107 _ _ t110 t113 t114 t115 t117 t120 t121 t122 false _ ?side1 ?side2 ?side3 ?side4 ?side5 ?side6 A13.out).mono ?_
        (case side1 => exact yq131)
        (case side2 => exact (Kd.R_reads' HO_105000.out).2.1)
        (case side3 => exact yq133)
        (case side4 => exact (Kd.R_reads' HO109.out).2.1)
        (case side5 => exact yq132)
        (case side6 => exact (Kd.R_reads' HO112.out).2.1)
        rintro e w40 ⟨v118, rfl, ho0, hb⟩
        refine ⟨_, rfl, ?_⟩
        replace HO112 := Qz.mk (Kd.R_below yq128 hb)
        have HO119 := Qz.mk (Kd.R_lower (Kd.R_new' (Kd.R_new' ho0 (Kd.R_lt yq122)) (Kd.R_lt yq129)) (qi1 (w := w) (g := g) (row := none) yq118))
        replace HO_105000 := Qz.mk (Kd.R_elder' yq122 (Kd.R_base ho0) hb)
        replace HO109 := Qz.mk (Kd.R_elder' yq129 (Kd.R_base ho0) hb)
        replace BK101 := Qz.mk (qu (g := gb101) (o := .cells #[.slice none 0 0, .int .i64 0, .int .i64 0, .int .i64 0] 32 (0, 0)) yq119 hb)
        replace BK104 := Qz.mk (qu (g := gb104) (o := .cells #[.slice Ao35 x105000_1.length co35, .int .i64 x105001_1, .int .i64 x105002_1, .int .i64 x105003_1] 32 (0, 0)) yq121 hb)
        replace HK := Qz.mk (KeepBut.trans yq118 (KeepBut.of_below hb g none) (.inl rfl))
        replace HB := Qz.mk (qq yq125 hb)
        replace HI0 := Qz.mk (IsS123.below yq123 hb)
        (try clear hb)
        (try clear hk)
        (try clear hi)
        (try clear ho0)
        refine hK.out _ _ ⟨(qg BK104.out 0).trans rfl, (qg BK104.out 1).trans rfl, (qg BK104.out 2).trans rfl, (qg BK104.out 3).trans rfl⟩ (fun hHeld => ?_)
        clear hK K
        refine norm_ (a' := ?_) ?_ ?_
        rotate_left
        ·show Act.put _ (some 22) _ = _
         simp only [Act.put, sq1, sq2, sq3, i64_w, i32_w]
         rfl
        refine pure_ (i := 5) (N := some 17) (v := ?_) (a' := ?_) bq17 rfl rfl (qg1 HT_.out (by kernel_rfl)) (fun _ _ _ h => h) (Or.inl ⟨by rfl, ?_⟩) ?_ ?_
        rotate_left
        ·intro w'
         go_simp
         with_reducible rfl
        rotate_left
        ·simp only [Act.put, sq1, sq2, sq3, i64_w, i32_w]
         rfl
        refine pure_ (i := 6) (N := some 23) (v := ?_) (a' := ?_) bq20 rfl rfl (qg1 HT_.out (by kernel_rfl)) (fun _ _ _ h => h) (Or.inl ⟨by rfl, ?_⟩) ?_ ?_
        rotate_left
        ·intro w'
         go_simp
         with_reducible rfl
        rotate_left
        ·simp only [Act.put, sq1, sq2, sq3, i64_w, i32_w]
         rfl
        refine pure_ (i := 7) (N := some 24) (v := ?_) (a' := ?_) bq23 rfl rfl (qg1 HT_.out (by kernel_rfl)) (fun _ _ _ h => h) (Or.inl ⟨by rfl, ?_⟩) ?_ ?_
        rotate_left
        ·intro w'
         go_simp
         with_reducible rfl
        rotate_left
        ·simp only [Act.put, sq1, sq2, sq3, i64_w, i32_w]
         rfl
        refine one_ (i := 8) (N := some 5) bq25 rfl rfl (one_of HT_.out (by kernel_rfl)) (by decide) (fun K hK => ?_)
        refine box_step ?hg (N := 5) ?hd (cs := #[.slice none 0 0, .int .i64 0, .int .i64 0, .int .i64 0]) (t := 32) ?hr ?_; (case hd => rfl); (case hg => rfl); (case hr => exact yq146)
        intro gb124 hg w41 hbox hb
        replace HO_105000 := Qz.mk (Kd.R_below yq122 hb)
        replace HO109 := Qz.mk (Kd.R_below yq129 hb)
        replace HO112 := Qz.mk (Kd.R_below yq128 hb)
        replace HO119 := Qz.mk (Kd.R_below (by (with_reducible repeat (first | apply Kd.R_alloc | apply Kd.R_drewN | apply Kd.R_drew)); exact HO119.out) hb)
        replace HB := Qz.mk (qq yq125 hb)
        have BK124 := Qz.mk (hbox)
        have GW124 := Qz.mk ((yq139 : w.heap.size ≤ gb124))
        have GE124 := Qz.mk ((Nat.le_trans HW0.out (yq139 : w.heap.size ≤ gb124) : w0.heap.size ≤ gb124))
        replace HK := Qz.mk (KeepBut.trans yq118 (KeepBut.of_below hb g none) (.inl rfl))
        have NB101_124 := Qz.mk ((yq134 : gb101 ≠ gb124))
        have NB124_101 := Qz.mk ((yq135 : gb124 ≠ gb101))
        replace BK101 := Qz.mk (qu (g := gb101) (o := .cells #[.slice none 0 0, .int .i64 0, .int .i64 0, .int .i64 0] 32 (0, 0)) yq119 hb)
        have NB104_124 := Qz.mk ((yq141 : gb104 ≠ gb124))
        have NB124_104 := Qz.mk ((yq143 : gb124 ≠ gb104))
        replace BK104 := Qz.mk (qu (g := gb104) (o := .cells #[.slice Ao35 x105000_1.length co35, .int .i64 x105001_1, .int .i64 x105002_1, .int .i64 x105003_1] 32 (0, 0)) yq121 hb)
        have NB0_124 := Qz.mk ((by rw [hg]; exact Nat.ne_of_lt (IsS123.lt (show IsS123 w0 _ g s0_0 t116 from by repeat (first | (with_reducible first | exact HI0.out | apply IsS123.alloc | apply IsS123.drewN | apply IsS123.drew | apply IsS123.set_1 | apply (fun h_ => IsS123.far h_ NB0_101.out _) | apply (fun h_ => IsS123.far h_ NB0_104.out _)) | exact HI0.out))) : g ≠ gb124))
        have NB124_0 := Qz.mk ((by rw [hg]; exact Nat.ne_of_gt (IsS123.lt (show IsS123 w0 _ g s0_0 t116 from by repeat (first | (with_reducible first | exact HI0.out | apply IsS123.alloc | apply IsS123.drewN | apply IsS123.drew | apply IsS123.set_1 | apply (fun h_ => IsS123.far h_ NB0_101.out _) | apply (fun h_ => IsS123.far h_ NB0_104.out _)) | exact HI0.out))) : gb124 ≠ g))
        replace HI0 := Qz.mk (IsS123.below yq123 hb)
        clear hb hbox hg
        refine hK.out _ _ ⟨(qg BK104.out 0).trans rfl, (qg BK104.out 1).trans rfl, (qg BK104.out 2).trans rfl, (qg BK104.out 3).trans rfl⟩ (fun hHeld => ?_)
        clear hK K
        refine norm_ (a' := ?_) ?_ ?_
        rotate_left
        ·show Act.put _ (some 5) _ = _
         simp only [Act.put, sq1, sq2, sq3, i64_w, i32_w]
         rfl
        exact norm_ (by simp only [putAll, Act.put, sq1, sq2, sq3]) (hCont (.slice Ao38 t107.length co38, .slice Ao39 t110.length co39, v118, gb124) _ ⟨hHeld, yq138, yq128, yq137, yq136, yq119, yq121, yq130, GW124.out, GE124.out, NB0_124.out, NB124_0.out, NB101_124.out, NB124_101.out, NB104_124.out, NB124_104.out, yq124, yq120, yq126⟩)
       ·skip
        refine box_step ?hg (N := 5) ?hd (cs := #[.slice none 0 0, .int .i64 0, .int .i64 0, .int .i64 0]) (t := 32) ?hr ?_; (case hd => rfl); (case hg => rfl); (case hr => exact yq146)
        intro gb124 hg w38 hbox hb
        replace HO_105000 := Qz.mk (Kd.R_below yq122 hb)
        replace HO109 := Qz.mk (Kd.R_below yq129 hb)
        replace HO112 := Qz.mk (Kd.R_below yq128 hb)
        replace HB := Qz.mk (qq yq125 hb)
        have BK124 := Qz.mk (hbox)
        have GW124 := Qz.mk ((yq139 : w.heap.size ≤ gb124))
        have GE124 := Qz.mk ((Nat.le_trans HW0.out (yq139 : w.heap.size ≤ gb124) : w0.heap.size ≤ gb124))
        replace HK := Qz.mk (KeepBut.trans yq118 (KeepBut.of_below hb g none) (.inl rfl))
        have NB101_124 := Qz.mk ((yq134 : gb101 ≠ gb124))
        have NB124_101 := Qz.mk ((yq135 : gb124 ≠ gb101))
        replace BK101 := Qz.mk (qu (g := gb101) (o := .cells #[.slice none 0 0, .int .i64 0, .int .i64 0, .int .i64 0] 32 (0, 0)) yq119 hb)
        have NB104_124 := Qz.mk ((yq141 : gb104 ≠ gb124))
        have NB124_104 := Qz.mk ((yq143 : gb124 ≠ gb104))
        replace BK104 := Qz.mk (qu (g := gb104) (o := .cells #[.slice Ao35 x105000_1.length co35, .int .i64 x105001_1, .int .i64 x105002_1, .int .i64 x105003_1] 32 (0, 0)) yq121 hb)
        have NB0_124 := Qz.mk ((by rw [hg]; exact Nat.ne_of_lt (IsS123.lt (show IsS123 w0 _ g s0_0 t116 from by repeat (first | (with_reducible first | exact HI0.out | apply IsS123.alloc | apply IsS123.drewN | apply IsS123.drew | apply IsS123.set_1 | apply (fun h_ => IsS123.far h_ NB0_101.out _) | apply (fun h_ => IsS123.far h_ NB0_104.out _)) | exact HI0.out))) : g ≠ gb124))
        have NB124_0 := Qz.mk ((by rw [hg]; exact Nat.ne_of_gt (IsS123.lt (show IsS123 w0 _ g s0_0 t116 from by repeat (first | (with_reducible first | exact HI0.out | apply IsS123.alloc | apply IsS123.drewN | apply IsS123.drew | apply IsS123.set_1 | apply (fun h_ => IsS123.far h_ NB0_101.out _) | apply (fun h_ => IsS123.far h_ NB0_104.out _)) | exact HI0.out))) : gb124 ≠ g))
        replace HI0 := Qz.mk (IsS123.below yq123 hb)
        clear hb hbox hg
        obtain ⟨Ao39, co39, eo39⟩ := Kd.R_slice HO109.out
        (first | subst eo39 | (injection eo39 with f1_ f2_ f3_; have f4_ := f1_.symm; have f5_ := f3_.symm; clear f1_ f2_ f3_; subst f4_; subst f5_))
        obtain ⟨Ao40, co40, eo40⟩ := Kd.R_slice HO112.out
        (first | subst eo40 | (injection eo40 with f1_ f2_ f3_; have f4_ := f1_.symm; have f5_ := f3_.symm; clear f1_ f2_ f3_; subst f4_; subst f5_))
        refine hK.out _ _ ⟨(qg BK104.out 0).trans rfl, (qg BK104.out 1).trans rfl, (qg BK104.out 2).trans rfl, (qg BK104.out 3).trans rfl⟩ (fun hHeld => ?_)
        clear hK K
        refine norm_ (a' := ?_) ?_ ?_
        rotate_left
        ·show Act.put _ (some 5) _ = _
         simp only [Act.put, sq1, sq2, sq3, i64_w, i32_w]
         rfl
        refine one_ (i := 4) (N := some 22) bq15 rfl rfl (one_of HT_.out (by kernel_rfl)) (by decide) (fun K hK => ?_)
        refine goes_ Try.func17 (by kernel_rfl) rfl #[.agg #[.slice Ao35 x105000_1.length co35, .int .i64 x105001_1, .int .i64 x105002_1, .int .i64 x105003_1], .agg #[.slice Ao39 t107.length co39, .slice Ao40 t110.length co40, .int .i64 t113, .int .i64 t114, .int .i64 t115]] (by rfl) rfl rfl yq127 ?_
        with_reducible refine (spec_Apply.calls k1 _ _ x105000_1 x105001_1 x105002_1 x105003_1 _ _ t107 _ _ t110 t113 t114 t115 t117 t120 t121 t122 false _ ?side1 ?side2 ?side3 ?side4 ?side5 ?side6 A13.out).mono ?_
        (case side1 => exact yq131)
        (case side2 => exact (Kd.R_reads' HO_105000.out).2.1)
        (case side3 => exact yq133)
        (case side4 => exact (Kd.R_reads' HO109.out).2.1)
        (case side5 => exact yq132)
        (case side6 => exact (Kd.R_reads' HO112.out).2.1)
        rintro e w41 ⟨v118, rfl, ho0, hb⟩
        refine ⟨_, rfl, ?_⟩
        replace HO112 := Qz.mk (Kd.R_below yq128 hb)
        have HO119 := Qz.mk (Kd.R_lower (Kd.R_new' (Kd.R_new' ho0 (Kd.R_lt yq122)) (Kd.R_lt yq129)) (qi1 (w := w) (g := g) (row := none) yq120))
        replace HO_105000 := Qz.mk (Kd.R_elder' yq122 (Kd.R_base ho0) hb)
        replace HO109 := Qz.mk (Kd.R_elder' yq129 (Kd.R_base ho0) hb)
        replace BK101 := Qz.mk (qu (g := gb101) (o := .cells #[.slice none 0 0, .int .i64 0, .int .i64 0, .int .i64 0] 32 (0, 0)) yq119 hb)
        replace BK104 := Qz.mk (qu (g := gb104) (o := .cells #[.slice Ao35 x105000_1.length co35, .int .i64 x105001_1, .int .i64 x105002_1, .int .i64 x105003_1] 32 (0, 0)) yq121 hb)
        replace BK124 := Qz.mk (qu (g := gb124) (o := .cells #[.slice none 0 0, .int .i64 0, .int .i64 0, .int .i64 0] 32 (0, 0)) yq130 hb)
        replace HK := Qz.mk (KeepBut.trans yq120 (KeepBut.of_below hb g none) (.inl rfl))
        replace HB := Qz.mk (qq yq126 hb)
        replace HI0 := Qz.mk (IsS123.below yq124 hb)
        (try clear hb)
        (try clear hk)
        (try clear hi)
        (try clear ho0)
        refine hK.out _ _ ⟨(qg BK104.out 0).trans rfl, (qg BK104.out 1).trans rfl, (qg BK104.out 2).trans rfl, (qg BK104.out 3).trans rfl⟩ (fun hHeld => ?_)
        clear hK K
        refine norm_ (a' := ?_) ?_ ?_
        rotate_left
        ·show Act.put _ (some 22) _ = _
         simp only [Act.put, sq1, sq2, sq3, i64_w, i32_w]
         rfl
        refine pure_ (i := 5) (N := some 17) (v := ?_) (a' := ?_) bq18 rfl rfl (qg1 HT_.out (by kernel_rfl)) (fun _ _ _ h => h) (Or.inl ⟨by rfl, ?_⟩) ?_ ?_
        rotate_left
        ·intro w'
         go_simp
         with_reducible rfl
        rotate_left
        ·simp only [Act.put, sq1, sq2, sq3, i64_w, i32_w]
         rfl
        refine pure_ (i := 6) (N := some 23) (v := ?_) (a' := ?_) bq21 rfl rfl (qg1 HT_.out (by kernel_rfl)) (fun _ _ _ h => h) (Or.inl ⟨by rfl, ?_⟩) ?_ ?_
        rotate_left
        ·intro w'
         go_simp
         with_reducible rfl
        rotate_left
        ·simp only [Act.put, sq1, sq2, sq3, i64_w, i32_w]
         rfl
        refine pure_ (i := 7) (N := some 24) (v := ?_) (a' := ?_) bq25 rfl rfl (qg1 HT_.out (by kernel_rfl)) (fun _ _ _ h => h) (Or.inl ⟨by rfl, ?_⟩) ?_ ?_
        rotate_left
        ·intro w'
         go_simp
         with_reducible rfl
        rotate_left
        ·simp only [Act.put, sq1, sq2, sq3, i64_w, i32_w]
         rfl
        exact norm_ (by simp only [putAll, Act.put, sq1, sq2, sq3]) (hCont (.slice Ao39 t107.length co39, .slice Ao40 t110.length co40, v118, gb124) _ ⟨hHeld, yq138, yq128, yq137, yq136, yq119, yq121, yq130, GW124.out, GE124.out, NB0_124.out, NB124_0.out, NB101_124.out, NB124_101.out, NB104_124.out, NB124_104.out, yq124, yq120, yq126⟩)
      ·skip
       refine box_step ?hg (N := 5) ?hd (cs := #[.slice none 0 0, .int .i64 0, .int .i64 0, .int .i64 0]) (t := 32) ?hr ?_; (case hd => rfl); (case hg => rfl); (case hr => exact yq146)
       intro gb124 hg w37 hbox hb
       replace HO_105000 := Qz.mk (Kd.R_below yq122 hb)
       replace HB := Qz.mk (qq yq125 hb)
       have BK124 := Qz.mk (hbox)
       have GW124 := Qz.mk ((yq139 : w.heap.size ≤ gb124))
       have GE124 := Qz.mk ((Nat.le_trans HW0.out (yq139 : w.heap.size ≤ gb124) : w0.heap.size ≤ gb124))
       replace HK := Qz.mk (KeepBut.trans yq118 (KeepBut.of_below hb g none) (.inl rfl))
       have NB101_124 := Qz.mk ((yq134 : gb101 ≠ gb124))
       have NB124_101 := Qz.mk ((yq135 : gb124 ≠ gb101))
       replace BK101 := Qz.mk (qu (g := gb101) (o := .cells #[.slice none 0 0, .int .i64 0, .int .i64 0, .int .i64 0] 32 (0, 0)) yq119 hb)
       have NB104_124 := Qz.mk ((yq141 : gb104 ≠ gb124))
       have NB124_104 := Qz.mk ((yq143 : gb124 ≠ gb104))
       replace BK104 := Qz.mk (qu (g := gb104) (o := .cells #[.slice Ao35 x105000_1.length co35, .int .i64 x105001_1, .int .i64 x105002_1, .int .i64 x105003_1] 32 (0, 0)) yq121 hb)
       have NB0_124 := Qz.mk ((by rw [hg]; exact Nat.ne_of_lt (IsS123.lt (show IsS123 w0 _ g s0_0 x1001_1 from by repeat (first | (with_reducible first | exact HI0.out | apply IsS123.alloc | apply IsS123.drewN | apply IsS123.drew | apply IsS123.set_1 | apply (fun h_ => IsS123.far h_ NB0_101.out _) | apply (fun h_ => IsS123.far h_ NB0_104.out _)) | exact HI0.out))) : g ≠ gb124))
       have NB124_0 := Qz.mk ((by rw [hg]; exact Nat.ne_of_gt (IsS123.lt (show IsS123 w0 _ g s0_0 x1001_1 from by repeat (first | (with_reducible first | exact HI0.out | apply IsS123.alloc | apply IsS123.drewN | apply IsS123.drew | apply IsS123.set_1 | apply (fun h_ => IsS123.far h_ NB0_101.out _) | apply (fun h_ => IsS123.far h_ NB0_104.out _)) | exact HI0.out))) : gb124 ≠ g))
       replace HI0 := Qz.mk (IsS123.below yq123 hb)
       clear hb hbox hg
       refine hK.out _ _ ⟨(qg BK104.out 0).trans rfl, (qg BK104.out 1).trans rfl, (qg BK104.out 2).trans rfl, (qg BK104.out 3).trans rfl⟩ (fun hHeld => ?_)
       clear hK K
       refine norm_ (a' := ?_) ?_ ?_
       rotate_left
       ·show Act.put _ (some 5) _ = _
        simp only [Act.put, sq1, sq2, sq3, i64_w, i32_w]
        rfl
       refine one_ (i := 3) (N := some 21) bq12 rfl rfl (one_of HT_.out (by kernel_rfl)) (by decide) (fun K hK => ?_)
       refine goes_ Try.func88 (by kernel_rfl) rfl #[.pointer (some ⟨g, 0, none⟩), .agg #[.slice Ao35 x105000_1.length co35, .int .i64 x105001_1, .int .i64 x105002_1, .int .i64 x105003_1]] (by rfl) rfl rfl yq127 ?_
       with_reducible refine (spec_l1Rd_edit.calls k1 g s0_0 x1001_1 _ _ x105000_1 x105001_1 x105002_1 x105003_1 t107 t110 t113 t114 t115 t116 w0 _ ?side1 ?side2 ?side3 ?side4 A12.out).mono ?_
       (case side1 => exact yq124)
       (case side2 => exact yq126)
       (case side3 => exact Kd.C_foot_own (IsS123.apart (show IsS123 w0 _ g s0_0 x1001_1 from by repeat (first | (with_reducible first | exact HI0.out | apply IsS123.alloc | apply IsS123.drewN | apply IsS123.drew | apply IsS123.set_1 | apply (fun h_ => IsS123.far h_ NB0_101.out _) | apply (fun h_ => IsS123.far h_ NB0_104.out _) | apply (fun h_ => IsS123.far h_ NB0_124.out _)) | exact HI0.out)) yq122 (by decide)) (fun _ h_ => h_.2))
       (case side4 => exact (Kd.R_reads' HO_105000.out).2.1)
       rintro e w38 ⟨v108, v111, rfl, ho0, ho1, hi, hb, hk⟩
       refine ⟨_, rfl, ?_⟩
       replace BK101 := Qz.mk (KeepBut.blk hk (g' := gb101) (o := .cells #[.slice none 0 0, .int .i64 0, .int .i64 0, .int .i64 0] 32 (0, 0)) yq119 NB101_0.out (by simp))
       replace BK104 := Qz.mk (KeepBut.blk hk (g' := gb104) (o := .cells #[.slice Ao35 x105000_1.length co35, .int .i64 x105001_1, .int .i64 x105002_1, .int .i64 x105003_1] 32 (0, 0)) yq121 NB104_0.out (by simp))
       replace BK124 := Qz.mk (KeepBut.blk hk (g' := gb124) (o := .cells #[.slice none 0 0, .int .i64 0, .int .i64 0, .int .i64 0] 32 (0, 0)) yq130 NB124_0.out (by simp))
       have HO109 := Qz.mk (Kd.R_lower (Kd.R_new' ho0 (Kd.R_lt yq122)) (qi1 (w := w) (g := g) (row := none) yq120))
       replace HO_105000 := Qz.mk (Kd.R_mono (Kd.R_told (Kd.R_oldK (IsS123.apart (show IsS123 w0 _ g s0_0 x1001_1 from by repeat (first | (with_reducible first | exact HI0.out | apply IsS123.alloc | apply IsS123.drewN | apply IsS123.drew | apply IsS123.set_1 | apply (fun h_ => IsS123.far h_ NB0_101.out _) | apply (fun h_ => IsS123.far h_ NB0_104.out _) | apply (fun h_ => IsS123.far h_ NB0_124.out _)) | exact HI0.out)) yq122 (by decide)) hk) (Kd.R_base ho0)) (fun _ h_ => h_.1))
       have HO112 := Qz.mk (Kd.R_lower ho1 (qi1 (w := w) (g := g) (row := none) yq120))
       replace HK := Qz.mk (KeepBut.trans yq120 hk (.inl rfl))
       replace HB := Qz.mk (hb)
       replace HI0 := Qz.mk (hi)
       (try clear hb)
       (try clear hk)
       (try clear hi)
       (try clear ho0)
       (try clear ho1)
       obtain ⟨Ao39, co39, eo39⟩ := Kd.R_slice HO109.out
       (first | subst eo39 | (injection eo39 with f1_ f2_ f3_; have f4_ := f1_.symm; have f5_ := f3_.symm; clear f1_ f2_ f3_; subst f4_; subst f5_))
       obtain ⟨Ao40, co40, eo40⟩ := Kd.R_slice HO112.out
       (first | subst eo40 | (injection eo40 with f1_ f2_ f3_; have f4_ := f1_.symm; have f5_ := f3_.symm; clear f1_ f2_ f3_; subst f4_; subst f5_))
       refine hK.out _ _ ⟨(qg BK104.out 0).trans rfl, (qg BK104.out 1).trans rfl, (qg BK104.out 2).trans rfl, (qg BK104.out 3).trans rfl⟩ (fun hHeld => ?_)
       clear hK K
       refine norm_ (a' := ?_) ?_ ?_
       rotate_left
       ·show Act.put _ (some 21) _ = _
        simp only [Act.put, sq1, sq2, sq3, i64_w, i32_w]
        rfl
       refine one_ (i := 4) (N := some 22) bq15 rfl rfl (one_of HT_.out (by kernel_rfl)) (by decide) (fun K hK => ?_)
       refine goes_ Try.func17 (by kernel_rfl) rfl #[.agg #[.slice Ao35 x105000_1.length co35, .int .i64 x105001_1, .int .i64 x105002_1, .int .i64 x105003_1], .agg #[.slice Ao39 t107.length co39, .slice Ao40 t110.length co40, .int .i64 t113, .int .i64 t114, .int .i64 t115]] (by rfl) rfl rfl yq127 ?_
       with_reducible refine (spec_Apply.calls k1 _ _ x105000_1 x105001_1 x105002_1 x105003_1 _ _ t107 _ _ t110 t113 t114 t115 t117 t120 t121 t122 false _ ?side1 ?side2 ?side3 ?side4 ?side5 ?side6 A13.out).mono ?_
       (case side1 => exact yq131)
       (case side2 => exact (Kd.R_reads' HO_105000.out).2.1)
       (case side3 => exact yq133)
       (case side4 => exact (Kd.R_reads' HO109.out).2.1)
       (case side5 => exact yq132)
       (case side6 => exact (Kd.R_reads' HO112.out).2.1)
       rintro e w41 ⟨v118, rfl, ho0, hb⟩
       refine ⟨_, rfl, ?_⟩
       replace HO112 := Qz.mk (Kd.R_below yq128 hb)
       have HO119 := Qz.mk (Kd.R_lower (Kd.R_new' (Kd.R_new' ho0 (Kd.R_lt yq122)) (Kd.R_lt yq129)) (qi1 (w := w) (g := g) (row := none) yq120))
       replace HO_105000 := Qz.mk (Kd.R_elder' yq122 (Kd.R_base ho0) hb)
       replace HO109 := Qz.mk (Kd.R_elder' yq129 (Kd.R_base ho0) hb)
       replace BK101 := Qz.mk (qu (g := gb101) (o := .cells #[.slice none 0 0, .int .i64 0, .int .i64 0, .int .i64 0] 32 (0, 0)) yq119 hb)
       replace BK104 := Qz.mk (qu (g := gb104) (o := .cells #[.slice Ao35 x105000_1.length co35, .int .i64 x105001_1, .int .i64 x105002_1, .int .i64 x105003_1] 32 (0, 0)) yq121 hb)
       replace BK124 := Qz.mk (qu (g := gb124) (o := .cells #[.slice none 0 0, .int .i64 0, .int .i64 0, .int .i64 0] 32 (0, 0)) yq130 hb)
       replace HK := Qz.mk (KeepBut.trans yq120 (KeepBut.of_below hb g none) (.inl rfl))
       replace HB := Qz.mk (qq yq126 hb)
       replace HI0 := Qz.mk (IsS123.below yq124 hb)
       (try clear hb)
       (try clear hk)
       (try clear hi)
       (try clear ho0)
       refine hK.out _ _ ⟨(qg BK104.out 0).trans rfl, (qg BK104.out 1).trans rfl, (qg BK104.out 2).trans rfl, (qg BK104.out 3).trans rfl⟩ (fun hHeld => ?_)
       clear hK K
       refine norm_ (a' := ?_) ?_ ?_
       rotate_left
       ·show Act.put _ (some 22) _ = _
        simp only [Act.put, sq1, sq2, sq3, i64_w, i32_w]
        rfl
       refine pure_ (i := 5) (N := some 17) (v := ?_) (a' := ?_) bq18 rfl rfl (qg1 HT_.out (by kernel_rfl)) (fun _ _ _ h => h) (Or.inl ⟨by rfl, ?_⟩) ?_ ?_
       rotate_left
       ·intro w'
        go_simp
        with_reducible rfl
       rotate_left
       ·simp only [Act.put, sq1, sq2, sq3, i64_w, i32_w]
        rfl
       refine pure_ (i := 6) (N := some 23) (v := ?_) (a' := ?_) bq21 rfl rfl (qg1 HT_.out (by kernel_rfl)) (fun _ _ _ h => h) (Or.inl ⟨by rfl, ?_⟩) ?_ ?_
       rotate_left
       ·intro w'
        go_simp
        with_reducible rfl
       rotate_left
       ·simp only [Act.put, sq1, sq2, sq3, i64_w, i32_w]
        rfl
       refine pure_ (i := 7) (N := some 24) (v := ?_) (a' := ?_) bq25 rfl rfl (qg1 HT_.out (by kernel_rfl)) (fun _ _ _ h => h) (Or.inl ⟨by rfl, ?_⟩) ?_ ?_
       rotate_left
       ·intro w'
        go_simp
        with_reducible rfl
       rotate_left
       ·simp only [Act.put, sq1, sq2, sq3, i64_w, i32_w]
        rfl
       exact norm_ (by simp only [putAll, Act.put, sq1, sq2, sq3]) (hCont (.slice Ao39 t107.length co39, .slice Ao40 t110.length co40, v118, gb124) _ ⟨hHeld, yq138, yq128, yq137, yq136, yq119, yq121, yq130, GW124.out, GE124.out, NB0_124.out, NB124_0.out, NB101_124.out, NB124_101.out, NB104_124.out, NB124_104.out, yq124, yq120, yq126⟩)
     rintro ⟨v108, v111, v118, gb124⟩ w42 ⟨hS_, h0_, h1_, h2_, h3_, h4_, h5_, h6_, h7_, h8_, h9_, h10_, h11_, h12_, h13_, h14_, h15_, h16_, h17_⟩
     have n0_ : Qz (Kd.R k66 66 w42 w.heap.size (fun k_ => some k_ ≠ (v118 : Value).ownBlock ∧ some k_ ≠ (.slice Ao35 x105000_1.length co35 : Value).ownBlock) v108 t107) := ⟨h0_⟩
     have n1_ : Qz (Kd.R (Kd.int .i64) 2 w42 w.heap.size (fun _ => True) v111 t110) := ⟨h1_⟩
     have n2_ : Qz (Kd.R k66 66 w42 w.heap.size (fun k_ => some k_ ≠ (v108 : Value).ownBlock ∧ some k_ ≠ (.slice Ao35 x105000_1.length co35 : Value).ownBlock) v118 t117) := ⟨h2_⟩
     have n3_ : Qz (Kd.R k66 66 w42 w.heap.size (fun k_ => some k_ ≠ (v108 : Value).ownBlock ∧ some k_ ≠ (v118 : Value).ownBlock) (.slice Ao35 x105000_1.length co35) x105000_1) := ⟨h3_⟩
     have n4_ : Qz (w42.heap[gb101]? = some (.cells #[.slice none 0 0, .int .i64 0, .int .i64 0, .int .i64 0] 32 (0, 0))) := ⟨h4_⟩
     have n5_ : Qz (w42.heap[gb104]? = some (.cells #[.slice Ao35 x105000_1.length co35, .int .i64 x105001_1, .int .i64 x105002_1, .int .i64 x105003_1] 32 (0, 0))) := ⟨h5_⟩
     have n6_ : Qz (w42.heap[gb124]? = some (.cells #[.slice none 0 0, .int .i64 0, .int .i64 0, .int .i64 0] 32 (0, 0))) := ⟨h6_⟩
     have n7_ : Qz (w.heap.size ≤ gb124) := ⟨h7_⟩
     have n8_ : Qz (w0.heap.size ≤ gb124) := ⟨h8_⟩
     have n9_ : Qz (g ≠ gb124) := ⟨h9_⟩
     have n10_ : Qz (gb124 ≠ g) := ⟨h10_⟩
     have n11_ : Qz (gb101 ≠ gb124) := ⟨h11_⟩
     have n12_ : Qz (gb124 ≠ gb101) := ⟨h12_⟩
     have n13_ : Qz (gb104 ≠ gb124) := ⟨h13_⟩
     have n14_ : Qz (gb124 ≠ gb104) := ⟨h14_⟩
     have n15_ : Qz (IsS123 w0 w42 g s0_0 t116) := ⟨h15_⟩
     have n16_ : Qz (KeepBut w w42 g none) := ⟨h16_⟩
     have n17_ : Qz (Below w0.heap.size w0 w42) := ⟨h17_⟩
     clear HO_105000
     clear BK101
     clear BK104
     clear HI0
     clear HK
     clear HB
     clear h0_ h1_ h2_ h3_ h4_ h5_ h6_ h7_ h8_ h9_ h10_ h11_ h12_ h13_ h14_ h15_ h16_ h17_
     have HO109 := n0_
     have HO112 := n1_
     have HO119 := n2_
     have HO_105000 := n3_
     have BK101 := n4_
     have BK104 := n5_
     have BK124 := n6_
     have GW124 := n7_
     have GE124 := n8_
     have NB0_124 := n9_
     have NB124_0 := n10_
     have NB101_124 := n11_
     have NB124_101 := n12_
     have NB104_124 := n13_
     have NB124_104 := n14_
     have HI0 := n15_
     have HK := n16_
     have HB := n17_
     clear n0_ n1_ n2_ n3_ n4_ n5_ n6_ n7_ n8_ n9_ n10_ n11_ n12_ n13_ n14_ n15_ n16_ n17_
     have hHeld : w42.cell? ⟨gb104, 0, none⟩ = some (.slice Ao35 x105000_1.length co35) ∧ w42.cell? ⟨gb104, 1, none⟩ = some (.int .i64 x105001_1) ∧ w42.cell? ⟨gb104, 2, none⟩ = some (.int .i64 x105002_1) ∧ w42.cell? ⟨gb104, 3, none⟩ = some (.int .i64 x105003_1) := hS_
     obtain ⟨Ao43, co43, eo43⟩ := Kd.R_slice HO119.out
     (first | subst eo43 | (injection eo43 with f1_ f2_ f3_; have f4_ := f1_.symm; have f5_ := f3_.symm; clear f1_ f2_ f3_; subst f4_; subst f5_))
     refine norm_ (a' := ?_) ?_ ?_
     rotate_left
     ·simp only [putAll, Act.put, sq1, sq2, sq3]
      rfl
     refine one_ (i := 9) (N := none) bq27 rfl rfl (one_of HT_.out (by kernel_rfl)) (by decide) (fun K hK => ?_)
     have hs44 : w42.cell? ⟨gb124, 0, none⟩ = some (.slice none 0 0) := (qg BK124.out 0).trans rfl
     have hfs44 := qj BK124.out 0
     have hns44_0 := NB101_124.out
     have hns44_1 := NB104_124.out
     have hms44_0 := NB124_101.out
     have hms44_1 := NB124_104.out
     have hs45 : w42.cell? ⟨gb124, 1, none⟩ = some (.int .i64 0) := (qg BK124.out 1).trans rfl
     have hfs45 := qj BK124.out 1
     have hns45_0 := NB101_124.out
     have hns45_1 := NB104_124.out
     have hms45_0 := NB124_101.out
     have hms45_1 := NB124_104.out
     have hs46 : w42.cell? ⟨gb124, 2, none⟩ = some (.int .i64 0) := (qg BK124.out 2).trans rfl
     have hfs46 := qj BK124.out 2
     have hns46_0 := NB101_124.out
     have hns46_1 := NB104_124.out
     have hms46_0 := NB124_101.out
     have hms46_1 := NB124_104.out
     have hs47 : w42.cell? ⟨gb124, 3, none⟩ = some (.int .i64 0) := (qg BK124.out 3).trans rfl
     have hfs47 := qj BK124.out 3
     have hns47_0 := NB101_124.out
     have hns47_1 := NB104_124.out
     have hms47_0 := NB124_101.out
     have hms47_1 := NB124_104.out
     refine skip_ (w1 := ?_) (by rfl) rfl ?_ ?_
     rotate_left
     ·go_simp
      rfl
     refine hK.out _ _ ⟨((cell_far (p := ⟨gb124, _, none⟩) NB104_124.out _).trans (((cell_far (p := ⟨gb124, _, none⟩) NB104_124.out _).trans (((cell_far (p := ⟨gb124, _, none⟩) NB104_124.out _).trans (((cell_far (p := ⟨gb124, _, none⟩) NB104_124.out _).trans (hHeld.1)))))))), ((cell_far (p := ⟨gb124, _, none⟩) NB104_124.out _).trans (((cell_far (p := ⟨gb124, _, none⟩) NB104_124.out _).trans (((cell_far (p := ⟨gb124, _, none⟩) NB104_124.out _).trans (((cell_far (p := ⟨gb124, _, none⟩) NB104_124.out _).trans (hHeld.2.1)))))))), ((cell_far (p := ⟨gb124, _, none⟩) NB104_124.out _).trans (((cell_far (p := ⟨gb124, _, none⟩) NB104_124.out _).trans (((cell_far (p := ⟨gb124, _, none⟩) NB104_124.out _).trans (((cell_far (p := ⟨gb124, _, none⟩) NB104_124.out _).trans (hHeld.2.2.1)))))))), ((cell_far (p := ⟨gb124, _, none⟩) NB104_124.out _).trans (((cell_far (p := ⟨gb124, _, none⟩) NB104_124.out _).trans (((cell_far (p := ⟨gb124, _, none⟩) NB104_124.out _).trans (((cell_far (p := ⟨gb124, _, none⟩) NB104_124.out _).trans (hHeld.2.2.2))))))))⟩ (fun hHeld => ?_)
     clear hK K
     refine pure_ (i := 10) (N := some 6) (v := ?_) (a' := ?_) bq34 rfl rfl (qg1 HT_.out (by kernel_rfl)) (fun _ _ _ h => h) (Or.inl ⟨by rfl, ?_⟩) ?_ ?_
     rotate_left
     ·intro w'
      go_simp
      with_reducible rfl
     rotate_left
     ·simp only [Act.put, sq1, sq2, sq3, i64_w, i32_w]
      rfl
     refine done_ (done_of HT_.out (by kernel_rfl)) ?_
     try go_wp2
     go_roundg k1
     case measure => have := HK1.out; omega
     case rel => exact ⟨(wrap64 (x4_1 - 1)), (t116), (x105000_1), (x105001_1), (x105002_1), (x105003_1), (.slice Ao35 x105000_1.length co35), (by first | rfl | (simp; done) | (simp [*]; done)), H', ⟨by have := HK1.out; omega⟩, ⟨by (with_reducible repeat (first | apply Kd.R_alloc | apply Kd.R_drewN | apply Kd.R_drew)); exact Kd.R_mono (Kd.R_far (p := ⟨gb124, 3, none⟩) (Kd.R_far (p := ⟨gb124, 2, none⟩) (Kd.R_far (p := ⟨gb124, 1, none⟩) (Kd.R_far (p := ⟨gb124, 0, none⟩) (Kd.R_types HO_105000.out BK124.out (by decide)) (fun _ hk => hk.2) (.slice Ao43 t117.length co43)) (fun _ hk => hk.2) (.int .i64 t120)) (fun _ hk => hk.2) (.int .i64 t121)) (fun _ hk => hk.2) (.int .i64 t122)) (fun _ hk => trivial)⟩, ⟨by (with_reducible repeat (first | refine qc ?_ _ | refine qf ?_ | refine qa ?_ _)); refine qx ?_ NB101_124.out _; (with_reducible repeat (first | refine qc ?_ _ | refine qf ?_ | refine qa ?_ _)); refine qx ?_ NB101_124.out _; (with_reducible repeat (first | refine qc ?_ _ | refine qf ?_ | refine qa ?_ _)); refine qx ?_ NB101_124.out _; (with_reducible repeat (first | refine qc ?_ _ | refine qf ?_ | refine qa ?_ _)); refine qx ?_ NB101_124.out _; (with_reducible repeat (first | refine qc ?_ _ | refine qf ?_ | refine qa ?_ _)); exact BK101.out⟩, ⟨by (with_reducible repeat (first | refine qc ?_ _ | refine qf ?_ | refine qa ?_ _)); refine qx ?_ NB104_124.out _; (with_reducible repeat (first | refine qc ?_ _ | refine qf ?_ | refine qa ?_ _)); refine qx ?_ NB104_124.out _; (with_reducible repeat (first | refine qc ?_ _ | refine qf ?_ | refine qa ?_ _)); refine qx ?_ NB104_124.out _; (with_reducible repeat (first | refine qc ?_ _ | refine qf ?_ | refine qa ?_ _)); refine qx ?_ NB104_124.out _; (with_reducible repeat (first | refine qc ?_ _ | refine qf ?_ | refine qa ?_ _)); exact BK104.out⟩, ⟨by repeat (first | (with_reducible first | exact HI0.out | apply IsS123.alloc | apply IsS123.drewN | apply IsS123.drew | apply IsS123.set_1 | apply (fun h_ => IsS123.far h_ NB0_101.out _) | apply (fun h_ => IsS123.far h_ NB0_104.out _) | apply (fun h_ => IsS123.far h_ NB0_124.out _)) | exact HI0.out)⟩, ⟨by repeat (first | (with_reducible first | exact HK.out | apply KeepBut.set_ | apply qn | apply qp | apply qo | refine qk ?_ GW101.out _ | refine qk ?_ GW104.out _ | refine qk ?_ GW124.out _) | exact HK.out)⟩, ⟨by repeat (first | (with_reducible first | exact HB.out | apply qi | apply qd | apply qh | refine qe ?_ (IsS123.ge HI0.out) | refine qe ?_ GE101.out | refine qe ?_ GE104.out | refine qe ?_ GE124.out) | exact HB.out)⟩⟩
   ·rw [if_neg c11] at H
    have c11b0 : decide (0 < x4_1) = false := decide_eq_false c11
    clear c11
    replace H := Option.bind_eq_some_iff.mp H
    obtain ⟨⟨t125, t126⟩, A480, H⟩ := H
    replace H : (if t125 = true then ((spec_l1Rd_meta.f k1 s0_0 t126).bind fun bt127 => (if x105000_1.length < 2513169434916 then (some ((x105000_1 ++ [(⟨bt127.1, bt127.2.1, bt127.2.2.1, bt127.2.2.2.1, bt127.2.2.2.2.1⟩ : S66)]), x105001_1, x105002_1, x105003_1, bt127.2.2.2.2.2)) else (none))) else (some (x105000_1, x105001_1, x105002_1, x105003_1, t126))) = some (r1, r2, r3, r4, r5) := H
    have A48 := Qz.mk A480
    clear A480
    by_cases c49 : t125 = true
    ·subst c49
     have H1 : ((spec_l1Rd_meta.f k1 s0_0 t126).bind fun bt127 => (if x105000_1.length < 2513169434916 then (some ((x105000_1 ++ [(⟨bt127.1, bt127.2.1, bt127.2.2.1, bt127.2.2.2.1, bt127.2.2.2.2.1⟩ : S66)]), x105001_1, x105002_1, x105003_1, bt127.2.2.2.2.2)) else (none))) = some (r1, r2, r3, r4, r5) := by rw [if_pos rfl] at H; exact H
     clear H
     have H := H1
     clear H1
     replace H := Option.bind_eq_some_iff.mp H
     obtain ⟨⟨t127, t128, t129, t130, t131, t132⟩, A500, H⟩ := H
     replace H : (if x105000_1.length < 2513169434916 then (some ((x105000_1 ++ [(⟨t127, t128, t129, t130, t131⟩ : S66)]), x105001_1, x105002_1, x105003_1, t132)) else (none)) = some (r1, r2, r3, r4, r5) := H
     have A50 := Qz.mk A500
     clear A500
     by_cases c51 : x105000_1.length < 2513169434916
     ·rw [if_pos c51] at H
      have LMc51 := Qz.mk c51
      clear c51
      obtain ⟨y133, hy133⟩ : ∃ y_ : List (S66), y_ = (x105000_1 ++ [(⟨t127, t128, t129, t130, t131⟩ : S66)]) := ⟨_, rfl⟩
      replace H : (some (y133, x105001_1, x105002_1, x105003_1, t132)) = some (r1, r2, r3, r4, r5) := by first | (rw [hy133]; with_reducible exact H) | (have H2_ := (Option.bind_some _ _).symm.trans H; rw [hy133]; with_reducible exact H2_) | (have H2_ := (Option.bind_some _ _).symm.trans H; with_reducible exact H2_) | with_reducible exact H | (rw [hy133]; exact H) | exact H
      have Ny133 := Qz.mk hy133
      clear hy133
      simp only [Option.some.injEq, Prod.mk.injEq] at H
      obtain ⟨rfl, rfl, rfl, rfl, rfl⟩ := H
      try go_wp2_with (first | ((with_reducible refine qm (f := 73) rfl ?_); refine qy (some 28) rfl rfl Try.func73 (by kernel_rfl) rfl #[.pointer (some ⟨g, 0, none⟩), .int .i64 16] rfl yq145 ?_; (with_reducible refine (spec_l1Rd_once.calls g s0_0 x1001_1 16 true t126 w0 _ ?side1 ?side2 A48.out).mono ?_); (case side1 => exact yq123); (case side2 => exact yq125); rintro e w52 ⟨rfl, hi, hb, hk⟩; refine ⟨_, rfl, ?_⟩; replace HO_105000 := Qz.mk (Kd.R_mono (Kd.R_keep (IsS123.apart (show IsS123 w0 _ g s0_0 x1001_1 from by repeat (first | (with_reducible first | exact HI0.out | apply IsS123.alloc | apply IsS123.drewN | apply IsS123.drew | apply IsS123.set_1 | apply (fun h_ => IsS123.far h_ NB0_101.out _) | apply (fun h_ => IsS123.far h_ NB0_104.out _)) | exact HI0.out)) yq122 (by decide)) hk (fun _ h => h.2)) (fun _ h => h.1)); replace BK101 := Qz.mk (KeepBut.blk hk (g' := gb101) (o := .cells #[.slice none 0 0, .int .i64 0, .int .i64 0, .int .i64 0] 32 (0, 0)) yq119 NB101_0.out (by simp)); replace BK104 := Qz.mk (KeepBut.blk hk (g' := gb104) (o := .cells #[u105000, .int .i64 x105001_1, .int .i64 x105002_1, .int .i64 x105003_1] 32 (0, 0)) yq121 NB104_0.out (by simp)); replace HK := Qz.mk (KeepBut.trans yq118 hk (.inl rfl)); replace HB := Qz.mk (hb); replace HI0 := Qz.mk (hi); (try clear hb); (try clear hk); (try clear hi)))
      replace HO_105000 := Qz.mk (Kd.R_drew HO_105000.out)
      replace BK101 := Qz.mk (qf BK101.out)
      replace BK104 := Qz.mk (qf BK104.out)
      replace HI0 := Qz.mk (IsS123.drew HI0.out)
      replace HK := Qz.mk (qp HK.out)
      replace HB := Qz.mk (qh HB.out)
      refine start_ (n := 8) (S := fun w' => w'.cell? ⟨gb104, 0, none⟩ = some (u105000) ∧ w'.cell? ⟨gb104, 1, none⟩ = some (.int .i64 x105001_1) ∧ w'.cell? ⟨gb104, 2, none⟩ = some (.int .i64 x105002_1) ∧ w'.cell? ⟨gb104, 3, none⟩ = some (.int .i64 x105003_1)) (ds := [7]) bq2 (by kernel_rfl) rfl rfl ⟨(qg BK104.out 0).trans rfl, (qg BK104.out 1).trans rfl, (qg BK104.out 2).trans rfl, (qg BK104.out 3).trans rfl⟩ (fun hHeld => ?_); refine with_tabW spec_l1Rd_version.tab9 spec_l1Rd_version.bits9 (fun HT_ HW_ => ?_)
      generalize w52.drew = w53 at HO_105000 BK101 BK104 HI0 HK HB hHeld ⊢
      refine pure_ (i := 0) (N := some 29) (v := ?_) (a' := ?_) bq5 rfl rfl (qg1 HT_.out (by kernel_rfl)) (fun _ _ _ h => h) (Or.inl ⟨by rfl, ?_⟩) ?_ ?_
      rotate_left
      ·intro w'
       go_simp
       with_reducible rfl
      rotate_left
      ·simp only [Act.put, sq1, sq2, sq3, i64_w, i32_w]
       rfl
      refine pure_ (i := 2) (N := some 31) (v := ?_) (a' := ?_) bq6 rfl rfl (qg1 HT_.out (by kernel_rfl)) (fun _ _ _ h => h) (Or.inl ⟨by rfl, ?_⟩) ?_ ?_
      rotate_left
      ·intro w'
       go_simp
       with_reducible rfl
      rotate_left
      ·simp only [Act.put, sq1, sq2, sq3, i64_w, i32_w]
       rfl
      refine take_ (i := 1) (N := some 30) (v := ?_) (a' := ?_) bq10 rfl rfl (take_ofW HT_.out HW_.out (by kernel_rfl)) (fun _ _ _ h => h) (Or.inl ⟨by rfl, ?_⟩) hHeld ?_ ?_
      rotate_left
      ·rintro w' ⟨s0, s1, s2, s3⟩
       go_simp
       with_reducible rfl
      rotate_left
      ·simp only [Act.put, sq1, sq2, sq3, i64_w, i32_w]
       rfl
      refine one_ (i := 3) (N := some 32) bq13 rfl rfl (one_of HT_.out (by kernel_rfl)) (by decide) (fun K hK => ?_)
      refine goes_ Try.func103 (by kernel_rfl) rfl #[.pointer (some ⟨g, 0, none⟩)] (by rfl) rfl rfl yq145 ?_
      with_reducible refine (spec_l1Rd_meta.calls k1 g s0_0 t126 t127 t128 t129 t130 t131 t132 w0 _ ?side1 ?side2 A50.out).mono ?_
      (case side1 => exact yq123)
      (case side2 => exact yq125)
      rintro e w54 ⟨rfl, hi, hb, hk⟩
      refine ⟨_, rfl, ?_⟩
      replace HO_105000 := Qz.mk (Kd.R_mono (Kd.R_keep (IsS123.apart (show IsS123 w0 _ g s0_0 t126 from by repeat (first | (with_reducible first | exact HI0.out | apply IsS123.alloc | apply IsS123.drewN | apply IsS123.drew | apply IsS123.set_1 | apply (fun h_ => IsS123.far h_ NB0_101.out _) | apply (fun h_ => IsS123.far h_ NB0_104.out _)) | exact HI0.out)) yq122 (by decide)) hk (fun _ h => h.2)) (fun _ h => h.1))
      replace BK101 := Qz.mk (KeepBut.blk hk (g' := gb101) (o := .cells #[.slice none 0 0, .int .i64 0, .int .i64 0, .int .i64 0] 32 (0, 0)) yq119 NB101_0.out (by simp))
      replace BK104 := Qz.mk (KeepBut.blk hk (g' := gb104) (o := .cells #[u105000, .int .i64 x105001_1, .int .i64 x105002_1, .int .i64 x105003_1] 32 (0, 0)) yq121 NB104_0.out (by simp))
      replace HK := Qz.mk (KeepBut.trans yq118 hk (.inl rfl))
      replace HB := Qz.mk (hb)
      replace HI0 := Qz.mk (hi)
      (try clear hb)
      (try clear hk)
      (try clear hi)
      refine hK.out _ _ ⟨(qg BK104.out 0).trans rfl, (qg BK104.out 1).trans rfl, (qg BK104.out 2).trans rfl, (qg BK104.out 3).trans rfl⟩ (fun hHeld => ?_)
      clear hK K
      refine norm_ (a' := ?_) ?_ ?_
      rotate_left
      ·show Act.put _ (some 32) _ = _
       simp only [Act.put, sq1, sq2, sq3, i64_w, i32_w]
       rfl
      refine one_ (i := 4) (N := some 33) bq16 rfl rfl (one_of HT_.out (by kernel_rfl)) (by decide) (fun K hK => ?_)
      refine value_ (w1 := ?_) (v := ?_) (by rfl) rfl ?_ ?_
      rotate_left 2
      ·go_simp
       constructor
       ·rfl
       ·rfl
      refine hK.out _ _ ⟨(qg (qa BK104.out _) 0).trans rfl, (qg (qa BK104.out _) 1).trans rfl, (qg (qa BK104.out _) 2).trans rfl, (qg (qa BK104.out _) 3).trans rfl⟩ (fun hHeld => ?_)
      clear hK K
      refine norm_ (a' := ?_) ?_ ?_
      rotate_left
      ·show Act.put _ (some 33) _ = _
       simp only [Act.put, sq1, sq2, sq3, i64_w, i32_w]
       rfl
      refine one_ (i := 5) (N := some 34) bq19 rfl rfl (one_of HT_.out (by kernel_rfl)) (by decide) (fun K hK => ?_)
      refine Kd.R_append_step k66 w.heap.size (by rfl) (.tmp 30) (.tmp 33) 30 66 (.agg #[(.int .i64 0), (.int .i64 0), (.string ⟨#[]⟩), (.string ⟨#[]⟩), (.int .i64 0)]) 56 rfl Try.underlying30 info66 rfl (by decide) (by omega) u105000 x105000_1 (⟨t127, t128, t129, t130, t131⟩ : S66) [.int .i64 t127, .int .i64 t128, .string t129, .string t130, .int .i64 t131] (fun _ => True) (fun _ => False) rfl rfl ?aP (fun _ hk => hk.elim) ?aF ?aO (Below.refl _ _) ?aS ?aL ?_
      (case aP => exact k66_mkM _ _ _ (⟨t127, t128, t129, t130, t131⟩ : S66))
      (case aF => exact (fun _ _ => trivial))
      (case aO => exact yq122)
      (case aS => exact (qi1 (w := w) (g := g) (row := none) yq118))
      (case aL => have := LMc51.out; omega)
      intro v134 w55 ho hb hg hat
      rw [← Ny133.out] at ho
      have n0_ := Qz.mk (blk_grown (g := gb101) (o := .cells #[.slice none 0 0, .int .i64 0, .int .i64 0, .int .i64 0] 32 (0, 0)) yq119 hg (Kd.R_ne HO_105000.out BK101.out (by decide)))
      have n1_ := Qz.mk (blk_grown (g := gb104) (o := .cells #[u105000, .int .i64 x105001_1, .int .i64 x105002_1, .int .i64 x105003_1] 32 (0, 0)) yq121 hg (Kd.R_ne HO_105000.out BK104.out (by decide)))
      have n2_ := Qz.mk (IsS123.grown yq123 hg (IsS123.own_ne HI0.out HO_105000.out (by decide)))
      have n3_ := Qz.mk (below_weaken yq125 HL.out hb)
      have n4_ := Qz.mk (KeepBut.trans yq118 (KeepBut.of_grown hg g) (Kd.R_base2 HO_105000.out))
      have n5_ := Qz.mk (ho)
      clear BK101
      clear BK104
      clear HI0
      clear HB
      clear HK
      clear HO_105000
      have BK101 := n0_
      have BK104 := n1_
      have HI0 := n2_
      have HB := n3_
      have HK := n4_
      have HO135 := n5_
      clear n0_ n1_ n2_ n3_ n4_ n5_
      clear ho hb hg hat
      obtain ⟨Ao56, co56, eo56⟩ := Kd.R_slice HO135.out
      (first | subst eo56 | (injection eo56 with f1_ f2_ f3_; have f4_ := f1_.symm; have f5_ := f3_.symm; clear f1_ f2_ f3_; subst f4_; subst f5_))
      refine hK.out _ _ ⟨(qg BK104.out 0).trans rfl, (qg BK104.out 1).trans rfl, (qg BK104.out 2).trans rfl, (qg BK104.out 3).trans rfl⟩ (fun hHeld => ?_)
      clear hK K
      refine norm_ (a' := ?_) ?_ ?_
      rotate_left
      ·show Act.put _ (some 34) _ = _
       simp only [Act.put, sq1, sq2, sq3, i64_w, i32_w]
       rfl
      refine pure_ (i := 6) (N := some 35) (v := ?_) (a' := ?_) bq22 rfl rfl (qg1 HT_.out (by kernel_rfl)) (fun _ _ _ h => h) (Or.inl ⟨by rfl, ?_⟩) ?_ ?_
      rotate_left
      ·intro w'
       go_simp
       with_reducible rfl
      rotate_left
      ·simp only [Act.put, sq1, sq2, sq3, i64_w, i32_w]
       rfl
      refine last_ (i := 7) (N := none) bq35 rfl rfl (one_of HT_.out (by kernel_rfl)) (by decide) (fun K hK => ?_)
      have hs57 : w55.cell? ⟨gb104, 0, none⟩ = some (u105000) := (qg BK104.out 0).trans rfl
      have hfs57 := qj BK104.out 0
      have hns57_0 := NB101_104.out
      have hms57_0 := NB104_101.out
      refine skip_ (w1 := ?_) (by rfl) rfl ?_ ?_
      rotate_left
      ·go_simp
       rfl
      refine hK.out _ _ ?_
      clear hK K
      refine done_ (done_of HT_.out (by kernel_rfl)) ?_
      have hnb58 := NB104_101.out
      have hnc58 := NB101_104.out
      have hnb59 := NB104_0.out
      have hnc59 := NB0_104.out
      have hcz60_0 := (qg BK104.out 0).trans rfl
      have hcz60_1 := (qg BK104.out 1).trans rfl
      have hcz60_2 := (qg BK104.out 2).trans rfl
      have hcz60_3 := (qg BK104.out 3).trans rfl
      have hfz60_0 := qj BK104.out 0
      have hfz60_1 := qj BK104.out 1
      have hfz60_2 := qj BK104.out 2
      have hfz60_3 := qj BK104.out 3
      have hnb61 := NB101_0.out
      have hnc61 := NB0_101.out
      have hcz62_0 := (qg BK101.out 0).trans rfl
      have hcz62_1 := (qg BK101.out 1).trans rfl
      have hcz62_2 := (qg BK101.out 2).trans rfl
      have hcz62_3 := (qg BK101.out 3).trans rfl
      have hfz62_0 := qj BK101.out 0
      have hfz62_1 := qj BK101.out 1
      have hfz62_2 := qj BK101.out 2
      have hfz62_3 := qj BK101.out 3
      try go_wp2
      refine bodyPost_ret (results_cell_row rfl _ _ gb101 32 #[.slice Ao56 y133.length co56, .int .i64 x105001_1, .int .i64 x105002_1, .int .i64 x105003_1] (0, 0) _ rfl (by (with_reducible repeat (first | refine qc ?_ _ | refine qf ?_ | refine qa ?_ _)); refine qw (cs := #[.slice Ao56 y133.length co56, .int .i64 x105001_1, .int .i64 x105002_1, .int .i64 0]) ?_ 3 _ rfl; (with_reducible repeat (first | refine qc ?_ _ | refine qf ?_ | refine qa ?_ _)); refine qw (cs := #[.slice Ao56 y133.length co56, .int .i64 x105001_1, .int .i64 0, .int .i64 0]) ?_ 2 _ rfl; (with_reducible repeat (first | refine qc ?_ _ | refine qf ?_ | refine qa ?_ _)); refine qw (cs := #[.slice Ao56 y133.length co56, .int .i64 0, .int .i64 0, .int .i64 0]) ?_ 1 _ rfl; (with_reducible repeat (first | refine qc ?_ _ | refine qf ?_ | refine qa ?_ _)); refine qw (cs := #[.slice none 0 0, .int .i64 0, .int .i64 0, .int .i64 0]) ?_ 0 _ rfl; (with_reducible repeat (first | refine qc ?_ _ | refine qf ?_ | refine qa ?_ _)); refine qx ?_ NB101_104.out _; (with_reducible repeat (first | refine qc ?_ _ | refine qf ?_ | refine qa ?_ _)); exact BK101.out) Try.underlying32 rfl (by kernel_rfl)) rfl ?_
      exact ⟨_, by first | rfl | (simp [qt, qr] <;> rfl) | (simp [*, qt, qr] <;> rfl), by (with_reducible repeat (first | apply Kd.R_alloc | apply Kd.R_drewN | apply Kd.R_drew)); exact Kd.R_mono (Kd.R_far (p := ⟨gb101, 3, none⟩) (Kd.R_far (p := ⟨gb101, 2, none⟩) (Kd.R_far (p := ⟨gb101, 1, none⟩) (Kd.R_far (p := ⟨gb101, 0, none⟩) (Kd.R_far (p := ⟨gb104, 0, none⟩) (Kd.R_types (Kd.R_types HO135.out BK104.out (by decide)) BK101.out (by decide)) (fun _ hk => hk.1.2) (.slice Ao56 y133.length co56)) (fun _ hk => hk.2) (.slice Ao56 y133.length co56)) (fun _ hk => hk.2) (.int .i64 x105001_1)) (fun _ hk => hk.2) (.int .i64 x105002_1)) (fun _ hk => hk.2) (.int .i64 x105003_1)) (fun _ hk => trivial), by repeat (first | (with_reducible first | exact HI0.out | apply IsS123.alloc | apply IsS123.drewN | apply IsS123.drew | apply IsS123.set_1 | apply (fun h_ => IsS123.far h_ NB0_101.out _) | apply (fun h_ => IsS123.far h_ NB0_104.out _)) | exact HI0.out), by repeat (first | (with_reducible first | exact HB.out | apply qi | apply qd | apply qh | refine qe ?_ (IsS123.ge HI0.out) | refine qe ?_ GE101.out | refine qe ?_ GE104.out) | exact HB.out), by repeat (first | (with_reducible first | exact HK.out | apply KeepBut.set_ | apply qn | apply qp | apply qo | refine qk ?_ GW101.out _ | refine qk ?_ GW104.out _) | exact HK.out)⟩
     ·rw [if_neg c51] at H
      exact absurd H (by simp)
    ·replace c49 := Bool.eq_false_iff.mpr c49
     subst c49
     have H1 : (some (x105000_1, x105001_1, x105002_1, x105003_1, t126)) = some (r1, r2, r3, r4, r5) := by rw [if_neg (show ¬ (false = true) by decide)] at H; exact H
     clear H
     have H := H1
     clear H1
     simp only [Option.some.injEq, Prod.mk.injEq] at H
     obtain ⟨rfl, rfl, rfl, rfl, rfl⟩ := H
     go_wp2_with (first | ((with_reducible refine qm (f := 73) rfl ?_); refine qy (some 28) rfl rfl Try.func73 (by kernel_rfl) rfl #[.pointer (some ⟨g, 0, none⟩), .int .i64 16] rfl yq145 ?_; (with_reducible refine (spec_l1Rd_once.calls g s0_0 x1001_1 16 false t126 w0 _ ?side1 ?side2 A48.out).mono ?_); (case side1 => exact yq123); (case side2 => exact yq125); rintro e w63 ⟨rfl, hi, hb, hk⟩; refine ⟨_, rfl, ?_⟩; replace HO_105000 := Qz.mk (Kd.R_mono (Kd.R_keep (IsS123.apart (show IsS123 w0 _ g s0_0 x1001_1 from by repeat (first | (with_reducible first | exact HI0.out | apply IsS123.alloc | apply IsS123.drewN | apply IsS123.drew | apply IsS123.set_1 | apply (fun h_ => IsS123.far h_ NB0_101.out _) | apply (fun h_ => IsS123.far h_ NB0_104.out _)) | exact HI0.out)) yq122 (by decide)) hk (fun _ h => h.2)) (fun _ h => h.1)); replace BK101 := Qz.mk (KeepBut.blk hk (g' := gb101) (o := .cells #[.slice none 0 0, .int .i64 0, .int .i64 0, .int .i64 0] 32 (0, 0)) yq119 NB101_0.out (by simp)); replace BK104 := Qz.mk (KeepBut.blk hk (g' := gb104) (o := .cells #[u105000, .int .i64 x105001_1, .int .i64 x105002_1, .int .i64 x105003_1] 32 (0, 0)) yq121 NB104_0.out (by simp)); replace HK := Qz.mk (KeepBut.trans yq118 hk (.inl rfl)); replace HB := Qz.mk (hb); replace HI0 := Qz.mk (hi); (try clear hb); (try clear hk); (try clear hi); have hnb64 := NB104_101.out; have hnc64 := NB101_104.out; have hnb65 := NB104_0.out; have hnc65 := NB0_104.out; have hcz66_0 := (qg BK104.out 0).trans rfl; have hcz66_1 := (qg BK104.out 1).trans rfl; have hcz66_2 := (qg BK104.out 2).trans rfl; have hcz66_3 := (qg BK104.out 3).trans rfl; have hfz66_0 := qj BK104.out 0; have hfz66_1 := qj BK104.out 1; have hfz66_2 := qj BK104.out 2; have hfz66_3 := qj BK104.out 3; obtain ⟨Ao67, co67, eo67⟩ := Kd.R_slice HO_105000.out; subst eo67; have hnb68 := NB101_0.out; have hnc68 := NB0_101.out; have hcz69_0 := (qg BK101.out 0).trans rfl; have hcz69_1 := (qg BK101.out 1).trans rfl; have hcz69_2 := (qg BK101.out 2).trans rfl; have hcz69_3 := (qg BK101.out 3).trans rfl; have hfz69_0 := qj BK101.out 0; have hfz69_1 := qj BK101.out 1; have hfz69_2 := qj BK101.out 2; have hfz69_3 := qj BK101.out 3))
     refine bodyPost_ret (results_cell_row rfl _ _ gb101 32 #[.slice Ao67 x105000_1.length co67, .int .i64 x105001_1, .int .i64 x105002_1, .int .i64 x105003_1] (0, 0) _ rfl (by (with_reducible repeat (first | refine qc ?_ _ | refine qf ?_ | refine qa ?_ _)); refine qw (cs := #[.slice Ao67 x105000_1.length co67, .int .i64 x105001_1, .int .i64 x105002_1, .int .i64 0]) ?_ 3 _ rfl; (with_reducible repeat (first | refine qc ?_ _ | refine qf ?_ | refine qa ?_ _)); refine qw (cs := #[.slice Ao67 x105000_1.length co67, .int .i64 x105001_1, .int .i64 0, .int .i64 0]) ?_ 2 _ rfl; (with_reducible repeat (first | refine qc ?_ _ | refine qf ?_ | refine qa ?_ _)); refine qw (cs := #[.slice Ao67 x105000_1.length co67, .int .i64 0, .int .i64 0, .int .i64 0]) ?_ 1 _ rfl; (with_reducible repeat (first | refine qc ?_ _ | refine qf ?_ | refine qa ?_ _)); refine qw (cs := #[.slice none 0 0, .int .i64 0, .int .i64 0, .int .i64 0]) ?_ 0 _ rfl; (with_reducible repeat (first | refine qc ?_ _ | refine qf ?_ | refine qa ?_ _)); exact BK101.out) Try.underlying32 rfl (by kernel_rfl)) rfl ?_
     exact ⟨_, by first | rfl | (simp [qt, qr] <;> rfl) | (simp [*, qt, qr] <;> rfl), by (with_reducible repeat (first | apply Kd.R_alloc | apply Kd.R_drewN | apply Kd.R_drew)); exact Kd.R_mono (Kd.R_far (p := ⟨gb101, 3, none⟩) (Kd.R_far (p := ⟨gb101, 2, none⟩) (Kd.R_far (p := ⟨gb101, 1, none⟩) (Kd.R_far (p := ⟨gb101, 0, none⟩) (Kd.R_types HO_105000.out BK101.out (by decide)) (fun _ hk => hk.2) (.slice Ao67 x105000_1.length co67)) (fun _ hk => hk.2) (.int .i64 x105001_1)) (fun _ hk => hk.2) (.int .i64 x105002_1)) (fun _ hk => hk.2) (.int .i64 x105003_1)) (fun _ hk => trivial), by repeat (first | (with_reducible first | exact HI0.out | apply IsS123.alloc | apply IsS123.drewN | apply IsS123.drew | apply IsS123.set_1 | apply (fun h_ => IsS123.far h_ NB0_101.out _) | apply (fun h_ => IsS123.far h_ NB0_104.out _)) | exact HI0.out), by repeat (first | (with_reducible first | exact HB.out | apply qi | apply qd | apply qh | refine qe ?_ (IsS123.ge HI0.out) | refine qe ?_ GE101.out | refine qe ?_ GE104.out) | exact HB.out), by repeat (first | (with_reducible first | exact HK.out | apply KeepBut.set_ | apply qn | apply qp | apply qo | refine qk ?_ GW101.out _ | refine qk ?_ GW104.out _) | exact HK.out)⟩
theorem yq148 {P : Prop} (h : P := by (with_reducible repeat (first | refine qc ?_ _ | refine qf ?_ | refine qa ?_ _)); exact BK101.out) : P := h
def spec_DrawVersionText.f (k : Nat) (l0 : List Int) : Option ((List (S66)) × Int × Int × Int) := (spec_l1Open.f l0).bind fun bt102 => ((spec_l1Rd_version.f k bt102.1 bt102.2).bind fun bt105 => (some (bt105.1, bt105.2.1, bt105.2.2.1, bt105.2.2.2.1)))
set_option maxHeartbeats 8000000 in
set_option maxRecDepth 100000 in
theorem spec_DrawVersionText.calls (k : Nat) (A0 : Option Addr) (c0 : Nat) (l0 : List Int) (r1 : List (S66)) (r2 : Int) (r3 : Int) (r4 : Int) (w : World) (hr0 : Kd.C (Kd.int .u8) w A0 l0.length l0) (hc0 : l0.length ≤ c0) (h : spec_DrawVersionText.f k l0 = some (r1, r2, r3, r4)) :
  Calls Try.prog 52 #[.slice A0 l0.length c0] w fun e w' => ∃ v0_ : Value, e = .returned (.agg #[v0_, .int .i64 r2, .int .i64 r3, .int .i64 r4]) ∧ Kd.R k66 66 w' w.heap.size (fun _ => True) v0_ r1 ∧ Below w.heap.size w w' := by
 have hu32 := Try.underlying32
 have HR0 := Qz.mk hr0
 have HC0 := Qz.mk hc0
 clear hr0 hc0
 have HB := Qz.mk (Below.refl w.heap.size w)
 have H : ((spec_l1Open.f l0).bind fun bt102 => ((spec_l1Rd_version.f k bt102.1 bt102.2).bind fun bt105 => (some (bt105.1, bt105.2.1, bt105.2.2.1, bt105.2.2.2.1)))) = some (r1, r2, r3, r4) := h
 clear h
 replace H := Option.bind_eq_some_iff.mp H
 obtain ⟨⟨t102, t103⟩, A20, H⟩ := H
 replace H : ((spec_l1Rd_version.f k t102 t103).bind fun bt105 => (some (bt105.1, bt105.2.1, bt105.2.2.1, bt105.2.2.2.1))) = some (r1, r2, r3, r4) := H
 have A2 := Qz.mk A20
 clear A20
 replace H := Option.bind_eq_some_iff.mp H
 obtain ⟨⟨t105, t108, t109, t110, t111⟩, A30, H⟩ := H
 replace H : (some (t105, t108, t109, t110)) = some (r1, r2, r3, r4) := H
 have A3 := Qz.mk A30
 clear A30
 simp only [Option.some.injEq, Prod.mk.injEq] at H
 obtain ⟨rfl, rfl, rfl, rfl⟩ := H
 go_enter Try.func52, Try.ntmps52
 go_wp2_with (first | ((with_reducible refine gate_dst (N := 2) rfl ?_); refine box_event ?hg (N := 2) ?hd (cs := #[.slice none 0 0, .int .i64 0, .int .i64 0, .int .i64 0]) (t := 32) ?hr ?_; (case hd => rfl); (case hg => rfl); (case hr => first | (go_simp; done) | (go_simp; rfl)); intro gb101 hg w4 hbox hb; have BK101 := Qz.mk (hbox); have GW101 := Qz.mk ((by rw [hg]; exact (qb1 (by repeat (first | (with_reducible first | exact HB.out | apply qi | apply qd | apply qh) | exact HB.out))) : w.heap.size ≤ gb101)); have GE101 := GW101; replace HB := Qz.mk (qq (by repeat (first | (with_reducible first | exact HB.out | apply qi | apply qd | apply qh) | exact HB.out)) hb); clear hb hbox hg) | ((with_reducible refine qm (f := 70) rfl ?_); refine qy (some 5) rfl rfl Try.func70 (by kernel_rfl) rfl #[.slice A0 l0.length c0] rfl (by (try simp only [List.map_toArray, List.map_cons, List.map_nil]); first | done | rfl | (simp only [List.length_drop, List.length_take]; rfl) | (rw [IntWalk.u64_in _ (by omega)] <;> rfl)) ?_; (with_reducible refine (spec_l1Open.calls _ _ l0 t102 t103 w _ ?side1 ?side2 ?side3 A2.out).mono ?_); (case side1 => repeat (first | (with_reducible first | exact HB.out | apply qi | apply qd | apply qh | refine qe ?_ GE101.out) | exact HB.out)); (case side2 => exact HR0.out); (case side3 => exact HC0.out); rintro e w5 ⟨g104, rfl, hi, hb, hb2⟩; refine ⟨_, rfl, ?_⟩; replace HB := Qz.mk (hb); have HI104 := Qz.mk (hi); have NB104_101 := Qz.mk (IsS123.ne_blk hi (qu (g := gb101) (o := .cells #[.slice none 0 0, .int .i64 0, .int .i64 0, .int .i64 0] 32 (0, 0)) yq148 hb2) (by decide)); have NB101_104 := Qz.mk (Ne.symm (IsS123.ne_blk hi (qu (g := gb101) (o := .cells #[.slice none 0 0, .int .i64 0, .int .i64 0, .int .i64 0] 32 (0, 0)) yq148 hb2) (by decide))); replace BK101 := Qz.mk (qu (g := gb101) (o := .cells #[.slice none 0 0, .int .i64 0, .int .i64 0, .int .i64 0] 32 (0, 0)) yq148 hb2); (try clear hb); (try clear hb2); (try clear hk); (try clear hi)) | ((with_reducible refine qm (f := 71) rfl ?_); refine qy (some 7) rfl rfl Try.func71 (by kernel_rfl) rfl #[.pointer (some ⟨g104, 0, none⟩)] rfl (by (try simp only [List.map_toArray, List.map_cons, List.map_nil]); first | done | rfl) ?_; (with_reducible refine (spec_l1Rd_version.calls k g104 t102 t103 t105 t108 t109 t110 t111 w _ ?side1 ?side2 A3.out).mono ?_); (case side1 => repeat (first | (with_reducible first | exact HI104.out | apply IsS123.alloc | apply IsS123.drewN | apply IsS123.drew | apply IsS123.set_1 | apply (fun h_ => IsS123.far h_ NB104_101.out _)) | exact HI104.out)); (case side2 => repeat (first | (with_reducible first | exact HB.out | apply qi | apply qd | apply qh | refine qe ?_ (IsS123.ge HI104.out) | refine qe ?_ GE101.out) | exact HB.out)); rintro e w6 ⟨v106, rfl, ho0, hi, hb, hk⟩; refine ⟨_, rfl, ?_⟩; replace BK101 := Qz.mk (KeepBut.blk hk (g' := gb101) (o := .cells #[.slice none 0 0, .int .i64 0, .int .i64 0, .int .i64 0] 32 (0, 0)) yq148 NB101_104.out (by simp)); have HO107 := Qz.mk (Kd.R_lower ho0 (qb1 (by repeat (first | (with_reducible first | exact HB.out | apply qi | apply qd | apply qh | refine qe ?_ (IsS123.ge HI104.out) | refine qe ?_ GE101.out) | exact HB.out)))); replace HB := Qz.mk (hb); replace HI104 := Qz.mk (hi); (try clear hb); (try clear hb2); (try clear hk); (try clear hi); (try clear ho0); obtain ⟨Ao7, co7, eo7⟩ := Kd.R_slice HO107.out; subst eo7; have hnb8 := NB101_104.out; have hnc8 := NB104_101.out; have hcz9_0 := (qg BK101.out 0).trans rfl; have hcz9_1 := (qg BK101.out 1).trans rfl; have hcz9_2 := (qg BK101.out 2).trans rfl; have hcz9_3 := (qg BK101.out 3).trans rfl; have hfz9_0 := qj BK101.out 0; have hfz9_1 := qj BK101.out 1; have hfz9_2 := qj BK101.out 2; have hfz9_3 := qj BK101.out 3))
 refine bodyPost_ret (results_cell_row rfl _ _ gb101 32 #[.slice Ao7 t105.length co7, .int .i64 t108, .int .i64 t109, .int .i64 t110] (0, 0) _ rfl (by (with_reducible repeat (first | refine qc ?_ _ | refine qf ?_ | refine qa ?_ _)); refine qw (cs := #[.slice Ao7 t105.length co7, .int .i64 t108, .int .i64 t109, .int .i64 0]) ?_ 3 _ rfl; (with_reducible repeat (first | refine qc ?_ _ | refine qf ?_ | refine qa ?_ _)); refine qw (cs := #[.slice Ao7 t105.length co7, .int .i64 t108, .int .i64 0, .int .i64 0]) ?_ 2 _ rfl; (with_reducible repeat (first | refine qc ?_ _ | refine qf ?_ | refine qa ?_ _)); refine qw (cs := #[.slice Ao7 t105.length co7, .int .i64 0, .int .i64 0, .int .i64 0]) ?_ 1 _ rfl; (with_reducible repeat (first | refine qc ?_ _ | refine qf ?_ | refine qa ?_ _)); refine qw (cs := #[.slice none 0 0, .int .i64 0, .int .i64 0, .int .i64 0]) ?_ 0 _ rfl; (with_reducible repeat (first | refine qc ?_ _ | refine qf ?_ | refine qa ?_ _)); exact BK101.out) Try.underlying32 rfl (by kernel_rfl)) rfl ?_
 exact ⟨_, by first | rfl | (simp [qt, qr] <;> rfl) | (simp [*, qt, qr] <;> rfl), by (with_reducible repeat (first | apply Kd.R_alloc | apply Kd.R_drewN | apply Kd.R_drew)); exact Kd.R_mono (Kd.R_far (p := ⟨gb101, 3, none⟩) (Kd.R_far (p := ⟨gb101, 2, none⟩) (Kd.R_far (p := ⟨gb101, 1, none⟩) (Kd.R_far (p := ⟨gb101, 0, none⟩) (Kd.R_types HO107.out BK101.out (by decide)) (fun _ hk => hk.2) (.slice Ao7 t105.length co7)) (fun _ hk => hk.2) (.int .i64 t108)) (fun _ hk => hk.2) (.int .i64 t109)) (fun _ hk => hk.2) (.int .i64 t110)) (fun _ hk => trivial), by repeat (first | (with_reducible first | exact HB.out | apply qi | apply qd | apply qh | refine qe ?_ (IsS123.ge HI104.out) | refine qe ?_ GE101.out) | exact HB.out)⟩
theorem yq149 {P : Prop} (h : P := by repeat (first | (with_reducible first | exact HK.out | apply KeepBut.set_ | apply qn | apply qp | apply qo) | exact HK.out)) : P := h
theorem yq150 {P : Prop} (h : P := by repeat (first | (with_reducible first | exact HI0.out | apply IsS123.alloc | apply IsS123.drewN | apply IsS123.drew | apply IsS123.set_1) | exact HI0.out)) : P := h
theorem yq151 {P : Prop} (h : P := by repeat (first | (with_reducible first | exact HB.out | apply qi | apply qd | apply qh | refine qe ?_ (IsS123.ge HI0.out)) | exact HB.out)) : P := h
def spec_l1Rd_bytes.l0 : Nat → List Int → Int → List Int → Int → Option (ByteArray × Int)
 | 0, _, _, _, _ => none
 | k + 1, x5, x6, x1000, x1001 => if x6 > 0 then ((spec_l1Rd_below.f x1000 x1001 256).bind fun bt106 => (if x5.length < 140737488355328 then (spec_l1Rd_bytes.l0 k (x5 ++ [(bt106.1) % 256]) (wrap64 (x6 - 1)) x1000 bt106.2) else (none))) else (some (strOfNums x5, x1001))
def spec_l1Rd_bytes.f (k : Nat) (s0_0 : List Int) (s0_1 : Int) (a1 : Int) : Option (ByteArray × Int) := (spec_l1Rd_below.f s0_0 s0_1 (wrap64 (a1 + 1))).bind fun bt104 => (spec_l1Rd_bytes.l0 k (([] : List Int)) bt104.1 s0_0 bt104.2)
set_option maxHeartbeats 8000000 in
set_option maxRecDepth 100000 in
theorem spec_l1Rd_bytes.calls (k : Nat) (g : Nat) (s0_0 : List Int) (s0_1 : Int) (a1 : Int) (r1 : ByteArray) (r2 : Int) (w0 w : World) (hI : IsS123 w0 w g s0_0 s0_1) (hB : Below w0.heap.size w0 w) (h : spec_l1Rd_bytes.f k s0_0 s0_1 a1 = some (r1, r2)) :
  Calls Try.prog 89 #[.pointer (some ⟨g, 0, none⟩), .int .i64 a1] w fun e w' => e = .returned (.string r1) ∧ IsS123 w0 w' g s0_0 r2 ∧ Below w0.heap.size w0 w' ∧ KeepBut w w' g none := by
 have HI0 := Qz.mk hI
 have HK := Qz.mk (KeepBut.refl w g none)
 have HL := Qz.mk hB.size
 clear hI
 have HW0 := Qz.mk hB.size
 have HB := Qz.mk hB
 clear hB
 have H : ((spec_l1Rd_below.f s0_0 s0_1 (wrap64 (a1 + 1))).bind fun bt104 => (spec_l1Rd_bytes.l0 k (([] : List Int)) bt104.1 s0_0 bt104.2)) = some (r1, r2) := h
 clear h
 obtain ⟨y101, hy101⟩ : ∃ y_ : List Int, y_ = (([] : List Int)) := ⟨_, rfl⟩
 replace H : ((spec_l1Rd_below.f s0_0 s0_1 (wrap64 (a1 + 1))).bind fun bt104 => (spec_l1Rd_bytes.l0 k y101 bt104.1 s0_0 bt104.2)) = some (r1, r2) := by first | (rw [hy101]; with_reducible exact H) | (have H2_ := (Option.bind_some _ _).symm.trans H; rw [hy101]; with_reducible exact H2_) | (have H2_ := (Option.bind_some _ _).symm.trans H; with_reducible exact H2_) | with_reducible exact H | (rw [hy101]; exact H) | exact H
 have Ny101 := Qz.mk hy101
 clear hy101
 replace H := Option.bind_eq_some_iff.mp H
 obtain ⟨⟨t104, t105⟩, A30, H⟩ := H
 replace H : (spec_l1Rd_bytes.l0 k y101 t104 s0_0 t105) = some (r1, r2) := H
 have A3 := Qz.mk A30
 clear A30
 have H' := Qz.mk H
 clear H
 go_enter Try.func89, Try.ntmps89
 go_wp2_with (first | ((with_reducible refine gate_dst (N := 7) rfl ?_); refine Kd.R_lit (Kd.int .u8) _ 5 ?hg (N := 7) ?hd (xs := ([] : List Int)) (inner := []) (ok := fun _ => True) (okp := fun _ => True) ?hr ?hp (fun _ hk => hk) trivial (Below.refl _ _) (Nat.le_refl _) (by simp) ?_; (case hd => rfl); (case hg => rfl); (case hr => first | (go_simp; done) | (go_simp; rfl)); (case hp => exact (Reps.none _ _)); intro v102 w4 ho5 hb hg_ hnew_; clear hg_ hnew_; (first | rw [← Ny101.out] at ho5 | (simp only [Int.reduceToNat] at ho5; rw [← Ny101.out] at ho5)); have HO103 := Qz.mk (Kd.R_lower ho5 (qi1 (w := w) (g := g) (row := none) yq149)); replace HK := Qz.mk (KeepBut.trans yq149 (KeepBut.of_below hb g none) (.inl rfl)); replace HB := Qz.mk (qq yq151 hb); replace HI0 := Qz.mk (IsS123.below yq150 hb); clear hb ho5) | ((with_reducible refine qm (f := 80) rfl ?_); refine qy (some 11) rfl rfl Try.func80 (by kernel_rfl) rfl #[.pointer (some ⟨g, 0, none⟩), .int .i64 (wrap64 (a1 + 1))] rfl (by (try simp only [List.map_toArray, List.map_cons, List.map_nil]); first | done | rfl | (simp only [List.length_drop, List.length_take]; rfl) | (rw [IntWalk.u64_in _ (by omega)] <;> rfl)) ?_; (with_reducible refine (spec_l1Rd_below.calls g s0_0 s0_1 (wrap64 (a1 + 1)) t104 t105 w0 _ ?side1 ?side2 A3.out).mono ?_); (case side1 => exact yq150); (case side2 => exact yq151); rintro e w6 ⟨rfl, hi, hb, hk⟩; refine ⟨_, rfl, ?_⟩; replace HO103 := Qz.mk (Kd.R_mono (Kd.R_keep (IsS123.apart (show IsS123 w0 _ g s0_0 s0_1 from by repeat (first | (with_reducible first | exact HI0.out | apply IsS123.alloc | apply IsS123.drewN | apply IsS123.drew | apply IsS123.set_1) | exact HI0.out)) (by (with_reducible repeat (first | apply Kd.R_alloc | apply Kd.R_drewN | apply Kd.R_drew)); exact HO103.out) (by decide)) hk (fun _ h => h.2)) (fun _ h => h.1)); replace HK := Qz.mk (KeepBut.trans yq149 hk (.inl rfl)); replace HB := Qz.mk (hb); replace HI0 := Qz.mk (hi); (try clear hb); (try clear hk); (try clear hi)))
 go_loopg [5, 6] k (fun kq v5 v6 w' => ∃ (x5_1 : List Int) (x6_1 : Int) (x1001_1 : Int), v6 = .int .i64 x6_1 ∧ Qz (spec_l1Rd_bytes.l0 kq x5_1 x6_1 s0_0 x1001_1 = some (r1, r2)) ∧ Qz (kq ≤ k) ∧ Qz (Kd.R (Kd.int .u8) 5 w' w.heap.size (fun _ => True) v5 x5_1) ∧ Qz (IsS123 w0 w' g s0_0 x1001_1) ∧ Qz (KeepBut w w' g none) ∧ Qz (Below w0.heap.size w0 w'))
 case atStart => exact ⟨(y101), (t104), (t105), (by first | rfl | (simp; done) | (simp [*]; done)), H', ⟨Nat.le_refl _⟩, ⟨by (with_reducible repeat (first | apply Kd.R_alloc | apply Kd.R_drewN | apply Kd.R_drew)); exact HO103.out⟩, ⟨by repeat (first | (with_reducible first | exact HI0.out | apply IsS123.alloc | apply IsS123.drewN | apply IsS123.drew | apply IsS123.set_1) | exact HI0.out)⟩, ⟨by repeat (first | (with_reducible first | exact HK.out | apply KeepBut.set_ | apply qn | apply qp | apply qo) | exact HK.out)⟩, ⟨by repeat (first | (with_reducible first | exact HB.out | apply qi | apply qd | apply qh | refine qe ?_ (IsS123.ge HI0.out)) | exact HB.out)⟩⟩
 case round =>
  clear H'
  (try clear p2);(try clear p6)
  obtain ⟨x5_1, x6_1, x1001_1, rfl, HA, HK1, HO_5, HI0, HK, HB⟩ := hrel
  cases gk with
  | zero => exact absurd HA.out (by simp [spec_l1Rd_bytes.l0])
  | succ k1 =>
   have H := HA.out
   clear HA
   simp only [spec_l1Rd_bytes.l0] at H
   by_cases c7 : x6_1 > 0
   ·rw [if_pos c7] at H
    have c7b0 : decide (0 < x6_1) = true := decide_eq_true c7
    clear c7
    replace H := Option.bind_eq_some_iff.mp H
    obtain ⟨⟨t106, t107⟩, A80, H⟩ := H
    replace H : (if x5_1.length < 140737488355328 then (spec_l1Rd_bytes.l0 k1 (x5_1 ++ [(t106) % 256]) (wrap64 (x6_1 - 1)) s0_0 t107) else (none)) = some (r1, r2) := H
    have A8 := Qz.mk A80
    clear A80
    by_cases c9 : x5_1.length < 140737488355328
    ·rw [if_pos c9] at H
     have LMc9 := Qz.mk c9
     clear c9
     obtain ⟨y108, hy108⟩ : ∃ y_ : List Int, y_ = (x5_1 ++ [(t106) % 256]) := ⟨_, rfl⟩
     replace H : (spec_l1Rd_bytes.l0 k1 y108 (wrap64 (x6_1 - 1)) s0_0 t107) = some (r1, r2) := by first | (rw [hy108]; with_reducible exact H) | (have H2_ := (Option.bind_some _ _).symm.trans H; rw [hy108]; with_reducible exact H2_) | (have H2_ := (Option.bind_some _ _).symm.trans H; with_reducible exact H2_) | with_reducible exact H | (rw [hy108]; exact H) | exact H
     have Ny108 := Qz.mk hy108
     clear hy108
     have H' := Qz.mk H
     clear H
     go_wp2_with (first | ((with_reducible refine qm (f := 80) rfl ?_); refine qy (some 18) rfl rfl Try.func80 (by kernel_rfl) rfl #[.pointer (some ⟨g, 0, none⟩), .int .i64 256] rfl (by (try simp only [List.map_toArray, List.map_cons, List.map_nil]); first | done | rfl) ?_; (with_reducible refine (spec_l1Rd_below.calls g s0_0 x1001_1 256 t106 t107 w0 _ ?side1 ?side2 A8.out).mono ?_); (case side1 => exact yq150); (case side2 => exact yq151); rintro e w10 ⟨rfl, hi, hb, hk⟩; refine ⟨_, rfl, ?_⟩; replace HO_5 := Qz.mk (Kd.R_mono (Kd.R_keep (IsS123.apart (show IsS123 w0 _ g s0_0 x1001_1 from by repeat (first | (with_reducible first | exact HI0.out | apply IsS123.alloc | apply IsS123.drewN | apply IsS123.drew | apply IsS123.set_1) | exact HI0.out)) (by (with_reducible repeat (first | apply Kd.R_alloc | apply Kd.R_drewN | apply Kd.R_drew)); exact HO_5.out) (by decide)) hk (fun _ h => h.2)) (fun _ h => h.1)); replace HK := Qz.mk (KeepBut.trans yq149 hk (.inl rfl)); replace HB := Qz.mk (hb); replace HI0 := Qz.mk (hi); (try clear hb); (try clear hk); (try clear hi)) | ((with_reducible refine gate_builtin (b := .append) (xs := #[.tmp 16, .tmp 20]) rfl ?_); at_builtin; refine Kd.R_append (Kd.int .u8) w.heap.size rfl (.tmp 16) (.tmp 20) 57 5 (.int .u8 0) 1 rfl Try.underlying57 info5 rfl (by decide) (by omega) u5 x5_1 ((t106) % 256) [.int .u8 ((t106) % 256)] (fun _ => True) (fun _ => False) rfl rfl ?aP (fun _ hk => hk.elim) ?aF ?aO (Below.refl _ _) ?aS ?aL ?_; (case aP => exact rfl); (case aF => exact (fun _ _ => trivial)); (case aO => exact (by (with_reducible repeat (first | apply Kd.R_alloc | apply Kd.R_drewN | apply Kd.R_drew)); exact HO_5.out)); (case aS => exact (qi1 (w := w) (g := g) (row := none) yq149)); (case aL => have := LMc9.out; omega); intro v109 w11 ho hb hg hat; rw [← Ny108.out] at ho; have n0_ := Qz.mk (IsS123.grown yq150 hg (IsS123.own_ne HI0.out HO_5.out (by decide))); have n1_ := Qz.mk (below_weaken yq151 HL.out hb); have n2_ := Qz.mk (KeepBut.trans yq149 (KeepBut.of_grown hg g) (Kd.R_base2 HO_5.out)); have n3_ := Qz.mk (ho); clear HI0; clear HB; clear HK; clear HO_5; have HI0 := n0_; have HB := n1_; have HK := n2_; have HO110 := n3_; clear n0_ n1_ n2_ n3_; clear ho hb hg hat))
     go_roundg k1
     case measure => have := HK1.out; omega
     case rel => exact ⟨(y108), (wrap64 (x6_1 - 1)), (t107), (by first | rfl | (simp; done) | (simp [*]; done)), H', ⟨by have := HK1.out; omega⟩, ⟨by (with_reducible repeat (first | apply Kd.R_alloc | apply Kd.R_drewN | apply Kd.R_drew)); exact HO110.out⟩, ⟨by repeat (first | (with_reducible first | exact HI0.out | apply IsS123.alloc | apply IsS123.drewN | apply IsS123.drew | apply IsS123.set_1) | exact HI0.out)⟩, ⟨by repeat (first | (with_reducible first | exact HK.out | apply KeepBut.set_ | apply qn | apply qp | apply qo) | exact HK.out)⟩, ⟨by repeat (first | (with_reducible first | exact HB.out | apply qi | apply qd | apply qh | refine qe ?_ (IsS123.ge HI0.out)) | exact HB.out)⟩⟩
    ·rw [if_neg c9] at H
     exact absurd H (by simp)
   ·rw [if_neg c7] at H
    have c7b0 : decide (0 < x6_1) = false := decide_eq_false c7
    clear c7
    simp only [Option.some.injEq, Prod.mk.injEq] at H
    obtain ⟨rfl, rfl⟩ := H
    have hcv12 := own_string (P := Try.prog) Try.underlying57 Try.underlying5 Try.underlying9 (Kd.own_of_R HO_5.out)
    go_wp2
    go_ret
    exact ⟨by first | rfl | (simp [qt, qr] <;> rfl) | (simp [*, qt, qr] <;> rfl), by repeat (first | (with_reducible first | exact HI0.out | apply IsS123.alloc | apply IsS123.drewN | apply IsS123.drew | apply IsS123.set_1) | exact HI0.out), by repeat (first | (with_reducible first | exact HB.out | apply qi | apply qd | apply qh | refine qe ?_ (IsS123.ge HI0.out)) | exact HB.out), by repeat (first | (with_reducible first | exact HK.out | apply KeepBut.set_ | apply qn | apply qp | apply qo) | exact HK.out)⟩
theorem yq152 {P : Prop} (h : P := by repeat (first | (with_reducible first | exact HB.out | apply qi | apply qd | apply qh | refine qe ?_ (IsS123.ge HI103.out)) | exact HB.out)) : P := h
theorem yq153 {P : Prop} (h : P := by repeat (first | (with_reducible first | exact HI103.out | apply IsS123.alloc | apply IsS123.drewN | apply IsS123.drew | apply IsS123.set_1) | exact HI103.out)) : P := h
theorem yq154 {P : Prop} (h : P := by (try simp only [List.map_toArray, List.map_cons, List.map_nil]); first | done | rfl | (simp only [List.length_drop, List.length_take]; rfl) | (rw [IntWalk.u64_in _ (by omega)] <;> rfl)) : P := h
theorem yq155 {P : Prop} (h : P := by (with_reducible repeat (first | apply Kd.R_alloc | apply Kd.R_drewN | apply Kd.R_drew)); exact HO106.out) : P := h
theorem yq156 {P : Prop} (h : P := by (try simp only [List.map_toArray, List.map_cons, List.map_nil]); first | done | rfl) : P := h
theorem yq157 {P : Prop} (h : P := by repeat (first | exact (Kd.R_reads' HO106.out).2.2 | (with_reducible refine Kd.C_alloc ?_ _) | (with_reducible refine Kd.C_drewN ?_ _) | (with_reducible refine Kd.C_drew ?_))) : P := h
theorem yq158 {P : Prop} (h : P := by repeat (first | (with_reducible first | exact HB.out | apply qi | apply qd | apply qh) | exact HB.out)) : P := h
def spec_DrawReadVersion.f (k : Nat) (l0 : List Int) : Option (ByteArray) := (spec_l1Open.f l0).bind fun bt101 => ((spec_l1Rd_version.f k bt101.1 bt101.2).bind fun bt104 => ((spec_VersionText.f k bt104.1 bt104.2.1 bt104.2.2.1 bt104.2.2.2.1).bind fun t111 => ((spec_l1Rd_below.f bt101.1 bt104.2.2.2.2 6).bind fun bt112 => (if bt112.1 = 0 then ((spec_l1Rd_bytes.f k bt101.1 bt112.2 2).bind fun bt114 => (if t111.size + bt114.1.size ≤ 9223372036854775807 then (some (t111 ++ bt114.1)) else (none))) else (if bt112.1 = 1 then (if (t111.size : Int) > 0 then ((spec_l1Rd_below.f bt101.1 bt112.2 (t111.size : Int)).bind fun bt116 => (if 0 ≤ bt116.1 then (if bt116.1 ≤ (t111.size : Int) then ((spec_l1Rd_bytes.f k bt101.1 bt116.2 1).bind fun bt118 => (if (bt116.1 : Int).toNat + bt118.1.size ≤ 9223372036854775807 then (if 0 ≤ (wrap64 (bt116.1 + 1)) then (if (wrap64 (bt116.1 + 1)) ≤ (t111.size : Int) then (if (bt116.1 : Int).toNat + bt118.1.size + (t111.size - ((wrap64 (bt116.1 + 1)) : Int).toNat) ≤ 9223372036854775807 then (some (((t111.extract 0 (bt116.1 : Int).toNat) ++ bt118.1) ++ (t111.extract ((wrap64 (bt116.1 + 1)) : Int).toNat t111.size))) else (none)) else (none)) else (none)) else (none))) else (none)) else (none))) else (some t111)) else (if bt112.1 = 2 then ((spec_l1Rd_bytes.f k bt101.1 bt112.2 9).bind fun bt120 => ((spec_l10Section.f k bt120.1).bind fun t122 => (some t122))) else (some t111)))))))
def spec_DrawReadVersion.T9 : Bool × List (List Nat × List Nat) := (true, [([], []), ([], []), ([0, 1], [0, 1]), ([], []), ([3], [3]), ([2, 4], [2, 4]), ([], []), ([], []), ([7], [7]), ([6, 8], [6, 8]), ([5, 9], [5, 9]), ([10, 4, 0, 1, 2, 3, 4, 5, 6, 7, 8, 9, 10], [10])])
def spec_DrawReadVersion.B9 : List Nat := [0, 0, 3, 0, 8, 31, 0, 0, 128, 448, 1023, 2047]
theorem spec_DrawReadVersion.tab9 : rtab .any (opsOf Try.f53 9) = spec_DrawReadVersion.T9 := by kernel_rfl
theorem spec_DrawReadVersion.bits9 : waitsOk spec_DrawReadVersion.T9.2 spec_DrawReadVersion.B9 = true := by kernel_rfl
set_option maxHeartbeats 8000000 in
set_option maxRecDepth 100000 in
theorem spec_DrawReadVersion.calls (k : Nat) (A0 : Option Addr) (c0 : Nat) (l0 : List Int) (r : ByteArray) (w : World) (hr0 : Kd.C (Kd.int .u8) w A0 l0.length l0) (hc0 : l0.length ≤ c0) (h : spec_DrawReadVersion.f k l0 = some r) :
  Calls Try.prog 53 #[.slice A0 l0.length c0] w fun e w' => e = .returned (.string r) ∧ Below w.heap.size w w' := by
 have HR0 := Qz.mk hr0
 have HC0 := Qz.mk hc0
 clear hr0 hc0
 have HB := Qz.mk (Below.refl w.heap.size w)
 have H : ((spec_l1Open.f l0).bind fun bt101 => ((spec_l1Rd_version.f k bt101.1 bt101.2).bind fun bt104 => ((spec_VersionText.f k bt104.1 bt104.2.1 bt104.2.2.1 bt104.2.2.2.1).bind fun t111 => ((spec_l1Rd_below.f bt101.1 bt104.2.2.2.2 6).bind fun bt112 => (if bt112.1 = 0 then ((spec_l1Rd_bytes.f k bt101.1 bt112.2 2).bind fun bt114 => (if t111.size + bt114.1.size ≤ 9223372036854775807 then (some (t111 ++ bt114.1)) else (none))) else (if bt112.1 = 1 then (if (t111.size : Int) > 0 then ((spec_l1Rd_below.f bt101.1 bt112.2 (t111.size : Int)).bind fun bt116 => (if 0 ≤ bt116.1 then (if bt116.1 ≤ (t111.size : Int) then ((spec_l1Rd_bytes.f k bt101.1 bt116.2 1).bind fun bt118 => (if (bt116.1 : Int).toNat + bt118.1.size ≤ 9223372036854775807 then (if 0 ≤ (wrap64 (bt116.1 + 1)) then (if (wrap64 (bt116.1 + 1)) ≤ (t111.size : Int) then (if (bt116.1 : Int).toNat + bt118.1.size + (t111.size - ((wrap64 (bt116.1 + 1)) : Int).toNat) ≤ 9223372036854775807 then (some (((t111.extract 0 (bt116.1 : Int).toNat) ++ bt118.1) ++ (t111.extract ((wrap64 (bt116.1 + 1)) : Int).toNat t111.size))) else (none)) else (none)) else (none)) else (none))) else (none)) else (none))) else (some t111)) else (if bt112.1 = 2 then ((spec_l1Rd_bytes.f k bt101.1 bt112.2 9).bind fun bt120 => ((spec_l10Section.f k bt120.1).bind fun t122 => (some t122))) else (some t111)))))))) = some r := h
 clear h
 replace H := Option.bind_eq_some_iff.mp H
 obtain ⟨⟨t101, t102⟩, A20, H⟩ := H
 replace H : ((spec_l1Rd_version.f k t101 t102).bind fun bt104 => ((spec_VersionText.f k bt104.1 bt104.2.1 bt104.2.2.1 bt104.2.2.2.1).bind fun t111 => ((spec_l1Rd_below.f t101 bt104.2.2.2.2 6).bind fun bt112 => (if bt112.1 = 0 then ((spec_l1Rd_bytes.f k t101 bt112.2 2).bind fun bt114 => (if t111.size + bt114.1.size ≤ 9223372036854775807 then (some (t111 ++ bt114.1)) else (none))) else (if bt112.1 = 1 then (if (t111.size : Int) > 0 then ((spec_l1Rd_below.f t101 bt112.2 (t111.size : Int)).bind fun bt116 => (if 0 ≤ bt116.1 then (if bt116.1 ≤ (t111.size : Int) then ((spec_l1Rd_bytes.f k t101 bt116.2 1).bind fun bt118 => (if (bt116.1 : Int).toNat + bt118.1.size ≤ 9223372036854775807 then (if 0 ≤ (wrap64 (bt116.1 + 1)) then (if (wrap64 (bt116.1 + 1)) ≤ (t111.size : Int) then (if (bt116.1 : Int).toNat + bt118.1.size + (t111.size - ((wrap64 (bt116.1 + 1)) : Int).toNat) ≤ 9223372036854775807 then (some (((t111.extract 0 (bt116.1 : Int).toNat) ++ bt118.1) ++ (t111.extract ((wrap64 (bt116.1 + 1)) : Int).toNat t111.size))) else (none)) else (none)) else (none)) else (none))) else (none)) else (none))) else (some t111)) else (if bt112.1 = 2 then ((spec_l1Rd_bytes.f k t101 bt112.2 9).bind fun bt120 => ((spec_l10Section.f k bt120.1).bind fun t122 => (some t122))) else (some t111))))))) = some r := H
 have A2 := Qz.mk A20
 clear A20
 replace H := Option.bind_eq_some_iff.mp H
 obtain ⟨⟨t104, t107, t108, t109, t110⟩, A30, H⟩ := H
 replace H : ((spec_VersionText.f k t104 t107 t108 t109).bind fun t111 => ((spec_l1Rd_below.f t101 t110 6).bind fun bt112 => (if bt112.1 = 0 then ((spec_l1Rd_bytes.f k t101 bt112.2 2).bind fun bt114 => (if t111.size + bt114.1.size ≤ 9223372036854775807 then (some (t111 ++ bt114.1)) else (none))) else (if bt112.1 = 1 then (if (t111.size : Int) > 0 then ((spec_l1Rd_below.f t101 bt112.2 (t111.size : Int)).bind fun bt116 => (if 0 ≤ bt116.1 then (if bt116.1 ≤ (t111.size : Int) then ((spec_l1Rd_bytes.f k t101 bt116.2 1).bind fun bt118 => (if (bt116.1 : Int).toNat + bt118.1.size ≤ 9223372036854775807 then (if 0 ≤ (wrap64 (bt116.1 + 1)) then (if (wrap64 (bt116.1 + 1)) ≤ (t111.size : Int) then (if (bt116.1 : Int).toNat + bt118.1.size + (t111.size - ((wrap64 (bt116.1 + 1)) : Int).toNat) ≤ 9223372036854775807 then (some (((t111.extract 0 (bt116.1 : Int).toNat) ++ bt118.1) ++ (t111.extract ((wrap64 (bt116.1 + 1)) : Int).toNat t111.size))) else (none)) else (none)) else (none)) else (none))) else (none)) else (none))) else (some t111)) else (if bt112.1 = 2 then ((spec_l1Rd_bytes.f k t101 bt112.2 9).bind fun bt120 => ((spec_l10Section.f k bt120.1).bind fun t122 => (some t122))) else (some t111)))))) = some r := H
 have A3 := Qz.mk A30
 clear A30
 replace H := Option.bind_eq_some_iff.mp H
 obtain ⟨t111, A40, H⟩ := H
 replace H : ((spec_l1Rd_below.f t101 t110 6).bind fun bt112 => (if bt112.1 = 0 then ((spec_l1Rd_bytes.f k t101 bt112.2 2).bind fun bt114 => (if t111.size + bt114.1.size ≤ 9223372036854775807 then (some (t111 ++ bt114.1)) else (none))) else (if bt112.1 = 1 then (if (t111.size : Int) > 0 then ((spec_l1Rd_below.f t101 bt112.2 (t111.size : Int)).bind fun bt116 => (if 0 ≤ bt116.1 then (if bt116.1 ≤ (t111.size : Int) then ((spec_l1Rd_bytes.f k t101 bt116.2 1).bind fun bt118 => (if (bt116.1 : Int).toNat + bt118.1.size ≤ 9223372036854775807 then (if 0 ≤ (wrap64 (bt116.1 + 1)) then (if (wrap64 (bt116.1 + 1)) ≤ (t111.size : Int) then (if (bt116.1 : Int).toNat + bt118.1.size + (t111.size - ((wrap64 (bt116.1 + 1)) : Int).toNat) ≤ 9223372036854775807 then (some (((t111.extract 0 (bt116.1 : Int).toNat) ++ bt118.1) ++ (t111.extract ((wrap64 (bt116.1 + 1)) : Int).toNat t111.size))) else (none)) else (none)) else (none)) else (none))) else (none)) else (none))) else (some t111)) else (if bt112.1 = 2 then ((spec_l1Rd_bytes.f k t101 bt112.2 9).bind fun bt120 => ((spec_l10Section.f k bt120.1).bind fun t122 => (some t122))) else (some t111))))) = some r := H
 have A4 := Qz.mk A40
 clear A40
 replace H := Option.bind_eq_some_iff.mp H
 obtain ⟨⟨t112, t113⟩, A50, H⟩ := H
 replace H : (if t112 = 0 then ((spec_l1Rd_bytes.f k t101 t113 2).bind fun bt114 => (if t111.size + bt114.1.size ≤ 9223372036854775807 then (some (t111 ++ bt114.1)) else (none))) else (if t112 = 1 then (if (t111.size : Int) > 0 then ((spec_l1Rd_below.f t101 t113 (t111.size : Int)).bind fun bt116 => (if 0 ≤ bt116.1 then (if bt116.1 ≤ (t111.size : Int) then ((spec_l1Rd_bytes.f k t101 bt116.2 1).bind fun bt118 => (if (bt116.1 : Int).toNat + bt118.1.size ≤ 9223372036854775807 then (if 0 ≤ (wrap64 (bt116.1 + 1)) then (if (wrap64 (bt116.1 + 1)) ≤ (t111.size : Int) then (if (bt116.1 : Int).toNat + bt118.1.size + (t111.size - ((wrap64 (bt116.1 + 1)) : Int).toNat) ≤ 9223372036854775807 then (some (((t111.extract 0 (bt116.1 : Int).toNat) ++ bt118.1) ++ (t111.extract ((wrap64 (bt116.1 + 1)) : Int).toNat t111.size))) else (none)) else (none)) else (none)) else (none))) else (none)) else (none))) else (some t111)) else (if t112 = 2 then ((spec_l1Rd_bytes.f k t101 t113 9).bind fun bt120 => ((spec_l10Section.f k bt120.1).bind fun t122 => (some t122))) else (some t111)))) = some r := H
 have A5 := Qz.mk A50
 clear A50
 by_cases c6 : t112 = 0
 ·rw [if_pos c6] at H
  have c6b0 : (t112 == 0) = true := beq_iff_eq.mpr c6
  have c6b1 : (t112 != 0) = false := bne_eq_false_iff_eq.mpr c6
  clear c6
  replace H := Option.bind_eq_some_iff.mp H
  obtain ⟨⟨t114, t115⟩, A70, H⟩ := H
  replace H : (if t111.size + t114.size ≤ 9223372036854775807 then (some (t111 ++ t114)) else (none)) = some r := H
  have A7 := Qz.mk A70
  clear A70
  by_cases c8 : t111.size + t114.size ≤ 9223372036854775807
  ·rw [if_pos c8] at H
   have c8b0 := eq_true c8
   have c8b1 : decide (t111.size + t114.size ≤ 9223372036854775807) = true := decide_eq_true c8
   try have c8b2 : (9223372036854775807 < t111.size + t114.size) = False := eq_false (Nat.not_lt.2 c8)
   obtain rfl := Option.some.inj H
   go_enter Try.func53, Try.ntmps53
   go_wp2_with (first | ((with_reducible refine qm (f := 70) rfl ?_); refine qy (some 7) rfl rfl Try.func70 (by kernel_rfl) rfl #[.slice A0 l0.length c0] rfl yq154 ?_; (with_reducible refine (spec_l1Open.calls _ _ l0 t101 t102 w _ ?side1 ?side2 ?side3 A2.out).mono ?_); (case side1 => exact yq158); (case side2 => exact HR0.out); (case side3 => exact HC0.out); rintro e w9 ⟨g103, rfl, hi, hb, hb2⟩; refine ⟨_, rfl, ?_⟩; replace HB := Qz.mk (hb); have HI103 := Qz.mk (hi); (try clear hb); (try clear hb2); (try clear hk); (try clear hi)) | ((with_reducible refine qm (f := 71) rfl ?_); refine qy (some 9) rfl rfl Try.func71 (by kernel_rfl) rfl #[.pointer (some ⟨g103, 0, none⟩)] rfl yq156 ?_; (with_reducible refine (spec_l1Rd_version.calls k g103 t101 t102 t104 t107 t108 t109 t110 w _ ?side1 ?side2 A3.out).mono ?_); (case side1 => exact yq153); (case side2 => exact yq152); rintro e w10 ⟨v105, rfl, ho0, hi, hb, hk⟩; refine ⟨_, rfl, ?_⟩; have HO106 := Qz.mk (Kd.R_lower ho0 (qb1 yq152)); replace HB := Qz.mk (hb); replace HI103 := Qz.mk (hi); (try clear hb); (try clear hb2); (try clear hk); (try clear hi); (try clear ho0); obtain ⟨Ao11, co11, eo11⟩ := Kd.R_slice HO106.out; subst eo11) | ((with_reducible refine qm (f := 41) rfl ?_); refine qy (some 10) rfl rfl Try.func41 (by kernel_rfl) rfl #[.agg #[.slice Ao11 t104.length co11, .int .i64 t107, .int .i64 t108, .int .i64 t109]] rfl yq154 ?_; (with_reducible refine (spec_VersionText.calls k _ _ t104 t107 t108 t109 t111 _ ?side1 ?side2 A4.out).mono ?_); (case side1 => exact yq157); (case side2 => exact (Kd.R_reads' HO106.out).2.1); rintro e w12 ⟨rfl, hb⟩; refine ⟨_, rfl, ?_⟩; replace HO106 := Qz.mk (Kd.R_below yq155 hb); replace HB := Qz.mk (qq yq152 hb); replace HI103 := Qz.mk (IsS123.below yq153 hb); (try clear hb); (try clear hb2); (try clear hk); (try clear hi)) | ((with_reducible refine qm (f := 80) rfl ?_); refine qy (some 12) rfl rfl Try.func80 (by kernel_rfl) rfl #[.pointer (some ⟨g103, 0, none⟩), .int .i64 6] rfl yq156 ?_; (with_reducible refine (spec_l1Rd_below.calls g103 t101 t110 6 t112 t113 w _ ?side1 ?side2 A5.out).mono ?_); (case side1 => exact yq153); (case side2 => exact yq152); rintro e w13 ⟨rfl, hi, hb, hk⟩; refine ⟨_, rfl, ?_⟩; replace HO106 := Qz.mk (Kd.R_mono (Kd.R_keep (IsS123.apart (show IsS123 w _ g103 t101 t110 from by repeat (first | (with_reducible first | exact HI103.out | apply IsS123.alloc | apply IsS123.drewN | apply IsS123.drew | apply IsS123.set_1) | exact HI103.out)) yq155 (by decide)) hk (fun _ h => h.2)) (fun _ h => h.1)); replace HB := Qz.mk (hb); replace HI103 := Qz.mk (hi); (try clear hb); (try clear hb2); (try clear hk); (try clear hi)) | ((with_reducible refine qm (f := 89) rfl ?_); refine qy (some 17) rfl rfl Try.func89 (by kernel_rfl) rfl #[.pointer (some ⟨g103, 0, none⟩), .int .i64 2] rfl yq156 ?_; (with_reducible refine (spec_l1Rd_bytes.calls k g103 t101 t113 2 t114 t115 w _ ?side1 ?side2 A7.out).mono ?_); (case side1 => exact yq153); (case side2 => exact yq152); rintro e w14 ⟨rfl, hi, hb, hk⟩; refine ⟨_, rfl, ?_⟩; replace HO106 := Qz.mk (Kd.R_mono (Kd.R_keep (IsS123.apart (show IsS123 w _ g103 t101 t113 from by repeat (first | (with_reducible first | exact HI103.out | apply IsS123.alloc | apply IsS123.drewN | apply IsS123.drew | apply IsS123.set_1) | exact HI103.out)) yq155 (by decide)) hk (fun _ h => h.2)) (fun _ h => h.1)); replace HB := Qz.mk (hb); replace HI103 := Qz.mk (hi); (try clear hb); (try clear hb2); (try clear hk); (try clear hi)))
   go_ret
   exact ⟨by first | rfl | (simp [qt, qr] <;> rfl) | (simp [*, qt, qr] <;> rfl), by repeat (first | (with_reducible first | exact HB.out | apply qi | apply qd | apply qh | refine qe ?_ (IsS123.ge HI103.out)) | exact HB.out)⟩
  ·rw [if_neg c8] at H
   exact absurd H (by simp)
 ·rw [if_neg c6] at H
  have c6b0 : (t112 == 0) = false := beq_eq_false_iff_ne.mpr c6
  have c6b1 : (t112 != 0) = true := bne_iff_ne.mpr c6
  by_cases c15 : t112 = 1
  ·rw [if_pos c15] at H
   have c15b0 : (t112 == 1) = true := beq_iff_eq.mpr c15
   have c15b1 : (t112 != 1) = false := bne_eq_false_iff_eq.mpr c15
   clear c15
   by_cases c16 : (t111.size : Int) > 0
   ·rw [if_pos c16] at H
    have c16b0 : decide (0 < (t111.size : Int)) = true := decide_eq_true c16
    have c16b1 : decide (0 < t111.size) = true := decide_eq_true (by omega)
    clear c16
    replace H := Option.bind_eq_some_iff.mp H
    obtain ⟨⟨t116, t117⟩, A170, H⟩ := H
    replace H : (if 0 ≤ t116 then (if t116 ≤ (t111.size : Int) then ((spec_l1Rd_bytes.f k t101 t117 1).bind fun bt118 => (if (t116 : Int).toNat + bt118.1.size ≤ 9223372036854775807 then (if 0 ≤ (wrap64 (t116 + 1)) then (if (wrap64 (t116 + 1)) ≤ (t111.size : Int) then (if (t116 : Int).toNat + bt118.1.size + (t111.size - ((wrap64 (t116 + 1)) : Int).toNat) ≤ 9223372036854775807 then (some (((t111.extract 0 (t116 : Int).toNat) ++ bt118.1) ++ (t111.extract ((wrap64 (t116 + 1)) : Int).toNat t111.size))) else (none)) else (none)) else (none)) else (none))) else (none)) else (none)) = some r := H
    have A17 := Qz.mk A170
    clear A170
    by_cases c18 : 0 ≤ t116
    ·rw [if_pos c18] at H
     have c18b0 := eq_true c18
     have c18b1 : decide (0 ≤ t116) = true := decide_eq_true c18
     clear c18
     by_cases c19 : t116 ≤ (t111.size : Int)
     ·rw [if_pos c19] at H
      have c19b0 := eq_true c19
      have c19b1 : decide (t116 ≤ (t111.size : Int)) = true := decide_eq_true c19
      clear c19
      replace H := Option.bind_eq_some_iff.mp H
      obtain ⟨⟨t118, t119⟩, A200, H⟩ := H
      replace H : (if (t116 : Int).toNat + t118.size ≤ 9223372036854775807 then (if 0 ≤ (wrap64 (t116 + 1)) then (if (wrap64 (t116 + 1)) ≤ (t111.size : Int) then (if (t116 : Int).toNat + t118.size + (t111.size - ((wrap64 (t116 + 1)) : Int).toNat) ≤ 9223372036854775807 then (some (((t111.extract 0 (t116 : Int).toNat) ++ t118) ++ (t111.extract ((wrap64 (t116 + 1)) : Int).toNat t111.size))) else (none)) else (none)) else (none)) else (none)) = some r := H
      have A20 := Qz.mk A200
      clear A200
      by_cases c21 : (t116 : Int).toNat + t118.size ≤ 9223372036854775807
      ·rw [if_pos c21] at H
       have c21b0 := eq_true c21
       have c21b1 : decide ((t116 : Int).toNat + t118.size ≤ 9223372036854775807) = true := decide_eq_true c21
       try have c21b2 : (9223372036854775807 < (t116 : Int).toNat + t118.size) = False := eq_false (Nat.not_lt.2 c21)
       obtain ⟨ji22, hji22⟩ : ∃ j_ : Int, (wrap64 (t116 + 1)) = j_ := ⟨_, rfl⟩
       replace H : (if 0 ≤ (ji22) then (if (ji22) ≤ (t111.size : Int) then (if (t116 : Int).toNat + t118.size + (t111.size - ((ji22) : Int).toNat) ≤ 9223372036854775807 then (some (((t111.extract 0 (t116 : Int).toNat) ++ t118) ++ (t111.extract ((ji22) : Int).toNat t111.size))) else (none)) else (none)) else (none)) = some r := by first | (rw [hji22] at H; exact H) | (simp only [hji22] at H ⊢; exact H)
       (try rw [hji22] at A2)
       (try rw [hji22] at A3)
       (try rw [hji22] at A4)
       (try rw [hji22] at A5)
       (try rw [hji22] at A17)
       (try rw [hji22] at A20)
       have hji22w : (IntKind.i64.wrap (t116 + 1)) = ji22 := (i64_w _).trans hji22
       by_cases c23 : 0 ≤ (ji22)
       ·rw [if_pos c23] at H
        have c23b0 := eq_true c23
        have c23b1 : decide (0 ≤ (ji22)) = true := decide_eq_true c23
        clear c23
        by_cases c24 : (ji22) ≤ (t111.size : Int)
        ·rw [if_pos c24] at H
         have c24b0 := eq_true c24
         have c24b1 : decide ((ji22) ≤ (t111.size : Int)) = true := decide_eq_true c24
         clear c24
         by_cases c25 : (t116 : Int).toNat + t118.size + (t111.size - ((ji22) : Int).toNat) ≤ 9223372036854775807
         ·rw [if_pos c25] at H
          have c25b0 := eq_true c25
          have c25b1 : decide ((t116 : Int).toNat + t118.size + (t111.size - ((ji22) : Int).toNat) ≤ 9223372036854775807) = true := decide_eq_true c25
          try have c25b2 : (9223372036854775807 < (t116 : Int).toNat + t118.size + (t111.size - ((ji22) : Int).toNat)) = False := eq_false (Nat.not_lt.2 c25)
          obtain rfl := Option.some.inj H
          go_enter Try.func53, Try.ntmps53
          try go_wp2_with (first | ((with_reducible refine qm (f := 70) rfl ?_); refine qy (some 7) rfl rfl Try.func70 (by kernel_rfl) rfl #[.slice A0 l0.length c0] rfl yq154 ?_; (with_reducible refine (spec_l1Open.calls _ _ l0 t101 t102 w _ ?side1 ?side2 ?side3 A2.out).mono ?_); (case side1 => exact yq158); (case side2 => exact HR0.out); (case side3 => exact HC0.out); rintro e w26 ⟨g103, rfl, hi, hb, hb2⟩; refine ⟨_, rfl, ?_⟩; replace HB := Qz.mk (hb); have HI103 := Qz.mk (hi); (try clear hb); (try clear hb2); (try clear hk); (try clear hi)) | ((with_reducible refine qm (f := 71) rfl ?_); refine qy (some 9) rfl rfl Try.func71 (by kernel_rfl) rfl #[.pointer (some ⟨g103, 0, none⟩)] rfl yq156 ?_; (with_reducible refine (spec_l1Rd_version.calls k g103 t101 t102 t104 t107 t108 t109 t110 w _ ?side1 ?side2 A3.out).mono ?_); (case side1 => exact yq153); (case side2 => exact yq152); rintro e w27 ⟨v105, rfl, ho0, hi, hb, hk⟩; refine ⟨_, rfl, ?_⟩; have HO106 := Qz.mk (Kd.R_lower ho0 (qb1 yq152)); replace HB := Qz.mk (hb); replace HI103 := Qz.mk (hi); (try clear hb); (try clear hb2); (try clear hk); (try clear hi); (try clear ho0); obtain ⟨Ao28, co28, eo28⟩ := Kd.R_slice HO106.out; subst eo28) | ((with_reducible refine qm (f := 41) rfl ?_); refine qy (some 10) rfl rfl Try.func41 (by kernel_rfl) rfl #[.agg #[.slice Ao28 t104.length co28, .int .i64 t107, .int .i64 t108, .int .i64 t109]] rfl yq154 ?_; (with_reducible refine (spec_VersionText.calls k _ _ t104 t107 t108 t109 t111 _ ?side1 ?side2 A4.out).mono ?_); (case side1 => exact yq157); (case side2 => exact (Kd.R_reads' HO106.out).2.1); rintro e w29 ⟨rfl, hb⟩; refine ⟨_, rfl, ?_⟩; replace HO106 := Qz.mk (Kd.R_below yq155 hb); replace HB := Qz.mk (qq yq152 hb); replace HI103 := Qz.mk (IsS123.below yq153 hb); (try clear hb); (try clear hb2); (try clear hk); (try clear hi)) | ((with_reducible refine qm (f := 80) rfl ?_); refine qy (some 12) rfl rfl Try.func80 (by kernel_rfl) rfl #[.pointer (some ⟨g103, 0, none⟩), .int .i64 6] rfl yq156 ?_; (with_reducible refine (spec_l1Rd_below.calls g103 t101 t110 6 t112 t113 w _ ?side1 ?side2 A5.out).mono ?_); (case side1 => exact yq153); (case side2 => exact yq152); rintro e w30 ⟨rfl, hi, hb, hk⟩; refine ⟨_, rfl, ?_⟩; replace HO106 := Qz.mk (Kd.R_mono (Kd.R_keep (IsS123.apart (show IsS123 w _ g103 t101 t110 from by repeat (first | (with_reducible first | exact HI103.out | apply IsS123.alloc | apply IsS123.drewN | apply IsS123.drew | apply IsS123.set_1) | exact HI103.out)) yq155 (by decide)) hk (fun _ h => h.2)) (fun _ h => h.1)); replace HB := Qz.mk (hb); replace HI103 := Qz.mk (hi); (try clear hb); (try clear hb2); (try clear hk); (try clear hi)) | ((with_reducible refine qm (f := 80) rfl ?_); refine qy (some 27) rfl rfl Try.func80 (by kernel_rfl) rfl #[.pointer (some ⟨g103, 0, none⟩), .int .i64 (t111.size : Int)] rfl yq156 ?_; (with_reducible refine (spec_l1Rd_below.calls g103 t101 t113 (t111.size : Int) t116 t117 w _ ?side1 ?side2 A17.out).mono ?_); (case side1 => exact yq153); (case side2 => exact yq152); rintro e w31 ⟨rfl, hi, hb, hk⟩; refine ⟨_, rfl, ?_⟩; replace HO106 := Qz.mk (Kd.R_mono (Kd.R_keep (IsS123.apart (show IsS123 w _ g103 t101 t113 from by repeat (first | (with_reducible first | exact HI103.out | apply IsS123.alloc | apply IsS123.drewN | apply IsS123.drew | apply IsS123.set_1) | exact HI103.out)) yq155 (by decide)) hk (fun _ h => h.2)) (fun _ h => h.1)); replace HB := Qz.mk (hb); replace HI103 := Qz.mk (hi); (try clear hb); (try clear hb2); (try clear hk); (try clear hi)))
          replace HO106 := Qz.mk (Kd.R_drew HO106.out)
          replace HI103 := Qz.mk (IsS123.drew HI103.out)
          replace HB := Qz.mk (qh HB.out)
          refine start_ (n := 12) (S := fun w' => True) (ds := []) #[false, false, false, false, false, false, false, false, false, false, false, false] (by kernel_rfl) rfl rfl trivial (fun hHeld => ?_); refine with_tabW spec_DrawReadVersion.tab9 spec_DrawReadVersion.bits9 (fun HT_ HW_ => ?_)
          generalize w31.drew = w32 at HO106 HI103 HB hHeld ⊢
          refine pure_ (i := 0) (N := some 28) (v := ?_) (a' := ?_) #[true, false, false, false, false, false, false, false, false, false, false, false] rfl rfl (qg1 HT_.out (by kernel_rfl)) (fun _ _ _ h => h) (Or.inl ⟨by rfl, ?_⟩) ?_ ?_
          rotate_left
          ·intro w'
           go_simp
           with_reducible rfl
          rotate_left
          ·simp only [Act.put, sq1, sq2, sq3, i64_w, i32_w]
           rfl
          refine pure_ (i := 1) (N := some 29) (v := ?_) (a' := ?_) #[true, true, false, false, false, false, false, false, false, false, false, false] rfl rfl (qg1 HT_.out (by kernel_rfl)) (fun _ _ _ h => h) (Or.inl ⟨by rfl, ?_⟩) ?_ ?_
          rotate_left
          ·intro w'
           go_simp
           with_reducible rfl
          rotate_left
          ·simp only [Act.put, sq1, sq2, sq3, i64_w, i32_w]
           rfl
          refine pure_ (i := 2) (N := some 30) (v := ?_) (a' := ?_) #[true, true, true, false, false, false, false, false, false, false, false, false] rfl rfl (qg1 HT_.out (by kernel_rfl)) (fun _ _ _ h => h) (Or.inl ⟨by rfl, ?_⟩) ?_ ?_
          rotate_left
          ·intro w'
           go_simp
           with_reducible rfl
          rotate_left
          ·simp only [Act.put, sq1, sq2, sq3, i64_w, i32_w]
           rfl
          refine pure_ (i := 3) (N := some 31) (v := ?_) (a' := ?_) #[true, true, true, true, false, false, false, false, false, false, false, false] rfl rfl (qg1 HT_.out (by kernel_rfl)) (fun _ _ _ h => h) (Or.inl ⟨by rfl, ?_⟩) ?_ ?_
          rotate_left
          ·intro w'
           go_simp
           with_reducible rfl
          rotate_left
          ·simp only [Act.put, sq1, sq2, sq3, i64_w, i32_w]
           rfl
          refine pure_ (i := 6) (N := some 34) (v := ?_) (a' := ?_) #[true, true, true, true, false, false, true, false, false, false, false, false] rfl rfl (qg1 HT_.out (by kernel_rfl)) (fun _ _ _ h => h) (Or.inl ⟨by rfl, ?_⟩) ?_ ?_
          rotate_left
          ·intro w'
           go_simp
           with_reducible rfl
          rotate_left
          ·simp only [Act.put, sq1, sq2, sq3, i64_w, i32_w]
           rfl
          refine pure_ (i := 7) (N := some 35) (v := ?_) (a' := ?_) #[true, true, true, true, false, false, true, true, false, false, false, false] rfl rfl (qg1 HT_.out (by kernel_rfl)) (fun _ _ _ h => h) (Or.inl ⟨by rfl, ?_⟩) ?_ ?_
          rotate_left
          ·intro w'
           go_simp
           with_reducible rfl
          rotate_left
          ·simp only [Act.put, sq1, sq2, sq3, i64_w, i32_w]
           rfl
          refine pure_ (i := 8) (N := some 36) (v := ?_) (a' := ?_) #[true, true, true, true, false, false, true, true, true, false, false, false] rfl rfl (qg1 HT_.out (by kernel_rfl)) (fun _ _ _ h => h) (Or.inl ⟨by rfl, ?_⟩) ?_ ?_
          rotate_left
          ·intro w'
           go_simp
           with_reducible rfl
          rotate_left
          ·simp only [Act.put, sq1, sq2, sq3, i64_w, i32_w]
           rfl
          refine pure_ (i := 9) (N := some 37) (v := ?_) (a' := ?_) #[true, true, true, true, false, false, true, true, true, true, false, false] rfl rfl (qg1 HT_.out (by kernel_rfl)) (fun _ _ _ h => h) (Or.inl ⟨by rfl, ?_⟩) ?_ ?_
          rotate_left
          ·intro w'
           go_simp
           with_reducible rfl
          rotate_left
          ·simp only [Act.put, sq1, sq2, sq3, i64_w, i32_w]
           rfl
          refine one_ (i := 4) (N := some 32) #[true, true, true, true, true, false, true, true, true, true, false, false] rfl rfl (one_of HT_.out (by kernel_rfl)) (by decide) (fun K hK => ?_)
          refine goes_ Try.func89 (by kernel_rfl) rfl #[.pointer (some ⟨g103, 0, none⟩), .int .i64 1] (by rfl) rfl rfl yq156 ?_
          with_reducible refine (spec_l1Rd_bytes.calls k g103 t101 t117 1 t118 t119 w _ ?side1 ?side2 A20.out).mono ?_
          (case side1 => exact yq153)
          (case side2 => exact yq152)
          rintro e w33 ⟨rfl, hi, hb, hk⟩
          refine ⟨_, rfl, ?_⟩
          replace HO106 := Qz.mk (Kd.R_mono (Kd.R_keep (IsS123.apart (show IsS123 w _ g103 t101 t117 from by repeat (first | (with_reducible first | exact HI103.out | apply IsS123.alloc | apply IsS123.drewN | apply IsS123.drew | apply IsS123.set_1) | exact HI103.out)) yq155 (by decide)) hk (fun _ h => h.2)) (fun _ h => h.1))
          replace HB := Qz.mk (hb)
          replace HI103 := Qz.mk (hi)
          (try clear hb)
          (try clear hb2)
          (try clear hk)
          (try clear hi)
          refine hK.out _ _ trivial (fun hHeld => ?_)
          clear hK K
          refine norm_ (a' := ?_) ?_ ?_
          rotate_left
          ·show Act.put _ (some 32) _ = _
           simp only [Act.put, sq1, sq2, sq3, i64_w, i32_w]
           rfl
          refine pure_ (i := 5) (N := some 33) (v := ?_) (a' := ?_) #[true, true, true, true, true, true, true, true, true, true, false, false] rfl rfl (qg1 HT_.out (by kernel_rfl)) (fun _ _ _ h => h) (Or.inl ⟨by rfl, ?_⟩) ?_ ?_
          rotate_left
          ·intro w'
           go_simp
           with_reducible rfl
          rotate_left
          ·simp only [Act.put, sq1, sq2, sq3, i64_w, i32_w]
           rfl
          refine pure_ (i := 10) (N := some 38) (v := ?_) (a' := ?_) #[true, true, true, true, true, true, true, true, true, true, true, false] rfl rfl (qg1 HT_.out (by kernel_rfl)) (fun _ _ _ h => h) (Or.inl ⟨by rfl, ?_⟩) ?_ ?_
          rotate_left
          ·intro w'
           go_simp
           with_reducible rfl
          rotate_left
          ·simp only [Act.put, sq1, sq2, sq3, i64_w, i32_w]
           rfl
          refine pure_ (i := 11) (N := some 2) (v := ?_) (a' := ?_) #[true, true, true, true, true, true, true, true, true, true, true, true] rfl rfl (qg1 HT_.out (by kernel_rfl)) (fun _ _ _ h => h) (Or.inl ⟨by rfl, ?_⟩) ?_ ?_
          rotate_left
          ·intro w'
           go_simp
           with_reducible rfl
          rotate_left
          ·simp only [Act.put, sq1, sq2, sq3, i64_w, i32_w]
           rfl
          refine done_ (done_of HT_.out (by kernel_rfl)) ?_
          try go_wp2
          go_ret
          exact ⟨by first | rfl | (simp [qt, qr] <;> rfl) | (simp only [← hji22]; first | rfl | (simp [qt, qr] <;> rfl)) | (simp [*, qt, qr] <;> rfl), by repeat (first | (with_reducible first | exact HB.out | apply qi | apply qd | apply qh | refine qe ?_ (IsS123.ge HI103.out)) | exact HB.out)⟩
         ·rw [if_neg c25] at H
          exact absurd H (by simp)
        ·rw [if_neg c24] at H
         exact absurd H (by simp)
       ·rw [if_neg c23] at H
        exact absurd H (by simp)
      ·rw [if_neg c21] at H
       exact absurd H (by simp)
     ·rw [if_neg c19] at H
      exact absurd H (by simp)
    ·rw [if_neg c18] at H
     exact absurd H (by simp)
   ·rw [if_neg c16] at H
    have c16b0 : decide (0 < (t111.size : Int)) = false := decide_eq_false c16
    have c16b1 : decide (0 < t111.size) = false := decide_eq_false (by omega)
    clear c16
    obtain rfl := Option.some.inj H
    go_enter Try.func53, Try.ntmps53
    go_wp2_with (first | ((with_reducible refine qm (f := 70) rfl ?_); refine qy (some 7) rfl rfl Try.func70 (by kernel_rfl) rfl #[.slice A0 l0.length c0] rfl yq154 ?_; (with_reducible refine (spec_l1Open.calls _ _ l0 t101 t102 w _ ?side1 ?side2 ?side3 A2.out).mono ?_); (case side1 => exact yq158); (case side2 => exact HR0.out); (case side3 => exact HC0.out); rintro e w34 ⟨g103, rfl, hi, hb, hb2⟩; refine ⟨_, rfl, ?_⟩; replace HB := Qz.mk (hb); have HI103 := Qz.mk (hi); (try clear hb); (try clear hb2); (try clear hk); (try clear hi)) | ((with_reducible refine qm (f := 71) rfl ?_); refine qy (some 9) rfl rfl Try.func71 (by kernel_rfl) rfl #[.pointer (some ⟨g103, 0, none⟩)] rfl yq156 ?_; (with_reducible refine (spec_l1Rd_version.calls k g103 t101 t102 t104 t107 t108 t109 t110 w _ ?side1 ?side2 A3.out).mono ?_); (case side1 => exact yq153); (case side2 => exact yq152); rintro e w35 ⟨v105, rfl, ho0, hi, hb, hk⟩; refine ⟨_, rfl, ?_⟩; have HO106 := Qz.mk (Kd.R_lower ho0 (qb1 yq152)); replace HB := Qz.mk (hb); replace HI103 := Qz.mk (hi); (try clear hb); (try clear hb2); (try clear hk); (try clear hi); (try clear ho0); obtain ⟨Ao36, co36, eo36⟩ := Kd.R_slice HO106.out; subst eo36) | ((with_reducible refine qm (f := 41) rfl ?_); refine qy (some 10) rfl rfl Try.func41 (by kernel_rfl) rfl #[.agg #[.slice Ao36 t104.length co36, .int .i64 t107, .int .i64 t108, .int .i64 t109]] rfl yq154 ?_; (with_reducible refine (spec_VersionText.calls k _ _ t104 t107 t108 t109 t111 _ ?side1 ?side2 A4.out).mono ?_); (case side1 => exact yq157); (case side2 => exact (Kd.R_reads' HO106.out).2.1); rintro e w37 ⟨rfl, hb⟩; refine ⟨_, rfl, ?_⟩; replace HO106 := Qz.mk (Kd.R_below yq155 hb); replace HB := Qz.mk (qq yq152 hb); replace HI103 := Qz.mk (IsS123.below yq153 hb); (try clear hb); (try clear hb2); (try clear hk); (try clear hi)) | ((with_reducible refine qm (f := 80) rfl ?_); refine qy (some 12) rfl rfl Try.func80 (by kernel_rfl) rfl #[.pointer (some ⟨g103, 0, none⟩), .int .i64 6] rfl yq156 ?_; (with_reducible refine (spec_l1Rd_below.calls g103 t101 t110 6 t112 t113 w _ ?side1 ?side2 A5.out).mono ?_); (case side1 => exact yq153); (case side2 => exact yq152); rintro e w38 ⟨rfl, hi, hb, hk⟩; refine ⟨_, rfl, ?_⟩; replace HO106 := Qz.mk (Kd.R_mono (Kd.R_keep (IsS123.apart (show IsS123 w _ g103 t101 t110 from by repeat (first | (with_reducible first | exact HI103.out | apply IsS123.alloc | apply IsS123.drewN | apply IsS123.drew | apply IsS123.set_1) | exact HI103.out)) yq155 (by decide)) hk (fun _ h => h.2)) (fun _ h => h.1)); replace HB := Qz.mk (hb); replace HI103 := Qz.mk (hi); (try clear hb); (try clear hb2); (try clear hk); (try clear hi)))
    go_ret
    exact ⟨by first | rfl | (simp [qt, qr] <;> rfl) | (simp [*, qt, qr] <;> rfl), by repeat (first | (with_reducible first | exact HB.out | apply qi | apply qd | apply qh | refine qe ?_ (IsS123.ge HI103.out)) | exact HB.out)⟩
  ·rw [if_neg c15] at H
   have c15b0 : (t112 == 1) = false := beq_eq_false_iff_ne.mpr c15
   have c15b1 : (t112 != 1) = true := bne_iff_ne.mpr c15
   by_cases c39 : t112 = 2
   ·rw [if_pos c39] at H
    have c39b0 : (t112 == 2) = true := beq_iff_eq.mpr c39
    have c39b1 : (t112 != 2) = false := bne_eq_false_iff_eq.mpr c39
    clear c39
    replace H := Option.bind_eq_some_iff.mp H
    obtain ⟨⟨t120, t121⟩, A400, H⟩ := H
    replace H : ((spec_l10Section.f k t120).bind fun t122 => (some t122)) = some r := H
    have A40 := Qz.mk A400
    clear A400
    replace H := Option.bind_eq_some_iff.mp H
    obtain ⟨t122, A410, H⟩ := H
    replace H : (some t122) = some r := H
    have A41 := Qz.mk A410
    clear A410
    obtain rfl := Option.some.inj H
    go_enter Try.func53, Try.ntmps53
    go_wp2_with (first | ((with_reducible refine qm (f := 70) rfl ?_); refine qy (some 7) rfl rfl Try.func70 (by kernel_rfl) rfl #[.slice A0 l0.length c0] rfl yq154 ?_; (with_reducible refine (spec_l1Open.calls _ _ l0 t101 t102 w _ ?side1 ?side2 ?side3 A2.out).mono ?_); (case side1 => exact yq158); (case side2 => exact HR0.out); (case side3 => exact HC0.out); rintro e w42 ⟨g103, rfl, hi, hb, hb2⟩; refine ⟨_, rfl, ?_⟩; replace HB := Qz.mk (hb); have HI103 := Qz.mk (hi); (try clear hb); (try clear hb2); (try clear hk); (try clear hi)) | ((with_reducible refine qm (f := 71) rfl ?_); refine qy (some 9) rfl rfl Try.func71 (by kernel_rfl) rfl #[.pointer (some ⟨g103, 0, none⟩)] rfl yq156 ?_; (with_reducible refine (spec_l1Rd_version.calls k g103 t101 t102 t104 t107 t108 t109 t110 w _ ?side1 ?side2 A3.out).mono ?_); (case side1 => exact yq153); (case side2 => exact yq152); rintro e w43 ⟨v105, rfl, ho0, hi, hb, hk⟩; refine ⟨_, rfl, ?_⟩; have HO106 := Qz.mk (Kd.R_lower ho0 (qb1 yq152)); replace HB := Qz.mk (hb); replace HI103 := Qz.mk (hi); (try clear hb); (try clear hb2); (try clear hk); (try clear hi); (try clear ho0); obtain ⟨Ao44, co44, eo44⟩ := Kd.R_slice HO106.out; subst eo44) | ((with_reducible refine qm (f := 41) rfl ?_); refine qy (some 10) rfl rfl Try.func41 (by kernel_rfl) rfl #[.agg #[.slice Ao44 t104.length co44, .int .i64 t107, .int .i64 t108, .int .i64 t109]] rfl yq154 ?_; (with_reducible refine (spec_VersionText.calls k _ _ t104 t107 t108 t109 t111 _ ?side1 ?side2 A4.out).mono ?_); (case side1 => exact yq157); (case side2 => exact (Kd.R_reads' HO106.out).2.1); rintro e w45 ⟨rfl, hb⟩; refine ⟨_, rfl, ?_⟩; replace HO106 := Qz.mk (Kd.R_below yq155 hb); replace HB := Qz.mk (qq yq152 hb); replace HI103 := Qz.mk (IsS123.below yq153 hb); (try clear hb); (try clear hb2); (try clear hk); (try clear hi)) | ((with_reducible refine qm (f := 80) rfl ?_); refine qy (some 12) rfl rfl Try.func80 (by kernel_rfl) rfl #[.pointer (some ⟨g103, 0, none⟩), .int .i64 6] rfl yq156 ?_; (with_reducible refine (spec_l1Rd_below.calls g103 t101 t110 6 t112 t113 w _ ?side1 ?side2 A5.out).mono ?_); (case side1 => exact yq153); (case side2 => exact yq152); rintro e w46 ⟨rfl, hi, hb, hk⟩; refine ⟨_, rfl, ?_⟩; replace HO106 := Qz.mk (Kd.R_mono (Kd.R_keep (IsS123.apart (show IsS123 w _ g103 t101 t110 from by repeat (first | (with_reducible first | exact HI103.out | apply IsS123.alloc | apply IsS123.drewN | apply IsS123.drew | apply IsS123.set_1) | exact HI103.out)) yq155 (by decide)) hk (fun _ h => h.2)) (fun _ h => h.1)); replace HB := Qz.mk (hb); replace HI103 := Qz.mk (hi); (try clear hb); (try clear hb2); (try clear hk); (try clear hi)) | ((with_reducible refine qm (f := 89) rfl ?_); refine qy (some 42) rfl rfl Try.func89 (by kernel_rfl) rfl #[.pointer (some ⟨g103, 0, none⟩), .int .i64 9] rfl yq156 ?_; (with_reducible refine (spec_l1Rd_bytes.calls k g103 t101 t113 9 t120 t121 w _ ?side1 ?side2 A40.out).mono ?_); (case side1 => exact yq153); (case side2 => exact yq152); rintro e w47 ⟨rfl, hi, hb, hk⟩; refine ⟨_, rfl, ?_⟩; replace HO106 := Qz.mk (Kd.R_mono (Kd.R_keep (IsS123.apart (show IsS123 w _ g103 t101 t113 from by repeat (first | (with_reducible first | exact HI103.out | apply IsS123.alloc | apply IsS123.drewN | apply IsS123.drew | apply IsS123.set_1) | exact HI103.out)) yq155 (by decide)) hk (fun _ h => h.2)) (fun _ h => h.1)); replace HB := Qz.mk (hb); replace HI103 := Qz.mk (hi); (try clear hb); (try clear hb2); (try clear hk); (try clear hi)) | ((with_reducible refine qm (f := 78) rfl ?_); refine qy (some 43) rfl rfl Try.func78 (by kernel_rfl) rfl #[.string t120] rfl yq156 ?_; (with_reducible refine (spec_l10Section.calls k t120 t122 _ A41.out).mono ?_); rintro e w48 ⟨rfl, hb⟩; refine ⟨_, rfl, ?_⟩; replace HO106 := Qz.mk (Kd.R_below yq155 hb); replace HB := Qz.mk (qq yq152 hb); replace HI103 := Qz.mk (IsS123.below yq153 hb); (try clear hb); (try clear hb2); (try clear hk); (try clear hi)))
    go_ret
    exact ⟨by first | rfl | (simp [qt, qr] <;> rfl) | (simp [*, qt, qr] <;> rfl), by repeat (first | (with_reducible first | exact HB.out | apply qi | apply qd | apply qh | refine qe ?_ (IsS123.ge HI103.out)) | exact HB.out)⟩
   ·rw [if_neg c39] at H
    have c39b0 : (t112 == 2) = false := beq_eq_false_iff_ne.mpr c39
    have c39b1 : (t112 != 2) = true := bne_iff_ne.mpr c39
    obtain rfl := Option.some.inj H
    go_enter Try.func53, Try.ntmps53
    go_wp2_with (first | ((with_reducible refine qm (f := 70) rfl ?_); refine qy (some 7) rfl rfl Try.func70 (by kernel_rfl) rfl #[.slice A0 l0.length c0] rfl yq154 ?_; (with_reducible refine (spec_l1Open.calls _ _ l0 t101 t102 w _ ?side1 ?side2 ?side3 A2.out).mono ?_); (case side1 => exact yq158); (case side2 => exact HR0.out); (case side3 => exact HC0.out); rintro e w49 ⟨g103, rfl, hi, hb, hb2⟩; refine ⟨_, rfl, ?_⟩; replace HB := Qz.mk (hb); have HI103 := Qz.mk (hi); (try clear hb); (try clear hb2); (try clear hk); (try clear hi)) | ((with_reducible refine qm (f := 71) rfl ?_); refine qy (some 9) rfl rfl Try.func71 (by kernel_rfl) rfl #[.pointer (some ⟨g103, 0, none⟩)] rfl yq156 ?_; (with_reducible refine (spec_l1Rd_version.calls k g103 t101 t102 t104 t107 t108 t109 t110 w _ ?side1 ?side2 A3.out).mono ?_); (case side1 => exact yq153); (case side2 => exact yq152); rintro e w50 ⟨v105, rfl, ho0, hi, hb, hk⟩; refine ⟨_, rfl, ?_⟩; have HO106 := Qz.mk (Kd.R_lower ho0 (qb1 yq152)); replace HB := Qz.mk (hb); replace HI103 := Qz.mk (hi); (try clear hb); (try clear hb2); (try clear hk); (try clear hi); (try clear ho0); obtain ⟨Ao51, co51, eo51⟩ := Kd.R_slice HO106.out; subst eo51) | ((with_reducible refine qm (f := 41) rfl ?_); refine qy (some 10) rfl rfl Try.func41 (by kernel_rfl) rfl #[.agg #[.slice Ao51 t104.length co51, .int .i64 t107, .int .i64 t108, .int .i64 t109]] rfl yq154 ?_; (with_reducible refine (spec_VersionText.calls k _ _ t104 t107 t108 t109 t111 _ ?side1 ?side2 A4.out).mono ?_); (case side1 => exact yq157); (case side2 => exact (Kd.R_reads' HO106.out).2.1); rintro e w52 ⟨rfl, hb⟩; refine ⟨_, rfl, ?_⟩; replace HO106 := Qz.mk (Kd.R_below yq155 hb); replace HB := Qz.mk (qq yq152 hb); replace HI103 := Qz.mk (IsS123.below yq153 hb); (try clear hb); (try clear hb2); (try clear hk); (try clear hi)) | ((with_reducible refine qm (f := 80) rfl ?_); refine qy (some 12) rfl rfl Try.func80 (by kernel_rfl) rfl #[.pointer (some ⟨g103, 0, none⟩), .int .i64 6] rfl yq156 ?_; (with_reducible refine (spec_l1Rd_below.calls g103 t101 t110 6 t112 t113 w _ ?side1 ?side2 A5.out).mono ?_); (case side1 => exact yq153); (case side2 => exact yq152); rintro e w53 ⟨rfl, hi, hb, hk⟩; refine ⟨_, rfl, ?_⟩; replace HO106 := Qz.mk (Kd.R_mono (Kd.R_keep (IsS123.apart (show IsS123 w _ g103 t101 t110 from by repeat (first | (with_reducible first | exact HI103.out | apply IsS123.alloc | apply IsS123.drewN | apply IsS123.drew | apply IsS123.set_1) | exact HI103.out)) yq155 (by decide)) hk (fun _ h => h.2)) (fun _ h => h.1)); replace HB := Qz.mk (hb); replace HI103 := Qz.mk (hi); (try clear hb); (try clear hb2); (try clear hk); (try clear hi)))
    go_ret
    exact ⟨by first | rfl | (simp [qt, qr] <;> rfl) | (simp [*, qt, qr] <;> rfl), by repeat (first | (with_reducible first | exact HB.out | apply qi | apply qd | apply qh | refine qe ?_ (IsS123.ge HI103.out)) | exact HB.out)⟩
theorem yq159 {P : Prop} (h : P := by (with_reducible repeat (first | refine qc ?_ _ | refine qf ?_ | refine qa ?_ _)); exact BK108.out) : P := h
theorem yq160 {P : Prop} (h : P := by repeat (first | (with_reducible first | exact HB.out | apply qi | apply qd | apply qh | refine qe ?_ GE108.out | refine qe ?_ GE117.out) | exact HB.out)) : P := h
theorem yq161 {P : Prop} (h : P := by (with_reducible repeat (first | refine qc ?_ _ | refine qf ?_ | refine qa ?_ _)); exact BK117.out) : P := h
theorem yq162 {P : Prop} (h : P := by (with_reducible repeat (first | apply Kd.R_alloc | apply Kd.R_drewN | apply Kd.R_drew)); exact (Kd.R_mono (Kd.R_far (p := ⟨gb117, 3, none⟩) (Kd.R_far (p := ⟨gb117, 2, none⟩) (Kd.R_far (p := ⟨gb117, 1, none⟩) (Kd.R_far (p := ⟨gb117, 0, none⟩) (Kd.R_types HO104.out BK117.out (by decide)) (fun _ hk => hk.2) (.slice Ao15 t110.length co15)) (fun _ hk => hk.2) (.int .i64 t113)) (fun _ hk => hk.2) (.int .i64 t114)) (fun _ hk => hk.2) (.int .i64 t115)) (fun _ h_ => h_.1))) : P := h
theorem yq163 {P : Prop} (h : P := by (try simp only [List.map_toArray, List.map_cons, List.map_nil]); first | done | rfl | (simp only [List.length_drop, List.length_take]; rfl) | (rw [IntWalk.u64_in _ (by omega)] <;> rfl)) : P := h
theorem yq164 {P : Prop} (h : P := by repeat (first | (with_reducible first | exact HB.out | apply qi | apply qd | apply qh | refine qe ?_ GE108.out | refine qe ?_ GE117.out | refine qe ?_ GE129.out) | exact HB.out)) : P := h
theorem yq165 {P : Prop} (h : P := by (with_reducible repeat (first | apply Kd.R_alloc | apply Kd.R_drewN | apply Kd.R_drew)); exact HO_118000.out) : P := h
theorem yq166 {P : Prop} (h : P := by (with_reducible repeat (first | apply Kd.R_alloc | apply Kd.R_drewN | apply Kd.R_drew)); exact HO_109000.out) : P := h
theorem yq167 {P : Prop} (h : P := by (with_reducible repeat (first | refine qc ?_ _ | refine qf ?_ | refine qa ?_ _)); refine qw (cs := #[.slice Ao15 t110.length co15, .int .i64 t113, .int .i64 t114, .int .i64 0]) ?_ 3 _ rfl; (with_reducible repeat (first | refine qc ?_ _ | refine qf ?_ | refine qa ?_ _)); refine qw (cs := #[.slice Ao15 t110.length co15, .int .i64 t113, .int .i64 0, .int .i64 0]) ?_ 2 _ rfl; (with_reducible repeat (first | refine qc ?_ _ | refine qf ?_ | refine qa ?_ _)); refine qw (cs := #[.slice Ao15 t110.length co15, .int .i64 0, .int .i64 0, .int .i64 0]) ?_ 1 _ rfl; (with_reducible repeat (first | refine qc ?_ _ | refine qf ?_ | refine qa ?_ _)); refine qw (cs := #[.slice none 0 0, .int .i64 0, .int .i64 0, .int .i64 0]) ?_ 0 _ rfl; (with_reducible repeat (first | refine qc ?_ _ | refine qf ?_ | refine qa ?_ _)); exact BK117.out) : P := h
theorem yq168 {P : Prop} (h : P := by rw [hg]; exact Nat.ne_of_lt (qh1 (g := gb108) (o := .cells #[.slice Ao10 t102.length co10, .int .i64 t105, .int .i64 t106, .int .i64 t107] 32 (0, 0)) yq159)) : P := h
theorem yq169 {P : Prop} (h : P := by rw [hg]; exact Nat.ne_of_gt (qh1 (g := gb108) (o := .cells #[.slice Ao10 t102.length co10, .int .i64 t105, .int .i64 t106, .int .i64 t107] 32 (0, 0)) yq159)) : P := h
theorem yq170 {P : Prop} (h : P := by (with_reducible repeat (first | refine qc ?_ _ | refine qf ?_ | refine qa ?_ _)); refine qx ?_ NB117_129.out _; (with_reducible repeat (first | refine qc ?_ _ | refine qf ?_ | refine qa ?_ _)); refine qx ?_ NB117_129.out _; (with_reducible repeat (first | refine qc ?_ _ | refine qf ?_ | refine qa ?_ _)); refine qx ?_ NB117_129.out _; (with_reducible repeat (first | refine qc ?_ _ | refine qf ?_ | refine qa ?_ _)); refine qx ?_ NB117_129.out _; (with_reducible repeat (first | refine qc ?_ _ | refine qf ?_ | refine qa ?_ _)); exact BK117.out) : P := h
theorem yq171 {P : Prop} (h : P := by (with_reducible repeat (first | refine qc ?_ _ | refine qf ?_ | refine qa ?_ _)); refine qx ?_ NB108_129.out _; (with_reducible repeat (first | refine qc ?_ _ | refine qf ?_ | refine qa ?_ _)); refine qx ?_ NB108_129.out _; (with_reducible repeat (first | refine qc ?_ _ | refine qf ?_ | refine qa ?_ _)); refine qx ?_ NB108_129.out _; (with_reducible repeat (first | refine qc ?_ _ | refine qf ?_ | refine qa ?_ _)); refine qx ?_ NB108_129.out _; (with_reducible repeat (first | refine qc ?_ _ | refine qf ?_ | refine qa ?_ _)); exact BK108.out) : P := h
theorem yq172 {P : Prop} (h : P := by (with_reducible repeat (first | refine qc ?_ _ | refine qf ?_ | refine qa ?_ _)); refine qx ?_ NB108_117.out _; (with_reducible repeat (first | refine qc ?_ _ | refine qf ?_ | refine qa ?_ _)); refine qx ?_ NB108_117.out _; (with_reducible repeat (first | refine qc ?_ _ | refine qf ?_ | refine qa ?_ _)); refine qx ?_ NB108_117.out _; (with_reducible repeat (first | refine qc ?_ _ | refine qf ?_ | refine qa ?_ _)); refine qx ?_ NB108_117.out _; (with_reducible repeat (first | refine qc ?_ _ | refine qf ?_ | refine qa ?_ _)); exact BK108.out) : P := h
theorem yq173 {P : Prop} (h : P := by (with_reducible repeat (first | apply Kd.R_alloc | apply Kd.R_drewN | apply Kd.R_drew)); exact HO104.out) : P := h
theorem yq174 {P : Prop} (h : P := by repeat (first | (with_reducible first | exact HB.out | apply qi | apply qd | apply qh | refine qe ?_ GE108.out) | exact HB.out)) : P := h
theorem yq175 {P : Prop} (h : P := by (with_reducible repeat (first | refine qc ?_ _ | refine qf ?_ | refine qa ?_ _)); exact BK129.out) : P := h
theorem yq176 {P : Prop} (h : P := by (with_reducible repeat (first | apply Kd.R_alloc | apply Kd.R_drewN | apply Kd.R_drew)); exact (Kd.R_mono (Kd.R_far (p := ⟨gb129, 3, none⟩) (Kd.R_far (p := ⟨gb129, 2, none⟩) (Kd.R_far (p := ⟨gb129, 1, none⟩) (Kd.R_far (p := ⟨gb129, 0, none⟩) (Kd.R_types HO_118000.out BK129.out (by decide)) (fun _ hk => hk.2) (.slice Ao65 t122.length co65)) (fun _ hk => hk.2) (.int .i64 t125)) (fun _ hk => hk.2) (.int .i64 t126)) (fun _ hk => hk.2) (.int .i64 t127)) (fun _ h_ => h_.1))) : P := h
theorem yq177 {P : Prop} (h : P := by (with_reducible repeat (first | apply Kd.R_alloc | apply Kd.R_drewN | apply Kd.R_drew)); exact (Kd.R_mono (Kd.R_far (p := ⟨gb129, 3, none⟩) (Kd.R_far (p := ⟨gb129, 2, none⟩) (Kd.R_far (p := ⟨gb129, 1, none⟩) (Kd.R_far (p := ⟨gb129, 0, none⟩) (Kd.R_types HO_118000.out BK129.out (by decide)) (fun _ hk => hk.2) (.slice Ao49 t122.length co49)) (fun _ hk => hk.2) (.int .i64 t125)) (fun _ hk => hk.2) (.int .i64 t126)) (fun _ hk => hk.2) (.int .i64 t127)) (fun _ h_ => h_.1))) : P := h
theorem yq178 {P : Prop} (h : P := by (with_reducible repeat (first | apply Kd.R_alloc | apply Kd.R_drewN | apply Kd.R_drew)); exact (Kd.R_mono (Kd.R_far (p := ⟨gb129, 3, none⟩) (Kd.R_far (p := ⟨gb129, 2, none⟩) (Kd.R_far (p := ⟨gb129, 1, none⟩) (Kd.R_far (p := ⟨gb129, 0, none⟩) (Kd.R_types HO_109000.out BK129.out (by decide)) (fun _ hk => hk.2) (.slice Ao65 t122.length co65)) (fun _ hk => hk.2) (.int .i64 t125)) (fun _ hk => hk.2) (.int .i64 t126)) (fun _ hk => hk.2) (.int .i64 t127)) (fun _ h_ => h_.1))) : P := h
theorem yq179 {P : Prop} (h : P := by (with_reducible repeat (first | apply Kd.R_alloc | apply Kd.R_drewN | apply Kd.R_drew)); exact (Kd.R_mono (Kd.R_far (p := ⟨gb129, 3, none⟩) (Kd.R_far (p := ⟨gb129, 2, none⟩) (Kd.R_far (p := ⟨gb129, 1, none⟩) (Kd.R_far (p := ⟨gb129, 0, none⟩) (Kd.R_types HO_109000.out BK129.out (by decide)) (fun _ hk => hk.2) (.slice Ao49 t122.length co49)) (fun _ hk => hk.2) (.int .i64 t125)) (fun _ hk => hk.2) (.int .i64 t126)) (fun _ hk => hk.2) (.int .i64 t127)) (fun _ h_ => h_.1))) : P := h
theorem yq180 {P : Prop} (h : P := by (with_reducible repeat (first | apply Kd.R_alloc | apply Kd.R_drewN | apply Kd.R_drew)); exact (Kd.R_mono (Kd.R_far (p := ⟨gb137, 3, none⟩) (Kd.R_far (p := ⟨gb137, 2, none⟩) (Kd.R_far (p := ⟨gb137, 1, none⟩) (Kd.R_far (p := ⟨gb137, 0, none⟩) (Kd.R_types HO124.out BK137.out (by decide)) (fun _ hk => hk.2) (.slice Ao55 t130.length co55)) (fun _ hk => hk.2) (.int .i64 t133)) (fun _ hk => hk.2) (.int .i64 t134)) (fun _ hk => hk.2) (.int .i64 t135)) (fun _ h_ => h_.1))) : P := h
theorem yq181 {P : Prop} (h : P := by (with_reducible repeat (first | apply Kd.R_alloc | apply Kd.R_drewN | apply Kd.R_drew)); exact (Kd.R_mono (Kd.R_far (p := ⟨gb129, 3, none⟩) (Kd.R_far (p := ⟨gb129, 2, none⟩) (Kd.R_far (p := ⟨gb129, 1, none⟩) (Kd.R_far (p := ⟨gb129, 0, none⟩) (Kd.R_types HO124.out BK129.out (by decide)) (fun _ hk => hk.2) (.slice Ao65 t122.length co65)) (fun _ hk => hk.2) (.int .i64 t125)) (fun _ hk => hk.2) (.int .i64 t126)) (fun _ hk => hk.2) (.int .i64 t127)) (fun _ h_ => h_.1))) : P := h
theorem yq182 {P : Prop} (h : P := by (with_reducible repeat (first | apply Kd.R_alloc | apply Kd.R_drewN | apply Kd.R_drew)); exact (Kd.R_mono (Kd.R_far (p := ⟨gb129, 3, none⟩) (Kd.R_far (p := ⟨gb129, 2, none⟩) (Kd.R_far (p := ⟨gb129, 1, none⟩) (Kd.R_far (p := ⟨gb129, 0, none⟩) (Kd.R_types HO124.out BK129.out (by decide)) (fun _ hk => hk.2) (.slice Ao49 t122.length co49)) (fun _ hk => hk.2) (.int .i64 t125)) (fun _ hk => hk.2) (.int .i64 t126)) (fun _ hk => hk.2) (.int .i64 t127)) (fun _ h_ => h_.1))) : P := h
theorem yq183 {P : Prop} (h : P := by (with_reducible repeat (first | apply Kd.R_alloc | apply Kd.R_drewN | apply Kd.R_drew)); exact (Kd.R_mono (Kd.R_far (p := ⟨gb117, 3, none⟩) (Kd.R_far (p := ⟨gb117, 2, none⟩) (Kd.R_far (p := ⟨gb117, 1, none⟩) (Kd.R_far (p := ⟨gb117, 0, none⟩) (Kd.R_types HO112.out BK117.out (by decide)) (fun _ hk => hk.2) (.slice Ao15 t110.length co15)) (fun _ hk => hk.2) (.int .i64 t113)) (fun _ hk => hk.2) (.int .i64 t114)) (fun _ hk => hk.2) (.int .i64 t115)) (fun _ h_ => h_.1))) : P := h
theorem yq184 {P : Prop} (h : P := by (with_reducible repeat (first | apply Kd.R_alloc | apply Kd.R_drewN | apply Kd.R_drew)); exact (Kd.R_mono (Kd.R_far (p := ⟨gb108, 3, none⟩) (Kd.R_far (p := ⟨gb108, 2, none⟩) (Kd.R_far (p := ⟨gb108, 1, none⟩) (Kd.R_far (p := ⟨gb108, 0, none⟩) (Kd.R_types HO104.out BK108.out (by decide)) (fun _ hk => hk.2) (.slice Ao10 t102.length co10)) (fun _ hk => hk.2) (.int .i64 t105)) (fun _ hk => hk.2) (.int .i64 t106)) (fun _ hk => hk.2) (.int .i64 t107)) (fun _ h_ => h_.1))) : P := h
theorem yq185 {P : Prop} (h : P := by rw [hg]; exact Nat.ne_of_lt (qh1 (g := gb117) (o := .cells #[.slice Ao15 t110.length co15, .int .i64 t113, .int .i64 t114, .int .i64 t115] 32 (0, 0)) yq161)) : P := h
theorem yq186 {P : Prop} (h : P := by rw [hg]; exact Nat.ne_of_gt (qh1 (g := gb117) (o := .cells #[.slice Ao15 t110.length co15, .int .i64 t113, .int .i64 t114, .int .i64 t115] 32 (0, 0)) yq161)) : P := h
theorem yq187 {P : Prop} (h : P := by repeat (first | exact (Kd.R_reads' HO104.out).2.2 | (with_reducible refine Kd.C_alloc ?_ _) | (with_reducible refine Kd.C_drewN ?_ _) | (with_reducible refine Kd.C_drew ?_))) : P := h
theorem yq188 {P : Prop} (h : P := by (try simp only [List.map_toArray, List.map_cons, List.map_nil]); first | done | rfl) : P := h
theorem yq189 {P : Prop} (h : P := by (with_reducible repeat (first | apply Kd.R_alloc | apply Kd.R_drewN | apply Kd.R_drew)); exact HO124.out) : P := h
theorem yq190 {P : Prop} (h : P := by repeat (first | exact HR0.out | (with_reducible refine Kd.C_alloc ?_ _) | (with_reducible refine Kd.C_drewN ?_ _) | (with_reducible refine Kd.C_drew ?_))) : P := h
theorem yq191 {P : Prop} (h : P := by repeat (first | (with_reducible first | exact HB.out | apply qi | apply qd | apply qh) | exact HB.out)) : P := h
def laws_FnVersionTexts.j0 : Nat → List Int → Bool → Option (Bool)
 | 0, _, _ => none
 | k + 1, x0, x64 => if x64 = true then (none) else ((spec_DrawReadVersion.f k x0).bind fun t121 => ((impl_ReadVersion.f k t121).bind fun bt122 => ((spec_ReadVersion.f k t121).bind fun bt130 => (if (bt122.2.2.2.2 == bt130.2.2.2.2) = true then (if bt122.2.2.2.2 = true then ((impl_VersionText.f k bt122.1 bt122.2.1 bt122.2.2.1 bt122.2.2.2.1).bind fun t138 => (some (t138.toList == t121.toList))) else (some true)) else (none)))))
def laws_FnVersionTexts.f (k : Nat) (l0 : List Int) : Option (Bool) := (laws_big.f l0).bind fun t101 => (if t101 = true then (some true) else ((spec_DrawVersionText.f k l0).bind fun bt102 => ((impl_VersionText.f k bt102.1 bt102.2.1 bt102.2.2.1 bt102.2.2.2).bind fun t109 => ((impl_ReadVersion.f k t109).bind fun bt110 => ((spec_VersionText.f k bt102.1 bt102.2.1 bt102.2.2.1 bt102.2.2.2).bind fun t118 => (if t109.toList = t118.toList then ((impl_VersionOk.f bt102.1 bt102.2.1 bt102.2.2.1 bt102.2.2.2).bind fun t119 => (if (bt110.2.2.2.2 != t119) = true then (none) else (if bt110.2.2.2.2 = true then ((laws_sameMetas.f k bt110.1 bt102.1).bind fun t120 => (if t120 = true then (if bt110.2.1 = bt102.2.1 then (if bt110.2.2.1 = bt102.2.2.1 then (laws_FnVersionTexts.j0 k l0 (bt110.2.2.2.1 != bt102.2.2.2)) else (none)) else (none)) else (none))) else (laws_FnVersionTexts.j0 k l0 false)))) else (none)))))))
set_option maxHeartbeats 8000000 in
set_option maxRecDepth 100000 in
theorem laws_FnVersionTexts.calls (k : Nat) (A0 : Option Addr) (c0 : Nat) (l0 : List Int) (r : Bool) (w : World) (hr0 : Kd.C (Kd.int .u8) w A0 l0.length l0) (hc0 : l0.length ≤ c0) (h : laws_FnVersionTexts.f k l0 = some r) :
  Calls Try.prog 14 #[.slice A0 l0.length c0] w fun e w' => e = .returned (.bool r) ∧ Below w.heap.size w w' := by
 have hu32 := Try.underlying32
 have HR0 := Qz.mk hr0
 have HC0 := Qz.mk hc0
 clear hr0 hc0
 have HB := Qz.mk (Below.refl w.heap.size w)
 have H : ((laws_big.f l0).bind fun t101 => (if t101 = true then (some true) else ((spec_DrawVersionText.f k l0).bind fun bt102 => ((impl_VersionText.f k bt102.1 bt102.2.1 bt102.2.2.1 bt102.2.2.2).bind fun t109 => ((impl_ReadVersion.f k t109).bind fun bt110 => ((spec_VersionText.f k bt102.1 bt102.2.1 bt102.2.2.1 bt102.2.2.2).bind fun t118 => (if t109.toList = t118.toList then ((impl_VersionOk.f bt102.1 bt102.2.1 bt102.2.2.1 bt102.2.2.2).bind fun t119 => (if (bt110.2.2.2.2 != t119) = true then (none) else (if bt110.2.2.2.2 = true then ((laws_sameMetas.f k bt110.1 bt102.1).bind fun t120 => (if t120 = true then (if bt110.2.1 = bt102.2.1 then (if bt110.2.2.1 = bt102.2.2.1 then (laws_FnVersionTexts.j0 k l0 (bt110.2.2.2.1 != bt102.2.2.2)) else (none)) else (none)) else (none))) else (laws_FnVersionTexts.j0 k l0 false)))) else (none)))))))) = some r := h
 clear h
 replace H := Option.bind_eq_some_iff.mp H
 obtain ⟨t101, A20, H⟩ := H
 replace H : (if t101 = true then (some true) else ((spec_DrawVersionText.f k l0).bind fun bt102 => ((impl_VersionText.f k bt102.1 bt102.2.1 bt102.2.2.1 bt102.2.2.2).bind fun t109 => ((impl_ReadVersion.f k t109).bind fun bt110 => ((spec_VersionText.f k bt102.1 bt102.2.1 bt102.2.2.1 bt102.2.2.2).bind fun t118 => (if t109.toList = t118.toList then ((impl_VersionOk.f bt102.1 bt102.2.1 bt102.2.2.1 bt102.2.2.2).bind fun t119 => (if (bt110.2.2.2.2 != t119) = true then (none) else (if bt110.2.2.2.2 = true then ((laws_sameMetas.f k bt110.1 bt102.1).bind fun t120 => (if t120 = true then (if bt110.2.1 = bt102.2.1 then (if bt110.2.2.1 = bt102.2.2.1 then (laws_FnVersionTexts.j0 k l0 (bt110.2.2.2.1 != bt102.2.2.2)) else (none)) else (none)) else (none))) else (laws_FnVersionTexts.j0 k l0 false)))) else (none))))))) = some r := H
 have A2 := Qz.mk A20
 clear A20
 by_cases c3 : t101 = true
 ·subst c3
  have H1 : (some true) = some r := by rw [if_pos rfl] at H; exact H
  clear H
  have H := H1
  clear H1
  obtain rfl := Option.some.inj H
  go_enter Try.func14, Try.ntmps14
  go_wp2_with (first | ((with_reducible refine qm (f := 36) rfl ?_); refine qy (some 13) rfl rfl Try.func36 (by kernel_rfl) rfl #[.slice A0 l0.length c0] rfl yq163 ?_; (with_reducible refine (laws_big.calls _ _ l0 true _ ?side1 ?side2 A2.out).mono ?_); (case side1 => exact yq190); (case side2 => exact HC0.out); rintro e w' ⟨rfl, ⟨nd, rfl⟩⟩; refine ⟨_, rfl, ?_⟩))
  go_ret
  exact ⟨by first | rfl | (simp [qt, qr] <;> rfl) | (simp [*, qt, qr] <;> rfl), by repeat (first | (with_reducible first | exact HB.out | apply qi | apply qd | apply qh) | exact HB.out)⟩
 ·replace c3 := Bool.eq_false_iff.mpr c3
  subst c3
  have H1 : ((spec_DrawVersionText.f k l0).bind fun bt102 => ((impl_VersionText.f k bt102.1 bt102.2.1 bt102.2.2.1 bt102.2.2.2).bind fun t109 => ((impl_ReadVersion.f k t109).bind fun bt110 => ((spec_VersionText.f k bt102.1 bt102.2.1 bt102.2.2.1 bt102.2.2.2).bind fun t118 => (if t109.toList = t118.toList then ((impl_VersionOk.f bt102.1 bt102.2.1 bt102.2.2.1 bt102.2.2.2).bind fun t119 => (if (bt110.2.2.2.2 != t119) = true then (none) else (if bt110.2.2.2.2 = true then ((laws_sameMetas.f k bt110.1 bt102.1).bind fun t120 => (if t120 = true then (if bt110.2.1 = bt102.2.1 then (if bt110.2.2.1 = bt102.2.2.1 then (laws_FnVersionTexts.j0 k l0 (bt110.2.2.2.1 != bt102.2.2.2)) else (none)) else (none)) else (none))) else (laws_FnVersionTexts.j0 k l0 false)))) else (none)))))) = some r := by rw [if_neg (show ¬ (false = true) by decide)] at H; exact H
  clear H
  have H := H1
  clear H1
  replace H := Option.bind_eq_some_iff.mp H
  obtain ⟨⟨t102, t105, t106, t107⟩, A40, H⟩ := H
  replace H : ((impl_VersionText.f k t102 t105 t106 t107).bind fun t109 => ((impl_ReadVersion.f k t109).bind fun bt110 => ((spec_VersionText.f k t102 t105 t106 t107).bind fun t118 => (if t109.toList = t118.toList then ((impl_VersionOk.f t102 t105 t106 t107).bind fun t119 => (if (bt110.2.2.2.2 != t119) = true then (none) else (if bt110.2.2.2.2 = true then ((laws_sameMetas.f k bt110.1 t102).bind fun t120 => (if t120 = true then (if bt110.2.1 = t105 then (if bt110.2.2.1 = t106 then (laws_FnVersionTexts.j0 k l0 (bt110.2.2.2.1 != t107)) else (none)) else (none)) else (none))) else (laws_FnVersionTexts.j0 k l0 false)))) else (none))))) = some r := H
  have A4 := Qz.mk A40
  clear A40
  replace H := Option.bind_eq_some_iff.mp H
  obtain ⟨t109, A50, H⟩ := H
  replace H : ((impl_ReadVersion.f k t109).bind fun bt110 => ((spec_VersionText.f k t102 t105 t106 t107).bind fun t118 => (if t109.toList = t118.toList then ((impl_VersionOk.f t102 t105 t106 t107).bind fun t119 => (if (bt110.2.2.2.2 != t119) = true then (none) else (if bt110.2.2.2.2 = true then ((laws_sameMetas.f k bt110.1 t102).bind fun t120 => (if t120 = true then (if bt110.2.1 = t105 then (if bt110.2.2.1 = t106 then (laws_FnVersionTexts.j0 k l0 (bt110.2.2.2.1 != t107)) else (none)) else (none)) else (none))) else (laws_FnVersionTexts.j0 k l0 false)))) else (none)))) = some r := H
  have A5 := Qz.mk A50
  clear A50
  replace H := Option.bind_eq_some_iff.mp H
  obtain ⟨⟨t110, t113, t114, t115, t116⟩, A60, H⟩ := H
  replace H : ((spec_VersionText.f k t102 t105 t106 t107).bind fun t118 => (if t109.toList = t118.toList then ((impl_VersionOk.f t102 t105 t106 t107).bind fun t119 => (if (t116 != t119) = true then (none) else (if t116 = true then ((laws_sameMetas.f k t110 t102).bind fun t120 => (if t120 = true then (if t113 = t105 then (if t114 = t106 then (laws_FnVersionTexts.j0 k l0 (t115 != t107)) else (none)) else (none)) else (none))) else (laws_FnVersionTexts.j0 k l0 false)))) else (none))) = some r := H
  have A6 := Qz.mk A60
  clear A60
  have HC7 := Qz.mk H
  clear H
  go_enter Try.func14, Try.ntmps14
  go_upto_region 6 with (first | ((with_reducible refine qm (f := 36) rfl ?_); refine qy (some 13) rfl rfl Try.func36 (by kernel_rfl) rfl #[.slice A0 l0.length c0] rfl yq163 ?_; (with_reducible refine (laws_big.calls _ _ l0 false _ ?side1 ?side2 A2.out).mono ?_); (case side1 => exact yq190); (case side2 => exact HC0.out); rintro e w' ⟨rfl, ⟨nd, rfl⟩⟩; refine ⟨_, rfl, ?_⟩) | ((with_reducible refine qm (f := 52) rfl ?_); refine qy (some 15) rfl rfl Try.func52 (by kernel_rfl) rfl #[.slice A0 l0.length c0] rfl yq163 ?_; (with_reducible refine (spec_DrawVersionText.calls k _ _ l0 t102 t105 t106 t107 _ ?side1 ?side2 A4.out).mono ?_); (case side1 => exact yq190); (case side2 => exact HC0.out); rintro e w8 ⟨v103, rfl, ho0, hb⟩; refine ⟨_, rfl, ?_⟩; have HO104 := Qz.mk (Kd.R_lower ho0 (qb1 yq191)); replace HB := Qz.mk (qq yq191 hb); (try clear hb); (try clear hk); (try clear ho0)) | ((with_reducible refine gate_dst (N := 3) rfl ?_); refine box_event ?hg (N := 3) ?hd (cs := #[.slice none 0 0, .int .i64 0, .int .i64 0, .int .i64 0]) (t := 32) ?hr ?_; (case hd => rfl); (case hg => rfl); (case hr => first | (go_simp; done) | (go_simp; rfl)); intro gb108 hg w9 hbox hb; replace HO104 := Qz.mk (Kd.R_below yq173 hb); have BK108 := Qz.mk (hbox); have GW108 := Qz.mk ((by rw [hg]; exact (qb1 yq191) : w.heap.size ≤ gb108)); have GE108 := GW108; replace HB := Qz.mk (qq yq191 hb); clear hb hbox hg; obtain ⟨Ao10, co10, eo10⟩ := Kd.R_slice HO104.out; subst eo10; have hcz11_0 := (qg BK108.out 0).trans rfl; have hcz11_1 := (qg BK108.out 1).trans rfl; have hcz11_2 := (qg BK108.out 2).trans rfl; have hcz11_3 := (qg BK108.out 3).trans rfl; have hfz11_0 := qj BK108.out 0; have hfz11_1 := qj BK108.out 1; have hfz11_2 := qj BK108.out 2; have hfz11_3 := qj BK108.out 3) | ((with_reducible refine qm (f := 42) rfl ?_); refine qy (some 17) rfl rfl Try.func42 (by kernel_rfl) rfl #[.agg #[.slice Ao10 t102.length co10, .int .i64 t105, .int .i64 t106, .int .i64 t107]] rfl yq163 ?_; (with_reducible refine (impl_VersionText.calls k _ _ t102 t105 t106 t107 t109 _ ?side1 ?side2 A5.out).mono ?_); (case side1 => refine (Kd.R_reads' (e := 66) (base := w.heap.size) (ok := fun k_ => True) (n := t102.length) (c := co10) ?_).2.2; exact yq184); (case side2 => exact (Kd.R_reads' HO104.out).2.1); rintro e w12 ⟨rfl, hb⟩; refine ⟨_, rfl, ?_⟩; replace HO104 := Qz.mk (Kd.R_below yq184 hb); replace BK108 := Qz.mk (qu (g := gb108) (o := .cells #[.slice Ao10 t102.length co10, .int .i64 t105, .int .i64 t106, .int .i64 t107] 32 (0, 0)) (by (with_reducible repeat (first | refine qc ?_ _ | refine qf ?_ | refine qa ?_ _)); refine qw (cs := #[.slice Ao10 t102.length co10, .int .i64 t105, .int .i64 t106, .int .i64 0]) ?_ 3 _ rfl; (with_reducible repeat (first | refine qc ?_ _ | refine qf ?_ | refine qa ?_ _)); refine qw (cs := #[.slice Ao10 t102.length co10, .int .i64 t105, .int .i64 0, .int .i64 0]) ?_ 2 _ rfl; (with_reducible repeat (first | refine qc ?_ _ | refine qf ?_ | refine qa ?_ _)); refine qw (cs := #[.slice Ao10 t102.length co10, .int .i64 0, .int .i64 0, .int .i64 0]) ?_ 1 _ rfl; (with_reducible repeat (first | refine qc ?_ _ | refine qf ?_ | refine qa ?_ _)); refine qw (cs := #[.slice none 0 0, .int .i64 0, .int .i64 0, .int .i64 0]) ?_ 0 _ rfl; (with_reducible repeat (first | refine qc ?_ _ | refine qf ?_ | refine qa ?_ _)); exact BK108.out) hb); replace HB := Qz.mk (qq yq174 hb); (try clear hb); (try clear hk)) | ((with_reducible refine qm (f := 48) rfl ?_); refine qy (some 20) rfl rfl Try.func48 (by kernel_rfl) rfl #[.string t109] rfl yq188 ?_; (with_reducible refine (impl_ReadVersion.calls k t109 t110 t113 t114 t115 t116 _ A6.out).mono ?_); rintro e w13 ⟨v111, rfl, ho0, hb⟩; refine ⟨_, rfl, ?_⟩; have HO112 := Qz.mk (Kd.R_lower (Kd.R_new' ho0 (Kd.R_lt yq173)) (qb1 yq174)); replace HO104 := Qz.mk (Kd.R_elder' yq173 (Kd.R_base ho0) hb); replace BK108 := Qz.mk (qu (g := gb108) (o := .cells #[.slice Ao10 t102.length co10, .int .i64 t105, .int .i64 t106, .int .i64 t107] 32 (0, 0)) yq159 hb); replace HB := Qz.mk (qq yq174 hb); (try clear hb); (try clear hk); (try clear ho0)) | ((with_reducible refine gate_dst (N := 5) rfl ?_); refine box_event ?hg (N := 5) ?hd (cs := #[.slice none 0 0, .int .i64 0, .int .i64 0, .int .i64 0]) (t := 32) ?hr ?_; (case hd => rfl); (case hg => rfl); (case hr => first | (go_simp; done) | (go_simp; rfl)); intro gb117 hg w14 hbox hb; replace HO104 := Qz.mk (Kd.R_below yq173 hb); replace HO112 := Qz.mk (Kd.R_below (by (with_reducible repeat (first | apply Kd.R_alloc | apply Kd.R_drewN | apply Kd.R_drew)); exact HO112.out) hb); have BK117 := Qz.mk (hbox); have GW117 := Qz.mk ((by rw [hg]; exact (qb1 yq174) : w.heap.size ≤ gb117)); have GE117 := GW117; replace HB := Qz.mk (qq yq174 hb); have NB108_117 := Qz.mk ((yq168 : gb108 ≠ gb117)); have NB117_108 := Qz.mk ((yq169 : gb117 ≠ gb108)); replace BK108 := Qz.mk (qu (g := gb108) (o := .cells #[.slice Ao10 t102.length co10, .int .i64 t105, .int .i64 t106, .int .i64 t107] 32 (0, 0)) yq159 hb); clear hb hbox hg; obtain ⟨Ao15, co15, eo15⟩ := Kd.R_slice HO112.out; subst eo15; have hnb16 := NB117_108.out; have hnc16 := NB108_117.out; have hcz17_0 := (qg BK117.out 0).trans rfl; have hcz17_1 := (qg BK117.out 1).trans rfl; have hcz17_2 := (qg BK117.out 2).trans rfl; have hcz17_3 := (qg BK117.out 3).trans rfl; have hfz17_0 := qj BK117.out 0; have hfz17_1 := qj BK117.out 1; have hfz17_2 := qj BK117.out 2; have hfz17_3 := qj BK117.out 3))
  (try simp only [Act.put, sq1, sq2, sq3])
  go_cut [64] (fun v64 wc => ∃ (kq : Nat) (x64_6 : Bool), v64 = .bool x64_6 ∧ Qz (laws_FnVersionTexts.j0 kq l0 x64_6 = some r) ∧ Qz (kq ≤ k) ∧ Qz (Kd.R k66 66 wc w.heap.size (fun k_ => some k_ ≠ ((.slice Ao15 t110.length co15) : Value).ownBlock) (.slice Ao10 t102.length co10) t102) ∧ Qz (Kd.R k66 66 wc w.heap.size (fun k_ => some k_ ≠ ((.slice Ao10 t102.length co10) : Value).ownBlock) (.slice Ao15 t110.length co15) t110) ∧ Qz (wc.heap[gb108]? = some (.cells #[(.slice Ao10 t102.length co10), .int .i64 t105, .int .i64 t106, .int .i64 t107] 32 (0, 0))) ∧ Qz (wc.heap[gb117]? = some (.cells #[(.slice Ao15 t110.length co15), .int .i64 t113, .int .i64 t114, .int .i64 t115] 32 (0, 0))) ∧ Qz (Below w.heap.size w wc))
  case first =>
   have H := HC7.out
   clear HC7
   replace H := Option.bind_eq_some_iff.mp H
   obtain ⟨t118, A180, H⟩ := H
   replace H : (if t109.toList = t118.toList then ((impl_VersionOk.f t102 t105 t106 t107).bind fun t119 => (if (t116 != t119) = true then (none) else (if t116 = true then ((laws_sameMetas.f k t110 t102).bind fun t120 => (if t120 = true then (if t113 = t105 then (if t114 = t106 then (laws_FnVersionTexts.j0 k l0 (t115 != t107)) else (none)) else (none)) else (none))) else (laws_FnVersionTexts.j0 k l0 false)))) else (none)) = some r := H
   have A18 := Qz.mk A180
   clear A180
   by_cases c19 : t109.toList = t118.toList
   ·rw [if_pos c19] at H
    have c19b0 : (t109.toList == t118.toList) = true := beq_iff_eq.mpr c19
    have c19b1 : (t109.toList != t118.toList) = false := bne_eq_false_iff_eq.mpr c19
    clear c19
    (first | rw [c19b0] | (simp only [i64_w, i32_w]; rw [c19b0]) | skip)
    replace H := Option.bind_eq_some_iff.mp H
    obtain ⟨t119, A200, H⟩ := H
    replace H : (if (t116 != t119) = true then (none) else (if t116 = true then ((laws_sameMetas.f k t110 t102).bind fun t120 => (if t120 = true then (if t113 = t105 then (if t114 = t106 then (laws_FnVersionTexts.j0 k l0 (t115 != t107)) else (none)) else (none)) else (none))) else (laws_FnVersionTexts.j0 k l0 false))) = some r := H
    have A20 := Qz.mk A200
    clear A200
    by_cases c21 : (t116 != t119) = true
    ·rw [if_pos c21] at H
     exact absurd H (by simp)
    ·rw [if_neg c21] at H
     have c21b0 : (t116 != t119) = false := by simpa using c21
     (try (have c21b1 : decide (t116 = t119) = true := by simpa using c21))
     (try (have c21b2 : (t116 == t119) = true := by simpa using c21))
     clear c21
     by_cases c22 : t116 = true
     ·subst c22
      have H1 : ((laws_sameMetas.f k t110 t102).bind fun t120 => (if t120 = true then (if t113 = t105 then (if t114 = t106 then (laws_FnVersionTexts.j0 k l0 (t115 != t107)) else (none)) else (none)) else (none))) = some r := by rw [if_pos rfl] at H; exact H
      clear H
      have H := H1
      clear H1
      replace H := Option.bind_eq_some_iff.mp H
      obtain ⟨t120, A230, H⟩ := H
      replace H : (if t120 = true then (if t113 = t105 then (if t114 = t106 then (laws_FnVersionTexts.j0 k l0 (t115 != t107)) else (none)) else (none)) else (none)) = some r := H
      have A23 := Qz.mk A230
      clear A230
      by_cases c24 : t120 = true
      ·subst c24
       have H1 : (if t113 = t105 then (if t114 = t106 then (laws_FnVersionTexts.j0 k l0 (t115 != t107)) else (none)) else (none)) = some r := by rw [if_pos rfl] at H; exact H
       clear H
       have H := H1
       clear H1
       by_cases c25 : t113 = t105
       ·rw [if_pos c25] at H
        have c25b0 : (t113 == t105) = true := beq_iff_eq.mpr c25
        have c25b1 : (t113 != t105) = false := bne_eq_false_iff_eq.mpr c25
        clear c25
        by_cases c26 : t114 = t106
        ·rw [if_pos c26] at H
         have c26b0 : (t114 == t106) = true := beq_iff_eq.mpr c26
         have c26b1 : (t114 != t106) = false := bne_eq_false_iff_eq.mpr c26
         clear c26
         have H' := Qz.mk H
         clear H
         have hnb27 := NB108_117.out
         have hnc27 := NB117_108.out
         have hcz28_0 := (qg BK108.out 0).trans rfl
         have hcz28_1 := (qg BK108.out 1).trans rfl
         have hcz28_2 := (qg BK108.out 2).trans rfl
         have hcz28_3 := (qg BK108.out 3).trans rfl
         have hfz28_0 := qj BK108.out 0
         have hfz28_1 := qj BK108.out 1
         have hfz28_2 := qj BK108.out 2
         have hfz28_3 := qj BK108.out 3
         go_wp2_with (first | ((with_reducible refine qm (f := 41) rfl ?_); refine qy (some 25) rfl rfl Try.func41 (by kernel_rfl) rfl #[.agg #[.slice Ao10 t102.length co10, .int .i64 t105, .int .i64 t106, .int .i64 t107]] rfl yq163 ?_; (with_reducible refine (spec_VersionText.calls k _ _ t102 t105 t106 t107 t118 _ ?side1 ?side2 A18.out).mono ?_); (case side1 => refine (Kd.R_reads' (e := 66) (base := w.heap.size) (ok := fun k_ => (True ∧ some k_ ≠ (.slice Ao15 t110.length co15 : Value).ownBlock)) (n := t102.length) (c := co10) ?_).2.2; exact yq162); (case side2 => exact (Kd.R_reads' HO104.out).2.1); rintro e w29 ⟨rfl, hb⟩; refine ⟨_, rfl, ?_⟩; replace HO104 := Qz.mk (Kd.R_below yq162 hb); replace HO112 := Qz.mk (Kd.R_below yq183 hb); replace BK108 := Qz.mk (qu (g := gb108) (o := .cells #[.slice Ao10 t102.length co10, .int .i64 t105, .int .i64 t106, .int .i64 t107] 32 (0, 0)) yq172 hb); replace BK117 := Qz.mk (qu (g := gb117) (o := .cells #[.slice Ao15 t110.length co15, .int .i64 t113, .int .i64 t114, .int .i64 t115] 32 (0, 0)) yq167 hb); replace HB := Qz.mk (qq yq160 hb); (try clear hb); (try clear hk); have hcz30_0 := (qg BK108.out 0).trans rfl; have hcz30_1 := (qg BK108.out 1).trans rfl; have hcz30_2 := (qg BK108.out 2).trans rfl; have hcz30_3 := (qg BK108.out 3).trans rfl; have hfz30_0 := qj BK108.out 0; have hfz30_1 := qj BK108.out 1; have hfz30_2 := qj BK108.out 2; have hfz30_3 := qj BK108.out 3) | (go_at_call 27; (with_reducible refine (impl_VersionOk.calls _ _ t102 t105 t106 t107 t119 _ ?side1 ?side2 A20.out).mono ?_); (case side1 => exact yq187); (case side2 => exact (Kd.R_reads' HO104.out).2.1); rintro e w31 ⟨rfl, hb⟩; replace HO104 := Qz.mk (Kd.R_below yq173 hb); replace HO112 := Qz.mk (Kd.R_below (by (with_reducible repeat (first | apply Kd.R_alloc | apply Kd.R_drewN | apply Kd.R_drew)); exact HO112.out) hb); replace BK108 := Qz.mk (qu (g := gb108) (o := .cells #[.slice Ao10 t102.length co10, .int .i64 t105, .int .i64 t106, .int .i64 t107] 32 (0, 0)) yq159 hb); replace BK117 := Qz.mk (qu (g := gb117) (o := .cells #[.slice Ao15 t110.length co15, .int .i64 t113, .int .i64 t114, .int .i64 t115] 32 (0, 0)) yq161 hb); replace HB := Qz.mk (qq yq160 hb); (try clear hb); (try clear hk); have hcz32_0 := (qg BK117.out 0).trans rfl; have hcz32_1 := (qg BK117.out 1).trans rfl; have hcz32_2 := (qg BK117.out 2).trans rfl; have hcz32_3 := (qg BK117.out 3).trans rfl; have hfz32_0 := qj BK117.out 0; have hfz32_1 := qj BK117.out 1; have hfz32_2 := qj BK117.out 2; have hfz32_3 := qj BK117.out 3; have hcz33_0 := (qg BK108.out 0).trans rfl; have hcz33_1 := (qg BK108.out 1).trans rfl; have hcz33_2 := (qg BK108.out 2).trans rfl; have hcz33_3 := (qg BK108.out 3).trans rfl; have hfz33_0 := qj BK108.out 0; have hfz33_1 := qj BK108.out 1; have hfz33_2 := qj BK108.out 2; have hfz33_3 := qj BK108.out 3) | (go_at_call 50; (with_reducible refine (laws_sameMetas.calls k _ _ t110 _ _ t102 true _ ?side1 ?side2 ?side3 ?side4 A23.out).mono ?_); (case side1 => repeat (first | exact (Kd.R_reads' HO112.out).2.2 | (with_reducible refine Kd.C_alloc ?_ _) | (with_reducible refine Kd.C_drewN ?_ _) | (with_reducible refine Kd.C_drew ?_))); (case side2 => exact (Kd.R_reads' HO112.out).2.1); (case side3 => exact yq187); (case side4 => exact (Kd.R_reads' HO104.out).2.1); rintro e w' ⟨rfl, ⟨nd, rfl⟩⟩))
         go_meet
         case rel => exact ⟨_, ((t115 != t107)), (by first | rfl | (simp; done) | (simp [*]; done)), H', ⟨by first | omega | exact Nat.le_refl _⟩, ⟨by (with_reducible repeat (first | apply Kd.R_alloc | apply Kd.R_drewN | apply Kd.R_drew)); exact Kd.R_mono HO104.out (fun _ hk => hk.2)⟩, ⟨by (with_reducible repeat (first | apply Kd.R_alloc | apply Kd.R_drewN | apply Kd.R_drew)); exact Kd.R_mono HO112.out (fun _ hk => hk.2)⟩, ⟨by (with_reducible repeat (first | refine qc ?_ _ | refine qf ?_ | refine qa ?_ _)); exact BK108.out⟩, ⟨by (with_reducible repeat (first | refine qc ?_ _ | refine qf ?_ | refine qa ?_ _)); exact BK117.out⟩, ⟨by repeat (first | (with_reducible first | exact HB.out | apply qi | apply qd | apply qh | refine qe ?_ GE108.out | refine qe ?_ GE117.out) | exact HB.out)⟩⟩
        ·rw [if_neg c26] at H
         exact absurd H (by simp)
       ·rw [if_neg c25] at H
        exact absurd H (by simp)
      ·replace c24 := Bool.eq_false_iff.mpr c24
       subst c24
       have H1 : (none) = some r := by rw [if_neg (show ¬ (false = true) by decide)] at H; exact H
       clear H
       have H := H1
       clear H1
       exact absurd H (by simp)
     ·replace c22 := Bool.eq_false_iff.mpr c22
      subst c22
      have H1 : (laws_FnVersionTexts.j0 k l0 false) = some r := by rw [if_neg (show ¬ (false = true) by decide)] at H; exact H
      clear H
      have H := H1
      clear H1
      have H' := Qz.mk H
      clear H
      have hnb34 := NB108_117.out
      have hnc34 := NB117_108.out
      have hcz35_0 := (qg BK108.out 0).trans rfl
      have hcz35_1 := (qg BK108.out 1).trans rfl
      have hcz35_2 := (qg BK108.out 2).trans rfl
      have hcz35_3 := (qg BK108.out 3).trans rfl
      have hfz35_0 := qj BK108.out 0
      have hfz35_1 := qj BK108.out 1
      have hfz35_2 := qj BK108.out 2
      have hfz35_3 := qj BK108.out 3
      go_wp2_with (first | ((with_reducible refine qm (f := 41) rfl ?_); refine qy (some 25) rfl rfl Try.func41 (by kernel_rfl) rfl #[.agg #[.slice Ao10 t102.length co10, .int .i64 t105, .int .i64 t106, .int .i64 t107]] rfl yq163 ?_; (with_reducible refine (spec_VersionText.calls k _ _ t102 t105 t106 t107 t118 _ ?side1 ?side2 A18.out).mono ?_); (case side1 => refine (Kd.R_reads' (e := 66) (base := w.heap.size) (ok := fun k_ => (True ∧ some k_ ≠ (.slice Ao15 t110.length co15 : Value).ownBlock)) (n := t102.length) (c := co10) ?_).2.2; exact yq162); (case side2 => exact (Kd.R_reads' HO104.out).2.1); rintro e w36 ⟨rfl, hb⟩; refine ⟨_, rfl, ?_⟩; replace HO104 := Qz.mk (Kd.R_below yq162 hb); replace HO112 := Qz.mk (Kd.R_below yq183 hb); replace BK108 := Qz.mk (qu (g := gb108) (o := .cells #[.slice Ao10 t102.length co10, .int .i64 t105, .int .i64 t106, .int .i64 t107] 32 (0, 0)) yq172 hb); replace BK117 := Qz.mk (qu (g := gb117) (o := .cells #[.slice Ao15 t110.length co15, .int .i64 t113, .int .i64 t114, .int .i64 t115] 32 (0, 0)) yq167 hb); replace HB := Qz.mk (qq yq160 hb); (try clear hb); (try clear hk); have hcz37_0 := (qg BK108.out 0).trans rfl; have hcz37_1 := (qg BK108.out 1).trans rfl; have hcz37_2 := (qg BK108.out 2).trans rfl; have hcz37_3 := (qg BK108.out 3).trans rfl; have hfz37_0 := qj BK108.out 0; have hfz37_1 := qj BK108.out 1; have hfz37_2 := qj BK108.out 2; have hfz37_3 := qj BK108.out 3) | (go_at_call 27; (with_reducible refine (impl_VersionOk.calls _ _ t102 t105 t106 t107 t119 _ ?side1 ?side2 A20.out).mono ?_); (case side1 => exact yq187); (case side2 => exact (Kd.R_reads' HO104.out).2.1); rintro e w38 ⟨rfl, hb⟩; replace HO104 := Qz.mk (Kd.R_below yq173 hb); replace HO112 := Qz.mk (Kd.R_below (by (with_reducible repeat (first | apply Kd.R_alloc | apply Kd.R_drewN | apply Kd.R_drew)); exact HO112.out) hb); replace BK108 := Qz.mk (qu (g := gb108) (o := .cells #[.slice Ao10 t102.length co10, .int .i64 t105, .int .i64 t106, .int .i64 t107] 32 (0, 0)) yq159 hb); replace BK117 := Qz.mk (qu (g := gb117) (o := .cells #[.slice Ao15 t110.length co15, .int .i64 t113, .int .i64 t114, .int .i64 t115] 32 (0, 0)) yq161 hb); replace HB := Qz.mk (qq yq160 hb); (try clear hb); (try clear hk)))
      go_meet
      case rel => exact ⟨_, (false), (by first | rfl | (simp; done) | (simp [*]; done)), H', ⟨by first | omega | exact Nat.le_refl _⟩, ⟨by (with_reducible repeat (first | apply Kd.R_alloc | apply Kd.R_drewN | apply Kd.R_drew)); exact Kd.R_mono HO104.out (fun _ hk => hk.2)⟩, ⟨by (with_reducible repeat (first | apply Kd.R_alloc | apply Kd.R_drewN | apply Kd.R_drew)); exact Kd.R_mono HO112.out (fun _ hk => hk.2)⟩, ⟨by (with_reducible repeat (first | refine qc ?_ _ | refine qf ?_ | refine qa ?_ _)); exact BK108.out⟩, ⟨by (with_reducible repeat (first | refine qc ?_ _ | refine qf ?_ | refine qa ?_ _)); exact BK117.out⟩, ⟨by repeat (first | (with_reducible first | exact HB.out | apply qi | apply qd | apply qh | refine qe ?_ GE108.out | refine qe ?_ GE117.out) | exact HB.out)⟩⟩
   ·rw [if_neg c19] at H
    exact absurd H (by simp)
  case rest =>
   clear HC7
   (try clear c1);(try clear c2);(try clear p2);(try clear c3);(try clear c4);(try clear c5);(try clear c14);(try clear c16);(try clear c19);(try clear c19b0);(try clear c19b1);(try clear c21);(try clear c21b0);(try clear c21b1);(try clear c21b2);(try clear c22);(try clear c24);(try clear c25);(try clear c25b0);(try clear c25b1);(try clear c26);(try clear c26b0);(try clear c26b1);(try clear c27);(try clear c34);(try clear c36);(try clear hcz11_0);(try clear hcz11_1);(try clear hcz11_2);(try clear hcz11_3);(try clear hcz17_0);(try clear hcz17_1);(try clear hcz17_2);(try clear hcz17_3);(try clear hcz28_0);(try clear hcz28_1);(try clear hcz28_2);(try clear hcz28_3);(try clear hcz30_0);(try clear hcz30_1);(try clear hcz30_2);(try clear hcz30_3);(try clear hcz32_0);(try clear hcz32_1);(try clear hcz32_2);(try clear hcz32_3);(try clear hcz33_0);(try clear hcz33_1);(try clear hcz33_2);(try clear hcz33_3);(try clear hcz35_0);(try clear hcz35_1);(try clear hcz35_2);(try clear hcz35_3);(try clear hcz37_0);(try clear hcz37_1);(try clear hcz37_2);(try clear hcz37_3);(try clear hfz11_0);(try clear hfz11_1);(try clear hfz11_2);(try clear hfz11_3);(try clear hfz17_0);(try clear hfz17_1);(try clear hfz17_2);(try clear hfz17_3);(try clear hfz28_0);(try clear hfz28_1);(try clear hfz28_2);(try clear hfz28_3);(try clear hfz30_0);(try clear hfz30_1);(try clear hfz30_2);(try clear hfz30_3);(try clear hfz32_0);(try clear hfz32_1);(try clear hfz32_2);(try clear hfz32_3);(try clear hfz33_0);(try clear hfz33_1);(try clear hfz33_2);(try clear hfz33_3);(try clear hfz35_0);(try clear hfz35_1);(try clear hfz35_2);(try clear hfz35_3);(try clear hfz37_0);(try clear hfz37_1);(try clear hfz37_2);(try clear hfz37_3)
   obtain ⟨kq, x64_6, rfl, HA, HJ6, HO_109000, HO_118000, BK108, BK117, HB⟩ := hcut
   cases kq with
   | zero => exact absurd HA.out (by simp [laws_FnVersionTexts.j0])
   | succ kj6 =>
    have H := HA.out
    clear HA
    simp only [laws_FnVersionTexts.j0] at H
    by_cases c39 : x64_6 = true
    ·subst c39
     have H1 : (none) = some r := by rw [if_pos rfl] at H; exact H
     clear H
     have H := H1
     clear H1
     exact absurd H (by simp)
    ·replace c39 := Bool.eq_false_iff.mpr c39
     subst c39
     have H1 : ((spec_DrawReadVersion.f kj6 l0).bind fun t121 => ((impl_ReadVersion.f kj6 t121).bind fun bt122 => ((spec_ReadVersion.f kj6 t121).bind fun bt130 => (if (bt122.2.2.2.2 == bt130.2.2.2.2) = true then (if bt122.2.2.2.2 = true then ((impl_VersionText.f kj6 bt122.1 bt122.2.1 bt122.2.2.1 bt122.2.2.2.1).bind fun t138 => (some (t138.toList == t121.toList))) else (some true)) else (none))))) = some r := by rw [if_neg (show ¬ (false = true) by decide)] at H; exact H
     clear H
     have H := H1
     clear H1
     replace H := Option.bind_eq_some_iff.mp H
     obtain ⟨t121, A400, H⟩ := H
     replace H : ((impl_ReadVersion.f kj6 t121).bind fun bt122 => ((spec_ReadVersion.f kj6 t121).bind fun bt130 => (if (bt122.2.2.2.2 == bt130.2.2.2.2) = true then (if bt122.2.2.2.2 = true then ((impl_VersionText.f kj6 bt122.1 bt122.2.1 bt122.2.2.1 bt122.2.2.2.1).bind fun t138 => (some (t138.toList == t121.toList))) else (some true)) else (none)))) = some r := H
     have A40 := Qz.mk A400
     clear A400
     replace H := Option.bind_eq_some_iff.mp H
     obtain ⟨⟨t122, t125, t126, t127, t128⟩, A410, H⟩ := H
     replace H : ((spec_ReadVersion.f kj6 t121).bind fun bt130 => (if (t128 == bt130.2.2.2.2) = true then (if t128 = true then ((impl_VersionText.f kj6 t122 t125 t126 t127).bind fun t138 => (some (t138.toList == t121.toList))) else (some true)) else (none))) = some r := H
     have A41 := Qz.mk A410
     clear A410
     replace H := Option.bind_eq_some_iff.mp H
     obtain ⟨⟨t130, t133, t134, t135, t136⟩, A420, H⟩ := H
     replace H : (if (t128 == t136) = true then (if t128 = true then ((impl_VersionText.f kj6 t122 t125 t126 t127).bind fun t138 => (some (t138.toList == t121.toList))) else (some true)) else (none)) = some r := H
     have A42 := Qz.mk A420
     clear A420
     by_cases c43 : (t128 == t136) = true
     ·rw [if_pos c43] at H
      have c43b0 : (t128 == t136) = true := c43
      (try (have c43b1 : decide (t128 = t136) = true := by simpa using c43))
      (try (have c43b2 : (t128 == t136) = true := by simpa using c43))
      clear c43
      by_cases c44 : t128 = true
      ·subst c44
       have H1 : ((impl_VersionText.f kj6 t122 t125 t126 t127).bind fun t138 => (some (t138.toList == t121.toList))) = some r := by rw [if_pos rfl] at H; exact H
       clear H
       have H := H1
       clear H1
       replace H := Option.bind_eq_some_iff.mp H
       obtain ⟨t138, A450, H⟩ := H
       replace H : (some (t138.toList == t121.toList)) = some r := H
       have A45 := Qz.mk A450
       clear A450
       obtain rfl := Option.some.inj H
       go_wp2_with (first | ((with_reducible refine qm (f := 53) rfl ?_); refine qy (some 66) rfl rfl Try.func53 (by kernel_rfl) rfl #[.slice A0 l0.length c0] rfl yq163 ?_; (with_reducible refine (spec_DrawReadVersion.calls kj6 _ _ l0 t121 _ ?side1 ?side2 A40.out).mono ?_); (case side1 => repeat (first | exact (Kd.C_below HR0.out HB.out) | (with_reducible refine Kd.C_alloc ?_ _) | (with_reducible refine Kd.C_drewN ?_ _) | (with_reducible refine Kd.C_drew ?_))); (case side2 => exact HC0.out); rintro e w46 ⟨rfl, hb⟩; refine ⟨_, rfl, ?_⟩; replace HO_109000 := Qz.mk (Kd.R_below yq166 hb); replace HO_118000 := Qz.mk (Kd.R_below yq165 hb); replace BK108 := Qz.mk (qu (g := gb108) (o := .cells #[.slice Ao10 t102.length co10, .int .i64 t105, .int .i64 t106, .int .i64 t107] 32 (0, 0)) yq159 hb); replace BK117 := Qz.mk (qu (g := gb117) (o := .cells #[.slice Ao15 t110.length co15, .int .i64 t113, .int .i64 t114, .int .i64 t115] 32 (0, 0)) yq161 hb); replace HB := Qz.mk (qq yq160 hb); (try clear hb); (try clear hk)) | ((with_reducible refine qm (f := 48) rfl ?_); refine qy (some 69) rfl rfl Try.func48 (by kernel_rfl) rfl #[.string t121] rfl yq188 ?_; (with_reducible refine (impl_ReadVersion.calls kj6 t121 t122 t125 t126 t127 true _ A41.out).mono ?_); rintro e w47 ⟨v123, rfl, ho0, hb⟩; refine ⟨_, rfl, ?_⟩; have HO124 := Qz.mk (Kd.R_lower (Kd.R_new' (Kd.R_new' ho0 (Kd.R_lt yq166)) (Kd.R_lt yq165)) (qb1 yq160)); replace HO_109000 := Qz.mk (Kd.R_elder' yq166 (Kd.R_base ho0) hb); replace HO_118000 := Qz.mk (Kd.R_elder' yq165 (Kd.R_base ho0) hb); replace BK108 := Qz.mk (qu (g := gb108) (o := .cells #[.slice Ao10 t102.length co10, .int .i64 t105, .int .i64 t106, .int .i64 t107] 32 (0, 0)) yq159 hb); replace BK117 := Qz.mk (qu (g := gb117) (o := .cells #[.slice Ao15 t110.length co15, .int .i64 t113, .int .i64 t114, .int .i64 t115] 32 (0, 0)) yq161 hb); replace HB := Qz.mk (qq yq160 hb); (try clear hb); (try clear hk); (try clear ho0)) | ((with_reducible refine gate_dst (N := 8) rfl ?_); refine box_event ?hg (N := 8) ?hd (cs := #[.slice none 0 0, .int .i64 0, .int .i64 0, .int .i64 0]) (t := 32) ?hr ?_; (case hd => rfl); (case hg => rfl); (case hr => first | (go_simp; done) | (go_simp; rfl)); intro gb129 hg w48 hbox hb; replace HO_109000 := Qz.mk (Kd.R_below yq166 hb); replace HO_118000 := Qz.mk (Kd.R_below yq165 hb); replace HO124 := Qz.mk (Kd.R_below yq189 hb); have BK129 := Qz.mk (hbox); have GW129 := Qz.mk ((by rw [hg]; exact (qb1 yq160) : w.heap.size ≤ gb129)); have GE129 := GW129; replace HB := Qz.mk (qq yq160 hb); have NB108_129 := Qz.mk ((yq168 : gb108 ≠ gb129)); have NB129_108 := Qz.mk ((yq169 : gb129 ≠ gb108)); replace BK108 := Qz.mk (qu (g := gb108) (o := .cells #[.slice Ao10 t102.length co10, .int .i64 t105, .int .i64 t106, .int .i64 t107] 32 (0, 0)) yq159 hb); have NB117_129 := Qz.mk ((yq185 : gb117 ≠ gb129)); have NB129_117 := Qz.mk ((yq186 : gb129 ≠ gb117)); replace BK117 := Qz.mk (qu (g := gb117) (o := .cells #[.slice Ao15 t110.length co15, .int .i64 t113, .int .i64 t114, .int .i64 t115] 32 (0, 0)) yq161 hb); clear hb hbox hg; obtain ⟨Ao49, co49, eo49⟩ := Kd.R_slice HO124.out; subst eo49; have hnb50 := NB129_108.out; have hnc50 := NB108_129.out; have hnb51 := NB129_117.out; have hnc51 := NB117_129.out; have hcz52_0 := (qg BK129.out 0).trans rfl; have hcz52_1 := (qg BK129.out 1).trans rfl; have hcz52_2 := (qg BK129.out 2).trans rfl; have hcz52_3 := (qg BK129.out 3).trans rfl; have hfz52_0 := qj BK129.out 0; have hfz52_1 := qj BK129.out 1; have hfz52_2 := qj BK129.out 2; have hfz52_3 := qj BK129.out 3) | ((with_reducible refine qm (f := 47) rfl ?_); refine qy (some 74) rfl rfl Try.func47 (by kernel_rfl) rfl #[.string t121] rfl yq188 ?_; (with_reducible refine (spec_ReadVersion.calls kj6 t121 t130 t133 t134 t135 t136 _ A42.out).mono ?_); rintro e w53 ⟨v131, rfl, ho0, hb⟩; refine ⟨_, rfl, ?_⟩; have HO132 := Qz.mk (Kd.R_lower (Kd.R_new' (Kd.R_new' (Kd.R_new' ho0 (Kd.R_lt yq179)) (Kd.R_lt yq177)) (Kd.R_lt yq182)) (qb1 yq164)); replace HO_109000 := Qz.mk (Kd.R_elder' yq179 (Kd.R_base ho0) hb); replace HO_118000 := Qz.mk (Kd.R_elder' yq177 (Kd.R_base ho0) hb); replace HO124 := Qz.mk (Kd.R_elder' yq182 (Kd.R_base ho0) hb); replace BK108 := Qz.mk (qu (g := gb108) (o := .cells #[.slice Ao10 t102.length co10, .int .i64 t105, .int .i64 t106, .int .i64 t107] 32 (0, 0)) yq171 hb); replace BK117 := Qz.mk (qu (g := gb117) (o := .cells #[.slice Ao15 t110.length co15, .int .i64 t113, .int .i64 t114, .int .i64 t115] 32 (0, 0)) yq170 hb); replace BK129 := Qz.mk (qu (g := gb129) (o := .cells #[.slice Ao49 t122.length co49, .int .i64 t125, .int .i64 t126, .int .i64 t127] 32 (0, 0)) (by (with_reducible repeat (first | refine qc ?_ _ | refine qf ?_ | refine qa ?_ _)); refine qw (cs := #[.slice Ao49 t122.length co49, .int .i64 t125, .int .i64 t126, .int .i64 0]) ?_ 3 _ rfl; (with_reducible repeat (first | refine qc ?_ _ | refine qf ?_ | refine qa ?_ _)); refine qw (cs := #[.slice Ao49 t122.length co49, .int .i64 t125, .int .i64 0, .int .i64 0]) ?_ 2 _ rfl; (with_reducible repeat (first | refine qc ?_ _ | refine qf ?_ | refine qa ?_ _)); refine qw (cs := #[.slice Ao49 t122.length co49, .int .i64 0, .int .i64 0, .int .i64 0]) ?_ 1 _ rfl; (with_reducible repeat (first | refine qc ?_ _ | refine qf ?_ | refine qa ?_ _)); refine qw (cs := #[.slice none 0 0, .int .i64 0, .int .i64 0, .int .i64 0]) ?_ 0 _ rfl; (with_reducible repeat (first | refine qc ?_ _ | refine qf ?_ | refine qa ?_ _)); exact BK129.out) hb); replace HB := Qz.mk (qq yq164 hb); (try clear hb); (try clear hk); (try clear ho0)) | ((with_reducible refine gate_dst (N := 10) rfl ?_); refine box_event ?hg (N := 10) ?hd (cs := #[.slice none 0 0, .int .i64 0, .int .i64 0, .int .i64 0]) (t := 32) ?hr ?_; (case hd => rfl); (case hg => rfl); (case hr => first | (go_simp; done) | (go_simp; rfl)); intro gb137 hg w54 hbox hb; replace HO_109000 := Qz.mk (Kd.R_below yq166 hb); replace HO_118000 := Qz.mk (Kd.R_below yq165 hb); replace HO124 := Qz.mk (Kd.R_below yq189 hb); replace HO132 := Qz.mk (Kd.R_below (by (with_reducible repeat (first | apply Kd.R_alloc | apply Kd.R_drewN | apply Kd.R_drew)); exact HO132.out) hb); have BK137 := Qz.mk (hbox); have GW137 := Qz.mk ((by rw [hg]; exact (qb1 yq164) : w.heap.size ≤ gb137)); have GE137 := GW137; replace HB := Qz.mk (qq yq164 hb); have NB108_137 := Qz.mk ((yq168 : gb108 ≠ gb137)); have NB137_108 := Qz.mk ((yq169 : gb137 ≠ gb108)); replace BK108 := Qz.mk (qu (g := gb108) (o := .cells #[.slice Ao10 t102.length co10, .int .i64 t105, .int .i64 t106, .int .i64 t107] 32 (0, 0)) yq159 hb); have NB117_137 := Qz.mk ((yq185 : gb117 ≠ gb137)); have NB137_117 := Qz.mk ((yq186 : gb137 ≠ gb117)); replace BK117 := Qz.mk (qu (g := gb117) (o := .cells #[.slice Ao15 t110.length co15, .int .i64 t113, .int .i64 t114, .int .i64 t115] 32 (0, 0)) yq161 hb); have NB129_137 := Qz.mk ((by rw [hg]; exact Nat.ne_of_lt (qh1 (g := gb129) (o := .cells #[.slice Ao49 t122.length co49, .int .i64 t125, .int .i64 t126, .int .i64 t127] 32 (0, 0)) yq175) : gb129 ≠ gb137)); have NB137_129 := Qz.mk ((by rw [hg]; exact Nat.ne_of_gt (qh1 (g := gb129) (o := .cells #[.slice Ao49 t122.length co49, .int .i64 t125, .int .i64 t126, .int .i64 t127] 32 (0, 0)) yq175) : gb137 ≠ gb129)); replace BK129 := Qz.mk (qu (g := gb129) (o := .cells #[.slice Ao49 t122.length co49, .int .i64 t125, .int .i64 t126, .int .i64 t127] 32 (0, 0)) yq175 hb); clear hb hbox hg; obtain ⟨Ao55, co55, eo55⟩ := Kd.R_slice HO132.out; subst eo55; have hnb56 := NB137_108.out; have hnc56 := NB108_137.out; have hnb57 := NB137_117.out; have hnc57 := NB117_137.out; have hnb58 := NB137_129.out; have hnc58 := NB129_137.out; have hcz59_0 := (qg BK137.out 0).trans rfl; have hcz59_1 := (qg BK137.out 1).trans rfl; have hcz59_2 := (qg BK137.out 2).trans rfl; have hcz59_3 := (qg BK137.out 3).trans rfl; have hfz59_0 := qj BK137.out 0; have hfz59_1 := qj BK137.out 1; have hfz59_2 := qj BK137.out 2; have hfz59_3 := qj BK137.out 3; have hcz60_0 := (qg BK129.out 0).trans rfl; have hcz60_1 := (qg BK129.out 1).trans rfl; have hcz60_2 := (qg BK129.out 2).trans rfl; have hcz60_3 := (qg BK129.out 3).trans rfl; have hfz60_0 := qj BK129.out 0; have hfz60_1 := qj BK129.out 1; have hfz60_2 := qj BK129.out 2; have hfz60_3 := qj BK129.out 3) | (go_at_call 42; (with_reducible refine (impl_VersionText.calls kj6 _ _ t122 t125 t126 t127 t138 _ ?side1 ?side2 A45.out).mono ?_); (case side1 => refine (Kd.R_reads' (e := 66) (base := w.heap.size) (ok := fun k_ => (((True ∧ some k_ ≠ (.slice Ao10 t102.length co10 : Value).ownBlock) ∧ some k_ ≠ (.slice Ao15 t110.length co15 : Value).ownBlock) ∧ some k_ ≠ (.slice Ao55 t130.length co55 : Value).ownBlock)) (n := t122.length) (c := co49) ?_).2.2; exact yq180); (case side2 => exact (Kd.R_reads' HO124.out).2.1); rintro e w61 ⟨rfl, hb⟩; replace HO_109000 := Qz.mk (Kd.R_below (by (with_reducible repeat (first | apply Kd.R_alloc | apply Kd.R_drewN | apply Kd.R_drew)); exact (Kd.R_mono (Kd.R_far (p := ⟨gb137, 3, none⟩) (Kd.R_far (p := ⟨gb137, 2, none⟩) (Kd.R_far (p := ⟨gb137, 1, none⟩) (Kd.R_far (p := ⟨gb137, 0, none⟩) (Kd.R_types HO_109000.out BK137.out (by decide)) (fun _ hk => hk.2) (.slice Ao55 t130.length co55)) (fun _ hk => hk.2) (.int .i64 t133)) (fun _ hk => hk.2) (.int .i64 t134)) (fun _ hk => hk.2) (.int .i64 t135)) (fun _ h_ => h_.1))) hb); replace HO_118000 := Qz.mk (Kd.R_below (by (with_reducible repeat (first | apply Kd.R_alloc | apply Kd.R_drewN | apply Kd.R_drew)); exact (Kd.R_mono (Kd.R_far (p := ⟨gb137, 3, none⟩) (Kd.R_far (p := ⟨gb137, 2, none⟩) (Kd.R_far (p := ⟨gb137, 1, none⟩) (Kd.R_far (p := ⟨gb137, 0, none⟩) (Kd.R_types HO_118000.out BK137.out (by decide)) (fun _ hk => hk.2) (.slice Ao55 t130.length co55)) (fun _ hk => hk.2) (.int .i64 t133)) (fun _ hk => hk.2) (.int .i64 t134)) (fun _ hk => hk.2) (.int .i64 t135)) (fun _ h_ => h_.1))) hb); replace HO124 := Qz.mk (Kd.R_below yq180 hb); replace HO132 := Qz.mk (Kd.R_below (by (with_reducible repeat (first | apply Kd.R_alloc | apply Kd.R_drewN | apply Kd.R_drew)); exact (Kd.R_mono (Kd.R_far (p := ⟨gb137, 3, none⟩) (Kd.R_far (p := ⟨gb137, 2, none⟩) (Kd.R_far (p := ⟨gb137, 1, none⟩) (Kd.R_far (p := ⟨gb137, 0, none⟩) (Kd.R_types HO132.out BK137.out (by decide)) (fun _ hk => hk.2) (.slice Ao55 t130.length co55)) (fun _ hk => hk.2) (.int .i64 t133)) (fun _ hk => hk.2) (.int .i64 t134)) (fun _ hk => hk.2) (.int .i64 t135)) (fun _ h_ => h_.1))) hb); replace BK108 := Qz.mk (qu (g := gb108) (o := .cells #[.slice Ao10 t102.length co10, .int .i64 t105, .int .i64 t106, .int .i64 t107] 32 (0, 0)) (by (with_reducible repeat (first | refine qc ?_ _ | refine qf ?_ | refine qa ?_ _)); refine qx ?_ NB108_137.out _; (with_reducible repeat (first | refine qc ?_ _ | refine qf ?_ | refine qa ?_ _)); refine qx ?_ NB108_137.out _; (with_reducible repeat (first | refine qc ?_ _ | refine qf ?_ | refine qa ?_ _)); refine qx ?_ NB108_137.out _; (with_reducible repeat (first | refine qc ?_ _ | refine qf ?_ | refine qa ?_ _)); refine qx ?_ NB108_137.out _; (with_reducible repeat (first | refine qc ?_ _ | refine qf ?_ | refine qa ?_ _)); exact BK108.out) hb); replace BK117 := Qz.mk (qu (g := gb117) (o := .cells #[.slice Ao15 t110.length co15, .int .i64 t113, .int .i64 t114, .int .i64 t115] 32 (0, 0)) (by (with_reducible repeat (first | refine qc ?_ _ | refine qf ?_ | refine qa ?_ _)); refine qx ?_ NB117_137.out _; (with_reducible repeat (first | refine qc ?_ _ | refine qf ?_ | refine qa ?_ _)); refine qx ?_ NB117_137.out _; (with_reducible repeat (first | refine qc ?_ _ | refine qf ?_ | refine qa ?_ _)); refine qx ?_ NB117_137.out _; (with_reducible repeat (first | refine qc ?_ _ | refine qf ?_ | refine qa ?_ _)); refine qx ?_ NB117_137.out _; (with_reducible repeat (first | refine qc ?_ _ | refine qf ?_ | refine qa ?_ _)); exact BK117.out) hb); replace BK129 := Qz.mk (qu (g := gb129) (o := .cells #[.slice Ao49 t122.length co49, .int .i64 t125, .int .i64 t126, .int .i64 t127] 32 (0, 0)) (by (with_reducible repeat (first | refine qc ?_ _ | refine qf ?_ | refine qa ?_ _)); refine qx ?_ NB129_137.out _; (with_reducible repeat (first | refine qc ?_ _ | refine qf ?_ | refine qa ?_ _)); refine qx ?_ NB129_137.out _; (with_reducible repeat (first | refine qc ?_ _ | refine qf ?_ | refine qa ?_ _)); refine qx ?_ NB129_137.out _; (with_reducible repeat (first | refine qc ?_ _ | refine qf ?_ | refine qa ?_ _)); refine qx ?_ NB129_137.out _; (with_reducible repeat (first | refine qc ?_ _ | refine qf ?_ | refine qa ?_ _)); exact BK129.out) hb); replace BK137 := Qz.mk (qu (g := gb137) (o := .cells #[.slice Ao55 t130.length co55, .int .i64 t133, .int .i64 t134, .int .i64 t135] 32 (0, 0)) (by (with_reducible repeat (first | refine qc ?_ _ | refine qf ?_ | refine qa ?_ _)); refine qw (cs := #[.slice Ao55 t130.length co55, .int .i64 t133, .int .i64 t134, .int .i64 0]) ?_ 3 _ rfl; (with_reducible repeat (first | refine qc ?_ _ | refine qf ?_ | refine qa ?_ _)); refine qw (cs := #[.slice Ao55 t130.length co55, .int .i64 t133, .int .i64 0, .int .i64 0]) ?_ 2 _ rfl; (with_reducible repeat (first | refine qc ?_ _ | refine qf ?_ | refine qa ?_ _)); refine qw (cs := #[.slice Ao55 t130.length co55, .int .i64 0, .int .i64 0, .int .i64 0]) ?_ 1 _ rfl; (with_reducible repeat (first | refine qc ?_ _ | refine qf ?_ | refine qa ?_ _)); refine qw (cs := #[.slice none 0 0, .int .i64 0, .int .i64 0, .int .i64 0]) ?_ 0 _ rfl; (with_reducible repeat (first | refine qc ?_ _ | refine qf ?_ | refine qa ?_ _)); exact BK137.out) hb); replace HB := Qz.mk (qq (by repeat (first | (with_reducible first | exact HB.out | apply qi | apply qd | apply qh | refine qe ?_ GE108.out | refine qe ?_ GE117.out | refine qe ?_ GE129.out | refine qe ?_ GE137.out) | exact HB.out)) hb); (try clear hb); (try clear hk)))
       go_ret
       exact ⟨by first | rfl | (simp [qt, qr] <;> rfl) | (simp [*, qt, qr] <;> rfl), by repeat (first | (with_reducible first | exact HB.out | apply qi | apply qd | apply qh | refine qe ?_ GE108.out | refine qe ?_ GE117.out | refine qe ?_ GE129.out | refine qe ?_ GE137.out) | exact HB.out)⟩
      ·replace c44 := Bool.eq_false_iff.mpr c44
       subst c44
       have H1 : (some true) = some r := by rw [if_neg (show ¬ (false = true) by decide)] at H; exact H
       clear H
       have H := H1
       clear H1
       obtain rfl := Option.some.inj H
       go_wp2_with (first | ((with_reducible refine qm (f := 53) rfl ?_); refine qy (some 66) rfl rfl Try.func53 (by kernel_rfl) rfl #[.slice A0 l0.length c0] rfl yq163 ?_; (with_reducible refine (spec_DrawReadVersion.calls kj6 _ _ l0 t121 _ ?side1 ?side2 A40.out).mono ?_); (case side1 => repeat (first | exact (Kd.C_below HR0.out HB.out) | (with_reducible refine Kd.C_alloc ?_ _) | (with_reducible refine Kd.C_drewN ?_ _) | (with_reducible refine Kd.C_drew ?_))); (case side2 => exact HC0.out); rintro e w62 ⟨rfl, hb⟩; refine ⟨_, rfl, ?_⟩; replace HO_109000 := Qz.mk (Kd.R_below yq166 hb); replace HO_118000 := Qz.mk (Kd.R_below yq165 hb); replace BK108 := Qz.mk (qu (g := gb108) (o := .cells #[.slice Ao10 t102.length co10, .int .i64 t105, .int .i64 t106, .int .i64 t107] 32 (0, 0)) yq159 hb); replace BK117 := Qz.mk (qu (g := gb117) (o := .cells #[.slice Ao15 t110.length co15, .int .i64 t113, .int .i64 t114, .int .i64 t115] 32 (0, 0)) yq161 hb); replace HB := Qz.mk (qq yq160 hb); (try clear hb); (try clear hk)) | ((with_reducible refine qm (f := 48) rfl ?_); refine qy (some 69) rfl rfl Try.func48 (by kernel_rfl) rfl #[.string t121] rfl yq188 ?_; (with_reducible refine (impl_ReadVersion.calls kj6 t121 t122 t125 t126 t127 false _ A41.out).mono ?_); rintro e w63 ⟨v123, rfl, ho0, hb⟩; refine ⟨_, rfl, ?_⟩; have HO124 := Qz.mk (Kd.R_lower (Kd.R_new' (Kd.R_new' ho0 (Kd.R_lt yq166)) (Kd.R_lt yq165)) (qb1 yq160)); replace HO_109000 := Qz.mk (Kd.R_elder' yq166 (Kd.R_base ho0) hb); replace HO_118000 := Qz.mk (Kd.R_elder' yq165 (Kd.R_base ho0) hb); replace BK108 := Qz.mk (qu (g := gb108) (o := .cells #[.slice Ao10 t102.length co10, .int .i64 t105, .int .i64 t106, .int .i64 t107] 32 (0, 0)) yq159 hb); replace BK117 := Qz.mk (qu (g := gb117) (o := .cells #[.slice Ao15 t110.length co15, .int .i64 t113, .int .i64 t114, .int .i64 t115] 32 (0, 0)) yq161 hb); replace HB := Qz.mk (qq yq160 hb); (try clear hb); (try clear hk); (try clear ho0)) | ((with_reducible refine gate_dst (N := 8) rfl ?_); refine box_event ?hg (N := 8) ?hd (cs := #[.slice none 0 0, .int .i64 0, .int .i64 0, .int .i64 0]) (t := 32) ?hr ?_; (case hd => rfl); (case hg => rfl); (case hr => first | (go_simp; done) | (go_simp; rfl)); intro gb129 hg w64 hbox hb; replace HO_109000 := Qz.mk (Kd.R_below yq166 hb); replace HO_118000 := Qz.mk (Kd.R_below yq165 hb); replace HO124 := Qz.mk (Kd.R_below yq189 hb); have BK129 := Qz.mk (hbox); have GW129 := Qz.mk ((by rw [hg]; exact (qb1 yq160) : w.heap.size ≤ gb129)); have GE129 := GW129; replace HB := Qz.mk (qq yq160 hb); have NB108_129 := Qz.mk ((yq168 : gb108 ≠ gb129)); have NB129_108 := Qz.mk ((yq169 : gb129 ≠ gb108)); replace BK108 := Qz.mk (qu (g := gb108) (o := .cells #[.slice Ao10 t102.length co10, .int .i64 t105, .int .i64 t106, .int .i64 t107] 32 (0, 0)) yq159 hb); have NB117_129 := Qz.mk ((yq185 : gb117 ≠ gb129)); have NB129_117 := Qz.mk ((yq186 : gb129 ≠ gb117)); replace BK117 := Qz.mk (qu (g := gb117) (o := .cells #[.slice Ao15 t110.length co15, .int .i64 t113, .int .i64 t114, .int .i64 t115] 32 (0, 0)) yq161 hb); clear hb hbox hg; obtain ⟨Ao65, co65, eo65⟩ := Kd.R_slice HO124.out; subst eo65; have hnb66 := NB129_108.out; have hnc66 := NB108_129.out; have hnb67 := NB129_117.out; have hnc67 := NB117_129.out; have hcz68_0 := (qg BK129.out 0).trans rfl; have hcz68_1 := (qg BK129.out 1).trans rfl; have hcz68_2 := (qg BK129.out 2).trans rfl; have hcz68_3 := (qg BK129.out 3).trans rfl; have hfz68_0 := qj BK129.out 0; have hfz68_1 := qj BK129.out 1; have hfz68_2 := qj BK129.out 2; have hfz68_3 := qj BK129.out 3) | ((with_reducible refine qm (f := 47) rfl ?_); refine qy (some 74) rfl rfl Try.func47 (by kernel_rfl) rfl #[.string t121] rfl yq188 ?_; (with_reducible refine (spec_ReadVersion.calls kj6 t121 t130 t133 t134 t135 t136 _ A42.out).mono ?_); rintro e w69 ⟨v131, rfl, ho0, hb⟩; refine ⟨_, rfl, ?_⟩; have HO132 := Qz.mk (Kd.R_lower (Kd.R_new' (Kd.R_new' (Kd.R_new' ho0 (Kd.R_lt yq178)) (Kd.R_lt yq176)) (Kd.R_lt yq181)) (qb1 yq164)); replace HO_109000 := Qz.mk (Kd.R_elder' yq178 (Kd.R_base ho0) hb); replace HO_118000 := Qz.mk (Kd.R_elder' yq176 (Kd.R_base ho0) hb); replace HO124 := Qz.mk (Kd.R_elder' yq181 (Kd.R_base ho0) hb); replace BK108 := Qz.mk (qu (g := gb108) (o := .cells #[.slice Ao10 t102.length co10, .int .i64 t105, .int .i64 t106, .int .i64 t107] 32 (0, 0)) yq171 hb); replace BK117 := Qz.mk (qu (g := gb117) (o := .cells #[.slice Ao15 t110.length co15, .int .i64 t113, .int .i64 t114, .int .i64 t115] 32 (0, 0)) yq170 hb); replace BK129 := Qz.mk (qu (g := gb129) (o := .cells #[.slice Ao65 t122.length co65, .int .i64 t125, .int .i64 t126, .int .i64 t127] 32 (0, 0)) (by (with_reducible repeat (first | refine qc ?_ _ | refine qf ?_ | refine qa ?_ _)); refine qw (cs := #[.slice Ao65 t122.length co65, .int .i64 t125, .int .i64 t126, .int .i64 0]) ?_ 3 _ rfl; (with_reducible repeat (first | refine qc ?_ _ | refine qf ?_ | refine qa ?_ _)); refine qw (cs := #[.slice Ao65 t122.length co65, .int .i64 t125, .int .i64 0, .int .i64 0]) ?_ 2 _ rfl; (with_reducible repeat (first | refine qc ?_ _ | refine qf ?_ | refine qa ?_ _)); refine qw (cs := #[.slice Ao65 t122.length co65, .int .i64 0, .int .i64 0, .int .i64 0]) ?_ 1 _ rfl; (with_reducible repeat (first | refine qc ?_ _ | refine qf ?_ | refine qa ?_ _)); refine qw (cs := #[.slice none 0 0, .int .i64 0, .int .i64 0, .int .i64 0]) ?_ 0 _ rfl; (with_reducible repeat (first | refine qc ?_ _ | refine qf ?_ | refine qa ?_ _)); exact BK129.out) hb); replace HB := Qz.mk (qq yq164 hb); (try clear hb); (try clear hk); (try clear ho0)) | ((with_reducible refine gate_dst (N := 10) rfl ?_); refine box_event ?hg (N := 10) ?hd (cs := #[.slice none 0 0, .int .i64 0, .int .i64 0, .int .i64 0]) (t := 32) ?hr ?_; (case hd => rfl); (case hg => rfl); (case hr => first | (go_simp; done) | (go_simp; rfl)); intro gb137 hg w70 hbox hb; replace HO_109000 := Qz.mk (Kd.R_below yq166 hb); replace HO_118000 := Qz.mk (Kd.R_below yq165 hb); replace HO124 := Qz.mk (Kd.R_below yq189 hb); replace HO132 := Qz.mk (Kd.R_below (by (with_reducible repeat (first | apply Kd.R_alloc | apply Kd.R_drewN | apply Kd.R_drew)); exact HO132.out) hb); have BK137 := Qz.mk (hbox); have GW137 := Qz.mk ((by rw [hg]; exact (qb1 yq164) : w.heap.size ≤ gb137)); have GE137 := GW137; replace HB := Qz.mk (qq yq164 hb); have NB108_137 := Qz.mk ((yq168 : gb108 ≠ gb137)); have NB137_108 := Qz.mk ((yq169 : gb137 ≠ gb108)); replace BK108 := Qz.mk (qu (g := gb108) (o := .cells #[.slice Ao10 t102.length co10, .int .i64 t105, .int .i64 t106, .int .i64 t107] 32 (0, 0)) yq159 hb); have NB117_137 := Qz.mk ((yq185 : gb117 ≠ gb137)); have NB137_117 := Qz.mk ((yq186 : gb137 ≠ gb117)); replace BK117 := Qz.mk (qu (g := gb117) (o := .cells #[.slice Ao15 t110.length co15, .int .i64 t113, .int .i64 t114, .int .i64 t115] 32 (0, 0)) yq161 hb); have NB129_137 := Qz.mk ((by rw [hg]; exact Nat.ne_of_lt (qh1 (g := gb129) (o := .cells #[.slice Ao65 t122.length co65, .int .i64 t125, .int .i64 t126, .int .i64 t127] 32 (0, 0)) yq175) : gb129 ≠ gb137)); have NB137_129 := Qz.mk ((by rw [hg]; exact Nat.ne_of_gt (qh1 (g := gb129) (o := .cells #[.slice Ao65 t122.length co65, .int .i64 t125, .int .i64 t126, .int .i64 t127] 32 (0, 0)) yq175) : gb137 ≠ gb129)); replace BK129 := Qz.mk (qu (g := gb129) (o := .cells #[.slice Ao65 t122.length co65, .int .i64 t125, .int .i64 t126, .int .i64 t127] 32 (0, 0)) yq175 hb); clear hb hbox hg; obtain ⟨Ao71, co71, eo71⟩ := Kd.R_slice HO132.out; subst eo71; have hnb72 := NB137_108.out; have hnc72 := NB108_137.out; have hnb73 := NB137_117.out; have hnc73 := NB117_137.out; have hnb74 := NB137_129.out; have hnc74 := NB129_137.out; have hcz75_0 := (qg BK137.out 0).trans rfl; have hcz75_1 := (qg BK137.out 1).trans rfl; have hcz75_2 := (qg BK137.out 2).trans rfl; have hcz75_3 := (qg BK137.out 3).trans rfl; have hfz75_0 := qj BK137.out 0; have hfz75_1 := qj BK137.out 1; have hfz75_2 := qj BK137.out 2; have hfz75_3 := qj BK137.out 3))
       go_ret
       exact ⟨by first | rfl | (simp [qt, qr] <;> rfl) | (simp [*, qt, qr] <;> rfl), by repeat (first | (with_reducible first | exact HB.out | apply qi | apply qd | apply qh | refine qe ?_ GE108.out | refine qe ?_ GE117.out | refine qe ?_ GE129.out | refine qe ?_ GE137.out) | exact HB.out)⟩
     ·rw [if_neg c43] at H
      exact absurd H (by simp)
def laws_FnVersionTexts.Pure : Prop := ∀ (l0 : List Int), l0.length ≤ maxLen → l0.length * 1 ≤ 140737488351232 → (∀ x ∈ l0, (Lit.int .u8 x).wf = true) → ∃ k, laws_FnVersionTexts.f k l0 = some true
theorem laws_FnVersionTexts.walk (P : laws_FnVersionTexts.Pure) (a0 : Option Addr) (len0 cap0 : Nat) (z0 : List Int) (w : World) (w0 : (a0 = none ∧ len0 = 0 ∧ cap0 = 0 ∧ z0 = []) ∨ ∃ x, a0 = some x ∧ len0 ≤ cap0 ∧ cap0 ≤ maxLen ∧ z0.length = cap0 ∧ (∀ i, i < z0.length → w.cell? (x.add i) = some (.int .u8 (z0.getD i 0))) ∧ ∀ n ∈ z0, (Lit.int .u8 n).wf = true) (y0 : len0 * 1 ≤ 140737488351232) :
  Calls Try.prog 14 #[.slice a0 len0 cap0] w fun e w' => e = .returned (.bool true) ∧ Below w.heap.size w w' := by
 obtain ⟨l0, rfl, hr0, hm0, hw0, hc0⟩ := ReadsInt.ofRowC w0
 obtain ⟨k, h⟩ := P l0 hm0 y0 hw0
 refine (laws_FnVersionTexts.calls k _ _ l0 true w (Kd.C_of_reads (d := (0 : Int)) (h1 := fun _ => rfl) hr0) hc0 h).mono ?_
 rintro e w' ⟨rfl, hd⟩
 exact ⟨rfl, hd⟩
end Go.Proofs.Ytcgejabkjljeeaa.P
end
