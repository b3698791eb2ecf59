/- Proved: the law FnMerged of the given program returns true for every input of its Go types and leaves each argument as it was; no condition. (Part 12 of 16.) -/
import Derived.Test.YtidjdkodgddfcaaCFnMerged4
import Derived.Test.YtidjdkodgddfcaaCFnMerged10
section
namespace Go.Proofs.Ytidjdkodgddfcaa.P
open Go.RowKit Go.Proofs.YtidjdkodgddfcaaW.PrintWords Go.Proofs.YtidjdkodgddfcaaW.PrintLast Go.Proofs.YtidjdkodgddfcaaW.PrintMore
attribute [local go_sem] str_gtr str_leq str_geq qd1 qb1 max_two min_two qy qx qc1 qa1
set_option linter.unusedVariables false
set_option linter.unusedSimpArgs false
attribute [local go_sem high] eqA35
theorem yq94 {P : Prop} (h : P := by (with_reducible repeat (first | apply Kd.R_alloc | apply Kd.R_drewN | apply Kd.R_drew)); exact HO_5.out) : P := h
theorem yq95 {P : Prop} (h : P := by repeat (first | (with_reducible first | exact HK.out | apply KeepBut.set_ | apply qk | apply qn | apply ql | refine qw ?_ GW111.out _) | exact HK.out)) : P := h
theorem yq96 {P : Prop} (h : P := by repeat (first | (with_reducible first | exact HI0.out | apply IsS178.alloc | apply IsS178.drewN | apply IsS178.drew | apply IsS178.set_1 | apply (fun h_ => IsS178.far h_ NB0_111.out _)) | exact HI0.out)) : P := h
theorem yq97 {P : Prop} (h : P := by repeat (first | (with_reducible first | exact HB.out | apply qc | apply qa | apply qb | refine qe ?_ (IsS178.ge HI0.out) | refine qe ?_ GE111.out) | exact HB.out)) : P := h
theorem yq98 {P : Prop} (h : P := by repeat (first | (with_reducible first | exact HK.out | apply KeepBut.set_ | apply qk | apply qn | apply ql) | exact HK.out)) : P := h
theorem yq99 {P : Prop} (h : P := by (with_reducible repeat (first | refine qh ?_ _ | refine qj ?_ | refine qi ?_ _)); exact BK111.out) : P := h
theorem yq100 {P : Prop} (h : P := by repeat (first | (with_reducible first | exact HI0.out | apply IsS178.alloc | apply IsS178.drewN | apply IsS178.drew | apply IsS178.set_1) | exact HI0.out)) : P := h
theorem yq101 {P : Prop} (h : P := by repeat (first | (with_reducible first | exact HB.out | apply qc | apply qa | apply qb | refine qe ?_ (IsS178.ge HI0.out)) | exact HB.out)) : P := h
theorem yq102 {P : Prop} (h : P := by first | (with_reducible assumption) | assumption) : P := h
theorem yq103 {P : Prop} (h : P := by (with_reducible repeat (first | refine qh ?_ _ | refine qj ?_ | refine qi ?_ _)); refine blk_put (cs := #[.string t106, .int .i64 t107, .int .i64 t108, .string (⟨#[]⟩ : ByteArray)]) ?_ 3 _ rfl; (with_reducible repeat (first | refine qh ?_ _ | refine qj ?_ | refine qi ?_ _)); refine blk_put (cs := #[.string t106, .int .i64 t107, .int .i64 0, .string (⟨#[]⟩ : ByteArray)]) ?_ 2 _ rfl; (with_reducible repeat (first | refine qh ?_ _ | refine qj ?_ | refine qi ?_ _)); refine blk_put (cs := #[.string t106, .int .i64 0, .int .i64 0, .string (⟨#[]⟩ : ByteArray)]) ?_ 1 _ rfl; (with_reducible repeat (first | refine qh ?_ _ | refine qj ?_ | refine qi ?_ _)); refine blk_put (cs := #[.string (⟨#[]⟩ : ByteArray), .int .i64 0, .int .i64 0, .string (⟨#[]⟩ : ByteArray)]) ?_ 0 _ rfl; (with_reducible repeat (first | refine qh ?_ _ | refine qj ?_ | refine qi ?_ _)); exact BK111.out) : P := h
theorem yq104 {P : Prop} (h : P := by (try simp only [List.map_toArray, List.map_cons, List.map_nil]); first | done | rfl) : P := h
theorem yq105 {P : Prop} (h : P := by (with_reducible repeat (first | apply Kd.R_alloc | apply Kd.R_drewN | apply Kd.R_drew)); exact (Kd.R_mono (Kd.R_far (p := ⟨gb111, 3, none⟩) (Kd.R_far (p := ⟨gb111, 2, none⟩) (Kd.R_far (p := ⟨gb111, 1, none⟩) (Kd.R_far (p := ⟨gb111, 0, none⟩) (Kd.R_mono HO_5.out (fun k_ hk => (⟨hk, hk.2⟩ : _ ∧ k_ ≠ gb111))) (fun _ hk => hk.2) (.string t106)) (fun _ hk => hk.2) (.int .i64 t107)) (fun _ hk => hk.2) (.int .i64 t108)) (fun _ hk => hk.2) (.string t109)) (fun _ h_ => h_.1))) : P := h
theorem yq106 {P : Prop} (h : P := by first | rfl | (simp; done) | (simp [*]; done)) : P := h
mutual
def spec_l1Rd_entries.l0 : Nat → List (S64) → Int → List Int → Int → Option ((List (S64)) × Int)
 | 0, _, _, _, _ => none
 | k + 1, x5, x6, x1000, x1001 => if x6 > 0 then ((spec_l1Rd_entry.f k x1000 x1001).bind fun bt106 => ((spec_EntryOk.f bt106.1 bt106.2.1 bt106.2.2.1 bt106.2.2.2.1).bind fun t112 => (if t112 = true then (spec_l1Rd_entries.l1 k x5 x6 0 x1000 bt106.2.2.2.2 bt106.1 bt106.2.1 bt106.2.2.1 bt106.2.2.2.1) else (spec_l1Rd_entries.l0 k x5 (wrap64 (x6 - 1)) x1000 bt106.2.2.2.2)))) else ((spec_l1Rd_once.f x1000 x1001 24).bind fun bt156 => (if bt156.1 = true then ((spec_l1Rd_entry.f k x1000 bt156.2).bind fun bt158 => (if x5.length < 2932031007402 then (some ((x5 ++ [(⟨(⟨bt158.1, bt158.2.1, bt158.2.2.1⟩ : S35), bt158.2.2.2.1⟩ : S64)]), bt158.2.2.2.2)) else (none))) else (some (x5, bt156.2))))
def spec_l1Rd_entries.l1 : Nat → List (S64) → Int → Int → List Int → Int → ByteArray → Int → Int → ByteArray → Option ((List (S64)) × Int)
 | 0, _, _, _, _, _, _, _, _, _ => none
 | k + 1, x5, x6, x8, x1000, x1001, x112000, x112001, x112002, x112003 => if x8 < (x5.length : Int) then (if 0 ≤ x8 then ((spec_KeyCmp.f k ((qd x5 x8).f0.f0) ((qd x5 x8).f0.f1) ((qd x5 x8).f0.f2) x112000 x112001 x112002).bind fun t114 => (if t114 < 0 then (spec_l1Rd_entries.l1 k x5 x6 (wrap64 (x8 + 1)) x1000 x1001 x112000 x112001 x112002 x112003) else (if ((((qd x5 x8).f0.f0).toList) == x112000.toList && (((qd x5 x8).f0.f1) == x112001 && (((qd x5 x8).f0.f2) == x112002))) = true then (spec_l1Rd_entries.l0 k x5 (wrap64 (x6 - 1)) x1000 x1001) else ((some (([] : List (S64)) : List (S64))).bind fun y116 => (if x8 ≤ (x5.length : Int) then ((some (x5.take (x8 : Int).toNat : List (S64))).bind fun y119 => (if y116.length + y119.length < 2932031007402 then ((some (y116 ++ y119 : List (S64))).bind fun y123 => (if y123.length < 2932031007402 then ((some (y123 ++ [(⟨(⟨x112000, x112001, x112002⟩ : S35), x112003⟩ : S64)] : List (S64))).bind fun y126 => ((some (x5.drop (x8 : Int).toNat : List (S64))).bind fun y129 => (if y126.length + y129.length < 2932031007402 then (spec_l1Rd_entries.l0 k (y126 ++ y129) (wrap64 (x6 - 1)) x1000 x1001) else (none)))) else (none))) else (none))) else (none)))))) else (none)) else ((some (([] : List (S64)) : List (S64))).bind fun y136 => (if 0 ≤ x8 then (if x8 ≤ (x5.length : Int) then ((some (x5.take (x8 : Int).toNat : List (S64))).bind fun y139 => (if y136.length + y139.length < 2932031007402 then ((some (y136 ++ y139 : List (S64))).bind fun y143 => (if y143.length < 2932031007402 then ((some (y143 ++ [(⟨(⟨x112000, x112001, x112002⟩ : S35), x112003⟩ : S64)] : List (S64))).bind fun y146 => ((some (x5.drop (x8 : Int).toNat : List (S64))).bind fun y149 => (if y146.length + y149.length < 2932031007402 then (spec_l1Rd_entries.l0 k (y146 ++ y149) (wrap64 (x6 - 1)) x1000 x1001) else (none)))) else (none))) else (none))) else (none)) else (none)))
end
def spec_l1Rd_entries.f (k : Nat) (s0_0 : List Int) (s0_1 : Int) (a1 : Int) : Option ((List (S64)) × Int) := (spec_l1Rd_below.f s0_0 s0_1 (wrap64 (a1 + 1))).bind fun bt104 => (spec_l1Rd_entries.l0 k (([] : List (S64))) bt104.1 s0_0 bt104.2)
def spec_l1Rd_entries.T8 : Bool × List (List Nat × List Nat) := (true, [([], []), ([], []), ([1], [1]), ([0, 2], [0, 2]), ([3], [3]), ([4], [4]), ([4], [4]), ([5, 6, 4], [4, 5, 6]), ([7, 4], [4, 7]), ([8, 4], [4, 8]), ([4], [4]), ([10, 4], [4, 10]), ([9, 11, 4, 4], [4, 9, 11]), ([12, 4], [4, 12]), ([4, 13], [4, 13])])
def spec_l1Rd_entries.B8 : List Nat := [0, 0, 2, 7, 15, 31, 31, 127, 255, 511, 31, 1055, 4095, 8191, 16383]
theorem spec_l1Rd_entries.tab8 : rtab .any (opsOf Try.f91 8) = spec_l1Rd_entries.T8 := by kernel_rfl
theorem spec_l1Rd_entries.bits8 : waitsOk spec_l1Rd_entries.T8.2 spec_l1Rd_entries.B8 = true := by kernel_rfl
def spec_l1Rd_entries.T10 : Bool × List (List Nat × List Nat) := (true, [([], []), ([], []), ([1], [1]), ([0, 2], [0, 2]), ([3], [3]), ([4], [4]), ([4], [4]), ([5, 6, 4], [4, 5, 6]), ([7, 4], [4, 7]), ([8, 4], [4, 8]), ([4], [4]), ([10, 4], [4, 10]), ([9, 11, 4], [4, 9, 11]), ([4, 12], [4, 12])])
def spec_l1Rd_entries.B10 : List Nat := [0, 0, 2, 7, 15, 31, 31, 127, 255, 511, 31, 1055, 4095, 8191]
theorem spec_l1Rd_entries.tab10 : rtab .any (opsOf Try.f91 10) = spec_l1Rd_entries.T10 := by kernel_rfl
theorem spec_l1Rd_entries.bits10 : waitsOk spec_l1Rd_entries.T10.2 spec_l1Rd_entries.B10 = true := by kernel_rfl
set_option maxHeartbeats 8000000 in
set_option maxRecDepth 100000 in
theorem spec_l1Rd_entries.calls (k : Nat) (g : Nat) (s0_0 : List Int) (s0_1 : Int) (a1 : Int) (r1 : List (S64)) (r2 : Int) (w0 w : World) (hI : IsS178 w0 w g s0_0 s0_1) (hB : Below w0.heap.size w0 w) (h : spec_l1Rd_entries.f k s0_0 s0_1 a1 = some (r1, r2)) :
  Calls Try.prog 91 #[.pointer (some ⟨g, 0, none⟩), .int .i64 a1] w fun e w' => ∃ v0_ : Value, e = .returned (v0_) ∧ Kd.R k64 64 w' w.heap.size (fun _ => True) v0_ r1 ∧ IsS178 w0 w' g s0_0 r2 ∧ Below w0.heap.size w0 w' ∧ KeepBut w w' g none := by
 have hu64 := Try.underlying64
 have hu35 := Try.underlying35
 have HI0 := Qz.mk hI
 have HK := Qz.mk (KeepBut.refl w g none)
 have HL := Qz.mk hB.size
 clear hI
 have HW0 := Qz.mk hB.size
 have HB := Qz.mk hB
 clear hB
 have H : ((spec_l1Rd_below.f s0_0 s0_1 (wrap64 (a1 + 1))).bind fun bt104 => (spec_l1Rd_entries.l0 k (([] : List (S64))) bt104.1 s0_0 bt104.2)) = some (r1, r2) := h
 clear h
 obtain ⟨y101, hy101⟩ : ∃ y_ : List (S64), y_ = (([] : List (S64))) := ⟨_, rfl⟩
 replace H : ((spec_l1Rd_below.f s0_0 s0_1 (wrap64 (a1 + 1))).bind fun bt104 => (spec_l1Rd_entries.l0 k y101 bt104.1 s0_0 bt104.2)) = some (r1, r2) := by first | (rw [hy101]; with_reducible exact H) | (have H2_ := (Option.bind_some _ _).symm.trans H; rw [hy101]; with_reducible exact H2_) | (have H2_ := (Option.bind_some _ _).symm.trans H; with_reducible exact H2_) | with_reducible exact H | (rw [hy101]; exact H) | exact H
 have Ny101 := Qz.mk hy101
 clear hy101
 replace H := Option.bind_eq_some_iff.mp H
 obtain ⟨⟨t104, t105⟩, A30, H⟩ := H
 replace H : (spec_l1Rd_entries.l0 k y101 t104 s0_0 t105) = some (r1, r2) := H
 have A3 := Qz.mk A30
 clear A30
 have H' := Qz.mk H
 clear H
 go_enter Try.func91, Try.ntmps91
 go_wp2_with (first | ((with_reducible refine qz (N := 10) rfl ?_); refine Kd.R_lit k64 _ 64 ?hg (N := 10) ?hd (xs := ([] : List (S64))) (inner := []) (ok := fun _ => True) (okp := fun _ => True) ?hr ?hp (fun _ hk => hk) trivial (Below.refl _ _) (Nat.le_refl _) (by simp) ?_; (case hd => rfl); (case hg => rfl); (case hr => first | (go_simp; done) | (go_simp; rfl)); (case hp => exact (Reps.none _ _)); intro v102 w4 ho5 hb hg_ hnew_; clear hg_ hnew_; (first | rw [← Ny101.out] at ho5 | (simp only [Int.reduceToNat] at ho5; rw [← Ny101.out] at ho5)); have HO103 := Qz.mk (Kd.R_lower ho5 (qg1 (w := w) (g := g) (row := none) yq98)); replace HK := Qz.mk (KeepBut.trans yq98 (KeepBut.of_below hb g none) (.inl rfl)); replace HB := Qz.mk (qm yq101 hb); replace HI0 := Qz.mk (IsS178.below yq100 hb); clear hb ho5) | ((with_reducible refine qr (f := 119) rfl ?_); refine qe1 (some 14) rfl rfl Try.func119 (by kernel_rfl) rfl #[.pointer (some ⟨g, 0, none⟩), .int .i64 (wrap64 (a1 + 1))] rfl (by (try simp only [List.map_toArray, List.map_cons, List.map_nil]); first | done | rfl | (simp only [List.length_drop, List.length_take]; rfl) | (rw [IntWalk.u64_in _ (by omega)] <;> rfl)) ?_; (with_reducible refine (spec_l1Rd_below.calls g s0_0 s0_1 (wrap64 (a1 + 1)) t104 t105 w0 _ ?side1 ?side2 A3.out).mono ?_); (case side1 => exact yq100); (case side2 => exact yq101); rintro e w6 ⟨rfl, hi, hb, hk⟩; refine ⟨_, rfl, ?_⟩; replace HO103 := Qz.mk (Kd.R_mono (Kd.R_keep (IsS178.apart (show IsS178 w0 _ g s0_0 s0_1 from by repeat (first | (with_reducible first | exact HI0.out | apply IsS178.alloc | apply IsS178.drewN | apply IsS178.drew | apply IsS178.set_1) | exact HI0.out)) (by (with_reducible repeat (first | apply Kd.R_alloc | apply Kd.R_drewN | apply Kd.R_drew)); exact HO103.out) (by decide)) hk (fun _ h => h.2)) (fun _ h => h.1)); replace HK := Qz.mk (KeepBut.trans yq98 hk (.inl rfl)); replace HB := Qz.mk (hb); replace HI0 := Qz.mk (hi); (try clear hb); (try clear hk); (try clear hi)))
 go_loopg [5, 6] k (fun kq v5 v6 w' => ∃ (x5_1 : List (S64)) (x6_1 : Int) (x1001_1 : Int), v6 = .int .i64 x6_1 ∧ Qz (spec_l1Rd_entries.l0 kq x5_1 x6_1 s0_0 x1001_1 = some (r1, r2)) ∧ Qz (kq ≤ k) ∧ Qz (Kd.R k64 64 w' w.heap.size (fun _ => True) v5 x5_1) ∧ Qz (IsS178 w0 w' g s0_0 x1001_1) ∧ Qz (KeepBut w w' g none) ∧ Qz (Below w0.heap.size w0 w'))
 case atStart => exact ⟨(y101), (t104), (t105), yq106, H', ⟨Nat.le_refl _⟩, ⟨by (with_reducible repeat (first | apply Kd.R_alloc | apply Kd.R_drewN | apply Kd.R_drew)); exact HO103.out⟩, ⟨by repeat (first | (with_reducible first | exact HI0.out | apply IsS178.alloc | apply IsS178.drewN | apply IsS178.drew | apply IsS178.set_1) | exact HI0.out)⟩, ⟨by repeat (first | (with_reducible first | exact HK.out | apply KeepBut.set_ | apply qk | apply qn | apply ql) | exact HK.out)⟩, ⟨by repeat (first | (with_reducible first | exact HB.out | apply qc | apply qa | apply qb | refine qe ?_ (IsS178.ge HI0.out)) | exact HB.out)⟩⟩
 case round =>
  clear H'
  try clear c1
  try clear p2
  try clear p6
  obtain ⟨x5_1, x6_1, x1001_1, rfl, HA, HK1, HO_5, HI0, HK, HB⟩ := hrel
  cases gk with
  | zero => exact absurd HA.out (by simp [spec_l1Rd_entries.l0])
  | succ k1 =>
   have H := HA.out
   clear HA
   simp only [spec_l1Rd_entries.l0] at H
   by_cases c7 : x6_1 > 0
   ·rw [if_pos c7] at H
    have c7b0 : decide (0 < x6_1) = true := decide_eq_true c7
    clear c7
    replace H := Option.bind_eq_some_iff.mp H
    obtain ⟨⟨t106, t107, t108, t109, t110⟩, A80, H⟩ := H
    replace H : ((spec_EntryOk.f t106 t107 t108 t109).bind fun t112 => (if t112 = true then (spec_l1Rd_entries.l1 k1 x5_1 x6_1 0 s0_0 t110 t106 t107 t108 t109) else (spec_l1Rd_entries.l0 k1 x5_1 (wrap64 (x6_1 - 1)) s0_0 t110))) = some (r1, r2) := H
    have A8 := Qz.mk A80
    clear A80
    replace H := Option.bind_eq_some_iff.mp H
    obtain ⟨t112, A90, H⟩ := H
    replace H : (if t112 = true then (spec_l1Rd_entries.l1 k1 x5_1 x6_1 0 s0_0 t110 t106 t107 t108 t109) else (spec_l1Rd_entries.l0 k1 x5_1 (wrap64 (x6_1 - 1)) s0_0 t110)) = some (r1, r2) := H
    have A9 := Qz.mk A90
    clear A90
    by_cases c10 : t112 = true
    ·subst c10
     have H1 : (spec_l1Rd_entries.l1 k1 x5_1 x6_1 0 s0_0 t110 t106 t107 t108 t109) = some (r1, r2) := by rw [if_pos rfl] at H; exact H
     clear H
     have H := H1
     clear H1
     have H' := Qz.mk H
     clear H
     go_wp2_with (first | ((with_reducible refine qr (f := 155) rfl ?_); refine qe1 (some 20) rfl rfl Try.func155 (by kernel_rfl) rfl #[.pointer (some ⟨g, 0, none⟩)] rfl yq104 ?_; (with_reducible refine (spec_l1Rd_entry.calls k1 g s0_0 x1001_1 t106 t107 t108 t109 t110 w0 _ ?side1 ?side2 A8.out).mono ?_); (case side1 => exact yq100); (case side2 => exact yq101); rintro e w11 ⟨rfl, hi, hb, hk⟩; refine ⟨_, rfl, ?_⟩; replace HO_5 := Qz.mk (Kd.R_mono (Kd.R_keep (IsS178.apart (show IsS178 w0 _ g s0_0 x1001_1 from by repeat (first | (with_reducible first | exact HI0.out | apply IsS178.alloc | apply IsS178.drewN | apply IsS178.drew | apply IsS178.set_1) | exact HI0.out)) yq94 (by decide)) hk (fun _ h => h.2)) (fun _ h => h.1)); replace HK := Qz.mk (KeepBut.trans yq98 hk (.inl rfl)); replace HB := Qz.mk (hb); replace HI0 := Qz.mk (hi); (try clear hb); (try clear hk); (try clear hi)) | ((with_reducible refine qz (N := 7) rfl ?_); refine qh1 ?hg (N := 7) ?hd (cs := #[.string (⟨#[]⟩ : ByteArray), .int .i64 0, .int .i64 0, .string (⟨#[]⟩ : ByteArray)]) (t := 64) ?hr ?_; (case hd => rfl); (case hg => rfl); (case hr => first | (go_simp; done) | (go_simp; rfl)); intro gb111 hg w12 hbox hb; replace HO_5 := Qz.mk (Kd.R_below (Kd.R_elderB yq94 gb111 (Nat.le_of_eq hg.symm)) hb); replace HB := Qz.mk (qm yq101 hb); have BK111 := Qz.mk (hbox); have GW111 := Qz.mk ((by rw [hg]; exact (qg1 (w := w) (g := g) (row := none) yq98) : w.heap.size ≤ gb111)); have GE111 := Qz.mk ((Nat.le_trans HW0.out (by rw [hg]; exact (qg1 (w := w) (g := g) (row := none) yq98) : w.heap.size ≤ gb111) : w0.heap.size ≤ gb111)); replace HK := Qz.mk (KeepBut.trans yq98 (KeepBut.of_below hb g none) (.inl rfl)); have NB0_111 := Qz.mk ((by rw [hg]; exact Nat.ne_of_lt (IsS178.lt (show IsS178 w0 _ g s0_0 t110 from by repeat (first | (with_reducible first | exact HI0.out | apply IsS178.alloc | apply IsS178.drewN | apply IsS178.drew | apply IsS178.set_1) | exact HI0.out))) : g ≠ gb111)); have NB111_0 := Qz.mk ((by rw [hg]; exact Nat.ne_of_gt (IsS178.lt (show IsS178 w0 _ g s0_0 t110 from by repeat (first | (with_reducible first | exact HI0.out | apply IsS178.alloc | apply IsS178.drewN | apply IsS178.drew | apply IsS178.set_1) | exact HI0.out))) : gb111 ≠ g)); replace HI0 := Qz.mk (IsS178.below yq100 hb); clear hb hbox hg; have hnb13 := NB111_0.out; have hnc13 := NB0_111.out; have hcz14_0 : w12.cell? ⟨gb111, 0, none⟩ = some (.string (⟨#[]⟩ : ByteArray)) := (qf BK111.out 0).trans rfl; have hcz14_1 : w12.cell? ⟨gb111, 1, none⟩ = some (.int .i64 0) := (qf BK111.out 1).trans rfl; have hcz14_2 : w12.cell? ⟨gb111, 2, none⟩ = some (.int .i64 0) := (qf BK111.out 2).trans rfl; have hcz14_3 : w12.cell? ⟨gb111, 3, none⟩ = some (.string (⟨#[]⟩ : ByteArray)) := (qf BK111.out 3).trans rfl; have hfz14_0 := qg BK111.out 0; have hfz14_1 := qg BK111.out 1; have hfz14_2 := qg BK111.out 2; have hfz14_3 := qg BK111.out 3) | ((with_reducible refine qr (f := 143) rfl ?_); refine qe1 (some 22) rfl rfl Try.func143 (by kernel_rfl) rfl #[.agg #[.string t106, .int .i64 t107, .int .i64 t108, .string t109]] rfl yq104 ?_; (with_reducible refine (spec_EntryOk.calls t106 t107 t108 t109 true _ A9.out).mono ?_); rintro e w15 ⟨rfl, hb⟩; refine ⟨_, rfl, ?_⟩; replace HO_5 := Qz.mk (Kd.R_below yq105 hb); replace BK111 := Qz.mk (qf1 (g := gb111) (o := .cells #[.string t106, .int .i64 t107, .int .i64 t108, .string t109] 64 (0, 0)) yq103 hb); replace HK := Qz.mk (KeepBut.trans yq95 (KeepBut.of_below hb g none) (.inl rfl)); replace HB := Qz.mk (qm yq97 hb); replace HI0 := Qz.mk (IsS178.below (show IsS178 w0 ((((w12.setCell ⟨gb111, 0, none⟩ (.string t106)).setCell ⟨gb111, 1, none⟩ (.int .i64 t107)).setCell ⟨gb111, 2, none⟩ (.int .i64 t108)).setCell ⟨gb111, 3, none⟩ (.string t109)) g s0_0 t110 from by repeat (first | (with_reducible first | exact HI0.out | apply IsS178.alloc | apply IsS178.drewN | apply IsS178.drew | apply IsS178.set_1 | apply (fun h_ => IsS178.far h_ NB0_111.out _)) | exact HI0.out)) hb); (try clear hb); (try clear hk); (try clear hi)))
     go_loopg [8] k1 (fun kq v8 w' => ∃ (x8_2 : Int), v8 = .int .i64 x8_2 ∧ Qz (spec_l1Rd_entries.l1 kq x5_1 x6_1 x8_2 s0_0 t110 t106 t107 t108 t109 = some (r1, r2)) ∧ Qz (kq ≤ k1) ∧ Qz (Kd.R k64 64 w' w.heap.size (fun k_ => k_ ≠ gb111) u5 x5_1) ∧ Qz (w'.heap[gb111]? = some (.cells #[.string t106, .int .i64 t107, .int .i64 t108, .string t109] 64 (0, 0))) ∧ Qz (IsS178 w0 w' g s0_0 t110) ∧ Qz (KeepBut w w' g none) ∧ Qz (Below w0.heap.size w0 w'))
     case atStart => exact ⟨(0), yq106, H', ⟨Nat.le_refl _⟩, ⟨by (with_reducible repeat (first | apply Kd.R_alloc | apply Kd.R_drewN | apply Kd.R_drew)); exact Kd.R_mono HO_5.out (fun _ hk => hk.2)⟩, ⟨by (with_reducible repeat (first | refine qh ?_ _ | refine qj ?_ | refine qi ?_ _)); exact BK111.out⟩, ⟨by repeat (first | (with_reducible first | exact HI0.out | apply IsS178.alloc | apply IsS178.drewN | apply IsS178.drew | apply IsS178.set_1 | apply (fun h_ => IsS178.far h_ NB0_111.out _)) | exact HI0.out)⟩, ⟨by repeat (first | (with_reducible first | exact HK.out | apply KeepBut.set_ | apply qk | apply qn | apply ql | refine qw ?_ GW111.out _) | exact HK.out)⟩, ⟨by repeat (first | (with_reducible first | exact HB.out | apply qc | apply qa | apply qb | refine qe ?_ (IsS178.ge HI0.out) | refine qe ?_ GE111.out) | exact HB.out)⟩⟩
     case round =>
      clear H'
      try clear c1
      try clear p2
      try clear p6
      try clear c7
      try clear c7b0
      try clear c9
      try clear c10
      try clear c11
      try clear c13
      try clear c14
      try clear c15
      try clear hcz14_0
      try clear hcz14_1
      try clear hcz14_2
      try clear hcz14_3
      try clear hfz14_0
      try clear hfz14_1
      try clear hfz14_2
      try clear hfz14_3
      try clear p2
      try clear p6
      obtain ⟨x8_2, rfl, HA, HK2, HO_5, BK111, HI0, HK, HB⟩ := hrel
      cases gk with
      | zero => exact absurd HA.out (by simp [spec_l1Rd_entries.l1])
      | succ k2 =>
       have H := HA.out
       clear HA
       simp only [spec_l1Rd_entries.l1] at H
       by_cases c16 : x8_2 < (x5_1.length : Int)
       ·rw [if_pos c16] at H
        have c16b0 : decide (x8_2 < (x5_1.length : Int)) = true := decide_eq_true c16
        clear c16
        by_cases c17 : 0 ≤ x8_2
        ·rw [if_pos c17] at H
         have c17b0 : decide (0 ≤ x8_2) = true := decide_eq_true c17
         clear c17
         replace H := Option.bind_eq_some_iff.mp H
         obtain ⟨t114, A180, H⟩ := H
         replace H : (if t114 < 0 then (spec_l1Rd_entries.l1 k2 x5_1 x6_1 (wrap64 (x8_2 + 1)) s0_0 t110 t106 t107 t108 t109) else (if ((((qd x5_1 x8_2).f0.f0).toList) == t106.toList && (((qd x5_1 x8_2).f0.f1) == t107 && (((qd x5_1 x8_2).f0.f2) == t108))) = true then (spec_l1Rd_entries.l0 k2 x5_1 (wrap64 (x6_1 - 1)) s0_0 t110) else ((some (([] : List (S64)) : List (S64))).bind fun y116 => (if x8_2 ≤ (x5_1.length : Int) then ((some (x5_1.take (x8_2 : Int).toNat : List (S64))).bind fun y119 => (if y116.length + y119.length < 2932031007402 then ((some (y116 ++ y119 : List (S64))).bind fun y123 => (if y123.length < 2932031007402 then ((some (y123 ++ [(⟨(⟨t106, t107, t108⟩ : S35), t109⟩ : S64)] : List (S64))).bind fun y126 => ((some (x5_1.drop (x8_2 : Int).toNat : List (S64))).bind fun y129 => (if y126.length + y129.length < 2932031007402 then (spec_l1Rd_entries.l0 k2 (y126 ++ y129) (wrap64 (x6_1 - 1)) s0_0 t110) else (none)))) else (none))) else (none))) else (none))))) = some (r1, r2) := H
         have A18 := Qz.mk A180
         clear A180
         by_cases c19 : t114 < 0
         ·rw [if_pos c19] at H
          have c19b0 : decide (t114 < 0) = true := decide_eq_true c19
          clear c19
          have H' := Qz.mk H
          clear H
          try go_wp2
          replace HO_5 := Qz.mk (Kd.R_drew HO_5.out)
          replace BK111 := Qz.mk (qj BK111.out)
          replace HI0 := Qz.mk (IsS178.drew HI0.out)
          replace HK := Qz.mk (qn HK.out)
          replace HB := Qz.mk (qb HB.out)
          obtain ⟨Ao21, co21, eo21⟩ := Kd.R_slice HO_5.out
          (first | subst eo21 | (injection eo21 with f1_ f2_ f3_; have f4_ := f1_.symm; have f5_ := f3_.symm; clear f1_ f2_ f3_; subst f4_; subst f5_))
          have p113 : 0 ≤ (x8_2 : Int) := of_decide_eq_true yq102
          have q113 : x8_2 < (x5_1.length : Int) := of_decide_eq_true yq102
          obtain ⟨ad113, e113, hx113_0, hx113_1, hx113_2, hx113_3⟩ := at_T64 (Kd.R_reads' HO_5.out).2.2 x8_2 p113 q113
          cases e113
          replace p113 := eq_true p113
          replace q113 := eq_true q113
          refine start_ (n := 15) (S := fun w' => w'.cell? ⟨gb111, 0, none⟩ = some (.string t106) ∧ w'.cell? ⟨gb111, 1, none⟩ = some (.int .i64 t107) ∧ w'.cell? ⟨gb111, 2, none⟩ = some (.int .i64 t108) ∧ w'.cell? ⟨gb111, 3, none⟩ = some (.string t109) ∧ w'.cell? (ad113.add ((x8_2).toNat * 4)) = some (.string ((qd x5_1 x8_2).f0.f0)) ∧ w'.cell? ⟨(ad113.add ((x8_2).toNat * 4)).block, (ad113.add ((x8_2).toNat * 4)).off + 1, none⟩ = some (.int .i64 ((qd x5_1 x8_2).f0.f1)) ∧ w'.cell? ⟨(ad113.add ((x8_2).toNat * 4)).block, (ad113.add ((x8_2).toNat * 4)).off + 2, none⟩ = some (.int .i64 ((qd x5_1 x8_2).f0.f2)) ∧ w'.cell? ⟨(ad113.add ((x8_2).toNat * 4)).block, (ad113.add ((x8_2).toNat * 4)).off + 3, none⟩ = some (.string ((qd x5_1 x8_2).f1))) (ds := []) bq2 (by kernel_rfl) rfl rfl ⟨(qf BK111.out 0).trans rfl, (qf BK111.out 1).trans rfl, (qf BK111.out 2).trans rfl, (qf BK111.out 3).trans rfl, hx113_0, hx113_1, hx113_2, hx113_3⟩ (fun hHeld => ?_); refine with_tabW spec_l1Rd_entries.tab8 spec_l1Rd_entries.bits8 (fun HT_ HW_ => ?_)
          generalize wr.drew = w20 at HO_5 BK111 HI0 HK HB hx113_0 hx113_1 hx113_2 hx113_3 hHeld ⊢
          refine pure_ (i := 0) (N := some 24) (v := ?_) (a' := ?_) bq6 rfl rfl (qt HT_.out (by kernel_rfl)) (fun _ _ _ h => h) (Or.inl ⟨by rfl, ?_⟩) ?_ ?_
          rotate_left
          ·intro w'
           go_simp
           with_reducible rfl
          rotate_left
          ·simp only [Act.put, sq1, sq2, sq3, i64_w, i32_w]
           rfl
          refine pure_ (i := 1) (N := some 25) (v := ?_) (a' := ?_) bq10 rfl rfl (qt HT_.out (by kernel_rfl)) (fun _ _ _ h => h) (Or.inl ⟨by rfl, ?_⟩) ?_ ?_
          rotate_left
          ·intro w'
           go_simp
           with_reducible rfl
          rotate_left
          ·simp only [Act.put, sq1, sq2, sq3, i64_w, i32_w]
           rfl
          refine pure_ (i := 2) (N := some 26) (v := ?_) (a' := ?_) bq14 rfl rfl (qt HT_.out (by kernel_rfl)) (fun _ _ _ h => h) (Or.inl ⟨by rfl, ?_⟩) ?_ ?_
          rotate_left
          ·intro w'
           go_simp
           with_reducible rfl
          rotate_left
          ·simp only [Act.put, sq1, sq2, sq3, i64_w, i32_w]
           rfl
          refine pure_ (i := 3) (N := some 27) (v := ?_) (a' := ?_) bq18 rfl rfl (qt HT_.out (by kernel_rfl)) (fun _ _ _ h => h) (Or.inl ⟨by rfl, ?_⟩) ?_ ?_
          rotate_left
          ·intro w'
           go_simp
           with_reducible rfl
          rotate_left
          ·simp only [Act.put, sq1, sq2, sq3, i64_w, i32_w]
           rfl
          refine pure_ (i := 4) (N := some 28) (v := ?_) (a' := ?_) bq22 rfl rfl (qt HT_.out (by kernel_rfl)) (fun _ _ _ h => h) (Or.inl ⟨by rfl, ?_⟩) ?_ ?_
          rotate_left
          ·intro w'
           go_simp
           with_reducible rfl
          rotate_left
          ·simp only [Act.put, sq1, sq2, sq3, i64_w, i32_w]
           rfl
          refine pure_ (i := 5) (N := some 29) (v := ?_) (a' := ?_) bq26 rfl rfl (qt HT_.out (by kernel_rfl)) (fun _ _ _ h => h) (Or.inl ⟨by rfl, ?_⟩) ?_ ?_
          rotate_left
          ·intro w'
           go_simp
           with_reducible rfl
          rotate_left
          ·simp only [Act.put, sq1, sq2, sq3, i64_w, i32_w]
           rfl
          refine pure_ (i := 6) (N := some 30) (v := ?_) (a' := ?_) bq30 rfl rfl (qt HT_.out (by kernel_rfl)) (fun _ _ _ h => h) (Or.inl ⟨by rfl, ?_⟩) ?_ ?_
          rotate_left
          ·intro w'
           go_simp
           with_reducible rfl
          rotate_left
          ·simp only [Act.put, sq1, sq2, sq3, i64_w, i32_w]
           rfl
          refine pure_ (i := 7) (N := some 31) (v := ?_) (a' := ?_) bq34 rfl rfl (qt HT_.out (by kernel_rfl)) (fun _ _ _ h => h) (Or.inl ⟨by rfl, ?_⟩) ?_ ?_
          rotate_left
          ·intro w'
           go_simp
           with_reducible rfl
          rotate_left
          ·simp only [Act.put, sq1, sq2, sq3, i64_w, i32_w]
           rfl
          refine pure_ (i := 8) (N := some 32) (v := ?_) (a' := ?_) bq38 rfl rfl (qt HT_.out (by kernel_rfl)) (fun _ _ _ h => h) (Or.inl ⟨by rfl, ?_⟩) ?_ ?_
          rotate_left
          ·intro w'
           go_simp
           with_reducible rfl
          rotate_left
          ·simp only [Act.put, sq1, sq2, sq3, i64_w, i32_w]
           rfl
          refine pure_ (i := 10) (N := some 34) (v := ?_) (a' := ?_) bq40 rfl rfl (qt HT_.out (by kernel_rfl)) (fun _ _ _ h => h) (Or.inl ⟨by rfl, ?_⟩) ?_ ?_
          rotate_left
          ·intro w'
           go_simp
           with_reducible rfl
          rotate_left
          ·simp only [Act.put, sq1, sq2, sq3, i64_w, i32_w]
           rfl
          refine take_ (i := 9) (N := some 33) (v := ?_) (a' := ?_) bq46 rfl rfl (take_ofW HT_.out HW_.out (by kernel_rfl)) (fun _ _ _ h => h) (Or.inl ⟨by rfl, ?_⟩) hHeld ?_ ?_
          rotate_left
          ·rintro w' ⟨s0, s1, s2, s3, s4, s5, s6, s7⟩
           go_simp
           with_reducible rfl
          rotate_left
          ·simp only [Act.put, sq1, sq2, sq3, i64_w, i32_w]
           rfl
          refine take_ (i := 11) (N := some 35) (v := ?_) (a' := ?_) bq50 rfl rfl (take_ofW HT_.out HW_.out (by kernel_rfl)) (fun _ _ _ h => h) (Or.inl ⟨by rfl, ?_⟩) hHeld ?_ ?_
          rotate_left
          ·rintro w' ⟨s0, s1, s2, s3, s4, s5, s6, s7⟩
           go_simp
           with_reducible rfl
          rotate_left
          ·simp only [Act.put, sq1, sq2, sq3, i64_w, i32_w]
           rfl
          refine one_ (i := 12) (N := some 36) bq55 rfl rfl (one_of HT_.out (by kernel_rfl)) (by decide) (fun K hK => ?_)
          refine goes_ Try.func144 (by kernel_rfl) rfl #[.agg #[.string ((qd x5_1 x8_2).f0.f0), .int .i64 ((qd x5_1 x8_2).f0.f1), .int .i64 ((qd x5_1 x8_2).f0.f2)], .agg #[.string t106, .int .i64 t107, .int .i64 t108]] (by rfl) rfl rfl yq104 ?_
          with_reducible refine (spec_KeyCmp.calls k2 ((qd x5_1 x8_2).f0.f0) ((qd x5_1 x8_2).f0.f1) ((qd x5_1 x8_2).f0.f2) t106 t107 t108 t114 _ A18.out).mono ?_
          rintro e w22 ⟨rfl, hb⟩
          have HS4_ := (hb.cell (World.block_lt_of_cell? _ _ (hHeld.2.2.2.2.1))).trans (hHeld.2.2.2.2.1)
          have HS5_ := (hb.cell (World.block_lt_of_cell? _ _ (hHeld.2.2.2.2.2.1))).trans (hHeld.2.2.2.2.2.1)
          have HS6_ := (hb.cell (World.block_lt_of_cell? _ _ (hHeld.2.2.2.2.2.2.1))).trans (hHeld.2.2.2.2.2.2.1)
          have HS7_ := (hb.cell (World.block_lt_of_cell? _ _ (hHeld.2.2.2.2.2.2.2))).trans (hHeld.2.2.2.2.2.2.2)
          refine ⟨_, rfl, ?_⟩
          replace HO_5 := Qz.mk (Kd.R_below yq94 hb)
          replace BK111 := Qz.mk (qf1 (g := gb111) (o := .cells #[.string t106, .int .i64 t107, .int .i64 t108, .string t109] 64 (0, 0)) yq99 hb)
          replace HK := Qz.mk (KeepBut.trans yq95 (KeepBut.of_below hb g none) (.inl rfl))
          replace HB := Qz.mk (qm yq97 hb)
          replace HI0 := Qz.mk (IsS178.below yq96 hb)
          (try clear hb)
          (try clear hk)
          (try clear hi)
          refine hK.out _ _ ⟨(qf BK111.out 0).trans rfl, (qf BK111.out 1).trans rfl, (qf BK111.out 2).trans rfl, (qf BK111.out 3).trans rfl, HS4_, HS5_, HS6_, HS7_⟩ (fun hHeld => ?_)
          clear hK K
          refine norm_ (a' := ?_) ?_ ?_
          rotate_left
          ·show Act.put _ (some 36) _ = _
           simp only [Act.put, sq1, sq2, sq3, i64_w, i32_w]
           rfl
          refine pure_ (i := 13) (N := some 37) (v := ?_) (a' := ?_) bq59 rfl rfl (qt HT_.out (by kernel_rfl)) (fun _ _ _ h => h) (Or.inl ⟨by rfl, ?_⟩) ?_ ?_
          rotate_left
          ·intro w'
           go_simp
           with_reducible rfl
          rotate_left
          ·simp only [Act.put, sq1, sq2, sq3, i64_w, i32_w]
           rfl
          refine pure_ (i := 14) (N := some 38) (v := ?_) (a' := ?_) bq80 rfl rfl (qt HT_.out (by kernel_rfl)) (fun _ _ _ h => h) (Or.inl ⟨by rfl, ?_⟩) ?_ ?_
          rotate_left
          ·intro w'
           go_simp
           with_reducible rfl
          rotate_left
          ·simp only [Act.put, sq1, sq2, sq3, i64_w, i32_w]
           rfl
          refine done_ (done_of HT_.out (by kernel_rfl)) ?_
          try go_wp2
          go_roundg k2
          case measure => have := HK1.out; have := HK2.out; omega
          case rel => exact ⟨(wrap64 (x8_2 + 1)), yq106, H', ⟨by have := HK1.out; have := HK2.out; omega⟩, ⟨by (with_reducible repeat (first | apply Kd.R_alloc | apply Kd.R_drewN | apply Kd.R_drew)); exact HO_5.out⟩, ⟨by (with_reducible repeat (first | refine qh ?_ _ | refine qj ?_ | refine qi ?_ _)); exact BK111.out⟩, ⟨by repeat (first | (with_reducible first | exact HI0.out | apply IsS178.alloc | apply IsS178.drewN | apply IsS178.drew | apply IsS178.set_1 | apply (fun h_ => IsS178.far h_ NB0_111.out _)) | exact HI0.out)⟩, ⟨by repeat (first | (with_reducible first | exact HK.out | apply KeepBut.set_ | apply qk | apply qn | apply ql | refine qw ?_ GW111.out _) | exact HK.out)⟩, ⟨by repeat (first | (with_reducible first | exact HB.out | apply qc | apply qa | apply qb | refine qe ?_ (IsS178.ge HI0.out) | refine qe ?_ GE111.out) | exact HB.out)⟩⟩
         ·rw [if_neg c19] at H
          have c19b0 : decide (t114 < 0) = false := decide_eq_false c19
          clear c19
          by_cases c23 : ((((qd x5_1 x8_2).f0.f0).toList) == t106.toList && (((qd x5_1 x8_2).f0.f1) == t107 && (((qd x5_1 x8_2).f0.f2) == t108))) = true
          ·rw [if_pos c23] at H
           have c23b0 : ((((qd x5_1 x8_2).f0.f0).toList) == t106.toList && (((qd x5_1 x8_2).f0.f1) == t107 && (((qd x5_1 x8_2).f0.f2) == t108))) = true := c23
           (try (have c23b1 : decide ((((qd x5_1 x8_2).f0.f0).toList) = t106.toList && (((qd x5_1 x8_2).f0.f1) == t107 && (((qd x5_1 x8_2).f0.f2) == t108))) = true := by simpa using c23))
           (try (have c23b2 : ((((qd x5_1 x8_2).f0.f0).toList) == t106.toList && (((qd x5_1 x8_2).f0.f1) == t107 && (((qd x5_1 x8_2).f0.f2) == t108))) = true := by simpa using c23))
           clear c23
           have H' := Qz.mk H
           clear H
           try go_wp2
           replace HO_5 := Qz.mk (Kd.R_drew HO_5.out)
           replace BK111 := Qz.mk (qj BK111.out)
           replace HI0 := Qz.mk (IsS178.drew HI0.out)
           replace HK := Qz.mk (qn HK.out)
           replace HB := Qz.mk (qb HB.out)
           obtain ⟨Ao25, co25, eo25⟩ := Kd.R_slice HO_5.out
           (first | subst eo25 | (injection eo25 with f1_ f2_ f3_; have f4_ := f1_.symm; have f5_ := f3_.symm; clear f1_ f2_ f3_; subst f4_; subst f5_))
           have p113 : 0 ≤ (x8_2 : Int) := of_decide_eq_true yq102
           have q113 : x8_2 < (x5_1.length : Int) := of_decide_eq_true yq102
           obtain ⟨ad113, e113, hx113_0, hx113_1, hx113_2, hx113_3⟩ := at_T64 (Kd.R_reads' HO_5.out).2.2 x8_2 p113 q113
           cases e113
           replace p113 := eq_true p113
           replace q113 := eq_true q113
           refine start_ (n := 15) (S := fun w' => w'.cell? ⟨gb111, 0, none⟩ = some (.string t106) ∧ w'.cell? ⟨gb111, 1, none⟩ = some (.int .i64 t107) ∧ w'.cell? ⟨gb111, 2, none⟩ = some (.int .i64 t108) ∧ w'.cell? ⟨gb111, 3, none⟩ = some (.string t109) ∧ w'.cell? (ad113.add ((x8_2).toNat * 4)) = some (.string ((qd x5_1 x8_2).f0.f0)) ∧ w'.cell? ⟨(ad113.add ((x8_2).toNat * 4)).block, (ad113.add ((x8_2).toNat * 4)).off + 1, none⟩ = some (.int .i64 ((qd x5_1 x8_2).f0.f1)) ∧ w'.cell? ⟨(ad113.add ((x8_2).toNat * 4)).block, (ad113.add ((x8_2).toNat * 4)).off + 2, none⟩ = some (.int .i64 ((qd x5_1 x8_2).f0.f2)) ∧ w'.cell? ⟨(ad113.add ((x8_2).toNat * 4)).block, (ad113.add ((x8_2).toNat * 4)).off + 3, none⟩ = some (.string ((qd x5_1 x8_2).f1))) (ds := []) bq2 (by kernel_rfl) rfl rfl ⟨(qf BK111.out 0).trans rfl, (qf BK111.out 1).trans rfl, (qf BK111.out 2).trans rfl, (qf BK111.out 3).trans rfl, hx113_0, hx113_1, hx113_2, hx113_3⟩ (fun hHeld => ?_); refine with_tabW spec_l1Rd_entries.tab8 spec_l1Rd_entries.bits8 (fun HT_ HW_ => ?_)
           generalize wr.drew = w24 at HO_5 BK111 HI0 HK HB hx113_0 hx113_1 hx113_2 hx113_3 hHeld ⊢
           refine pure_ (i := 0) (N := some 24) (v := ?_) (a' := ?_) bq6 rfl rfl (qt HT_.out (by kernel_rfl)) (fun _ _ _ h => h) (Or.inl ⟨by rfl, ?_⟩) ?_ ?_
           rotate_left
           ·intro w'
            go_simp
            with_reducible rfl
           rotate_left
           ·simp only [Act.put, sq1, sq2, sq3, i64_w, i32_w]
            rfl
           refine pure_ (i := 1) (N := some 25) (v := ?_) (a' := ?_) bq10 rfl rfl (qt HT_.out (by kernel_rfl)) (fun _ _ _ h => h) (Or.inl ⟨by rfl, ?_⟩) ?_ ?_
           rotate_left
           ·intro w'
            go_simp
            with_reducible rfl
           rotate_left
           ·simp only [Act.put, sq1, sq2, sq3, i64_w, i32_w]
            rfl
           refine pure_ (i := 2) (N := some 26) (v := ?_) (a' := ?_) bq14 rfl rfl (qt HT_.out (by kernel_rfl)) (fun _ _ _ h => h) (Or.inl ⟨by rfl, ?_⟩) ?_ ?_
           rotate_left
           ·intro w'
            go_simp
            with_reducible rfl
           rotate_left
           ·simp only [Act.put, sq1, sq2, sq3, i64_w, i32_w]
            rfl
           refine pure_ (i := 3) (N := some 27) (v := ?_) (a' := ?_) bq18 rfl rfl (qt HT_.out (by kernel_rfl)) (fun _ _ _ h => h) (Or.inl ⟨by rfl, ?_⟩) ?_ ?_
           rotate_left
           ·intro w'
            go_simp
            with_reducible rfl
           rotate_left
           ·simp only [Act.put, sq1, sq2, sq3, i64_w, i32_w]
            rfl
           refine pure_ (i := 4) (N := some 28) (v := ?_) (a' := ?_) bq22 rfl rfl (qt HT_.out (by kernel_rfl)) (fun _ _ _ h => h) (Or.inl ⟨by rfl, ?_⟩) ?_ ?_
           rotate_left
           ·intro w'
            go_simp
            with_reducible rfl
           rotate_left
           ·simp only [Act.put, sq1, sq2, sq3, i64_w, i32_w]
            rfl
           refine pure_ (i := 5) (N := some 29) (v := ?_) (a' := ?_) bq26 rfl rfl (qt HT_.out (by kernel_rfl)) (fun _ _ _ h => h) (Or.inl ⟨by rfl, ?_⟩) ?_ ?_
           rotate_left
           ·intro w'
            go_simp
            with_reducible rfl
           rotate_left
           ·simp only [Act.put, sq1, sq2, sq3, i64_w, i32_w]
            rfl
           refine pure_ (i := 6) (N := some 30) (v := ?_) (a' := ?_) bq30 rfl rfl (qt HT_.out (by kernel_rfl)) (fun _ _ _ h => h) (Or.inl ⟨by rfl, ?_⟩) ?_ ?_
           rotate_left
           ·intro w'
            go_simp
            with_reducible rfl
           rotate_left
           ·simp only [Act.put, sq1, sq2, sq3, i64_w, i32_w]
            rfl
           refine pure_ (i := 7) (N := some 31) (v := ?_) (a' := ?_) bq34 rfl rfl (qt HT_.out (by kernel_rfl)) (fun _ _ _ h => h) (Or.inl ⟨by rfl, ?_⟩) ?_ ?_
           rotate_left
           ·intro w'
            go_simp
            with_reducible rfl
           rotate_left
           ·simp only [Act.put, sq1, sq2, sq3, i64_w, i32_w]
            rfl
           refine pure_ (i := 8) (N := some 32) (v := ?_) (a' := ?_) bq38 rfl rfl (qt HT_.out (by kernel_rfl)) (fun _ _ _ h => h) (Or.inl ⟨by rfl, ?_⟩) ?_ ?_
           rotate_left
           ·intro w'
            go_simp
            with_reducible rfl
           rotate_left
           ·simp only [Act.put, sq1, sq2, sq3, i64_w, i32_w]
            rfl
           refine pure_ (i := 10) (N := some 34) (v := ?_) (a' := ?_) bq40 rfl rfl (qt HT_.out (by kernel_rfl)) (fun _ _ _ h => h) (Or.inl ⟨by rfl, ?_⟩) ?_ ?_
           rotate_left
           ·intro w'
            go_simp
            with_reducible rfl
           rotate_left
           ·simp only [Act.put, sq1, sq2, sq3, i64_w, i32_w]
            rfl
           refine take_ (i := 9) (N := some 33) (v := ?_) (a' := ?_) bq46 rfl rfl (take_ofW HT_.out HW_.out (by kernel_rfl)) (fun _ _ _ h => h) (Or.inl ⟨by rfl, ?_⟩) hHeld ?_ ?_
           rotate_left
           ·rintro w' ⟨s0, s1, s2, s3, s4, s5, s6, s7⟩
            go_simp
            with_reducible rfl
           rotate_left
           ·simp only [Act.put, sq1, sq2, sq3, i64_w, i32_w]
            rfl
           refine take_ (i := 11) (N := some 35) (v := ?_) (a' := ?_) bq50 rfl rfl (take_ofW HT_.out HW_.out (by kernel_rfl)) (fun _ _ _ h => h) (Or.inl ⟨by rfl, ?_⟩) hHeld ?_ ?_
           rotate_left
           ·rintro w' ⟨s0, s1, s2, s3, s4, s5, s6, s7⟩
            go_simp
            with_reducible rfl
           rotate_left
           ·simp only [Act.put, sq1, sq2, sq3, i64_w, i32_w]
            rfl
           refine one_ (i := 12) (N := some 36) bq55 rfl rfl (one_of HT_.out (by kernel_rfl)) (by decide) (fun K hK => ?_)
           refine goes_ Try.func144 (by kernel_rfl) rfl #[.agg #[.string ((qd x5_1 x8_2).f0.f0), .int .i64 ((qd x5_1 x8_2).f0.f1), .int .i64 ((qd x5_1 x8_2).f0.f2)], .agg #[.string t106, .int .i64 t107, .int .i64 t108]] (by rfl) rfl rfl yq104 ?_
           with_reducible refine (spec_KeyCmp.calls k2 ((qd x5_1 x8_2).f0.f0) ((qd x5_1 x8_2).f0.f1) ((qd x5_1 x8_2).f0.f2) t106 t107 t108 t114 _ A18.out).mono ?_
           rintro e w26 ⟨rfl, hb⟩
           have HS4_ := (hb.cell (World.block_lt_of_cell? _ _ (hHeld.2.2.2.2.1))).trans (hHeld.2.2.2.2.1)
           have HS5_ := (hb.cell (World.block_lt_of_cell? _ _ (hHeld.2.2.2.2.2.1))).trans (hHeld.2.2.2.2.2.1)
           have HS6_ := (hb.cell (World.block_lt_of_cell? _ _ (hHeld.2.2.2.2.2.2.1))).trans (hHeld.2.2.2.2.2.2.1)
           have HS7_ := (hb.cell (World.block_lt_of_cell? _ _ (hHeld.2.2.2.2.2.2.2))).trans (hHeld.2.2.2.2.2.2.2)
           refine ⟨_, rfl, ?_⟩
           replace HO_5 := Qz.mk (Kd.R_below yq94 hb)
           replace BK111 := Qz.mk (qf1 (g := gb111) (o := .cells #[.string t106, .int .i64 t107, .int .i64 t108, .string t109] 64 (0, 0)) yq99 hb)
           replace HK := Qz.mk (KeepBut.trans yq95 (KeepBut.of_below hb g none) (.inl rfl))
           replace HB := Qz.mk (qm yq97 hb)
           replace HI0 := Qz.mk (IsS178.below yq96 hb)
           (try clear hb)
           (try clear hk)
           (try clear hi)
           refine hK.out _ _ ⟨(qf BK111.out 0).trans rfl, (qf BK111.out 1).trans rfl, (qf BK111.out 2).trans rfl, (qf BK111.out 3).trans rfl, HS4_, HS5_, HS6_, HS7_⟩ (fun hHeld => ?_)
           clear hK K
           refine norm_ (a' := ?_) ?_ ?_
           rotate_left
           ·show Act.put _ (some 36) _ = _
            simp only [Act.put, sq1, sq2, sq3, i64_w, i32_w]
            rfl
           refine pure_ (i := 13) (N := some 37) (v := ?_) (a' := ?_) bq59 rfl rfl (qt HT_.out (by kernel_rfl)) (fun _ _ _ h => h) (Or.inl ⟨by rfl, ?_⟩) ?_ ?_
           rotate_left
           ·intro w'
            go_simp
            with_reducible rfl
           rotate_left
           ·simp only [Act.put, sq1, sq2, sq3, i64_w, i32_w]
            rfl
           refine pure_ (i := 14) (N := some 38) (v := ?_) (a' := ?_) bq80 rfl rfl (qt HT_.out (by kernel_rfl)) (fun _ _ _ h => h) (Or.inl ⟨by rfl, ?_⟩) ?_ ?_
           rotate_left
           ·intro w'
            go_simp
            with_reducible rfl
           rotate_left
           ·simp only [Act.put, sq1, sq2, sq3, i64_w, i32_w]
            rfl
           refine done_ (done_of HT_.out (by kernel_rfl)) ?_
           try go_wp2
           replace HO_5 := Qz.mk (Kd.R_drew HO_5.out)
           replace BK111 := Qz.mk (qj BK111.out)
           replace HI0 := Qz.mk (IsS178.drew HI0.out)
           replace HK := Qz.mk (qn HK.out)
           replace HB := Qz.mk (qb HB.out)
           have p115 : 0 ≤ (x8_2 : Int) := of_decide_eq_true yq102
           have q115 : x8_2 < (x5_1.length : Int) := of_decide_eq_true yq102
           obtain ⟨ad115, e115, hx115_0, hx115_1, hx115_2, hx115_3⟩ := at_T64 (Kd.R_reads' HO_5.out).2.2 x8_2 p115 q115
           obtain rfl : ad113 = ad115 := (by injection e115)
           replace p115 := eq_true p115
           replace q115 := eq_true q115
           refine start_ (n := 14) (S := fun w' => w'.cell? ⟨gb111, 0, none⟩ = some (.string t106) ∧ w'.cell? ⟨gb111, 1, none⟩ = some (.int .i64 t107) ∧ w'.cell? ⟨gb111, 2, none⟩ = some (.int .i64 t108) ∧ w'.cell? ⟨gb111, 3, none⟩ = some (.string t109) ∧ w'.cell? (ad113.add ((x8_2).toNat * 4)) = some (.string ((qd x5_1 x8_2).f0.f0)) ∧ w'.cell? ⟨(ad113.add ((x8_2).toNat * 4)).block, (ad113.add ((x8_2).toNat * 4)).off + 1, none⟩ = some (.int .i64 ((qd x5_1 x8_2).f0.f1)) ∧ w'.cell? ⟨(ad113.add ((x8_2).toNat * 4)).block, (ad113.add ((x8_2).toNat * 4)).off + 2, none⟩ = some (.int .i64 ((qd x5_1 x8_2).f0.f2)) ∧ w'.cell? ⟨(ad113.add ((x8_2).toNat * 4)).block, (ad113.add ((x8_2).toNat * 4)).off + 3, none⟩ = some (.string ((qd x5_1 x8_2).f1))) (ds := []) bq3 (by kernel_rfl) rfl rfl ⟨(qf BK111.out 0).trans rfl, (qf BK111.out 1).trans rfl, (qf BK111.out 2).trans rfl, (qf BK111.out 3).trans rfl, hx115_0, hx115_1, hx115_2, hx115_3⟩ (fun hHeld => ?_); refine with_tabW spec_l1Rd_entries.tab10 spec_l1Rd_entries.bits10 (fun HT_ HW_ => ?_)
           generalize w26.drew = w27 at HO_5 BK111 HI0 HK HB hx115_0 hx115_1 hx115_2 hx115_3 hHeld ⊢
           refine pure_ (i := 0) (N := some 41) (v := ?_) (a' := ?_) bq7 rfl rfl (qt HT_.out (by kernel_rfl)) (fun _ _ _ h => h) (Or.inl ⟨by rfl, ?_⟩) ?_ ?_
           rotate_left
           ·intro w'
            go_simp
            with_reducible rfl
           rotate_left
           ·simp only [Act.put, sq1, sq2, sq3, i64_w, i32_w]
            rfl
           refine pure_ (i := 1) (N := some 42) (v := ?_) (a' := ?_) bq11 rfl rfl (qt HT_.out (by kernel_rfl)) (fun _ _ _ h => h) (Or.inl ⟨by rfl, ?_⟩) ?_ ?_
           rotate_left
           ·intro w'
            go_simp
            with_reducible rfl
           rotate_left
           ·simp only [Act.put, sq1, sq2, sq3, i64_w, i32_w]
            rfl
           refine pure_ (i := 2) (N := some 43) (v := ?_) (a' := ?_) bq15 rfl rfl (qt HT_.out (by kernel_rfl)) (fun _ _ _ h => h) (Or.inl ⟨by rfl, ?_⟩) ?_ ?_
           rotate_left
           ·intro w'
            go_simp
            with_reducible rfl
           rotate_left
           ·simp only [Act.put, sq1, sq2, sq3, i64_w, i32_w]
            rfl
           refine pure_ (i := 3) (N := some 44) (v := ?_) (a' := ?_) bq19 rfl rfl (qt HT_.out (by kernel_rfl)) (fun _ _ _ h => h) (Or.inl ⟨by rfl, ?_⟩) ?_ ?_
           rotate_left
           ·intro w'
            go_simp
            with_reducible rfl
           rotate_left
           ·simp only [Act.put, sq1, sq2, sq3, i64_w, i32_w]
            rfl
           refine pure_ (i := 4) (N := some 45) (v := ?_) (a' := ?_) bq23 rfl rfl (qt HT_.out (by kernel_rfl)) (fun _ _ _ h => h) (Or.inl ⟨by rfl, ?_⟩) ?_ ?_
           rotate_left
           ·intro w'
            go_simp
            with_reducible rfl
           rotate_left
           ·simp only [Act.put, sq1, sq2, sq3, i64_w, i32_w]
            rfl
           refine pure_ (i := 5) (N := some 46) (v := ?_) (a' := ?_) bq27 rfl rfl (qt HT_.out (by kernel_rfl)) (fun _ _ _ h => h) (Or.inl ⟨by rfl, ?_⟩) ?_ ?_
           rotate_left
           ·intro w'
            go_simp
            with_reducible rfl
           rotate_left
           ·simp only [Act.put, sq1, sq2, sq3, i64_w, i32_w]
            rfl
           refine pure_ (i := 6) (N := some 47) (v := ?_) (a' := ?_) bq31 rfl rfl (qt HT_.out (by kernel_rfl)) (fun _ _ _ h => h) (Or.inl ⟨by rfl, ?_⟩) ?_ ?_
           rotate_left
           ·intro w'
            go_simp
            with_reducible rfl
           rotate_left
           ·simp only [Act.put, sq1, sq2, sq3, i64_w, i32_w]
            rfl
           refine pure_ (i := 7) (N := some 48) (v := ?_) (a' := ?_) bq35 rfl rfl (qt HT_.out (by kernel_rfl)) (fun _ _ _ h => h) (Or.inl ⟨by rfl, ?_⟩) ?_ ?_
           rotate_left
           ·intro w'
            go_simp
            with_reducible rfl
           rotate_left
           ·simp only [Act.put, sq1, sq2, sq3, i64_w, i32_w]
            rfl
           refine pure_ (i := 8) (N := some 49) (v := ?_) (a' := ?_) bq39 rfl rfl (qt HT_.out (by kernel_rfl)) (fun _ _ _ h => h) (Or.inl ⟨by rfl, ?_⟩) ?_ ?_
           rotate_left
           ·intro w'
            go_simp
            with_reducible rfl
           rotate_left
           ·simp only [Act.put, sq1, sq2, sq3, i64_w, i32_w]
            rfl
           refine pure_ (i := 10) (N := some 51) (v := ?_) (a' := ?_) bq41 rfl rfl (qt HT_.out (by kernel_rfl)) (fun _ _ _ h => h) (Or.inl ⟨by rfl, ?_⟩) ?_ ?_
           rotate_left
           ·intro w'
            go_simp
            with_reducible rfl
           rotate_left
           ·simp only [Act.put, sq1, sq2, sq3, i64_w, i32_w]
            rfl
           refine take_ (i := 9) (N := some 50) (v := ?_) (a' := ?_) bq47 rfl rfl (take_ofW HT_.out HW_.out (by kernel_rfl)) (fun _ _ _ h => h) (Or.inl ⟨by rfl, ?_⟩) hHeld ?_ ?_
           rotate_left
           ·rintro w' ⟨s0, s1, s2, s3, s4, s5, s6, s7⟩
            go_simp
            with_reducible rfl
           rotate_left
           ·simp only [Act.put, sq1, sq2, sq3, i64_w, i32_w]
            rfl
           refine take_ (i := 11) (N := some 52) (v := ?_) (a' := ?_) bq51 rfl rfl (take_ofW HT_.out HW_.out (by kernel_rfl)) (fun _ _ _ h => h) (Or.inl ⟨by rfl, ?_⟩) hHeld ?_ ?_
           rotate_left
           ·rintro w' ⟨s0, s1, s2, s3, s4, s5, s6, s7⟩
            go_simp
            with_reducible rfl
           rotate_left
           ·simp only [Act.put, sq1, sq2, sq3, i64_w, i32_w]
            rfl
           refine pure_ (i := 12) (N := some 53) (v := ?_) (a' := ?_) bq56 rfl rfl (qt HT_.out (by kernel_rfl)) (fun _ _ _ h => h) (Or.inl ⟨by rfl, ?_⟩) ?_ ?_
           rotate_left
           ·intro w'
            go_simp
            with_reducible rfl
           rotate_left
           ·simp only [Act.put, sq1, sq2, sq3, i64_w, i32_w]
            rfl
           refine pure_ (i := 13) (N := some 54) (v := ?_) (a' := ?_) bq81 rfl rfl (qt HT_.out (by kernel_rfl)) (fun _ _ _ h => h) (Or.inl ⟨by rfl, ?_⟩) ?_ ?_
           rotate_left
           ·intro w'
            go_simp
            with_reducible rfl
           rotate_left
           ·simp only [Act.put, sq1, sq2, sq3, i64_w, i32_w]
            rfl
           refine done_ (done_of HT_.out (by kernel_rfl)) ?_
           try go_wp2
           go_roundg k2
           case measure => have := HK1.out; have := HK2.out; omega
           case rel => exact ⟨(x5_1), (wrap64 (x6_1 - 1)), (t110), yq106, H', ⟨by have := HK1.out; have := HK2.out; omega⟩, ⟨by (with_reducible repeat (first | apply Kd.R_alloc | apply Kd.R_drewN | apply Kd.R_drew)); exact Kd.R_mono HO_5.out (fun _ hk => trivial)⟩, ⟨by repeat (first | (with_reducible first | exact HI0.out | apply IsS178.alloc | apply IsS178.drewN | apply IsS178.drew | apply IsS178.set_1 | apply (fun h_ => IsS178.far h_ NB0_111.out _)) | exact HI0.out)⟩, ⟨by repeat (first | (with_reducible first | exact HK.out | apply KeepBut.set_ | apply qk | apply qn | apply ql | refine qw ?_ GW111.out _) | exact HK.out)⟩, ⟨by repeat (first | (with_reducible first | exact HB.out | apply qc | apply qa | apply qb | refine qe ?_ (IsS178.ge HI0.out) | refine qe ?_ GE111.out) | exact HB.out)⟩⟩
          ·rw [if_neg c23] at H
           have c23b0 : ((((qd x5_1 x8_2).f0.f0).toList) == t106.toList && (((qd x5_1 x8_2).f0.f1) == t107 && (((qd x5_1 x8_2).f0.f2) == t108))) = false := by simpa using c23
           (try (have c23b1 : decide ((((qd x5_1 x8_2).f0.f0).toList) = t106.toList && (((qd x5_1 x8_2).f0.f1) == t107 && (((qd x5_1 x8_2).f0.f2) == t108))) = false := by simpa using c23))
           (try (have c23b2 : ((((qd x5_1 x8_2).f0.f0).toList) == t106.toList && (((qd x5_1 x8_2).f0.f1) == t107 && (((qd x5_1 x8_2).f0.f2) == t108))) = false := by simpa using c23))
           (try (have c23b3 : ¬ ((((qd x5_1 x8_2).f0.f0).toList) = t106.toList && (((qd x5_1 x8_2).f0.f1) == t107 && (((qd x5_1 x8_2).f0.f2) == t108))) := by simpa using c23))
           clear c23
           obtain ⟨y116, hy116⟩ : ∃ y_ : List (S64), y_ = (([] : List (S64))) := ⟨_, rfl⟩
           replace H : (if x8_2 ≤ (x5_1.length : Int) then ((some (x5_1.take (x8_2 : Int).toNat : List (S64))).bind fun y119 => (if y116.length + y119.length < 2932031007402 then ((some (y116 ++ y119 : List (S64))).bind fun y123 => (if y123.length < 2932031007402 then ((some (y123 ++ [(⟨(⟨t106, t107, t108⟩ : S35), t109⟩ : S64)] : List (S64))).bind fun y126 => ((some (x5_1.drop (x8_2 : Int).toNat : List (S64))).bind fun y129 => (if y126.length + y129.length < 2932031007402 then (spec_l1Rd_entries.l0 k2 (y126 ++ y129) (wrap64 (x6_1 - 1)) s0_0 t110) else (none)))) else (none))) else (none))) else (none)) = some (r1, r2) := by first | (rw [hy116]; with_reducible exact H) | (have H2_ := (Option.bind_some _ _).symm.trans H; rw [hy116]; with_reducible exact H2_) | (have H2_ := (Option.bind_some _ _).symm.trans H; with_reducible exact H2_) | with_reducible exact H | (rw [hy116]; exact H) | exact H
           have Ny116 := Qz.mk hy116
           clear hy116
           have c28b0 := eq_true (of_decide_eq_true yq102 : 0 ≤ x8_2)
           by_cases c29 : x8_2 ≤ (x5_1.length : Int)
           ·rw [if_pos c29] at H
            have c29b0 := eq_true c29
            have c29b1 : decide (x8_2 ≤ (x5_1.length : Int)) = true := decide_eq_true c29
            clear c29
            obtain ⟨y119, hy119⟩ : ∃ y_ : List (S64), y_ = (x5_1.take (x8_2 : Int).toNat) := ⟨_, rfl⟩
            replace H : (if y116.length + y119.length < 2932031007402 then ((some (y116 ++ y119 : List (S64))).bind fun y123 => (if y123.length < 2932031007402 then ((some (y123 ++ [(⟨(⟨t106, t107, t108⟩ : S35), t109⟩ : S64)] : List (S64))).bind fun y126 => ((some (x5_1.drop (x8_2 : Int).toNat : List (S64))).bind fun y129 => (if y126.length + y129.length < 2932031007402 then (spec_l1Rd_entries.l0 k2 (y126 ++ y129) (wrap64 (x6_1 - 1)) s0_0 t110) else (none)))) else (none))) else (none)) = some (r1, r2) := by first | (rw [hy119]; with_reducible exact H) | (have H2_ := (Option.bind_some _ _).symm.trans H; rw [hy119]; with_reducible exact H2_) | (have H2_ := (Option.bind_some _ _).symm.trans H; with_reducible exact H2_) | with_reducible exact H | (rw [hy119]; exact H) | exact H
            have Ny119 := Qz.mk hy119
            clear hy119
            by_cases c30 : y116.length + y119.length < 2932031007402
            ·rw [if_pos c30] at H
             have LMc30 := Qz.mk c30
             clear c30
             obtain ⟨y123, hy123⟩ : ∃ y_ : List (S64), y_ = (y116 ++ y119) := ⟨_, rfl⟩
             replace H : (if y123.length < 2932031007402 then ((some (y123 ++ [(⟨(⟨t106, t107, t108⟩ : S35), t109⟩ : S64)] : List (S64))).bind fun y126 => ((some (x5_1.drop (x8_2 : Int).toNat : List (S64))).bind fun y129 => (if y126.length + y129.length < 2932031007402 then (spec_l1Rd_entries.l0 k2 (y126 ++ y129) (wrap64 (x6_1 - 1)) s0_0 t110) else (none)))) else (none)) = some (r1, r2) := by first | (rw [hy123]; with_reducible exact H) | (have H2_ := (Option.bind_some _ _).symm.trans H; rw [hy123]; with_reducible exact H2_) | (have H2_ := (Option.bind_some _ _).symm.trans H; with_reducible exact H2_) | with_reducible exact H | (rw [hy123]; exact H) | exact H
             have Ny123 := Qz.mk hy123
             clear hy123
             by_cases c31 : y123.length < 2932031007402
             ·rw [if_pos c31] at H
              have LMc31 := Qz.mk c31
              clear c31
              obtain ⟨y126, hy126⟩ : ∃ y_ : List (S64), y_ = (y123 ++ [(⟨(⟨t106, t107, t108⟩ : S35), t109⟩ : S64)]) := ⟨_, rfl⟩
              replace H : ((some (x5_1.drop (x8_2 : Int).toNat : List (S64))).bind fun y129 => (if y126.length + y129.length < 2932031007402 then (spec_l1Rd_entries.l0 k2 (y126 ++ y129) (wrap64 (x6_1 - 1)) s0_0 t110) else (none))) = some (r1, r2) := by first | (rw [hy126]; with_reducible exact H) | (have H2_ := (Option.bind_some _ _).symm.trans H; rw [hy126]; with_reducible exact H2_) | (have H2_ := (Option.bind_some _ _).symm.trans H; with_reducible exact H2_) | with_reducible exact H | (rw [hy126]; exact H) | exact H
              have Ny126 := Qz.mk hy126
              clear hy126
              have c32b0 := eq_true (of_decide_eq_true yq102 : 0 ≤ x8_2)
              have c33b0 := eq_true (of_decide_eq_true yq102 : x8_2 ≤ (x5_1.length : Int))
              obtain ⟨y129, hy129⟩ : ∃ y_ : List (S64), y_ = (x5_1.drop (x8_2 : Int).toNat) := ⟨_, rfl⟩
              replace H : (if y126.length + y129.length < 2932031007402 then (spec_l1Rd_entries.l0 k2 (y126 ++ y129) (wrap64 (x6_1 - 1)) s0_0 t110) else (none)) = some (r1, r2) := by first | (rw [hy129]; with_reducible exact H) | (have H2_ := (Option.bind_some _ _).symm.trans H; rw [hy129]; with_reducible exact H2_) | (have H2_ := (Option.bind_some _ _).symm.trans H; with_reducible exact H2_) | with_reducible exact H | (rw [hy129]; exact H) | exact H
              have Ny129 := Qz.mk hy129
              clear hy129
              by_cases c34 : y126.length + y129.length < 2932031007402
              ·rw [if_pos c34] at H
               have LMc34 := Qz.mk c34
               clear c34
               obtain ⟨y133, hy133⟩ : ∃ y_ : List (S64), y_ = (y126 ++ y129) := ⟨_, rfl⟩
               replace H : (spec_l1Rd_entries.l0 k2 y133 (wrap64 (x6_1 - 1)) s0_0 t110) = some (r1, r2) := by first | (rw [hy133]; with_reducible exact H) | (have H2_ := (Option.bind_some _ _).symm.trans H; rw [hy133]; with_reducible exact H2_) | (have H2_ := (Option.bind_some _ _).symm.trans H; with_reducible exact H2_) | with_reducible exact H | (rw [hy133]; exact H) | exact H
               have Ny133 := Qz.mk hy133
               clear hy133
               have H' := Qz.mk H
               clear H
               try go_wp2
               replace HO_5 := Qz.mk (Kd.R_drew HO_5.out)
               replace BK111 := Qz.mk (qj BK111.out)
               replace HI0 := Qz.mk (IsS178.drew HI0.out)
               replace HK := Qz.mk (qn HK.out)
               replace HB := Qz.mk (qb HB.out)
               obtain ⟨Ao36, co36, eo36⟩ := Kd.R_slice HO_5.out
               (first | subst eo36 | (injection eo36 with f1_ f2_ f3_; have f4_ := f1_.symm; have f5_ := f3_.symm; clear f1_ f2_ f3_; subst f4_; subst f5_))
               have p113 : 0 ≤ (x8_2 : Int) := of_decide_eq_true yq102
               have q113 : x8_2 < (x5_1.length : Int) := of_decide_eq_true yq102
               obtain ⟨ad113, e113, hx113_0, hx113_1, hx113_2, hx113_3⟩ := at_T64 (Kd.R_reads' HO_5.out).2.2 x8_2 p113 q113
               cases e113
               replace p113 := eq_true p113
               replace q113 := eq_true q113
               refine start_ (n := 15) (S := fun w' => w'.cell? ⟨gb111, 0, none⟩ = some (.string t106) ∧ w'.cell? ⟨gb111, 1, none⟩ = some (.int .i64 t107) ∧ w'.cell? ⟨gb111, 2, none⟩ = some (.int .i64 t108) ∧ w'.cell? ⟨gb111, 3, none⟩ = some (.string t109) ∧ w'.cell? (ad113.add ((x8_2).toNat * 4)) = some (.string ((qd x5_1 x8_2).f0.f0)) ∧ w'.cell? ⟨(ad113.add ((x8_2).toNat * 4)).block, (ad113.add ((x8_2).toNat * 4)).off + 1, none⟩ = some (.int .i64 ((qd x5_1 x8_2).f0.f1)) ∧ w'.cell? ⟨(ad113.add ((x8_2).toNat * 4)).block, (ad113.add ((x8_2).toNat * 4)).off + 2, none⟩ = some (.int .i64 ((qd x5_1 x8_2).f0.f2)) ∧ w'.cell? ⟨(ad113.add ((x8_2).toNat * 4)).block, (ad113.add ((x8_2).toNat * 4)).off + 3, none⟩ = some (.string ((qd x5_1 x8_2).f1))) (ds := []) bq2 (by kernel_rfl) rfl rfl ⟨(qf BK111.out 0).trans rfl, (qf BK111.out 1).trans rfl, (qf BK111.out 2).trans rfl, (qf BK111.out 3).trans rfl, hx113_0, hx113_1, hx113_2, hx113_3⟩ (fun hHeld => ?_); refine with_tabW spec_l1Rd_entries.tab8 spec_l1Rd_entries.bits8 (fun HT_ HW_ => ?_)
               generalize wr.drew = w35 at HO_5 BK111 HI0 HK HB hx113_0 hx113_1 hx113_2 hx113_3 hHeld ⊢
               refine pure_ (i := 0) (N := some 24) (v := ?_) (a' := ?_) bq6 rfl rfl (qt HT_.out (by kernel_rfl)) (fun _ _ _ h => h) (Or.inl ⟨by rfl, ?_⟩) ?_ ?_
               rotate_left
               ·intro w'
                go_simp
                with_reducible rfl
               rotate_left
               ·simp only [Act.put, sq1, sq2, sq3, i64_w, i32_w]
                rfl
               refine pure_ (i := 1) (N := some 25) (v := ?_) (a' := ?_) bq10 rfl rfl (qt HT_.out (by kernel_rfl)) (fun _ _ _ h => h) (Or.inl ⟨by rfl, ?_⟩) ?_ ?_
               rotate_left
               ·intro w'
                go_simp
                with_reducible rfl
               rotate_left
               ·simp only [Act.put, sq1, sq2, sq3, i64_w, i32_w]
                rfl
               refine pure_ (i := 2) (N := some 26) (v := ?_) (a' := ?_) bq14 rfl rfl (qt HT_.out (by kernel_rfl)) (fun _ _ _ h => h) (Or.inl ⟨by rfl, ?_⟩) ?_ ?_
               rotate_left
               ·intro w'
                go_simp
                with_reducible rfl
               rotate_left
               ·simp only [Act.put, sq1, sq2, sq3, i64_w, i32_w]
                rfl
               refine pure_ (i := 3) (N := some 27) (v := ?_) (a' := ?_) bq18 rfl rfl (qt HT_.out (by kernel_rfl)) (fun _ _ _ h => h) (Or.inl ⟨by rfl, ?_⟩) ?_ ?_
               rotate_left
               ·intro w'
                go_simp
                with_reducible rfl
               rotate_left
               ·simp only [Act.put, sq1, sq2, sq3, i64_w, i32_w]
                rfl
               refine pure_ (i := 4) (N := some 28) (v := ?_) (a' := ?_) bq22 rfl rfl (qt HT_.out (by kernel_rfl)) (fun _ _ _ h => h) (Or.inl ⟨by rfl, ?_⟩) ?_ ?_
               rotate_left
               ·intro w'
                go_simp
                with_reducible rfl
               rotate_left
               ·simp only [Act.put, sq1, sq2, sq3, i64_w, i32_w]
                rfl
               refine pure_ (i := 5) (N := some 29) (v := ?_) (a' := ?_) bq26 rfl rfl (qt HT_.out (by kernel_rfl)) (fun _ _ _ h => h) (Or.inl ⟨by rfl, ?_⟩) ?_ ?_
               rotate_left
               ·intro w'
                go_simp
                with_reducible rfl
               rotate_left
               ·simp only [Act.put, sq1, sq2, sq3, i64_w, i32_w]
                rfl
               refine pure_ (i := 6) (N := some 30) (v := ?_) (a' := ?_) bq30 rfl rfl (qt HT_.out (by kernel_rfl)) (fun _ _ _ h => h) (Or.inl ⟨by rfl, ?_⟩) ?_ ?_
               rotate_left
               ·intro w'
                go_simp
                with_reducible rfl
               rotate_left
               ·simp only [Act.put, sq1, sq2, sq3, i64_w, i32_w]
                rfl
               refine pure_ (i := 7) (N := some 31) (v := ?_) (a' := ?_) bq34 rfl rfl (qt HT_.out (by kernel_rfl)) (fun _ _ _ h => h) (Or.inl ⟨by rfl, ?_⟩) ?_ ?_
               rotate_left
               ·intro w'
                go_simp
                with_reducible rfl
               rotate_left
               ·simp only [Act.put, sq1, sq2, sq3, i64_w, i32_w]
                rfl
               refine pure_ (i := 8) (N := some 32) (v := ?_) (a' := ?_) bq38 rfl rfl (qt HT_.out (by kernel_rfl)) (fun _ _ _ h => h) (Or.inl ⟨by rfl, ?_⟩) ?_ ?_
               rotate_left
               ·intro w'
                go_simp
                with_reducible rfl
               rotate_left
               ·simp only [Act.put, sq1, sq2, sq3, i64_w, i32_w]
                rfl
               refine pure_ (i := 10) (N := some 34) (v := ?_) (a' := ?_) bq40 rfl rfl (qt HT_.out (by kernel_rfl)) (fun _ _ _ h => h) (Or.inl ⟨by rfl, ?_⟩) ?_ ?_
               rotate_left
               ·intro w'
                go_simp
                with_reducible rfl
               rotate_left
               ·simp only [Act.put, sq1, sq2, sq3, i64_w, i32_w]
                rfl
               refine take_ (i := 9) (N := some 33) (v := ?_) (a' := ?_) bq46 rfl rfl (take_ofW HT_.out HW_.out (by kernel_rfl)) (fun _ _ _ h => h) (Or.inl ⟨by rfl, ?_⟩) hHeld ?_ ?_
               rotate_left
               ·rintro w' ⟨s0, s1, s2, s3, s4, s5, s6, s7⟩
                go_simp
                with_reducible rfl
               rotate_left
               ·simp only [Act.put, sq1, sq2, sq3, i64_w, i32_w]
                rfl
               refine take_ (i := 11) (N := some 35) (v := ?_) (a' := ?_) bq50 rfl rfl (take_ofW HT_.out HW_.out (by kernel_rfl)) (fun _ _ _ h => h) (Or.inl ⟨by rfl, ?_⟩) hHeld ?_ ?_
               rotate_left
               ·rintro w' ⟨s0, s1, s2, s3, s4, s5, s6, s7⟩
                go_simp
                with_reducible rfl
               rotate_left
               ·simp only [Act.put, sq1, sq2, sq3, i64_w, i32_w]
                rfl
               refine one_ (i := 12) (N := some 36) bq55 rfl rfl (one_of HT_.out (by kernel_rfl)) (by decide) (fun K hK => ?_)
               refine goes_ Try.func144 (by kernel_rfl) rfl #[.agg #[.string ((qd x5_1 x8_2).f0.f0), .int .i64 ((qd x5_1 x8_2).f0.f1), .int .i64 ((qd x5_1 x8_2).f0.f2)], .agg #[.string t106, .int .i64 t107, .int .i64 t108]] (by rfl) rfl rfl yq104 ?_
               with_reducible refine (spec_KeyCmp.calls k2 ((qd x5_1 x8_2).f0.f0) ((qd x5_1 x8_2).f0.f1) ((qd x5_1 x8_2).f0.f2) t106 t107 t108 t114 _ A18.out).mono ?_
               rintro e w37 ⟨rfl, hb⟩
               have HS4_ := (hb.cell (World.block_lt_of_cell? _ _ (hHeld.2.2.2.2.1))).trans (hHeld.2.2.2.2.1)
               have HS5_ := (hb.cell (World.block_lt_of_cell? _ _ (hHeld.2.2.2.2.2.1))).trans (hHeld.2.2.2.2.2.1)
               have HS6_ := (hb.cell (World.block_lt_of_cell? _ _ (hHeld.2.2.2.2.2.2.1))).trans (hHeld.2.2.2.2.2.2.1)
               have HS7_ := (hb.cell (World.block_lt_of_cell? _ _ (hHeld.2.2.2.2.2.2.2))).trans (hHeld.2.2.2.2.2.2.2)
               refine ⟨_, rfl, ?_⟩
               replace HO_5 := Qz.mk (Kd.R_below yq94 hb)
               replace BK111 := Qz.mk (qf1 (g := gb111) (o := .cells #[.string t106, .int .i64 t107, .int .i64 t108, .string t109] 64 (0, 0)) yq99 hb)
               replace HK := Qz.mk (KeepBut.trans yq95 (KeepBut.of_below hb g none) (.inl rfl))
               replace HB := Qz.mk (qm yq97 hb)
               replace HI0 := Qz.mk (IsS178.below yq96 hb)
               (try clear hb)
               (try clear hk)
               (try clear hi)
               refine hK.out _ _ ⟨(qf BK111.out 0).trans rfl, (qf BK111.out 1).trans rfl, (qf BK111.out 2).trans rfl, (qf BK111.out 3).trans rfl, HS4_, HS5_, HS6_, HS7_⟩ (fun hHeld => ?_)
               clear hK K
               refine norm_ (a' := ?_) ?_ ?_
               rotate_left
               ·show Act.put _ (some 36) _ = _
                simp only [Act.put, sq1, sq2, sq3, i64_w, i32_w]
                rfl
               refine pure_ (i := 13) (N := some 37) (v := ?_) (a' := ?_) bq59 rfl rfl (qt HT_.out (by kernel_rfl)) (fun _ _ _ h => h) (Or.inl ⟨by rfl, ?_⟩) ?_ ?_
               rotate_left
               ·intro w'
                go_simp
                with_reducible rfl
               rotate_left
               ·simp only [Act.put, sq1, sq2, sq3, i64_w, i32_w]
                rfl
               refine pure_ (i := 14) (N := some 38) (v := ?_) (a' := ?_) bq80 rfl rfl (qt HT_.out (by kernel_rfl)) (fun _ _ _ h => h) (Or.inl ⟨by rfl, ?_⟩) ?_ ?_
               rotate_left
               ·intro w'
                go_simp
                with_reducible rfl
               rotate_left
               ·simp only [Act.put, sq1, sq2, sq3, i64_w, i32_w]
                rfl
               refine done_ (done_of HT_.out (by kernel_rfl)) ?_
               try go_wp2
               replace HO_5 := Qz.mk (Kd.R_drew HO_5.out)
               replace BK111 := Qz.mk (qj BK111.out)
               replace HI0 := Qz.mk (IsS178.drew HI0.out)
               replace HK := Qz.mk (qn HK.out)
               replace HB := Qz.mk (qb HB.out)
               have p115 : 0 ≤ (x8_2 : Int) := of_decide_eq_true yq102
               have q115 : x8_2 < (x5_1.length : Int) := of_decide_eq_true yq102
               obtain ⟨ad115, e115, hx115_0, hx115_1, hx115_2, hx115_3⟩ := at_T64 (Kd.R_reads' HO_5.out).2.2 x8_2 p115 q115
               obtain rfl : ad113 = ad115 := (by injection e115)
               replace p115 := eq_true p115
               replace q115 := eq_true q115
               refine start_ (n := 14) (S := fun w' => w'.cell? ⟨gb111, 0, none⟩ = some (.string t106) ∧ w'.cell? ⟨gb111, 1, none⟩ = some (.int .i64 t107) ∧ w'.cell? ⟨gb111, 2, none⟩ = some (.int .i64 t108) ∧ w'.cell? ⟨gb111, 3, none⟩ = some (.string t109) ∧ w'.cell? (ad113.add ((x8_2).toNat * 4)) = some (.string ((qd x5_1 x8_2).f0.f0)) ∧ w'.cell? ⟨(ad113.add ((x8_2).toNat * 4)).block, (ad113.add ((x8_2).toNat * 4)).off + 1, none⟩ = some (.int .i64 ((qd x5_1 x8_2).f0.f1)) ∧ w'.cell? ⟨(ad113.add ((x8_2).toNat * 4)).block, (ad113.add ((x8_2).toNat * 4)).off + 2, none⟩ = some (.int .i64 ((qd x5_1 x8_2).f0.f2)) ∧ w'.cell? ⟨(ad113.add ((x8_2).toNat * 4)).block, (ad113.add ((x8_2).toNat * 4)).off + 3, none⟩ = some (.string ((qd x5_1 x8_2).f1))) (ds := []) bq3 (by kernel_rfl) rfl rfl ⟨(qf BK111.out 0).trans rfl, (qf BK111.out 1).trans rfl, (qf BK111.out 2).trans rfl, (qf BK111.out 3).trans rfl, hx115_0, hx115_1, hx115_2, hx115_3⟩ (fun hHeld => ?_); refine with_tabW spec_l1Rd_entries.tab10 spec_l1Rd_entries.bits10 (fun HT_ HW_ => ?_)
               generalize w37.drew = w38 at HO_5 BK111 HI0 HK HB hx115_0 hx115_1 hx115_2 hx115_3 hHeld ⊢
               refine pure_ (i := 0) (N := some 41) (v := ?_) (a' := ?_) bq7 rfl rfl (qt HT_.out (by kernel_rfl)) (fun _ _ _ h => h) (Or.inl ⟨by rfl, ?_⟩) ?_ ?_
               rotate_left
               ·intro w'
                go_simp
                with_reducible rfl
               rotate_left
               ·simp only [Act.put, sq1, sq2, sq3, i64_w, i32_w]
                rfl
               refine pure_ (i := 1) (N := some 42) (v := ?_) (a' := ?_) bq11 rfl rfl (qt HT_.out (by kernel_rfl)) (fun _ _ _ h => h) (Or.inl ⟨by rfl, ?_⟩) ?_ ?_
               rotate_left
               ·intro w'
                go_simp
                with_reducible rfl
               rotate_left
               ·simp only [Act.put, sq1, sq2, sq3, i64_w, i32_w]
                rfl
               refine pure_ (i := 2) (N := some 43) (v := ?_) (a' := ?_) bq15 rfl rfl (qt HT_.out (by kernel_rfl)) (fun _ _ _ h => h) (Or.inl ⟨by rfl, ?_⟩) ?_ ?_
               rotate_left
               ·intro w'
                go_simp
                with_reducible rfl
               rotate_left
               ·simp only [Act.put, sq1, sq2, sq3, i64_w, i32_w]
                rfl
               refine pure_ (i := 3) (N := some 44) (v := ?_) (a' := ?_) bq19 rfl rfl (qt HT_.out (by kernel_rfl)) (fun _ _ _ h => h) (Or.inl ⟨by rfl, ?_⟩) ?_ ?_
               rotate_left
               ·intro w'
                go_simp
                with_reducible rfl
               rotate_left
               ·simp only [Act.put, sq1, sq2, sq3, i64_w, i32_w]
                rfl
               refine pure_ (i := 4) (N := some 45) (v := ?_) (a' := ?_) bq23 rfl rfl (qt HT_.out (by kernel_rfl)) (fun _ _ _ h => h) (Or.inl ⟨by rfl, ?_⟩) ?_ ?_
               rotate_left
               ·intro w'
                go_simp
                with_reducible rfl
               rotate_left
               ·simp only [Act.put, sq1, sq2, sq3, i64_w, i32_w]
                rfl
               refine pure_ (i := 5) (N := some 46) (v := ?_) (a' := ?_) bq27 rfl rfl (qt HT_.out (by kernel_rfl)) (fun _ _ _ h => h) (Or.inl ⟨by rfl, ?_⟩) ?_ ?_
               rotate_left
               ·intro w'
                go_simp
                with_reducible rfl
               rotate_left
               ·simp only [Act.put, sq1, sq2, sq3, i64_w, i32_w]
                rfl
               refine pure_ (i := 6) (N := some 47) (v := ?_) (a' := ?_) bq31 rfl rfl (qt HT_.out (by kernel_rfl)) (fun _ _ _ h => h) (Or.inl ⟨by rfl, ?_⟩) ?_ ?_
               rotate_left
               ·intro w'
                go_simp
                with_reducible rfl
               rotate_left
               ·simp only [Act.put, sq1, sq2, sq3, i64_w, i32_w]
                rfl
               refine pure_ (i := 7) (N := some 48) (v := ?_) (a' := ?_) bq35 rfl rfl (qt HT_.out (by kernel_rfl)) (fun _ _ _ h => h) (Or.inl ⟨by rfl, ?_⟩) ?_ ?_
               rotate_left
               ·intro w'
                go_simp
                with_reducible rfl
               rotate_left
               ·simp only [Act.put, sq1, sq2, sq3, i64_w, i32_w]
                rfl
               refine pure_ (i := 8) (N := some 49) (v := ?_) (a' := ?_) bq39 rfl rfl (qt HT_.out (by kernel_rfl)) (fun _ _ _ h => h) (Or.inl ⟨by rfl, ?_⟩) ?_ ?_
               rotate_left
               ·intro w'
                go_simp
                with_reducible rfl
               rotate_left
               ·simp only [Act.put, sq1, sq2, sq3, i64_w, i32_w]
                rfl
               refine pure_ (i := 10) (N := some 51) (v := ?_) (a' := ?_) bq41 rfl rfl (qt HT_.out (by kernel_rfl)) (fun _ _ _ h => h) (Or.inl ⟨by rfl, ?_⟩) ?_ ?_
               rotate_left
               ·intro w'
                go_simp
                with_reducible rfl
               rotate_left
               ·simp only [Act.put, sq1, sq2, sq3, i64_w, i32_w]
                rfl
               refine take_ (i := 9) (N := some 50) (v := ?_) (a' := ?_) bq47 rfl rfl (take_ofW HT_.out HW_.out (by kernel_rfl)) (fun _ _ _ h => h) (Or.inl ⟨by rfl, ?_⟩) hHeld ?_ ?_
               rotate_left
               ·rintro w' ⟨s0, s1, s2, s3, s4, s5, s6, s7⟩
                go_simp
                with_reducible rfl
               rotate_left
               ·simp only [Act.put, sq1, sq2, sq3, i64_w, i32_w]
                rfl
               refine take_ (i := 11) (N := some 52) (v := ?_) (a' := ?_) bq51 rfl rfl (take_ofW HT_.out HW_.out (by kernel_rfl)) (fun _ _ _ h => h) (Or.inl ⟨by rfl, ?_⟩) hHeld ?_ ?_
               rotate_left
               ·rintro w' ⟨s0, s1, s2, s3, s4, s5, s6, s7⟩
                go_simp
                with_reducible rfl
               rotate_left
               ·simp only [Act.put, sq1, sq2, sq3, i64_w, i32_w]
                rfl
               refine pure_ (i := 12) (N := some 53) (v := ?_) (a' := ?_) bq56 rfl rfl (qt HT_.out (by kernel_rfl)) (fun _ _ _ h => h) (Or.inl ⟨by rfl, ?_⟩) ?_ ?_
               rotate_left
               ·intro w'
                go_simp
                with_reducible rfl
               rotate_left
               ·simp only [Act.put, sq1, sq2, sq3, i64_w, i32_w]
                rfl
               refine pure_ (i := 13) (N := some 54) (v := ?_) (a' := ?_) bq81 rfl rfl (qt HT_.out (by kernel_rfl)) (fun _ _ _ h => h) (Or.inl ⟨by rfl, ?_⟩) ?_ ?_
               rotate_left
               ·intro w'
                go_simp
                with_reducible rfl
               rotate_left
               ·simp only [Act.put, sq1, sq2, sq3, i64_w, i32_w]
                rfl
               refine done_ (done_of HT_.out (by kernel_rfl)) ?_
               try go_wp2_with (first | ((with_reducible refine qz (N := 55) rfl ?_); refine Kd.R_lit k64 _ 64 ?hg (N := 55) ?hd (xs := ([] : List (S64))) (inner := []) (ok := fun _ => True) (okp := fun _ => True) ?hr ?hp (fun _ hk => hk) trivial (Below.refl _ _) (Nat.le_refl _) (by simp) ?_; (case hd => rfl); (case hg => rfl); (case hr => first | (go_simp; done) | (go_simp; rfl)); (case hp => exact (Reps.none _ _)); intro v117 w39 ho40 hb hg_ hnew_; clear hg_ hnew_; (first | rw [← Ny116.out] at ho40 | (simp only [Int.reduceToNat] at ho40; rw [← Ny116.out] at ho40)); have HO118 := Qz.mk (Kd.R_lower (Kd.R_newB (Kd.R_new' ho40 (Kd.R_lt yq94)) (g := gb111) (o := .cells #[.string t106, .int .i64 t107, .int .i64 t108, .string t109] 64 (0, 0)) yq99) (qg1 (w := w) (g := g) (row := none) yq95)); replace HO_5 := Qz.mk (Kd.R_elder' yq94 (Kd.R_base ho40) hb); replace BK111 := Qz.mk (qf1 (g := gb111) (o := .cells #[.string t106, .int .i64 t107, .int .i64 t108, .string t109] 64 (0, 0)) yq99 hb); replace HK := Qz.mk (KeepBut.trans yq95 (KeepBut.of_below hb g none) (.inl rfl)); replace HB := Qz.mk (qm yq97 hb); replace HI0 := Qz.mk (IsS178.below yq96 hb); clear hb ho40; have q41 : (x8_2 : Int) ≤ ((x5_1.length : Int) : Int) := of_decide_eq_true yq102; obtain ⟨i041, hi041, _, hsz41, _⟩ := info_parts info64; have hroom41 : x5_1.length ≤ co36 := (Kd.R_reads' HO_5.out).2.1; have hC41 : Kd.C k64 _ (some ad113) x5_1.length x5_1 := (Kd.R_reads' HO_5.out).2.2; have hcut41 := cut_to (P := Try.prog) 26 64 .i64 Try.underlying26 hi041 (some ad113) x5_1.length co36 x8_2 (of_decide_eq_true yq102) q41 hroom41; have hr41 := Kd.C_take (m := (x8_2 : Int).toNat) hC41 (by omega); have hy41 : y119.length = (x8_2 : Int).toNat := (by rw [Ny119.out, List.length_take]; omega); rw [← Ny119.out] at hr41; rw [← hy41] at hcut41; have HR122 := Qz.mk hr41; have HC122 := Qz.mk (show y119.length ≤ co36 from by omega); clear hr41 hC41 hroom41 hi041 hsz41; have KY41 := Qz.mk hy41; clear hy41; have KL41 := Qz.mk (show (x8_2 : Int).toNat ≤ x5_1.length from by omega); replace q41 := eq_true q41) | ((with_reducible refine gate_builtin (b := .append) (xs := #[.tmp 55, .tmp 58]) rfl ?_); at_builtin; refine Kd.R_append_rows k64 w.heap.size rfl (.tmp 55) (.tmp 58) 26 64 (.agg #[(.string ⟨#[]⟩), (.int .i64 0), (.int .i64 0), (.string ⟨#[]⟩)]) 48 rfl Try.underlying26 info64 rfl (by decide) (by omega) v117 y116 y119 _ _ _ (fun k_ => some k_ ≠ (.slice (some ad113) x5_1.length co36 : Value).ownBlock ∧ k_ ≠ gb111) (fun _ => False) rfl rfl ?aO ?aR (fun _ _ h => h) (fun _ h => h.elim) ?aF (Below.refl _ _) ?aS ?aL ?_; (case aR => repeat (first | exact (by repeat (first | (with_reducible exact HR122.out) | (with_reducible refine Kd.C_alloc ?_ _) | (with_reducible refine Kd.C_drewN ?_ _) | (with_reducible refine Kd.C_drew ?_) | exact HR122.out)) | (with_reducible refine Kd.C_alloc ?_ _) | (with_reducible refine Kd.C_drewN ?_ _) | (with_reducible refine Kd.C_drew ?_))); (case aF => exact (fun k_ hk => ⟨Kd.fresh' (Kd.R_lt yq94) k_ hk, Kd.freshB (g := gb111) (o := .cells #[.string t106, .int .i64 t107, .int .i64 t108, .string t109] 64 (0, 0)) yq99 k_ hk⟩)); (case aO => exact (by (with_reducible repeat (first | apply Kd.R_alloc | apply Kd.R_drewN | apply Kd.R_drew)); exact Kd.R_mono HO118.out (fun _ hk => ⟨hk.1.2, hk.2⟩))); (case aS => exact (qg1 (w := w) (g := g) (row := none) yq95)); (case aL => have := LMc30.out; omega); intro v124 w42 ho hb hg hat; rw [← Ny123.out] at ho; have n0_ := Qz.mk (Kd.R_after (ok := (fun k_ => k_ ≠ gb111)) yq94 hg hat); have n1_ := Qz.mk (blk_grown (g := gb111) (o := .cells #[.string t106, .int .i64 t107, .int .i64 t108, .string t109] 64 (0, 0)) yq99 hg (Kd.R_away HO118.out (fun _ hk => hk.2))); have n2_ := Qz.mk (IsS178.grown yq96 hg (IsS178.own_ne HI0.out HO118.out (by decide))); have n3_ := Qz.mk (below_weaken yq97 HL.out hb); have n4_ := Qz.mk (KeepBut.trans yq95 (KeepBut.of_grown hg g) (Kd.R_base2 HO118.out)); have n5_ := Qz.mk ((show Kd.C k64 w42 (some ad113) y119.length y119 from by rw [Ny119.out]; exact Kd.C_take (m := (x8_2 : Int).toNat) ((Kd.R_reads' (Kd.R_after (ok := (fun k_ => k_ ≠ gb111)) yq94 hg hat)).2.2) KL41.out)); have n6_ := Qz.mk (ho); clear HO_5; clear BK111; clear HI0; clear HB; clear HK; clear HR122; clear HO118; have HO_5 := n0_; have BK111 := n1_; have HI0 := n2_; have HB := n3_; have HK := n4_; have HR122 := n5_; have HO125 := n6_; clear n0_ n1_ n2_ n3_ n4_ n5_ n6_; clear ho hb hg hat; have hnb43 := NB111_0.out; have hnc43 := NB0_111.out; have hcz44_0 : w42.cell? ⟨gb111, 0, none⟩ = some (.string t106) := (qf BK111.out 0).trans rfl; have hcz44_1 : w42.cell? ⟨gb111, 1, none⟩ = some (.int .i64 t107) := (qf BK111.out 1).trans rfl; have hcz44_2 : w42.cell? ⟨gb111, 2, none⟩ = some (.int .i64 t108) := (qf BK111.out 2).trans rfl; have hcz44_3 : w42.cell? ⟨gb111, 3, none⟩ = some (.string t109) := (qf BK111.out 3).trans rfl; have hfz44_0 := qg BK111.out 0; have hfz44_1 := qg BK111.out 1; have hfz44_2 := qg BK111.out 2; have hfz44_3 := qg BK111.out 3) | ((with_reducible refine gate_builtin (b := .append) (xs := #[.tmp 60, .tmp 62]) rfl ?_); at_builtin; refine Kd.R_append k64 w.heap.size rfl (.tmp 60) (.tmp 62) 26 64 (.agg #[(.string ⟨#[]⟩), (.int .i64 0), (.int .i64 0), (.string ⟨#[]⟩)]) 48 rfl Try.underlying26 info64 rfl (by decide) (by omega) v124 y123 (⟨(⟨t106, t107, t108⟩ : S35), t109⟩ : S64) [.string t106, .int .i64 t107, .int .i64 t108, .string t109] (fun k_ => some k_ ≠ (.slice (some ad113) x5_1.length co36 : Value).ownBlock ∧ k_ ≠ gb111) (fun _ => False) rfl rfl ?aP (fun _ hk => hk.elim) ?aF ?aO (Below.refl _ _) ?aS ?aL ?_; (case aP => exact k64_mkM _ _ _ (⟨(⟨t106, t107, t108⟩ : S35), t109⟩ : S64)); (case aF => exact (fun k_ hk => ⟨Kd.fresh' (Kd.R_lt yq94) k_ hk, Kd.freshB (g := gb111) (o := .cells #[.string t106, .int .i64 t107, .int .i64 t108, .string t109] 64 (0, 0)) yq99 k_ hk⟩)); (case aO => exact (by (with_reducible repeat (first | apply Kd.R_alloc | apply Kd.R_drewN | apply Kd.R_drew)); exact HO125.out)); (case aS => exact (qg1 (w := w) (g := g) (row := none) yq95)); (case aL => have := LMc31.out; omega); intro v127 w45 ho hb hg hat; rw [← Ny126.out] at ho; have n0_ := Qz.mk (Kd.R_after (ok := (fun k_ => k_ ≠ gb111)) yq94 hg hat); have n1_ := Qz.mk (blk_grown (g := gb111) (o := .cells #[.string t106, .int .i64 t107, .int .i64 t108, .string t109] 64 (0, 0)) yq99 hg (Kd.R_away HO125.out (fun _ hk => hk.2))); have n2_ := Qz.mk (IsS178.grown yq96 hg (IsS178.own_ne HI0.out HO125.out (by decide))); have n3_ := Qz.mk (below_weaken yq97 HL.out hb); have n4_ := Qz.mk (KeepBut.trans yq95 (KeepBut.of_grown hg g) (Kd.R_base2 HO125.out)); have n5_ := Qz.mk ((show Kd.C k64 w45 (some ad113) y119.length y119 from by rw [Ny119.out]; exact Kd.C_take (m := (x8_2 : Int).toNat) ((Kd.R_reads' (Kd.R_after (ok := (fun k_ => k_ ≠ gb111)) yq94 hg hat)).2.2) KL41.out)); have n6_ := Qz.mk (ho); clear HO_5; clear BK111; clear HI0; clear HB; clear HK; clear HR122; clear HO125; have HO_5 := n0_; have BK111 := n1_; have HI0 := n2_; have HB := n3_; have HK := n4_; have HR122 := n5_; have HO128 := n6_; clear n0_ n1_ n2_ n3_ n4_ n5_ n6_; clear ho hb hg hat; have q46 : (x8_2 : Int) ≤ ((x5_1.length : Int) : Int) := of_decide_eq_true yq102; obtain ⟨i046, hi046, _, hsz46, _⟩ := info_parts info64; have hroom46 : x5_1.length ≤ co36 := (Kd.R_reads' HO_5.out).2.1; have hC46 : Kd.C k64 _ (some ad113) x5_1.length x5_1 := (Kd.R_reads' HO_5.out).2.2; have q046 : (0 : Int) ≤ (x8_2 : Int) := of_decide_eq_true yq102; have hcut46 := cut_from (P := Try.prog) 26 64 .i64 Try.underlying26 hi046 4 hsz46 (some ad113) x5_1.length co36 x8_2 q046 q46; have hr46 := Kd.C_drop (m := (x8_2 : Int).toNat) (c := co36) hC46 (by omega) hroom46; obtain ⟨A46, hA46⟩ : ∃ A1, A1 = (if co36 = (x8_2 : Int).toNat then (some ad113) else ((some ad113) : Option Addr).map (·.add ((x8_2 : Int).toNat * 4))) := ⟨_, rfl⟩; obtain ⟨c46, hc46⟩ : ∃ c1, c1 = co36 - (x8_2 : Int).toNat := ⟨_, rfl⟩; have hy46 : y129.length = x5_1.length - (x8_2 : Int).toNat := (by rw [Ny129.out, List.length_drop] <;> omega); rw [show (x5_1).drop (x8_2 : Int).toNat = y129 from Ny129.out.symm] at hr46; replace hr46 : Kd.C k64 _ A46 y129.length y129 := (by rw [hA46]; exact hr46); rw [← hy46, ← hA46, ← hc46] at hcut46; have HR132 := Qz.mk hr46; have HC132 := Qz.mk (show y129.length ≤ c46 from by rw [hy46, hc46]; exact Nat.sub_le_sub_right hroom46 _); clear hr46 hC46 hroom46 hi046 hsz46 hc46; have KY46 := Qz.mk hy46; have KA46 := Qz.mk hA46; clear hy46 hA46; have KL46 := Qz.mk (show (x8_2 : Int).toNat ≤ x5_1.length from by omega); replace q46 := eq_true q46) | ((with_reducible refine gate_builtin (b := .append) (xs := #[.tmp 64, .tmp 67]) rfl ?_); at_builtin; refine Kd.R_append_rows k64 w.heap.size rfl (.tmp 64) (.tmp 67) 26 64 (.agg #[(.string ⟨#[]⟩), (.int .i64 0), (.int .i64 0), (.string ⟨#[]⟩)]) 48 rfl Try.underlying26 info64 rfl (by decide) (by omega) v127 y126 y129 _ _ _ (fun k_ => some k_ ≠ (.slice (some ad113) x5_1.length co36 : Value).ownBlock ∧ k_ ≠ gb111) (fun _ => False) rfl rfl ?aO ?aR (fun _ _ h => h) (fun _ h => h.elim) ?aF (Below.refl _ _) ?aS ?aL ?_; (case aR => repeat (first | exact (by repeat (first | (with_reducible exact HR132.out) | (with_reducible refine Kd.C_alloc ?_ _) | (with_reducible refine Kd.C_drewN ?_ _) | (with_reducible refine Kd.C_drew ?_) | exact HR132.out)) | (with_reducible refine Kd.C_alloc ?_ _) | (with_reducible refine Kd.C_drewN ?_ _) | (with_reducible refine Kd.C_drew ?_))); (case aF => exact (fun k_ hk => ⟨Kd.fresh' (Kd.R_lt yq94) k_ hk, Kd.freshB (g := gb111) (o := .cells #[.string t106, .int .i64 t107, .int .i64 t108, .string t109] 64 (0, 0)) yq99 k_ hk⟩)); (case aO => exact (by (with_reducible repeat (first | apply Kd.R_alloc | apply Kd.R_drewN | apply Kd.R_drew)); exact HO128.out)); (case aS => exact (qg1 (w := w) (g := g) (row := none) yq95)); (case aL => have := LMc34.out; omega); intro v134 w47 ho hb hg hat; rw [← Ny133.out] at ho; have n0_ := Qz.mk (Kd.R_after (ok := (fun k_ => k_ ≠ gb111)) yq94 hg hat); have n1_ := Qz.mk (blk_grown (g := gb111) (o := .cells #[.string t106, .int .i64 t107, .int .i64 t108, .string t109] 64 (0, 0)) yq99 hg (Kd.R_away HO128.out (fun _ hk => hk.2))); have n2_ := Qz.mk (IsS178.grown yq96 hg (IsS178.own_ne HI0.out HO128.out (by decide))); have n3_ := Qz.mk (below_weaken yq97 HL.out hb); have n4_ := Qz.mk (KeepBut.trans yq95 (KeepBut.of_grown hg g) (Kd.R_base2 HO128.out)); have n5_ := Qz.mk ((show Kd.C k64 w47 (some ad113) y119.length y119 from by rw [Ny119.out]; exact Kd.C_take (m := (x8_2 : Int).toNat) ((Kd.R_reads' (Kd.R_after (ok := (fun k_ => k_ ≠ gb111)) yq94 hg hat)).2.2) KL41.out)); have n6_ := Qz.mk ((show Kd.C k64 w47 A46 y129.length y129 from by rw [Ny129.out, KA46.out]; exact Kd.C_drop (m := (x8_2 : Int).toNat) (c := co36) ((Kd.R_reads' (Kd.R_after (ok := (fun k_ => k_ ≠ gb111)) yq94 hg hat)).2.2) KL46.out ((Kd.R_reads' (Kd.R_after (ok := (fun k_ => k_ ≠ gb111)) yq94 hg hat)).2.1))); have n7_ := Qz.mk (ho); clear HO_5; clear BK111; clear HI0; clear HB; clear HK; clear HR122; clear HR132; clear HO128; have HO_5 := n0_; have BK111 := n1_; have HI0 := n2_; have HB := n3_; have HK := n4_; have HR122 := n5_; have HR132 := n6_; have HO135 := n7_; clear n0_ n1_ n2_ n3_ n4_ n5_ n6_ n7_; clear ho hb hg hat))
               go_roundg k2
               case measure => have := HK1.out; have := HK2.out; omega
               case rel => exact ⟨(y133), (wrap64 (x6_1 - 1)), (t110), yq106, H', ⟨by have := HK1.out; have := HK2.out; omega⟩, ⟨by (with_reducible repeat (first | apply Kd.R_alloc | apply Kd.R_drewN | apply Kd.R_drew)); exact Kd.R_mono HO135.out (fun _ hk => trivial)⟩, ⟨by repeat (first | (with_reducible first | exact HI0.out | apply IsS178.alloc | apply IsS178.drewN | apply IsS178.drew | apply IsS178.set_1 | apply (fun h_ => IsS178.far h_ NB0_111.out _)) | exact HI0.out)⟩, ⟨by repeat (first | (with_reducible first | exact HK.out | apply KeepBut.set_ | apply qk | apply qn | apply ql | refine qw ?_ GW111.out _) | exact HK.out)⟩, ⟨by repeat (first | (with_reducible first | exact HB.out | apply qc | apply qa | apply qb | refine qe ?_ (IsS178.ge HI0.out) | refine qe ?_ GE111.out) | exact HB.out)⟩⟩
              ·rw [if_neg c34] at H
               exact absurd H (by simp)
             ·rw [if_neg c31] at H
              exact absurd H (by simp)
            ·rw [if_neg c30] at H
             exact absurd H (by simp)
           ·rw [if_neg c29] at H
            exact absurd H (by simp)
        ·rw [if_neg c17] at H
         exact absurd H (by simp)
       ·rw [if_neg c16] at H
        have c16b0 : decide (x8_2 < (x5_1.length : Int)) = false := decide_eq_false c16
        clear c16
        obtain ⟨y136, hy136⟩ : ∃ y_ : List (S64), y_ = (([] : List (S64))) := ⟨_, rfl⟩
        replace H : (if 0 ≤ x8_2 then (if x8_2 ≤ (x5_1.length : Int) then ((some (x5_1.take (x8_2 : Int).toNat : List (S64))).bind fun y139 => (if y136.length + y139.length < 2932031007402 then ((some (y136 ++ y139 : List (S64))).bind fun y143 => (if y143.length < 2932031007402 then ((some (y143 ++ [(⟨(⟨t106, t107, t108⟩ : S35), t109⟩ : S64)] : List (S64))).bind fun y146 => ((some (x5_1.drop (x8_2 : Int).toNat : List (S64))).bind fun y149 => (if y146.length + y149.length < 2932031007402 then (spec_l1Rd_entries.l0 k2 (y146 ++ y149) (wrap64 (x6_1 - 1)) s0_0 t110) else (none)))) else (none))) else (none))) else (none)) else (none)) = some (r1, r2) := by first | (rw [hy136]; with_reducible exact H) | (have H2_ := (Option.bind_some _ _).symm.trans H; rw [hy136]; with_reducible exact H2_) | (have H2_ := (Option.bind_some _ _).symm.trans H; with_reducible exact H2_) | with_reducible exact H | (rw [hy136]; exact H) | exact H
        have Ny136 := Qz.mk hy136
        clear hy136
        by_cases c48 : 0 ≤ x8_2
        ·rw [if_pos c48] at H
         have c48b0 := eq_true c48
         have c48b1 : decide (0 ≤ x8_2) = true := decide_eq_true c48
         clear c48
         by_cases c49 : x8_2 ≤ (x5_1.length : Int)
         ·rw [if_pos c49] at H
          have c49b0 := eq_true c49
          have c49b1 : decide (x8_2 ≤ (x5_1.length : Int)) = true := decide_eq_true c49
          clear c49
          obtain ⟨y139, hy139⟩ : ∃ y_ : List (S64), y_ = (x5_1.take (x8_2 : Int).toNat) := ⟨_, rfl⟩
          replace H : (if y136.length + y139.length < 2932031007402 then ((some (y136 ++ y139 : List (S64))).bind fun y143 => (if y143.length < 2932031007402 then ((some (y143 ++ [(⟨(⟨t106, t107, t108⟩ : S35), t109⟩ : S64)] : List (S64))).bind fun y146 => ((some (x5_1.drop (x8_2 : Int).toNat : List (S64))).bind fun y149 => (if y146.length + y149.length < 2932031007402 then (spec_l1Rd_entries.l0 k2 (y146 ++ y149) (wrap64 (x6_1 - 1)) s0_0 t110) else (none)))) else (none))) else (none)) = some (r1, r2) := by first | (rw [hy139]; with_reducible exact H) | (have H2_ := (Option.bind_some _ _).symm.trans H; rw [hy139]; with_reducible exact H2_) | (have H2_ := (Option.bind_some _ _).symm.trans H; with_reducible exact H2_) | with_reducible exact H | (rw [hy139]; exact H) | exact H
          have Ny139 := Qz.mk hy139
          clear hy139
          by_cases c50 : y136.length + y139.length < 2932031007402
          ·rw [if_pos c50] at H
           have LMc50 := Qz.mk c50
           clear c50
           obtain ⟨y143, hy143⟩ : ∃ y_ : List (S64), y_ = (y136 ++ y139) := ⟨_, rfl⟩
           replace H : (if y143.length < 2932031007402 then ((some (y143 ++ [(⟨(⟨t106, t107, t108⟩ : S35), t109⟩ : S64)] : List (S64))).bind fun y146 => ((some (x5_1.drop (x8_2 : Int).toNat : List (S64))).bind fun y149 => (if y146.length + y149.length < 2932031007402 then (spec_l1Rd_entries.l0 k2 (y146 ++ y149) (wrap64 (x6_1 - 1)) s0_0 t110) else (none)))) else (none)) = some (r1, r2) := by first | (rw [hy143]; with_reducible exact H) | (have H2_ := (Option.bind_some _ _).symm.trans H; rw [hy143]; with_reducible exact H2_) | (have H2_ := (Option.bind_some _ _).symm.trans H; with_reducible exact H2_) | with_reducible exact H | (rw [hy143]; exact H) | exact H
           have Ny143 := Qz.mk hy143
           clear hy143
           by_cases c51 : y143.length < 2932031007402
           ·rw [if_pos c51] at H
            have LMc51 := Qz.mk c51
            clear c51
            obtain ⟨y146, hy146⟩ : ∃ y_ : List (S64), y_ = (y143 ++ [(⟨(⟨t106, t107, t108⟩ : S35), t109⟩ : S64)]) := ⟨_, rfl⟩
            replace H : ((some (x5_1.drop (x8_2 : Int).toNat : List (S64))).bind fun y149 => (if y146.length + y149.length < 2932031007402 then (spec_l1Rd_entries.l0 k2 (y146 ++ y149) (wrap64 (x6_1 - 1)) s0_0 t110) else (none))) = some (r1, r2) := by first | (rw [hy146]; with_reducible exact H) | (have H2_ := (Option.bind_some _ _).symm.trans H; rw [hy146]; with_reducible exact H2_) | (have H2_ := (Option.bind_some _ _).symm.trans H; with_reducible exact H2_) | with_reducible exact H | (rw [hy146]; exact H) | exact H
            have Ny146 := Qz.mk hy146
            clear hy146
            have c52b0 := eq_true (of_decide_eq_true yq102 : 0 ≤ x8_2)
            have c53b0 := eq_true (of_decide_eq_true yq102 : x8_2 ≤ (x5_1.length : Int))
            obtain ⟨y149, hy149⟩ : ∃ y_ : List (S64), y_ = (x5_1.drop (x8_2 : Int).toNat) := ⟨_, rfl⟩
            replace H : (if y146.length + y149.length < 2932031007402 then (spec_l1Rd_entries.l0 k2 (y146 ++ y149) (wrap64 (x6_1 - 1)) s0_0 t110) else (none)) = some (r1, r2) := by first | (rw [hy149]; with_reducible exact H) | (have H2_ := (Option.bind_some _ _).symm.trans H; rw [hy149]; with_reducible exact H2_) | (have H2_ := (Option.bind_some _ _).symm.trans H; with_reducible exact H2_) | with_reducible exact H | (rw [hy149]; exact H) | exact H
            have Ny149 := Qz.mk hy149
            clear hy149
            by_cases c54 : y146.length + y149.length < 2932031007402
            ·rw [if_pos c54] at H
             have LMc54 := Qz.mk c54
             clear c54
             obtain ⟨y153, hy153⟩ : ∃ y_ : List (S64), y_ = (y146 ++ y149) := ⟨_, rfl⟩
             replace H : (spec_l1Rd_entries.l0 k2 y153 (wrap64 (x6_1 - 1)) s0_0 t110) = some (r1, r2) := by first | (rw [hy153]; with_reducible exact H) | (have H2_ := (Option.bind_some _ _).symm.trans H; rw [hy153]; with_reducible exact H2_) | (have H2_ := (Option.bind_some _ _).symm.trans H; with_reducible exact H2_) | with_reducible exact H | (rw [hy153]; exact H) | exact H
             have Ny153 := Qz.mk hy153
             clear hy153
             have H' := Qz.mk H
             clear H
             try go_wp2
             replace HO_5 := Qz.mk (Kd.R_drew HO_5.out)
             replace BK111 := Qz.mk (qj BK111.out)
             replace HI0 := Qz.mk (IsS178.drew HI0.out)
             replace HK := Qz.mk (qn HK.out)
             replace HB := Qz.mk (qb HB.out)
             obtain ⟨Ao56, co56, eo56⟩ := Kd.R_slice HO_5.out
             (first | subst eo56 | (injection eo56 with f1_ f2_ f3_; have f4_ := f1_.symm; have f5_ := f3_.symm; clear f1_ f2_ f3_; subst f4_; subst f5_))
             refine start_ (n := 15) (S := fun w' => True) (ds := []) bq2 (by kernel_rfl) rfl rfl trivial (fun hHeld => ?_); refine with_tabW spec_l1Rd_entries.tab8 spec_l1Rd_entries.bits8 (fun HT_ HW_ => ?_)
             generalize wr.drew = w55 at HO_5 BK111 HI0 HK HB hHeld ⊢
             refine pure_ (i := 0) (N := some 24) (v := ?_) (a' := ?_) bq6 rfl rfl (qt HT_.out (by kernel_rfl)) (fun _ _ _ h => h) (Or.inl ⟨by rfl, ?_⟩) ?_ ?_
             rotate_left
             ·intro w'
              go_simp
              with_reducible rfl
             rotate_left
             ·simp only [Act.put, sq1, sq2, sq3, i64_w, i32_w]
              rfl
             refine pure_ (i := 1) (N := some 25) (v := ?_) (a' := ?_) bq10 rfl rfl (qt HT_.out (by kernel_rfl)) (fun _ _ _ h => h) (Or.inl ⟨by rfl, ?_⟩) ?_ ?_
             rotate_left
             ·intro w'
              go_simp
              with_reducible rfl
             rotate_left
             ·simp only [Act.put, sq1, sq2, sq3, i64_w, i32_w]
              rfl
             refine pure_ (i := 2) (N := some 26) (v := ?_) (a' := ?_) bq14 rfl rfl (qt HT_.out (by kernel_rfl)) (fun _ _ _ h => h) (Or.inl ⟨by rfl, ?_⟩) ?_ ?_
             rotate_left
             ·intro w'
              go_simp
              with_reducible rfl
             rotate_left
             ·simp only [Act.put, sq1, sq2, sq3, i64_w, i32_w]
              rfl
             refine pure_ (i := 3) (N := some 27) (v := ?_) (a' := ?_) bq18 rfl rfl (qt HT_.out (by kernel_rfl)) (fun _ _ _ h => h) (Or.inl ⟨by rfl, ?_⟩) ?_ ?_
             rotate_left
             ·intro w'
              go_simp
              with_reducible rfl
             rotate_left
             ·simp only [Act.put, sq1, sq2, sq3, i64_w, i32_w]
              rfl
             refine pure_ (i := 4) (N := some 28) (v := ?_) (a' := ?_) bq22 rfl rfl (qt HT_.out (by kernel_rfl)) (fun _ _ _ h => h) (Or.inl ⟨by rfl, ?_⟩) ?_ ?_
             rotate_left
             ·intro w'
              go_simp
              with_reducible rfl
             rotate_left
             ·simp only [Act.put, sq1, sq2, sq3, i64_w, i32_w]
              rfl
             refine pure_ (i := 5) (N := some 29) (v := undef) (a' := ?_) bq26 rfl rfl (qt HT_.out (by kernel_rfl)) (fun _ _ _ h => h) (Or.inr ⟨by rfl, rfl⟩) ?_ ?_
             rotate_left
             ·simp only [Act.put, sq1, sq2, sq3, i64_w, i32_w]
              rfl
             refine pure_ (i := 6) (N := some 30) (v := undef) (a' := ?_) bq30 rfl rfl (qt HT_.out (by kernel_rfl)) (fun _ _ _ h => h) (Or.inr ⟨by rfl, rfl⟩) ?_ ?_
             rotate_left
             ·simp only [Act.put, sq1, sq2, sq3, i64_w, i32_w]
              rfl
             refine pure_ (i := 7) (N := some 31) (v := undef) (a' := ?_) bq34 rfl rfl (qt HT_.out (by kernel_rfl)) (fun _ _ _ h => h) (Or.inr ⟨by rfl, rfl⟩) ?_ ?_
             rotate_left
             ·simp only [Act.put, sq1, sq2, sq3, i64_w, i32_w]
              rfl
             refine pure_ (i := 8) (N := some 32) (v := undef) (a' := ?_) bq38 rfl rfl (qt HT_.out (by kernel_rfl)) (fun _ _ _ h => h) (Or.inr ⟨by rfl, rfl⟩) ?_ ?_
             rotate_left
             ·simp only [Act.put, sq1, sq2, sq3, i64_w, i32_w]
              rfl
             refine pure_ (i := 9) (N := some 33) (v := undef) (a' := ?_) #[true, true, true, true, true, true, true, true, true, true, false, false, false, false, false] rfl rfl (qt HT_.out (by kernel_rfl)) (fun _ _ _ h => h) (Or.inr ⟨by rfl, rfl⟩) ?_ ?_
             rotate_left
             ·simp only [Act.put, sq1, sq2, sq3, i64_w, i32_w]
              rfl
             refine pure_ (i := 10) (N := some 34) (v := undef) (a' := ?_) bq46 rfl rfl (qt HT_.out (by kernel_rfl)) (fun _ _ _ h => h) (Or.inr ⟨by rfl, rfl⟩) ?_ ?_
             rotate_left
             ·simp only [Act.put, sq1, sq2, sq3, i64_w, i32_w]
              rfl
             refine pure_ (i := 11) (N := some 35) (v := undef) (a' := ?_) bq50 rfl rfl (qt HT_.out (by kernel_rfl)) (fun _ _ _ h => h) (Or.inr ⟨by rfl, rfl⟩) ?_ ?_
             rotate_left
             ·simp only [Act.put, sq1, sq2, sq3, i64_w, i32_w]
              rfl
             refine pure_ (i := 12) (N := some 36) (v := undef) (a' := ?_) bq55 rfl rfl (qt HT_.out (by kernel_rfl)) (fun _ _ _ h => h) (Or.inr ⟨by rfl, rfl⟩) ?_ ?_
             rotate_left
             ·simp only [Act.put, sq1, sq2, sq3, i64_w, i32_w]
              rfl
             refine pure_ (i := 13) (N := some 37) (v := undef) (a' := ?_) bq59 rfl rfl (qt HT_.out (by kernel_rfl)) (fun _ _ _ h => h) (Or.inr ⟨by rfl, rfl⟩) ?_ ?_
             rotate_left
             ·simp only [Act.put, sq1, sq2, sq3, i64_w, i32_w]
              rfl
             refine pure_ (i := 14) (N := some 38) (v := ?_) (a' := ?_) bq80 rfl rfl (qt HT_.out (by kernel_rfl)) (fun _ _ _ h => h) (Or.inl ⟨by rfl, ?_⟩) ?_ ?_
             rotate_left
             ·intro w'
              go_simp
              with_reducible rfl
             rotate_left
             ·simp only [Act.put, sq1, sq2, sq3, i64_w, i32_w]
              rfl
             refine done_ (done_of HT_.out (by kernel_rfl)) ?_
             try go_wp2
             replace HO_5 := Qz.mk (Kd.R_drew HO_5.out)
             replace BK111 := Qz.mk (qj BK111.out)
             replace HI0 := Qz.mk (IsS178.drew HI0.out)
             replace HK := Qz.mk (qn HK.out)
             replace HB := Qz.mk (qb HB.out)
             refine start_ (n := 14) (S := fun w' => True) (ds := []) bq3 (by kernel_rfl) rfl rfl trivial (fun hHeld => ?_); refine with_tabW spec_l1Rd_entries.tab10 spec_l1Rd_entries.bits10 (fun HT_ HW_ => ?_)
             generalize w55.drew = w57 at HO_5 BK111 HI0 HK HB hHeld ⊢
             refine pure_ (i := 0) (N := some 41) (v := ?_) (a' := ?_) bq7 rfl rfl (qt HT_.out (by kernel_rfl)) (fun _ _ _ h => h) (Or.inl ⟨by rfl, ?_⟩) ?_ ?_
             rotate_left
             ·intro w'
              go_simp
              with_reducible rfl
             rotate_left
             ·simp only [Act.put, sq1, sq2, sq3, i64_w, i32_w]
              rfl
             refine pure_ (i := 1) (N := some 42) (v := ?_) (a' := ?_) bq11 rfl rfl (qt HT_.out (by kernel_rfl)) (fun _ _ _ h => h) (Or.inl ⟨by rfl, ?_⟩) ?_ ?_
             rotate_left
             ·intro w'
              go_simp
              with_reducible rfl
             rotate_left
             ·simp only [Act.put, sq1, sq2, sq3, i64_w, i32_w]
              rfl
             refine pure_ (i := 2) (N := some 43) (v := ?_) (a' := ?_) bq15 rfl rfl (qt HT_.out (by kernel_rfl)) (fun _ _ _ h => h) (Or.inl ⟨by rfl, ?_⟩) ?_ ?_
             rotate_left
             ·intro w'
              go_simp
              with_reducible rfl
             rotate_left
             ·simp only [Act.put, sq1, sq2, sq3, i64_w, i32_w]
              rfl
             refine pure_ (i := 3) (N := some 44) (v := ?_) (a' := ?_) bq19 rfl rfl (qt HT_.out (by kernel_rfl)) (fun _ _ _ h => h) (Or.inl ⟨by rfl, ?_⟩) ?_ ?_
             rotate_left
             ·intro w'
              go_simp
              with_reducible rfl
             rotate_left
             ·simp only [Act.put, sq1, sq2, sq3, i64_w, i32_w]
              rfl
             refine pure_ (i := 4) (N := some 45) (v := ?_) (a' := ?_) bq23 rfl rfl (qt HT_.out (by kernel_rfl)) (fun _ _ _ h => h) (Or.inl ⟨by rfl, ?_⟩) ?_ ?_
             rotate_left
             ·intro w'
              go_simp
              with_reducible rfl
             rotate_left
             ·simp only [Act.put, sq1, sq2, sq3, i64_w, i32_w]
              rfl
             refine pure_ (i := 5) (N := some 46) (v := undef) (a' := ?_) bq27 rfl rfl (qt HT_.out (by kernel_rfl)) (fun _ _ _ h => h) (Or.inr ⟨by rfl, rfl⟩) ?_ ?_
             rotate_left
             ·simp only [Act.put, sq1, sq2, sq3, i64_w, i32_w]
              rfl
             refine pure_ (i := 6) (N := some 47) (v := undef) (a' := ?_) bq31 rfl rfl (qt HT_.out (by kernel_rfl)) (fun _ _ _ h => h) (Or.inr ⟨by rfl, rfl⟩) ?_ ?_
             rotate_left
             ·simp only [Act.put, sq1, sq2, sq3, i64_w, i32_w]
              rfl
             refine pure_ (i := 7) (N := some 48) (v := undef) (a' := ?_) bq35 rfl rfl (qt HT_.out (by kernel_rfl)) (fun _ _ _ h => h) (Or.inr ⟨by rfl, rfl⟩) ?_ ?_
             rotate_left
             ·simp only [Act.put, sq1, sq2, sq3, i64_w, i32_w]
              rfl
             refine pure_ (i := 8) (N := some 49) (v := undef) (a' := ?_) bq39 rfl rfl (qt HT_.out (by kernel_rfl)) (fun _ _ _ h => h) (Or.inr ⟨by rfl, rfl⟩) ?_ ?_
             rotate_left
             ·simp only [Act.put, sq1, sq2, sq3, i64_w, i32_w]
              rfl
             refine pure_ (i := 9) (N := some 50) (v := undef) (a' := ?_) #[true, true, true, true, true, true, true, true, true, true, false, false, false, false] rfl rfl (qt HT_.out (by kernel_rfl)) (fun _ _ _ h => h) (Or.inr ⟨by rfl, rfl⟩) ?_ ?_
             rotate_left
             ·simp only [Act.put, sq1, sq2, sq3, i64_w, i32_w]
              rfl
             refine pure_ (i := 10) (N := some 51) (v := undef) (a' := ?_) bq47 rfl rfl (qt HT_.out (by kernel_rfl)) (fun _ _ _ h => h) (Or.inr ⟨by rfl, rfl⟩) ?_ ?_
             rotate_left
             ·simp only [Act.put, sq1, sq2, sq3, i64_w, i32_w]
              rfl
             refine pure_ (i := 11) (N := some 52) (v := undef) (a' := ?_) bq51 rfl rfl (qt HT_.out (by kernel_rfl)) (fun _ _ _ h => h) (Or.inr ⟨by rfl, rfl⟩) ?_ ?_
             rotate_left
             ·simp only [Act.put, sq1, sq2, sq3, i64_w, i32_w]
              rfl
             refine pure_ (i := 12) (N := some 53) (v := undef) (a' := ?_) bq56 rfl rfl (qt HT_.out (by kernel_rfl)) (fun _ _ _ h => h) (Or.inr ⟨by rfl, rfl⟩) ?_ ?_
             rotate_left
             ·simp only [Act.put, sq1, sq2, sq3, i64_w, i32_w]
              rfl
             refine pure_ (i := 13) (N := some 54) (v := ?_) (a' := ?_) bq81 rfl rfl (qt HT_.out (by kernel_rfl)) (fun _ _ _ h => h) (Or.inl ⟨by rfl, ?_⟩) ?_ ?_
             rotate_left
             ·intro w'
              go_simp
              with_reducible rfl
             rotate_left
             ·simp only [Act.put, sq1, sq2, sq3, i64_w, i32_w]
              rfl
             refine done_ (done_of HT_.out (by kernel_rfl)) ?_
             try go_wp2_with (first | ((with_reducible refine qz (N := 55) rfl ?_); refine Kd.R_lit k64 _ 64 ?hg (N := 55) ?hd (xs := ([] : List (S64))) (inner := []) (ok := fun _ => True) (okp := fun _ => True) ?hr ?hp (fun _ hk => hk) trivial (Below.refl _ _) (Nat.le_refl _) (by simp) ?_; (case hd => rfl); (case hg => rfl); (case hr => first | (go_simp; done) | (go_simp; rfl)); (case hp => exact (Reps.none _ _)); intro v137 w58 ho59 hb hg_ hnew_; clear hg_ hnew_; (first | rw [← Ny136.out] at ho59 | (simp only [Int.reduceToNat] at ho59; rw [← Ny136.out] at ho59)); have HO138 := Qz.mk (Kd.R_lower (Kd.R_newB (Kd.R_new' ho59 (Kd.R_lt yq94)) (g := gb111) (o := .cells #[.string t106, .int .i64 t107, .int .i64 t108, .string t109] 64 (0, 0)) yq99) (qg1 (w := w) (g := g) (row := none) yq95)); replace HO_5 := Qz.mk (Kd.R_elder' yq94 (Kd.R_base ho59) hb); replace BK111 := Qz.mk (qf1 (g := gb111) (o := .cells #[.string t106, .int .i64 t107, .int .i64 t108, .string t109] 64 (0, 0)) yq99 hb); replace HK := Qz.mk (KeepBut.trans yq95 (KeepBut.of_below hb g none) (.inl rfl)); replace HB := Qz.mk (qm yq97 hb); replace HI0 := Qz.mk (IsS178.below yq96 hb); clear hb ho59; have q60 : (x8_2 : Int) ≤ ((x5_1.length : Int) : Int) := of_decide_eq_true yq102; obtain ⟨i060, hi060, _, hsz60, _⟩ := info_parts info64; have hroom60 : x5_1.length ≤ co56 := (Kd.R_reads' HO_5.out).2.1; have hC60 : Kd.C k64 _ Ao56 x5_1.length x5_1 := (Kd.R_reads' HO_5.out).2.2; have hcut60 := cut_to (P := Try.prog) 26 64 .i64 Try.underlying26 hi060 Ao56 x5_1.length co56 x8_2 (of_decide_eq_true yq102) q60 hroom60; have hr60 := Kd.C_take (m := (x8_2 : Int).toNat) hC60 (by omega); have hy60 : y139.length = (x8_2 : Int).toNat := (by rw [Ny139.out, List.length_take]; omega); rw [← Ny139.out] at hr60; rw [← hy60] at hcut60; have HR142 := Qz.mk hr60; have HC142 := Qz.mk (show y139.length ≤ co56 from by omega); clear hr60 hC60 hroom60 hi060 hsz60; have KY60 := Qz.mk hy60; clear hy60; have KL60 := Qz.mk (show (x8_2 : Int).toNat ≤ x5_1.length from by omega); replace q60 := eq_true q60) | ((with_reducible refine gate_builtin (b := .append) (xs := #[.tmp 55, .tmp 58]) rfl ?_); at_builtin; refine Kd.R_append_rows k64 w.heap.size rfl (.tmp 55) (.tmp 58) 26 64 (.agg #[(.string ⟨#[]⟩), (.int .i64 0), (.int .i64 0), (.string ⟨#[]⟩)]) 48 rfl Try.underlying26 info64 rfl (by decide) (by omega) v137 y136 y139 _ _ _ (fun k_ => some k_ ≠ (.slice Ao56 x5_1.length co56 : Value).ownBlock ∧ k_ ≠ gb111) (fun _ => False) rfl rfl ?aO ?aR (fun _ _ h => h) (fun _ h => h.elim) ?aF (Below.refl _ _) ?aS ?aL ?_; (case aR => repeat (first | exact (by repeat (first | (with_reducible exact HR142.out) | (with_reducible refine Kd.C_alloc ?_ _) | (with_reducible refine Kd.C_drewN ?_ _) | (with_reducible refine Kd.C_drew ?_) | exact HR142.out)) | (with_reducible refine Kd.C_alloc ?_ _) | (with_reducible refine Kd.C_drewN ?_ _) | (with_reducible refine Kd.C_drew ?_))); (case aF => exact (fun k_ hk => ⟨Kd.fresh' (Kd.R_lt yq94) k_ hk, Kd.freshB (g := gb111) (o := .cells #[.string t106, .int .i64 t107, .int .i64 t108, .string t109] 64 (0, 0)) yq99 k_ hk⟩)); (case aO => exact (by (with_reducible repeat (first | apply Kd.R_alloc | apply Kd.R_drewN | apply Kd.R_drew)); exact Kd.R_mono HO138.out (fun _ hk => ⟨hk.1.2, hk.2⟩))); (case aS => exact (qg1 (w := w) (g := g) (row := none) yq95)); (case aL => have := LMc50.out; omega); intro v144 w61 ho hb hg hat; rw [← Ny143.out] at ho; have n0_ := Qz.mk (Kd.R_after (ok := (fun k_ => k_ ≠ gb111)) yq94 hg hat); have n1_ := Qz.mk (blk_grown (g := gb111) (o := .cells #[.string t106, .int .i64 t107, .int .i64 t108, .string t109] 64 (0, 0)) yq99 hg (Kd.R_away HO138.out (fun _ hk => hk.2))); have n2_ := Qz.mk (IsS178.grown yq96 hg (IsS178.own_ne HI0.out HO138.out (by decide))); have n3_ := Qz.mk (below_weaken yq97 HL.out hb); have n4_ := Qz.mk (KeepBut.trans yq95 (KeepBut.of_grown hg g) (Kd.R_base2 HO138.out)); have n5_ := Qz.mk ((show Kd.C k64 w61 Ao56 y139.length y139 from by rw [Ny139.out]; exact Kd.C_take (m := (x8_2 : Int).toNat) ((Kd.R_reads' (Kd.R_after (ok := (fun k_ => k_ ≠ gb111)) yq94 hg hat)).2.2) KL60.out)); have n6_ := Qz.mk (ho); clear HO_5; clear BK111; clear HI0; clear HB; clear HK; clear HR142; clear HO138; have HO_5 := n0_; have BK111 := n1_; have HI0 := n2_; have HB := n3_; have HK := n4_; have HR142 := n5_; have HO145 := n6_; clear n0_ n1_ n2_ n3_ n4_ n5_ n6_; clear ho hb hg hat; have hnb62 := NB111_0.out; have hnc62 := NB0_111.out; have hcz63_0 : w61.cell? ⟨gb111, 0, none⟩ = some (.string t106) := (qf BK111.out 0).trans rfl; have hcz63_1 : w61.cell? ⟨gb111, 1, none⟩ = some (.int .i64 t107) := (qf BK111.out 1).trans rfl; have hcz63_2 : w61.cell? ⟨gb111, 2, none⟩ = some (.int .i64 t108) := (qf BK111.out 2).trans rfl; have hcz63_3 : w61.cell? ⟨gb111, 3, none⟩ = some (.string t109) := (qf BK111.out 3).trans rfl; have hfz63_0 := qg BK111.out 0; have hfz63_1 := qg BK111.out 1; have hfz63_2 := qg BK111.out 2; have hfz63_3 := qg BK111.out 3) | ((with_reducible refine gate_builtin (b := .append) (xs := #[.tmp 60, .tmp 62]) rfl ?_); at_builtin; refine Kd.R_append k64 w.heap.size rfl (.tmp 60) (.tmp 62) 26 64 (.agg #[(.string ⟨#[]⟩), (.int .i64 0), (.int .i64 0), (.string ⟨#[]⟩)]) 48 rfl Try.underlying26 info64 rfl (by decide) (by omega) v144 y143 (⟨(⟨t106, t107, t108⟩ : S35), t109⟩ : S64) [.string t106, .int .i64 t107, .int .i64 t108, .string t109] (fun k_ => some k_ ≠ (.slice Ao56 x5_1.length co56 : Value).ownBlock ∧ k_ ≠ gb111) (fun _ => False) rfl rfl ?aP (fun _ hk => hk.elim) ?aF ?aO (Below.refl _ _) ?aS ?aL ?_; (case aP => exact k64_mkM _ _ _ (⟨(⟨t106, t107, t108⟩ : S35), t109⟩ : S64)); (case aF => exact (fun k_ hk => ⟨Kd.fresh' (Kd.R_lt yq94) k_ hk, Kd.freshB (g := gb111) (o := .cells #[.string t106, .int .i64 t107, .int .i64 t108, .string t109] 64 (0, 0)) yq99 k_ hk⟩)); (case aO => exact (by (with_reducible repeat (first | apply Kd.R_alloc | apply Kd.R_drewN | apply Kd.R_drew)); exact HO145.out)); (case aS => exact (qg1 (w := w) (g := g) (row := none) yq95)); (case aL => have := LMc51.out; omega); intro v147 w64 ho hb hg hat; rw [← Ny146.out] at ho; have n0_ := Qz.mk (Kd.R_after (ok := (fun k_ => k_ ≠ gb111)) yq94 hg hat); have n1_ := Qz.mk (blk_grown (g := gb111) (o := .cells #[.string t106, .int .i64 t107, .int .i64 t108, .string t109] 64 (0, 0)) yq99 hg (Kd.R_away HO145.out (fun _ hk => hk.2))); have n2_ := Qz.mk (IsS178.grown yq96 hg (IsS178.own_ne HI0.out HO145.out (by decide))); have n3_ := Qz.mk (below_weaken yq97 HL.out hb); have n4_ := Qz.mk (KeepBut.trans yq95 (KeepBut.of_grown hg g) (Kd.R_base2 HO145.out)); have n5_ := Qz.mk ((show Kd.C k64 w64 Ao56 y139.length y139 from by rw [Ny139.out]; exact Kd.C_take (m := (x8_2 : Int).toNat) ((Kd.R_reads' (Kd.R_after (ok := (fun k_ => k_ ≠ gb111)) yq94 hg hat)).2.2) KL60.out)); have n6_ := Qz.mk (ho); clear HO_5; clear BK111; clear HI0; clear HB; clear HK; clear HR142; clear HO145; have HO_5 := n0_; have BK111 := n1_; have HI0 := n2_; have HB := n3_; have HK := n4_; have HR142 := n5_; have HO148 := n6_; clear n0_ n1_ n2_ n3_ n4_ n5_ n6_; clear ho hb hg hat; have q65 : (x8_2 : Int) ≤ ((x5_1.length : Int) : Int) := of_decide_eq_true yq102; obtain ⟨i065, hi065, _, hsz65, _⟩ := info_parts info64; have hroom65 : x5_1.length ≤ co56 := (Kd.R_reads' HO_5.out).2.1; have hC65 : Kd.C k64 _ Ao56 x5_1.length x5_1 := (Kd.R_reads' HO_5.out).2.2; have q065 : (0 : Int) ≤ (x8_2 : Int) := of_decide_eq_true yq102; have hcut65 := cut_from (P := Try.prog) 26 64 .i64 Try.underlying26 hi065 4 hsz65 Ao56 x5_1.length co56 x8_2 q065 q65; have hr65 := Kd.C_drop (m := (x8_2 : Int).toNat) (c := co56) hC65 (by omega) hroom65; obtain ⟨A65, hA65⟩ : ∃ A1, A1 = (if co56 = (x8_2 : Int).toNat then Ao56 else (Ao56 : Option Addr).map (·.add ((x8_2 : Int).toNat * 4))) := ⟨_, rfl⟩; obtain ⟨c65, hc65⟩ : ∃ c1, c1 = co56 - (x8_2 : Int).toNat := ⟨_, rfl⟩; have hy65 : y149.length = x5_1.length - (x8_2 : Int).toNat := (by rw [Ny149.out, List.length_drop] <;> omega); rw [show (x5_1).drop (x8_2 : Int).toNat = y149 from Ny149.out.symm] at hr65; replace hr65 : Kd.C k64 _ A65 y149.length y149 := (by rw [hA65]; exact hr65); rw [← hy65, ← hA65, ← hc65] at hcut65; have HR152 := Qz.mk hr65; have HC152 := Qz.mk (show y149.length ≤ c65 from by rw [hy65, hc65]; exact Nat.sub_le_sub_right hroom65 _); clear hr65 hC65 hroom65 hi065 hsz65 hc65; have KY65 := Qz.mk hy65; have KA65 := Qz.mk hA65; clear hy65 hA65; have KL65 := Qz.mk (show (x8_2 : Int).toNat ≤ x5_1.length from by omega); replace q65 := eq_true q65) | ((with_reducible refine gate_builtin (b := .append) (xs := #[.tmp 64, .tmp 67]) rfl ?_); at_builtin; refine Kd.R_append_rows k64 w.heap.size rfl (.tmp 64) (.tmp 67) 26 64 (.agg #[(.string ⟨#[]⟩), (.int .i64 0), (.int .i64 0), (.string ⟨#[]⟩)]) 48 rfl Try.underlying26 info64 rfl (by decide) (by omega) v147 y146 y149 _ _ _ (fun k_ => some k_ ≠ (.slice Ao56 x5_1.length co56 : Value).ownBlock ∧ k_ ≠ gb111) (fun _ => False) rfl rfl ?aO ?aR (fun _ _ h => h) (fun _ h => h.elim) ?aF (Below.refl _ _) ?aS ?aL ?_; (case aR => repeat (first | exact (by repeat (first | (with_reducible exact HR152.out) | (with_reducible refine Kd.C_alloc ?_ _) | (with_reducible refine Kd.C_drewN ?_ _) | (with_reducible refine Kd.C_drew ?_) | exact HR152.out)) | (with_reducible refine Kd.C_alloc ?_ _) | (with_reducible refine Kd.C_drewN ?_ _) | (with_reducible refine Kd.C_drew ?_))); (case aF => exact (fun k_ hk => ⟨Kd.fresh' (Kd.R_lt yq94) k_ hk, Kd.freshB (g := gb111) (o := .cells #[.string t106, .int .i64 t107, .int .i64 t108, .string t109] 64 (0, 0)) yq99 k_ hk⟩)); (case aO => exact (by (with_reducible repeat (first | apply Kd.R_alloc | apply Kd.R_drewN | apply Kd.R_drew)); exact HO148.out)); (case aS => exact (qg1 (w := w) (g := g) (row := none) yq95)); (case aL => have := LMc54.out; omega); intro v154 w66 ho hb hg hat; rw [← Ny153.out] at ho; have n0_ := Qz.mk (Kd.R_after (ok := (fun k_ => k_ ≠ gb111)) yq94 hg hat); have n1_ := Qz.mk (blk_grown (g := gb111) (o := .cells #[.string t106, .int .i64 t107, .int .i64 t108, .string t109] 64 (0, 0)) yq99 hg (Kd.R_away HO148.out (fun _ hk => hk.2))); have n2_ := Qz.mk (IsS178.grown yq96 hg (IsS178.own_ne HI0.out HO148.out (by decide))); have n3_ := Qz.mk (below_weaken yq97 HL.out hb); have n4_ := Qz.mk (KeepBut.trans yq95 (KeepBut.of_grown hg g) (Kd.R_base2 HO148.out)); have n5_ := Qz.mk ((show Kd.C k64 w66 Ao56 y139.length y139 from by rw [Ny139.out]; exact Kd.C_take (m := (x8_2 : Int).toNat) ((Kd.R_reads' (Kd.R_after (ok := (fun k_ => k_ ≠ gb111)) yq94 hg hat)).2.2) KL60.out)); have n6_ := Qz.mk ((show Kd.C k64 w66 A65 y149.length y149 from by rw [Ny149.out, KA65.out]; exact Kd.C_drop (m := (x8_2 : Int).toNat) (c := co56) ((Kd.R_reads' (Kd.R_after (ok := (fun k_ => k_ ≠ gb111)) yq94 hg hat)).2.2) KL65.out ((Kd.R_reads' (Kd.R_after (ok := (fun k_ => k_ ≠ gb111)) yq94 hg hat)).2.1))); have n7_ := Qz.mk (ho); clear HO_5; clear BK111; clear HI0; clear HB; clear HK; clear HR142; clear HR152; clear HO148; have HO_5 := n0_; have BK111 := n1_; have HI0 := n2_; have HB := n3_; have HK := n4_; have HR142 := n5_; have HR152 := n6_; have HO155 := n7_; clear n0_ n1_ n2_ n3_ n4_ n5_ n6_ n7_; clear ho hb hg hat))
             go_roundg k2
             case measure => have := HK1.out; have := HK2.out; omega
             case rel => exact ⟨(y153), (wrap64 (x6_1 - 1)), (t110), yq106, H', ⟨by have := HK1.out; have := HK2.out; omega⟩, ⟨by (with_reducible repeat (first | apply Kd.R_alloc | apply Kd.R_drewN | apply Kd.R_drew)); exact Kd.R_mono HO155.out (fun _ hk => trivial)⟩, ⟨by repeat (first | (with_reducible first | exact HI0.out | apply IsS178.alloc | apply IsS178.drewN | apply IsS178.drew | apply IsS178.set_1 | apply (fun h_ => IsS178.far h_ NB0_111.out _)) | exact HI0.out)⟩, ⟨by repeat (first | (with_reducible first | exact HK.out | apply KeepBut.set_ | apply qk | apply qn | apply ql | refine qw ?_ GW111.out _) | exact HK.out)⟩, ⟨by repeat (first | (with_reducible first | exact HB.out | apply qc | apply qa | apply qb | refine qe ?_ (IsS178.ge HI0.out) | refine qe ?_ GE111.out) | exact HB.out)⟩⟩
            ·rw [if_neg c54] at H
             exact absurd H (by simp)
           ·rw [if_neg c51] at H
            exact absurd H (by simp)
          ·rw [if_neg c50] at H
           exact absurd H (by simp)
         ·rw [if_neg c49] at H
          exact absurd H (by simp)
        ·rw [if_neg c48] at H
         exact absurd H (by simp)
    ·replace c10 := Bool.eq_false_iff.mpr c10
     subst c10
     have H1 : (spec_l1Rd_entries.l0 k1 x5_1 (wrap64 (x6_1 - 1)) s0_0 t110) = some (r1, r2) := by rw [if_neg (show ¬ (false = true) by decide)] at H; exact H
     clear H
     have H := H1
     clear H1
     have H' := Qz.mk H
     clear H
     go_wp2_with (first | ((with_reducible refine qr (f := 155) rfl ?_); refine qe1 (some 20) rfl rfl Try.func155 (by kernel_rfl) rfl #[.pointer (some ⟨g, 0, none⟩)] rfl yq104 ?_; (with_reducible refine (spec_l1Rd_entry.calls k1 g s0_0 x1001_1 t106 t107 t108 t109 t110 w0 _ ?side1 ?side2 A8.out).mono ?_); (case side1 => exact yq100); (case side2 => exact yq101); rintro e w67 ⟨rfl, hi, hb, hk⟩; refine ⟨_, rfl, ?_⟩; replace HO_5 := Qz.mk (Kd.R_mono (Kd.R_keep (IsS178.apart (show IsS178 w0 _ g s0_0 x1001_1 from by repeat (first | (with_reducible first | exact HI0.out | apply IsS178.alloc | apply IsS178.drewN | apply IsS178.drew | apply IsS178.set_1) | exact HI0.out)) yq94 (by decide)) hk (fun _ h => h.2)) (fun _ h => h.1)); replace HK := Qz.mk (KeepBut.trans yq98 hk (.inl rfl)); replace HB := Qz.mk (hb); replace HI0 := Qz.mk (hi); (try clear hb); (try clear hk); (try clear hi)) | ((with_reducible refine qz (N := 7) rfl ?_); refine qh1 ?hg (N := 7) ?hd (cs := #[.string (⟨#[]⟩ : ByteArray), .int .i64 0, .int .i64 0, .string (⟨#[]⟩ : ByteArray)]) (t := 64) ?hr ?_; (case hd => rfl); (case hg => rfl); (case hr => first | (go_simp; done) | (go_simp; rfl)); intro gb111 hg w68 hbox hb; replace HO_5 := Qz.mk (Kd.R_below (Kd.R_elderB yq94 gb111 (Nat.le_of_eq hg.symm)) hb); replace HB := Qz.mk (qm yq101 hb); have BK111 := Qz.mk (hbox); have GW111 := Qz.mk ((by rw [hg]; exact (qg1 (w := w) (g := g) (row := none) yq98) : w.heap.size ≤ gb111)); have GE111 := Qz.mk ((Nat.le_trans HW0.out (by rw [hg]; exact (qg1 (w := w) (g := g) (row := none) yq98) : w.heap.size ≤ gb111) : w0.heap.size ≤ gb111)); replace HK := Qz.mk (KeepBut.trans yq98 (KeepBut.of_below hb g none) (.inl rfl)); have NB0_111 := Qz.mk ((by rw [hg]; exact Nat.ne_of_lt (IsS178.lt (show IsS178 w0 _ g s0_0 t110 from by repeat (first | (with_reducible first | exact HI0.out | apply IsS178.alloc | apply IsS178.drewN | apply IsS178.drew | apply IsS178.set_1) | exact HI0.out))) : g ≠ gb111)); have NB111_0 := Qz.mk ((by rw [hg]; exact Nat.ne_of_gt (IsS178.lt (show IsS178 w0 _ g s0_0 t110 from by repeat (first | (with_reducible first | exact HI0.out | apply IsS178.alloc | apply IsS178.drewN | apply IsS178.drew | apply IsS178.set_1) | exact HI0.out))) : gb111 ≠ g)); replace HI0 := Qz.mk (IsS178.below yq100 hb); clear hb hbox hg; have hnb69 := NB111_0.out; have hnc69 := NB0_111.out; have hcz70_0 : w68.cell? ⟨gb111, 0, none⟩ = some (.string (⟨#[]⟩ : ByteArray)) := (qf BK111.out 0).trans rfl; have hcz70_1 : w68.cell? ⟨gb111, 1, none⟩ = some (.int .i64 0) := (qf BK111.out 1).trans rfl; have hcz70_2 : w68.cell? ⟨gb111, 2, none⟩ = some (.int .i64 0) := (qf BK111.out 2).trans rfl; have hcz70_3 : w68.cell? ⟨gb111, 3, none⟩ = some (.string (⟨#[]⟩ : ByteArray)) := (qf BK111.out 3).trans rfl; have hfz70_0 := qg BK111.out 0; have hfz70_1 := qg BK111.out 1; have hfz70_2 := qg BK111.out 2; have hfz70_3 := qg BK111.out 3) | ((with_reducible refine qr (f := 143) rfl ?_); refine qe1 (some 22) rfl rfl Try.func143 (by kernel_rfl) rfl #[.agg #[.string t106, .int .i64 t107, .int .i64 t108, .string t109]] rfl yq104 ?_; (with_reducible refine (spec_EntryOk.calls t106 t107 t108 t109 false _ A9.out).mono ?_); rintro e w71 ⟨rfl, hb⟩; refine ⟨_, rfl, ?_⟩; replace HO_5 := Qz.mk (Kd.R_below yq105 hb); replace BK111 := Qz.mk (qf1 (g := gb111) (o := .cells #[.string t106, .int .i64 t107, .int .i64 t108, .string t109] 64 (0, 0)) yq103 hb); replace HK := Qz.mk (KeepBut.trans yq95 (KeepBut.of_below hb g none) (.inl rfl)); replace HB := Qz.mk (qm yq97 hb); replace HI0 := Qz.mk (IsS178.below (show IsS178 w0 ((((w68.setCell ⟨gb111, 0, none⟩ (.string t106)).setCell ⟨gb111, 1, none⟩ (.int .i64 t107)).setCell ⟨gb111, 2, none⟩ (.int .i64 t108)).setCell ⟨gb111, 3, none⟩ (.string t109)) g s0_0 t110 from by repeat (first | (with_reducible first | exact HI0.out | apply IsS178.alloc | apply IsS178.drewN | apply IsS178.drew | apply IsS178.set_1 | apply (fun h_ => IsS178.far h_ NB0_111.out _)) | exact HI0.out)) hb); (try clear hb); (try clear hk); (try clear hi)))
     go_roundg k1
     case measure => have := HK1.out; omega
     case rel => exact ⟨(x5_1), (wrap64 (x6_1 - 1)), (t110), yq106, H', ⟨by have := HK1.out; omega⟩, ⟨by (with_reducible repeat (first | apply Kd.R_alloc | apply Kd.R_drewN | apply Kd.R_drew)); exact Kd.R_mono HO_5.out (fun _ hk => trivial)⟩, ⟨by repeat (first | (with_reducible first | exact HI0.out | apply IsS178.alloc | apply IsS178.drewN | apply IsS178.drew | apply IsS178.set_1 | apply (fun h_ => IsS178.far h_ NB0_111.out _)) | exact HI0.out)⟩, ⟨by repeat (first | (with_reducible first | exact HK.out | apply KeepBut.set_ | apply qk | apply qn | apply ql | refine qw ?_ GW111.out _) | exact HK.out)⟩, ⟨by repeat (first | (with_reducible first | exact HB.out | apply qc | apply qa | apply qb | refine qe ?_ (IsS178.ge HI0.out) | refine qe ?_ GE111.out) | exact HB.out)⟩⟩
   ·rw [if_neg c7] at H
    have c7b0 : decide (0 < x6_1) = false := decide_eq_false c7
    clear c7
    replace H := Option.bind_eq_some_iff.mp H
    obtain ⟨⟨t156, t157⟩, A720, H⟩ := H
    replace H : (if t156 = true then ((spec_l1Rd_entry.f k1 s0_0 t157).bind fun bt158 => (if x5_1.length < 2932031007402 then (some ((x5_1 ++ [(⟨(⟨bt158.1, bt158.2.1, bt158.2.2.1⟩ : S35), bt158.2.2.2.1⟩ : S64)]), bt158.2.2.2.2)) else (none))) else (some (x5_1, t157))) = some (r1, r2) := H
    have A72 := Qz.mk A720
    clear A720
    by_cases c73 : t156 = true
    ·subst c73
     have H1 : ((spec_l1Rd_entry.f k1 s0_0 t157).bind fun bt158 => (if x5_1.length < 2932031007402 then (some ((x5_1 ++ [(⟨(⟨bt158.1, bt158.2.1, bt158.2.2.1⟩ : S35), bt158.2.2.2.1⟩ : S64)]), bt158.2.2.2.2)) else (none))) = some (r1, r2) := by rw [if_pos rfl] at H; exact H
     clear H
     have H := H1
     clear H1
     replace H := Option.bind_eq_some_iff.mp H
     obtain ⟨⟨t158, t159, t160, t161, t162⟩, A740, H⟩ := H
     replace H : (if x5_1.length < 2932031007402 then (some ((x5_1 ++ [(⟨(⟨t158, t159, t160⟩ : S35), t161⟩ : S64)]), t162)) else (none)) = some (r1, r2) := H
     have A74 := Qz.mk A740
     clear A740
     by_cases c75 : x5_1.length < 2932031007402
     ·rw [if_pos c75] at H
      have LMc75 := Qz.mk c75
      clear c75
      obtain ⟨y163, hy163⟩ : ∃ y_ : List (S64), y_ = (x5_1 ++ [(⟨(⟨t158, t159, t160⟩ : S35), t161⟩ : S64)]) := ⟨_, rfl⟩
      replace H : (some (y163, t162)) = some (r1, r2) := by first | (rw [hy163]; with_reducible exact H) | (have H2_ := (Option.bind_some _ _).symm.trans H; rw [hy163]; with_reducible exact H2_) | (have H2_ := (Option.bind_some _ _).symm.trans H; with_reducible exact H2_) | with_reducible exact H | (rw [hy163]; exact H) | exact H
      have Ny163 := Qz.mk hy163
      clear hy163
      simp only [Option.some.injEq, Prod.mk.injEq] at H
      obtain ⟨rfl, rfl⟩ := H
      go_wp2_with (first | ((with_reducible refine qr (f := 156) rfl ?_); refine qe1 (some 70) rfl rfl Try.func156 (by kernel_rfl) rfl #[.pointer (some ⟨g, 0, none⟩), .int .i64 24] rfl yq104 ?_; (with_reducible refine (spec_l1Rd_once.calls g s0_0 x1001_1 24 true t157 w0 _ ?side1 ?side2 A72.out).mono ?_); (case side1 => exact yq100); (case side2 => exact yq101); rintro e w76 ⟨rfl, hi, hb, hk⟩; refine ⟨_, rfl, ?_⟩; replace HO_5 := Qz.mk (Kd.R_mono (Kd.R_keep (IsS178.apart (show IsS178 w0 _ g s0_0 x1001_1 from by repeat (first | (with_reducible first | exact HI0.out | apply IsS178.alloc | apply IsS178.drewN | apply IsS178.drew | apply IsS178.set_1) | exact HI0.out)) yq94 (by decide)) hk (fun _ h => h.2)) (fun _ h => h.1)); replace HK := Qz.mk (KeepBut.trans yq98 hk (.inl rfl)); replace HB := Qz.mk (hb); replace HI0 := Qz.mk (hi); (try clear hb); (try clear hk); (try clear hi)) | ((with_reducible refine qr (f := 155) rfl ?_); refine qe1 (some 73) rfl rfl Try.func155 (by kernel_rfl) rfl #[.pointer (some ⟨g, 0, none⟩)] rfl yq104 ?_; (with_reducible refine (spec_l1Rd_entry.calls k1 g s0_0 t157 t158 t159 t160 t161 t162 w0 _ ?side1 ?side2 A74.out).mono ?_); (case side1 => exact yq100); (case side2 => exact yq101); rintro e w77 ⟨rfl, hi, hb, hk⟩; refine ⟨_, rfl, ?_⟩; replace HO_5 := Qz.mk (Kd.R_mono (Kd.R_keep (IsS178.apart (show IsS178 w0 _ g s0_0 t157 from by repeat (first | (with_reducible first | exact HI0.out | apply IsS178.alloc | apply IsS178.drewN | apply IsS178.drew | apply IsS178.set_1) | exact HI0.out)) yq94 (by decide)) hk (fun _ h => h.2)) (fun _ h => h.1)); replace HK := Qz.mk (KeepBut.trans yq98 hk (.inl rfl)); replace HB := Qz.mk (hb); replace HI0 := Qz.mk (hi); (try clear hb); (try clear hk); (try clear hi)) | ((with_reducible refine gate_builtin (b := .append) (xs := #[.tmp 71, .tmp 74]) rfl ?_); at_builtin; refine Kd.R_append k64 w.heap.size rfl (.tmp 71) (.tmp 74) 26 64 (.agg #[(.string ⟨#[]⟩), (.int .i64 0), (.int .i64 0), (.string ⟨#[]⟩)]) 48 rfl Try.underlying26 info64 rfl (by decide) (by omega) u5 x5_1 (⟨(⟨t158, t159, t160⟩ : S35), t161⟩ : S64) [.string t158, .int .i64 t159, .int .i64 t160, .string t161] (fun _ => True) (fun _ => False) rfl rfl ?aP (fun _ hk => hk.elim) ?aF ?aO (Below.refl _ _) ?aS ?aL ?_; (case aP => exact k64_mkM _ _ _ (⟨(⟨t158, t159, t160⟩ : S35), t161⟩ : S64)); (case aF => exact (fun _ _ => trivial)); (case aO => exact yq94); (case aS => exact (qg1 (w := w) (g := g) (row := none) yq98)); (case aL => have := LMc75.out; omega); intro v164 w78 ho hb hg hat; rw [← Ny163.out] at ho; have n0_ := Qz.mk (IsS178.grown yq100 hg (IsS178.own_ne HI0.out HO_5.out (by decide))); have n1_ := Qz.mk (below_weaken yq101 HL.out hb); have n2_ := Qz.mk (KeepBut.trans yq98 (KeepBut.of_grown hg g) (Kd.R_base2 HO_5.out)); have n3_ := Qz.mk (ho); clear HI0; clear HB; clear HK; clear HO_5; have HI0 := n0_; have HB := n1_; have HK := n2_; have HO165 := n3_; clear n0_ n1_ n2_ n3_; clear ho hb hg hat))
      go_ret
      exact ⟨_, by first | rfl | (simp [qq, qo] <;> rfl) | (simp [*, qq, qo] <;> rfl), by (with_reducible repeat (first | apply Kd.R_alloc | apply Kd.R_drewN | apply Kd.R_drew)); exact HO165.out, by repeat (first | (with_reducible first | exact HI0.out | apply IsS178.alloc | apply IsS178.drewN | apply IsS178.drew | apply IsS178.set_1) | exact HI0.out), by repeat (first | (with_reducible first | exact HB.out | apply qc | apply qa | apply qb | refine qe ?_ (IsS178.ge HI0.out)) | exact HB.out), by repeat (first | (with_reducible first | exact HK.out | apply KeepBut.set_ | apply qk | apply qn | apply ql) | exact HK.out)⟩
     ·rw [if_neg c75] at H
      exact absurd H (by simp)
    ·replace c73 := Bool.eq_false_iff.mpr c73
     subst c73
     have H1 : (some (x5_1, t157)) = some (r1, r2) := by rw [if_neg (show ¬ (false = true) by decide)] at H; exact H
     clear H
     have H := H1
     clear H1
     simp only [Option.some.injEq, Prod.mk.injEq] at H
     obtain ⟨rfl, rfl⟩ := H
     go_wp2_with (first | ((with_reducible refine qr (f := 156) rfl ?_); refine qe1 (some 70) rfl rfl Try.func156 (by kernel_rfl) rfl #[.pointer (some ⟨g, 0, none⟩), .int .i64 24] rfl yq104 ?_; (with_reducible refine (spec_l1Rd_once.calls g s0_0 x1001_1 24 false t157 w0 _ ?side1 ?side2 A72.out).mono ?_); (case side1 => exact yq100); (case side2 => exact yq101); rintro e w79 ⟨rfl, hi, hb, hk⟩; refine ⟨_, rfl, ?_⟩; replace HO_5 := Qz.mk (Kd.R_mono (Kd.R_keep (IsS178.apart (show IsS178 w0 _ g s0_0 x1001_1 from by repeat (first | (with_reducible first | exact HI0.out | apply IsS178.alloc | apply IsS178.drewN | apply IsS178.drew | apply IsS178.set_1) | exact HI0.out)) yq94 (by decide)) hk (fun _ h => h.2)) (fun _ h => h.1)); replace HK := Qz.mk (KeepBut.trans yq98 hk (.inl rfl)); replace HB := Qz.mk (hb); replace HI0 := Qz.mk (hi); (try clear hb); (try clear hk); (try clear hi)))
     go_ret
     exact ⟨_, by first | rfl | (simp [qq, qo] <;> rfl) | (simp [*, qq, qo] <;> rfl), by (with_reducible repeat (first | apply Kd.R_alloc | apply Kd.R_drewN | apply Kd.R_drew)); exact HO_5.out, by repeat (first | (with_reducible first | exact HI0.out | apply IsS178.alloc | apply IsS178.drewN | apply IsS178.drew | apply IsS178.set_1) | exact HI0.out), by repeat (first | (with_reducible first | exact HB.out | apply qc | apply qa | apply qb | refine qe ?_ (IsS178.ge HI0.out)) | exact HB.out), by repeat (first | (with_reducible first | exact HK.out | apply KeepBut.set_ | apply qk | apply qn | apply ql) | exact HK.out)⟩
theorem yq107 {P : Prop} (h : P := by repeat (first | (with_reducible first | exact HK.out | apply KeepBut.set_ | apply qk | apply qn | apply ql) | exact HK.out)) : P := h
theorem yq108 {P : Prop} (h : P := by repeat (first | (with_reducible first | exact HI0.out | apply IsS178.alloc | apply IsS178.drewN | apply IsS178.drew | apply IsS178.set_1) | exact HI0.out)) : P := h
theorem yq109 {P : Prop} (h : P := by repeat (first | (with_reducible first | exact HB.out | apply qc | apply qa | apply qb | refine qe ?_ (IsS178.ge HI0.out)) | exact HB.out)) : P := h
def spec_l1Rd_runs.l0 : Nat → List (S62) → Int → List Int → Int → Option ((List (S62)) × Int)
 | 0, _, _, _, _ => none
 | k + 1, x5, x6, x1000, x1001 => if x6 > 0 then ((spec_l1Rd_entries.f k x1000 x1001 6).bind fun bt106 => (if x5.length < 5864062014805 then (spec_l1Rd_runs.l0 k (x5 ++ [(⟨bt106.1⟩ : S62)]) (wrap64 (x6 - 1)) x1000 bt106.2) else (none))) else (some (x5, x1001))
def spec_l1Rd_runs.f (k : Nat) (s0_0 : List Int) (s0_1 : Int) (a1 : Int) : Option ((List (S62)) × Int) := (spec_l1Rd_below.f s0_0 s0_1 (wrap64 (a1 + 1))).bind fun bt104 => (spec_l1Rd_runs.l0 k (([] : List (S62))) bt104.1 s0_0 bt104.2)
set_option maxHeartbeats 8000000 in
set_option maxRecDepth 100000 in
theorem spec_l1Rd_runs.calls (k : Nat) (g : Nat) (s0_0 : List Int) (s0_1 : Int) (a1 : Int) (r1 : List (S62)) (r2 : Int) (w0 w : World) (hI : IsS178 w0 w g s0_0 s0_1) (hB : Below w0.heap.size w0 w) (h : spec_l1Rd_runs.f k s0_0 s0_1 a1 = some (r1, r2)) :
  Calls Try.prog 105 #[.pointer (some ⟨g, 0, none⟩), .int .i64 a1] w fun e w' => ∃ v0_ : Value, e = .returned (v0_) ∧ Kd.S k62 62 w' w.heap.size (fun _ => True) v0_ r1 ∧ IsS178 w0 w' g s0_0 r2 ∧ Below w0.heap.size w0 w' ∧ KeepBut w w' g none := by
 have hu62 := Try.underlying62
 have HI0 := Qz.mk hI
 have HK := Qz.mk (KeepBut.refl w g none)
 have HL := Qz.mk hB.size
 clear hI
 have HW0 := Qz.mk hB.size
 have HB := Qz.mk hB
 clear hB
 have H : ((spec_l1Rd_below.f s0_0 s0_1 (wrap64 (a1 + 1))).bind fun bt104 => (spec_l1Rd_runs.l0 k (([] : List (S62))) bt104.1 s0_0 bt104.2)) = some (r1, r2) := h
 clear h
 obtain ⟨y101, hy101⟩ : ∃ y_ : List (S62), y_ = (([] : List (S62))) := ⟨_, rfl⟩
 replace H : ((spec_l1Rd_below.f s0_0 s0_1 (wrap64 (a1 + 1))).bind fun bt104 => (spec_l1Rd_runs.l0 k y101 bt104.1 s0_0 bt104.2)) = some (r1, r2) := by first | (rw [hy101]; with_reducible exact H) | (have H2_ := (Option.bind_some _ _).symm.trans H; rw [hy101]; with_reducible exact H2_) | (have H2_ := (Option.bind_some _ _).symm.trans H; with_reducible exact H2_) | with_reducible exact H | (rw [hy101]; exact H) | exact H
 have Ny101 := Qz.mk hy101
 clear hy101
 replace H := Option.bind_eq_some_iff.mp H
 obtain ⟨⟨t104, t105⟩, A30, H⟩ := H
 replace H : (spec_l1Rd_runs.l0 k y101 t104 s0_0 t105) = some (r1, r2) := H
 have A3 := Qz.mk A30
 clear A30
 have H' := Qz.mk H
 clear H
 go_enter Try.func105, Try.ntmps105
 go_wp2_with (first | ((with_reducible refine qz (N := 7) rfl ?_); refine Kd.S_lit k62 _ 62 ?hg (N := 7) ?hd (xs := ([] : List (S62))) (inner := []) (ok := fun _ => True) (okp := fun _ => True) ?hr ?hp (fun _ hk => hk) trivial (Below.refl _ _) (Nat.le_refl _) (by simp) ?_; (case hd => rfl); (case hg => rfl); (case hr => first | (go_simp; done) | (go_simp; rfl)); (case hp => exact (Reps.none _ _)); intro v102 w4 ho5 hb hg_ hnew_; clear hg_ hnew_; (first | rw [← Ny101.out] at ho5 | (simp only [Int.reduceToNat] at ho5; rw [← Ny101.out] at ho5)); have HO103 := Qz.mk (Kd.S_lower ho5 (qg1 (w := w) (g := g) (row := none) yq107)); replace HK := Qz.mk (KeepBut.trans yq107 (KeepBut.of_below hb g none) (.inl rfl)); replace HB := Qz.mk (qm yq109 hb); replace HI0 := Qz.mk (IsS178.below yq108 hb); clear hb ho5) | ((with_reducible refine qr (f := 119) rfl ?_); refine qe1 (some 11) rfl rfl Try.func119 (by kernel_rfl) rfl #[.pointer (some ⟨g, 0, none⟩), .int .i64 (wrap64 (a1 + 1))] rfl (by (try simp only [List.map_toArray, List.map_cons, List.map_nil]); first | done | rfl | (simp only [List.length_drop, List.length_take]; rfl) | (rw [IntWalk.u64_in _ (by omega)] <;> rfl)) ?_; (with_reducible refine (spec_l1Rd_below.calls g s0_0 s0_1 (wrap64 (a1 + 1)) t104 t105 w0 _ ?side1 ?side2 A3.out).mono ?_); (case side1 => exact yq108); (case side2 => exact yq109); rintro e w6 ⟨rfl, hi, hb, hk⟩; refine ⟨_, rfl, ?_⟩; replace HO103 := Qz.mk (Kd.S_mono (Kd.S_keep (IsS178.apartS (show IsS178 w0 _ g s0_0 s0_1 from by repeat (first | (with_reducible first | exact HI0.out | apply IsS178.alloc | apply IsS178.drewN | apply IsS178.drew | apply IsS178.set_1) | exact HI0.out)) (by (with_reducible repeat (first | apply Kd.S_alloc | apply Kd.S_drewN | apply Kd.S_drew)); exact HO103.out) (by decide)) hk (fun _ h => h.2)) (fun _ h => h.1)); replace HK := Qz.mk (KeepBut.trans yq107 hk (.inl rfl)); replace HB := Qz.mk (hb); replace HI0 := Qz.mk (hi); (try clear hb); (try clear hk); (try clear hi)))
 go_loopg [5, 6] k (fun kq v5 v6 w' => ∃ (x5_1 : List (S62)) (x6_1 : Int) (x1001_1 : Int), v6 = .int .i64 x6_1 ∧ Qz (spec_l1Rd_runs.l0 kq x5_1 x6_1 s0_0 x1001_1 = some (r1, r2)) ∧ Qz (kq ≤ k) ∧ Qz (Kd.S k62 62 w' w.heap.size (fun _ => True) v5 x5_1) ∧ Qz (IsS178 w0 w' g s0_0 x1001_1) ∧ Qz (KeepBut w w' g none) ∧ Qz (Below w0.heap.size w0 w'))
 case atStart => exact ⟨(y101), (t104), (t105), (by first | rfl | (simp; done) | (simp [*]; done)), H', ⟨Nat.le_refl _⟩, ⟨by (with_reducible repeat (first | apply Kd.S_alloc | apply Kd.S_drewN | apply Kd.S_drew)); exact HO103.out⟩, ⟨by repeat (first | (with_reducible first | exact HI0.out | apply IsS178.alloc | apply IsS178.drewN | apply IsS178.drew | apply IsS178.set_1) | exact HI0.out)⟩, ⟨by repeat (first | (with_reducible first | exact HK.out | apply KeepBut.set_ | apply qk | apply qn | apply ql) | exact HK.out)⟩, ⟨by repeat (first | (with_reducible first | exact HB.out | apply qc | apply qa | apply qb | refine qe ?_ (IsS178.ge HI0.out)) | exact HB.out)⟩⟩
 case round =>
  clear H'
  try clear c1
  try clear p2
  try clear p6
  obtain ⟨x5_1, x6_1, x1001_1, rfl, HA, HK1, HO_5, HI0, HK, HB⟩ := hrel
  cases gk with
  | zero => exact absurd HA.out (by simp [spec_l1Rd_runs.l0])
  | succ k1 =>
   have H := HA.out
   clear HA
   simp only [spec_l1Rd_runs.l0] at H
   by_cases c7 : x6_1 > 0
   ·rw [if_pos c7] at H
    have c7b0 : decide (0 < x6_1) = true := decide_eq_true c7
    clear c7
    replace H := Option.bind_eq_some_iff.mp H
    obtain ⟨⟨t106, t109⟩, A80, H⟩ := H
    replace H : (if x5_1.length < 5864062014805 then (spec_l1Rd_runs.l0 k1 (x5_1 ++ [(⟨t106⟩ : S62)]) (wrap64 (x6_1 - 1)) s0_0 t109) else (none)) = some (r1, r2) := H
    have A8 := Qz.mk A80
    clear A80
    by_cases c9 : x5_1.length < 5864062014805
    ·rw [if_pos c9] at H
     have LMc9 := Qz.mk c9
     clear c9
     obtain ⟨y110, hy110⟩ : ∃ y_ : List (S62), y_ = (x5_1 ++ [(⟨t106⟩ : S62)]) := ⟨_, rfl⟩
     replace H : (spec_l1Rd_runs.l0 k1 y110 (wrap64 (x6_1 - 1)) s0_0 t109) = some (r1, r2) := by first | (rw [hy110]; with_reducible exact H) | (have H2_ := (Option.bind_some _ _).symm.trans H; rw [hy110]; with_reducible exact H2_) | (have H2_ := (Option.bind_some _ _).symm.trans H; with_reducible exact H2_) | with_reducible exact H | (rw [hy110]; exact H) | exact H
     have Ny110 := Qz.mk hy110
     clear hy110
     have H' := Qz.mk H
     clear H
     go_wp2_with (first | ((with_reducible refine qr (f := 91) rfl ?_); refine qe1 (some 18) rfl rfl Try.func91 (by kernel_rfl) rfl #[.pointer (some ⟨g, 0, none⟩), .int .i64 6] rfl (by (try simp only [List.map_toArray, List.map_cons, List.map_nil]); first | done | rfl) ?_; (with_reducible refine (spec_l1Rd_entries.calls k1 g s0_0 x1001_1 6 t106 t109 w0 _ ?side1 ?side2 A8.out).mono ?_); (case side1 => exact yq108); (case side2 => exact yq109); rintro e w10 ⟨v107, rfl, ho0, hi, hb, hk⟩; refine ⟨_, rfl, ?_⟩; replace HO_5 := Qz.mk (Kd.S_mono (Kd.S_told (Kd.S_oldK (IsS178.apartS (show IsS178 w0 _ g s0_0 x1001_1 from by repeat (first | (with_reducible first | exact HI0.out | apply IsS178.alloc | apply IsS178.drewN | apply IsS178.drew | apply IsS178.set_1) | exact HI0.out)) (by (with_reducible repeat (first | apply Kd.S_alloc | apply Kd.S_drewN | apply Kd.S_drew)); exact HO_5.out) (by decide)) hk) (Kd.R_base ho0)) (fun _ h_ => h_.1)); have HO108 := Qz.mk (Kd.R_lower ho0 (qg1 (w := w) (g := g) (row := none) yq107)); replace HK := Qz.mk (KeepBut.trans yq107 hk (.inl rfl)); replace HB := Qz.mk (hb); replace HI0 := Qz.mk (hi); (try clear hb); (try clear hk); (try clear hi); (try clear ho0); obtain ⟨Ao11, co11, eo11⟩ := Kd.R_slice HO108.out; subst eo11) | ((with_reducible refine gate_builtin (b := .append) (xs := #[.tmp 16, .tmp 20]) rfl ?_); at_builtin; refine Kd.S_append k62 w.heap.size rfl (.tmp 16) (.tmp 20) 54 62 (.agg #[(.slice none 0 0)]) 24 rfl Try.underlying54 info62 rfl (by decide) (by omega) u5 x5_1 (⟨t106⟩ : S62) [.slice Ao11 t106.length co11] (fun _ => True) (fun k_ => some k_ = (.slice Ao11 t106.length co11 : Value).ownBlock) rfl rfl ?aP (fun k_ hk_ => ((Kd.R_mono (ok' := fun k_ => ((fun _ => True)) k_ ∧ some k_ ≠ (u5 : Value).ownBlock) (Kd.R_apart' (HO108.out) (Kd.S_typed HO_5.out) (by decide)) (fun k_ hk => ⟨trivial, hk.2⟩))).1 k_ hk_.symm) ?aF ?aO (Below.refl _ _) ?aS ?aL ?_; (case aP => exact k62_mkM _ _ _ (⟨t106⟩ : S62) (Kd.R_mono (Kd.R_tight rfl (Kd.R_mono (ok' := fun k_ => ((fun _ => True)) k_ ∧ some k_ ≠ (u5 : Value).ownBlock) (Kd.R_apart' (HO108.out) (Kd.S_typed HO_5.out) (by decide)) (fun k_ hk => ⟨trivial, hk.2⟩))) (fun _ h_ => h_))); (case aF => exact (fun _ _ => trivial)); (case aO => exact (by (with_reducible repeat (first | apply Kd.S_alloc | apply Kd.S_drewN | apply Kd.S_drew)); exact Kd.S_mono HO_5.out (fun k_ hk => ⟨trivial, fun e_ => hk.2 e_⟩))); (case aS => exact (qg1 (w := w) (g := g) (row := none) yq107)); (case aL => have := LMc9.out; omega); intro v111 w12 ho hb hg hat; rw [← Ny110.out] at ho; have n0_ := Qz.mk (IsS178.grown yq108 hg (IsS178.own_neS HI0.out HO_5.out (by decide))); have n1_ := Qz.mk (below_weaken yq109 HL.out hb); have n2_ := Qz.mk (KeepBut.trans yq107 (KeepBut.of_grown hg g) (Kd.S_base2 HO_5.out)); have n3_ := Qz.mk (ho); clear HI0; clear HB; clear HK; clear HO_5; clear HO108; have HI0 := n0_; have HB := n1_; have HK := n2_; have HO112 := n3_; clear n0_ n1_ n2_ n3_; clear ho hb hg hat))
     go_roundg k1
     case measure => have := HK1.out; omega
     case rel => exact ⟨(y110), (wrap64 (x6_1 - 1)), (t109), (by first | rfl | (simp; done) | (simp [*]; done)), H', ⟨by have := HK1.out; omega⟩, ⟨by (with_reducible repeat (first | apply Kd.S_alloc | apply Kd.S_drewN | apply Kd.S_drew)); exact HO112.out⟩, ⟨by repeat (first | (with_reducible first | exact HI0.out | apply IsS178.alloc | apply IsS178.drewN | apply IsS178.drew | apply IsS178.set_1) | exact HI0.out)⟩, ⟨by repeat (first | (with_reducible first | exact HK.out | apply KeepBut.set_ | apply qk | apply qn | apply ql) | exact HK.out)⟩, ⟨by repeat (first | (with_reducible first | exact HB.out | apply qc | apply qa | apply qb | refine qe ?_ (IsS178.ge HI0.out)) | exact HB.out)⟩⟩
    ·rw [if_neg c9] at H
     exact absurd H (by simp)
   ·rw [if_neg c7] at H
    have c7b0 : decide (0 < x6_1) = false := decide_eq_false c7
    clear c7
    simp only [Option.some.injEq, Prod.mk.injEq] at H
    obtain ⟨rfl, rfl⟩ := H
    go_wp2
    go_ret
    exact ⟨_, by first | rfl | (simp [qq, qo] <;> rfl) | (simp [*, qq, qo] <;> rfl), by (with_reducible repeat (first | apply Kd.S_alloc | apply Kd.S_drewN | apply Kd.S_drew)); exact HO_5.out, by repeat (first | (with_reducible first | exact HI0.out | apply IsS178.alloc | apply IsS178.drewN | apply IsS178.drew | apply IsS178.set_1) | exact HI0.out), by repeat (first | (with_reducible first | exact HB.out | apply qc | apply qa | apply qb | refine qe ?_ (IsS178.ge HI0.out)) | exact HB.out), by repeat (first | (with_reducible first | exact HK.out | apply KeepBut.set_ | apply qk | apply qn | apply ql) | exact HK.out)⟩
def spec_DrawMergeRuns.f (k : Nat) (l0 : List Int) : Option ((List (S62))) := (spec_l1Open.f l0).bind fun bt101 => ((spec_l1Rd_runs.f k bt101.1 bt101.2 4).bind fun bt104 => (some bt104.1))
set_option maxHeartbeats 8000000 in
set_option maxRecDepth 100000 in
theorem spec_DrawMergeRuns.calls (k : Nat) (A0 : Option Addr) (c0 : Nat) (l0 : List Int) (r : List (S62)) (w : World) (hr0 : Kd.C (Kd.int .u8) w A0 l0.length l0) (hc0 : l0.length ≤ c0) (h : spec_DrawMergeRuns.f k l0 = some r) :
  Calls Try.prog 41 #[.slice A0 l0.length c0] w fun e w' => ∃ v0_ : Value, e = .returned (v0_) ∧ Kd.S k62 62 w' w.heap.size (fun _ => True) v0_ r ∧ Below w.heap.size w w' := by
 have HR0 := Qz.mk hr0
 have HC0 := Qz.mk hc0
 clear hr0 hc0
 have HB := Qz.mk (Below.refl w.heap.size w)
 have H : ((spec_l1Open.f l0).bind fun bt101 => ((spec_l1Rd_runs.f k bt101.1 bt101.2 4).bind fun bt104 => (some bt104.1))) = some r := h
 clear h
 replace H := Option.bind_eq_some_iff.mp H
 obtain ⟨⟨t101, t102⟩, A20, H⟩ := H
 replace H : ((spec_l1Rd_runs.f k t101 t102 4).bind fun bt104 => (some bt104.1)) = some r := H
 have A2 := Qz.mk A20
 clear A20
 replace H := Option.bind_eq_some_iff.mp H
 obtain ⟨⟨t104, t107⟩, A30, H⟩ := H
 replace H : (some t104) = some r := H
 have A3 := Qz.mk A30
 clear A30
 obtain rfl := Option.some.inj H
 go_enter Try.func41, Try.ntmps41
 go_wp2_with (first | ((with_reducible refine qr (f := 90) rfl ?_); refine qe1 (some 5) rfl rfl Try.func90 (by kernel_rfl) rfl #[.slice A0 l0.length c0] rfl (by (try simp only [List.map_toArray, List.map_cons, List.map_nil]); first | done | rfl | (simp only [List.length_drop, List.length_take]; rfl) | (rw [IntWalk.u64_in _ (by omega)] <;> rfl)) ?_; (with_reducible refine (spec_l1Open.calls _ _ l0 t101 t102 w _ ?side1 ?side2 ?side3 A2.out).mono ?_); (case side1 => repeat (first | (with_reducible first | exact HB.out | apply qc | apply qa | apply qb) | exact HB.out)); (case side2 => exact HR0.out); (case side3 => exact HC0.out); rintro e w4 ⟨g103, rfl, hi, hb, hb2⟩; refine ⟨_, rfl, ?_⟩; replace HB := Qz.mk (hb); have HI103 := Qz.mk (hi); (try clear hb); (try clear hb2); (try clear hk); (try clear hi)) | ((with_reducible refine qr (f := 105) rfl ?_); refine qe1 (some 7) rfl rfl Try.func105 (by kernel_rfl) rfl #[.pointer (some ⟨g103, 0, none⟩), .int .i64 4] rfl (by (try simp only [List.map_toArray, List.map_cons, List.map_nil]); first | done | rfl) ?_; (with_reducible refine (spec_l1Rd_runs.calls k g103 t101 t102 4 t104 t107 w _ ?side1 ?side2 A3.out).mono ?_); (case side1 => repeat (first | (with_reducible first | exact HI103.out | apply IsS178.alloc | apply IsS178.drewN | apply IsS178.drew | apply IsS178.set_1) | exact HI103.out)); (case side2 => repeat (first | (with_reducible first | exact HB.out | apply qc | apply qa | apply qb | refine qe ?_ (IsS178.ge HI103.out)) | exact HB.out)); rintro e w5 ⟨v105, rfl, ho0, hi, hb, hk⟩; refine ⟨_, rfl, ?_⟩; have HO106 := Qz.mk (Kd.S_lower ho0 (qu (by repeat (first | (with_reducible first | exact HB.out | apply qc | apply qa | apply qb | refine qe ?_ (IsS178.ge HI103.out)) | exact HB.out)))); replace HB := Qz.mk (hb); replace HI103 := Qz.mk (hi); (try clear hb); (try clear hb2); (try clear hk); (try clear hi); (try clear ho0)))
 go_ret
 exact ⟨_, by first | rfl | (simp [qq, qo] <;> rfl) | (simp [*, qq, qo] <;> rfl), by (with_reducible repeat (first | apply Kd.S_alloc | apply Kd.S_drewN | apply Kd.S_drew)); exact HO106.out, by repeat (first | (with_reducible first | exact HB.out | apply qc | apply qa | apply qb | refine qe ?_ (IsS178.ge HI103.out)) | exact HB.out)⟩
end Go.Proofs.Ytidjdkodgddfcaa.P
end
