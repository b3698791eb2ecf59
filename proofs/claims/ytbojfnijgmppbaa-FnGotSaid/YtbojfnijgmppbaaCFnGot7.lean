/- Proved: the law FnGot of the given program returns true for every input of its Go types and leaves each argument as it was; no condition. (Part 8 of 12.) -/
import Derived.Test.YtbojfnijgmppbaaCFnGot4
import Derived.Test.YtbojfnijgmppbaaCFnGot6
section
namespace Go.Proofs.Ytbojfnijgmppbaa.P
open Go.RowKit Go.Proofs.YtbojfnijgmppbaaW.PrintWords Go.Proofs.YtbojfnijgmppbaaW.PrintLast Go.Proofs.YtbojfnijgmppbaaW.PrintMore
attribute [local go_sem] str_gtr str_leq str_geq max2_int min2_int max_two min_two qw qv max_four min_four
set_option linter.unusedVariables false
set_option linter.unusedSimpArgs false
attribute [local go_sem high] eqA46
mutual
def spec_l1Rd_entries.l0 : Nat → List (S48) → Int → List Int → Int → Option ((List (S48)) × Int)
 | 0, _, _, _, _ => none
 | k + 1, x5, x6, x1000, x1001 => if x6 > 0 then ((spec_l1Rd_entry.f k x1000 x1001).bind fun bt106 => ((spec_EntryOk.f bt106.1 bt106.2.1 bt106.2.2.1 bt106.2.2.2.1).bind fun t112 => (if t112 = true then (spec_l1Rd_entries.l1 k x5 x6 0 x1000 bt106.2.2.2.2 bt106.1 bt106.2.1 bt106.2.2.1 bt106.2.2.2.1) else (spec_l1Rd_entries.l0 k x5 (wrap64 (x6 - 1)) x1000 bt106.2.2.2.2)))) else ((spec_l1Rd_once.f x1000 x1001 24).bind fun bt156 => (if bt156.1 = true then ((spec_l1Rd_entry.f k x1000 bt156.2).bind fun bt158 => (if x5.length < 2932031007402 then (some ((x5 ++ [(⟨(⟨bt158.1, bt158.2.1, bt158.2.2.1⟩ : S46), bt158.2.2.2.1⟩ : S48)]), bt158.2.2.2.2)) else (none))) else (some (x5, bt156.2))))
def spec_l1Rd_entries.l1 : Nat → List (S48) → Int → Int → List Int → Int → ByteArray → Int → Int → ByteArray → Option ((List (S48)) × Int)
 | 0, _, _, _, _, _, _, _, _, _ => none
 | k + 1, x5, x6, x8, x1000, x1001, x112000, x112001, x112002, x112003 => if x8 < (x5.length : Int) then (if 0 ≤ x8 then ((spec_KeyCmp.f k ((qg x5 x8).f0.f0) ((qg x5 x8).f0.f1) ((qg x5 x8).f0.f2) x112000 x112001 x112002).bind fun t114 => (if t114 < 0 then (spec_l1Rd_entries.l1 k x5 x6 (wrap64 (x8 + 1)) x1000 x1001 x112000 x112001 x112002 x112003) else (if ((((qg x5 x8).f0.f0).toList) == x112000.toList && (((qg x5 x8).f0.f1) == x112001 && (((qg x5 x8).f0.f2) == x112002))) = true then (spec_l1Rd_entries.l0 k x5 (wrap64 (x6 - 1)) x1000 x1001) else ((some (([] : List (S48)) : List (S48))).bind fun y116 => (if x8 ≤ (x5.length : Int) then ((some (x5.take (x8 : Int).toNat : List (S48))).bind fun y119 => (if y116.length + y119.length < 2932031007402 then ((some (y116 ++ y119 : List (S48))).bind fun y123 => (if y123.length < 2932031007402 then ((some (y123 ++ [(⟨(⟨x112000, x112001, x112002⟩ : S46), x112003⟩ : S48)] : List (S48))).bind fun y126 => ((some (x5.drop (x8 : Int).toNat : List (S48))).bind fun y129 => (if y126.length + y129.length < 2932031007402 then (spec_l1Rd_entries.l0 k (y126 ++ y129) (wrap64 (x6 - 1)) x1000 x1001) else (none)))) else (none))) else (none))) else (none)))))) else (none)) else ((some (([] : List (S48)) : List (S48))).bind fun y136 => (if 0 ≤ x8 then (if x8 ≤ (x5.length : Int) then ((some (x5.take (x8 : Int).toNat : List (S48))).bind fun y139 => (if y136.length + y139.length < 2932031007402 then ((some (y136 ++ y139 : List (S48))).bind fun y143 => (if y143.length < 2932031007402 then ((some (y143 ++ [(⟨(⟨x112000, x112001, x112002⟩ : S46), x112003⟩ : S48)] : List (S48))).bind fun y146 => ((some (x5.drop (x8 : Int).toNat : List (S48))).bind fun y149 => (if y146.length + y149.length < 2932031007402 then (spec_l1Rd_entries.l0 k (y146 ++ y149) (wrap64 (x6 - 1)) x1000 x1001) else (none)))) else (none))) else (none))) else (none)) else (none)))
end
def spec_l1Rd_entries.f (k : Nat) (s0_0 : List Int) (s0_1 : Int) (a1 : Int) : Option ((List (S48)) × Int) := (spec_l1Rd_below.f s0_0 s0_1 (wrap64 (a1 + 1))).bind fun bt104 => (spec_l1Rd_entries.l0 k (([] : List (S48))) bt104.1 s0_0 bt104.2)
def spec_l1Rd_entries.T8 : Bool × List (List Nat × List Nat) := (true, [([], []), ([], []), ([1], [1]), ([0, 2], [0, 2]), ([3], [3]), ([4], [4]), ([4], [4]), ([5, 6, 4], [4, 5, 6]), ([7, 4], [4, 7]), ([8, 4], [4, 8]), ([4], [4]), ([10, 4], [4, 10]), ([9, 11, 4, 4], [4, 9, 11]), ([12, 4], [4, 12]), ([4, 13], [4, 13])])
def spec_l1Rd_entries.B8 : List Nat := [0, 0, 2, 7, 15, 31, 31, 127, 255, 511, 31, 1055, 4095, 8191, 16383]
theorem spec_l1Rd_entries.tab8 : rtab .any (opsOf Try.f71 8) = spec_l1Rd_entries.T8 := by kernel_rfl
theorem spec_l1Rd_entries.bits8 : waitsOk spec_l1Rd_entries.T8.2 spec_l1Rd_entries.B8 = true := by kernel_rfl
def spec_l1Rd_entries.T10 : Bool × List (List Nat × List Nat) := (true, [([], []), ([], []), ([1], [1]), ([0, 2], [0, 2]), ([3], [3]), ([4], [4]), ([4], [4]), ([5, 6, 4], [4, 5, 6]), ([7, 4], [4, 7]), ([8, 4], [4, 8]), ([4], [4]), ([10, 4], [4, 10]), ([9, 11, 4], [4, 9, 11]), ([4, 12], [4, 12])])
def spec_l1Rd_entries.B10 : List Nat := [0, 0, 2, 7, 15, 31, 31, 127, 255, 511, 31, 1055, 4095, 8191]
theorem spec_l1Rd_entries.tab10 : rtab .any (opsOf Try.f71 10) = spec_l1Rd_entries.T10 := by kernel_rfl
theorem spec_l1Rd_entries.bits10 : waitsOk spec_l1Rd_entries.T10.2 spec_l1Rd_entries.B10 = true := by kernel_rfl
set_option maxHeartbeats 8000000 in
set_option maxRecDepth 100000 in
theorem spec_l1Rd_entries.calls (k : Nat) (g : Nat) (s0_0 : List Int) (s0_1 : Int) (a1 : Int) (r1 : List (S48)) (r2 : Int) (w0 w : World) (hI : IsS116 w0 w g s0_0 s0_1) (hB : Below w0.heap.size w0 w) (h : spec_l1Rd_entries.f k s0_0 s0_1 a1 = some (r1, r2)) :
  Calls Try.prog 71 #[.pointer (some ⟨g, 0, none⟩), .int .i64 a1] w fun e w' => ∃ v0_ : Value, e = .returned (v0_) ∧ Kd.R k48 48 w' w.heap.size (fun _ => True) v0_ r1 ∧ IsS116 w0 w' g s0_0 r2 ∧ Below w0.heap.size w0 w' ∧ KeepBut w w' g none := by
 have hu48 := Try.underlying48
 have hu46 := Try.underlying46
 have HI0 := Qz.mk hI
 have HK := Qz.mk (KeepBut.refl w g none)
 have HL := Qz.mk hB.size
 clear hI
 have HW0 := Qz.mk hB.size
 have HB := Qz.mk hB
 clear hB
 have H : ((spec_l1Rd_below.f s0_0 s0_1 (wrap64 (a1 + 1))).bind fun bt104 => (spec_l1Rd_entries.l0 k (([] : List (S48))) bt104.1 s0_0 bt104.2)) = some (r1, r2) := h
 clear h
 obtain ⟨y101, hy101⟩ : ∃ y_ : List (S48), y_ = (([] : List (S48))) := ⟨_, rfl⟩
 replace H : ((spec_l1Rd_below.f s0_0 s0_1 (wrap64 (a1 + 1))).bind fun bt104 => (spec_l1Rd_entries.l0 k y101 bt104.1 s0_0 bt104.2)) = some (r1, r2) := by first | (rw [hy101]; with_reducible exact H) | (have H2_ := (Option.bind_some _ _).symm.trans H; rw [hy101]; with_reducible exact H2_) | (have H2_ := (Option.bind_some _ _).symm.trans H; with_reducible exact H2_) | with_reducible exact H | (rw [hy101]; exact H) | exact H
 have Ny101 := Qz.mk hy101
 clear hy101
 replace H := Option.bind_eq_some_iff.mp H
 obtain ⟨⟨t104, t105⟩, A30, H⟩ := H
 replace H : (spec_l1Rd_entries.l0 k y101 t104 s0_0 t105) = some (r1, r2) := H
 have A3 := Qz.mk A30
 clear A30
 have H' := Qz.mk H
 clear H
 go_enter Try.func71, Try.ntmps71
 go_wp2_with (first | ((with_reducible refine gate_dst (N := 10) rfl ?_); refine Kd.R_lit k48 _ 48 ?hg (N := 10) ?hd (xs := ([] : List (S48))) (inner := []) (ok := fun _ => True) (okp := fun _ => True) ?hr ?hp (fun _ hk => hk) trivial (Below.refl _ _) (Nat.le_refl _) (by simp) ?_; (case hd => rfl); (case hg => rfl); (case hr => first | (go_simp; done) | (go_simp; rfl)); (case hp => exact (Reps.none _ _)); intro v102 w4 ho5 hb hg_ hnew_; clear hg_ hnew_; (first | rw [← Ny101.out] at ho5 | (simp only [Int.reduceToNat] at ho5; rw [← Ny101.out] at ho5)); have HO103 := Qz.mk (Kd.R_lower ho5 (keep_size (w := w) (g := g) (row := none) (by repeat (first | (with_reducible first | exact HK.out | apply KeepBut.set_ | apply ql | apply qn | apply qm) | exact HK.out)))); replace HK := Qz.mk (KeepBut.trans (by repeat (first | (with_reducible first | exact HK.out | apply KeepBut.set_ | apply ql | apply qn | apply qm) | exact HK.out)) (KeepBut.of_below hb g none) (.inl rfl)); replace HB := Qz.mk (qr (by repeat (first | (with_reducible first | exact HB.out | apply qc | apply qa | apply qb | refine qd ?_ (IsS116.ge HI0.out)) | exact HB.out)) hb); replace HI0 := Qz.mk (IsS116.below (by repeat (first | (with_reducible first | exact HI0.out | apply IsS116.alloc | apply IsS116.drewN | apply IsS116.drew | apply IsS116.set_1) | exact HI0.out)) hb); clear hb ho5) | ((with_reducible refine qq (f := 98) rfl ?_); refine qu (some 14) rfl rfl Try.func98 (by kernel_rfl) rfl #[.pointer (some ⟨g, 0, none⟩), .int .i64 (wrap64 (a1 + 1))] rfl (by (try simp only [List.map_toArray, List.map_cons, List.map_nil]); first | done | rfl | (simp only [List.length_drop, List.length_take]; rfl) | (rw [IntWalk.u64_in _ (by omega)] <;> rfl)) ?_; (with_reducible refine (spec_l1Rd_below.calls g s0_0 s0_1 (wrap64 (a1 + 1)) t104 t105 w0 _ ?side1 ?side2 A3.out).mono ?_); (case side1 => repeat (first | (with_reducible first | exact HI0.out | apply IsS116.alloc | apply IsS116.drewN | apply IsS116.drew | apply IsS116.set_1) | exact HI0.out)); (case side2 => repeat (first | (with_reducible first | exact HB.out | apply qc | apply qa | apply qb | refine qd ?_ (IsS116.ge HI0.out)) | exact HB.out)); rintro e w6 ⟨rfl, hi, hb, hk⟩; refine ⟨_, rfl, ?_⟩; replace HO103 := Qz.mk (Kd.R_mono (Kd.R_keep (IsS116.apart (show IsS116 w0 _ g s0_0 s0_1 from by repeat (first | (with_reducible first | exact HI0.out | apply IsS116.alloc | apply IsS116.drewN | apply IsS116.drew | apply IsS116.set_1) | exact HI0.out)) (by (with_reducible repeat (first | apply Kd.R_alloc | apply Kd.R_drewN | apply Kd.R_drew)); exact HO103.out) (by decide)) hk (fun _ h => h.2)) (fun _ h => h.1)); replace HK := Qz.mk (KeepBut.trans (by repeat (first | (with_reducible first | exact HK.out | apply KeepBut.set_ | apply ql | apply qn | apply qm) | exact HK.out)) hk (.inl rfl)); replace HB := Qz.mk (hb); replace HI0 := Qz.mk (hi); (try clear hb); (try clear hk); (try clear hi)))
 go_loopg [5, 6] k (fun kq v5 v6 w' => ∃ (x5_1 : List (S48)) (x6_1 : Int) (x1001_1 : Int), v6 = .int .i64 x6_1 ∧ Qz (spec_l1Rd_entries.l0 kq x5_1 x6_1 s0_0 x1001_1 = some (r1, r2)) ∧ Qz (kq ≤ k) ∧ Qz (Kd.R k48 48 w' w.heap.size (fun _ => True) v5 x5_1) ∧ Qz (IsS116 w0 w' g s0_0 x1001_1) ∧ Qz (KeepBut w w' g none) ∧ Qz (Below w0.heap.size w0 w'))
 case atStart => exact ⟨(y101), (t104), (t105), (by first | rfl | (simp; done) | (simp [*]; done)), H', ⟨Nat.le_refl _⟩, ⟨by (with_reducible repeat (first | apply Kd.R_alloc | apply Kd.R_drewN | apply Kd.R_drew)); exact HO103.out⟩, ⟨by repeat (first | (with_reducible first | exact HI0.out | apply IsS116.alloc | apply IsS116.drewN | apply IsS116.drew | apply IsS116.set_1) | exact HI0.out)⟩, ⟨by repeat (first | (with_reducible first | exact HK.out | apply KeepBut.set_ | apply ql | apply qn | apply qm) | exact HK.out)⟩, ⟨by repeat (first | (with_reducible first | exact HB.out | apply qc | apply qa | apply qb | refine qd ?_ (IsS116.ge HI0.out)) | exact HB.out)⟩⟩
 case round =>
  clear H'
  try clear p2
  try clear p6
  obtain ⟨x5_1, x6_1, x1001_1, rfl, HA, HK1, HO_5, HI0, HK, HB⟩ := hrel
  cases gk with
  | zero => exact absurd HA.out (by simp [spec_l1Rd_entries.l0])
  | succ k1 =>
   have H := HA.out
   clear HA
   simp only [spec_l1Rd_entries.l0] at H
   by_cases c7 : x6_1 > 0
   ·rw [if_pos c7] at H
    have c7b0 : decide (0 < x6_1) = true := decide_eq_true c7
    clear c7
    replace H := Option.bind_eq_some_iff.mp H
    obtain ⟨⟨t106, t107, t108, t109, t110⟩, A80, H⟩ := H
    replace H : ((spec_EntryOk.f t106 t107 t108 t109).bind fun t112 => (if t112 = true then (spec_l1Rd_entries.l1 k1 x5_1 x6_1 0 s0_0 t110 t106 t107 t108 t109) else (spec_l1Rd_entries.l0 k1 x5_1 (wrap64 (x6_1 - 1)) s0_0 t110))) = some (r1, r2) := H
    have A8 := Qz.mk A80
    clear A80
    replace H := Option.bind_eq_some_iff.mp H
    obtain ⟨t112, A90, H⟩ := H
    replace H : (if t112 = true then (spec_l1Rd_entries.l1 k1 x5_1 x6_1 0 s0_0 t110 t106 t107 t108 t109) else (spec_l1Rd_entries.l0 k1 x5_1 (wrap64 (x6_1 - 1)) s0_0 t110)) = some (r1, r2) := H
    have A9 := Qz.mk A90
    clear A90
    by_cases c10 : t112 = true
    ·subst c10
     have H1 : (spec_l1Rd_entries.l1 k1 x5_1 x6_1 0 s0_0 t110 t106 t107 t108 t109) = some (r1, r2) := by rw [if_pos rfl] at H; exact H
     clear H
     have H := H1
     clear H1
     have H' := Qz.mk H
     clear H
     go_wp2_with (first | ((with_reducible refine qq (f := 84) rfl ?_); refine qu (some 20) rfl rfl Try.func84 (by kernel_rfl) rfl #[.pointer (some ⟨g, 0, none⟩)] rfl (by (try simp only [List.map_toArray, List.map_cons, List.map_nil]); first | done | rfl) ?_; (with_reducible refine (spec_l1Rd_entry.calls k1 g s0_0 x1001_1 t106 t107 t108 t109 t110 w0 _ ?side1 ?side2 A8.out).mono ?_); (case side1 => repeat (first | (with_reducible first | exact HI0.out | apply IsS116.alloc | apply IsS116.drewN | apply IsS116.drew | apply IsS116.set_1) | exact HI0.out)); (case side2 => repeat (first | (with_reducible first | exact HB.out | apply qc | apply qa | apply qb | refine qd ?_ (IsS116.ge HI0.out)) | exact HB.out)); rintro e w11 ⟨rfl, hi, hb, hk⟩; refine ⟨_, rfl, ?_⟩; replace HO_5 := Qz.mk (Kd.R_mono (Kd.R_keep (IsS116.apart (show IsS116 w0 _ g s0_0 x1001_1 from by repeat (first | (with_reducible first | exact HI0.out | apply IsS116.alloc | apply IsS116.drewN | apply IsS116.drew | apply IsS116.set_1) | exact HI0.out)) (by (with_reducible repeat (first | apply Kd.R_alloc | apply Kd.R_drewN | apply Kd.R_drew)); exact HO_5.out) (by decide)) hk (fun _ h => h.2)) (fun _ h => h.1)); replace HK := Qz.mk (KeepBut.trans (by repeat (first | (with_reducible first | exact HK.out | apply KeepBut.set_ | apply ql | apply qn | apply qm) | exact HK.out)) hk (.inl rfl)); replace HB := Qz.mk (hb); replace HI0 := Qz.mk (hi); (try clear hb); (try clear hk); (try clear hi)) | ((with_reducible refine gate_dst (N := 7) rfl ?_); refine box_event ?hg (N := 7) ?hd (cs := #[.string (⟨#[]⟩ : ByteArray), .int .i64 0, .int .i64 0, .string (⟨#[]⟩ : ByteArray)]) (t := 48) ?hr ?_; (case hd => rfl); (case hg => rfl); (case hr => first | (go_simp; done) | (go_simp; rfl)); intro gb111 hg w12 hbox hb; replace HO_5 := Qz.mk (Kd.R_below (Kd.R_elderB (by (with_reducible repeat (first | apply Kd.R_alloc | apply Kd.R_drewN | apply Kd.R_drew)); exact HO_5.out) gb111 (Nat.le_of_eq hg.symm)) hb); replace HB := Qz.mk (qr (by repeat (first | (with_reducible first | exact HB.out | apply qc | apply qa | apply qb | refine qd ?_ (IsS116.ge HI0.out)) | exact HB.out)) hb); have BK111 := Qz.mk (hbox); have GW111 := Qz.mk ((by rw [hg]; exact (keep_size (w := w) (g := g) (row := none) (by repeat (first | (with_reducible first | exact HK.out | apply KeepBut.set_ | apply ql | apply qn | apply qm) | exact HK.out))) : w.heap.size ≤ gb111)); have GE111 := Qz.mk ((Nat.le_trans HW0.out (by rw [hg]; exact (keep_size (w := w) (g := g) (row := none) (by repeat (first | (with_reducible first | exact HK.out | apply KeepBut.set_ | apply ql | apply qn | apply qm) | exact HK.out))) : w.heap.size ≤ gb111) : w0.heap.size ≤ gb111)); replace HK := Qz.mk (KeepBut.trans (by repeat (first | (with_reducible first | exact HK.out | apply KeepBut.set_ | apply ql | apply qn | apply qm) | exact HK.out)) (KeepBut.of_below hb g none) (.inl rfl)); have NB0_111 := Qz.mk ((by rw [hg]; exact Nat.ne_of_lt (IsS116.lt (show IsS116 w0 _ g s0_0 t110 from by repeat (first | (with_reducible first | exact HI0.out | apply IsS116.alloc | apply IsS116.drewN | apply IsS116.drew | apply IsS116.set_1) | exact HI0.out))) : g ≠ gb111)); have NB111_0 := Qz.mk ((by rw [hg]; exact Nat.ne_of_gt (IsS116.lt (show IsS116 w0 _ g s0_0 t110 from by repeat (first | (with_reducible first | exact HI0.out | apply IsS116.alloc | apply IsS116.drewN | apply IsS116.drew | apply IsS116.set_1) | exact HI0.out))) : gb111 ≠ g)); replace HI0 := Qz.mk (IsS116.below (by repeat (first | (with_reducible first | exact HI0.out | apply IsS116.alloc | apply IsS116.drewN | apply IsS116.drew | apply IsS116.set_1) | exact HI0.out)) hb); clear hb hbox hg; have hnb13 := NB111_0.out; have hnc13 := NB0_111.out; have hcz14_0 : w12.cell? ⟨gb111, 0, none⟩ = some (.string (⟨#[]⟩ : ByteArray)) := (qe BK111.out 0).trans rfl; have hcz14_1 : w12.cell? ⟨gb111, 1, none⟩ = some (.int .i64 0) := (qe BK111.out 1).trans rfl; have hcz14_2 : w12.cell? ⟨gb111, 2, none⟩ = some (.int .i64 0) := (qe BK111.out 2).trans rfl; have hcz14_3 : w12.cell? ⟨gb111, 3, none⟩ = some (.string (⟨#[]⟩ : ByteArray)) := (qe BK111.out 3).trans rfl; have hfz14_0 := qf BK111.out 0; have hfz14_1 := qf BK111.out 1; have hfz14_2 := qf BK111.out 2; have hfz14_3 := qf BK111.out 3) | ((with_reducible refine qq (f := 73) rfl ?_); refine qu (some 22) rfl rfl Try.func73 (by kernel_rfl) rfl #[.agg #[.string t106, .int .i64 t107, .int .i64 t108, .string t109]] rfl (by (try simp only [List.map_toArray, List.map_cons, List.map_nil]); first | done | rfl) ?_; (with_reducible refine (spec_EntryOk.calls t106 t107 t108 t109 true _ A9.out).mono ?_); rintro e w15 ⟨rfl, hb⟩; refine ⟨_, rfl, ?_⟩; replace HO_5 := Qz.mk (Kd.R_below (by (with_reducible repeat (first | apply Kd.R_alloc | apply Kd.R_drewN | apply Kd.R_drew)); exact (Kd.R_mono (Kd.R_far (p := ⟨gb111, 3, none⟩) (Kd.R_far (p := ⟨gb111, 2, none⟩) (Kd.R_far (p := ⟨gb111, 1, none⟩) (Kd.R_far (p := ⟨gb111, 0, none⟩) (Kd.R_mono HO_5.out (fun k_ hk => (⟨hk, hk.2⟩ : _ ∧ k_ ≠ gb111))) (fun _ hk => hk.2) (.string t106)) (fun _ hk => hk.2) (.int .i64 t107)) (fun _ hk => hk.2) (.int .i64 t108)) (fun _ hk => hk.2) (.string t109)) (fun _ h_ => h_.1))) hb); replace BK111 := Qz.mk (qx (g := gb111) (o := .cells #[.string t106, .int .i64 t107, .int .i64 t108, .string t109] 48 (0, 0)) (by (with_reducible repeat (first | refine qh ?_ _ | refine qk ?_ | refine qi ?_ _)); refine blk_put (cs := #[.string t106, .int .i64 t107, .int .i64 t108, .string (⟨#[]⟩ : ByteArray)]) ?_ 3 _ rfl; (with_reducible repeat (first | refine qh ?_ _ | refine qk ?_ | refine qi ?_ _)); refine blk_put (cs := #[.string t106, .int .i64 t107, .int .i64 0, .string (⟨#[]⟩ : ByteArray)]) ?_ 2 _ rfl; (with_reducible repeat (first | refine qh ?_ _ | refine qk ?_ | refine qi ?_ _)); refine blk_put (cs := #[.string t106, .int .i64 0, .int .i64 0, .string (⟨#[]⟩ : ByteArray)]) ?_ 1 _ rfl; (with_reducible repeat (first | refine qh ?_ _ | refine qk ?_ | refine qi ?_ _)); refine blk_put (cs := #[.string (⟨#[]⟩ : ByteArray), .int .i64 0, .int .i64 0, .string (⟨#[]⟩ : ByteArray)]) ?_ 0 _ rfl; (with_reducible repeat (first | refine qh ?_ _ | refine qk ?_ | refine qi ?_ _)); exact BK111.out) hb); replace HK := Qz.mk (KeepBut.trans (by repeat (first | (with_reducible first | exact HK.out | apply KeepBut.set_ | apply ql | apply qn | apply qm | refine qt ?_ GW111.out _) | exact HK.out)) (KeepBut.of_below hb g none) (.inl rfl)); replace HB := Qz.mk (qr (by repeat (first | (with_reducible first | exact HB.out | apply qc | apply qa | apply qb | refine qd ?_ (IsS116.ge HI0.out) | refine qd ?_ GE111.out) | exact HB.out)) hb); replace HI0 := Qz.mk (IsS116.below (show IsS116 w0 ((((w12.setCell ⟨gb111, 0, none⟩ (.string t106)).setCell ⟨gb111, 1, none⟩ (.int .i64 t107)).setCell ⟨gb111, 2, none⟩ (.int .i64 t108)).setCell ⟨gb111, 3, none⟩ (.string t109)) g s0_0 t110 from by repeat (first | (with_reducible first | exact HI0.out | apply IsS116.alloc | apply IsS116.drewN | apply IsS116.drew | apply IsS116.set_1 | apply (fun h_ => IsS116.far h_ NB0_111.out _)) | exact HI0.out)) hb); (try clear hb); (try clear hk); (try clear hi)))
     go_loopg [8] k1 (fun kq v8 w' => ∃ (x8_2 : Int), v8 = .int .i64 x8_2 ∧ Qz (spec_l1Rd_entries.l1 kq x5_1 x6_1 x8_2 s0_0 t110 t106 t107 t108 t109 = some (r1, r2)) ∧ Qz (kq ≤ k1) ∧ Qz (Kd.R k48 48 w' w.heap.size (fun k_ => k_ ≠ gb111) u5 x5_1) ∧ Qz (w'.heap[gb111]? = some (.cells #[.string t106, .int .i64 t107, .int .i64 t108, .string t109] 48 (0, 0))) ∧ Qz (IsS116 w0 w' g s0_0 t110) ∧ Qz (KeepBut w w' g none) ∧ Qz (Below w0.heap.size w0 w'))
     case atStart => exact ⟨(0), (by first | rfl | (simp; done) | (simp [*]; done)), H', ⟨Nat.le_refl _⟩, ⟨by (with_reducible repeat (first | apply Kd.R_alloc | apply Kd.R_drewN | apply Kd.R_drew)); exact Kd.R_mono HO_5.out (fun _ hk => hk.2)⟩, ⟨by (with_reducible repeat (first | refine qh ?_ _ | refine qk ?_ | refine qi ?_ _)); exact BK111.out⟩, ⟨by repeat (first | (with_reducible first | exact HI0.out | apply IsS116.alloc | apply IsS116.drewN | apply IsS116.drew | apply IsS116.set_1 | apply (fun h_ => IsS116.far h_ NB0_111.out _)) | exact HI0.out)⟩, ⟨by repeat (first | (with_reducible first | exact HK.out | apply KeepBut.set_ | apply ql | apply qn | apply qm | refine qt ?_ GW111.out _) | exact HK.out)⟩, ⟨by repeat (first | (with_reducible first | exact HB.out | apply qc | apply qa | apply qb | refine qd ?_ (IsS116.ge HI0.out) | refine qd ?_ GE111.out) | exact HB.out)⟩⟩
     case round =>
      clear H'
      try clear c1
      try clear p2
      try clear p6
      try clear c7
      try clear c7b0
      try clear c8
      try clear c9
      try clear c10
      try clear c13
      try clear hcz14_0
      try clear hcz14_1
      try clear hcz14_2
      try clear hcz14_3
      try clear hfz14_0
      try clear hfz14_1
      try clear hfz14_2
      try clear hfz14_3
      try clear p2
      try clear p6
      obtain ⟨x8_2, rfl, HA, HK2, HO_5, BK111, HI0, HK, HB⟩ := hrel
      cases gk with
      | zero => exact absurd HA.out (by simp [spec_l1Rd_entries.l1])
      | succ k2 =>
       have H := HA.out
       clear HA
       simp only [spec_l1Rd_entries.l1] at H
       by_cases c16 : x8_2 < (x5_1.length : Int)
       ·rw [if_pos c16] at H
        have c16b0 : decide (x8_2 < (x5_1.length : Int)) = true := decide_eq_true c16
        clear c16
        by_cases c17 : 0 ≤ x8_2
        ·rw [if_pos c17] at H
         have c17b0 : decide (0 ≤ x8_2) = true := decide_eq_true c17
         clear c17
         replace H := Option.bind_eq_some_iff.mp H
         obtain ⟨t114, A180, H⟩ := H
         replace H : (if t114 < 0 then (spec_l1Rd_entries.l1 k2 x5_1 x6_1 (wrap64 (x8_2 + 1)) s0_0 t110 t106 t107 t108 t109) else (if ((((qg x5_1 x8_2).f0.f0).toList) == t106.toList && (((qg x5_1 x8_2).f0.f1) == t107 && (((qg x5_1 x8_2).f0.f2) == t108))) = true then (spec_l1Rd_entries.l0 k2 x5_1 (wrap64 (x6_1 - 1)) s0_0 t110) else ((some (([] : List (S48)) : List (S48))).bind fun y116 => (if x8_2 ≤ (x5_1.length : Int) then ((some (x5_1.take (x8_2 : Int).toNat : List (S48))).bind fun y119 => (if y116.length + y119.length < 2932031007402 then ((some (y116 ++ y119 : List (S48))).bind fun y123 => (if y123.length < 2932031007402 then ((some (y123 ++ [(⟨(⟨t106, t107, t108⟩ : S46), t109⟩ : S48)] : List (S48))).bind fun y126 => ((some (x5_1.drop (x8_2 : Int).toNat : List (S48))).bind fun y129 => (if y126.length + y129.length < 2932031007402 then (spec_l1Rd_entries.l0 k2 (y126 ++ y129) (wrap64 (x6_1 - 1)) s0_0 t110) else (none)))) else (none))) else (none))) else (none))))) = some (r1, r2) := H
         have A18 := Qz.mk A180
         clear A180
         by_cases c19 : t114 < 0
         ·rw [if_pos c19] at H
          have c19b0 : decide (t114 < 0) = true := decide_eq_true c19
          clear c19
          have H' := Qz.mk H
          clear H
          try go_wp2
          replace HO_5 := Qz.mk (Kd.R_drew HO_5.out)
          replace BK111 := Qz.mk (qk BK111.out)
          replace HI0 := Qz.mk (IsS116.drew HI0.out)
          replace HK := Qz.mk (qn HK.out)
          replace HB := Qz.mk (qb HB.out)
          obtain ⟨Ao21, co21, eo21⟩ := Kd.R_slice HO_5.out
          (first | subst eo21 | (injection eo21 with f1_ f2_ f3_; have f4_ := f1_.symm; have f5_ := f3_.symm; clear f1_ f2_ f3_; subst f4_; subst f5_))
          have p113 : 0 ≤ (x8_2 : Int) := of_decide_eq_true (by first | (with_reducible assumption) | assumption)
          have q113 : x8_2 < (x5_1.length : Int) := of_decide_eq_true (by first | (with_reducible assumption) | assumption)
          obtain ⟨ad113, e113, hx113_0, hx113_1, hx113_2, hx113_3⟩ := at_T48 (Kd.R_reads' HO_5.out).2.2 x8_2 p113 q113
          cases e113
          replace p113 := eq_true p113
          replace q113 := eq_true q113
          refine start_ (n := 15) (S := fun w' => w'.cell? ⟨gb111, 0, none⟩ = some (.string t106) ∧ w'.cell? ⟨gb111, 1, none⟩ = some (.int .i64 t107) ∧ w'.cell? ⟨gb111, 2, none⟩ = some (.int .i64 t108) ∧ w'.cell? ⟨gb111, 3, none⟩ = some (.string t109) ∧ w'.cell? (ad113.add ((x8_2).toNat * 4)) = some (.string ((qg x5_1 x8_2).f0.f0)) ∧ w'.cell? ⟨(ad113.add ((x8_2).toNat * 4)).block, (ad113.add ((x8_2).toNat * 4)).off + 1, none⟩ = some (.int .i64 ((qg x5_1 x8_2).f0.f1)) ∧ w'.cell? ⟨(ad113.add ((x8_2).toNat * 4)).block, (ad113.add ((x8_2).toNat * 4)).off + 2, none⟩ = some (.int .i64 ((qg x5_1 x8_2).f0.f2)) ∧ w'.cell? ⟨(ad113.add ((x8_2).toNat * 4)).block, (ad113.add ((x8_2).toNat * 4)).off + 3, none⟩ = some (.string ((qg x5_1 x8_2).f1))) (ds := []) bq4 (by kernel_rfl) rfl rfl ⟨(qe BK111.out 0).trans rfl, (qe BK111.out 1).trans rfl, (qe BK111.out 2).trans rfl, (qe BK111.out 3).trans rfl, hx113_0, hx113_1, hx113_2, hx113_3⟩ (fun hHeld => ?_); refine with_tabW spec_l1Rd_entries.tab8 spec_l1Rd_entries.bits8 (fun HT_ HW_ => ?_)
          generalize wr.drew = w20 at HO_5 BK111 HI0 HK HB hx113_0 hx113_1 hx113_2 hx113_3 hHeld ⊢
          refine pure_ (i := 0) (N := some 24) (v := ?_) (a' := ?_) bq11 rfl rfl (qj HT_.out (by kernel_rfl)) (fun _ _ _ h => h) (Or.inl ⟨by rfl, ?_⟩) ?_ ?_
          rotate_left
          ·intro w'
           go_simp
           with_reducible rfl
          rotate_left
          ·simp only [Act.put, sq1, sq2, sq3, i64_w, i32_w]
           rfl
          refine pure_ (i := 1) (N := some 25) (v := ?_) (a' := ?_) bq18 rfl rfl (qj HT_.out (by kernel_rfl)) (fun _ _ _ h => h) (Or.inl ⟨by rfl, ?_⟩) ?_ ?_
          rotate_left
          ·intro w'
           go_simp
           with_reducible rfl
          rotate_left
          ·simp only [Act.put, sq1, sq2, sq3, i64_w, i32_w]
           rfl
          refine pure_ (i := 2) (N := some 26) (v := ?_) (a' := ?_) bq25 rfl rfl (qj HT_.out (by kernel_rfl)) (fun _ _ _ h => h) (Or.inl ⟨by rfl, ?_⟩) ?_ ?_
          rotate_left
          ·intro w'
           go_simp
           with_reducible rfl
          rotate_left
          ·simp only [Act.put, sq1, sq2, sq3, i64_w, i32_w]
           rfl
          refine pure_ (i := 3) (N := some 27) (v := ?_) (a' := ?_) bq32 rfl rfl (qj HT_.out (by kernel_rfl)) (fun _ _ _ h => h) (Or.inl ⟨by rfl, ?_⟩) ?_ ?_
          rotate_left
          ·intro w'
           go_simp
           with_reducible rfl
          rotate_left
          ·simp only [Act.put, sq1, sq2, sq3, i64_w, i32_w]
           rfl
          refine pure_ (i := 4) (N := some 28) (v := ?_) (a' := ?_) bq42 rfl rfl (qj HT_.out (by kernel_rfl)) (fun _ _ _ h => h) (Or.inl ⟨by rfl, ?_⟩) ?_ ?_
          rotate_left
          ·intro w'
           go_simp
           with_reducible rfl
          rotate_left
          ·simp only [Act.put, sq1, sq2, sq3, i64_w, i32_w]
           rfl
          refine pure_ (i := 5) (N := some 29) (v := ?_) (a' := ?_) bq48 rfl rfl (qj HT_.out (by kernel_rfl)) (fun _ _ _ h => h) (Or.inl ⟨by rfl, ?_⟩) ?_ ?_
          rotate_left
          ·intro w'
           go_simp
           with_reducible rfl
          rotate_left
          ·simp only [Act.put, sq1, sq2, sq3, i64_w, i32_w]
           rfl
          refine pure_ (i := 6) (N := some 30) (v := ?_) (a' := ?_) bq54 rfl rfl (qj HT_.out (by kernel_rfl)) (fun _ _ _ h => h) (Or.inl ⟨by rfl, ?_⟩) ?_ ?_
          rotate_left
          ·intro w'
           go_simp
           with_reducible rfl
          rotate_left
          ·simp only [Act.put, sq1, sq2, sq3, i64_w, i32_w]
           rfl
          refine pure_ (i := 7) (N := some 31) (v := ?_) (a' := ?_) bq60 rfl rfl (qj HT_.out (by kernel_rfl)) (fun _ _ _ h => h) (Or.inl ⟨by rfl, ?_⟩) ?_ ?_
          rotate_left
          ·intro w'
           go_simp
           with_reducible rfl
          rotate_left
          ·simp only [Act.put, sq1, sq2, sq3, i64_w, i32_w]
           rfl
          refine pure_ (i := 8) (N := some 32) (v := ?_) (a' := ?_) bq67 rfl rfl (qj HT_.out (by kernel_rfl)) (fun _ _ _ h => h) (Or.inl ⟨by rfl, ?_⟩) ?_ ?_
          rotate_left
          ·intro w'
           go_simp
           with_reducible rfl
          rotate_left
          ·simp only [Act.put, sq1, sq2, sq3, i64_w, i32_w]
           rfl
          refine pure_ (i := 10) (N := some 34) (v := ?_) (a' := ?_) bq69 rfl rfl (qj HT_.out (by kernel_rfl)) (fun _ _ _ h => h) (Or.inl ⟨by rfl, ?_⟩) ?_ ?_
          rotate_left
          ·intro w'
           go_simp
           with_reducible rfl
          rotate_left
          ·simp only [Act.put, sq1, sq2, sq3, i64_w, i32_w]
           rfl
          refine take_ (i := 9) (N := some 33) (v := ?_) (a' := ?_) bq80 rfl rfl (take_ofW HT_.out HW_.out (by kernel_rfl)) (fun _ _ _ h => h) (Or.inl ⟨by rfl, ?_⟩) hHeld ?_ ?_
          rotate_left
          ·rintro w' ⟨s0, s1, s2, s3, s4, s5, s6, s7⟩
           go_simp
           with_reducible rfl
          rotate_left
          ·simp only [Act.put, sq1, sq2, sq3, i64_w, i32_w]
           rfl
          refine take_ (i := 11) (N := some 35) (v := ?_) (a' := ?_) bq86 rfl rfl (take_ofW HT_.out HW_.out (by kernel_rfl)) (fun _ _ _ h => h) (Or.inl ⟨by rfl, ?_⟩) hHeld ?_ ?_
          rotate_left
          ·rintro w' ⟨s0, s1, s2, s3, s4, s5, s6, s7⟩
           go_simp
           with_reducible rfl
          rotate_left
          ·simp only [Act.put, sq1, sq2, sq3, i64_w, i32_w]
           rfl
          refine one_ (i := 12) (N := some 36) bq93 rfl rfl (one_of HT_.out (by kernel_rfl)) (by decide) (fun K hK => ?_)
          refine goes_ Try.func74 (by kernel_rfl) rfl #[.agg #[.string ((qg x5_1 x8_2).f0.f0), .int .i64 ((qg x5_1 x8_2).f0.f1), .int .i64 ((qg x5_1 x8_2).f0.f2)], .agg #[.string t106, .int .i64 t107, .int .i64 t108]] (by rfl) rfl rfl (by (try simp only [List.map_toArray, List.map_cons, List.map_nil]); first | done | rfl) ?_
          with_reducible refine (spec_KeyCmp.calls k2 ((qg x5_1 x8_2).f0.f0) ((qg x5_1 x8_2).f0.f1) ((qg x5_1 x8_2).f0.f2) t106 t107 t108 t114 _ A18.out).mono ?_
          rintro e w22 ⟨rfl, hb⟩
          have HS4_ := (hb.cell (World.block_lt_of_cell? _ _ (hHeld.2.2.2.2.1))).trans (hHeld.2.2.2.2.1)
          have HS5_ := (hb.cell (World.block_lt_of_cell? _ _ (hHeld.2.2.2.2.2.1))).trans (hHeld.2.2.2.2.2.1)
          have HS6_ := (hb.cell (World.block_lt_of_cell? _ _ (hHeld.2.2.2.2.2.2.1))).trans (hHeld.2.2.2.2.2.2.1)
          have HS7_ := (hb.cell (World.block_lt_of_cell? _ _ (hHeld.2.2.2.2.2.2.2))).trans (hHeld.2.2.2.2.2.2.2)
          refine ⟨_, rfl, ?_⟩
          replace HO_5 := Qz.mk (Kd.R_below (by (with_reducible repeat (first | apply Kd.R_alloc | apply Kd.R_drewN | apply Kd.R_drew)); exact HO_5.out) hb)
          replace BK111 := Qz.mk (qx (g := gb111) (o := .cells #[.string t106, .int .i64 t107, .int .i64 t108, .string t109] 48 (0, 0)) (by (with_reducible repeat (first | refine qh ?_ _ | refine qk ?_ | refine qi ?_ _)); exact BK111.out) hb)
          replace HK := Qz.mk (KeepBut.trans (by repeat (first | (with_reducible first | exact HK.out | apply KeepBut.set_ | apply ql | apply qn | apply qm | refine qt ?_ GW111.out _) | exact HK.out)) (KeepBut.of_below hb g none) (.inl rfl))
          replace HB := Qz.mk (qr (by repeat (first | (with_reducible first | exact HB.out | apply qc | apply qa | apply qb | refine qd ?_ (IsS116.ge HI0.out) | refine qd ?_ GE111.out) | exact HB.out)) hb)
          replace HI0 := Qz.mk (IsS116.below (by repeat (first | (with_reducible first | exact HI0.out | apply IsS116.alloc | apply IsS116.drewN | apply IsS116.drew | apply IsS116.set_1 | apply (fun h_ => IsS116.far h_ NB0_111.out _)) | exact HI0.out)) hb)
          (try clear hb)
          (try clear hk)
          (try clear hi)
          refine hK.out _ _ ⟨(qe BK111.out 0).trans rfl, (qe BK111.out 1).trans rfl, (qe BK111.out 2).trans rfl, (qe BK111.out 3).trans rfl, HS4_, HS5_, HS6_, HS7_⟩ (fun hHeld => ?_)
          clear hK K
          refine norm_ (a' := ?_) ?_ ?_
          rotate_left
          ·show Act.put _ (some 36) _ = _
           simp only [Act.put, sq1, sq2, sq3, i64_w, i32_w]
           rfl
          refine pure_ (i := 13) (N := some 37) (v := ?_) (a' := ?_) bq100 rfl rfl (qj HT_.out (by kernel_rfl)) (fun _ _ _ h => h) (Or.inl ⟨by rfl, ?_⟩) ?_ ?_
          rotate_left
          ·intro w'
           go_simp
           with_reducible rfl
          rotate_left
          ·simp only [Act.put, sq1, sq2, sq3, i64_w, i32_w]
           rfl
          refine pure_ (i := 14) (N := some 38) (v := ?_) (a' := ?_) bq154 rfl rfl (qj HT_.out (by kernel_rfl)) (fun _ _ _ h => h) (Or.inl ⟨by rfl, ?_⟩) ?_ ?_
          rotate_left
          ·intro w'
           go_simp
           with_reducible rfl
          rotate_left
          ·simp only [Act.put, sq1, sq2, sq3, i64_w, i32_w]
           rfl
          refine done_ (done_of HT_.out (by kernel_rfl)) ?_
          try go_wp2
          go_roundg k2
          case measure => have := HK1.out; have := HK2.out; omega
          case rel => exact ⟨(wrap64 (x8_2 + 1)), (by first | rfl | (simp; done) | (simp [*]; done)), H', ⟨by have := HK1.out; have := HK2.out; omega⟩, ⟨by (with_reducible repeat (first | apply Kd.R_alloc | apply Kd.R_drewN | apply Kd.R_drew)); exact HO_5.out⟩, ⟨by (with_reducible repeat (first | refine qh ?_ _ | refine qk ?_ | refine qi ?_ _)); exact BK111.out⟩, ⟨by repeat (first | (with_reducible first | exact HI0.out | apply IsS116.alloc | apply IsS116.drewN | apply IsS116.drew | apply IsS116.set_1 | apply (fun h_ => IsS116.far h_ NB0_111.out _)) | exact HI0.out)⟩, ⟨by repeat (first | (with_reducible first | exact HK.out | apply KeepBut.set_ | apply ql | apply qn | apply qm | refine qt ?_ GW111.out _) | exact HK.out)⟩, ⟨by repeat (first | (with_reducible first | exact HB.out | apply qc | apply qa | apply qb | refine qd ?_ (IsS116.ge HI0.out) | refine qd ?_ GE111.out) | exact HB.out)⟩⟩
         ·rw [if_neg c19] at H
          have c19b0 : decide (t114 < 0) = false := decide_eq_false c19
          clear c19
          by_cases c23 : ((((qg x5_1 x8_2).f0.f0).toList) == t106.toList && (((qg x5_1 x8_2).f0.f1) == t107 && (((qg x5_1 x8_2).f0.f2) == t108))) = true
          ·rw [if_pos c23] at H
           have c23b0 : ((((qg x5_1 x8_2).f0.f0).toList) == t106.toList && (((qg x5_1 x8_2).f0.f1) == t107 && (((qg x5_1 x8_2).f0.f2) == t108))) = true := c23
           (try (have c23b1 : decide ((((qg x5_1 x8_2).f0.f0).toList) = t106.toList && (((qg x5_1 x8_2).f0.f1) == t107 && (((qg x5_1 x8_2).f0.f2) == t108))) = true := by simpa using c23))
           (try (have c23b2 : ((((qg x5_1 x8_2).f0.f0).toList) == t106.toList && (((qg x5_1 x8_2).f0.f1) == t107 && (((qg x5_1 x8_2).f0.f2) == t108))) = true := by simpa using c23))
           clear c23
           have H' := Qz.mk H
           clear H
           try go_wp2
           replace HO_5 := Qz.mk (Kd.R_drew HO_5.out)
           replace BK111 := Qz.mk (qk BK111.out)
           replace HI0 := Qz.mk (IsS116.drew HI0.out)
           replace HK := Qz.mk (qn HK.out)
           replace HB := Qz.mk (qb HB.out)
           obtain ⟨Ao25, co25, eo25⟩ := Kd.R_slice HO_5.out
           (first | subst eo25 | (injection eo25 with f1_ f2_ f3_; have f4_ := f1_.symm; have f5_ := f3_.symm; clear f1_ f2_ f3_; subst f4_; subst f5_))
           have p113 : 0 ≤ (x8_2 : Int) := of_decide_eq_true (by first | (with_reducible assumption) | assumption)
           have q113 : x8_2 < (x5_1.length : Int) := of_decide_eq_true (by first | (with_reducible assumption) | assumption)
           obtain ⟨ad113, e113, hx113_0, hx113_1, hx113_2, hx113_3⟩ := at_T48 (Kd.R_reads' HO_5.out).2.2 x8_2 p113 q113
           cases e113
           replace p113 := eq_true p113
           replace q113 := eq_true q113
           refine start_ (n := 15) (S := fun w' => w'.cell? ⟨gb111, 0, none⟩ = some (.string t106) ∧ w'.cell? ⟨gb111, 1, none⟩ = some (.int .i64 t107) ∧ w'.cell? ⟨gb111, 2, none⟩ = some (.int .i64 t108) ∧ w'.cell? ⟨gb111, 3, none⟩ = some (.string t109) ∧ w'.cell? (ad113.add ((x8_2).toNat * 4)) = some (.string ((qg x5_1 x8_2).f0.f0)) ∧ w'.cell? ⟨(ad113.add ((x8_2).toNat * 4)).block, (ad113.add ((x8_2).toNat * 4)).off + 1, none⟩ = some (.int .i64 ((qg x5_1 x8_2).f0.f1)) ∧ w'.cell? ⟨(ad113.add ((x8_2).toNat * 4)).block, (ad113.add ((x8_2).toNat * 4)).off + 2, none⟩ = some (.int .i64 ((qg x5_1 x8_2).f0.f2)) ∧ w'.cell? ⟨(ad113.add ((x8_2).toNat * 4)).block, (ad113.add ((x8_2).toNat * 4)).off + 3, none⟩ = some (.string ((qg x5_1 x8_2).f1))) (ds := []) bq4 (by kernel_rfl) rfl rfl ⟨(qe BK111.out 0).trans rfl, (qe BK111.out 1).trans rfl, (qe BK111.out 2).trans rfl, (qe BK111.out 3).trans rfl, hx113_0, hx113_1, hx113_2, hx113_3⟩ (fun hHeld => ?_); refine with_tabW spec_l1Rd_entries.tab8 spec_l1Rd_entries.bits8 (fun HT_ HW_ => ?_)
           generalize wr.drew = w24 at HO_5 BK111 HI0 HK HB hx113_0 hx113_1 hx113_2 hx113_3 hHeld ⊢
           refine pure_ (i := 0) (N := some 24) (v := ?_) (a' := ?_) bq11 rfl rfl (qj HT_.out (by kernel_rfl)) (fun _ _ _ h => h) (Or.inl ⟨by rfl, ?_⟩) ?_ ?_
           rotate_left
           ·intro w'
            go_simp
            with_reducible rfl
           rotate_left
           ·simp only [Act.put, sq1, sq2, sq3, i64_w, i32_w]
            rfl
           refine pure_ (i := 1) (N := some 25) (v := ?_) (a' := ?_) bq18 rfl rfl (qj HT_.out (by kernel_rfl)) (fun _ _ _ h => h) (Or.inl ⟨by rfl, ?_⟩) ?_ ?_
           rotate_left
           ·intro w'
            go_simp
            with_reducible rfl
           rotate_left
           ·simp only [Act.put, sq1, sq2, sq3, i64_w, i32_w]
            rfl
           refine pure_ (i := 2) (N := some 26) (v := ?_) (a' := ?_) bq25 rfl rfl (qj HT_.out (by kernel_rfl)) (fun _ _ _ h => h) (Or.inl ⟨by rfl, ?_⟩) ?_ ?_
           rotate_left
           ·intro w'
            go_simp
            with_reducible rfl
           rotate_left
           ·simp only [Act.put, sq1, sq2, sq3, i64_w, i32_w]
            rfl
           refine pure_ (i := 3) (N := some 27) (v := ?_) (a' := ?_) bq32 rfl rfl (qj HT_.out (by kernel_rfl)) (fun _ _ _ h => h) (Or.inl ⟨by rfl, ?_⟩) ?_ ?_
           rotate_left
           ·intro w'
            go_simp
            with_reducible rfl
           rotate_left
           ·simp only [Act.put, sq1, sq2, sq3, i64_w, i32_w]
            rfl
           refine pure_ (i := 4) (N := some 28) (v := ?_) (a' := ?_) bq42 rfl rfl (qj HT_.out (by kernel_rfl)) (fun _ _ _ h => h) (Or.inl ⟨by rfl, ?_⟩) ?_ ?_
           rotate_left
           ·intro w'
            go_simp
            with_reducible rfl
           rotate_left
           ·simp only [Act.put, sq1, sq2, sq3, i64_w, i32_w]
            rfl
           refine pure_ (i := 5) (N := some 29) (v := ?_) (a' := ?_) bq48 rfl rfl (qj HT_.out (by kernel_rfl)) (fun _ _ _ h => h) (Or.inl ⟨by rfl, ?_⟩) ?_ ?_
           rotate_left
           ·intro w'
            go_simp
            with_reducible rfl
           rotate_left
           ·simp only [Act.put, sq1, sq2, sq3, i64_w, i32_w]
            rfl
           refine pure_ (i := 6) (N := some 30) (v := ?_) (a' := ?_) bq54 rfl rfl (qj HT_.out (by kernel_rfl)) (fun _ _ _ h => h) (Or.inl ⟨by rfl, ?_⟩) ?_ ?_
           rotate_left
           ·intro w'
            go_simp
            with_reducible rfl
           rotate_left
           ·simp only [Act.put, sq1, sq2, sq3, i64_w, i32_w]
            rfl
           refine pure_ (i := 7) (N := some 31) (v := ?_) (a' := ?_) bq60 rfl rfl (qj HT_.out (by kernel_rfl)) (fun _ _ _ h => h) (Or.inl ⟨by rfl, ?_⟩) ?_ ?_
           rotate_left
           ·intro w'
            go_simp
            with_reducible rfl
           rotate_left
           ·simp only [Act.put, sq1, sq2, sq3, i64_w, i32_w]
            rfl
           refine pure_ (i := 8) (N := some 32) (v := ?_) (a' := ?_) bq67 rfl rfl (qj HT_.out (by kernel_rfl)) (fun _ _ _ h => h) (Or.inl ⟨by rfl, ?_⟩) ?_ ?_
           rotate_left
           ·intro w'
            go_simp
            with_reducible rfl
           rotate_left
           ·simp only [Act.put, sq1, sq2, sq3, i64_w, i32_w]
            rfl
           refine pure_ (i := 10) (N := some 34) (v := ?_) (a' := ?_) bq69 rfl rfl (qj HT_.out (by kernel_rfl)) (fun _ _ _ h => h) (Or.inl ⟨by rfl, ?_⟩) ?_ ?_
           rotate_left
           ·intro w'
            go_simp
            with_reducible rfl
           rotate_left
           ·simp only [Act.put, sq1, sq2, sq3, i64_w, i32_w]
            rfl
           refine take_ (i := 9) (N := some 33) (v := ?_) (a' := ?_) bq80 rfl rfl (take_ofW HT_.out HW_.out (by kernel_rfl)) (fun _ _ _ h => h) (Or.inl ⟨by rfl, ?_⟩) hHeld ?_ ?_
           rotate_left
           ·rintro w' ⟨s0, s1, s2, s3, s4, s5, s6, s7⟩
            go_simp
            with_reducible rfl
           rotate_left
           ·simp only [Act.put, sq1, sq2, sq3, i64_w, i32_w]
            rfl
           refine take_ (i := 11) (N := some 35) (v := ?_) (a' := ?_) bq86 rfl rfl (take_ofW HT_.out HW_.out (by kernel_rfl)) (fun _ _ _ h => h) (Or.inl ⟨by rfl, ?_⟩) hHeld ?_ ?_
           rotate_left
           ·rintro w' ⟨s0, s1, s2, s3, s4, s5, s6, s7⟩
            go_simp
            with_reducible rfl
           rotate_left
           ·simp only [Act.put, sq1, sq2, sq3, i64_w, i32_w]
            rfl
           refine one_ (i := 12) (N := some 36) bq93 rfl rfl (one_of HT_.out (by kernel_rfl)) (by decide) (fun K hK => ?_)
           refine goes_ Try.func74 (by kernel_rfl) rfl #[.agg #[.string ((qg x5_1 x8_2).f0.f0), .int .i64 ((qg x5_1 x8_2).f0.f1), .int .i64 ((qg x5_1 x8_2).f0.f2)], .agg #[.string t106, .int .i64 t107, .int .i64 t108]] (by rfl) rfl rfl (by (try simp only [List.map_toArray, List.map_cons, List.map_nil]); first | done | rfl) ?_
           with_reducible refine (spec_KeyCmp.calls k2 ((qg x5_1 x8_2).f0.f0) ((qg x5_1 x8_2).f0.f1) ((qg x5_1 x8_2).f0.f2) t106 t107 t108 t114 _ A18.out).mono ?_
           rintro e w26 ⟨rfl, hb⟩
           have HS4_ := (hb.cell (World.block_lt_of_cell? _ _ (hHeld.2.2.2.2.1))).trans (hHeld.2.2.2.2.1)
           have HS5_ := (hb.cell (World.block_lt_of_cell? _ _ (hHeld.2.2.2.2.2.1))).trans (hHeld.2.2.2.2.2.1)
           have HS6_ := (hb.cell (World.block_lt_of_cell? _ _ (hHeld.2.2.2.2.2.2.1))).trans (hHeld.2.2.2.2.2.2.1)
           have HS7_ := (hb.cell (World.block_lt_of_cell? _ _ (hHeld.2.2.2.2.2.2.2))).trans (hHeld.2.2.2.2.2.2.2)
           refine ⟨_, rfl, ?_⟩
           replace HO_5 := Qz.mk (Kd.R_below (by (with_reducible repeat (first | apply Kd.R_alloc | apply Kd.R_drewN | apply Kd.R_drew)); exact HO_5.out) hb)
           replace BK111 := Qz.mk (qx (g := gb111) (o := .cells #[.string t106, .int .i64 t107, .int .i64 t108, .string t109] 48 (0, 0)) (by (with_reducible repeat (first | refine qh ?_ _ | refine qk ?_ | refine qi ?_ _)); exact BK111.out) hb)
           replace HK := Qz.mk (KeepBut.trans (by repeat (first | (with_reducible first | exact HK.out | apply KeepBut.set_ | apply ql | apply qn | apply qm | refine qt ?_ GW111.out _) | exact HK.out)) (KeepBut.of_below hb g none) (.inl rfl))
           replace HB := Qz.mk (qr (by repeat (first | (with_reducible first | exact HB.out | apply qc | apply qa | apply qb | refine qd ?_ (IsS116.ge HI0.out) | refine qd ?_ GE111.out) | exact HB.out)) hb)
           replace HI0 := Qz.mk (IsS116.below (by repeat (first | (with_reducible first | exact HI0.out | apply IsS116.alloc | apply IsS116.drewN | apply IsS116.drew | apply IsS116.set_1 | apply (fun h_ => IsS116.far h_ NB0_111.out _)) | exact HI0.out)) hb)
           (try clear hb)
           (try clear hk)
           (try clear hi)
           refine hK.out _ _ ⟨(qe BK111.out 0).trans rfl, (qe BK111.out 1).trans rfl, (qe BK111.out 2).trans rfl, (qe BK111.out 3).trans rfl, HS4_, HS5_, HS6_, HS7_⟩ (fun hHeld => ?_)
           clear hK K
           refine norm_ (a' := ?_) ?_ ?_
           rotate_left
           ·show Act.put _ (some 36) _ = _
            simp only [Act.put, sq1, sq2, sq3, i64_w, i32_w]
            rfl
           refine pure_ (i := 13) (N := some 37) (v := ?_) (a' := ?_) bq100 rfl rfl (qj HT_.out (by kernel_rfl)) (fun _ _ _ h => h) (Or.inl ⟨by rfl, ?_⟩) ?_ ?_
           rotate_left
           ·intro w'
            go_simp
            with_reducible rfl
           rotate_left
           ·simp only [Act.put, sq1, sq2, sq3, i64_w, i32_w]
            rfl
           refine pure_ (i := 14) (N := some 38) (v := ?_) (a' := ?_) bq154 rfl rfl (qj HT_.out (by kernel_rfl)) (fun _ _ _ h => h) (Or.inl ⟨by rfl, ?_⟩) ?_ ?_
           rotate_left
           ·intro w'
            go_simp
            with_reducible rfl
           rotate_left
           ·simp only [Act.put, sq1, sq2, sq3, i64_w, i32_w]
            rfl
           refine done_ (done_of HT_.out (by kernel_rfl)) ?_
           try go_wp2
           replace HO_5 := Qz.mk (Kd.R_drew HO_5.out)
           replace BK111 := Qz.mk (qk BK111.out)
           replace HI0 := Qz.mk (IsS116.drew HI0.out)
           replace HK := Qz.mk (qn HK.out)
           replace HB := Qz.mk (qb HB.out)
           have p115 : 0 ≤ (x8_2 : Int) := of_decide_eq_true (by first | (with_reducible assumption) | assumption)
           have q115 : x8_2 < (x5_1.length : Int) := of_decide_eq_true (by first | (with_reducible assumption) | assumption)
           obtain ⟨ad115, e115, hx115_0, hx115_1, hx115_2, hx115_3⟩ := at_T48 (Kd.R_reads' HO_5.out).2.2 x8_2 p115 q115
           obtain rfl : ad113 = ad115 := (by injection e115)
           replace p115 := eq_true p115
           replace q115 := eq_true q115
           refine start_ (n := 14) (S := fun w' => w'.cell? ⟨gb111, 0, none⟩ = some (.string t106) ∧ w'.cell? ⟨gb111, 1, none⟩ = some (.int .i64 t107) ∧ w'.cell? ⟨gb111, 2, none⟩ = some (.int .i64 t108) ∧ w'.cell? ⟨gb111, 3, none⟩ = some (.string t109) ∧ w'.cell? (ad113.add ((x8_2).toNat * 4)) = some (.string ((qg x5_1 x8_2).f0.f0)) ∧ w'.cell? ⟨(ad113.add ((x8_2).toNat * 4)).block, (ad113.add ((x8_2).toNat * 4)).off + 1, none⟩ = some (.int .i64 ((qg x5_1 x8_2).f0.f1)) ∧ w'.cell? ⟨(ad113.add ((x8_2).toNat * 4)).block, (ad113.add ((x8_2).toNat * 4)).off + 2, none⟩ = some (.int .i64 ((qg x5_1 x8_2).f0.f2)) ∧ w'.cell? ⟨(ad113.add ((x8_2).toNat * 4)).block, (ad113.add ((x8_2).toNat * 4)).off + 3, none⟩ = some (.string ((qg x5_1 x8_2).f1))) (ds := []) bq5 (by kernel_rfl) rfl rfl ⟨(qe BK111.out 0).trans rfl, (qe BK111.out 1).trans rfl, (qe BK111.out 2).trans rfl, (qe BK111.out 3).trans rfl, hx115_0, hx115_1, hx115_2, hx115_3⟩ (fun hHeld => ?_); refine with_tabW spec_l1Rd_entries.tab10 spec_l1Rd_entries.bits10 (fun HT_ HW_ => ?_)
           generalize w26.drew = w27 at HO_5 BK111 HI0 HK HB hx115_0 hx115_1 hx115_2 hx115_3 hHeld ⊢
           refine pure_ (i := 0) (N := some 41) (v := ?_) (a' := ?_) bq12 rfl rfl (qj HT_.out (by kernel_rfl)) (fun _ _ _ h => h) (Or.inl ⟨by rfl, ?_⟩) ?_ ?_
           rotate_left
           ·intro w'
            go_simp
            with_reducible rfl
           rotate_left
           ·simp only [Act.put, sq1, sq2, sq3, i64_w, i32_w]
            rfl
           refine pure_ (i := 1) (N := some 42) (v := ?_) (a' := ?_) bq19 rfl rfl (qj HT_.out (by kernel_rfl)) (fun _ _ _ h => h) (Or.inl ⟨by rfl, ?_⟩) ?_ ?_
           rotate_left
           ·intro w'
            go_simp
            with_reducible rfl
           rotate_left
           ·simp only [Act.put, sq1, sq2, sq3, i64_w, i32_w]
            rfl
           refine pure_ (i := 2) (N := some 43) (v := ?_) (a' := ?_) bq26 rfl rfl (qj HT_.out (by kernel_rfl)) (fun _ _ _ h => h) (Or.inl ⟨by rfl, ?_⟩) ?_ ?_
           rotate_left
           ·intro w'
            go_simp
            with_reducible rfl
           rotate_left
           ·simp only [Act.put, sq1, sq2, sq3, i64_w, i32_w]
            rfl
           refine pure_ (i := 3) (N := some 44) (v := ?_) (a' := ?_) bq33 rfl rfl (qj HT_.out (by kernel_rfl)) (fun _ _ _ h => h) (Or.inl ⟨by rfl, ?_⟩) ?_ ?_
           rotate_left
           ·intro w'
            go_simp
            with_reducible rfl
           rotate_left
           ·simp only [Act.put, sq1, sq2, sq3, i64_w, i32_w]
            rfl
           refine pure_ (i := 4) (N := some 45) (v := ?_) (a' := ?_) bq43 rfl rfl (qj HT_.out (by kernel_rfl)) (fun _ _ _ h => h) (Or.inl ⟨by rfl, ?_⟩) ?_ ?_
           rotate_left
           ·intro w'
            go_simp
            with_reducible rfl
           rotate_left
           ·simp only [Act.put, sq1, sq2, sq3, i64_w, i32_w]
            rfl
           refine pure_ (i := 5) (N := some 46) (v := ?_) (a' := ?_) bq49 rfl rfl (qj HT_.out (by kernel_rfl)) (fun _ _ _ h => h) (Or.inl ⟨by rfl, ?_⟩) ?_ ?_
           rotate_left
           ·intro w'
            go_simp
            with_reducible rfl
           rotate_left
           ·simp only [Act.put, sq1, sq2, sq3, i64_w, i32_w]
            rfl
           refine pure_ (i := 6) (N := some 47) (v := ?_) (a' := ?_) bq55 rfl rfl (qj HT_.out (by kernel_rfl)) (fun _ _ _ h => h) (Or.inl ⟨by rfl, ?_⟩) ?_ ?_
           rotate_left
           ·intro w'
            go_simp
            with_reducible rfl
           rotate_left
           ·simp only [Act.put, sq1, sq2, sq3, i64_w, i32_w]
            rfl
           refine pure_ (i := 7) (N := some 48) (v := ?_) (a' := ?_) bq61 rfl rfl (qj HT_.out (by kernel_rfl)) (fun _ _ _ h => h) (Or.inl ⟨by rfl, ?_⟩) ?_ ?_
           rotate_left
           ·intro w'
            go_simp
            with_reducible rfl
           rotate_left
           ·simp only [Act.put, sq1, sq2, sq3, i64_w, i32_w]
            rfl
           refine pure_ (i := 8) (N := some 49) (v := ?_) (a' := ?_) bq68 rfl rfl (qj HT_.out (by kernel_rfl)) (fun _ _ _ h => h) (Or.inl ⟨by rfl, ?_⟩) ?_ ?_
           rotate_left
           ·intro w'
            go_simp
            with_reducible rfl
           rotate_left
           ·simp only [Act.put, sq1, sq2, sq3, i64_w, i32_w]
            rfl
           refine pure_ (i := 10) (N := some 51) (v := ?_) (a' := ?_) bq70 rfl rfl (qj HT_.out (by kernel_rfl)) (fun _ _ _ h => h) (Or.inl ⟨by rfl, ?_⟩) ?_ ?_
           rotate_left
           ·intro w'
            go_simp
            with_reducible rfl
           rotate_left
           ·simp only [Act.put, sq1, sq2, sq3, i64_w, i32_w]
            rfl
           refine take_ (i := 9) (N := some 50) (v := ?_) (a' := ?_) bq81 rfl rfl (take_ofW HT_.out HW_.out (by kernel_rfl)) (fun _ _ _ h => h) (Or.inl ⟨by rfl, ?_⟩) hHeld ?_ ?_
           rotate_left
           ·rintro w' ⟨s0, s1, s2, s3, s4, s5, s6, s7⟩
            go_simp
            with_reducible rfl
           rotate_left
           ·simp only [Act.put, sq1, sq2, sq3, i64_w, i32_w]
            rfl
           refine take_ (i := 11) (N := some 52) (v := ?_) (a' := ?_) bq87 rfl rfl (take_ofW HT_.out HW_.out (by kernel_rfl)) (fun _ _ _ h => h) (Or.inl ⟨by rfl, ?_⟩) hHeld ?_ ?_
           rotate_left
           ·rintro w' ⟨s0, s1, s2, s3, s4, s5, s6, s7⟩
            go_simp
            with_reducible rfl
           rotate_left
           ·simp only [Act.put, sq1, sq2, sq3, i64_w, i32_w]
            rfl
           refine pure_ (i := 12) (N := some 53) (v := ?_) (a' := ?_) bq94 rfl rfl (qj HT_.out (by kernel_rfl)) (fun _ _ _ h => h) (Or.inl ⟨by rfl, ?_⟩) ?_ ?_
           rotate_left
           ·intro w'
            go_simp
            with_reducible rfl
           rotate_left
           ·simp only [Act.put, sq1, sq2, sq3, i64_w, i32_w]
            rfl
           refine pure_ (i := 13) (N := some 54) (v := ?_) (a' := ?_) bq155 rfl rfl (qj HT_.out (by kernel_rfl)) (fun _ _ _ h => h) (Or.inl ⟨by rfl, ?_⟩) ?_ ?_
           rotate_left
           ·intro w'
            go_simp
            with_reducible rfl
           rotate_left
           ·simp only [Act.put, sq1, sq2, sq3, i64_w, i32_w]
            rfl
           refine done_ (done_of HT_.out (by kernel_rfl)) ?_
           try go_wp2
           go_roundg k2
           case measure => have := HK1.out; have := HK2.out; omega
           case rel => exact ⟨(x5_1), (wrap64 (x6_1 - 1)), (t110), (by first | rfl | (simp; done) | (simp [*]; done)), H', ⟨by have := HK1.out; have := HK2.out; omega⟩, ⟨by (with_reducible repeat (first | apply Kd.R_alloc | apply Kd.R_drewN | apply Kd.R_drew)); exact Kd.R_mono HO_5.out (fun _ hk => trivial)⟩, ⟨by repeat (first | (with_reducible first | exact HI0.out | apply IsS116.alloc | apply IsS116.drewN | apply IsS116.drew | apply IsS116.set_1 | apply (fun h_ => IsS116.far h_ NB0_111.out _)) | exact HI0.out)⟩, ⟨by repeat (first | (with_reducible first | exact HK.out | apply KeepBut.set_ | apply ql | apply qn | apply qm | refine qt ?_ GW111.out _) | exact HK.out)⟩, ⟨by repeat (first | (with_reducible first | exact HB.out | apply qc | apply qa | apply qb | refine qd ?_ (IsS116.ge HI0.out) | refine qd ?_ GE111.out) | exact HB.out)⟩⟩
          ·rw [if_neg c23] at H
           have c23b0 : ((((qg x5_1 x8_2).f0.f0).toList) == t106.toList && (((qg x5_1 x8_2).f0.f1) == t107 && (((qg x5_1 x8_2).f0.f2) == t108))) = false := by simpa using c23
           (try (have c23b1 : decide ((((qg x5_1 x8_2).f0.f0).toList) = t106.toList && (((qg x5_1 x8_2).f0.f1) == t107 && (((qg x5_1 x8_2).f0.f2) == t108))) = false := by simpa using c23))
           (try (have c23b2 : ((((qg x5_1 x8_2).f0.f0).toList) == t106.toList && (((qg x5_1 x8_2).f0.f1) == t107 && (((qg x5_1 x8_2).f0.f2) == t108))) = false := by simpa using c23))
           (try (have c23b3 : ¬ ((((qg x5_1 x8_2).f0.f0).toList) = t106.toList && (((qg x5_1 x8_2).f0.f1) == t107 && (((qg x5_1 x8_2).f0.f2) == t108))) := by simpa using c23))
           clear c23
           obtain ⟨y116, hy116⟩ : ∃ y_ : List (S48), y_ = (([] : List (S48))) := ⟨_, rfl⟩
           replace H : (if x8_2 ≤ (x5_1.length : Int) then ((some (x5_1.take (x8_2 : Int).toNat : List (S48))).bind fun y119 => (if y116.length + y119.length < 2932031007402 then ((some (y116 ++ y119 : List (S48))).bind fun y123 => (if y123.length < 2932031007402 then ((some (y123 ++ [(⟨(⟨t106, t107, t108⟩ : S46), t109⟩ : S48)] : List (S48))).bind fun y126 => ((some (x5_1.drop (x8_2 : Int).toNat : List (S48))).bind fun y129 => (if y126.length + y129.length < 2932031007402 then (spec_l1Rd_entries.l0 k2 (y126 ++ y129) (wrap64 (x6_1 - 1)) s0_0 t110) else (none)))) else (none))) else (none))) else (none)) = some (r1, r2) := by first | (rw [hy116]; with_reducible exact H) | (have H2_ := (Option.bind_some _ _).symm.trans H; rw [hy116]; with_reducible exact H2_) | (have H2_ := (Option.bind_some _ _).symm.trans H; with_reducible exact H2_) | with_reducible exact H | (rw [hy116]; exact H) | exact H
           have Ny116 := Qz.mk hy116
           clear hy116
           have c28b0 := eq_true (of_decide_eq_true (by first | (with_reducible assumption) | assumption) : 0 ≤ x8_2)
           by_cases c29 : x8_2 ≤ (x5_1.length : Int)
           ·rw [if_pos c29] at H
            have c29b0 := eq_true c29
            have c29b1 : decide (x8_2 ≤ (x5_1.length : Int)) = true := decide_eq_true c29
            clear c29
            obtain ⟨y119, hy119⟩ : ∃ y_ : List (S48), y_ = (x5_1.take (x8_2 : Int).toNat) := ⟨_, rfl⟩
            replace H : (if y116.length + y119.length < 2932031007402 then ((some (y116 ++ y119 : List (S48))).bind fun y123 => (if y123.length < 2932031007402 then ((some (y123 ++ [(⟨(⟨t106, t107, t108⟩ : S46), t109⟩ : S48)] : List (S48))).bind fun y126 => ((some (x5_1.drop (x8_2 : Int).toNat : List (S48))).bind fun y129 => (if y126.length + y129.length < 2932031007402 then (spec_l1Rd_entries.l0 k2 (y126 ++ y129) (wrap64 (x6_1 - 1)) s0_0 t110) else (none)))) else (none))) else (none)) = some (r1, r2) := by first | (rw [hy119]; with_reducible exact H) | (have H2_ := (Option.bind_some _ _).symm.trans H; rw [hy119]; with_reducible exact H2_) | (have H2_ := (Option.bind_some _ _).symm.trans H; with_reducible exact H2_) | with_reducible exact H | (rw [hy119]; exact H) | exact H
            have Ny119 := Qz.mk hy119
            clear hy119
            by_cases c30 : y116.length + y119.length < 2932031007402
            ·rw [if_pos c30] at H
             have LMc30 := Qz.mk c30
             clear c30
             obtain ⟨y123, hy123⟩ : ∃ y_ : List (S48), y_ = (y116 ++ y119) := ⟨_, rfl⟩
             replace H : (if y123.length < 2932031007402 then ((some (y123 ++ [(⟨(⟨t106, t107, t108⟩ : S46), t109⟩ : S48)] : List (S48))).bind fun y126 => ((some (x5_1.drop (x8_2 : Int).toNat : List (S48))).bind fun y129 => (if y126.length + y129.length < 2932031007402 then (spec_l1Rd_entries.l0 k2 (y126 ++ y129) (wrap64 (x6_1 - 1)) s0_0 t110) else (none)))) else (none)) = some (r1, r2) := by first | (rw [hy123]; with_reducible exact H) | (have H2_ := (Option.bind_some _ _).symm.trans H; rw [hy123]; with_reducible exact H2_) | (have H2_ := (Option.bind_some _ _).symm.trans H; with_reducible exact H2_) | with_reducible exact H | (rw [hy123]; exact H) | exact H
             have Ny123 := Qz.mk hy123
             clear hy123
             by_cases c31 : y123.length < 2932031007402
             ·rw [if_pos c31] at H
              have LMc31 := Qz.mk c31
              clear c31
              obtain ⟨y126, hy126⟩ : ∃ y_ : List (S48), y_ = (y123 ++ [(⟨(⟨t106, t107, t108⟩ : S46), t109⟩ : S48)]) := ⟨_, rfl⟩
              replace H : ((some (x5_1.drop (x8_2 : Int).toNat : List (S48))).bind fun y129 => (if y126.length + y129.length < 2932031007402 then (spec_l1Rd_entries.l0 k2 (y126 ++ y129) (wrap64 (x6_1 - 1)) s0_0 t110) else (none))) = some (r1, r2) := by first | (rw [hy126]; with_reducible exact H) | (have H2_ := (Option.bind_some _ _).symm.trans H; rw [hy126]; with_reducible exact H2_) | (have H2_ := (Option.bind_some _ _).symm.trans H; with_reducible exact H2_) | with_reducible exact H | (rw [hy126]; exact H) | exact H
              have Ny126 := Qz.mk hy126
              clear hy126
              have c32b0 := eq_true (of_decide_eq_true (by first | (with_reducible assumption) | assumption) : 0 ≤ x8_2)
              have c33b0 := eq_true (of_decide_eq_true (by first | (with_reducible assumption) | assumption) : x8_2 ≤ (x5_1.length : Int))
              obtain ⟨y129, hy129⟩ : ∃ y_ : List (S48), y_ = (x5_1.drop (x8_2 : Int).toNat) := ⟨_, rfl⟩
              replace H : (if y126.length + y129.length < 2932031007402 then (spec_l1Rd_entries.l0 k2 (y126 ++ y129) (wrap64 (x6_1 - 1)) s0_0 t110) else (none)) = some (r1, r2) := by first | (rw [hy129]; with_reducible exact H) | (have H2_ := (Option.bind_some _ _).symm.trans H; rw [hy129]; with_reducible exact H2_) | (have H2_ := (Option.bind_some _ _).symm.trans H; with_reducible exact H2_) | with_reducible exact H | (rw [hy129]; exact H) | exact H
              have Ny129 := Qz.mk hy129
              clear hy129
              by_cases c34 : y126.length + y129.length < 2932031007402
              ·rw [if_pos c34] at H
               have LMc34 := Qz.mk c34
               clear c34
               obtain ⟨y133, hy133⟩ : ∃ y_ : List (S48), y_ = (y126 ++ y129) := ⟨_, rfl⟩
               replace H : (spec_l1Rd_entries.l0 k2 y133 (wrap64 (x6_1 - 1)) s0_0 t110) = some (r1, r2) := by first | (rw [hy133]; with_reducible exact H) | (have H2_ := (Option.bind_some _ _).symm.trans H; rw [hy133]; with_reducible exact H2_) | (have H2_ := (Option.bind_some _ _).symm.trans H; with_reducible exact H2_) | with_reducible exact H | (rw [hy133]; exact H) | exact H
               have Ny133 := Qz.mk hy133
               clear hy133
               have H' := Qz.mk H
               clear H
               try go_wp2
               replace HO_5 := Qz.mk (Kd.R_drew HO_5.out)
               replace BK111 := Qz.mk (qk BK111.out)
               replace HI0 := Qz.mk (IsS116.drew HI0.out)
               replace HK := Qz.mk (qn HK.out)
               replace HB := Qz.mk (qb HB.out)
               obtain ⟨Ao36, co36, eo36⟩ := Kd.R_slice HO_5.out
               (first | subst eo36 | (injection eo36 with f1_ f2_ f3_; have f4_ := f1_.symm; have f5_ := f3_.symm; clear f1_ f2_ f3_; subst f4_; subst f5_))
               have p113 : 0 ≤ (x8_2 : Int) := of_decide_eq_true (by first | (with_reducible assumption) | assumption)
               have q113 : x8_2 < (x5_1.length : Int) := of_decide_eq_true (by first | (with_reducible assumption) | assumption)
               obtain ⟨ad113, e113, hx113_0, hx113_1, hx113_2, hx113_3⟩ := at_T48 (Kd.R_reads' HO_5.out).2.2 x8_2 p113 q113
               cases e113
               replace p113 := eq_true p113
               replace q113 := eq_true q113
               refine start_ (n := 15) (S := fun w' => w'.cell? ⟨gb111, 0, none⟩ = some (.string t106) ∧ w'.cell? ⟨gb111, 1, none⟩ = some (.int .i64 t107) ∧ w'.cell? ⟨gb111, 2, none⟩ = some (.int .i64 t108) ∧ w'.cell? ⟨gb111, 3, none⟩ = some (.string t109) ∧ w'.cell? (ad113.add ((x8_2).toNat * 4)) = some (.string ((qg x5_1 x8_2).f0.f0)) ∧ w'.cell? ⟨(ad113.add ((x8_2).toNat * 4)).block, (ad113.add ((x8_2).toNat * 4)).off + 1, none⟩ = some (.int .i64 ((qg x5_1 x8_2).f0.f1)) ∧ w'.cell? ⟨(ad113.add ((x8_2).toNat * 4)).block, (ad113.add ((x8_2).toNat * 4)).off + 2, none⟩ = some (.int .i64 ((qg x5_1 x8_2).f0.f2)) ∧ w'.cell? ⟨(ad113.add ((x8_2).toNat * 4)).block, (ad113.add ((x8_2).toNat * 4)).off + 3, none⟩ = some (.string ((qg x5_1 x8_2).f1))) (ds := []) bq4 (by kernel_rfl) rfl rfl ⟨(qe BK111.out 0).trans rfl, (qe BK111.out 1).trans rfl, (qe BK111.out 2).trans rfl, (qe BK111.out 3).trans rfl, hx113_0, hx113_1, hx113_2, hx113_3⟩ (fun hHeld => ?_); refine with_tabW spec_l1Rd_entries.tab8 spec_l1Rd_entries.bits8 (fun HT_ HW_ => ?_)
               generalize wr.drew = w35 at HO_5 BK111 HI0 HK HB hx113_0 hx113_1 hx113_2 hx113_3 hHeld ⊢
               refine pure_ (i := 0) (N := some 24) (v := ?_) (a' := ?_) bq11 rfl rfl (qj HT_.out (by kernel_rfl)) (fun _ _ _ h => h) (Or.inl ⟨by rfl, ?_⟩) ?_ ?_
               rotate_left
               ·intro w'
                go_simp
                with_reducible rfl
               rotate_left
               ·simp only [Act.put, sq1, sq2, sq3, i64_w, i32_w]
                rfl
               refine pure_ (i := 1) (N := some 25) (v := ?_) (a' := ?_) bq18 rfl rfl (qj HT_.out (by kernel_rfl)) (fun _ _ _ h => h) (Or.inl ⟨by rfl, ?_⟩) ?_ ?_
               rotate_left
               ·intro w'
                go_simp
                with_reducible rfl
               rotate_left
               ·simp only [Act.put, sq1, sq2, sq3, i64_w, i32_w]
                rfl
               refine pure_ (i := 2) (N := some 26) (v := ?_) (a' := ?_) bq25 rfl rfl (qj HT_.out (by kernel_rfl)) (fun _ _ _ h => h) (Or.inl ⟨by rfl, ?_⟩) ?_ ?_
               rotate_left
               ·intro w'
                go_simp
                with_reducible rfl
               rotate_left
               ·simp only [Act.put, sq1, sq2, sq3, i64_w, i32_w]
                rfl
               refine pure_ (i := 3) (N := some 27) (v := ?_) (a' := ?_) bq32 rfl rfl (qj HT_.out (by kernel_rfl)) (fun _ _ _ h => h) (Or.inl ⟨by rfl, ?_⟩) ?_ ?_
               rotate_left
               ·intro w'
                go_simp
                with_reducible rfl
               rotate_left
               ·simp only [Act.put, sq1, sq2, sq3, i64_w, i32_w]
                rfl
               refine pure_ (i := 4) (N := some 28) (v := ?_) (a' := ?_) bq42 rfl rfl (qj HT_.out (by kernel_rfl)) (fun _ _ _ h => h) (Or.inl ⟨by rfl, ?_⟩) ?_ ?_
               rotate_left
               ·intro w'
                go_simp
                with_reducible rfl
               rotate_left
               ·simp only [Act.put, sq1, sq2, sq3, i64_w, i32_w]
                rfl
               refine pure_ (i := 5) (N := some 29) (v := ?_) (a' := ?_) bq48 rfl rfl (qj HT_.out (by kernel_rfl)) (fun _ _ _ h => h) (Or.inl ⟨by rfl, ?_⟩) ?_ ?_
               rotate_left
               ·intro w'
                go_simp
                with_reducible rfl
               rotate_left
               ·simp only [Act.put, sq1, sq2, sq3, i64_w, i32_w]
                rfl
               refine pure_ (i := 6) (N := some 30) (v := ?_) (a' := ?_) bq54 rfl rfl (qj HT_.out (by kernel_rfl)) (fun _ _ _ h => h) (Or.inl ⟨by rfl, ?_⟩) ?_ ?_
               rotate_left
               ·intro w'
                go_simp
                with_reducible rfl
               rotate_left
               ·simp only [Act.put, sq1, sq2, sq3, i64_w, i32_w]
                rfl
               refine pure_ (i := 7) (N := some 31) (v := ?_) (a' := ?_) bq60 rfl rfl (qj HT_.out (by kernel_rfl)) (fun _ _ _ h => h) (Or.inl ⟨by rfl, ?_⟩) ?_ ?_
               rotate_left
               ·intro w'
                go_simp
                with_reducible rfl
               rotate_left
               ·simp only [Act.put, sq1, sq2, sq3, i64_w, i32_w]
                rfl
               refine pure_ (i := 8) (N := some 32) (v := ?_) (a' := ?_) bq67 rfl rfl (qj HT_.out (by kernel_rfl)) (fun _ _ _ h => h) (Or.inl ⟨by rfl, ?_⟩) ?_ ?_
               rotate_left
               ·intro w'
                go_simp
                with_reducible rfl
               rotate_left
               ·simp only [Act.put, sq1, sq2, sq3, i64_w, i32_w]
                rfl
               refine pure_ (i := 10) (N := some 34) (v := ?_) (a' := ?_) bq69 rfl rfl (qj HT_.out (by kernel_rfl)) (fun _ _ _ h => h) (Or.inl ⟨by rfl, ?_⟩) ?_ ?_
               rotate_left
               ·intro w'
                go_simp
                with_reducible rfl
               rotate_left
               ·simp only [Act.put, sq1, sq2, sq3, i64_w, i32_w]
                rfl
               refine take_ (i := 9) (N := some 33) (v := ?_) (a' := ?_) bq80 rfl rfl (take_ofW HT_.out HW_.out (by kernel_rfl)) (fun _ _ _ h => h) (Or.inl ⟨by rfl, ?_⟩) hHeld ?_ ?_
               rotate_left
               ·rintro w' ⟨s0, s1, s2, s3, s4, s5, s6, s7⟩
                go_simp
                with_reducible rfl
               rotate_left
               ·simp only [Act.put, sq1, sq2, sq3, i64_w, i32_w]
                rfl
               refine take_ (i := 11) (N := some 35) (v := ?_) (a' := ?_) bq86 rfl rfl (take_ofW HT_.out HW_.out (by kernel_rfl)) (fun _ _ _ h => h) (Or.inl ⟨by rfl, ?_⟩) hHeld ?_ ?_
               rotate_left
               ·rintro w' ⟨s0, s1, s2, s3, s4, s5, s6, s7⟩
                go_simp
                with_reducible rfl
               rotate_left
               ·simp only [Act.put, sq1, sq2, sq3, i64_w, i32_w]
                rfl
               refine one_ (i := 12) (N := some 36) bq93 rfl rfl (one_of HT_.out (by kernel_rfl)) (by decide) (fun K hK => ?_)
               refine goes_ Try.func74 (by kernel_rfl) rfl #[.agg #[.string ((qg x5_1 x8_2).f0.f0), .int .i64 ((qg x5_1 x8_2).f0.f1), .int .i64 ((qg x5_1 x8_2).f0.f2)], .agg #[.string t106, .int .i64 t107, .int .i64 t108]] (by rfl) rfl rfl (by (try simp only [List.map_toArray, List.map_cons, List.map_nil]); first | done | rfl) ?_
               with_reducible refine (spec_KeyCmp.calls k2 ((qg x5_1 x8_2).f0.f0) ((qg x5_1 x8_2).f0.f1) ((qg x5_1 x8_2).f0.f2) t106 t107 t108 t114 _ A18.out).mono ?_
               rintro e w37 ⟨rfl, hb⟩
               have HS4_ := (hb.cell (World.block_lt_of_cell? _ _ (hHeld.2.2.2.2.1))).trans (hHeld.2.2.2.2.1)
               have HS5_ := (hb.cell (World.block_lt_of_cell? _ _ (hHeld.2.2.2.2.2.1))).trans (hHeld.2.2.2.2.2.1)
               have HS6_ := (hb.cell (World.block_lt_of_cell? _ _ (hHeld.2.2.2.2.2.2.1))).trans (hHeld.2.2.2.2.2.2.1)
               have HS7_ := (hb.cell (World.block_lt_of_cell? _ _ (hHeld.2.2.2.2.2.2.2))).trans (hHeld.2.2.2.2.2.2.2)
               refine ⟨_, rfl, ?_⟩
               replace HO_5 := Qz.mk (Kd.R_below (by (with_reducible repeat (first | apply Kd.R_alloc | apply Kd.R_drewN | apply Kd.R_drew)); exact HO_5.out) hb)
               replace BK111 := Qz.mk (qx (g := gb111) (o := .cells #[.string t106, .int .i64 t107, .int .i64 t108, .string t109] 48 (0, 0)) (by (with_reducible repeat (first | refine qh ?_ _ | refine qk ?_ | refine qi ?_ _)); exact BK111.out) hb)
               replace HK := Qz.mk (KeepBut.trans (by repeat (first | (with_reducible first | exact HK.out | apply KeepBut.set_ | apply ql | apply qn | apply qm | refine qt ?_ GW111.out _) | exact HK.out)) (KeepBut.of_below hb g none) (.inl rfl))
               replace HB := Qz.mk (qr (by repeat (first | (with_reducible first | exact HB.out | apply qc | apply qa | apply qb | refine qd ?_ (IsS116.ge HI0.out) | refine qd ?_ GE111.out) | exact HB.out)) hb)
               replace HI0 := Qz.mk (IsS116.below (by repeat (first | (with_reducible first | exact HI0.out | apply IsS116.alloc | apply IsS116.drewN | apply IsS116.drew | apply IsS116.set_1 | apply (fun h_ => IsS116.far h_ NB0_111.out _)) | exact HI0.out)) hb)
               (try clear hb)
               (try clear hk)
               (try clear hi)
               refine hK.out _ _ ⟨(qe BK111.out 0).trans rfl, (qe BK111.out 1).trans rfl, (qe BK111.out 2).trans rfl, (qe BK111.out 3).trans rfl, HS4_, HS5_, HS6_, HS7_⟩ (fun hHeld => ?_)
               clear hK K
               refine norm_ (a' := ?_) ?_ ?_
               rotate_left
               ·show Act.put _ (some 36) _ = _
                simp only [Act.put, sq1, sq2, sq3, i64_w, i32_w]
                rfl
               refine pure_ (i := 13) (N := some 37) (v := ?_) (a' := ?_) bq100 rfl rfl (qj HT_.out (by kernel_rfl)) (fun _ _ _ h => h) (Or.inl ⟨by rfl, ?_⟩) ?_ ?_
               rotate_left
               ·intro w'
                go_simp
                with_reducible rfl
               rotate_left
               ·simp only [Act.put, sq1, sq2, sq3, i64_w, i32_w]
                rfl
               refine pure_ (i := 14) (N := some 38) (v := ?_) (a' := ?_) bq154 rfl rfl (qj HT_.out (by kernel_rfl)) (fun _ _ _ h => h) (Or.inl ⟨by rfl, ?_⟩) ?_ ?_
               rotate_left
               ·intro w'
                go_simp
                with_reducible rfl
               rotate_left
               ·simp only [Act.put, sq1, sq2, sq3, i64_w, i32_w]
                rfl
               refine done_ (done_of HT_.out (by kernel_rfl)) ?_
               try go_wp2
               replace HO_5 := Qz.mk (Kd.R_drew HO_5.out)
               replace BK111 := Qz.mk (qk BK111.out)
               replace HI0 := Qz.mk (IsS116.drew HI0.out)
               replace HK := Qz.mk (qn HK.out)
               replace HB := Qz.mk (qb HB.out)
               have p115 : 0 ≤ (x8_2 : Int) := of_decide_eq_true (by first | (with_reducible assumption) | assumption)
               have q115 : x8_2 < (x5_1.length : Int) := of_decide_eq_true (by first | (with_reducible assumption) | assumption)
               obtain ⟨ad115, e115, hx115_0, hx115_1, hx115_2, hx115_3⟩ := at_T48 (Kd.R_reads' HO_5.out).2.2 x8_2 p115 q115
               obtain rfl : ad113 = ad115 := (by injection e115)
               replace p115 := eq_true p115
               replace q115 := eq_true q115
               refine start_ (n := 14) (S := fun w' => w'.cell? ⟨gb111, 0, none⟩ = some (.string t106) ∧ w'.cell? ⟨gb111, 1, none⟩ = some (.int .i64 t107) ∧ w'.cell? ⟨gb111, 2, none⟩ = some (.int .i64 t108) ∧ w'.cell? ⟨gb111, 3, none⟩ = some (.string t109) ∧ w'.cell? (ad113.add ((x8_2).toNat * 4)) = some (.string ((qg x5_1 x8_2).f0.f0)) ∧ w'.cell? ⟨(ad113.add ((x8_2).toNat * 4)).block, (ad113.add ((x8_2).toNat * 4)).off + 1, none⟩ = some (.int .i64 ((qg x5_1 x8_2).f0.f1)) ∧ w'.cell? ⟨(ad113.add ((x8_2).toNat * 4)).block, (ad113.add ((x8_2).toNat * 4)).off + 2, none⟩ = some (.int .i64 ((qg x5_1 x8_2).f0.f2)) ∧ w'.cell? ⟨(ad113.add ((x8_2).toNat * 4)).block, (ad113.add ((x8_2).toNat * 4)).off + 3, none⟩ = some (.string ((qg x5_1 x8_2).f1))) (ds := []) bq5 (by kernel_rfl) rfl rfl ⟨(qe BK111.out 0).trans rfl, (qe BK111.out 1).trans rfl, (qe BK111.out 2).trans rfl, (qe BK111.out 3).trans rfl, hx115_0, hx115_1, hx115_2, hx115_3⟩ (fun hHeld => ?_); refine with_tabW spec_l1Rd_entries.tab10 spec_l1Rd_entries.bits10 (fun HT_ HW_ => ?_)
               generalize w37.drew = w38 at HO_5 BK111 HI0 HK HB hx115_0 hx115_1 hx115_2 hx115_3 hHeld ⊢
               refine pure_ (i := 0) (N := some 41) (v := ?_) (a' := ?_) bq12 rfl rfl (qj HT_.out (by kernel_rfl)) (fun _ _ _ h => h) (Or.inl ⟨by rfl, ?_⟩) ?_ ?_
               rotate_left
               ·intro w'
                go_simp
                with_reducible rfl
               rotate_left
               ·simp only [Act.put, sq1, sq2, sq3, i64_w, i32_w]
                rfl
               refine pure_ (i := 1) (N := some 42) (v := ?_) (a' := ?_) bq19 rfl rfl (qj HT_.out (by kernel_rfl)) (fun _ _ _ h => h) (Or.inl ⟨by rfl, ?_⟩) ?_ ?_
               rotate_left
               ·intro w'
                go_simp
                with_reducible rfl
               rotate_left
               ·simp only [Act.put, sq1, sq2, sq3, i64_w, i32_w]
                rfl
               refine pure_ (i := 2) (N := some 43) (v := ?_) (a' := ?_) bq26 rfl rfl (qj HT_.out (by kernel_rfl)) (fun _ _ _ h => h) (Or.inl ⟨by rfl, ?_⟩) ?_ ?_
               rotate_left
               ·intro w'
                go_simp
                with_reducible rfl
               rotate_left
               ·simp only [Act.put, sq1, sq2, sq3, i64_w, i32_w]
                rfl
               refine pure_ (i := 3) (N := some 44) (v := ?_) (a' := ?_) bq33 rfl rfl (qj HT_.out (by kernel_rfl)) (fun _ _ _ h => h) (Or.inl ⟨by rfl, ?_⟩) ?_ ?_
               rotate_left
               ·intro w'
                go_simp
                with_reducible rfl
               rotate_left
               ·simp only [Act.put, sq1, sq2, sq3, i64_w, i32_w]
                rfl
               refine pure_ (i := 4) (N := some 45) (v := ?_) (a' := ?_) bq43 rfl rfl (qj HT_.out (by kernel_rfl)) (fun _ _ _ h => h) (Or.inl ⟨by rfl, ?_⟩) ?_ ?_
               rotate_left
               ·intro w'
                go_simp
                with_reducible rfl
               rotate_left
               ·simp only [Act.put, sq1, sq2, sq3, i64_w, i32_w]
                rfl
               refine pure_ (i := 5) (N := some 46) (v := ?_) (a' := ?_) bq49 rfl rfl (qj HT_.out (by kernel_rfl)) (fun _ _ _ h => h) (Or.inl ⟨by rfl, ?_⟩) ?_ ?_
               rotate_left
               ·intro w'
                go_simp
                with_reducible rfl
               rotate_left
               ·simp only [Act.put, sq1, sq2, sq3, i64_w, i32_w]
                rfl
               refine pure_ (i := 6) (N := some 47) (v := ?_) (a' := ?_) bq55 rfl rfl (qj HT_.out (by kernel_rfl)) (fun _ _ _ h => h) (Or.inl ⟨by rfl, ?_⟩) ?_ ?_
               rotate_left
               ·intro w'
                go_simp
                with_reducible rfl
               rotate_left
               ·simp only [Act.put, sq1, sq2, sq3, i64_w, i32_w]
                rfl
               refine pure_ (i := 7) (N := some 48) (v := ?_) (a' := ?_) bq61 rfl rfl (qj HT_.out (by kernel_rfl)) (fun _ _ _ h => h) (Or.inl ⟨by rfl, ?_⟩) ?_ ?_
               rotate_left
               ·intro w'
                go_simp
                with_reducible rfl
               rotate_left
               ·simp only [Act.put, sq1, sq2, sq3, i64_w, i32_w]
                rfl
               refine pure_ (i := 8) (N := some 49) (v := ?_) (a' := ?_) bq68 rfl rfl (qj HT_.out (by kernel_rfl)) (fun _ _ _ h => h) (Or.inl ⟨by rfl, ?_⟩) ?_ ?_
               rotate_left
               ·intro w'
                go_simp
                with_reducible rfl
               rotate_left
               ·simp only [Act.put, sq1, sq2, sq3, i64_w, i32_w]
                rfl
               refine pure_ (i := 10) (N := some 51) (v := ?_) (a' := ?_) bq70 rfl rfl (qj HT_.out (by kernel_rfl)) (fun _ _ _ h => h) (Or.inl ⟨by rfl, ?_⟩) ?_ ?_
               rotate_left
               ·intro w'
                go_simp
                with_reducible rfl
               rotate_left
               ·simp only [Act.put, sq1, sq2, sq3, i64_w, i32_w]
                rfl
               refine take_ (i := 9) (N := some 50) (v := ?_) (a' := ?_) bq81 rfl rfl (take_ofW HT_.out HW_.out (by kernel_rfl)) (fun _ _ _ h => h) (Or.inl ⟨by rfl, ?_⟩) hHeld ?_ ?_
               rotate_left
               ·rintro w' ⟨s0, s1, s2, s3, s4, s5, s6, s7⟩
                go_simp
                with_reducible rfl
               rotate_left
               ·simp only [Act.put, sq1, sq2, sq3, i64_w, i32_w]
                rfl
               refine take_ (i := 11) (N := some 52) (v := ?_) (a' := ?_) bq87 rfl rfl (take_ofW HT_.out HW_.out (by kernel_rfl)) (fun _ _ _ h => h) (Or.inl ⟨by rfl, ?_⟩) hHeld ?_ ?_
               rotate_left
               ·rintro w' ⟨s0, s1, s2, s3, s4, s5, s6, s7⟩
                go_simp
                with_reducible rfl
               rotate_left
               ·simp only [Act.put, sq1, sq2, sq3, i64_w, i32_w]
                rfl
               refine pure_ (i := 12) (N := some 53) (v := ?_) (a' := ?_) bq94 rfl rfl (qj HT_.out (by kernel_rfl)) (fun _ _ _ h => h) (Or.inl ⟨by rfl, ?_⟩) ?_ ?_
               rotate_left
               ·intro w'
                go_simp
                with_reducible rfl
               rotate_left
               ·simp only [Act.put, sq1, sq2, sq3, i64_w, i32_w]
                rfl
               refine pure_ (i := 13) (N := some 54) (v := ?_) (a' := ?_) bq155 rfl rfl (qj HT_.out (by kernel_rfl)) (fun _ _ _ h => h) (Or.inl ⟨by rfl, ?_⟩) ?_ ?_
               rotate_left
               ·intro w'
                go_simp
                with_reducible rfl
               rotate_left
               ·simp only [Act.put, sq1, sq2, sq3, i64_w, i32_w]
                rfl
               refine done_ (done_of HT_.out (by kernel_rfl)) ?_
               try go_wp2_with (first | ((with_reducible refine gate_dst (N := 55) rfl ?_); refine Kd.R_lit k48 _ 48 ?hg (N := 55) ?hd (xs := ([] : List (S48))) (inner := []) (ok := fun _ => True) (okp := fun _ => True) ?hr ?hp (fun _ hk => hk) trivial (Below.refl _ _) (Nat.le_refl _) (by simp) ?_; (case hd => rfl); (case hg => rfl); (case hr => first | (go_simp; done) | (go_simp; rfl)); (case hp => exact (Reps.none _ _)); intro v117 w39 ho40 hb hg_ hnew_; clear hg_ hnew_; (first | rw [← Ny116.out] at ho40 | (simp only [Int.reduceToNat] at ho40; rw [← Ny116.out] at ho40)); have HO118 := Qz.mk (Kd.R_lower (Kd.R_newB (Kd.R_new' ho40 (Kd.R_lt (by (with_reducible repeat (first | apply Kd.R_alloc | apply Kd.R_drewN | apply Kd.R_drew)); exact HO_5.out))) (g := gb111) (o := .cells #[.string t106, .int .i64 t107, .int .i64 t108, .string t109] 48 (0, 0)) (by (with_reducible repeat (first | refine qh ?_ _ | refine qk ?_ | refine qi ?_ _)); exact BK111.out)) (keep_size (w := w) (g := g) (row := none) (by repeat (first | (with_reducible first | exact HK.out | apply KeepBut.set_ | apply ql | apply qn | apply qm | refine qt ?_ GW111.out _) | exact HK.out)))); replace HO_5 := Qz.mk (Kd.R_elder' (by (with_reducible repeat (first | apply Kd.R_alloc | apply Kd.R_drewN | apply Kd.R_drew)); exact HO_5.out) (Kd.R_base ho40) hb); replace BK111 := Qz.mk (qx (g := gb111) (o := .cells #[.string t106, .int .i64 t107, .int .i64 t108, .string t109] 48 (0, 0)) (by (with_reducible repeat (first | refine qh ?_ _ | refine qk ?_ | refine qi ?_ _)); exact BK111.out) hb); replace HK := Qz.mk (KeepBut.trans (by repeat (first | (with_reducible first | exact HK.out | apply KeepBut.set_ | apply ql | apply qn | apply qm | refine qt ?_ GW111.out _) | exact HK.out)) (KeepBut.of_below hb g none) (.inl rfl)); replace HB := Qz.mk (qr (by repeat (first | (with_reducible first | exact HB.out | apply qc | apply qa | apply qb | refine qd ?_ (IsS116.ge HI0.out) | refine qd ?_ GE111.out) | exact HB.out)) hb); replace HI0 := Qz.mk (IsS116.below (by repeat (first | (with_reducible first | exact HI0.out | apply IsS116.alloc | apply IsS116.drewN | apply IsS116.drew | apply IsS116.set_1 | apply (fun h_ => IsS116.far h_ NB0_111.out _)) | exact HI0.out)) hb); clear hb ho40; have q41 : (x8_2 : Int) ≤ ((x5_1.length : Int) : Int) := of_decide_eq_true (by first | (with_reducible assumption) | assumption); obtain ⟨i041, hi041, _, hsz41, _⟩ := info_parts info48; have hroom41 : x5_1.length ≤ co36 := (Kd.R_reads' HO_5.out).2.1; have hC41 : Kd.C k48 _ (some ad113) x5_1.length x5_1 := (Kd.R_reads' HO_5.out).2.2; have hcut41 := cut_to (P := Try.prog) 32 48 .i64 Try.underlying32 hi041 (some ad113) x5_1.length co36 x8_2 (of_decide_eq_true (by first | (with_reducible assumption) | assumption)) q41 hroom41; have hr41 := Kd.C_take (m := (x8_2 : Int).toNat) hC41 (by omega); have hy41 : y119.length = (x8_2 : Int).toNat := (by rw [Ny119.out, List.length_take]; omega); rw [← Ny119.out] at hr41; rw [← hy41] at hcut41; have HR122 := Qz.mk hr41; have HC122 := Qz.mk (show y119.length ≤ co36 from by omega); clear hr41 hC41 hroom41 hi041 hsz41; have KY41 := Qz.mk hy41; clear hy41; have KL41 := Qz.mk (show (x8_2 : Int).toNat ≤ x5_1.length from by omega); replace q41 := eq_true q41) | ((with_reducible refine gate_builtin (b := .append) (xs := #[.tmp 55, .tmp 58]) rfl ?_); at_builtin; refine Kd.R_append_rows k48 w.heap.size rfl (.tmp 55) (.tmp 58) 32 48 (.agg #[(.string ⟨#[]⟩), (.int .i64 0), (.int .i64 0), (.string ⟨#[]⟩)]) 48 rfl Try.underlying32 info48 rfl (by decide) (by omega) v117 y116 y119 _ _ _ (fun k_ => some k_ ≠ (.slice (some ad113) x5_1.length co36 : Value).ownBlock ∧ k_ ≠ gb111) (fun _ => False) rfl rfl ?aO ?aR (fun _ _ h => h) (fun _ h => h.elim) ?aF (Below.refl _ _) ?aS ?aL ?_; (case aR => repeat (first | exact (by repeat (first | (with_reducible exact HR122.out) | (with_reducible refine Kd.C_alloc ?_ _) | (with_reducible refine Kd.C_drewN ?_ _) | (with_reducible refine Kd.C_drew ?_) | exact HR122.out)) | (with_reducible refine Kd.C_alloc ?_ _) | (with_reducible refine Kd.C_drewN ?_ _) | (with_reducible refine Kd.C_drew ?_))); (case aF => exact (fun k_ hk => ⟨Kd.fresh' (Kd.R_lt (by (with_reducible repeat (first | apply Kd.R_alloc | apply Kd.R_drewN | apply Kd.R_drew)); exact HO_5.out)) k_ hk, Kd.freshB (g := gb111) (o := .cells #[.string t106, .int .i64 t107, .int .i64 t108, .string t109] 48 (0, 0)) (by (with_reducible repeat (first | refine qh ?_ _ | refine qk ?_ | refine qi ?_ _)); exact BK111.out) k_ hk⟩)); (case aO => exact (by (with_reducible repeat (first | apply Kd.R_alloc | apply Kd.R_drewN | apply Kd.R_drew)); exact Kd.R_mono HO118.out (fun _ hk => ⟨hk.1.2, hk.2⟩))); (case aS => exact (keep_size (w := w) (g := g) (row := none) (by repeat (first | (with_reducible first | exact HK.out | apply KeepBut.set_ | apply ql | apply qn | apply qm | refine qt ?_ GW111.out _) | exact HK.out)))); (case aL => have := LMc30.out; omega); intro v124 w42 ho hb hg hat; rw [← Ny123.out] at ho; have n0_ := Qz.mk (Kd.R_after (ok := (fun k_ => k_ ≠ gb111)) (by (with_reducible repeat (first | apply Kd.R_alloc | apply Kd.R_drewN | apply Kd.R_drew)); exact HO_5.out) hg hat); have n1_ := Qz.mk (blk_grown (g := gb111) (o := .cells #[.string t106, .int .i64 t107, .int .i64 t108, .string t109] 48 (0, 0)) (by (with_reducible repeat (first | refine qh ?_ _ | refine qk ?_ | refine qi ?_ _)); exact BK111.out) hg (Kd.R_away HO118.out (fun _ hk => hk.2))); have n2_ := Qz.mk (IsS116.grown (by repeat (first | (with_reducible first | exact HI0.out | apply IsS116.alloc | apply IsS116.drewN | apply IsS116.drew | apply IsS116.set_1 | apply (fun h_ => IsS116.far h_ NB0_111.out _)) | exact HI0.out)) hg (IsS116.own_ne HI0.out HO118.out (by decide))); have n3_ := Qz.mk (below_weaken (by repeat (first | (with_reducible first | exact HB.out | apply qc | apply qa | apply qb | refine qd ?_ (IsS116.ge HI0.out) | refine qd ?_ GE111.out) | exact HB.out)) HL.out hb); have n4_ := Qz.mk (KeepBut.trans (by repeat (first | (with_reducible first | exact HK.out | apply KeepBut.set_ | apply ql | apply qn | apply qm | refine qt ?_ GW111.out _) | exact HK.out)) (KeepBut.of_grown hg g) (Kd.R_base2 HO118.out)); have n5_ := Qz.mk ((show Kd.C k48 w42 (some ad113) y119.length y119 from by rw [Ny119.out]; exact Kd.C_take (m := (x8_2 : Int).toNat) ((Kd.R_reads' (Kd.R_after (ok := (fun k_ => k_ ≠ gb111)) (by (with_reducible repeat (first | apply Kd.R_alloc | apply Kd.R_drewN | apply Kd.R_drew)); exact HO_5.out) hg hat)).2.2) KL41.out)); have n6_ := Qz.mk (ho); clear HO_5; clear BK111; clear HI0; clear HB; clear HK; clear HR122; clear HO118; have HO_5 := n0_; have BK111 := n1_; have HI0 := n2_; have HB := n3_; have HK := n4_; have HR122 := n5_; have HO125 := n6_; clear n0_ n1_ n2_ n3_ n4_ n5_ n6_; clear ho hb hg hat; have hnb43 := NB111_0.out; have hnc43 := NB0_111.out; have hcz44_0 : w42.cell? ⟨gb111, 0, none⟩ = some (.string t106) := (qe BK111.out 0).trans rfl; have hcz44_1 : w42.cell? ⟨gb111, 1, none⟩ = some (.int .i64 t107) := (qe BK111.out 1).trans rfl; have hcz44_2 : w42.cell? ⟨gb111, 2, none⟩ = some (.int .i64 t108) := (qe BK111.out 2).trans rfl; have hcz44_3 : w42.cell? ⟨gb111, 3, none⟩ = some (.string t109) := (qe BK111.out 3).trans rfl; have hfz44_0 := qf BK111.out 0; have hfz44_1 := qf BK111.out 1; have hfz44_2 := qf BK111.out 2; have hfz44_3 := qf BK111.out 3) | ((with_reducible refine gate_builtin (b := .append) (xs := #[.tmp 60, .tmp 62]) rfl ?_); at_builtin; refine Kd.R_append k48 w.heap.size rfl (.tmp 60) (.tmp 62) 32 48 (.agg #[(.string ⟨#[]⟩), (.int .i64 0), (.int .i64 0), (.string ⟨#[]⟩)]) 48 rfl Try.underlying32 info48 rfl (by decide) (by omega) v124 y123 (⟨(⟨t106, t107, t108⟩ : S46), t109⟩ : S48) [.string t106, .int .i64 t107, .int .i64 t108, .string t109] (fun k_ => some k_ ≠ (.slice (some ad113) x5_1.length co36 : Value).ownBlock ∧ k_ ≠ gb111) (fun _ => False) rfl rfl ?aP (fun _ hk => hk.elim) ?aF ?aO (Below.refl _ _) ?aS ?aL ?_; (case aP => exact k48_mkM _ _ _ (⟨(⟨t106, t107, t108⟩ : S46), t109⟩ : S48)); (case aF => exact (fun k_ hk => ⟨Kd.fresh' (Kd.R_lt (by (with_reducible repeat (first | apply Kd.R_alloc | apply Kd.R_drewN | apply Kd.R_drew)); exact HO_5.out)) k_ hk, Kd.freshB (g := gb111) (o := .cells #[.string t106, .int .i64 t107, .int .i64 t108, .string t109] 48 (0, 0)) (by (with_reducible repeat (first | refine qh ?_ _ | refine qk ?_ | refine qi ?_ _)); exact BK111.out) k_ hk⟩)); (case aO => exact (by (with_reducible repeat (first | apply Kd.R_alloc | apply Kd.R_drewN | apply Kd.R_drew)); exact HO125.out)); (case aS => exact (keep_size (w := w) (g := g) (row := none) (by repeat (first | (with_reducible first | exact HK.out | apply KeepBut.set_ | apply ql | apply qn | apply qm | refine qt ?_ GW111.out _) | exact HK.out)))); (case aL => have := LMc31.out; omega); intro v127 w45 ho hb hg hat; rw [← Ny126.out] at ho; have n0_ := Qz.mk (Kd.R_after (ok := (fun k_ => k_ ≠ gb111)) (by (with_reducible repeat (first | apply Kd.R_alloc | apply Kd.R_drewN | apply Kd.R_drew)); exact HO_5.out) hg hat); have n1_ := Qz.mk (blk_grown (g := gb111) (o := .cells #[.string t106, .int .i64 t107, .int .i64 t108, .string t109] 48 (0, 0)) (by (with_reducible repeat (first | refine qh ?_ _ | refine qk ?_ | refine qi ?_ _)); exact BK111.out) hg (Kd.R_away HO125.out (fun _ hk => hk.2))); have n2_ := Qz.mk (IsS116.grown (by repeat (first | (with_reducible first | exact HI0.out | apply IsS116.alloc | apply IsS116.drewN | apply IsS116.drew | apply IsS116.set_1 | apply (fun h_ => IsS116.far h_ NB0_111.out _)) | exact HI0.out)) hg (IsS116.own_ne HI0.out HO125.out (by decide))); have n3_ := Qz.mk (below_weaken (by repeat (first | (with_reducible first | exact HB.out | apply qc | apply qa | apply qb | refine qd ?_ (IsS116.ge HI0.out) | refine qd ?_ GE111.out) | exact HB.out)) HL.out hb); have n4_ := Qz.mk (KeepBut.trans (by repeat (first | (with_reducible first | exact HK.out | apply KeepBut.set_ | apply ql | apply qn | apply qm | refine qt ?_ GW111.out _) | exact HK.out)) (KeepBut.of_grown hg g) (Kd.R_base2 HO125.out)); have n5_ := Qz.mk ((show Kd.C k48 w45 (some ad113) y119.length y119 from by rw [Ny119.out]; exact Kd.C_take (m := (x8_2 : Int).toNat) ((Kd.R_reads' (Kd.R_after (ok := (fun k_ => k_ ≠ gb111)) (by (with_reducible repeat (first | apply Kd.R_alloc | apply Kd.R_drewN | apply Kd.R_drew)); exact HO_5.out) hg hat)).2.2) KL41.out)); have n6_ := Qz.mk (ho); clear HO_5; clear BK111; clear HI0; clear HB; clear HK; clear HR122; clear HO125; have HO_5 := n0_; have BK111 := n1_; have HI0 := n2_; have HB := n3_; have HK := n4_; have HR122 := n5_; have HO128 := n6_; clear n0_ n1_ n2_ n3_ n4_ n5_ n6_; clear ho hb hg hat; have q46 : (x8_2 : Int) ≤ ((x5_1.length : Int) : Int) := of_decide_eq_true (by first | (with_reducible assumption) | assumption); obtain ⟨i046, hi046, _, hsz46, _⟩ := info_parts info48; have hroom46 : x5_1.length ≤ co36 := (Kd.R_reads' HO_5.out).2.1; have hC46 : Kd.C k48 _ (some ad113) x5_1.length x5_1 := (Kd.R_reads' HO_5.out).2.2; have q046 : (0 : Int) ≤ (x8_2 : Int) := of_decide_eq_true (by first | (with_reducible assumption) | assumption); have hcut46 := cut_from (P := Try.prog) 32 48 .i64 Try.underlying32 hi046 4 hsz46 (some ad113) x5_1.length co36 x8_2 q046 q46; have hr46 := Kd.C_drop (m := (x8_2 : Int).toNat) (c := co36) hC46 (by omega) hroom46; obtain ⟨A46, hA46⟩ : ∃ A1, A1 = (if co36 = (x8_2 : Int).toNat then (some ad113) else ((some ad113) : Option Addr).map (·.add ((x8_2 : Int).toNat * 4))) := ⟨_, rfl⟩; obtain ⟨c46, hc46⟩ : ∃ c1, c1 = co36 - (x8_2 : Int).toNat := ⟨_, rfl⟩; have hy46 : y129.length = x5_1.length - (x8_2 : Int).toNat := (by rw [Ny129.out, List.length_drop] <;> omega); rw [show (x5_1).drop (x8_2 : Int).toNat = y129 from Ny129.out.symm] at hr46; replace hr46 : Kd.C k48 _ A46 y129.length y129 := (by rw [hA46]; exact hr46); rw [← hy46, ← hA46, ← hc46] at hcut46; have HR132 := Qz.mk hr46; have HC132 := Qz.mk (show y129.length ≤ c46 from by rw [hy46, hc46]; exact Nat.sub_le_sub_right hroom46 _); clear hr46 hC46 hroom46 hi046 hsz46 hc46; have KY46 := Qz.mk hy46; have KA46 := Qz.mk hA46; clear hy46 hA46; have KL46 := Qz.mk (show (x8_2 : Int).toNat ≤ x5_1.length from by omega); replace q46 := eq_true q46) | ((with_reducible refine gate_builtin (b := .append) (xs := #[.tmp 64, .tmp 67]) rfl ?_); at_builtin; refine Kd.R_append_rows k48 w.heap.size rfl (.tmp 64) (.tmp 67) 32 48 (.agg #[(.string ⟨#[]⟩), (.int .i64 0), (.int .i64 0), (.string ⟨#[]⟩)]) 48 rfl Try.underlying32 info48 rfl (by decide) (by omega) v127 y126 y129 _ _ _ (fun k_ => some k_ ≠ (.slice (some ad113) x5_1.length co36 : Value).ownBlock ∧ k_ ≠ gb111) (fun _ => False) rfl rfl ?aO ?aR (fun _ _ h => h) (fun _ h => h.elim) ?aF (Below.refl _ _) ?aS ?aL ?_; (case aR => repeat (first | exact (by repeat (first | (with_reducible exact HR132.out) | (with_reducible refine Kd.C_alloc ?_ _) | (with_reducible refine Kd.C_drewN ?_ _) | (with_reducible refine Kd.C_drew ?_) | exact HR132.out)) | (with_reducible refine Kd.C_alloc ?_ _) | (with_reducible refine Kd.C_drewN ?_ _) | (with_reducible refine Kd.C_drew ?_))); (case aF => exact (fun k_ hk => ⟨Kd.fresh' (Kd.R_lt (by (with_reducible repeat (first | apply Kd.R_alloc | apply Kd.R_drewN | apply Kd.R_drew)); exact HO_5.out)) k_ hk, Kd.freshB (g := gb111) (o := .cells #[.string t106, .int .i64 t107, .int .i64 t108, .string t109] 48 (0, 0)) (by (with_reducible repeat (first | refine qh ?_ _ | refine qk ?_ | refine qi ?_ _)); exact BK111.out) k_ hk⟩)); (case aO => exact (by (with_reducible repeat (first | apply Kd.R_alloc | apply Kd.R_drewN | apply Kd.R_drew)); exact HO128.out)); (case aS => exact (keep_size (w := w) (g := g) (row := none) (by repeat (first | (with_reducible first | exact HK.out | apply KeepBut.set_ | apply ql | apply qn | apply qm | refine qt ?_ GW111.out _) | exact HK.out)))); (case aL => have := LMc34.out; omega); intro v134 w47 ho hb hg hat; rw [← Ny133.out] at ho; have n0_ := Qz.mk (Kd.R_after (ok := (fun k_ => k_ ≠ gb111)) (by (with_reducible repeat (first | apply Kd.R_alloc | apply Kd.R_drewN | apply Kd.R_drew)); exact HO_5.out) hg hat); have n1_ := Qz.mk (blk_grown (g := gb111) (o := .cells #[.string t106, .int .i64 t107, .int .i64 t108, .string t109] 48 (0, 0)) (by (with_reducible repeat (first | refine qh ?_ _ | refine qk ?_ | refine qi ?_ _)); exact BK111.out) hg (Kd.R_away HO128.out (fun _ hk => hk.2))); have n2_ := Qz.mk (IsS116.grown (by repeat (first | (with_reducible first | exact HI0.out | apply IsS116.alloc | apply IsS116.drewN | apply IsS116.drew | apply IsS116.set_1 | apply (fun h_ => IsS116.far h_ NB0_111.out _)) | exact HI0.out)) hg (IsS116.own_ne HI0.out HO128.out (by decide))); have n3_ := Qz.mk (below_weaken (by repeat (first | (with_reducible first | exact HB.out | apply qc | apply qa | apply qb | refine qd ?_ (IsS116.ge HI0.out) | refine qd ?_ GE111.out) | exact HB.out)) HL.out hb); have n4_ := Qz.mk (KeepBut.trans (by repeat (first | (with_reducible first | exact HK.out | apply KeepBut.set_ | apply ql | apply qn | apply qm | refine qt ?_ GW111.out _) | exact HK.out)) (KeepBut.of_grown hg g) (Kd.R_base2 HO128.out)); have n5_ := Qz.mk ((show Kd.C k48 w47 (some ad113) y119.length y119 from by rw [Ny119.out]; exact Kd.C_take (m := (x8_2 : Int).toNat) ((Kd.R_reads' (Kd.R_after (ok := (fun k_ => k_ ≠ gb111)) (by (with_reducible repeat (first | apply Kd.R_alloc | apply Kd.R_drewN | apply Kd.R_drew)); exact HO_5.out) hg hat)).2.2) KL41.out)); have n6_ := Qz.mk ((show Kd.C k48 w47 A46 y129.length y129 from by rw [Ny129.out, KA46.out]; exact Kd.C_drop (m := (x8_2 : Int).toNat) (c := co36) ((Kd.R_reads' (Kd.R_after (ok := (fun k_ => k_ ≠ gb111)) (by (with_reducible repeat (first | apply Kd.R_alloc | apply Kd.R_drewN | apply Kd.R_drew)); exact HO_5.out) hg hat)).2.2) KL46.out ((Kd.R_reads' (Kd.R_after (ok := (fun k_ => k_ ≠ gb111)) (by (with_reducible repeat (first | apply Kd.R_alloc | apply Kd.R_drewN | apply Kd.R_drew)); exact HO_5.out) hg hat)).2.1))); have n7_ := Qz.mk (ho); clear HO_5; clear BK111; clear HI0; clear HB; clear HK; clear HR122; clear HR132; clear HO128; have HO_5 := n0_; have BK111 := n1_; have HI0 := n2_; have HB := n3_; have HK := n4_; have HR122 := n5_; have HR132 := n6_; have HO135 := n7_; clear n0_ n1_ n2_ n3_ n4_ n5_ n6_ n7_; clear ho hb hg hat))
               go_roundg k2
               case measure => have := HK1.out; have := HK2.out; omega
               case rel => exact ⟨(y133), (wrap64 (x6_1 - 1)), (t110), (by first | rfl | (simp; done) | (simp [*]; done)), H', ⟨by have := HK1.out; have := HK2.out; omega⟩, ⟨by (with_reducible repeat (first | apply Kd.R_alloc | apply Kd.R_drewN | apply Kd.R_drew)); exact Kd.R_mono HO135.out (fun _ hk => trivial)⟩, ⟨by repeat (first | (with_reducible first | exact HI0.out | apply IsS116.alloc | apply IsS116.drewN | apply IsS116.drew | apply IsS116.set_1 | apply (fun h_ => IsS116.far h_ NB0_111.out _)) | exact HI0.out)⟩, ⟨by repeat (first | (with_reducible first | exact HK.out | apply KeepBut.set_ | apply ql | apply qn | apply qm | refine qt ?_ GW111.out _) | exact HK.out)⟩, ⟨by repeat (first | (with_reducible first | exact HB.out | apply qc | apply qa | apply qb | refine qd ?_ (IsS116.ge HI0.out) | refine qd ?_ GE111.out) | exact HB.out)⟩⟩
              ·rw [if_neg c34] at H
               exact absurd H (by simp)
             ·rw [if_neg c31] at H
              exact absurd H (by simp)
            ·rw [if_neg c30] at H
             exact absurd H (by simp)
           ·rw [if_neg c29] at H
            exact absurd H (by simp)
        ·rw [if_neg c17] at H
         exact absurd H (by simp)
       ·rw [if_neg c16] at H
        have c16b0 : decide (x8_2 < (x5_1.length : Int)) = false := decide_eq_false c16
        clear c16
        obtain ⟨y136, hy136⟩ : ∃ y_ : List (S48), y_ = (([] : List (S48))) := ⟨_, rfl⟩
        replace H : (if 0 ≤ x8_2 then (if x8_2 ≤ (x5_1.length : Int) then ((some (x5_1.take (x8_2 : Int).toNat : List (S48))).bind fun y139 => (if y136.length + y139.length < 2932031007402 then ((some (y136 ++ y139 : List (S48))).bind fun y143 => (if y143.length < 2932031007402 then ((some (y143 ++ [(⟨(⟨t106, t107, t108⟩ : S46), t109⟩ : S48)] : List (S48))).bind fun y146 => ((some (x5_1.drop (x8_2 : Int).toNat : List (S48))).bind fun y149 => (if y146.length + y149.length < 2932031007402 then (spec_l1Rd_entries.l0 k2 (y146 ++ y149) (wrap64 (x6_1 - 1)) s0_0 t110) else (none)))) else (none))) else (none))) else (none)) else (none)) = some (r1, r2) := by first | (rw [hy136]; with_reducible exact H) | (have H2_ := (Option.bind_some _ _).symm.trans H; rw [hy136]; with_reducible exact H2_) | (have H2_ := (Option.bind_some _ _).symm.trans H; with_reducible exact H2_) | with_reducible exact H | (rw [hy136]; exact H) | exact H
        have Ny136 := Qz.mk hy136
        clear hy136
        by_cases c48 : 0 ≤ x8_2
        ·rw [if_pos c48] at H
         have c48b0 := eq_true c48
         have c48b1 : decide (0 ≤ x8_2) = true := decide_eq_true c48
         clear c48
         by_cases c49 : x8_2 ≤ (x5_1.length : Int)
         ·rw [if_pos c49] at H
          have c49b0 := eq_true c49
          have c49b1 : decide (x8_2 ≤ (x5_1.length : Int)) = true := decide_eq_true c49
          clear c49
          obtain ⟨y139, hy139⟩ : ∃ y_ : List (S48), y_ = (x5_1.take (x8_2 : Int).toNat) := ⟨_, rfl⟩
          replace H : (if y136.length + y139.length < 2932031007402 then ((some (y136 ++ y139 : List (S48))).bind fun y143 => (if y143.length < 2932031007402 then ((some (y143 ++ [(⟨(⟨t106, t107, t108⟩ : S46), t109⟩ : S48)] : List (S48))).bind fun y146 => ((some (x5_1.drop (x8_2 : Int).toNat : List (S48))).bind fun y149 => (if y146.length + y149.length < 2932031007402 then (spec_l1Rd_entries.l0 k2 (y146 ++ y149) (wrap64 (x6_1 - 1)) s0_0 t110) else (none)))) else (none))) else (none)) = some (r1, r2) := by first | (rw [hy139]; with_reducible exact H) | (have H2_ := (Option.bind_some _ _).symm.trans H; rw [hy139]; with_reducible exact H2_) | (have H2_ := (Option.bind_some _ _).symm.trans H; with_reducible exact H2_) | with_reducible exact H | (rw [hy139]; exact H) | exact H
          have Ny139 := Qz.mk hy139
          clear hy139
          by_cases c50 : y136.length + y139.length < 2932031007402
          ·rw [if_pos c50] at H
           have LMc50 := Qz.mk c50
           clear c50
           obtain ⟨y143, hy143⟩ : ∃ y_ : List (S48), y_ = (y136 ++ y139) := ⟨_, rfl⟩
           replace H : (if y143.length < 2932031007402 then ((some (y143 ++ [(⟨(⟨t106, t107, t108⟩ : S46), t109⟩ : S48)] : List (S48))).bind fun y146 => ((some (x5_1.drop (x8_2 : Int).toNat : List (S48))).bind fun y149 => (if y146.length + y149.length < 2932031007402 then (spec_l1Rd_entries.l0 k2 (y146 ++ y149) (wrap64 (x6_1 - 1)) s0_0 t110) else (none)))) else (none)) = some (r1, r2) := by first | (rw [hy143]; with_reducible exact H) | (have H2_ := (Option.bind_some _ _).symm.trans H; rw [hy143]; with_reducible exact H2_) | (have H2_ := (Option.bind_some _ _).symm.trans H; with_reducible exact H2_) | with_reducible exact H | (rw [hy143]; exact H) | exact H
           have Ny143 := Qz.mk hy143
           clear hy143
           by_cases c51 : y143.length < 2932031007402
           ·rw [if_pos c51] at H
            have LMc51 := Qz.mk c51
            clear c51
            obtain ⟨y146, hy146⟩ : ∃ y_ : List (S48), y_ = (y143 ++ [(⟨(⟨t106, t107, t108⟩ : S46), t109⟩ : S48)]) := ⟨_, rfl⟩
            replace H : ((some (x5_1.drop (x8_2 : Int).toNat : List (S48))).bind fun y149 => (if y146.length + y149.length < 2932031007402 then (spec_l1Rd_entries.l0 k2 (y146 ++ y149) (wrap64 (x6_1 - 1)) s0_0 t110) else (none))) = some (r1, r2) := by first | (rw [hy146]; with_reducible exact H) | (have H2_ := (Option.bind_some _ _).symm.trans H; rw [hy146]; with_reducible exact H2_) | (have H2_ := (Option.bind_some _ _).symm.trans H; with_reducible exact H2_) | with_reducible exact H | (rw [hy146]; exact H) | exact H
            have Ny146 := Qz.mk hy146
            clear hy146
            have c52b0 := eq_true (of_decide_eq_true (by first | (with_reducible assumption) | assumption) : 0 ≤ x8_2)
            have c53b0 := eq_true (of_decide_eq_true (by first | (with_reducible assumption) | assumption) : x8_2 ≤ (x5_1.length : Int))
            obtain ⟨y149, hy149⟩ : ∃ y_ : List (S48), y_ = (x5_1.drop (x8_2 : Int).toNat) := ⟨_, rfl⟩
            replace H : (if y146.length + y149.length < 2932031007402 then (spec_l1Rd_entries.l0 k2 (y146 ++ y149) (wrap64 (x6_1 - 1)) s0_0 t110) else (none)) = some (r1, r2) := by first | (rw [hy149]; with_reducible exact H) | (have H2_ := (Option.bind_some _ _).symm.trans H; rw [hy149]; with_reducible exact H2_) | (have H2_ := (Option.bind_some _ _).symm.trans H; with_reducible exact H2_) | with_reducible exact H | (rw [hy149]; exact H) | exact H
            have Ny149 := Qz.mk hy149
            clear hy149
            by_cases c54 : y146.length + y149.length < 2932031007402
            ·rw [if_pos c54] at H
             have LMc54 := Qz.mk c54
             clear c54
             obtain ⟨y153, hy153⟩ : ∃ y_ : List (S48), y_ = (y146 ++ y149) := ⟨_, rfl⟩
             replace H : (spec_l1Rd_entries.l0 k2 y153 (wrap64 (x6_1 - 1)) s0_0 t110) = some (r1, r2) := by first | (rw [hy153]; with_reducible exact H) | (have H2_ := (Option.bind_some _ _).symm.trans H; rw [hy153]; with_reducible exact H2_) | (have H2_ := (Option.bind_some _ _).symm.trans H; with_reducible exact H2_) | with_reducible exact H | (rw [hy153]; exact H) | exact H
             have Ny153 := Qz.mk hy153
             clear hy153
             have H' := Qz.mk H
             clear H
             try go_wp2
             replace HO_5 := Qz.mk (Kd.R_drew HO_5.out)
             replace BK111 := Qz.mk (qk BK111.out)
             replace HI0 := Qz.mk (IsS116.drew HI0.out)
             replace HK := Qz.mk (qn HK.out)
             replace HB := Qz.mk (qb HB.out)
             obtain ⟨Ao56, co56, eo56⟩ := Kd.R_slice HO_5.out
             (first | subst eo56 | (injection eo56 with f1_ f2_ f3_; have f4_ := f1_.symm; have f5_ := f3_.symm; clear f1_ f2_ f3_; subst f4_; subst f5_))
             refine start_ (n := 15) (S := fun w' => True) (ds := []) bq4 (by kernel_rfl) rfl rfl trivial (fun hHeld => ?_); refine with_tabW spec_l1Rd_entries.tab8 spec_l1Rd_entries.bits8 (fun HT_ HW_ => ?_)
             generalize wr.drew = w55 at HO_5 BK111 HI0 HK HB hHeld ⊢
             refine pure_ (i := 0) (N := some 24) (v := ?_) (a' := ?_) bq11 rfl rfl (qj HT_.out (by kernel_rfl)) (fun _ _ _ h => h) (Or.inl ⟨by rfl, ?_⟩) ?_ ?_
             rotate_left
             ·intro w'
              go_simp
              with_reducible rfl
             rotate_left
             ·simp only [Act.put, sq1, sq2, sq3, i64_w, i32_w]
              rfl
             refine pure_ (i := 1) (N := some 25) (v := ?_) (a' := ?_) bq18 rfl rfl (qj HT_.out (by kernel_rfl)) (fun _ _ _ h => h) (Or.inl ⟨by rfl, ?_⟩) ?_ ?_
             rotate_left
             ·intro w'
              go_simp
              with_reducible rfl
             rotate_left
             ·simp only [Act.put, sq1, sq2, sq3, i64_w, i32_w]
              rfl
             refine pure_ (i := 2) (N := some 26) (v := ?_) (a' := ?_) bq25 rfl rfl (qj HT_.out (by kernel_rfl)) (fun _ _ _ h => h) (Or.inl ⟨by rfl, ?_⟩) ?_ ?_
             rotate_left
             ·intro w'
              go_simp
              with_reducible rfl
             rotate_left
             ·simp only [Act.put, sq1, sq2, sq3, i64_w, i32_w]
              rfl
             refine pure_ (i := 3) (N := some 27) (v := ?_) (a' := ?_) bq32 rfl rfl (qj HT_.out (by kernel_rfl)) (fun _ _ _ h => h) (Or.inl ⟨by rfl, ?_⟩) ?_ ?_
             rotate_left
             ·intro w'
              go_simp
              with_reducible rfl
             rotate_left
             ·simp only [Act.put, sq1, sq2, sq3, i64_w, i32_w]
              rfl
             refine pure_ (i := 4) (N := some 28) (v := ?_) (a' := ?_) bq42 rfl rfl (qj HT_.out (by kernel_rfl)) (fun _ _ _ h => h) (Or.inl ⟨by rfl, ?_⟩) ?_ ?_
             rotate_left
             ·intro w'
              go_simp
              with_reducible rfl
             rotate_left
             ·simp only [Act.put, sq1, sq2, sq3, i64_w, i32_w]
              rfl
             refine pure_ (i := 5) (N := some 29) (v := undef) (a' := ?_) bq48 rfl rfl (qj HT_.out (by kernel_rfl)) (fun _ _ _ h => h) (Or.inr ⟨by rfl, rfl⟩) ?_ ?_
             rotate_left
             ·simp only [Act.put, sq1, sq2, sq3, i64_w, i32_w]
              rfl
             refine pure_ (i := 6) (N := some 30) (v := undef) (a' := ?_) bq54 rfl rfl (qj HT_.out (by kernel_rfl)) (fun _ _ _ h => h) (Or.inr ⟨by rfl, rfl⟩) ?_ ?_
             rotate_left
             ·simp only [Act.put, sq1, sq2, sq3, i64_w, i32_w]
              rfl
             refine pure_ (i := 7) (N := some 31) (v := undef) (a' := ?_) bq60 rfl rfl (qj HT_.out (by kernel_rfl)) (fun _ _ _ h => h) (Or.inr ⟨by rfl, rfl⟩) ?_ ?_
             rotate_left
             ·simp only [Act.put, sq1, sq2, sq3, i64_w, i32_w]
              rfl
             refine pure_ (i := 8) (N := some 32) (v := undef) (a' := ?_) bq67 rfl rfl (qj HT_.out (by kernel_rfl)) (fun _ _ _ h => h) (Or.inr ⟨by rfl, rfl⟩) ?_ ?_
             rotate_left
             ·simp only [Act.put, sq1, sq2, sq3, i64_w, i32_w]
              rfl
             refine pure_ (i := 9) (N := some 33) (v := undef) (a' := ?_) #[true, true, true, true, true, true, true, true, true, true, false, false, false, false, false] rfl rfl (qj HT_.out (by kernel_rfl)) (fun _ _ _ h => h) (Or.inr ⟨by rfl, rfl⟩) ?_ ?_
             rotate_left
             ·simp only [Act.put, sq1, sq2, sq3, i64_w, i32_w]
              rfl
             refine pure_ (i := 10) (N := some 34) (v := undef) (a' := ?_) bq80 rfl rfl (qj HT_.out (by kernel_rfl)) (fun _ _ _ h => h) (Or.inr ⟨by rfl, rfl⟩) ?_ ?_
             rotate_left
             ·simp only [Act.put, sq1, sq2, sq3, i64_w, i32_w]
              rfl
             refine pure_ (i := 11) (N := some 35) (v := undef) (a' := ?_) bq86 rfl rfl (qj HT_.out (by kernel_rfl)) (fun _ _ _ h => h) (Or.inr ⟨by rfl, rfl⟩) ?_ ?_
             rotate_left
             ·simp only [Act.put, sq1, sq2, sq3, i64_w, i32_w]
              rfl
             refine pure_ (i := 12) (N := some 36) (v := undef) (a' := ?_) bq93 rfl rfl (qj HT_.out (by kernel_rfl)) (fun _ _ _ h => h) (Or.inr ⟨by rfl, rfl⟩) ?_ ?_
             rotate_left
             ·simp only [Act.put, sq1, sq2, sq3, i64_w, i32_w]
              rfl
             refine pure_ (i := 13) (N := some 37) (v := undef) (a' := ?_) bq100 rfl rfl (qj HT_.out (by kernel_rfl)) (fun _ _ _ h => h) (Or.inr ⟨by rfl, rfl⟩) ?_ ?_
             rotate_left
             ·simp only [Act.put, sq1, sq2, sq3, i64_w, i32_w]
              rfl
             refine pure_ (i := 14) (N := some 38) (v := ?_) (a' := ?_) bq154 rfl rfl (qj HT_.out (by kernel_rfl)) (fun _ _ _ h => h) (Or.inl ⟨by rfl, ?_⟩) ?_ ?_
             rotate_left
             ·intro w'
              go_simp
              with_reducible rfl
             rotate_left
             ·simp only [Act.put, sq1, sq2, sq3, i64_w, i32_w]
              rfl
             refine done_ (done_of HT_.out (by kernel_rfl)) ?_
             try go_wp2
             replace HO_5 := Qz.mk (Kd.R_drew HO_5.out)
             replace BK111 := Qz.mk (qk BK111.out)
             replace HI0 := Qz.mk (IsS116.drew HI0.out)
             replace HK := Qz.mk (qn HK.out)
             replace HB := Qz.mk (qb HB.out)
             refine start_ (n := 14) (S := fun w' => True) (ds := []) bq5 (by kernel_rfl) rfl rfl trivial (fun hHeld => ?_); refine with_tabW spec_l1Rd_entries.tab10 spec_l1Rd_entries.bits10 (fun HT_ HW_ => ?_)
             generalize w55.drew = w57 at HO_5 BK111 HI0 HK HB hHeld ⊢
             refine pure_ (i := 0) (N := some 41) (v := ?_) (a' := ?_) bq12 rfl rfl (qj HT_.out (by kernel_rfl)) (fun _ _ _ h => h) (Or.inl ⟨by rfl, ?_⟩) ?_ ?_
             rotate_left
             ·intro w'
              go_simp
              with_reducible rfl
             rotate_left
             ·simp only [Act.put, sq1, sq2, sq3, i64_w, i32_w]
              rfl
             refine pure_ (i := 1) (N := some 42) (v := ?_) (a' := ?_) bq19 rfl rfl (qj HT_.out (by kernel_rfl)) (fun _ _ _ h => h) (Or.inl ⟨by rfl, ?_⟩) ?_ ?_
             rotate_left
             ·intro w'
              go_simp
              with_reducible rfl
             rotate_left
             ·simp only [Act.put, sq1, sq2, sq3, i64_w, i32_w]
              rfl
             refine pure_ (i := 2) (N := some 43) (v := ?_) (a' := ?_) bq26 rfl rfl (qj HT_.out (by kernel_rfl)) (fun _ _ _ h => h) (Or.inl ⟨by rfl, ?_⟩) ?_ ?_
             rotate_left
             ·intro w'
              go_simp
              with_reducible rfl
             rotate_left
             ·simp only [Act.put, sq1, sq2, sq3, i64_w, i32_w]
              rfl
             refine pure_ (i := 3) (N := some 44) (v := ?_) (a' := ?_) bq33 rfl rfl (qj HT_.out (by kernel_rfl)) (fun _ _ _ h => h) (Or.inl ⟨by rfl, ?_⟩) ?_ ?_
             rotate_left
             ·intro w'
              go_simp
              with_reducible rfl
             rotate_left
             ·simp only [Act.put, sq1, sq2, sq3, i64_w, i32_w]
              rfl
             refine pure_ (i := 4) (N := some 45) (v := ?_) (a' := ?_) bq43 rfl rfl (qj HT_.out (by kernel_rfl)) (fun _ _ _ h => h) (Or.inl ⟨by rfl, ?_⟩) ?_ ?_
             rotate_left
             ·intro w'
              go_simp
              with_reducible rfl
             rotate_left
             ·simp only [Act.put, sq1, sq2, sq3, i64_w, i32_w]
              rfl
             refine pure_ (i := 5) (N := some 46) (v := undef) (a' := ?_) bq49 rfl rfl (qj HT_.out (by kernel_rfl)) (fun _ _ _ h => h) (Or.inr ⟨by rfl, rfl⟩) ?_ ?_
             rotate_left
             ·simp only [Act.put, sq1, sq2, sq3, i64_w, i32_w]
              rfl
             refine pure_ (i := 6) (N := some 47) (v := undef) (a' := ?_) bq55 rfl rfl (qj HT_.out (by kernel_rfl)) (fun _ _ _ h => h) (Or.inr ⟨by rfl, rfl⟩) ?_ ?_
             rotate_left
             ·simp only [Act.put, sq1, sq2, sq3, i64_w, i32_w]
              rfl
             refine pure_ (i := 7) (N := some 48) (v := undef) (a' := ?_) bq61 rfl rfl (qj HT_.out (by kernel_rfl)) (fun _ _ _ h => h) (Or.inr ⟨by rfl, rfl⟩) ?_ ?_
             rotate_left
             ·simp only [Act.put, sq1, sq2, sq3, i64_w, i32_w]
              rfl
             refine pure_ (i := 8) (N := some 49) (v := undef) (a' := ?_) bq68 rfl rfl (qj HT_.out (by kernel_rfl)) (fun _ _ _ h => h) (Or.inr ⟨by rfl, rfl⟩) ?_ ?_
             rotate_left
             ·simp only [Act.put, sq1, sq2, sq3, i64_w, i32_w]
              rfl
             refine pure_ (i := 9) (N := some 50) (v := undef) (a' := ?_) #[true, true, true, true, true, true, true, true, true, true, false, false, false, false] rfl rfl (qj HT_.out (by kernel_rfl)) (fun _ _ _ h => h) (Or.inr ⟨by rfl, rfl⟩) ?_ ?_
             rotate_left
             ·simp only [Act.put, sq1, sq2, sq3, i64_w, i32_w]
              rfl
             refine pure_ (i := 10) (N := some 51) (v := undef) (a' := ?_) bq81 rfl rfl (qj HT_.out (by kernel_rfl)) (fun _ _ _ h => h) (Or.inr ⟨by rfl, rfl⟩) ?_ ?_
             rotate_left
             ·simp only [Act.put, sq1, sq2, sq3, i64_w, i32_w]
              rfl
             refine pure_ (i := 11) (N := some 52) (v := undef) (a' := ?_) bq87 rfl rfl (qj HT_.out (by kernel_rfl)) (fun _ _ _ h => h) (Or.inr ⟨by rfl, rfl⟩) ?_ ?_
             rotate_left
             ·simp only [Act.put, sq1, sq2, sq3, i64_w, i32_w]
              rfl
             refine pure_ (i := 12) (N := some 53) (v := undef) (a' := ?_) bq94 rfl rfl (qj HT_.out (by kernel_rfl)) (fun _ _ _ h => h) (Or.inr ⟨by rfl, rfl⟩) ?_ ?_
             rotate_left
             ·simp only [Act.put, sq1, sq2, sq3, i64_w, i32_w]
              rfl
             refine pure_ (i := 13) (N := some 54) (v := ?_) (a' := ?_) bq155 rfl rfl (qj HT_.out (by kernel_rfl)) (fun _ _ _ h => h) (Or.inl ⟨by rfl, ?_⟩) ?_ ?_
             rotate_left
             ·intro w'
              go_simp
              with_reducible rfl
             rotate_left
             ·simp only [Act.put, sq1, sq2, sq3, i64_w, i32_w]
              rfl
             refine done_ (done_of HT_.out (by kernel_rfl)) ?_
             try go_wp2_with (first | ((with_reducible refine gate_dst (N := 55) rfl ?_); refine Kd.R_lit k48 _ 48 ?hg (N := 55) ?hd (xs := ([] : List (S48))) (inner := []) (ok := fun _ => True) (okp := fun _ => True) ?hr ?hp (fun _ hk => hk) trivial (Below.refl _ _) (Nat.le_refl _) (by simp) ?_; (case hd => rfl); (case hg => rfl); (case hr => first | (go_simp; done) | (go_simp; rfl)); (case hp => exact (Reps.none _ _)); intro v137 w58 ho59 hb hg_ hnew_; clear hg_ hnew_; (first | rw [← Ny136.out] at ho59 | (simp only [Int.reduceToNat] at ho59; rw [← Ny136.out] at ho59)); have HO138 := Qz.mk (Kd.R_lower (Kd.R_newB (Kd.R_new' ho59 (Kd.R_lt (by (with_reducible repeat (first | apply Kd.R_alloc | apply Kd.R_drewN | apply Kd.R_drew)); exact HO_5.out))) (g := gb111) (o := .cells #[.string t106, .int .i64 t107, .int .i64 t108, .string t109] 48 (0, 0)) (by (with_reducible repeat (first | refine qh ?_ _ | refine qk ?_ | refine qi ?_ _)); exact BK111.out)) (keep_size (w := w) (g := g) (row := none) (by repeat (first | (with_reducible first | exact HK.out | apply KeepBut.set_ | apply ql | apply qn | apply qm | refine qt ?_ GW111.out _) | exact HK.out)))); replace HO_5 := Qz.mk (Kd.R_elder' (by (with_reducible repeat (first | apply Kd.R_alloc | apply Kd.R_drewN | apply Kd.R_drew)); exact HO_5.out) (Kd.R_base ho59) hb); replace BK111 := Qz.mk (qx (g := gb111) (o := .cells #[.string t106, .int .i64 t107, .int .i64 t108, .string t109] 48 (0, 0)) (by (with_reducible repeat (first | refine qh ?_ _ | refine qk ?_ | refine qi ?_ _)); exact BK111.out) hb); replace HK := Qz.mk (KeepBut.trans (by repeat (first | (with_reducible first | exact HK.out | apply KeepBut.set_ | apply ql | apply qn | apply qm | refine qt ?_ GW111.out _) | exact HK.out)) (KeepBut.of_below hb g none) (.inl rfl)); replace HB := Qz.mk (qr (by repeat (first | (with_reducible first | exact HB.out | apply qc | apply qa | apply qb | refine qd ?_ (IsS116.ge HI0.out) | refine qd ?_ GE111.out) | exact HB.out)) hb); replace HI0 := Qz.mk (IsS116.below (by repeat (first | (with_reducible first | exact HI0.out | apply IsS116.alloc | apply IsS116.drewN | apply IsS116.drew | apply IsS116.set_1 | apply (fun h_ => IsS116.far h_ NB0_111.out _)) | exact HI0.out)) hb); clear hb ho59; have q60 : (x8_2 : Int) ≤ ((x5_1.length : Int) : Int) := of_decide_eq_true (by first | (with_reducible assumption) | assumption); obtain ⟨i060, hi060, _, hsz60, _⟩ := info_parts info48; have hroom60 : x5_1.length ≤ co56 := (Kd.R_reads' HO_5.out).2.1; have hC60 : Kd.C k48 _ Ao56 x5_1.length x5_1 := (Kd.R_reads' HO_5.out).2.2; have hcut60 := cut_to (P := Try.prog) 32 48 .i64 Try.underlying32 hi060 Ao56 x5_1.length co56 x8_2 (of_decide_eq_true (by first | (with_reducible assumption) | assumption)) q60 hroom60; have hr60 := Kd.C_take (m := (x8_2 : Int).toNat) hC60 (by omega); have hy60 : y139.length = (x8_2 : Int).toNat := (by rw [Ny139.out, List.length_take]; omega); rw [← Ny139.out] at hr60; rw [← hy60] at hcut60; have HR142 := Qz.mk hr60; have HC142 := Qz.mk (show y139.length ≤ co56 from by omega); clear hr60 hC60 hroom60 hi060 hsz60; have KY60 := Qz.mk hy60; clear hy60; have KL60 := Qz.mk (show (x8_2 : Int).toNat ≤ x5_1.length from by omega); replace q60 := eq_true q60) | ((with_reducible refine gate_builtin (b := .append) (xs := #[.tmp 55, .tmp 58]) rfl ?_); at_builtin; refine Kd.R_append_rows k48 w.heap.size rfl (.tmp 55) (.tmp 58) 32 48 (.agg #[(.string ⟨#[]⟩), (.int .i64 0), (.int .i64 0), (.string ⟨#[]⟩)]) 48 rfl Try.underlying32 info48 rfl (by decide) (by omega) v137 y136 y139 _ _ _ (fun k_ => some k_ ≠ (.slice Ao56 x5_1.length co56 : Value).ownBlock ∧ k_ ≠ gb111) (fun _ => False) rfl rfl ?aO ?aR (fun _ _ h => h) (fun _ h => h.elim) ?aF (Below.refl _ _) ?aS ?aL ?_; (case aR => repeat (first | exact (by repeat (first | (with_reducible exact HR142.out) | (with_reducible refine Kd.C_alloc ?_ _) | (with_reducible refine Kd.C_drewN ?_ _) | (with_reducible refine Kd.C_drew ?_) | exact HR142.out)) | (with_reducible refine Kd.C_alloc ?_ _) | (with_reducible refine Kd.C_drewN ?_ _) | (with_reducible refine Kd.C_drew ?_))); (case aF => exact (fun k_ hk => ⟨Kd.fresh' (Kd.R_lt (by (with_reducible repeat (first | apply Kd.R_alloc | apply Kd.R_drewN | apply Kd.R_drew)); exact HO_5.out)) k_ hk, Kd.freshB (g := gb111) (o := .cells #[.string t106, .int .i64 t107, .int .i64 t108, .string t109] 48 (0, 0)) (by (with_reducible repeat (first | refine qh ?_ _ | refine qk ?_ | refine qi ?_ _)); exact BK111.out) k_ hk⟩)); (case aO => exact (by (with_reducible repeat (first | apply Kd.R_alloc | apply Kd.R_drewN | apply Kd.R_drew)); exact Kd.R_mono HO138.out (fun _ hk => ⟨hk.1.2, hk.2⟩))); (case aS => exact (keep_size (w := w) (g := g) (row := none) (by repeat (first | (with_reducible first | exact HK.out | apply KeepBut.set_ | apply ql | apply qn | apply qm | refine qt ?_ GW111.out _) | exact HK.out)))); (case aL => have := LMc50.out; omega); intro v144 w61 ho hb hg hat; rw [← Ny143.out] at ho; have n0_ := Qz.mk (Kd.R_after (ok := (fun k_ => k_ ≠ gb111)) (by (with_reducible repeat (first | apply Kd.R_alloc | apply Kd.R_drewN | apply Kd.R_drew)); exact HO_5.out) hg hat); have n1_ := Qz.mk (blk_grown (g := gb111) (o := .cells #[.string t106, .int .i64 t107, .int .i64 t108, .string t109] 48 (0, 0)) (by (with_reducible repeat (first | refine qh ?_ _ | refine qk ?_ | refine qi ?_ _)); exact BK111.out) hg (Kd.R_away HO138.out (fun _ hk => hk.2))); have n2_ := Qz.mk (IsS116.grown (by repeat (first | (with_reducible first | exact HI0.out | apply IsS116.alloc | apply IsS116.drewN | apply IsS116.drew | apply IsS116.set_1 | apply (fun h_ => IsS116.far h_ NB0_111.out _)) | exact HI0.out)) hg (IsS116.own_ne HI0.out HO138.out (by decide))); have n3_ := Qz.mk (below_weaken (by repeat (first | (with_reducible first | exact HB.out | apply qc | apply qa | apply qb | refine qd ?_ (IsS116.ge HI0.out) | refine qd ?_ GE111.out) | exact HB.out)) HL.out hb); have n4_ := Qz.mk (KeepBut.trans (by repeat (first | (with_reducible first | exact HK.out | apply KeepBut.set_ | apply ql | apply qn | apply qm | refine qt ?_ GW111.out _) | exact HK.out)) (KeepBut.of_grown hg g) (Kd.R_base2 HO138.out)); have n5_ := Qz.mk ((show Kd.C k48 w61 Ao56 y139.length y139 from by rw [Ny139.out]; exact Kd.C_take (m := (x8_2 : Int).toNat) ((Kd.R_reads' (Kd.R_after (ok := (fun k_ => k_ ≠ gb111)) (by (with_reducible repeat (first | apply Kd.R_alloc | apply Kd.R_drewN | apply Kd.R_drew)); exact HO_5.out) hg hat)).2.2) KL60.out)); have n6_ := Qz.mk (ho); clear HO_5; clear BK111; clear HI0; clear HB; clear HK; clear HR142; clear HO138; have HO_5 := n0_; have BK111 := n1_; have HI0 := n2_; have HB := n3_; have HK := n4_; have HR142 := n5_; have HO145 := n6_; clear n0_ n1_ n2_ n3_ n4_ n5_ n6_; clear ho hb hg hat; have hnb62 := NB111_0.out; have hnc62 := NB0_111.out; have hcz63_0 : w61.cell? ⟨gb111, 0, none⟩ = some (.string t106) := (qe BK111.out 0).trans rfl; have hcz63_1 : w61.cell? ⟨gb111, 1, none⟩ = some (.int .i64 t107) := (qe BK111.out 1).trans rfl; have hcz63_2 : w61.cell? ⟨gb111, 2, none⟩ = some (.int .i64 t108) := (qe BK111.out 2).trans rfl; have hcz63_3 : w61.cell? ⟨gb111, 3, none⟩ = some (.string t109) := (qe BK111.out 3).trans rfl; have hfz63_0 := qf BK111.out 0; have hfz63_1 := qf BK111.out 1; have hfz63_2 := qf BK111.out 2; have hfz63_3 := qf BK111.out 3) | ((with_reducible refine gate_builtin (b := .append) (xs := #[.tmp 60, .tmp 62]) rfl ?_); at_builtin; refine Kd.R_append k48 w.heap.size rfl (.tmp 60) (.tmp 62) 32 48 (.agg #[(.string ⟨#[]⟩), (.int .i64 0), (.int .i64 0), (.string ⟨#[]⟩)]) 48 rfl Try.underlying32 info48 rfl (by decide) (by omega) v144 y143 (⟨(⟨t106, t107, t108⟩ : S46), t109⟩ : S48) [.string t106, .int .i64 t107, .int .i64 t108, .string t109] (fun k_ => some k_ ≠ (.slice Ao56 x5_1.length co56 : Value).ownBlock ∧ k_ ≠ gb111) (fun _ => False) rfl rfl ?aP (fun _ hk => hk.elim) ?aF ?aO (Below.refl _ _) ?aS ?aL ?_; (case aP => exact k48_mkM _ _ _ (⟨(⟨t106, t107, t108⟩ : S46), t109⟩ : S48)); (case aF => exact (fun k_ hk => ⟨Kd.fresh' (Kd.R_lt (by (with_reducible repeat (first | apply Kd.R_alloc | apply Kd.R_drewN | apply Kd.R_drew)); exact HO_5.out)) k_ hk, Kd.freshB (g := gb111) (o := .cells #[.string t106, .int .i64 t107, .int .i64 t108, .string t109] 48 (0, 0)) (by (with_reducible repeat (first | refine qh ?_ _ | refine qk ?_ | refine qi ?_ _)); exact BK111.out) k_ hk⟩)); (case aO => exact (by (with_reducible repeat (first | apply Kd.R_alloc | apply Kd.R_drewN | apply Kd.R_drew)); exact HO145.out)); (case aS => exact (keep_size (w := w) (g := g) (row := none) (by repeat (first | (with_reducible first | exact HK.out | apply KeepBut.set_ | apply ql | apply qn | apply qm | refine qt ?_ GW111.out _) | exact HK.out)))); (case aL => have := LMc51.out; omega); intro v147 w64 ho hb hg hat; rw [← Ny146.out] at ho; have n0_ := Qz.mk (Kd.R_after (ok := (fun k_ => k_ ≠ gb111)) (by (with_reducible repeat (first | apply Kd.R_alloc | apply Kd.R_drewN | apply Kd.R_drew)); exact HO_5.out) hg hat); have n1_ := Qz.mk (blk_grown (g := gb111) (o := .cells #[.string t106, .int .i64 t107, .int .i64 t108, .string t109] 48 (0, 0)) (by (with_reducible repeat (first | refine qh ?_ _ | refine qk ?_ | refine qi ?_ _)); exact BK111.out) hg (Kd.R_away HO145.out (fun _ hk => hk.2))); have n2_ := Qz.mk (IsS116.grown (by repeat (first | (with_reducible first | exact HI0.out | apply IsS116.alloc | apply IsS116.drewN | apply IsS116.drew | apply IsS116.set_1 | apply (fun h_ => IsS116.far h_ NB0_111.out _)) | exact HI0.out)) hg (IsS116.own_ne HI0.out HO145.out (by decide))); have n3_ := Qz.mk (below_weaken (by repeat (first | (with_reducible first | exact HB.out | apply qc | apply qa | apply qb | refine qd ?_ (IsS116.ge HI0.out) | refine qd ?_ GE111.out) | exact HB.out)) HL.out hb); have n4_ := Qz.mk (KeepBut.trans (by repeat (first | (with_reducible first | exact HK.out | apply KeepBut.set_ | apply ql | apply qn | apply qm | refine qt ?_ GW111.out _) | exact HK.out)) (KeepBut.of_grown hg g) (Kd.R_base2 HO145.out)); have n5_ := Qz.mk ((show Kd.C k48 w64 Ao56 y139.length y139 from by rw [Ny139.out]; exact Kd.C_take (m := (x8_2 : Int).toNat) ((Kd.R_reads' (Kd.R_after (ok := (fun k_ => k_ ≠ gb111)) (by (with_reducible repeat (first | apply Kd.R_alloc | apply Kd.R_drewN | apply Kd.R_drew)); exact HO_5.out) hg hat)).2.2) KL60.out)); have n6_ := Qz.mk (ho); clear HO_5; clear BK111; clear HI0; clear HB; clear HK; clear HR142; clear HO145; have HO_5 := n0_; have BK111 := n1_; have HI0 := n2_; have HB := n3_; have HK := n4_; have HR142 := n5_; have HO148 := n6_; clear n0_ n1_ n2_ n3_ n4_ n5_ n6_; clear ho hb hg hat; have q65 : (x8_2 : Int) ≤ ((x5_1.length : Int) : Int) := of_decide_eq_true (by first | (with_reducible assumption) | assumption); obtain ⟨i065, hi065, _, hsz65, _⟩ := info_parts info48; have hroom65 : x5_1.length ≤ co56 := (Kd.R_reads' HO_5.out).2.1; have hC65 : Kd.C k48 _ Ao56 x5_1.length x5_1 := (Kd.R_reads' HO_5.out).2.2; have q065 : (0 : Int) ≤ (x8_2 : Int) := of_decide_eq_true (by first | (with_reducible assumption) | assumption); have hcut65 := cut_from (P := Try.prog) 32 48 .i64 Try.underlying32 hi065 4 hsz65 Ao56 x5_1.length co56 x8_2 q065 q65; have hr65 := Kd.C_drop (m := (x8_2 : Int).toNat) (c := co56) hC65 (by omega) hroom65; obtain ⟨A65, hA65⟩ : ∃ A1, A1 = (if co56 = (x8_2 : Int).toNat then Ao56 else (Ao56 : Option Addr).map (·.add ((x8_2 : Int).toNat * 4))) := ⟨_, rfl⟩; obtain ⟨c65, hc65⟩ : ∃ c1, c1 = co56 - (x8_2 : Int).toNat := ⟨_, rfl⟩; have hy65 : y149.length = x5_1.length - (x8_2 : Int).toNat := (by rw [Ny149.out, List.length_drop] <;> omega); rw [show (x5_1).drop (x8_2 : Int).toNat = y149 from Ny149.out.symm] at hr65; replace hr65 : Kd.C k48 _ A65 y149.length y149 := (by rw [hA65]; exact hr65); rw [← hy65, ← hA65, ← hc65] at hcut65; have HR152 := Qz.mk hr65; have HC152 := Qz.mk (show y149.length ≤ c65 from by rw [hy65, hc65]; exact Nat.sub_le_sub_right hroom65 _); clear hr65 hC65 hroom65 hi065 hsz65 hc65; have KY65 := Qz.mk hy65; have KA65 := Qz.mk hA65; clear hy65 hA65; have KL65 := Qz.mk (show (x8_2 : Int).toNat ≤ x5_1.length from by omega); replace q65 := eq_true q65) | ((with_reducible refine gate_builtin (b := .append) (xs := #[.tmp 64, .tmp 67]) rfl ?_); at_builtin; refine Kd.R_append_rows k48 w.heap.size rfl (.tmp 64) (.tmp 67) 32 48 (.agg #[(.string ⟨#[]⟩), (.int .i64 0), (.int .i64 0), (.string ⟨#[]⟩)]) 48 rfl Try.underlying32 info48 rfl (by decide) (by omega) v147 y146 y149 _ _ _ (fun k_ => some k_ ≠ (.slice Ao56 x5_1.length co56 : Value).ownBlock ∧ k_ ≠ gb111) (fun _ => False) rfl rfl ?aO ?aR (fun _ _ h => h) (fun _ h => h.elim) ?aF (Below.refl _ _) ?aS ?aL ?_; (case aR => repeat (first | exact (by repeat (first | (with_reducible exact HR152.out) | (with_reducible refine Kd.C_alloc ?_ _) | (with_reducible refine Kd.C_drewN ?_ _) | (with_reducible refine Kd.C_drew ?_) | exact HR152.out)) | (with_reducible refine Kd.C_alloc ?_ _) | (with_reducible refine Kd.C_drewN ?_ _) | (with_reducible refine Kd.C_drew ?_))); (case aF => exact (fun k_ hk => ⟨Kd.fresh' (Kd.R_lt (by (with_reducible repeat (first | apply Kd.R_alloc | apply Kd.R_drewN | apply Kd.R_drew)); exact HO_5.out)) k_ hk, Kd.freshB (g := gb111) (o := .cells #[.string t106, .int .i64 t107, .int .i64 t108, .string t109] 48 (0, 0)) (by (with_reducible repeat (first | refine qh ?_ _ | refine qk ?_ | refine qi ?_ _)); exact BK111.out) k_ hk⟩)); (case aO => exact (by (with_reducible repeat (first | apply Kd.R_alloc | apply Kd.R_drewN | apply Kd.R_drew)); exact HO148.out)); (case aS => exact (keep_size (w := w) (g := g) (row := none) (by repeat (first | (with_reducible first | exact HK.out | apply KeepBut.set_ | apply ql | apply qn | apply qm | refine qt ?_ GW111.out _) | exact HK.out)))); (case aL => have := LMc54.out; omega); intro v154 w66 ho hb hg hat; rw [← Ny153.out] at ho; have n0_ := Qz.mk (Kd.R_after (ok := (fun k_ => k_ ≠ gb111)) (by (with_reducible repeat (first | apply Kd.R_alloc | apply Kd.R_drewN | apply Kd.R_drew)); exact HO_5.out) hg hat); have n1_ := Qz.mk (blk_grown (g := gb111) (o := .cells #[.string t106, .int .i64 t107, .int .i64 t108, .string t109] 48 (0, 0)) (by (with_reducible repeat (first | refine qh ?_ _ | refine qk ?_ | refine qi ?_ _)); exact BK111.out) hg (Kd.R_away HO148.out (fun _ hk => hk.2))); have n2_ := Qz.mk (IsS116.grown (by repeat (first | (with_reducible first | exact HI0.out | apply IsS116.alloc | apply IsS116.drewN | apply IsS116.drew | apply IsS116.set_1 | apply (fun h_ => IsS116.far h_ NB0_111.out _)) | exact HI0.out)) hg (IsS116.own_ne HI0.out HO148.out (by decide))); have n3_ := Qz.mk (below_weaken (by repeat (first | (with_reducible first | exact HB.out | apply qc | apply qa | apply qb | refine qd ?_ (IsS116.ge HI0.out) | refine qd ?_ GE111.out) | exact HB.out)) HL.out hb); have n4_ := Qz.mk (KeepBut.trans (by repeat (first | (with_reducible first | exact HK.out | apply KeepBut.set_ | apply ql | apply qn | apply qm | refine qt ?_ GW111.out _) | exact HK.out)) (KeepBut.of_grown hg g) (Kd.R_base2 HO148.out)); have n5_ := Qz.mk ((show Kd.C k48 w66 Ao56 y139.length y139 from by rw [Ny139.out]; exact Kd.C_take (m := (x8_2 : Int).toNat) ((Kd.R_reads' (Kd.R_after (ok := (fun k_ => k_ ≠ gb111)) (by (with_reducible repeat (first | apply Kd.R_alloc | apply Kd.R_drewN | apply Kd.R_drew)); exact HO_5.out) hg hat)).2.2) KL60.out)); have n6_ := Qz.mk ((show Kd.C k48 w66 A65 y149.length y149 from by rw [Ny149.out, KA65.out]; exact Kd.C_drop (m := (x8_2 : Int).toNat) (c := co56) ((Kd.R_reads' (Kd.R_after (ok := (fun k_ => k_ ≠ gb111)) (by (with_reducible repeat (first | apply Kd.R_alloc | apply Kd.R_drewN | apply Kd.R_drew)); exact HO_5.out) hg hat)).2.2) KL65.out ((Kd.R_reads' (Kd.R_after (ok := (fun k_ => k_ ≠ gb111)) (by (with_reducible repeat (first | apply Kd.R_alloc | apply Kd.R_drewN | apply Kd.R_drew)); exact HO_5.out) hg hat)).2.1))); have n7_ := Qz.mk (ho); clear HO_5; clear BK111; clear HI0; clear HB; clear HK; clear HR142; clear HR152; clear HO148; have HO_5 := n0_; have BK111 := n1_; have HI0 := n2_; have HB := n3_; have HK := n4_; have HR142 := n5_; have HR152 := n6_; have HO155 := n7_; clear n0_ n1_ n2_ n3_ n4_ n5_ n6_ n7_; clear ho hb hg hat))
             go_roundg k2
             case measure => have := HK1.out; have := HK2.out; omega
             case rel => exact ⟨(y153), (wrap64 (x6_1 - 1)), (t110), (by first | rfl | (simp; done) | (simp [*]; done)), H', ⟨by have := HK1.out; have := HK2.out; omega⟩, ⟨by (with_reducible repeat (first | apply Kd.R_alloc | apply Kd.R_drewN | apply Kd.R_drew)); exact Kd.R_mono HO155.out (fun _ hk => trivial)⟩, ⟨by repeat (first | (with_reducible first | exact HI0.out | apply IsS116.alloc | apply IsS116.drewN | apply IsS116.drew | apply IsS116.set_1 | apply (fun h_ => IsS116.far h_ NB0_111.out _)) | exact HI0.out)⟩, ⟨by repeat (first | (with_reducible first | exact HK.out | apply KeepBut.set_ | apply ql | apply qn | apply qm | refine qt ?_ GW111.out _) | exact HK.out)⟩, ⟨by repeat (first | (with_reducible first | exact HB.out | apply qc | apply qa | apply qb | refine qd ?_ (IsS116.ge HI0.out) | refine qd ?_ GE111.out) | exact HB.out)⟩⟩
            ·rw [if_neg c54] at H
             exact absurd H (by simp)
           ·rw [if_neg c51] at H
            exact absurd H (by simp)
          ·rw [if_neg c50] at H
           exact absurd H (by simp)
         ·rw [if_neg c49] at H
          exact absurd H (by simp)
        ·rw [if_neg c48] at H
         exact absurd H (by simp)
    ·replace c10 := Bool.eq_false_iff.mpr c10
     subst c10
     have H1 : (spec_l1Rd_entries.l0 k1 x5_1 (wrap64 (x6_1 - 1)) s0_0 t110) = some (r1, r2) := by rw [if_neg (show ¬ (false = true) by decide)] at H; exact H
     clear H
     have H := H1
     clear H1
     have H' := Qz.mk H
     clear H
     go_wp2_with (first | ((with_reducible refine qq (f := 84) rfl ?_); refine qu (some 20) rfl rfl Try.func84 (by kernel_rfl) rfl #[.pointer (some ⟨g, 0, none⟩)] rfl (by (try simp only [List.map_toArray, List.map_cons, List.map_nil]); first | done | rfl) ?_; (with_reducible refine (spec_l1Rd_entry.calls k1 g s0_0 x1001_1 t106 t107 t108 t109 t110 w0 _ ?side1 ?side2 A8.out).mono ?_); (case side1 => repeat (first | (with_reducible first | exact HI0.out | apply IsS116.alloc | apply IsS116.drewN | apply IsS116.drew | apply IsS116.set_1) | exact HI0.out)); (case side2 => repeat (first | (with_reducible first | exact HB.out | apply qc | apply qa | apply qb | refine qd ?_ (IsS116.ge HI0.out)) | exact HB.out)); rintro e w67 ⟨rfl, hi, hb, hk⟩; refine ⟨_, rfl, ?_⟩; replace HO_5 := Qz.mk (Kd.R_mono (Kd.R_keep (IsS116.apart (show IsS116 w0 _ g s0_0 x1001_1 from by repeat (first | (with_reducible first | exact HI0.out | apply IsS116.alloc | apply IsS116.drewN | apply IsS116.drew | apply IsS116.set_1) | exact HI0.out)) (by (with_reducible repeat (first | apply Kd.R_alloc | apply Kd.R_drewN | apply Kd.R_drew)); exact HO_5.out) (by decide)) hk (fun _ h => h.2)) (fun _ h => h.1)); replace HK := Qz.mk (KeepBut.trans (by repeat (first | (with_reducible first | exact HK.out | apply KeepBut.set_ | apply ql | apply qn | apply qm) | exact HK.out)) hk (.inl rfl)); replace HB := Qz.mk (hb); replace HI0 := Qz.mk (hi); (try clear hb); (try clear hk); (try clear hi)) | ((with_reducible refine gate_dst (N := 7) rfl ?_); refine box_event ?hg (N := 7) ?hd (cs := #[.string (⟨#[]⟩ : ByteArray), .int .i64 0, .int .i64 0, .string (⟨#[]⟩ : ByteArray)]) (t := 48) ?hr ?_; (case hd => rfl); (case hg => rfl); (case hr => first | (go_simp; done) | (go_simp; rfl)); intro gb111 hg w68 hbox hb; replace HO_5 := Qz.mk (Kd.R_below (Kd.R_elderB (by (with_reducible repeat (first | apply Kd.R_alloc | apply Kd.R_drewN | apply Kd.R_drew)); exact HO_5.out) gb111 (Nat.le_of_eq hg.symm)) hb); replace HB := Qz.mk (qr (by repeat (first | (with_reducible first | exact HB.out | apply qc | apply qa | apply qb | refine qd ?_ (IsS116.ge HI0.out)) | exact HB.out)) hb); have BK111 := Qz.mk (hbox); have GW111 := Qz.mk ((by rw [hg]; exact (keep_size (w := w) (g := g) (row := none) (by repeat (first | (with_reducible first | exact HK.out | apply KeepBut.set_ | apply ql | apply qn | apply qm) | exact HK.out))) : w.heap.size ≤ gb111)); have GE111 := Qz.mk ((Nat.le_trans HW0.out (by rw [hg]; exact (keep_size (w := w) (g := g) (row := none) (by repeat (first | (with_reducible first | exact HK.out | apply KeepBut.set_ | apply ql | apply qn | apply qm) | exact HK.out))) : w.heap.size ≤ gb111) : w0.heap.size ≤ gb111)); replace HK := Qz.mk (KeepBut.trans (by repeat (first | (with_reducible first | exact HK.out | apply KeepBut.set_ | apply ql | apply qn | apply qm) | exact HK.out)) (KeepBut.of_below hb g none) (.inl rfl)); have NB0_111 := Qz.mk ((by rw [hg]; exact Nat.ne_of_lt (IsS116.lt (show IsS116 w0 _ g s0_0 t110 from by repeat (first | (with_reducible first | exact HI0.out | apply IsS116.alloc | apply IsS116.drewN | apply IsS116.drew | apply IsS116.set_1) | exact HI0.out))) : g ≠ gb111)); have NB111_0 := Qz.mk ((by rw [hg]; exact Nat.ne_of_gt (IsS116.lt (show IsS116 w0 _ g s0_0 t110 from by repeat (first | (with_reducible first | exact HI0.out | apply IsS116.alloc | apply IsS116.drewN | apply IsS116.drew | apply IsS116.set_1) | exact HI0.out))) : gb111 ≠ g)); replace HI0 := Qz.mk (IsS116.below (by repeat (first | (with_reducible first | exact HI0.out | apply IsS116.alloc | apply IsS116.drewN | apply IsS116.drew | apply IsS116.set_1) | exact HI0.out)) hb); clear hb hbox hg; have hnb69 := NB111_0.out; have hnc69 := NB0_111.out; have hcz70_0 : w68.cell? ⟨gb111, 0, none⟩ = some (.string (⟨#[]⟩ : ByteArray)) := (qe BK111.out 0).trans rfl; have hcz70_1 : w68.cell? ⟨gb111, 1, none⟩ = some (.int .i64 0) := (qe BK111.out 1).trans rfl; have hcz70_2 : w68.cell? ⟨gb111, 2, none⟩ = some (.int .i64 0) := (qe BK111.out 2).trans rfl; have hcz70_3 : w68.cell? ⟨gb111, 3, none⟩ = some (.string (⟨#[]⟩ : ByteArray)) := (qe BK111.out 3).trans rfl; have hfz70_0 := qf BK111.out 0; have hfz70_1 := qf BK111.out 1; have hfz70_2 := qf BK111.out 2; have hfz70_3 := qf BK111.out 3) | ((with_reducible refine qq (f := 73) rfl ?_); refine qu (some 22) rfl rfl Try.func73 (by kernel_rfl) rfl #[.agg #[.string t106, .int .i64 t107, .int .i64 t108, .string t109]] rfl (by (try simp only [List.map_toArray, List.map_cons, List.map_nil]); first | done | rfl) ?_; (with_reducible refine (spec_EntryOk.calls t106 t107 t108 t109 false _ A9.out).mono ?_); rintro e w71 ⟨rfl, hb⟩; refine ⟨_, rfl, ?_⟩; replace HO_5 := Qz.mk (Kd.R_below (by (with_reducible repeat (first | apply Kd.R_alloc | apply Kd.R_drewN | apply Kd.R_drew)); exact (Kd.R_mono (Kd.R_far (p := ⟨gb111, 3, none⟩) (Kd.R_far (p := ⟨gb111, 2, none⟩) (Kd.R_far (p := ⟨gb111, 1, none⟩) (Kd.R_far (p := ⟨gb111, 0, none⟩) (Kd.R_mono HO_5.out (fun k_ hk => (⟨hk, hk.2⟩ : _ ∧ k_ ≠ gb111))) (fun _ hk => hk.2) (.string t106)) (fun _ hk => hk.2) (.int .i64 t107)) (fun _ hk => hk.2) (.int .i64 t108)) (fun _ hk => hk.2) (.string t109)) (fun _ h_ => h_.1))) hb); replace BK111 := Qz.mk (qx (g := gb111) (o := .cells #[.string t106, .int .i64 t107, .int .i64 t108, .string t109] 48 (0, 0)) (by (with_reducible repeat (first | refine qh ?_ _ | refine qk ?_ | refine qi ?_ _)); refine blk_put (cs := #[.string t106, .int .i64 t107, .int .i64 t108, .string (⟨#[]⟩ : ByteArray)]) ?_ 3 _ rfl; (with_reducible repeat (first | refine qh ?_ _ | refine qk ?_ | refine qi ?_ _)); refine blk_put (cs := #[.string t106, .int .i64 t107, .int .i64 0, .string (⟨#[]⟩ : ByteArray)]) ?_ 2 _ rfl; (with_reducible repeat (first | refine qh ?_ _ | refine qk ?_ | refine qi ?_ _)); refine blk_put (cs := #[.string t106, .int .i64 0, .int .i64 0, .string (⟨#[]⟩ : ByteArray)]) ?_ 1 _ rfl; (with_reducible repeat (first | refine qh ?_ _ | refine qk ?_ | refine qi ?_ _)); refine blk_put (cs := #[.string (⟨#[]⟩ : ByteArray), .int .i64 0, .int .i64 0, .string (⟨#[]⟩ : ByteArray)]) ?_ 0 _ rfl; (with_reducible repeat (first | refine qh ?_ _ | refine qk ?_ | refine qi ?_ _)); exact BK111.out) hb); replace HK := Qz.mk (KeepBut.trans (by repeat (first | (with_reducible first | exact HK.out | apply KeepBut.set_ | apply ql | apply qn | apply qm | refine qt ?_ GW111.out _) | exact HK.out)) (KeepBut.of_below hb g none) (.inl rfl)); replace HB := Qz.mk (qr (by repeat (first | (with_reducible first | exact HB.out | apply qc | apply qa | apply qb | refine qd ?_ (IsS116.ge HI0.out) | refine qd ?_ GE111.out) | exact HB.out)) hb); replace HI0 := Qz.mk (IsS116.below (show IsS116 w0 ((((w68.setCell ⟨gb111, 0, none⟩ (.string t106)).setCell ⟨gb111, 1, none⟩ (.int .i64 t107)).setCell ⟨gb111, 2, none⟩ (.int .i64 t108)).setCell ⟨gb111, 3, none⟩ (.string t109)) g s0_0 t110 from by repeat (first | (with_reducible first | exact HI0.out | apply IsS116.alloc | apply IsS116.drewN | apply IsS116.drew | apply IsS116.set_1 | apply (fun h_ => IsS116.far h_ NB0_111.out _)) | exact HI0.out)) hb); (try clear hb); (try clear hk); (try clear hi)))
     go_roundg k1
     case measure => have := HK1.out; omega
     case rel => exact ⟨(x5_1), (wrap64 (x6_1 - 1)), (t110), (by first | rfl | (simp; done) | (simp [*]; done)), H', ⟨by have := HK1.out; omega⟩, ⟨by (with_reducible repeat (first | apply Kd.R_alloc | apply Kd.R_drewN | apply Kd.R_drew)); exact Kd.R_mono HO_5.out (fun _ hk => trivial)⟩, ⟨by repeat (first | (with_reducible first | exact HI0.out | apply IsS116.alloc | apply IsS116.drewN | apply IsS116.drew | apply IsS116.set_1 | apply (fun h_ => IsS116.far h_ NB0_111.out _)) | exact HI0.out)⟩, ⟨by repeat (first | (with_reducible first | exact HK.out | apply KeepBut.set_ | apply ql | apply qn | apply qm | refine qt ?_ GW111.out _) | exact HK.out)⟩, ⟨by repeat (first | (with_reducible first | exact HB.out | apply qc | apply qa | apply qb | refine qd ?_ (IsS116.ge HI0.out) | refine qd ?_ GE111.out) | exact HB.out)⟩⟩
   ·rw [if_neg c7] at H
    have c7b0 : decide (0 < x6_1) = false := decide_eq_false c7
    clear c7
    replace H := Option.bind_eq_some_iff.mp H
    obtain ⟨⟨t156, t157⟩, A720, H⟩ := H
    replace H : (if t156 = true then ((spec_l1Rd_entry.f k1 s0_0 t157).bind fun bt158 => (if x5_1.length < 2932031007402 then (some ((x5_1 ++ [(⟨(⟨bt158.1, bt158.2.1, bt158.2.2.1⟩ : S46), bt158.2.2.2.1⟩ : S48)]), bt158.2.2.2.2)) else (none))) else (some (x5_1, t157))) = some (r1, r2) := H
    have A72 := Qz.mk A720
    clear A720
    by_cases c73 : t156 = true
    ·subst c73
     have H1 : ((spec_l1Rd_entry.f k1 s0_0 t157).bind fun bt158 => (if x5_1.length < 2932031007402 then (some ((x5_1 ++ [(⟨(⟨bt158.1, bt158.2.1, bt158.2.2.1⟩ : S46), bt158.2.2.2.1⟩ : S48)]), bt158.2.2.2.2)) else (none))) = some (r1, r2) := by rw [if_pos rfl] at H; exact H
     clear H
     have H := H1
     clear H1
     replace H := Option.bind_eq_some_iff.mp H
     obtain ⟨⟨t158, t159, t160, t161, t162⟩, A740, H⟩ := H
     replace H : (if x5_1.length < 2932031007402 then (some ((x5_1 ++ [(⟨(⟨t158, t159, t160⟩ : S46), t161⟩ : S48)]), t162)) else (none)) = some (r1, r2) := H
     have A74 := Qz.mk A740
     clear A740
     by_cases c75 : x5_1.length < 2932031007402
     ·rw [if_pos c75] at H
      have LMc75 := Qz.mk c75
      clear c75
      obtain ⟨y163, hy163⟩ : ∃ y_ : List (S48), y_ = (x5_1 ++ [(⟨(⟨t158, t159, t160⟩ : S46), t161⟩ : S48)]) := ⟨_, rfl⟩
      replace H : (some (y163, t162)) = some (r1, r2) := by first | (rw [hy163]; with_reducible exact H) | (have H2_ := (Option.bind_some _ _).symm.trans H; rw [hy163]; with_reducible exact H2_) | (have H2_ := (Option.bind_some _ _).symm.trans H; with_reducible exact H2_) | with_reducible exact H | (rw [hy163]; exact H) | exact H
      have Ny163 := Qz.mk hy163
      clear hy163
      simp only [Option.some.injEq, Prod.mk.injEq] at H
      obtain ⟨rfl, rfl⟩ := H
      go_wp2_with (first | ((with_reducible refine qq (f := 96) rfl ?_); refine qu (some 70) rfl rfl Try.func96 (by kernel_rfl) rfl #[.pointer (some ⟨g, 0, none⟩), .int .i64 24] rfl (by (try simp only [List.map_toArray, List.map_cons, List.map_nil]); first | done | rfl) ?_; (with_reducible refine (spec_l1Rd_once.calls g s0_0 x1001_1 24 true t157 w0 _ ?side1 ?side2 A72.out).mono ?_); (case side1 => repeat (first | (with_reducible first | exact HI0.out | apply IsS116.alloc | apply IsS116.drewN | apply IsS116.drew | apply IsS116.set_1) | exact HI0.out)); (case side2 => repeat (first | (with_reducible first | exact HB.out | apply qc | apply qa | apply qb | refine qd ?_ (IsS116.ge HI0.out)) | exact HB.out)); rintro e w76 ⟨rfl, hi, hb, hk⟩; refine ⟨_, rfl, ?_⟩; replace HO_5 := Qz.mk (Kd.R_mono (Kd.R_keep (IsS116.apart (show IsS116 w0 _ g s0_0 x1001_1 from by repeat (first | (with_reducible first | exact HI0.out | apply IsS116.alloc | apply IsS116.drewN | apply IsS116.drew | apply IsS116.set_1) | exact HI0.out)) (by (with_reducible repeat (first | apply Kd.R_alloc | apply Kd.R_drewN | apply Kd.R_drew)); exact HO_5.out) (by decide)) hk (fun _ h => h.2)) (fun _ h => h.1)); replace HK := Qz.mk (KeepBut.trans (by repeat (first | (with_reducible first | exact HK.out | apply KeepBut.set_ | apply ql | apply qn | apply qm) | exact HK.out)) hk (.inl rfl)); replace HB := Qz.mk (hb); replace HI0 := Qz.mk (hi); (try clear hb); (try clear hk); (try clear hi)) | ((with_reducible refine qq (f := 84) rfl ?_); refine qu (some 73) rfl rfl Try.func84 (by kernel_rfl) rfl #[.pointer (some ⟨g, 0, none⟩)] rfl (by (try simp only [List.map_toArray, List.map_cons, List.map_nil]); first | done | rfl) ?_; (with_reducible refine (spec_l1Rd_entry.calls k1 g s0_0 t157 t158 t159 t160 t161 t162 w0 _ ?side1 ?side2 A74.out).mono ?_); (case side1 => repeat (first | (with_reducible first | exact HI0.out | apply IsS116.alloc | apply IsS116.drewN | apply IsS116.drew | apply IsS116.set_1) | exact HI0.out)); (case side2 => repeat (first | (with_reducible first | exact HB.out | apply qc | apply qa | apply qb | refine qd ?_ (IsS116.ge HI0.out)) | exact HB.out)); rintro e w77 ⟨rfl, hi, hb, hk⟩; refine ⟨_, rfl, ?_⟩; replace HO_5 := Qz.mk (Kd.R_mono (Kd.R_keep (IsS116.apart (show IsS116 w0 _ g s0_0 t157 from by repeat (first | (with_reducible first | exact HI0.out | apply IsS116.alloc | apply IsS116.drewN | apply IsS116.drew | apply IsS116.set_1) | exact HI0.out)) (by (with_reducible repeat (first | apply Kd.R_alloc | apply Kd.R_drewN | apply Kd.R_drew)); exact HO_5.out) (by decide)) hk (fun _ h => h.2)) (fun _ h => h.1)); replace HK := Qz.mk (KeepBut.trans (by repeat (first | (with_reducible first | exact HK.out | apply KeepBut.set_ | apply ql | apply qn | apply qm) | exact HK.out)) hk (.inl rfl)); replace HB := Qz.mk (hb); replace HI0 := Qz.mk (hi); (try clear hb); (try clear hk); (try clear hi)) | ((with_reducible refine gate_builtin (b := .append) (xs := #[.tmp 71, .tmp 74]) rfl ?_); at_builtin; refine Kd.R_append k48 w.heap.size rfl (.tmp 71) (.tmp 74) 32 48 (.agg #[(.string ⟨#[]⟩), (.int .i64 0), (.int .i64 0), (.string ⟨#[]⟩)]) 48 rfl Try.underlying32 info48 rfl (by decide) (by omega) u5 x5_1 (⟨(⟨t158, t159, t160⟩ : S46), t161⟩ : S48) [.string t158, .int .i64 t159, .int .i64 t160, .string t161] (fun _ => True) (fun _ => False) rfl rfl ?aP (fun _ hk => hk.elim) ?aF ?aO (Below.refl _ _) ?aS ?aL ?_; (case aP => exact k48_mkM _ _ _ (⟨(⟨t158, t159, t160⟩ : S46), t161⟩ : S48)); (case aF => exact (fun _ _ => trivial)); (case aO => exact (by (with_reducible repeat (first | apply Kd.R_alloc | apply Kd.R_drewN | apply Kd.R_drew)); exact HO_5.out)); (case aS => exact (keep_size (w := w) (g := g) (row := none) (by repeat (first | (with_reducible first | exact HK.out | apply KeepBut.set_ | apply ql | apply qn | apply qm) | exact HK.out)))); (case aL => have := LMc75.out; omega); intro v164 w78 ho hb hg hat; rw [← Ny163.out] at ho; have n0_ := Qz.mk (IsS116.grown (by repeat (first | (with_reducible first | exact HI0.out | apply IsS116.alloc | apply IsS116.drewN | apply IsS116.drew | apply IsS116.set_1) | exact HI0.out)) hg (IsS116.own_ne HI0.out HO_5.out (by decide))); have n1_ := Qz.mk (below_weaken (by repeat (first | (with_reducible first | exact HB.out | apply qc | apply qa | apply qb | refine qd ?_ (IsS116.ge HI0.out)) | exact HB.out)) HL.out hb); have n2_ := Qz.mk (KeepBut.trans (by repeat (first | (with_reducible first | exact HK.out | apply KeepBut.set_ | apply ql | apply qn | apply qm) | exact HK.out)) (KeepBut.of_grown hg g) (Kd.R_base2 HO_5.out)); have n3_ := Qz.mk (ho); clear HI0; clear HB; clear HK; clear HO_5; have HI0 := n0_; have HB := n1_; have HK := n2_; have HO165 := n3_; clear n0_ n1_ n2_ n3_; clear ho hb hg hat))
      go_ret
      exact ⟨_, by first | rfl | (simp [qp, qo] <;> rfl) | (simp [*, qp, qo] <;> rfl), by (with_reducible repeat (first | apply Kd.R_alloc | apply Kd.R_drewN | apply Kd.R_drew)); exact HO165.out, by repeat (first | (with_reducible first | exact HI0.out | apply IsS116.alloc | apply IsS116.drewN | apply IsS116.drew | apply IsS116.set_1) | exact HI0.out), by repeat (first | (with_reducible first | exact HB.out | apply qc | apply qa | apply qb | refine qd ?_ (IsS116.ge HI0.out)) | exact HB.out), by repeat (first | (with_reducible first | exact HK.out | apply KeepBut.set_ | apply ql | apply qn | apply qm) | exact HK.out)⟩
     ·rw [if_neg c75] at H
      exact absurd H (by simp)
    ·replace c73 := Bool.eq_false_iff.mpr c73
     subst c73
     have H1 : (some (x5_1, t157)) = some (r1, r2) := by rw [if_neg (show ¬ (false = true) by decide)] at H; exact H
     clear H
     have H := H1
     clear H1
     simp only [Option.some.injEq, Prod.mk.injEq] at H
     obtain ⟨rfl, rfl⟩ := H
     go_wp2_with (first | ((with_reducible refine qq (f := 96) rfl ?_); refine qu (some 70) rfl rfl Try.func96 (by kernel_rfl) rfl #[.pointer (some ⟨g, 0, none⟩), .int .i64 24] rfl (by (try simp only [List.map_toArray, List.map_cons, List.map_nil]); first | done | rfl) ?_; (with_reducible refine (spec_l1Rd_once.calls g s0_0 x1001_1 24 false t157 w0 _ ?side1 ?side2 A72.out).mono ?_); (case side1 => repeat (first | (with_reducible first | exact HI0.out | apply IsS116.alloc | apply IsS116.drewN | apply IsS116.drew | apply IsS116.set_1) | exact HI0.out)); (case side2 => repeat (first | (with_reducible first | exact HB.out | apply qc | apply qa | apply qb | refine qd ?_ (IsS116.ge HI0.out)) | exact HB.out)); rintro e w79 ⟨rfl, hi, hb, hk⟩; refine ⟨_, rfl, ?_⟩; replace HO_5 := Qz.mk (Kd.R_mono (Kd.R_keep (IsS116.apart (show IsS116 w0 _ g s0_0 x1001_1 from by repeat (first | (with_reducible first | exact HI0.out | apply IsS116.alloc | apply IsS116.drewN | apply IsS116.drew | apply IsS116.set_1) | exact HI0.out)) (by (with_reducible repeat (first | apply Kd.R_alloc | apply Kd.R_drewN | apply Kd.R_drew)); exact HO_5.out) (by decide)) hk (fun _ h => h.2)) (fun _ h => h.1)); replace HK := Qz.mk (KeepBut.trans (by repeat (first | (with_reducible first | exact HK.out | apply KeepBut.set_ | apply ql | apply qn | apply qm) | exact HK.out)) hk (.inl rfl)); replace HB := Qz.mk (hb); replace HI0 := Qz.mk (hi); (try clear hb); (try clear hk); (try clear hi)))
     go_ret
     exact ⟨_, by first | rfl | (simp [qp, qo] <;> rfl) | (simp [*, qp, qo] <;> rfl), by (with_reducible repeat (first | apply Kd.R_alloc | apply Kd.R_drewN | apply Kd.R_drew)); exact HO_5.out, by repeat (first | (with_reducible first | exact HI0.out | apply IsS116.alloc | apply IsS116.drewN | apply IsS116.drew | apply IsS116.set_1) | exact HI0.out), by repeat (first | (with_reducible first | exact HB.out | apply qc | apply qa | apply qb | refine qd ?_ (IsS116.ge HI0.out)) | exact HB.out), by repeat (first | (with_reducible first | exact HK.out | apply KeepBut.set_ | apply ql | apply qn | apply qm) | exact HK.out)⟩
def spec_DrawMemGet.f (k : Nat) (l0 : List Int) : Option ((List (S48)) × ByteArray × Int) := (spec_l1Open.f l0).bind fun bt101 => ((spec_l1Rd_entries.f k bt101.1 bt101.2 12).bind fun bt104 => ((spec_l1Rd_user.f bt101.1 bt104.2).bind fun bt108 => ((spec_l1Rd_off.f k bt101.1 bt108.2 0 14).bind fun bt110 => (some (bt104.1, bt108.1, bt110.1)))))
set_option maxHeartbeats 8000000 in
set_option maxRecDepth 100000 in
theorem spec_DrawMemGet.calls (k : Nat) (A0 : Option Addr) (c0 : Nat) (l0 : List Int) (r1 : List (S48)) (r2 : ByteArray) (r3 : Int) (w : World) (hr0 : Kd.C (Kd.int .u8) w A0 l0.length l0) (hc0 : l0.length ≤ c0) (h : spec_DrawMemGet.f k l0 = some (r1, r2, r3)) :
  Calls Try.prog 46 #[.slice A0 l0.length c0] w fun e w' => ∃ v0_ : Value, e = .returned (.tuple #[v0_, .string r2, .int .i64 r3]) ∧ Kd.R k48 48 w' w.heap.size (fun _ => True) v0_ r1 ∧ Below w.heap.size w w' := by
 have HR0 := Qz.mk hr0
 have HC0 := Qz.mk hc0
 clear hr0 hc0
 have HB := Qz.mk (Below.refl w.heap.size w)
 have H : ((spec_l1Open.f l0).bind fun bt101 => ((spec_l1Rd_entries.f k bt101.1 bt101.2 12).bind fun bt104 => ((spec_l1Rd_user.f bt101.1 bt104.2).bind fun bt108 => ((spec_l1Rd_off.f k bt101.1 bt108.2 0 14).bind fun bt110 => (some (bt104.1, bt108.1, bt110.1)))))) = some (r1, r2, r3) := h
 clear h
 replace H := Option.bind_eq_some_iff.mp H
 obtain ⟨⟨t101, t102⟩, A20, H⟩ := H
 replace H : ((spec_l1Rd_entries.f k t101 t102 12).bind fun bt104 => ((spec_l1Rd_user.f t101 bt104.2).bind fun bt108 => ((spec_l1Rd_off.f k t101 bt108.2 0 14).bind fun bt110 => (some (bt104.1, bt108.1, bt110.1))))) = some (r1, r2, r3) := H
 have A2 := Qz.mk A20
 clear A20
 replace H := Option.bind_eq_some_iff.mp H
 obtain ⟨⟨t104, t107⟩, A30, H⟩ := H
 replace H : ((spec_l1Rd_user.f t101 t107).bind fun bt108 => ((spec_l1Rd_off.f k t101 bt108.2 0 14).bind fun bt110 => (some (t104, bt108.1, bt110.1)))) = some (r1, r2, r3) := H
 have A3 := Qz.mk A30
 clear A30
 replace H := Option.bind_eq_some_iff.mp H
 obtain ⟨⟨t108, t109⟩, A40, H⟩ := H
 replace H : ((spec_l1Rd_off.f k t101 t109 0 14).bind fun bt110 => (some (t104, t108, bt110.1))) = some (r1, r2, r3) := H
 have A4 := Qz.mk A40
 clear A40
 replace H := Option.bind_eq_some_iff.mp H
 obtain ⟨⟨t110, t111⟩, A50, H⟩ := H
 replace H : (some (t104, t108, t110)) = some (r1, r2, r3) := H
 have A5 := Qz.mk A50
 clear A50
 simp only [Option.some.injEq, Prod.mk.injEq] at H
 obtain ⟨rfl, rfl, rfl⟩ := H
 go_enter Try.func46, Try.ntmps46
 go_wp2_with (first | ((with_reducible refine qq (f := 70) rfl ?_); refine qu (some 8) rfl rfl Try.func70 (by kernel_rfl) rfl #[.slice A0 l0.length c0] rfl (by (try simp only [List.map_toArray, List.map_cons, List.map_nil]); first | done | rfl | (simp only [List.length_drop, List.length_take]; rfl) | (rw [IntWalk.u64_in _ (by omega)] <;> rfl)) ?_; (with_reducible refine (spec_l1Open.calls _ _ l0 t101 t102 w _ ?side1 ?side2 ?side3 A2.out).mono ?_); (case side1 => repeat (first | (with_reducible first | exact HB.out | apply qc | apply qa | apply qb) | exact HB.out)); (case side2 => exact HR0.out); (case side3 => exact HC0.out); rintro e w6 ⟨g103, rfl, hi, hb, hb2⟩; refine ⟨_, rfl, ?_⟩; replace HB := Qz.mk (hb); have HI103 := Qz.mk (hi); (try clear hb); (try clear hb2); (try clear hk); (try clear hi)) | ((with_reducible refine qq (f := 71) rfl ?_); refine qu (some 10) rfl rfl Try.func71 (by kernel_rfl) rfl #[.pointer (some ⟨g103, 0, none⟩), .int .i64 12] rfl (by (try simp only [List.map_toArray, List.map_cons, List.map_nil]); first | done | rfl) ?_; (with_reducible refine (spec_l1Rd_entries.calls k g103 t101 t102 12 t104 t107 w _ ?side1 ?side2 A3.out).mono ?_); (case side1 => repeat (first | (with_reducible first | exact HI103.out | apply IsS116.alloc | apply IsS116.drewN | apply IsS116.drew | apply IsS116.set_1) | exact HI103.out)); (case side2 => repeat (first | (with_reducible first | exact HB.out | apply qc | apply qa | apply qb | refine qd ?_ (IsS116.ge HI103.out)) | exact HB.out)); rintro e w7 ⟨v105, rfl, ho0, hi, hb, hk⟩; refine ⟨_, rfl, ?_⟩; have HO106 := Qz.mk (Kd.R_lower ho0 (below_size (by repeat (first | (with_reducible first | exact HB.out | apply qc | apply qa | apply qb | refine qd ?_ (IsS116.ge HI103.out)) | exact HB.out)))); replace HB := Qz.mk (hb); replace HI103 := Qz.mk (hi); (try clear hb); (try clear hb2); (try clear hk); (try clear hi); (try clear ho0)) | ((with_reducible refine qq (f := 87) rfl ?_); refine qu (some 13) rfl rfl Try.func87 (by kernel_rfl) rfl #[.pointer (some ⟨g103, 0, none⟩)] rfl (by (try simp only [List.map_toArray, List.map_cons, List.map_nil]); first | done | rfl) ?_; (with_reducible refine (spec_l1Rd_user.calls g103 t101 t107 t108 t109 w _ ?side1 ?side2 A4.out).mono ?_); (case side1 => repeat (first | (with_reducible first | exact HI103.out | apply IsS116.alloc | apply IsS116.drewN | apply IsS116.drew | apply IsS116.set_1) | exact HI103.out)); (case side2 => repeat (first | (with_reducible first | exact HB.out | apply qc | apply qa | apply qb | refine qd ?_ (IsS116.ge HI103.out)) | exact HB.out)); rintro e w8 ⟨rfl, hi, hb, hk⟩; refine ⟨_, rfl, ?_⟩; replace HO106 := Qz.mk (Kd.R_mono (Kd.R_keep (IsS116.apart (show IsS116 w _ g103 t101 t107 from by repeat (first | (with_reducible first | exact HI103.out | apply IsS116.alloc | apply IsS116.drewN | apply IsS116.drew | apply IsS116.set_1) | exact HI103.out)) (by (with_reducible repeat (first | apply Kd.R_alloc | apply Kd.R_drewN | apply Kd.R_drew)); exact HO106.out) (by decide)) hk (fun _ h => h.2)) (fun _ h => h.1)); replace HB := Qz.mk (hb); replace HI103 := Qz.mk (hi); (try clear hb); (try clear hb2); (try clear hk); (try clear hi)) | ((with_reducible refine qq (f := 72) rfl ?_); refine qu (some 15) rfl rfl Try.func72 (by kernel_rfl) rfl #[.pointer (some ⟨g103, 0, none⟩), .int .i64 0, .int .i64 14] rfl (by (try simp only [List.map_toArray, List.map_cons, List.map_nil]); first | done | rfl) ?_; (with_reducible refine (spec_l1Rd_off.calls k g103 t101 t109 0 14 t110 t111 w _ ?side1 ?side2 A5.out).mono ?_); (case side1 => repeat (first | (with_reducible first | exact HI103.out | apply IsS116.alloc | apply IsS116.drewN | apply IsS116.drew | apply IsS116.set_1) | exact HI103.out)); (case side2 => repeat (first | (with_reducible first | exact HB.out | apply qc | apply qa | apply qb | refine qd ?_ (IsS116.ge HI103.out)) | exact HB.out)); rintro e w9 ⟨rfl, hi, hb, hk⟩; refine ⟨_, rfl, ?_⟩; replace HO106 := Qz.mk (Kd.R_mono (Kd.R_keep (IsS116.apart (show IsS116 w _ g103 t101 t109 from by repeat (first | (with_reducible first | exact HI103.out | apply IsS116.alloc | apply IsS116.drewN | apply IsS116.drew | apply IsS116.set_1) | exact HI103.out)) (by (with_reducible repeat (first | apply Kd.R_alloc | apply Kd.R_drewN | apply Kd.R_drew)); exact HO106.out) (by decide)) hk (fun _ h => h.2)) (fun _ h => h.1)); replace HB := Qz.mk (hb); replace HI103 := Qz.mk (hi); (try clear hb); (try clear hb2); (try clear hk); (try clear hi)))
 go_ret3
 exact ⟨_, by first | rfl | (simp [qp, qo] <;> rfl) | (simp [*, qp, qo] <;> rfl), by (with_reducible repeat (first | apply Kd.R_alloc | apply Kd.R_drewN | apply Kd.R_drew)); exact HO106.out, by repeat (first | (with_reducible first | exact HB.out | apply qc | apply qa | apply qb | refine qd ?_ (IsS116.ge HI103.out)) | exact HB.out)⟩
mutual
def spec_l8Get.l0 : Nat → List (S48) → ByteArray → Int → Int → Option (Int × ByteArray)
 | 0, _, _, _, _ => none
 | k + 1, x0, x1, x2, x8 => if x8 < (x0.length : Int) then (if 0 ≤ x8 then (if ((qg x0 x8).f0.f0).toList = x1.toList then (spec_l8Get.j1 k x0 x1 x2 x8 (decide (((qg x0 x8).f0.f1) > x2))) else (spec_l8Get.j1 k x0 x1 x2 x8 true)) else (none)) else (some (0, (⟨#[]⟩ : ByteArray)))
def spec_l8Get.j1 : Nat → List (S48) → ByteArray → Int → Int → Bool → Option (Int × ByteArray)
 | 0, _, _, _, _, _ => none
 | k + 1, x0, x1, x2, x8, x32 => if x32 = true then (spec_l8Get.l0 k x0 x1 x2 (wrap64 (x8 + 1))) else (if 0 ≤ x8 then (if x8 < (x0.length : Int) then (if ((qg x0 x8).f0.f2) = 0 then (some (2, (⟨#[]⟩ : ByteArray))) else (some (1, (qg x0 x8).f1))) else (none)) else (none))
end
def spec_l8Get.f (k : Nat) (l0 : List (S48)) (a1 : ByteArray) (a2 : Int) : Option (Int × ByteArray) := spec_l8Get.l0 k l0 a1 a2 0
set_option maxHeartbeats 8000000 in
set_option maxRecDepth 100000 in
theorem spec_l8Get.calls (k : Nat) (A0 : Option Addr) (c0 : Nat) (l0 : List (S48)) (a1 : ByteArray) (a2 : Int) (r1 : Int) (r2 : ByteArray) (w : World) (hr0 : Kd.C k48 w A0 l0.length l0) (hc0 : l0.length ≤ c0) (h : spec_l8Get.f k l0 a1 a2 = some (r1, r2)) :
  Calls Try.prog 88 #[.slice A0 l0.length c0, .string a1, .int .i64 a2] w fun e w' => e = .returned (.tuple #[.int .i64 r1, .string r2]) ∧ Drawn0 w w' := by
 have HR0 := Qz.mk hr0
 have HC0 := Qz.mk hc0
 clear hr0 hc0
 have H : (spec_l8Get.l0 k l0 a1 a2 0) = some (r1, r2) := h
 clear h
 have H' := Qz.mk H
 clear H
 go_enter Try.func88, Try.ntmps88
 go_wp2
 repeat (go_quiet (fail); try go_wp2)
 go_loopg [8] k (fun kq v8 w' => ∃ (x8_1 : Int), v8 = .int .i64 x8_1 ∧ Qz (spec_l8Get.l0 kq l0 a1 a2 x8_1 = some (r1, r2)) ∧ Qz (kq ≤ k) ∧ Drawn0 w w')
 case atStart => exact ⟨(0), (by first | rfl | (simp; done) | (simp [*]; done)), H', ⟨Nat.le_refl _⟩, by repeat (first | exact Drawn0.refl _ | apply Drawn0.step)⟩
 case round =>
  clear H'
  try clear p2
  obtain ⟨x8_1, rfl, HA, HK1, ⟨m1, rfl⟩⟩ := hrel
  cases gk with
  | zero => exact absurd HA.out (by simp [spec_l8Get.l0])
  | succ k1 =>
   have H := HA.out
   clear HA
   simp only [spec_l8Get.l0] at H
   by_cases c4 : x8_1 < (l0.length : Int)
   ·rw [if_pos c4] at H
    have c4b0 : decide (x8_1 < (l0.length : Int)) = true := decide_eq_true c4
    clear c4
    have HC5 := Qz.mk H
    clear H
    go_upto_region 4 with (fail)
    repeat (go_quiet (fail); go_upto_region 4 with (fail))
    go_cut [32] (fun v32 wc => ∃ (kq : Nat) (x32_4 : Bool), v32 = .bool x32_4 ∧ Qz (spec_l8Get.j1 kq l0 a1 a2 x8_1 x32_4 = some (r1, r2)) ∧ Qz (kq ≤ k1) ∧ Drawn0 w wc)
    case first =>
     have H := HC5.out
     clear HC5
     by_cases c6 : 0 ≤ x8_1
     ·rw [if_pos c6] at H
      have c6b0 : decide (0 ≤ x8_1) = true := decide_eq_true c6
      clear c6
      (first | rw [c6b0] | (simp only [i64_w, i32_w]; rw [c6b0]) | skip)
      by_cases c7 : ((qg l0 x8_1).f0.f0).toList = a1.toList
      ·rw [if_pos c7] at H
       have c7b0 : (((qg l0 x8_1).f0.f0).toList == a1.toList) = true := beq_iff_eq.mpr c7
       have c7b1 : (((qg l0 x8_1).f0.f0).toList != a1.toList) = false := bne_eq_false_iff_eq.mpr c7
       clear c7
       have H' := Qz.mk H
       clear H
       have p101 : 0 ≤ (x8_1 : Int) := of_decide_eq_true (by first | (with_reducible assumption) | assumption)
       have q101 : x8_1 < (l0.length : Int) := of_decide_eq_true (by first | (with_reducible assumption) | assumption)
       obtain ⟨ad101, e101, hx101_0, hx101_1, hx101_2, hx101_3⟩ := at_T48 HR0.out x8_1 p101 q101
       cases e101
       replace p101 := eq_true p101
       replace q101 := eq_true q101
       have p102 : 0 ≤ (x8_1 : Int) := of_decide_eq_true (by first | (with_reducible assumption) | assumption)
       have q102 : x8_1 < (l0.length : Int) := of_decide_eq_true (by first | (with_reducible assumption) | assumption)
       obtain ⟨ad102, e102, hx102_0, hx102_1, hx102_2, hx102_3⟩ := at_T48 HR0.out x8_1 p102 q102
       obtain rfl : ad101 = ad102 := (by injection e102)
       replace p102 := eq_true p102
       replace q102 := eq_true q102
       go_wp2
       repeat (go_quiet (fail); try go_wp2)
       go_meet
       case rel => exact ⟨_, (decide (((qg l0 x8_1).f0.f1) > a2)), (by first | rfl | (simp; done) | (simp [*]; done)), H', ⟨by have := HK1.out; first | omega | exact Nat.le_refl _⟩, by repeat (first | exact Drawn0.refl _ | apply Drawn0.step)⟩
      ·rw [if_neg c7] at H
       have c7b0 : (((qg l0 x8_1).f0.f0).toList == a1.toList) = false := beq_eq_false_iff_ne.mpr c7
       have c7b1 : (((qg l0 x8_1).f0.f0).toList != a1.toList) = true := bne_iff_ne.mpr c7
       have H' := Qz.mk H
       clear H
       have p101 : 0 ≤ (x8_1 : Int) := of_decide_eq_true (by first | (with_reducible assumption) | assumption)
       have q101 : x8_1 < (l0.length : Int) := of_decide_eq_true (by first | (with_reducible assumption) | assumption)
       obtain ⟨ad101, e101, hx101_0, hx101_1, hx101_2, hx101_3⟩ := at_T48 HR0.out x8_1 p101 q101
       cases e101
       replace p101 := eq_true p101
       replace q101 := eq_true q101
       go_wp2
       repeat (go_quiet (fail); try go_wp2)
       go_meet
       case rel => exact ⟨_, (true), (by first | rfl | (simp; done) | (simp [*]; done)), H', ⟨by have := HK1.out; first | omega | exact Nat.le_refl _⟩, by repeat (first | exact Drawn0.refl _ | apply Drawn0.step)⟩
     ·rw [if_neg c6] at H
      exact absurd H (by simp)
    case rest =>
     clear HC5
     try clear p1
     try clear q1
     try clear hx1
     try clear p2
     try clear c4
     try clear c4b0
     try clear c6
     try clear c6b0
     try clear c7
     try clear c7b0
     try clear c7b1
     try clear hx101_0
     try clear hx101_1
     try clear hx101_2
     try clear hx101_3
     try clear hx102_0
     try clear hx102_1
     try clear hx102_2
     try clear hx102_3
     try clear p101
     try clear p102
     try clear p2
     try clear q101
     try clear q102
     obtain ⟨kq, x32_4, rfl, HA, HJ4, ⟨mc4, rfl⟩⟩ := hcut
     cases kq with
     | zero => exact absurd HA.out (by simp [spec_l8Get.j1])
     | succ kj4 =>
      have H := HA.out
      clear HA
      simp only [spec_l8Get.j1] at H
      by_cases c8 : x32_4 = true
      ·subst c8
       have H1 : (spec_l8Get.l0 kj4 l0 a1 a2 (wrap64 (x8_1 + 1))) = some (r1, r2) := by rw [if_pos rfl] at H; exact H
       clear H
       have H := H1
       clear H1
       have H' := Qz.mk H
       clear H
       go_wp2
       repeat (go_quiet (fail); try go_wp2)
       go_roundg kj4
       case measure => have := HK1.out; have := HJ4.out; omega
       case rel => exact ⟨(wrap64 (x8_1 + 1)), (by first | rfl | (simp; done) | (simp [*]; done)), H', ⟨by have := HK1.out; have := HJ4.out; omega⟩, by repeat (first | exact Drawn0.refl _ | apply Drawn0.step)⟩
      ·replace c8 := Bool.eq_false_iff.mpr c8
       subst c8
       have H1 : (if 0 ≤ x8_1 then (if x8_1 < (l0.length : Int) then (if ((qg l0 x8_1).f0.f2) = 0 then (some (2, (⟨#[]⟩ : ByteArray))) else (some (1, (qg l0 x8_1).f1))) else (none)) else (none)) = some (r1, r2) := by rw [if_neg (show ¬ (false = true) by decide)] at H; exact H
       clear H
       have H := H1
       clear H1
       by_cases c9 : 0 ≤ x8_1
       ·rw [if_pos c9] at H
        have c9b0 : decide (0 ≤ x8_1) = true := decide_eq_true c9
        clear c9
        by_cases c10 : x8_1 < (l0.length : Int)
        ·rw [if_pos c10] at H
         have c10b0 : decide (x8_1 < (l0.length : Int)) = true := decide_eq_true c10
         clear c10
         by_cases c11 : ((qg l0 x8_1).f0.f2) = 0
         ·rw [if_pos c11] at H
          have c11b0 : (((qg l0 x8_1).f0.f2) == 0) = true := beq_iff_eq.mpr c11
          have c11b1 : (((qg l0 x8_1).f0.f2) != 0) = false := bne_eq_false_iff_eq.mpr c11
          clear c11
          simp only [Option.some.injEq, Prod.mk.injEq] at H
          obtain ⟨rfl, rfl⟩ := H
          have p103 : 0 ≤ (x8_1 : Int) := of_decide_eq_true (by first | (with_reducible assumption) | assumption)
          have q103 : x8_1 < (l0.length : Int) := of_decide_eq_true (by first | (with_reducible assumption) | assumption)
          obtain ⟨ad103, e103, hx103_0, hx103_1, hx103_2, hx103_3⟩ := at_T48 HR0.out x8_1 p103 q103
          cases e103
          replace p103 := eq_true p103
          replace q103 := eq_true q103
          go_wp2
          repeat (go_quiet (fail); try go_wp2)
          go_ret2
          exact ⟨by first | rfl | (simp; done) | (simp [*]; done), by repeat (first | exact Drawn0.refl _ | apply Drawn0.step)⟩
         ·rw [if_neg c11] at H
          have c11b0 : (((qg l0 x8_1).f0.f2) == 0) = false := beq_eq_false_iff_ne.mpr c11
          have c11b1 : (((qg l0 x8_1).f0.f2) != 0) = true := bne_iff_ne.mpr c11
          simp only [Option.some.injEq, Prod.mk.injEq] at H
          obtain ⟨rfl, rfl⟩ := H
          have p103 : 0 ≤ (x8_1 : Int) := of_decide_eq_true (by first | (with_reducible assumption) | assumption)
          have q103 : x8_1 < (l0.length : Int) := of_decide_eq_true (by first | (with_reducible assumption) | assumption)
          obtain ⟨ad103, e103, hx103_0, hx103_1, hx103_2, hx103_3⟩ := at_T48 HR0.out x8_1 p103 q103
          cases e103
          replace p103 := eq_true p103
          replace q103 := eq_true q103
          have p104 : 0 ≤ (x8_1 : Int) := of_decide_eq_true (by first | (with_reducible assumption) | assumption)
          have q104 : x8_1 < (l0.length : Int) := of_decide_eq_true (by first | (with_reducible assumption) | assumption)
          obtain ⟨ad104, e104, hx104_0, hx104_1, hx104_2, hx104_3⟩ := at_T48 HR0.out x8_1 p104 q104
          obtain rfl : ad103 = ad104 := (by injection e104)
          replace p104 := eq_true p104
          replace q104 := eq_true q104
          go_wp2
          repeat (go_quiet (fail); try go_wp2)
          go_ret2
          exact ⟨by first | rfl | (simp; done) | (simp [*]; done), by repeat (first | exact Drawn0.refl _ | apply Drawn0.step)⟩
        ·rw [if_neg c10] at H
         exact absurd H (by simp)
       ·rw [if_neg c9] at H
        exact absurd H (by simp)
   ·rw [if_neg c4] at H
    have c4b0 : decide (x8_1 < (l0.length : Int)) = false := decide_eq_false c4
    clear c4
    simp only [Option.some.injEq, Prod.mk.injEq] at H
    obtain ⟨rfl, rfl⟩ := H
    go_wp2
    repeat (go_quiet (fail); try go_wp2)
    go_ret2
    exact ⟨by first | rfl | (simp; done) | (simp [*]; done), by repeat (first | exact Drawn0.refl _ | apply Drawn0.step)⟩
def spec_MemGet.f (k : Nat) (l0 : List (S48)) (a1 : ByteArray) (a2 : Int) : Option (Int × ByteArray) := (spec_EntriesOk.f k l0).bind fun t101 => (if t101 = true then ((spec_l8Get.f k l0 a1 a2).bind fun bt102 => (some (bt102.1, bt102.2))) else (some (0, (⟨#[]⟩ : ByteArray))))
set_option maxHeartbeats 8000000 in
set_option maxRecDepth 100000 in
theorem spec_MemGet.calls (k : Nat) (A0 : Option Addr) (c0 : Nat) (l0 : List (S48)) (a1 : ByteArray) (a2 : Int) (r1 : Int) (r2 : ByteArray) (w : World) (hr0 : Kd.C k48 w A0 l0.length l0) (hc0 : l0.length ≤ c0) (h : spec_MemGet.f k l0 a1 a2 = some (r1, r2)) :
  Calls Try.prog 47 #[.slice A0 l0.length c0, .string a1, .int .i64 a2] w fun e w' => e = .returned (.tuple #[.int .i64 r1, .string r2]) ∧ Below w.heap.size w w' := by
 have HR0 := Qz.mk hr0
 have HC0 := Qz.mk hc0
 clear hr0 hc0
 have HB := Qz.mk (Below.refl w.heap.size w)
 have H : ((spec_EntriesOk.f k l0).bind fun t101 => (if t101 = true then ((spec_l8Get.f k l0 a1 a2).bind fun bt102 => (some (bt102.1, bt102.2))) else (some (0, (⟨#[]⟩ : ByteArray))))) = some (r1, r2) := h
 clear h
 replace H := Option.bind_eq_some_iff.mp H
 obtain ⟨t101, A40, H⟩ := H
 replace H : (if t101 = true then ((spec_l8Get.f k l0 a1 a2).bind fun bt102 => (some (bt102.1, bt102.2))) else (some (0, (⟨#[]⟩ : ByteArray)))) = some (r1, r2) := H
 have A4 := Qz.mk A40
 clear A40
 by_cases c5 : t101 = true
 ·subst c5
  have H1 : ((spec_l8Get.f k l0 a1 a2).bind fun bt102 => (some (bt102.1, bt102.2))) = some (r1, r2) := by rw [if_pos rfl] at H; exact H
  clear H
  have H := H1
  clear H1
  replace H := Option.bind_eq_some_iff.mp H
  obtain ⟨⟨t102, t103⟩, A60, H⟩ := H
  replace H : (some (t102, t103)) = some (r1, r2) := H
  have A6 := Qz.mk A60
  clear A60
  simp only [Option.some.injEq, Prod.mk.injEq] at H
  obtain ⟨rfl, rfl⟩ := H
  go_enter Try.func47, Try.ntmps47
  go_wp2_with (first | ((with_reducible refine qq (f := 30) rfl ?_); refine qu (some 9) rfl rfl Try.func30 (by kernel_rfl) rfl #[.slice A0 l0.length c0] rfl (by (try simp only [List.map_toArray, List.map_cons, List.map_nil]); first | done | rfl | (simp only [List.length_drop, List.length_take]; rfl) | (rw [IntWalk.u64_in _ (by omega)] <;> rfl)) ?_; (with_reducible refine (spec_EntriesOk.calls k _ _ l0 true _ ?side1 ?side2 A4.out).mono ?_); (case side1 => repeat (first | exact HR0.out | (with_reducible refine Kd.C_alloc ?_ _) | (with_reducible refine Kd.C_drewN ?_ _) | (with_reducible refine Kd.C_drew ?_))); (case side2 => exact HC0.out); rintro e w7 ⟨rfl, hb⟩; refine ⟨_, rfl, ?_⟩; replace HB := Qz.mk (qr (by repeat (first | (with_reducible first | exact HB.out | apply qc | apply qa | apply qb) | exact HB.out)) hb); (try clear hb)) | ((with_reducible refine qq (f := 88) rfl ?_); refine qu (some 14) rfl rfl Try.func88 (by kernel_rfl) rfl #[.slice A0 l0.length c0, .string a1, .int .i64 a2] rfl (by (try simp only [List.map_toArray, List.map_cons, List.map_nil]); first | done | rfl | (simp only [List.length_drop, List.length_take]; rfl) | (rw [IntWalk.u64_in _ (by omega)] <;> rfl)) ?_; (with_reducible refine (spec_l8Get.calls k _ _ l0 a1 a2 t102 t103 _ ?side1 ?side2 A6.out).mono ?_); (case side1 => repeat (first | exact (Kd.C_below HR0.out HB.out) | (with_reducible refine Kd.C_alloc ?_ _) | (with_reducible refine Kd.C_drewN ?_ _) | (with_reducible refine Kd.C_drew ?_))); (case side2 => exact HC0.out); rintro e w' ⟨rfl, ⟨nd, rfl⟩⟩; refine ⟨_, rfl, ?_⟩))
  go_ret2
  exact ⟨by first | rfl | (simp [qp, qo] <;> rfl) | (simp [*, qp, qo] <;> rfl), by repeat (first | (with_reducible first | exact HB.out | apply qc | apply qa | apply qb) | exact HB.out)⟩
 ·replace c5 := Bool.eq_false_iff.mpr c5
  subst c5
  have H1 : (some (0, (⟨#[]⟩ : ByteArray))) = some (r1, r2) := by rw [if_neg (show ¬ (false = true) by decide)] at H; exact H
  clear H
  have H := H1
  clear H1
  simp only [Option.some.injEq, Prod.mk.injEq] at H
  obtain ⟨rfl, rfl⟩ := H
  go_enter Try.func47, Try.ntmps47
  go_wp2_with (first | ((with_reducible refine qq (f := 30) rfl ?_); refine qu (some 9) rfl rfl Try.func30 (by kernel_rfl) rfl #[.slice A0 l0.length c0] rfl (by (try simp only [List.map_toArray, List.map_cons, List.map_nil]); first | done | rfl | (simp only [List.length_drop, List.length_take]; rfl) | (rw [IntWalk.u64_in _ (by omega)] <;> rfl)) ?_; (with_reducible refine (spec_EntriesOk.calls k _ _ l0 false _ ?side1 ?side2 A4.out).mono ?_); (case side1 => repeat (first | exact HR0.out | (with_reducible refine Kd.C_alloc ?_ _) | (with_reducible refine Kd.C_drewN ?_ _) | (with_reducible refine Kd.C_drew ?_))); (case side2 => exact HC0.out); rintro e w8 ⟨rfl, hb⟩; refine ⟨_, rfl, ?_⟩; replace HB := Qz.mk (qr (by repeat (first | (with_reducible first | exact HB.out | apply qc | apply qa | apply qb) | exact HB.out)) hb); (try clear hb)))
  go_ret2
  exact ⟨by first | rfl | (simp [qp, qo] <;> rfl) | (simp [*, qp, qo] <;> rfl), by repeat (first | (with_reducible first | exact HB.out | apply qc | apply qa | apply qb) | exact HB.out)⟩
def impl_KeyCmp.f (k : Nat) (a0_0 : ByteArray) (a0_1 : Int) (a0_2 : Int) (a1_0 : ByteArray) (a1_1 : Int) (a1_2 : Int) : Option (Int) := (impl_KeyOk.f a0_0 a0_1 a0_2).bind fun t103 => (if t103 = true then ((impl_KeyOk.f a1_0 a1_1 a1_2).bind fun t104 => (if t104 = true then ((impl_cmpKeys.f k a0_0 a0_1 a0_2 a1_0 a1_1 a1_2).bind fun t105 => (some t105)) else (some 0))) else (some 0))
set_option maxHeartbeats 8000000 in
set_option maxRecDepth 100000 in
theorem impl_KeyCmp.calls (k : Nat) (a0_0 : ByteArray) (a0_1 : Int) (a0_2 : Int) (a1_0 : ByteArray) (a1_1 : Int) (a1_2 : Int) (r : Int) (w : World) (h : impl_KeyCmp.f k a0_0 a0_1 a0_2 a1_0 a1_1 a1_2 = some r) :
  Calls Try.prog 48 #[.agg #[.string a0_0, .int .i64 a0_1, .int .i64 a0_2], .agg #[.string a1_0, .int .i64 a1_1, .int .i64 a1_2]] w fun e w' => e = .returned (.int .i64 r) ∧ Below w.heap.size w w' := by
 have hu46 := Try.underlying46
 have HB := Qz.mk (Below.refl w.heap.size w)
 have H : ((impl_KeyOk.f a0_0 a0_1 a0_2).bind fun t103 => (if t103 = true then ((impl_KeyOk.f a1_0 a1_1 a1_2).bind fun t104 => (if t104 = true then ((impl_cmpKeys.f k a0_0 a0_1 a0_2 a1_0 a1_1 a1_2).bind fun t105 => (some t105)) else (some 0))) else (some 0))) = some r := h
 clear h
 replace H := Option.bind_eq_some_iff.mp H
 obtain ⟨t103, A30, H⟩ := H
 replace H : (if t103 = true then ((impl_KeyOk.f a1_0 a1_1 a1_2).bind fun t104 => (if t104 = true then ((impl_cmpKeys.f k a0_0 a0_1 a0_2 a1_0 a1_1 a1_2).bind fun t105 => (some t105)) else (some 0))) else (some 0)) = some r := H
 have A3 := Qz.mk A30
 clear A30
 by_cases c4 : t103 = true
 ·subst c4
  have H1 : ((impl_KeyOk.f a1_0 a1_1 a1_2).bind fun t104 => (if t104 = true then ((impl_cmpKeys.f k a0_0 a0_1 a0_2 a1_0 a1_1 a1_2).bind fun t105 => (some t105)) else (some 0))) = some r := by rw [if_pos rfl] at H; exact H
  clear H
  have H := H1
  clear H1
  replace H := Option.bind_eq_some_iff.mp H
  obtain ⟨t104, A50, H⟩ := H
  replace H : (if t104 = true then ((impl_cmpKeys.f k a0_0 a0_1 a0_2 a1_0 a1_1 a1_2).bind fun t105 => (some t105)) else (some 0)) = some r := H
  have A5 := Qz.mk A50
  clear A50
  by_cases c6 : t104 = true
  ·subst c6
   have H1 : ((impl_cmpKeys.f k a0_0 a0_1 a0_2 a1_0 a1_1 a1_2).bind fun t105 => (some t105)) = some r := by rw [if_pos rfl] at H; exact H
   clear H
   have H := H1
   clear H1
   replace H := Option.bind_eq_some_iff.mp H
   obtain ⟨t105, A70, H⟩ := H
   replace H : (some t105) = some r := H
   have A7 := Qz.mk A70
   clear A70
   obtain rfl := Option.some.inj H
   go_enter Try.func48, Try.ntmps48
   go_wp2_with (first | ((with_reducible refine gate_dst (N := 2) rfl ?_); refine box_event ?hg (N := 2) ?hd (cs := #[.string a0_0, .int .i64 a0_1, .int .i64 a0_2]) (t := 46) ?hr ?_; (case hd => rfl); (case hg => rfl); (case hr => first | (go_simp; done) | (go_simp; rfl)); intro gb101 hg w8 hbox hb; have BK101 := Qz.mk (hbox); have GW101 := Qz.mk ((by rw [hg]; exact (below_size (by repeat (first | (with_reducible first | exact HB.out | apply qc | apply qa | apply qb) | exact HB.out))) : w.heap.size ≤ gb101)); have GE101 := GW101; replace HB := Qz.mk (qr (by repeat (first | (with_reducible first | exact HB.out | apply qc | apply qa | apply qb) | exact HB.out)) hb); clear hb hbox hg) | ((with_reducible refine gate_dst (N := 3) rfl ?_); refine box_event ?hg (N := 3) ?hd (cs := #[.string a1_0, .int .i64 a1_1, .int .i64 a1_2]) (t := 46) ?hr ?_; (case hd => rfl); (case hg => rfl); (case hr => first | (go_simp; done) | (go_simp; rfl)); intro gb102 hg w9 hbox hb; have BK102 := Qz.mk (hbox); have GW102 := Qz.mk ((by rw [hg]; exact (below_size (by repeat (first | (with_reducible first | exact HB.out | apply qc | apply qa | apply qb | refine qd ?_ GE101.out) | exact HB.out))) : w.heap.size ≤ gb102)); have GE102 := GW102; replace HB := Qz.mk (qr (by repeat (first | (with_reducible first | exact HB.out | apply qc | apply qa | apply qb | refine qd ?_ GE101.out) | exact HB.out)) hb); have NB101_102 := Qz.mk ((by rw [hg]; exact Nat.ne_of_lt (blk_lt (g := gb101) (o := .cells #[.string a0_0, .int .i64 a0_1, .int .i64 a0_2] 46 (0, 0)) (by (with_reducible repeat (first | refine qh ?_ _ | refine qk ?_ | refine qi ?_ _)); exact BK101.out)) : gb101 ≠ gb102)); have NB102_101 := Qz.mk ((by rw [hg]; exact Nat.ne_of_gt (blk_lt (g := gb101) (o := .cells #[.string a0_0, .int .i64 a0_1, .int .i64 a0_2] 46 (0, 0)) (by (with_reducible repeat (first | refine qh ?_ _ | refine qk ?_ | refine qi ?_ _)); exact BK101.out)) : gb102 ≠ gb101)); replace BK101 := Qz.mk (qx (g := gb101) (o := .cells #[.string a0_0, .int .i64 a0_1, .int .i64 a0_2] 46 (0, 0)) (by (with_reducible repeat (first | refine qh ?_ _ | refine qk ?_ | refine qi ?_ _)); exact BK101.out) hb); clear hb hbox hg; have hnb10 := NB101_102.out; have hnc10 := NB102_101.out; have hcz11_0 : w9.cell? ⟨gb101, 0, none⟩ = some (.string a0_0) := (qe BK101.out 0).trans rfl; have hcz11_1 : w9.cell? ⟨gb101, 1, none⟩ = some (.int .i64 a0_1) := (qe BK101.out 1).trans rfl; have hcz11_2 : w9.cell? ⟨gb101, 2, none⟩ = some (.int .i64 a0_2) := (qe BK101.out 2).trans rfl; have hfz11_0 := qf BK101.out 0; have hfz11_1 := qf BK101.out 1; have hfz11_2 := qf BK101.out 2) | ((with_reducible refine qq (f := 89) rfl ?_); refine qu (some 6) rfl rfl Try.func89 (by kernel_rfl) rfl #[.agg #[.string a0_0, .int .i64 a0_1, .int .i64 a0_2]] rfl (by (try simp only [List.map_toArray, List.map_cons, List.map_nil]); first | done | rfl) ?_; (with_reducible refine (impl_KeyOk.calls a0_0 a0_1 a0_2 true _ A3.out).mono ?_); rintro e w12 ⟨rfl, hb⟩; refine ⟨_, rfl, ?_⟩; replace BK101 := Qz.mk (qx (g := gb101) (o := .cells #[.string a0_0, .int .i64 a0_1, .int .i64 a0_2] 46 (0, 0)) (by (with_reducible repeat (first | refine qh ?_ _ | refine qk ?_ | refine qi ?_ _)); exact BK101.out) hb); replace BK102 := Qz.mk (qx (g := gb102) (o := .cells #[.string a1_0, .int .i64 a1_1, .int .i64 a1_2] 46 (0, 0)) (by (with_reducible repeat (first | refine qh ?_ _ | refine qk ?_ | refine qi ?_ _)); exact BK102.out) hb); replace HB := Qz.mk (qr (by repeat (first | (with_reducible first | exact HB.out | apply qc | apply qa | apply qb | refine qd ?_ GE101.out | refine qd ?_ GE102.out) | exact HB.out)) hb); (try clear hb); have hcz13_0 : w12.cell? ⟨gb102, 0, none⟩ = some (.string a1_0) := (qe BK102.out 0).trans rfl; have hcz13_1 : w12.cell? ⟨gb102, 1, none⟩ = some (.int .i64 a1_1) := (qe BK102.out 1).trans rfl; have hcz13_2 : w12.cell? ⟨gb102, 2, none⟩ = some (.int .i64 a1_2) := (qe BK102.out 2).trans rfl; have hfz13_0 := qf BK102.out 0; have hfz13_1 := qf BK102.out 1; have hfz13_2 := qf BK102.out 2) | (go_at_call 89; (with_reducible refine (impl_KeyOk.calls a1_0 a1_1 a1_2 true _ A5.out).mono ?_); rintro e w14 ⟨rfl, hb⟩; replace BK101 := Qz.mk (qx (g := gb101) (o := .cells #[.string a0_0, .int .i64 a0_1, .int .i64 a0_2] 46 (0, 0)) (by (with_reducible repeat (first | refine qh ?_ _ | refine qk ?_ | refine qi ?_ _)); exact BK101.out) hb); replace BK102 := Qz.mk (qx (g := gb102) (o := .cells #[.string a1_0, .int .i64 a1_1, .int .i64 a1_2] 46 (0, 0)) (by (with_reducible repeat (first | refine qh ?_ _ | refine qk ?_ | refine qi ?_ _)); exact BK102.out) hb); replace HB := Qz.mk (qr (by repeat (first | (with_reducible first | exact HB.out | apply qc | apply qa | apply qb | refine qd ?_ GE101.out | refine qd ?_ GE102.out) | exact HB.out)) hb); (try clear hb); have hcz15_0 : w14.cell? ⟨gb101, 0, none⟩ = some (.string a0_0) := (qe BK101.out 0).trans rfl; have hcz15_1 : w14.cell? ⟨gb101, 1, none⟩ = some (.int .i64 a0_1) := (qe BK101.out 1).trans rfl; have hcz15_2 : w14.cell? ⟨gb101, 2, none⟩ = some (.int .i64 a0_2) := (qe BK101.out 2).trans rfl; have hfz15_0 := qf BK101.out 0; have hfz15_1 := qf BK101.out 1; have hfz15_2 := qf BK101.out 2; have hcz16_0 : w14.cell? ⟨gb102, 0, none⟩ = some (.string a1_0) := (qe BK102.out 0).trans rfl; have hcz16_1 : w14.cell? ⟨gb102, 1, none⟩ = some (.int .i64 a1_1) := (qe BK102.out 1).trans rfl; have hcz16_2 : w14.cell? ⟨gb102, 2, none⟩ = some (.int .i64 a1_2) := (qe BK102.out 2).trans rfl; have hfz16_0 := qf BK102.out 0; have hfz16_1 := qf BK102.out 1; have hfz16_2 := qf BK102.out 2) | ((with_reducible refine qq (f := 86) rfl ?_); refine qu (some 15) rfl rfl Try.func86 (by kernel_rfl) rfl #[.agg #[.string a0_0, .int .i64 a0_1, .int .i64 a0_2], .agg #[.string a1_0, .int .i64 a1_1, .int .i64 a1_2]] rfl (by (try simp only [List.map_toArray, List.map_cons, List.map_nil]); first | done | rfl) ?_; (with_reducible refine (impl_cmpKeys.calls k a0_0 a0_1 a0_2 a1_0 a1_1 a1_2 t105 _ A7.out).mono ?_); rintro e w17 ⟨rfl, hb⟩; refine ⟨_, rfl, ?_⟩; replace BK101 := Qz.mk (qx (g := gb101) (o := .cells #[.string a0_0, .int .i64 a0_1, .int .i64 a0_2] 46 (0, 0)) (by (with_reducible repeat (first | refine qh ?_ _ | refine qk ?_ | refine qi ?_ _)); exact BK101.out) hb); replace BK102 := Qz.mk (qx (g := gb102) (o := .cells #[.string a1_0, .int .i64 a1_1, .int .i64 a1_2] 46 (0, 0)) (by (with_reducible repeat (first | refine qh ?_ _ | refine qk ?_ | refine qi ?_ _)); exact BK102.out) hb); replace HB := Qz.mk (qr (by repeat (first | (with_reducible first | exact HB.out | apply qc | apply qa | apply qb | refine qd ?_ GE101.out | refine qd ?_ GE102.out) | exact HB.out)) hb); (try clear hb)))
   go_ret
   exact ⟨by first | rfl | (simp [qp, qo] <;> rfl) | (simp [*, qp, qo] <;> rfl), by repeat (first | (with_reducible first | exact HB.out | apply qc | apply qa | apply qb | refine qd ?_ GE101.out | refine qd ?_ GE102.out) | exact HB.out)⟩
  ·replace c6 := Bool.eq_false_iff.mpr c6
   subst c6
   have H1 : (some 0) = some r := by rw [if_neg (show ¬ (false = true) by decide)] at H; exact H
   clear H
   have H := H1
   clear H1
   obtain rfl := Option.some.inj H
   go_enter Try.func48, Try.ntmps48
   go_wp2_with (first | ((with_reducible refine gate_dst (N := 2) rfl ?_); refine box_event ?hg (N := 2) ?hd (cs := #[.string a0_0, .int .i64 a0_1, .int .i64 a0_2]) (t := 46) ?hr ?_; (case hd => rfl); (case hg => rfl); (case hr => first | (go_simp; done) | (go_simp; rfl)); intro gb101 hg w18 hbox hb; have BK101 := Qz.mk (hbox); have GW101 := Qz.mk ((by rw [hg]; exact (below_size (by repeat (first | (with_reducible first | exact HB.out | apply qc | apply qa | apply qb) | exact HB.out))) : w.heap.size ≤ gb101)); have GE101 := GW101; replace HB := Qz.mk (qr (by repeat (first | (with_reducible first | exact HB.out | apply qc | apply qa | apply qb) | exact HB.out)) hb); clear hb hbox hg) | ((with_reducible refine gate_dst (N := 3) rfl ?_); refine box_event ?hg (N := 3) ?hd (cs := #[.string a1_0, .int .i64 a1_1, .int .i64 a1_2]) (t := 46) ?hr ?_; (case hd => rfl); (case hg => rfl); (case hr => first | (go_simp; done) | (go_simp; rfl)); intro gb102 hg w19 hbox hb; have BK102 := Qz.mk (hbox); have GW102 := Qz.mk ((by rw [hg]; exact (below_size (by repeat (first | (with_reducible first | exact HB.out | apply qc | apply qa | apply qb | refine qd ?_ GE101.out) | exact HB.out))) : w.heap.size ≤ gb102)); have GE102 := GW102; replace HB := Qz.mk (qr (by repeat (first | (with_reducible first | exact HB.out | apply qc | apply qa | apply qb | refine qd ?_ GE101.out) | exact HB.out)) hb); have NB101_102 := Qz.mk ((by rw [hg]; exact Nat.ne_of_lt (blk_lt (g := gb101) (o := .cells #[.string a0_0, .int .i64 a0_1, .int .i64 a0_2] 46 (0, 0)) (by (with_reducible repeat (first | refine qh ?_ _ | refine qk ?_ | refine qi ?_ _)); exact BK101.out)) : gb101 ≠ gb102)); have NB102_101 := Qz.mk ((by rw [hg]; exact Nat.ne_of_gt (blk_lt (g := gb101) (o := .cells #[.string a0_0, .int .i64 a0_1, .int .i64 a0_2] 46 (0, 0)) (by (with_reducible repeat (first | refine qh ?_ _ | refine qk ?_ | refine qi ?_ _)); exact BK101.out)) : gb102 ≠ gb101)); replace BK101 := Qz.mk (qx (g := gb101) (o := .cells #[.string a0_0, .int .i64 a0_1, .int .i64 a0_2] 46 (0, 0)) (by (with_reducible repeat (first | refine qh ?_ _ | refine qk ?_ | refine qi ?_ _)); exact BK101.out) hb); clear hb hbox hg; have hnb20 := NB101_102.out; have hnc20 := NB102_101.out; have hcz21_0 : w19.cell? ⟨gb101, 0, none⟩ = some (.string a0_0) := (qe BK101.out 0).trans rfl; have hcz21_1 : w19.cell? ⟨gb101, 1, none⟩ = some (.int .i64 a0_1) := (qe BK101.out 1).trans rfl; have hcz21_2 : w19.cell? ⟨gb101, 2, none⟩ = some (.int .i64 a0_2) := (qe BK101.out 2).trans rfl; have hfz21_0 := qf BK101.out 0; have hfz21_1 := qf BK101.out 1; have hfz21_2 := qf BK101.out 2) | ((with_reducible refine qq (f := 89) rfl ?_); refine qu (some 6) rfl rfl Try.func89 (by kernel_rfl) rfl #[.agg #[.string a0_0, .int .i64 a0_1, .int .i64 a0_2]] rfl (by (try simp only [List.map_toArray, List.map_cons, List.map_nil]); first | done | rfl) ?_; (with_reducible refine (impl_KeyOk.calls a0_0 a0_1 a0_2 true _ A3.out).mono ?_); rintro e w22 ⟨rfl, hb⟩; refine ⟨_, rfl, ?_⟩; replace BK101 := Qz.mk (qx (g := gb101) (o := .cells #[.string a0_0, .int .i64 a0_1, .int .i64 a0_2] 46 (0, 0)) (by (with_reducible repeat (first | refine qh ?_ _ | refine qk ?_ | refine qi ?_ _)); exact BK101.out) hb); replace BK102 := Qz.mk (qx (g := gb102) (o := .cells #[.string a1_0, .int .i64 a1_1, .int .i64 a1_2] 46 (0, 0)) (by (with_reducible repeat (first | refine qh ?_ _ | refine qk ?_ | refine qi ?_ _)); exact BK102.out) hb); replace HB := Qz.mk (qr (by repeat (first | (with_reducible first | exact HB.out | apply qc | apply qa | apply qb | refine qd ?_ GE101.out | refine qd ?_ GE102.out) | exact HB.out)) hb); (try clear hb); have hcz23_0 : w22.cell? ⟨gb102, 0, none⟩ = some (.string a1_0) := (qe BK102.out 0).trans rfl; have hcz23_1 : w22.cell? ⟨gb102, 1, none⟩ = some (.int .i64 a1_1) := (qe BK102.out 1).trans rfl; have hcz23_2 : w22.cell? ⟨gb102, 2, none⟩ = some (.int .i64 a1_2) := (qe BK102.out 2).trans rfl; have hfz23_0 := qf BK102.out 0; have hfz23_1 := qf BK102.out 1; have hfz23_2 := qf BK102.out 2) | (go_at_call 89; (with_reducible refine (impl_KeyOk.calls a1_0 a1_1 a1_2 false _ A5.out).mono ?_); rintro e w24 ⟨rfl, hb⟩; replace BK101 := Qz.mk (qx (g := gb101) (o := .cells #[.string a0_0, .int .i64 a0_1, .int .i64 a0_2] 46 (0, 0)) (by (with_reducible repeat (first | refine qh ?_ _ | refine qk ?_ | refine qi ?_ _)); exact BK101.out) hb); replace BK102 := Qz.mk (qx (g := gb102) (o := .cells #[.string a1_0, .int .i64 a1_1, .int .i64 a1_2] 46 (0, 0)) (by (with_reducible repeat (first | refine qh ?_ _ | refine qk ?_ | refine qi ?_ _)); exact BK102.out) hb); replace HB := Qz.mk (qr (by repeat (first | (with_reducible first | exact HB.out | apply qc | apply qa | apply qb | refine qd ?_ GE101.out | refine qd ?_ GE102.out) | exact HB.out)) hb); (try clear hb)))
   go_ret
   exact ⟨by first | rfl | (simp [qp, qo] <;> rfl) | (simp [*, qp, qo] <;> rfl), by repeat (first | (with_reducible first | exact HB.out | apply qc | apply qa | apply qb | refine qd ?_ GE101.out | refine qd ?_ GE102.out) | exact HB.out)⟩
 ·replace c4 := Bool.eq_false_iff.mpr c4
  subst c4
  have H1 : (some 0) = some r := by rw [if_neg (show ¬ (false = true) by decide)] at H; exact H
  clear H
  have H := H1
  clear H1
  obtain rfl := Option.some.inj H
  go_enter Try.func48, Try.ntmps48
  go_wp2_with (first | ((with_reducible refine gate_dst (N := 2) rfl ?_); refine box_event ?hg (N := 2) ?hd (cs := #[.string a0_0, .int .i64 a0_1, .int .i64 a0_2]) (t := 46) ?hr ?_; (case hd => rfl); (case hg => rfl); (case hr => first | (go_simp; done) | (go_simp; rfl)); intro gb101 hg w25 hbox hb; have BK101 := Qz.mk (hbox); have GW101 := Qz.mk ((by rw [hg]; exact (below_size (by repeat (first | (with_reducible first | exact HB.out | apply qc | apply qa | apply qb) | exact HB.out))) : w.heap.size ≤ gb101)); have GE101 := GW101; replace HB := Qz.mk (qr (by repeat (first | (with_reducible first | exact HB.out | apply qc | apply qa | apply qb) | exact HB.out)) hb); clear hb hbox hg) | ((with_reducible refine gate_dst (N := 3) rfl ?_); refine box_event ?hg (N := 3) ?hd (cs := #[.string a1_0, .int .i64 a1_1, .int .i64 a1_2]) (t := 46) ?hr ?_; (case hd => rfl); (case hg => rfl); (case hr => first | (go_simp; done) | (go_simp; rfl)); intro gb102 hg w26 hbox hb; have BK102 := Qz.mk (hbox); have GW102 := Qz.mk ((by rw [hg]; exact (below_size (by repeat (first | (with_reducible first | exact HB.out | apply qc | apply qa | apply qb | refine qd ?_ GE101.out) | exact HB.out))) : w.heap.size ≤ gb102)); have GE102 := GW102; replace HB := Qz.mk (qr (by repeat (first | (with_reducible first | exact HB.out | apply qc | apply qa | apply qb | refine qd ?_ GE101.out) | exact HB.out)) hb); have NB101_102 := Qz.mk ((by rw [hg]; exact Nat.ne_of_lt (blk_lt (g := gb101) (o := .cells #[.string a0_0, .int .i64 a0_1, .int .i64 a0_2] 46 (0, 0)) (by (with_reducible repeat (first | refine qh ?_ _ | refine qk ?_ | refine qi ?_ _)); exact BK101.out)) : gb101 ≠ gb102)); have NB102_101 := Qz.mk ((by rw [hg]; exact Nat.ne_of_gt (blk_lt (g := gb101) (o := .cells #[.string a0_0, .int .i64 a0_1, .int .i64 a0_2] 46 (0, 0)) (by (with_reducible repeat (first | refine qh ?_ _ | refine qk ?_ | refine qi ?_ _)); exact BK101.out)) : gb102 ≠ gb101)); replace BK101 := Qz.mk (qx (g := gb101) (o := .cells #[.string a0_0, .int .i64 a0_1, .int .i64 a0_2] 46 (0, 0)) (by (with_reducible repeat (first | refine qh ?_ _ | refine qk ?_ | refine qi ?_ _)); exact BK101.out) hb); clear hb hbox hg; have hnb27 := NB101_102.out; have hnc27 := NB102_101.out; have hcz28_0 : w26.cell? ⟨gb101, 0, none⟩ = some (.string a0_0) := (qe BK101.out 0).trans rfl; have hcz28_1 : w26.cell? ⟨gb101, 1, none⟩ = some (.int .i64 a0_1) := (qe BK101.out 1).trans rfl; have hcz28_2 : w26.cell? ⟨gb101, 2, none⟩ = some (.int .i64 a0_2) := (qe BK101.out 2).trans rfl; have hfz28_0 := qf BK101.out 0; have hfz28_1 := qf BK101.out 1; have hfz28_2 := qf BK101.out 2) | ((with_reducible refine qq (f := 89) rfl ?_); refine qu (some 6) rfl rfl Try.func89 (by kernel_rfl) rfl #[.agg #[.string a0_0, .int .i64 a0_1, .int .i64 a0_2]] rfl (by (try simp only [List.map_toArray, List.map_cons, List.map_nil]); first | done | rfl) ?_; (with_reducible refine (impl_KeyOk.calls a0_0 a0_1 a0_2 false _ A3.out).mono ?_); rintro e w29 ⟨rfl, hb⟩; refine ⟨_, rfl, ?_⟩; replace BK101 := Qz.mk (qx (g := gb101) (o := .cells #[.string a0_0, .int .i64 a0_1, .int .i64 a0_2] 46 (0, 0)) (by (with_reducible repeat (first | refine qh ?_ _ | refine qk ?_ | refine qi ?_ _)); exact BK101.out) hb); replace BK102 := Qz.mk (qx (g := gb102) (o := .cells #[.string a1_0, .int .i64 a1_1, .int .i64 a1_2] 46 (0, 0)) (by (with_reducible repeat (first | refine qh ?_ _ | refine qk ?_ | refine qi ?_ _)); exact BK102.out) hb); replace HB := Qz.mk (qr (by repeat (first | (with_reducible first | exact HB.out | apply qc | apply qa | apply qb | refine qd ?_ GE101.out | refine qd ?_ GE102.out) | exact HB.out)) hb); (try clear hb)))
  go_ret
  exact ⟨by first | rfl | (simp [qp, qo] <;> rfl) | (simp [*, qp, qo] <;> rfl), by repeat (first | (with_reducible first | exact HB.out | apply qc | apply qa | apply qb | refine qd ?_ GE101.out | refine qd ?_ GE102.out) | exact HB.out)⟩
def laws_hasText.l0 : Nat → List ByteArray → ByteArray → Int → Option (Bool)
 | 0, _, _, _ => none
 | k + 1, x0, x1, x5 => if x5 < (x0.length : Int) then (if 0 ≤ x5 then (if (rdOf ByteArray.empty x0 x5).toList = x1.toList then (some true) else (laws_hasText.l0 k x0 x1 (wrap64 (x5 + 1)))) else (none)) else (some false)
def laws_hasText.f (k : Nat) (l0 : List ByteArray) (a1 : ByteArray) : Option (Bool) := laws_hasText.l0 k l0 a1 0
set_option maxHeartbeats 8000000 in
set_option maxRecDepth 100000 in
theorem laws_hasText.calls (k : Nat) (A0 : Option Addr) (c0 : Nat) (l0 : List ByteArray) (a1 : ByteArray) (r : Bool) (w : World) (hr0 : Kd.C Kd.string w A0 l0.length l0) (hc0 : l0.length ≤ c0) (h : laws_hasText.f k l0 a1 = some r) :
  Calls Try.prog 49 #[.slice A0 l0.length c0, .string a1] w fun e w' => e = .returned (.bool r) ∧ Drawn0 w w' := by
 have HR0 := Qz.mk hr0
 have HC0 := Qz.mk hc0
 clear hr0 hc0
 have H : (laws_hasText.l0 k l0 a1 0) = some r := h
 clear h
 have H' := Qz.mk H
 clear H
 go_enter Try.func49, Try.ntmps49
 go_wp2
 go_loopg [5] k (fun kq v5 w' => ∃ (x5_1 : Int), v5 = .int .i64 x5_1 ∧ Qz (laws_hasText.l0 kq l0 a1 x5_1 = some r) ∧ Qz (kq ≤ k) ∧ Drawn0 w w')
 case atStart => exact ⟨(0), (by first | rfl | (simp; done) | (simp [*]; done)), H', ⟨Nat.le_refl _⟩, by repeat (first | exact Drawn0.refl _ | apply Drawn0.step)⟩
 case round =>
  clear H'
  try clear p2
  obtain ⟨x5_1, rfl, HA, HK1, ⟨m1, rfl⟩⟩ := hrel
  cases gk with
  | zero => exact absurd HA.out (by simp [laws_hasText.l0])
  | succ k1 =>
   have H := HA.out
   clear HA
   simp only [laws_hasText.l0] at H
   by_cases c3 : x5_1 < (l0.length : Int)
   ·rw [if_pos c3] at H
    have c3b0 : decide (x5_1 < (l0.length : Int)) = true := decide_eq_true c3
    clear c3
    by_cases c4 : 0 ≤ x5_1
    ·rw [if_pos c4] at H
     have c4b0 : decide (0 ≤ x5_1) = true := decide_eq_true c4
     clear c4
     by_cases c5 : (rdOf ByteArray.empty l0 x5_1).toList = a1.toList
     ·rw [if_pos c5] at H
      have c5b0 : ((rdOf ByteArray.empty l0 x5_1).toList == a1.toList) = true := beq_iff_eq.mpr c5
      have c5b1 : ((rdOf ByteArray.empty l0 x5_1).toList != a1.toList) = false := bne_eq_false_iff_eq.mpr c5
      clear c5
      obtain rfl := Option.some.inj H
      have p101 : 0 ≤ (x5_1 : Int) := of_decide_eq_true (by first | (with_reducible assumption) | assumption)
      have q101 : x5_1 < (l0.length : Int) := of_decide_eq_true (by first | (with_reducible assumption) | assumption)
      obtain ⟨ad101, e101, hx101_0⟩ := Kd.at_string HR0.out x5_1 p101 q101
      cases e101
      replace p101 := eq_true p101
      replace q101 := eq_true q101
      go_wp2
      go_ret
      exact ⟨by first | rfl | (simp; done) | (simp [*]; done), by repeat (first | exact Drawn0.refl _ | apply Drawn0.step)⟩
     ·rw [if_neg c5] at H
      have c5b0 : ((rdOf ByteArray.empty l0 x5_1).toList == a1.toList) = false := beq_eq_false_iff_ne.mpr c5
      have c5b1 : ((rdOf ByteArray.empty l0 x5_1).toList != a1.toList) = true := bne_iff_ne.mpr c5
      have H' := Qz.mk H
      clear H
      have p101 : 0 ≤ (x5_1 : Int) := of_decide_eq_true (by first | (with_reducible assumption) | assumption)
      have q101 : x5_1 < (l0.length : Int) := of_decide_eq_true (by first | (with_reducible assumption) | assumption)
      obtain ⟨ad101, e101, hx101_0⟩ := Kd.at_string HR0.out x5_1 p101 q101
      cases e101
      replace p101 := eq_true p101
      replace q101 := eq_true q101
      go_wp2
      go_roundg k1
      case measure => have := HK1.out; omega
      case rel => exact ⟨(wrap64 (x5_1 + 1)), (by first | rfl | (simp; done) | (simp [*]; done)), H', ⟨by have := HK1.out; omega⟩, by repeat (first | exact Drawn0.refl _ | apply Drawn0.step)⟩
    ·rw [if_neg c4] at H
     exact absurd H (by simp)
   ·rw [if_neg c3] at H
    have c3b0 : decide (x5_1 < (l0.length : Int)) = false := decide_eq_false c3
    clear c3
    obtain rfl := Option.some.inj H
    go_wp2
    go_ret
    exact ⟨by first | rfl | (simp; done) | (simp [*]; done), by repeat (first | exact Drawn0.refl _ | apply Drawn0.step)⟩
end Go.Proofs.Ytbojfnijgmppbaa.P
end
