/- Proved: the law FnPicked of the given program returns true for every input of its Go types and leaves each argument as it was; no condition. (Part 11 of 14.) -/
import Derived.Test.YtcgejabkjljeeaaCFnPicked4
import Derived.Test.YtcgejabkjljeeaaCFnPicked7
import Derived.Test.YtcgejabkjljeeaaCFnPicked9
import Derived.Test.YtcgejabkjljeeaaCFnPicked8
section
namespace Go.Proofs.Ytcgejabkjljeeaa.P
open Go.RowKit Go.Proofs.YtcgejabkjljeeaaW.PrintWords Go.Proofs.YtcgejabkjljeeaaW.PrintLast Go.Proofs.YtcgejabkjljeeaaW.PrintMore
attribute [local go_sem] str_gtr str_leq str_geq max2_int min2_int max_two min_two max_three min_three max_four min_four
set_option linter.unusedVariables false
set_option linter.unusedSimpArgs false
theorem yq106 {P : Prop} (h : P := by repeat (first | (with_reducible first | exact HI104.out | apply IsS123.alloc | apply IsS123.drewN | apply IsS123.drew | apply IsS123.set_1 | apply (fun h_ => IsS123.far h_ NB104_101.out _) | apply (fun h_ => IsS123.far h_ NB104_112.out _) | apply (fun h_ => IsS123.far h_ NB104_129.out _)) | exact HI104.out)) : P := h
theorem yq107 {P : Prop} (h : P := by repeat (first | (with_reducible first | exact HB.out | apply qi | apply qf | apply qh | refine qc ?_ (IsS123.ge HI104.out) | refine qc ?_ GE101.out | refine qc ?_ GE112.out) | exact HB.out)) : P := h
theorem yq108 {P : Prop} (h : P := by (with_reducible repeat (first | refine qb ?_ _ | refine qe ?_ | refine qa ?_ _)); exact BK101.out) : P := h
theorem yq109 {P : Prop} (h : P := by (with_reducible repeat (first | refine qb ?_ _ | refine qe ?_ | refine qa ?_ _)); exact BK112.out) : P := h
theorem yq110 {P : Prop} (h : P := by repeat (first | (with_reducible first | exact HI104.out | apply IsS123.alloc | apply IsS123.drewN | apply IsS123.drew | apply IsS123.set_1 | apply (fun h_ => IsS123.far h_ NB104_101.out _) | apply (fun h_ => IsS123.far h_ NB104_112.out _)) | exact HI104.out)) : P := h
theorem yq111 {P : Prop} (h : P := by repeat (first | (with_reducible first | exact HB.out | apply qi | apply qf | apply qh | refine qc ?_ (IsS123.ge HI104.out) | refine qc ?_ GE101.out | refine qc ?_ GE112.out | refine qc ?_ GE129.out) | exact HB.out)) : P := h
theorem yq112 {P : Prop} (h : P := by (with_reducible repeat (first | apply Kd.R_alloc | apply Kd.R_drewN | apply Kd.R_drew)); exact HO_113000.out) : P := h
theorem yq113 {P : Prop} (h : P := by first | (simp only [putAll, Act.put, sq1, sq2, sq3]; done) | (simp only [putAll, Act.put, sq1, sq2, sq3]; rfl)) : P := h
theorem yq114 {P : Prop} (h : P := by (with_reducible repeat (first | refine qb ?_ _ | refine qe ?_ | refine qa ?_ _)); exact BK129.out) : P := h
theorem yq115 {P : Prop} (h : P := by (with_reducible repeat (first | apply Kd.R_alloc | apply Kd.R_drewN | apply Kd.R_drew)); exact HO121.out) : P := h
theorem yq116 {P : Prop} (h : P := by rw [hg]; exact Nat.ne_of_lt (qx (g := gb101) (o := .cells #[.slice none 0 0, .int .i64 0, .int .i64 0, .int .i64 0] 32 (0, 0)) yq108)) : P := h
theorem yq117 {P : Prop} (h : P := by rw [hg]; exact Nat.ne_of_gt (qx (g := gb101) (o := .cells #[.slice none 0 0, .int .i64 0, .int .i64 0, .int .i64 0] 32 (0, 0)) yq108)) : P := h
theorem yq118 {P : Prop} (h : P := by (try simp only [List.map_toArray, List.map_cons, List.map_nil]); first | done | rfl | (simp only [List.length_drop, List.length_take]; rfl) | (rw [IntWalk.u64_in _ (by omega)] <;> rfl)) : P := h
theorem yq119 {P : Prop} (h : P := by (try simp only [List.map_toArray, List.map_cons, List.map_nil]); first | done | rfl) : P := h
theorem yq120 {P : Prop} (h : P := by rw [hg]; exact Nat.ne_of_lt (qx (g := gb112) (o := .cells #[.slice Ao42 x113000_1.length co42, .int .i64 x113001_1, .int .i64 x113002_1, .int .i64 x113003_1] 32 (0, 0)) yq109)) : P := h
theorem yq121 {P : Prop} (h : P := by rw [hg]; exact Nat.ne_of_lt (qx (g := gb112) (o := .cells #[.slice Ao19 x113000_1.length co19, .int .i64 x113001_1, .int .i64 x113002_1, .int .i64 x113003_1] 32 (0, 0)) yq109)) : P := h
theorem yq122 {P : Prop} (h : P := by rw [hg]; exact Nat.ne_of_gt (qx (g := gb112) (o := .cells #[.slice Ao42 x113000_1.length co42, .int .i64 x113001_1, .int .i64 x113002_1, .int .i64 x113003_1] 32 (0, 0)) yq109)) : P := h
theorem yq123 {P : Prop} (h : P := by rw [hg]; exact Nat.ne_of_gt (qx (g := gb112) (o := .cells #[.slice Ao19 x113000_1.length co19, .int .i64 x113001_1, .int .i64 x113002_1, .int .i64 x113003_1] 32 (0, 0)) yq109)) : P := h
theorem yq124 {P : Prop} (h : P := by first | (go_simp; done) | (go_simp; rfl)) : P := h
theorem yq125 {P : Prop} (h : P := by repeat (first | exact (Kd.R_reads' HO_113000.out).2.2 | (with_reducible refine Kd.C_alloc ?_ _) | (with_reducible refine Kd.C_drewN ?_ _) | (with_reducible refine Kd.C_drew ?_))) : P := h
theorem yq126 {P : Prop} (h : P := by repeat (first | exact (Kd.R_reads' HO121.out).2.2 | (with_reducible refine Kd.C_alloc ?_ _) | (with_reducible refine Kd.C_drewN ?_ _) | (with_reducible refine Kd.C_drew ?_))) : P := h
theorem yq127 {P : Prop} (h : P := by repeat (first | (with_reducible first | exact HB.out | apply qi | apply qf | apply qh | refine qc ?_ (IsS123.ge HI104.out) | refine qc ?_ GE101.out) | exact HB.out)) : P := h
theorem yq128 {P : Prop} (h : P := by (with_reducible repeat (first | apply Kd.R_alloc | apply Kd.R_drewN | apply Kd.R_drew)); exact Kd.R_mono HO124.out (fun _ hk => ⟨hk.2, hk.1.2⟩)) : P := h
theorem yq129 {P : Prop} (h : P := by (with_reducible repeat (first | apply Kd.R_alloc | apply Kd.R_drewN | apply Kd.R_drew)); exact Kd.R_mono HO121.out (fun _ hk => ⟨hk.2, hk.1⟩)) : P := h
theorem yq130 {P : Prop} (h : P := by (with_reducible repeat (first | apply Kd.R_alloc | apply Kd.R_drewN | apply Kd.R_drew)); exact Kd.R_mono HO_113000.out (fun _ hk => hk.2)) : P := h
theorem yq131 {P : Prop} (h : P := by (with_reducible repeat (first | apply Kd.R_alloc | apply Kd.R_drewN | apply Kd.R_drew)); exact Kd.R_mono HO121.out (fun _ hk => hk.2)) : P := h
theorem yq132 {P : Prop} (h : P := by (with_reducible repeat (first | apply Kd.R_alloc | apply Kd.R_drewN | apply Kd.R_drew)); exact HO124.out) : P := h
def spec_DrawPickLevel.l0 : Nat → Int → List Int → Int → List (S66) → Int → Int → Int → Option ((List (S66)) × Int × Int × Int)
 | 0, _, _, _, _, _, _, _ => none
 | k + 1, x5, x105000, x105001, x113000, x113001, x113002, x113003 => if x5 > 0 then ((spec_l1Rd_below.f x105000 x105001 5).bind fun bt115 => ((spec_l1Rd_below.f x105000 bt115.2 40).bind fun bt117 => ((spec_Apply.f k x113000 x113001 x113002 x113003 (([(⟨x113001, wrap64 (Int.tdiv bt115.1 4), (⟨#[97]⟩ : ByteArray), (⟨#[98]⟩ : ByteArray), wrap64 (1 + bt117.1)⟩ : S66)] : List (S66))) ([] : List Int) (wrap64 (x113001 + 1)) x113002 x113003).bind fun bt122 => (if bt122.2.2.2.2 = true then (spec_DrawPickLevel.l0 k (wrap64 (x5 - 1)) x105000 bt117.2 bt122.1 bt122.2.1 bt122.2.2.1 bt122.2.2.2.1) else (spec_DrawPickLevel.l0 k (wrap64 (x5 - 1)) x105000 bt117.2 x113000 x113001 x113002 x113003))))) else (some (x113000, x113001, x113002, x113003))
def spec_DrawPickLevel.f (k : Nat) (l0 : List Int) : Option ((List (S66)) × Int × Int × Int) := (spec_l1Open.f l0).bind fun bt102 => ((spec_l1Rd_version.f k bt102.1 bt102.2).bind fun bt105 => ((spec_l1Rd_below.f bt102.1 bt105.2.2.2.2 8).bind fun bt113 => (spec_DrawPickLevel.l0 k bt113.1 bt102.1 bt113.2 bt105.1 bt105.2.1 bt105.2.2.1 bt105.2.2.2.1)))
def spec_DrawPickLevel.T6 : Bool × List (List Nat × List Nat) := (true, [([], []), ([], []), ([1], [1]), ([2], [2]), ([], []), ([4], [4]), ([], []), ([6], [6]), ([], []), ([8], [8]), ([], []), ([10], [10]), ([11], [11]), ([], []), ([13, 11], [13]), ([14], [14]), ([9, 12, 15], [9, 12, 15]), ([16], [16]), ([3, 5, 7, 17], [3, 5, 7, 17]), ([0, 18, 14], [0, 18]), ([19], [19]), ([20], [20]), ([20], [20]), ([], []), ([23, 21, 19, 0, 1, 2, 3, 4, 5, 6, 7, 8, 9, 10, 11, 12, 13, 14, 15, 16, 17, 18, 19, 20, 21, 23], [21, 23]), ([22, 24, 0, 1, 2, 3, 4, 5, 6, 7, 8, 9, 10, 11, 12, 13, 14, 15, 16, 17, 18, 19, 20, 21, 22, 23, 24], [22])])
def spec_DrawPickLevel.B6 : List Nat := [0, 0, 2, 6, 0, 16, 0, 64, 0, 256, 0, 1024, 3072, 0, 11264, 27648, 65280, 130816, 262142, 524287, 1048575, 2097151, 2097151, 0, 12582911, 33554431]
theorem spec_DrawPickLevel.tab6 : rtab .any (opsOf Try.f43 6) = spec_DrawPickLevel.T6 := by kernel_rfl
theorem spec_DrawPickLevel.bits6 : waitsOk spec_DrawPickLevel.T6.2 spec_DrawPickLevel.B6 = true := by kernel_rfl
set_option maxHeartbeats 8000000 in
set_option maxRecDepth 100000 in
theorem spec_DrawPickLevel.calls (k : Nat) (A0 : Option Addr) (c0 : Nat) (l0 : List Int) (r1 : List (S66)) (r2 : Int) (r3 : Int) (r4 : Int) (w : World) (hr0 : Kd.C (Kd.int .u8) w A0 l0.length l0) (hc0 : l0.length ≤ c0) (h : spec_DrawPickLevel.f k l0 = some (r1, r2, r3, r4)) :
  Calls Try.prog 43 #[.slice A0 l0.length c0] w fun e w' => ∃ v0_ : Value, e = .returned (.agg #[v0_, .int .i64 r2, .int .i64 r3, .int .i64 r4]) ∧ Kd.R k66 66 w' w.heap.size (fun _ => True) v0_ r1 ∧ Below w.heap.size w w' := by
 have hu32 := Try.underlying32
 have hu66 := Try.underlying66
 have hu37 := Try.underlying37
 have HR0 := Qz.mk hr0
 have HC0 := Qz.mk hc0
 clear hr0 hc0
 have HB := Qz.mk (Below.refl w.heap.size w)
 have H : ((spec_l1Open.f l0).bind fun bt102 => ((spec_l1Rd_version.f k bt102.1 bt102.2).bind fun bt105 => ((spec_l1Rd_below.f bt102.1 bt105.2.2.2.2 8).bind fun bt113 => (spec_DrawPickLevel.l0 k bt113.1 bt102.1 bt113.2 bt105.1 bt105.2.1 bt105.2.2.1 bt105.2.2.2.1)))) = some (r1, r2, r3, r4) := h
 clear h
 replace H := Option.bind_eq_some_iff.mp H
 obtain ⟨⟨t102, t103⟩, A20, H⟩ := H
 replace H : ((spec_l1Rd_version.f k t102 t103).bind fun bt105 => ((spec_l1Rd_below.f t102 bt105.2.2.2.2 8).bind fun bt113 => (spec_DrawPickLevel.l0 k bt113.1 t102 bt113.2 bt105.1 bt105.2.1 bt105.2.2.1 bt105.2.2.2.1))) = some (r1, r2, r3, r4) := H
 have A2 := Qz.mk A20
 clear A20
 replace H := Option.bind_eq_some_iff.mp H
 obtain ⟨⟨t105, t108, t109, t110, t111⟩, A30, H⟩ := H
 replace H : ((spec_l1Rd_below.f t102 t111 8).bind fun bt113 => (spec_DrawPickLevel.l0 k bt113.1 t102 bt113.2 t105 t108 t109 t110)) = some (r1, r2, r3, r4) := H
 have A3 := Qz.mk A30
 clear A30
 replace H := Option.bind_eq_some_iff.mp H
 obtain ⟨⟨t113, t114⟩, A40, H⟩ := H
 replace H : (spec_DrawPickLevel.l0 k t113 t102 t114 t105 t108 t109 t110) = some (r1, r2, r3, r4) := H
 have A4 := Qz.mk A40
 clear A40
 have H' := Qz.mk H
 clear H
 go_enter Try.func43, Try.ntmps43
 go_wp2_with (first | ((with_reducible refine gate_dst (N := 2) rfl ?_); refine box_event ?hg (N := 2) ?hd (cs := #[.slice none 0 0, .int .i64 0, .int .i64 0, .int .i64 0]) (t := 32) ?hr ?_; (case hd => rfl); (case hg => rfl); (case hr => exact yq124); intro gb101 hg w5 hbox hb; have BK101 := Qz.mk (hbox); have GW101 := Qz.mk ((by rw [hg]; exact (qz (by repeat (first | (with_reducible first | exact HB.out | apply qi | apply qf | apply qh) | exact HB.out))) : w.heap.size ≤ gb101)); have GE101 := GW101; replace HB := Qz.mk (qq (by repeat (first | (with_reducible first | exact HB.out | apply qi | apply qf | apply qh) | exact HB.out)) hb); clear hb hbox hg) | ((with_reducible refine qr (f := 70) rfl ?_); refine goesL_ (some 9) rfl rfl Try.func70 (by kernel_rfl) rfl #[.slice A0 l0.length c0] rfl yq118 ?_; (with_reducible refine (spec_l1Open.calls _ _ l0 t102 t103 w _ ?side1 ?side2 ?side3 A2.out).mono ?_); (case side1 => repeat (first | (with_reducible first | exact HB.out | apply qi | apply qf | apply qh | refine qc ?_ GE101.out) | exact HB.out)); (case side2 => exact HR0.out); (case side3 => exact HC0.out); rintro e w6 ⟨g104, rfl, hi, hb, hb2⟩; refine ⟨_, rfl, ?_⟩; replace HB := Qz.mk (hb); have HI104 := Qz.mk (hi); have NB104_101 := Qz.mk (IsS123.ne_blk hi (qp (g := gb101) (o := .cells #[.slice none 0 0, .int .i64 0, .int .i64 0, .int .i64 0] 32 (0, 0)) yq108 hb2) (by decide)); have NB101_104 := Qz.mk (Ne.symm (IsS123.ne_blk hi (qp (g := gb101) (o := .cells #[.slice none 0 0, .int .i64 0, .int .i64 0, .int .i64 0] 32 (0, 0)) yq108 hb2) (by decide))); replace BK101 := Qz.mk (qp (g := gb101) (o := .cells #[.slice none 0 0, .int .i64 0, .int .i64 0, .int .i64 0] 32 (0, 0)) yq108 hb2); (try clear hb); (try clear hb2); (try clear hk); (try clear hi)) | ((with_reducible refine qr (f := 71) rfl ?_); refine goesL_ (some 11) rfl rfl Try.func71 (by kernel_rfl) rfl #[.pointer (some ⟨g104, 0, none⟩)] rfl yq119 ?_; (with_reducible refine (spec_l1Rd_version.calls k g104 t102 t103 t105 t108 t109 t110 t111 w _ ?side1 ?side2 A3.out).mono ?_); (case side1 => repeat (first | (with_reducible first | exact HI104.out | apply IsS123.alloc | apply IsS123.drewN | apply IsS123.drew | apply IsS123.set_1 | apply (fun h_ => IsS123.far h_ NB104_101.out _)) | exact HI104.out)); (case side2 => exact yq127); rintro e w7 ⟨v106, rfl, ho0, hi, hb, hk⟩; refine ⟨_, rfl, ?_⟩; replace BK101 := Qz.mk (KeepBut.blk hk (g' := gb101) (o := .cells #[.slice none 0 0, .int .i64 0, .int .i64 0, .int .i64 0] 32 (0, 0)) yq108 NB101_104.out (by simp)); have HO107 := Qz.mk (Kd.R_lower ho0 (qz yq127)); replace HB := Qz.mk (hb); replace HI104 := Qz.mk (hi); (try clear hb); (try clear hb2); (try clear hk); (try clear hi); (try clear ho0)) | ((with_reducible refine gate_dst (N := 4) rfl ?_); refine box_event ?hg (N := 4) ?hd (cs := #[.slice none 0 0, .int .i64 0, .int .i64 0, .int .i64 0]) (t := 32) ?hr ?_; (case hd => rfl); (case hg => rfl); (case hr => exact yq124); intro gb112 hg w8 hbox hb; replace HO107 := Qz.mk (Kd.R_below (by (with_reducible repeat (first | apply Kd.R_alloc | apply Kd.R_drewN | apply Kd.R_drew)); exact HO107.out) hb); have BK112 := Qz.mk (hbox); have GW112 := Qz.mk ((by rw [hg]; exact (qz yq127) : w.heap.size ≤ gb112)); have GE112 := GW112; replace HB := Qz.mk (qq yq127 hb); have NB101_112 := Qz.mk ((yq116 : gb101 ≠ gb112)); have NB112_101 := Qz.mk ((yq117 : gb112 ≠ gb101)); replace BK101 := Qz.mk (qp (g := gb101) (o := .cells #[.slice none 0 0, .int .i64 0, .int .i64 0, .int .i64 0] 32 (0, 0)) yq108 hb); have NB104_112 := Qz.mk ((by rw [hg]; exact Nat.ne_of_lt (IsS123.lt (show IsS123 w _ g104 t102 t111 from by repeat (first | (with_reducible first | exact HI104.out | apply IsS123.alloc | apply IsS123.drewN | apply IsS123.drew | apply IsS123.set_1 | apply (fun h_ => IsS123.far h_ NB104_101.out _)) | exact HI104.out))) : g104 ≠ gb112)); have NB112_104 := Qz.mk ((by rw [hg]; exact Nat.ne_of_gt (IsS123.lt (show IsS123 w _ g104 t102 t111 from by repeat (first | (with_reducible first | exact HI104.out | apply IsS123.alloc | apply IsS123.drewN | apply IsS123.drew | apply IsS123.set_1 | apply (fun h_ => IsS123.far h_ NB104_101.out _)) | exact HI104.out))) : gb112 ≠ g104)); replace HI104 := Qz.mk (IsS123.below (by repeat (first | (with_reducible first | exact HI104.out | apply IsS123.alloc | apply IsS123.drewN | apply IsS123.drew | apply IsS123.set_1 | apply (fun h_ => IsS123.far h_ NB104_101.out _)) | exact HI104.out)) hb); clear hb hbox hg; obtain ⟨Ao9, co9, eo9⟩ := Kd.R_slice HO107.out; subst eo9; have hnb10 := NB112_101.out; have hnc10 := NB101_112.out; have hnb11 := NB112_104.out; have hnc11 := NB104_112.out; have hcz12_0 : w8.cell? ⟨gb112, 0, none⟩ = some (.slice none 0 0) := (qd BK112.out 0).trans rfl; have hcz12_1 : w8.cell? ⟨gb112, 1, none⟩ = some (.int .i64 0) := (qd BK112.out 1).trans rfl; have hcz12_2 : w8.cell? ⟨gb112, 2, none⟩ = some (.int .i64 0) := (qd BK112.out 2).trans rfl; have hcz12_3 : w8.cell? ⟨gb112, 3, none⟩ = some (.int .i64 0) := (qd BK112.out 3).trans rfl; have hfz12_0 := qg BK112.out 0; have hfz12_1 := qg BK112.out 1; have hfz12_2 := qg BK112.out 2; have hfz12_3 := qg BK112.out 3) | ((with_reducible refine qr (f := 80) rfl ?_); refine goesL_ (some 13) rfl rfl Try.func80 (by kernel_rfl) rfl #[.pointer (some ⟨g104, 0, none⟩), .int .i64 8] rfl yq119 ?_; (with_reducible refine (spec_l1Rd_below.calls g104 t102 t111 8 t113 t114 w _ ?side1 ?side2 A4.out).mono ?_); (case side1 => exact yq110); (case side2 => exact yq107); rintro e w13 ⟨rfl, hi, hb, hk⟩; refine ⟨_, rfl, ?_⟩; replace BK101 := Qz.mk (KeepBut.blk hk (g' := gb101) (o := .cells #[.slice none 0 0, .int .i64 0, .int .i64 0, .int .i64 0] 32 (0, 0)) (by (with_reducible repeat (first | refine qb ?_ _ | refine qe ?_ | refine qa ?_ _)); refine qt ?_ NB101_112.out _; (with_reducible repeat (first | refine qb ?_ _ | refine qe ?_ | refine qa ?_ _)); refine qt ?_ NB101_112.out _; (with_reducible repeat (first | refine qb ?_ _ | refine qe ?_ | refine qa ?_ _)); refine qt ?_ NB101_112.out _; (with_reducible repeat (first | refine qb ?_ _ | refine qe ?_ | refine qa ?_ _)); refine qt ?_ NB101_112.out _; (with_reducible repeat (first | refine qb ?_ _ | refine qe ?_ | refine qa ?_ _)); exact BK101.out) NB101_104.out (by simp)); replace HO107 := Qz.mk (Kd.R_mono (Kd.R_keep (IsS123.apart (show IsS123 w _ g104 t102 t111 from by repeat (first | (with_reducible first | exact HI104.out | apply IsS123.alloc | apply IsS123.drewN | apply IsS123.drew | apply IsS123.set_1 | apply (fun h_ => IsS123.far h_ NB104_101.out _) | apply (fun h_ => IsS123.far h_ NB104_112.out _)) | exact HI104.out)) (by (with_reducible repeat (first | apply Kd.R_alloc | apply Kd.R_drewN | apply Kd.R_drew)); exact (Kd.R_mono (Kd.R_far (p := ⟨gb112, 3, none⟩) (Kd.R_far (p := ⟨gb112, 2, none⟩) (Kd.R_far (p := ⟨gb112, 1, none⟩) (Kd.R_far (p := ⟨gb112, 0, none⟩) (Kd.R_types HO107.out BK112.out (by decide)) (fun _ hk => hk.2) (.slice Ao9 t105.length co9)) (fun _ hk => hk.2) (.int .i64 t108)) (fun _ hk => hk.2) (.int .i64 t109)) (fun _ hk => hk.2) (.int .i64 t110)) (fun _ h_ => h_.1))) (by decide)) hk (fun _ h => h.2)) (fun _ h => h.1)); replace BK112 := Qz.mk (KeepBut.blk hk (g' := gb112) (o := .cells #[.slice Ao9 t105.length co9, .int .i64 t108, .int .i64 t109, .int .i64 t110] 32 (0, 0)) (by (with_reducible repeat (first | refine qb ?_ _ | refine qe ?_ | refine qa ?_ _)); refine qy (cs := #[.slice Ao9 t105.length co9, .int .i64 t108, .int .i64 t109, .int .i64 0]) ?_ 3 _ rfl; (with_reducible repeat (first | refine qb ?_ _ | refine qe ?_ | refine qa ?_ _)); refine qy (cs := #[.slice Ao9 t105.length co9, .int .i64 t108, .int .i64 0, .int .i64 0]) ?_ 2 _ rfl; (with_reducible repeat (first | refine qb ?_ _ | refine qe ?_ | refine qa ?_ _)); refine qy (cs := #[.slice Ao9 t105.length co9, .int .i64 0, .int .i64 0, .int .i64 0]) ?_ 1 _ rfl; (with_reducible repeat (first | refine qb ?_ _ | refine qe ?_ | refine qa ?_ _)); refine qy (cs := #[.slice none 0 0, .int .i64 0, .int .i64 0, .int .i64 0]) ?_ 0 _ rfl; (with_reducible repeat (first | refine qb ?_ _ | refine qe ?_ | refine qa ?_ _)); exact BK112.out) NB112_104.out (by simp)); replace HB := Qz.mk (hb); replace HI104 := Qz.mk (hi); (try clear hb); (try clear hb2); (try clear hk); (try clear hi)))
 go_loopg [5] k (fun kq v5 w' => ∃ (x5_1 : Int) (x105001_1 : Int) (x113000_1 : List (S66)) (x113001_1 : Int) (x113002_1 : Int) (x113003_1 : Int) (u113000 : Value), v5 = .int .i64 x5_1 ∧ Qz (spec_DrawPickLevel.l0 kq x5_1 t102 x105001_1 x113000_1 x113001_1 x113002_1 x113003_1 = some (r1, r2, r3, r4)) ∧ Qz (kq ≤ k) ∧ Qz (Kd.R k66 66 w' w.heap.size (fun _ => True) u113000 x113000_1) ∧ Qz (w'.heap[gb101]? = some (.cells #[(.slice none 0 0), .int .i64 0, .int .i64 0, .int .i64 0] 32 (0, 0))) ∧ Qz (w'.heap[gb112]? = some (.cells #[u113000, .int .i64 x113001_1, .int .i64 x113002_1, .int .i64 x113003_1] 32 (0, 0))) ∧ Qz (IsS123 w w' g104 t102 x105001_1) ∧ Qz (Below w.heap.size w w'))
 case atStart => exact ⟨(t113), (t114), (t105), (t108), (t109), (t110), (.slice Ao9 t105.length co9), (by first | rfl | (simp; done) | (simp [*]; done)), H', ⟨Nat.le_refl _⟩, ⟨by (with_reducible repeat (first | apply Kd.R_alloc | apply Kd.R_drewN | apply Kd.R_drew)); exact HO107.out⟩, ⟨by (with_reducible repeat (first | refine qb ?_ _ | refine qe ?_ | refine qa ?_ _)); exact BK101.out⟩, ⟨by (with_reducible repeat (first | refine qb ?_ _ | refine qe ?_ | refine qa ?_ _)); exact BK112.out⟩, ⟨by repeat (first | (with_reducible first | exact HI104.out | apply IsS123.alloc | apply IsS123.drewN | apply IsS123.drew | apply IsS123.set_1 | apply (fun h_ => IsS123.far h_ NB104_101.out _) | apply (fun h_ => IsS123.far h_ NB104_112.out _)) | exact HI104.out)⟩, ⟨by repeat (first | (with_reducible first | exact HB.out | apply qi | apply qf | apply qh | refine qc ?_ (IsS123.ge HI104.out) | refine qc ?_ GE101.out | refine qc ?_ GE112.out) | exact HB.out)⟩⟩
 case round =>
  clear H'
  try clear c1
  try clear p2
  try clear c4
  try clear c7
  try clear c8
  try clear c10
  try clear c11
  try clear hcz12_0
  try clear hcz12_1
  try clear hcz12_2
  try clear hcz12_3
  try clear hfz12_0
  try clear hfz12_1
  try clear hfz12_2
  try clear hfz12_3
  obtain ⟨x5_1, x105001_1, x113000_1, x113001_1, x113002_1, x113003_1, u113000, rfl, HA, HK1, HO_113000, BK101, BK112, HI104, HB⟩ := hrel
  cases gk with
  | zero => exact absurd HA.out (by simp [spec_DrawPickLevel.l0])
  | succ k1 =>
   have H := HA.out
   clear HA
   simp only [spec_DrawPickLevel.l0] at H
   by_cases c14 : x5_1 > 0
   ·rw [if_pos c14] at H
    have c14b0 : decide (0 < x5_1) = true := decide_eq_true c14
    clear c14
    replace H := Option.bind_eq_some_iff.mp H
    obtain ⟨⟨t115, t116⟩, A150, H⟩ := H
    replace H : ((spec_l1Rd_below.f t102 t116 40).bind fun bt117 => ((spec_Apply.f k1 x113000_1 x113001_1 x113002_1 x113003_1 (([(⟨x113001_1, wrap64 (Int.tdiv t115 4), (⟨#[97]⟩ : ByteArray), (⟨#[98]⟩ : ByteArray), wrap64 (1 + bt117.1)⟩ : S66)] : List (S66))) ([] : List Int) (wrap64 (x113001_1 + 1)) x113002_1 x113003_1).bind fun bt122 => (if bt122.2.2.2.2 = true then (spec_DrawPickLevel.l0 k1 (wrap64 (x5_1 - 1)) t102 bt117.2 bt122.1 bt122.2.1 bt122.2.2.1 bt122.2.2.2.1) else (spec_DrawPickLevel.l0 k1 (wrap64 (x5_1 - 1)) t102 bt117.2 x113000_1 x113001_1 x113002_1 x113003_1)))) = some (r1, r2, r3, r4) := H
    have A15 := Qz.mk A150
    clear A150
    replace H := Option.bind_eq_some_iff.mp H
    obtain ⟨⟨t117, t118⟩, A160, H⟩ := H
    replace H : ((spec_Apply.f k1 x113000_1 x113001_1 x113002_1 x113003_1 (([(⟨x113001_1, wrap64 (Int.tdiv t115 4), (⟨#[97]⟩ : ByteArray), (⟨#[98]⟩ : ByteArray), wrap64 (1 + t117)⟩ : S66)] : List (S66))) ([] : List Int) (wrap64 (x113001_1 + 1)) x113002_1 x113003_1).bind fun bt122 => (if bt122.2.2.2.2 = true then (spec_DrawPickLevel.l0 k1 (wrap64 (x5_1 - 1)) t102 t118 bt122.1 bt122.2.1 bt122.2.2.1 bt122.2.2.2.1) else (spec_DrawPickLevel.l0 k1 (wrap64 (x5_1 - 1)) t102 t118 x113000_1 x113001_1 x113002_1 x113003_1))) = some (r1, r2, r3, r4) := H
    have A16 := Qz.mk A160
    clear A160
    obtain ⟨y119, hy119⟩ : ∃ y_ : List (S66), y_ = (([(⟨x113001_1, wrap64 (Int.tdiv t115 4), (⟨#[97]⟩ : ByteArray), (⟨#[98]⟩ : ByteArray), wrap64 (1 + t117)⟩ : S66)] : List (S66))) := ⟨_, rfl⟩
    replace H : ((spec_Apply.f k1 x113000_1 x113001_1 x113002_1 x113003_1 y119 ([] : List Int) (wrap64 (x113001_1 + 1)) x113002_1 x113003_1).bind fun bt122 => (if bt122.2.2.2.2 = true then (spec_DrawPickLevel.l0 k1 (wrap64 (x5_1 - 1)) t102 t118 bt122.1 bt122.2.1 bt122.2.2.1 bt122.2.2.2.1) else (spec_DrawPickLevel.l0 k1 (wrap64 (x5_1 - 1)) t102 t118 x113000_1 x113001_1 x113002_1 x113003_1))) = some (r1, r2, r3, r4) := by first | (rw [hy119]; with_reducible exact H) | (have H2_ := (Option.bind_some _ _).symm.trans H; rw [hy119]; with_reducible exact H2_) | (have H2_ := (Option.bind_some _ _).symm.trans H; with_reducible exact H2_) | with_reducible exact H | (rw [hy119]; exact H) | exact H
    have Ny119 := Qz.mk hy119
    clear hy119
    replace H := Option.bind_eq_some_iff.mp H
    obtain ⟨⟨t122, t125, t126, t127, t128⟩, A170, H⟩ := H
    replace H : (if t128 = true then (spec_DrawPickLevel.l0 k1 (wrap64 (x5_1 - 1)) t102 t118 t122 t125 t126 t127) else (spec_DrawPickLevel.l0 k1 (wrap64 (x5_1 - 1)) t102 t118 x113000_1 x113001_1 x113002_1 x113003_1)) = some (r1, r2, r3, r4) := H
    have A17 := Qz.mk A170
    clear A170
    by_cases c18 : t128 = true
    ·subst c18
     have H1 : (spec_DrawPickLevel.l0 k1 (wrap64 (x5_1 - 1)) t102 t118 t122 t125 t126 t127) = some (r1, r2, r3, r4) := by rw [if_pos rfl] at H; exact H
     clear H
     have H := H1
     clear H1
     have H' := Qz.mk H
     clear H
     obtain ⟨Ao19, co19, eo19⟩ := Kd.R_slice HO_113000.out
     subst eo19
     try go_wp2
     replace HO_113000 := Qz.mk (Kd.R_drew HO_113000.out)
     replace BK101 := Qz.mk (qe BK101.out)
     replace BK112 := Qz.mk (qe BK112.out)
     replace HI104 := Qz.mk (IsS123.drew HI104.out)
     replace HB := Qz.mk (qh HB.out)
     refine start_ (n := 26) (S := fun w' => w'.cell? ⟨gb112, 0, none⟩ = some (.slice Ao19 x113000_1.length co19) ∧ w'.cell? ⟨gb112, 1, none⟩ = some (.int .i64 x113001_1) ∧ w'.cell? ⟨gb112, 2, none⟩ = some (.int .i64 x113002_1) ∧ w'.cell? ⟨gb112, 3, none⟩ = some (.int .i64 x113003_1)) (ds := []) bq1 (by kernel_rfl) rfl rfl ⟨(qd BK112.out 0).trans rfl, (qd BK112.out 1).trans rfl, (qd BK112.out 2).trans rfl, (qd BK112.out 3).trans rfl⟩ (fun hHeld => ?_); refine with_tabW spec_DrawPickLevel.tab6 spec_DrawPickLevel.bits6 (fun HT_ HW_ => ?_)
     generalize wr.drew = w20 at HO_113000 BK101 BK112 HI104 HB hHeld ⊢
     refine pure_ (i := 1) (N := some 20) (v := ?_) (a' := ?_) bq7 rfl rfl (qo HT_.out (by kernel_rfl)) (fun _ _ _ h => h) (Or.inl ⟨by rfl, ?_⟩) ?_ ?_
     rotate_left
     ·intro w'
      go_simp
      with_reducible rfl
     rotate_left
     ·simp only [Act.put, sq1, sq2, sq3, i64_w, i32_w]
      rfl
     refine pure_ (i := 4) (N := some 23) (v := ?_) (a' := ?_) bq9 rfl rfl (qo HT_.out (by kernel_rfl)) (fun _ _ _ h => h) (Or.inl ⟨by rfl, ?_⟩) ?_ ?_
     rotate_left
     ·intro w'
      go_simp
      with_reducible rfl
     rotate_left
     ·simp only [Act.put, sq1, sq2, sq3, i64_w, i32_w]
      rfl
     refine pure_ (i := 6) (N := some 25) (v := ?_) (a' := ?_) bq10 rfl rfl (qo HT_.out (by kernel_rfl)) (fun _ _ _ h => h) (Or.inl ⟨by rfl, ?_⟩) ?_ ?_
     rotate_left
     ·intro w'
      go_simp
      with_reducible rfl
     rotate_left
     ·simp only [Act.put, sq1, sq2, sq3, i64_w, i32_w]
      rfl
     refine pure_ (i := 8) (N := some 27) (v := ?_) (a' := ?_) bq11 rfl rfl (qo HT_.out (by kernel_rfl)) (fun _ _ _ h => h) (Or.inl ⟨by rfl, ?_⟩) ?_ ?_
     rotate_left
     ·intro w'
      go_simp
      with_reducible rfl
     rotate_left
     ·simp only [Act.put, sq1, sq2, sq3, i64_w, i32_w]
      rfl
     refine pure_ (i := 10) (N := some 29) (v := ?_) (a' := ?_) bq12 rfl rfl (qo HT_.out (by kernel_rfl)) (fun _ _ _ h => h) (Or.inl ⟨by rfl, ?_⟩) ?_ ?_
     rotate_left
     ·intro w'
      go_simp
      with_reducible rfl
     rotate_left
     ·simp only [Act.put, sq1, sq2, sq3, i64_w, i32_w]
      rfl
     refine pure_ (i := 13) (N := some 32) (v := ?_) (a' := ?_) bq13 rfl rfl (qo HT_.out (by kernel_rfl)) (fun _ _ _ h => h) (Or.inl ⟨by rfl, ?_⟩) ?_ ?_
     rotate_left
     ·intro w'
      go_simp
      with_reducible rfl
     rotate_left
     ·simp only [Act.put, sq1, sq2, sq3, i64_w, i32_w]
      rfl
     refine take_ (i := 0) (N := some 19) (v := ?_) (a' := ?_) bq27 rfl rfl (qa1 HT_.out HW_.out (by kernel_rfl)) (fun _ _ _ h => h) (Or.inl ⟨by rfl, ?_⟩) hHeld ?_ ?_
     rotate_left
     ·rintro w' ⟨s0, s1, s2, s3⟩
      go_simp
      with_reducible rfl
     rotate_left
     ·simp only [Act.put, sq1, sq2, sq3, i64_w, i32_w]
      rfl
     refine take_ (i := 2) (N := some 21) (v := ?_) (a' := ?_) bq35 rfl rfl (qa1 HT_.out HW_.out (by kernel_rfl)) (fun _ _ _ h => h) (Or.inl ⟨by rfl, ?_⟩) hHeld ?_ ?_
     rotate_left
     ·rintro w' ⟨s0, s1, s2, s3⟩
      go_simp
      with_reducible rfl
     rotate_left
     ·simp only [Act.put, sq1, sq2, sq3, i64_w, i32_w]
      rfl
     refine pure_ (i := 3) (N := some 22) (v := ?_) (a' := ?_) bq48 rfl rfl (qo HT_.out (by kernel_rfl)) (fun _ _ _ h => h) (Or.inl ⟨by rfl, ?_⟩) ?_ ?_
     rotate_left
     ·intro w'
      go_simp
      with_reducible rfl
     rotate_left
     ·simp only [Act.put, sq1, sq2, sq3, i64_w, i32_w]
      rfl
     refine take_ (i := 5) (N := some 24) (v := ?_) (a' := ?_) bq64 rfl rfl (qa1 HT_.out HW_.out (by kernel_rfl)) (fun _ _ _ h => h) (Or.inl ⟨by rfl, ?_⟩) hHeld ?_ ?_
     rotate_left
     ·rintro w' ⟨s0, s1, s2, s3⟩
      go_simp
      with_reducible rfl
     rotate_left
     ·simp only [Act.put, sq1, sq2, sq3, i64_w, i32_w]
      rfl
     refine take_ (i := 7) (N := some 26) (v := ?_) (a' := ?_) bq77 rfl rfl (qa1 HT_.out HW_.out (by kernel_rfl)) (fun _ _ _ h => h) (Or.inl ⟨by rfl, ?_⟩) hHeld ?_ ?_
     rotate_left
     ·rintro w' ⟨s0, s1, s2, s3⟩
      go_simp
      with_reducible rfl
     rotate_left
     ·simp only [Act.put, sq1, sq2, sq3, i64_w, i32_w]
      rfl
     refine take_ (i := 9) (N := some 28) (v := ?_) (a' := ?_) bq85 rfl rfl (qa1 HT_.out HW_.out (by kernel_rfl)) (fun _ _ _ h => h) (Or.inl ⟨by rfl, ?_⟩) hHeld ?_ ?_
     rotate_left
     ·rintro w' ⟨s0, s1, s2, s3⟩
      go_simp
      with_reducible rfl
     rotate_left
     ·simp only [Act.put, sq1, sq2, sq3, i64_w, i32_w]
      rfl
     refine join_ (σ := Value × Value × Nat) 2 bq133 (fun s_ => [(30, .int .i64 t115), (33, .int .i64 t117), (36, s_.1), (38, .tuple #[.agg #[s_.2.1, .int .i64 t125, .int .i64 t126, .int .i64 t127], .bool true]), (6, .pointer (some ⟨s_.2.2, 0, none⟩)), (31, .int .i64 (wrap64 (Int.tdiv t115 4))), (34, .int .i64 (wrap64 (1 + t117))), (35, .agg #[.int .i64 x113001_1, .int .i64 (wrap64 (Int.tdiv t115 4)), .string (⟨#[97]⟩ : ByteArray), .string (⟨#[98]⟩ : ByteArray), .int .i64 (wrap64 (1 + t117))]), (37, .agg #[s_.1, .slice none 0 0, .int .i64 (wrap64 (x113001_1 + 1)), .int .i64 x113002_1, .int .i64 x113003_1]), (18, .tuple #[.agg #[s_.2.1, .int .i64 t125, .int .i64 t126, .int .i64 t127], .bool true]), (39, .agg #[s_.2.1, .int .i64 t125, .int .i64 t126, .int .i64 t127]), (40, .bool true)]) (fun s_ w' => (w'.cell? ⟨gb112, 0, none⟩ = some (.slice Ao19 x113000_1.length co19) ∧ w'.cell? ⟨gb112, 1, none⟩ = some (.int .i64 x113001_1) ∧ w'.cell? ⟨gb112, 2, none⟩ = some (.int .i64 x113002_1) ∧ w'.cell? ⟨gb112, 3, none⟩ = some (.int .i64 x113003_1)) ∧ (Kd.R k66 66 w' w.heap.size (fun k_ => some k_ ≠ (s_.2.1 : Value).ownBlock ∧ some k_ ≠ (.slice Ao19 x113000_1.length co19 : Value).ownBlock) s_.1 y119) ∧ (Kd.R k66 66 w' w.heap.size (fun k_ => some k_ ≠ (s_.1 : Value).ownBlock ∧ some k_ ≠ (.slice Ao19 x113000_1.length co19 : Value).ownBlock) s_.2.1 t122) ∧ (Kd.R k66 66 w' w.heap.size (fun k_ => some k_ ≠ (s_.1 : Value).ownBlock ∧ some k_ ≠ (s_.2.1 : Value).ownBlock) (.slice Ao19 x113000_1.length co19) x113000_1) ∧ (w'.heap[gb101]? = some (.cells #[.slice none 0 0, .int .i64 0, .int .i64 0, .int .i64 0] 32 (0, 0))) ∧ (w'.heap[gb112]? = some (.cells #[.slice Ao19 x113000_1.length co19, .int .i64 x113001_1, .int .i64 x113002_1, .int .i64 x113003_1] 32 (0, 0))) ∧ (w'.heap[s_.2.2]? = some (.cells #[.slice none 0 0, .int .i64 0, .int .i64 0, .int .i64 0] 32 (0, 0))) ∧ (w.heap.size ≤ s_.2.2) ∧ (w.heap.size ≤ s_.2.2) ∧ (g104 ≠ s_.2.2) ∧ (s_.2.2 ≠ g104) ∧ (gb101 ≠ s_.2.2) ∧ (s_.2.2 ≠ gb101) ∧ (gb112 ≠ s_.2.2) ∧ (s_.2.2 ≠ gb112) ∧ (IsS123 w w' g104 t102 t118) ∧ (Below w.heap.size w w')) ?_ ?_
     rotate_left
     ·intro hJ11_14_17_19_23
      refine join_ (σ := Value × Value) 3 bq131 (fun s_ => [(30, .int .i64 t115), (33, .int .i64 t117), (36, s_.1), (38, .tuple #[.agg #[s_.2, .int .i64 t125, .int .i64 t126, .int .i64 t127], .bool true]), (31, .int .i64 (wrap64 (Int.tdiv t115 4))), (34, .int .i64 (wrap64 (1 + t117))), (35, .agg #[.int .i64 x113001_1, .int .i64 (wrap64 (Int.tdiv t115 4)), .string (⟨#[97]⟩ : ByteArray), .string (⟨#[98]⟩ : ByteArray), .int .i64 (wrap64 (1 + t117))]), (37, .agg #[s_.1, .slice none 0 0, .int .i64 (wrap64 (x113001_1 + 1)), .int .i64 x113002_1, .int .i64 x113003_1]), (18, .tuple #[.agg #[s_.2, .int .i64 t125, .int .i64 t126, .int .i64 t127], .bool true]), (39, .agg #[s_.2, .int .i64 t125, .int .i64 t126, .int .i64 t127]), (40, .bool true)]) (fun s_ w' => (w'.cell? ⟨gb112, 0, none⟩ = some (.slice Ao19 x113000_1.length co19) ∧ w'.cell? ⟨gb112, 1, none⟩ = some (.int .i64 x113001_1) ∧ w'.cell? ⟨gb112, 2, none⟩ = some (.int .i64 x113002_1) ∧ w'.cell? ⟨gb112, 3, none⟩ = some (.int .i64 x113003_1)) ∧ (Kd.R k66 66 w' w.heap.size (fun k_ => some k_ ≠ (s_.2 : Value).ownBlock ∧ some k_ ≠ (.slice Ao19 x113000_1.length co19 : Value).ownBlock) s_.1 y119) ∧ (Kd.R k66 66 w' w.heap.size (fun k_ => some k_ ≠ (s_.1 : Value).ownBlock ∧ some k_ ≠ (.slice Ao19 x113000_1.length co19 : Value).ownBlock) s_.2 t122) ∧ (Kd.R k66 66 w' w.heap.size (fun k_ => some k_ ≠ (s_.1 : Value).ownBlock ∧ some k_ ≠ (s_.2 : Value).ownBlock) (.slice Ao19 x113000_1.length co19) x113000_1) ∧ (w'.heap[gb101]? = some (.cells #[.slice none 0 0, .int .i64 0, .int .i64 0, .int .i64 0] 32 (0, 0))) ∧ (w'.heap[gb112]? = some (.cells #[.slice Ao19 x113000_1.length co19, .int .i64 x113001_1, .int .i64 x113002_1, .int .i64 x113003_1] 32 (0, 0))) ∧ (IsS123 w w' g104 t102 t118) ∧ (Below w.heap.size w w')) ?_ ?_
      rotate_left
      ·intro hJ11_14_17_19
       refine join_ (σ := Value × Nat) 6 bq120 (fun s_ => [(30, .int .i64 t115), (33, .int .i64 t117), (36, s_.1), (6, .pointer (some ⟨s_.2, 0, none⟩)), (31, .int .i64 (wrap64 (Int.tdiv t115 4))), (34, .int .i64 (wrap64 (1 + t117))), (35, .agg #[.int .i64 x113001_1, .int .i64 (wrap64 (Int.tdiv t115 4)), .string (⟨#[97]⟩ : ByteArray), .string (⟨#[98]⟩ : ByteArray), .int .i64 (wrap64 (1 + t117))]), (37, .agg #[s_.1, .slice none 0 0, .int .i64 (wrap64 (x113001_1 + 1)), .int .i64 x113002_1, .int .i64 x113003_1])]) (fun s_ w' => (w'.cell? ⟨gb112, 0, none⟩ = some (.slice Ao19 x113000_1.length co19) ∧ w'.cell? ⟨gb112, 1, none⟩ = some (.int .i64 x113001_1) ∧ w'.cell? ⟨gb112, 2, none⟩ = some (.int .i64 x113002_1) ∧ w'.cell? ⟨gb112, 3, none⟩ = some (.int .i64 x113003_1)) ∧ (Kd.R k66 66 w' w.heap.size (fun k_ => some k_ ≠ (.slice Ao19 x113000_1.length co19 : Value).ownBlock) s_.1 y119) ∧ (Kd.R k66 66 w' w.heap.size (fun k_ => some k_ ≠ (s_.1 : Value).ownBlock) (.slice Ao19 x113000_1.length co19) x113000_1) ∧ (w'.heap[gb101]? = some (.cells #[.slice none 0 0, .int .i64 0, .int .i64 0, .int .i64 0] 32 (0, 0))) ∧ (w'.heap[gb112]? = some (.cells #[.slice Ao19 x113000_1.length co19, .int .i64 x113001_1, .int .i64 x113002_1, .int .i64 x113003_1] 32 (0, 0))) ∧ (w'.heap[s_.2]? = some (.cells #[.slice none 0 0, .int .i64 0, .int .i64 0, .int .i64 0] 32 (0, 0))) ∧ (w.heap.size ≤ s_.2) ∧ (w.heap.size ≤ s_.2) ∧ (g104 ≠ s_.2) ∧ (s_.2 ≠ g104) ∧ (gb101 ≠ s_.2) ∧ (s_.2 ≠ gb101) ∧ (gb112 ≠ s_.2) ∧ (s_.2 ≠ gb112) ∧ (IsS123 w w' g104 t102 t118) ∧ (Below w.heap.size w w')) ?_ ?_
       rotate_left
       ·intro hJ11_14_17_23
        refine join_ (σ := Value) 7 bq119 (fun s_ => [(30, .int .i64 t115), (33, .int .i64 t117), (36, s_), (31, .int .i64 (wrap64 (Int.tdiv t115 4))), (34, .int .i64 (wrap64 (1 + t117))), (35, .agg #[.int .i64 x113001_1, .int .i64 (wrap64 (Int.tdiv t115 4)), .string (⟨#[97]⟩ : ByteArray), .string (⟨#[98]⟩ : ByteArray), .int .i64 (wrap64 (1 + t117))]), (37, .agg #[s_, .slice none 0 0, .int .i64 (wrap64 (x113001_1 + 1)), .int .i64 x113002_1, .int .i64 x113003_1])]) (fun s_ w' => (w'.cell? ⟨gb112, 0, none⟩ = some (.slice Ao19 x113000_1.length co19) ∧ w'.cell? ⟨gb112, 1, none⟩ = some (.int .i64 x113001_1) ∧ w'.cell? ⟨gb112, 2, none⟩ = some (.int .i64 x113002_1) ∧ w'.cell? ⟨gb112, 3, none⟩ = some (.int .i64 x113003_1)) ∧ (Kd.R k66 66 w' w.heap.size (fun k_ => some k_ ≠ (.slice Ao19 x113000_1.length co19 : Value).ownBlock) s_ y119) ∧ (Kd.R k66 66 w' w.heap.size (fun k_ => some k_ ≠ (s_ : Value).ownBlock) (.slice Ao19 x113000_1.length co19) x113000_1) ∧ (w'.heap[gb101]? = some (.cells #[.slice none 0 0, .int .i64 0, .int .i64 0, .int .i64 0] 32 (0, 0))) ∧ (w'.heap[gb112]? = some (.cells #[.slice Ao19 x113000_1.length co19, .int .i64 x113001_1, .int .i64 x113002_1, .int .i64 x113003_1] 32 (0, 0))) ∧ (IsS123 w w' g104 t102 t118) ∧ (Below w.heap.size w w')) ?_ ?_
        rotate_left
        ·intro hJ11_14_17
         refine join_ (σ := Nat) 8 bq113 (fun s_ => [(30, .int .i64 t115), (33, .int .i64 t117), (6, .pointer (some ⟨s_, 0, none⟩)), (31, .int .i64 (wrap64 (Int.tdiv t115 4))), (34, .int .i64 (wrap64 (1 + t117))), (35, .agg #[.int .i64 x113001_1, .int .i64 (wrap64 (Int.tdiv t115 4)), .string (⟨#[97]⟩ : ByteArray), .string (⟨#[98]⟩ : ByteArray), .int .i64 (wrap64 (1 + t117))])]) (fun s_ w' => (w'.cell? ⟨gb112, 0, none⟩ = some (.slice Ao19 x113000_1.length co19) ∧ w'.cell? ⟨gb112, 1, none⟩ = some (.int .i64 x113001_1) ∧ w'.cell? ⟨gb112, 2, none⟩ = some (.int .i64 x113002_1) ∧ w'.cell? ⟨gb112, 3, none⟩ = some (.int .i64 x113003_1)) ∧ (Kd.R k66 66 w' w.heap.size (fun _ => True) (.slice Ao19 x113000_1.length co19) x113000_1) ∧ (w'.heap[gb101]? = some (.cells #[.slice none 0 0, .int .i64 0, .int .i64 0, .int .i64 0] 32 (0, 0))) ∧ (w'.heap[gb112]? = some (.cells #[.slice Ao19 x113000_1.length co19, .int .i64 x113001_1, .int .i64 x113002_1, .int .i64 x113003_1] 32 (0, 0))) ∧ (w'.heap[s_]? = some (.cells #[.slice none 0 0, .int .i64 0, .int .i64 0, .int .i64 0] 32 (0, 0))) ∧ (w.heap.size ≤ s_) ∧ (w.heap.size ≤ s_) ∧ (g104 ≠ s_) ∧ (s_ ≠ g104) ∧ (gb101 ≠ s_) ∧ (s_ ≠ gb101) ∧ (gb112 ≠ s_) ∧ (s_ ≠ gb112) ∧ (IsS123 w w' g104 t102 t118) ∧ (Below w.heap.size w w')) ?_ ?_
         rotate_left
         ·intro hJ11_14_23
          refine join_ (σ := Unit) 9 bq112 (fun s_ => [(30, .int .i64 t115), (33, .int .i64 t117), (31, .int .i64 (wrap64 (Int.tdiv t115 4))), (34, .int .i64 (wrap64 (1 + t117))), (35, .agg #[.int .i64 x113001_1, .int .i64 (wrap64 (Int.tdiv t115 4)), .string (⟨#[97]⟩ : ByteArray), .string (⟨#[98]⟩ : ByteArray), .int .i64 (wrap64 (1 + t117))])]) (fun s_ w' => (w'.cell? ⟨gb112, 0, none⟩ = some (.slice Ao19 x113000_1.length co19) ∧ w'.cell? ⟨gb112, 1, none⟩ = some (.int .i64 x113001_1) ∧ w'.cell? ⟨gb112, 2, none⟩ = some (.int .i64 x113002_1) ∧ w'.cell? ⟨gb112, 3, none⟩ = some (.int .i64 x113003_1)) ∧ (Kd.R k66 66 w' w.heap.size (fun _ => True) (.slice Ao19 x113000_1.length co19) x113000_1) ∧ (w'.heap[gb101]? = some (.cells #[.slice none 0 0, .int .i64 0, .int .i64 0, .int .i64 0] 32 (0, 0))) ∧ (w'.heap[gb112]? = some (.cells #[.slice Ao19 x113000_1.length co19, .int .i64 x113001_1, .int .i64 x113002_1, .int .i64 x113003_1] 32 (0, 0))) ∧ (IsS123 w w' g104 t102 t118) ∧ (Below w.heap.size w w')) ?_ ?_
          rotate_left
          ·intro hJ11_14
           refine join_ (σ := Nat) 11 bq98 (fun s_ => [(30, .int .i64 t115), (6, .pointer (some ⟨s_, 0, none⟩)), (31, .int .i64 (wrap64 (Int.tdiv t115 4)))]) (fun s_ w' => (w'.cell? ⟨gb112, 0, none⟩ = some (.slice Ao19 x113000_1.length co19) ∧ w'.cell? ⟨gb112, 1, none⟩ = some (.int .i64 x113001_1) ∧ w'.cell? ⟨gb112, 2, none⟩ = some (.int .i64 x113002_1) ∧ w'.cell? ⟨gb112, 3, none⟩ = some (.int .i64 x113003_1)) ∧ (Kd.R k66 66 w' w.heap.size (fun _ => True) (.slice Ao19 x113000_1.length co19) x113000_1) ∧ (w'.heap[gb101]? = some (.cells #[.slice none 0 0, .int .i64 0, .int .i64 0, .int .i64 0] 32 (0, 0))) ∧ (w'.heap[gb112]? = some (.cells #[.slice Ao19 x113000_1.length co19, .int .i64 x113001_1, .int .i64 x113002_1, .int .i64 x113003_1] 32 (0, 0))) ∧ (w'.heap[s_]? = some (.cells #[.slice none 0 0, .int .i64 0, .int .i64 0, .int .i64 0] 32 (0, 0))) ∧ (w.heap.size ≤ s_) ∧ (w.heap.size ≤ s_) ∧ (g104 ≠ s_) ∧ (s_ ≠ g104) ∧ (gb101 ≠ s_) ∧ (s_ ≠ gb101) ∧ (gb112 ≠ s_) ∧ (s_ ≠ gb112) ∧ (IsS123 w w' g104 t102 t116) ∧ (Below w.heap.size w w')) ?_ ?_
           rotate_left
           ·intro hJ11_23
            refine join_ (σ := Unit) 12 bq97 (fun s_ => [(30, .int .i64 t115), (31, .int .i64 (wrap64 (Int.tdiv t115 4)))]) (fun s_ w' => (w'.cell? ⟨gb112, 0, none⟩ = some (.slice Ao19 x113000_1.length co19) ∧ w'.cell? ⟨gb112, 1, none⟩ = some (.int .i64 x113001_1) ∧ w'.cell? ⟨gb112, 2, none⟩ = some (.int .i64 x113002_1) ∧ w'.cell? ⟨gb112, 3, none⟩ = some (.int .i64 x113003_1)) ∧ (Kd.R k66 66 w' w.heap.size (fun _ => True) (.slice Ao19 x113000_1.length co19) x113000_1) ∧ (w'.heap[gb101]? = some (.cells #[.slice none 0 0, .int .i64 0, .int .i64 0, .int .i64 0] 32 (0, 0))) ∧ (w'.heap[gb112]? = some (.cells #[.slice Ao19 x113000_1.length co19, .int .i64 x113001_1, .int .i64 x113002_1, .int .i64 x113003_1] 32 (0, 0))) ∧ (IsS123 w w' g104 t102 t116) ∧ (Below w.heap.size w w')) ?_ ?_
            rotate_left
            ·intro hJ11
             refine join_ (σ := Nat) 13 bq86 (fun s_ => [(6, .pointer (some ⟨s_, 0, none⟩))]) (fun s_ w' => (w'.cell? ⟨gb112, 0, none⟩ = some (.slice Ao19 x113000_1.length co19) ∧ w'.cell? ⟨gb112, 1, none⟩ = some (.int .i64 x113001_1) ∧ w'.cell? ⟨gb112, 2, none⟩ = some (.int .i64 x113002_1) ∧ w'.cell? ⟨gb112, 3, none⟩ = some (.int .i64 x113003_1)) ∧ (Kd.R k66 66 w' w.heap.size (fun _ => True) (.slice Ao19 x113000_1.length co19) x113000_1) ∧ (w'.heap[gb101]? = some (.cells #[.slice none 0 0, .int .i64 0, .int .i64 0, .int .i64 0] 32 (0, 0))) ∧ (w'.heap[gb112]? = some (.cells #[.slice Ao19 x113000_1.length co19, .int .i64 x113001_1, .int .i64 x113002_1, .int .i64 x113003_1] 32 (0, 0))) ∧ (w'.heap[s_]? = some (.cells #[.slice none 0 0, .int .i64 0, .int .i64 0, .int .i64 0] 32 (0, 0))) ∧ (w.heap.size ≤ s_) ∧ (w.heap.size ≤ s_) ∧ (g104 ≠ s_) ∧ (s_ ≠ g104) ∧ (gb101 ≠ s_) ∧ (s_ ≠ gb101) ∧ (gb112 ≠ s_) ∧ (s_ ≠ gb112) ∧ (IsS123 w w' g104 t102 x105001_1) ∧ (Below w.heap.size w w')) ?_ ?_
             rotate_left
             ·intro hJ23
              refine two_ (i := 11) (j := 23) (Ni := some 30) (Nj := some 6) bq90 bq86 rfl rfl rfl rfl (two_of HT_.out (by kernel_rfl)) (by decide) (by decide) (fun K hK => ?_) (fun K hK => ?_)
              ·skip
               refine goes_ Try.func80 (by kernel_rfl) rfl #[.pointer (some ⟨g104, 0, none⟩), .int .i64 5] (by rfl) rfl rfl yq119 ?_
               with_reducible refine (spec_l1Rd_below.calls g104 t102 x105001_1 5 t115 t116 w _ ?side1 ?side2 A15.out).mono ?_
               (case side1 => exact yq110)
               (case side2 => exact yq107)
               rintro e w21 ⟨rfl, hi, hb, hk⟩
               refine ⟨_, rfl, ?_⟩
               replace HO_113000 := Qz.mk (Kd.R_mono (Kd.R_keep (IsS123.apart (show IsS123 w _ g104 t102 x105001_1 from by repeat (first | (with_reducible first | exact HI104.out | apply IsS123.alloc | apply IsS123.drewN | apply IsS123.drew | apply IsS123.set_1 | apply (fun h_ => IsS123.far h_ NB104_101.out _) | apply (fun h_ => IsS123.far h_ NB104_112.out _)) | exact HI104.out)) yq112 (by decide)) hk (fun _ h => h.2)) (fun _ h => h.1))
               replace BK101 := Qz.mk (KeepBut.blk hk (g' := gb101) (o := .cells #[.slice none 0 0, .int .i64 0, .int .i64 0, .int .i64 0] 32 (0, 0)) yq108 NB101_104.out (by simp))
               replace BK112 := Qz.mk (KeepBut.blk hk (g' := gb112) (o := .cells #[.slice Ao19 x113000_1.length co19, .int .i64 x113001_1, .int .i64 x113002_1, .int .i64 x113003_1] 32 (0, 0)) yq109 NB112_104.out (by simp))
               replace HB := Qz.mk (hb)
               replace HI104 := Qz.mk (hi)
               (try clear hb)
               (try clear hb2)
               (try clear hk)
               (try clear hi)
               refine hK.out _ _ ⟨(qd BK112.out 0).trans rfl, (qd BK112.out 1).trans rfl, (qd BK112.out 2).trans rfl, (qd BK112.out 3).trans rfl⟩ (fun hHeld => ?_)
               clear hK K
               refine norm_ (a' := ?_) ?_ ?_
               rotate_left
               ·show Act.put _ (some 30) _ = _
                simp only [Act.put, sq1, sq2, sq3, i64_w, i32_w]
                rfl
               refine pure_ (i := 12) (N := some 31) (v := ?_) (a' := ?_) bq97 rfl rfl (qo HT_.out (by kernel_rfl)) (fun _ _ _ h => h) (Or.inl ⟨by rfl, ?_⟩) ?_ ?_
               rotate_left
               ·intro w'
                go_simp
                with_reducible rfl
               rotate_left
               ·simp only [Act.put, sq1, sq2, sq3, i64_w, i32_w]
                rfl
               exact norm_ yq113 (hJ11 () _ ⟨hHeld, yq112, yq108, yq109, yq110, yq107⟩)
              ·skip
               refine box_step ?hg (N := 6) ?hd (cs := #[.slice none 0 0, .int .i64 0, .int .i64 0, .int .i64 0]) (t := 32) ?hr ?_; (case hd => rfl); (case hg => rfl); (case hr => exact yq124)
               intro gb129 hg w21 hbox hb
               replace HO_113000 := Qz.mk (Kd.R_below yq112 hb)
               have BK129 := Qz.mk (hbox)
               have GW129 := Qz.mk ((by rw [hg]; exact (qz yq107) : w.heap.size ≤ gb129))
               have GE129 := GW129
               replace HB := Qz.mk (qq yq107 hb)
               have NB101_129 := Qz.mk ((yq116 : gb101 ≠ gb129))
               have NB129_101 := Qz.mk ((yq117 : gb129 ≠ gb101))
               replace BK101 := Qz.mk (qp (g := gb101) (o := .cells #[.slice none 0 0, .int .i64 0, .int .i64 0, .int .i64 0] 32 (0, 0)) yq108 hb)
               have NB112_129 := Qz.mk ((yq121 : gb112 ≠ gb129))
               have NB129_112 := Qz.mk ((yq123 : gb129 ≠ gb112))
               replace BK112 := Qz.mk (qp (g := gb112) (o := .cells #[.slice Ao19 x113000_1.length co19, .int .i64 x113001_1, .int .i64 x113002_1, .int .i64 x113003_1] 32 (0, 0)) yq109 hb)
               have NB104_129 := Qz.mk ((by rw [hg]; exact Nat.ne_of_lt (IsS123.lt (show IsS123 w _ g104 t102 x105001_1 from by repeat (first | (with_reducible first | exact HI104.out | apply IsS123.alloc | apply IsS123.drewN | apply IsS123.drew | apply IsS123.set_1 | apply (fun h_ => IsS123.far h_ NB104_101.out _) | apply (fun h_ => IsS123.far h_ NB104_112.out _)) | exact HI104.out))) : g104 ≠ gb129))
               have NB129_104 := Qz.mk ((by rw [hg]; exact Nat.ne_of_gt (IsS123.lt (show IsS123 w _ g104 t102 x105001_1 from by repeat (first | (with_reducible first | exact HI104.out | apply IsS123.alloc | apply IsS123.drewN | apply IsS123.drew | apply IsS123.set_1 | apply (fun h_ => IsS123.far h_ NB104_101.out _) | apply (fun h_ => IsS123.far h_ NB104_112.out _)) | exact HI104.out))) : gb129 ≠ g104))
               replace HI104 := Qz.mk (IsS123.below yq110 hb)
               clear hb hbox hg
               refine hK.out _ _ ⟨(qd BK112.out 0).trans rfl, (qd BK112.out 1).trans rfl, (qd BK112.out 2).trans rfl, (qd BK112.out 3).trans rfl⟩ (fun hHeld => ?_)
               clear hK K
               refine norm_ (a' := ?_) ?_ ?_
               rotate_left
               ·show Act.put _ (some 6) _ = _
                simp only [Act.put, sq1, sq2, sq3, i64_w, i32_w]
                rfl
               exact norm_ yq113 (hJ23 (gb129) _ ⟨hHeld, yq112, yq108, yq109, yq114, GW129.out, GE129.out, NB104_129.out, NB129_104.out, NB101_129.out, NB129_101.out, NB112_129.out, NB129_112.out, yq106, yq111⟩)
             ·skip
              rintro gb129 w22 ⟨hS_, h0_, h1_, h2_, h3_, h4_, h5_, h6_, h7_, h8_, h9_, h10_, h11_, h12_, h13_⟩
              have n0_ : Qz (Kd.R k66 66 w22 w.heap.size (fun _ => True) (.slice Ao19 x113000_1.length co19) x113000_1) := ⟨h0_⟩
              have n1_ : Qz (w22.heap[gb101]? = some (.cells #[.slice none 0 0, .int .i64 0, .int .i64 0, .int .i64 0] 32 (0, 0))) := ⟨h1_⟩
              have n2_ : Qz (w22.heap[gb112]? = some (.cells #[.slice Ao19 x113000_1.length co19, .int .i64 x113001_1, .int .i64 x113002_1, .int .i64 x113003_1] 32 (0, 0))) := ⟨h2_⟩
              have n3_ : Qz (w22.heap[gb129]? = some (.cells #[.slice none 0 0, .int .i64 0, .int .i64 0, .int .i64 0] 32 (0, 0))) := ⟨h3_⟩
              have n4_ : Qz (w.heap.size ≤ gb129) := ⟨h4_⟩
              have n5_ : Qz (w.heap.size ≤ gb129) := ⟨h5_⟩
              have n6_ : Qz (g104 ≠ gb129) := ⟨h6_⟩
              have n7_ : Qz (gb129 ≠ g104) := ⟨h7_⟩
              have n8_ : Qz (gb101 ≠ gb129) := ⟨h8_⟩
              have n9_ : Qz (gb129 ≠ gb101) := ⟨h9_⟩
              have n10_ : Qz (gb112 ≠ gb129) := ⟨h10_⟩
              have n11_ : Qz (gb129 ≠ gb112) := ⟨h11_⟩
              have n12_ : Qz (IsS123 w w22 g104 t102 x105001_1) := ⟨h12_⟩
              have n13_ : Qz (Below w.heap.size w w22) := ⟨h13_⟩
              clear HO_113000
              clear BK101
              clear BK112
              clear HI104
              clear HB
              clear h0_ h1_ h2_ h3_ h4_ h5_ h6_ h7_ h8_ h9_ h10_ h11_ h12_ h13_
              have HO_113000 := n0_
              have BK101 := n1_
              have BK112 := n2_
              have BK129 := n3_
              have GW129 := n4_
              have GE129 := n5_
              have NB104_129 := n6_
              have NB129_104 := n7_
              have NB101_129 := n8_
              have NB129_101 := n9_
              have NB112_129 := n10_
              have NB129_112 := n11_
              have HI104 := n12_
              have HB := n13_
              clear n0_ n1_ n2_ n3_ n4_ n5_ n6_ n7_ n8_ n9_ n10_ n11_ n12_ n13_
              have hHeld : w22.cell? ⟨gb112, 0, none⟩ = some (.slice Ao19 x113000_1.length co19) ∧ w22.cell? ⟨gb112, 1, none⟩ = some (.int .i64 x113001_1) ∧ w22.cell? ⟨gb112, 2, none⟩ = some (.int .i64 x113002_1) ∧ w22.cell? ⟨gb112, 3, none⟩ = some (.int .i64 x113003_1) := hS_
              refine norm_ (a' := ?_) ?_ ?_
              rotate_left
              ·simp only [putAll, Act.put, sq1, sq2, sq3]
               rfl
              refine one_ (i := 11) (N := some 30) bq91 rfl rfl (one_of HT_.out (by kernel_rfl)) (by decide) (fun K hK => ?_)
              refine goes_ Try.func80 (by kernel_rfl) rfl #[.pointer (some ⟨g104, 0, none⟩), .int .i64 5] (by rfl) rfl rfl yq119 ?_
              with_reducible refine (spec_l1Rd_below.calls g104 t102 x105001_1 5 t115 t116 w _ ?side1 ?side2 A15.out).mono ?_
              (case side1 => exact yq106)
              (case side2 => exact yq111)
              rintro e w23 ⟨rfl, hi, hb, hk⟩
              refine ⟨_, rfl, ?_⟩
              replace HO_113000 := Qz.mk (Kd.R_mono (Kd.R_keep (IsS123.apart (show IsS123 w _ g104 t102 x105001_1 from by repeat (first | (with_reducible first | exact HI104.out | apply IsS123.alloc | apply IsS123.drewN | apply IsS123.drew | apply IsS123.set_1 | apply (fun h_ => IsS123.far h_ NB104_101.out _) | apply (fun h_ => IsS123.far h_ NB104_112.out _) | apply (fun h_ => IsS123.far h_ NB104_129.out _)) | exact HI104.out)) yq112 (by decide)) hk (fun _ h => h.2)) (fun _ h => h.1))
              replace BK101 := Qz.mk (KeepBut.blk hk (g' := gb101) (o := .cells #[.slice none 0 0, .int .i64 0, .int .i64 0, .int .i64 0] 32 (0, 0)) yq108 NB101_104.out (by simp))
              replace BK112 := Qz.mk (KeepBut.blk hk (g' := gb112) (o := .cells #[.slice Ao19 x113000_1.length co19, .int .i64 x113001_1, .int .i64 x113002_1, .int .i64 x113003_1] 32 (0, 0)) yq109 NB112_104.out (by simp))
              replace BK129 := Qz.mk (KeepBut.blk hk (g' := gb129) (o := .cells #[.slice none 0 0, .int .i64 0, .int .i64 0, .int .i64 0] 32 (0, 0)) yq114 NB129_104.out (by simp))
              replace HB := Qz.mk (hb)
              replace HI104 := Qz.mk (hi)
              (try clear hb)
              (try clear hb2)
              (try clear hk)
              (try clear hi)
              refine hK.out _ _ ⟨(qd BK112.out 0).trans rfl, (qd BK112.out 1).trans rfl, (qd BK112.out 2).trans rfl, (qd BK112.out 3).trans rfl⟩ (fun hHeld => ?_)
              clear hK K
              refine norm_ (a' := ?_) ?_ ?_
              rotate_left
              ·show Act.put _ (some 30) _ = _
               simp only [Act.put, sq1, sq2, sq3, i64_w, i32_w]
               rfl
              refine pure_ (i := 12) (N := some 31) (v := ?_) (a' := ?_) bq98 rfl rfl (qo HT_.out (by kernel_rfl)) (fun _ _ _ h => h) (Or.inl ⟨by rfl, ?_⟩) ?_ ?_
              rotate_left
              ·intro w'
               go_simp
               with_reducible rfl
              rotate_left
              ·simp only [Act.put, sq1, sq2, sq3, i64_w, i32_w]
               rfl
              exact norm_ yq113 (hJ11_23 (gb129) _ ⟨hHeld, yq112, yq108, yq109, yq114, GW129.out, GE129.out, NB104_129.out, NB129_104.out, NB101_129.out, NB129_101.out, NB112_129.out, NB129_112.out, yq106, yq111⟩)
            ·skip
             rintro _ w22 ⟨hS_, h0_, h1_, h2_, h3_, h4_⟩
             have n0_ : Qz (Kd.R k66 66 w22 w.heap.size (fun _ => True) (.slice Ao19 x113000_1.length co19) x113000_1) := ⟨h0_⟩
             have n1_ : Qz (w22.heap[gb101]? = some (.cells #[.slice none 0 0, .int .i64 0, .int .i64 0, .int .i64 0] 32 (0, 0))) := ⟨h1_⟩
             have n2_ : Qz (w22.heap[gb112]? = some (.cells #[.slice Ao19 x113000_1.length co19, .int .i64 x113001_1, .int .i64 x113002_1, .int .i64 x113003_1] 32 (0, 0))) := ⟨h2_⟩
             have n3_ : Qz (IsS123 w w22 g104 t102 t116) := ⟨h3_⟩
             have n4_ : Qz (Below w.heap.size w w22) := ⟨h4_⟩
             clear HO_113000
             clear BK101
             clear BK112
             clear HI104
             clear HB
             clear h0_ h1_ h2_ h3_ h4_
             have HO_113000 := n0_
             have BK101 := n1_
             have BK112 := n2_
             have HI104 := n3_
             have HB := n4_
             clear n0_ n1_ n2_ n3_ n4_
             have hHeld : w22.cell? ⟨gb112, 0, none⟩ = some (.slice Ao19 x113000_1.length co19) ∧ w22.cell? ⟨gb112, 1, none⟩ = some (.int .i64 x113001_1) ∧ w22.cell? ⟨gb112, 2, none⟩ = some (.int .i64 x113002_1) ∧ w22.cell? ⟨gb112, 3, none⟩ = some (.int .i64 x113003_1) := hS_
             refine norm_ (a' := ?_) ?_ ?_
             rotate_left
             ·simp only [putAll, Act.put, sq1, sq2, sq3]
              rfl
             refine two_ (i := 14) (j := 23) (Ni := some 33) (Nj := some 6) bq103 bq98 rfl rfl rfl rfl (two_of HT_.out (by kernel_rfl)) (by decide) (by decide) (fun K hK => ?_) (fun K hK => ?_)
             ·skip
              refine goes_ Try.func80 (by kernel_rfl) rfl #[.pointer (some ⟨g104, 0, none⟩), .int .i64 40] (by rfl) rfl rfl yq119 ?_
              with_reducible refine (spec_l1Rd_below.calls g104 t102 t116 40 t117 t118 w _ ?side1 ?side2 A16.out).mono ?_
              (case side1 => exact yq110)
              (case side2 => exact yq107)
              rintro e w23 ⟨rfl, hi, hb, hk⟩
              refine ⟨_, rfl, ?_⟩
              replace HO_113000 := Qz.mk (Kd.R_mono (Kd.R_keep (IsS123.apart (show IsS123 w _ g104 t102 t116 from by repeat (first | (with_reducible first | exact HI104.out | apply IsS123.alloc | apply IsS123.drewN | apply IsS123.drew | apply IsS123.set_1 | apply (fun h_ => IsS123.far h_ NB104_101.out _) | apply (fun h_ => IsS123.far h_ NB104_112.out _)) | exact HI104.out)) yq112 (by decide)) hk (fun _ h => h.2)) (fun _ h => h.1))
              replace BK101 := Qz.mk (KeepBut.blk hk (g' := gb101) (o := .cells #[.slice none 0 0, .int .i64 0, .int .i64 0, .int .i64 0] 32 (0, 0)) yq108 NB101_104.out (by simp))
              replace BK112 := Qz.mk (KeepBut.blk hk (g' := gb112) (o := .cells #[.slice Ao19 x113000_1.length co19, .int .i64 x113001_1, .int .i64 x113002_1, .int .i64 x113003_1] 32 (0, 0)) yq109 NB112_104.out (by simp))
              replace HB := Qz.mk (hb)
              replace HI104 := Qz.mk (hi)
              (try clear hb)
              (try clear hb2)
              (try clear hk)
              (try clear hi)
              refine hK.out _ _ ⟨(qd BK112.out 0).trans rfl, (qd BK112.out 1).trans rfl, (qd BK112.out 2).trans rfl, (qd BK112.out 3).trans rfl⟩ (fun hHeld => ?_)
              clear hK K
              refine norm_ (a' := ?_) ?_ ?_
              rotate_left
              ·show Act.put _ (some 33) _ = _
               simp only [Act.put, sq1, sq2, sq3, i64_w, i32_w]
               rfl
              refine pure_ (i := 15) (N := some 34) (v := ?_) (a' := ?_) bq108 rfl rfl (qo HT_.out (by kernel_rfl)) (fun _ _ _ h => h) (Or.inl ⟨by rfl, ?_⟩) ?_ ?_
              rotate_left
              ·intro w'
               go_simp
               with_reducible rfl
              rotate_left
              ·simp only [Act.put, sq1, sq2, sq3, i64_w, i32_w]
               rfl
              refine pure_ (i := 16) (N := some 35) (v := ?_) (a' := ?_) bq112 rfl rfl (qo HT_.out (by kernel_rfl)) (fun _ _ _ h => h) (Or.inl ⟨by rfl, ?_⟩) ?_ ?_
              rotate_left
              ·intro w'
               go_simp
               with_reducible rfl
              rotate_left
              ·simp only [Act.put, sq1, sq2, sq3, i64_w, i32_w]
               rfl
              exact norm_ yq113 (hJ11_14 () _ ⟨hHeld, yq112, yq108, yq109, yq110, yq107⟩)
             ·skip
              refine box_step ?hg (N := 6) ?hd (cs := #[.slice none 0 0, .int .i64 0, .int .i64 0, .int .i64 0]) (t := 32) ?hr ?_; (case hd => rfl); (case hg => rfl); (case hr => exact yq124)
              intro gb129 hg w23 hbox hb
              replace HO_113000 := Qz.mk (Kd.R_below yq112 hb)
              have BK129 := Qz.mk (hbox)
              have GW129 := Qz.mk ((by rw [hg]; exact (qz yq107) : w.heap.size ≤ gb129))
              have GE129 := GW129
              replace HB := Qz.mk (qq yq107 hb)
              have NB101_129 := Qz.mk ((yq116 : gb101 ≠ gb129))
              have NB129_101 := Qz.mk ((yq117 : gb129 ≠ gb101))
              replace BK101 := Qz.mk (qp (g := gb101) (o := .cells #[.slice none 0 0, .int .i64 0, .int .i64 0, .int .i64 0] 32 (0, 0)) yq108 hb)
              have NB112_129 := Qz.mk ((yq121 : gb112 ≠ gb129))
              have NB129_112 := Qz.mk ((yq123 : gb129 ≠ gb112))
              replace BK112 := Qz.mk (qp (g := gb112) (o := .cells #[.slice Ao19 x113000_1.length co19, .int .i64 x113001_1, .int .i64 x113002_1, .int .i64 x113003_1] 32 (0, 0)) yq109 hb)
              have NB104_129 := Qz.mk ((by rw [hg]; exact Nat.ne_of_lt (IsS123.lt (show IsS123 w _ g104 t102 t116 from by repeat (first | (with_reducible first | exact HI104.out | apply IsS123.alloc | apply IsS123.drewN | apply IsS123.drew | apply IsS123.set_1 | apply (fun h_ => IsS123.far h_ NB104_101.out _) | apply (fun h_ => IsS123.far h_ NB104_112.out _)) | exact HI104.out))) : g104 ≠ gb129))
              have NB129_104 := Qz.mk ((by rw [hg]; exact Nat.ne_of_gt (IsS123.lt (show IsS123 w _ g104 t102 t116 from by repeat (first | (with_reducible first | exact HI104.out | apply IsS123.alloc | apply IsS123.drewN | apply IsS123.drew | apply IsS123.set_1 | apply (fun h_ => IsS123.far h_ NB104_101.out _) | apply (fun h_ => IsS123.far h_ NB104_112.out _)) | exact HI104.out))) : gb129 ≠ g104))
              replace HI104 := Qz.mk (IsS123.below yq110 hb)
              clear hb hbox hg
              refine hK.out _ _ ⟨(qd BK112.out 0).trans rfl, (qd BK112.out 1).trans rfl, (qd BK112.out 2).trans rfl, (qd BK112.out 3).trans rfl⟩ (fun hHeld => ?_)
              clear hK K
              refine norm_ (a' := ?_) ?_ ?_
              rotate_left
              ·show Act.put _ (some 6) _ = _
               simp only [Act.put, sq1, sq2, sq3, i64_w, i32_w]
               rfl
              exact norm_ yq113 (hJ11_23 (gb129) _ ⟨hHeld, yq112, yq108, yq109, yq114, GW129.out, GE129.out, NB104_129.out, NB129_104.out, NB101_129.out, NB129_101.out, NB112_129.out, NB129_112.out, yq106, yq111⟩)
           ·skip
            rintro gb129 w23 ⟨hS_, h0_, h1_, h2_, h3_, h4_, h5_, h6_, h7_, h8_, h9_, h10_, h11_, h12_, h13_⟩
            have n0_ : Qz (Kd.R k66 66 w23 w.heap.size (fun _ => True) (.slice Ao19 x113000_1.length co19) x113000_1) := ⟨h0_⟩
            have n1_ : Qz (w23.heap[gb101]? = some (.cells #[.slice none 0 0, .int .i64 0, .int .i64 0, .int .i64 0] 32 (0, 0))) := ⟨h1_⟩
            have n2_ : Qz (w23.heap[gb112]? = some (.cells #[.slice Ao19 x113000_1.length co19, .int .i64 x113001_1, .int .i64 x113002_1, .int .i64 x113003_1] 32 (0, 0))) := ⟨h2_⟩
            have n3_ : Qz (w23.heap[gb129]? = some (.cells #[.slice none 0 0, .int .i64 0, .int .i64 0, .int .i64 0] 32 (0, 0))) := ⟨h3_⟩
            have n4_ : Qz (w.heap.size ≤ gb129) := ⟨h4_⟩
            have n5_ : Qz (w.heap.size ≤ gb129) := ⟨h5_⟩
            have n6_ : Qz (g104 ≠ gb129) := ⟨h6_⟩
            have n7_ : Qz (gb129 ≠ g104) := ⟨h7_⟩
            have n8_ : Qz (gb101 ≠ gb129) := ⟨h8_⟩
            have n9_ : Qz (gb129 ≠ gb101) := ⟨h9_⟩
            have n10_ : Qz (gb112 ≠ gb129) := ⟨h10_⟩
            have n11_ : Qz (gb129 ≠ gb112) := ⟨h11_⟩
            have n12_ : Qz (IsS123 w w23 g104 t102 t116) := ⟨h12_⟩
            have n13_ : Qz (Below w.heap.size w w23) := ⟨h13_⟩
            clear HO_113000
            clear BK101
            clear BK112
            clear HI104
            clear HB
            clear h0_ h1_ h2_ h3_ h4_ h5_ h6_ h7_ h8_ h9_ h10_ h11_ h12_ h13_
            have HO_113000 := n0_
            have BK101 := n1_
            have BK112 := n2_
            have BK129 := n3_
            have GW129 := n4_
            have GE129 := n5_
            have NB104_129 := n6_
            have NB129_104 := n7_
            have NB101_129 := n8_
            have NB129_101 := n9_
            have NB112_129 := n10_
            have NB129_112 := n11_
            have HI104 := n12_
            have HB := n13_
            clear n0_ n1_ n2_ n3_ n4_ n5_ n6_ n7_ n8_ n9_ n10_ n11_ n12_ n13_
            have hHeld : w23.cell? ⟨gb112, 0, none⟩ = some (.slice Ao19 x113000_1.length co19) ∧ w23.cell? ⟨gb112, 1, none⟩ = some (.int .i64 x113001_1) ∧ w23.cell? ⟨gb112, 2, none⟩ = some (.int .i64 x113002_1) ∧ w23.cell? ⟨gb112, 3, none⟩ = some (.int .i64 x113003_1) := hS_
            refine norm_ (a' := ?_) ?_ ?_
            rotate_left
            ·simp only [putAll, Act.put, sq1, sq2, sq3]
             rfl
            refine one_ (i := 14) (N := some 33) bq104 rfl rfl (one_of HT_.out (by kernel_rfl)) (by decide) (fun K hK => ?_)
            refine goes_ Try.func80 (by kernel_rfl) rfl #[.pointer (some ⟨g104, 0, none⟩), .int .i64 40] (by rfl) rfl rfl yq119 ?_
            with_reducible refine (spec_l1Rd_below.calls g104 t102 t116 40 t117 t118 w _ ?side1 ?side2 A16.out).mono ?_
            (case side1 => exact yq106)
            (case side2 => exact yq111)
            rintro e w24 ⟨rfl, hi, hb, hk⟩
            refine ⟨_, rfl, ?_⟩
            replace HO_113000 := Qz.mk (Kd.R_mono (Kd.R_keep (IsS123.apart (show IsS123 w _ g104 t102 t116 from by repeat (first | (with_reducible first | exact HI104.out | apply IsS123.alloc | apply IsS123.drewN | apply IsS123.drew | apply IsS123.set_1 | apply (fun h_ => IsS123.far h_ NB104_101.out _) | apply (fun h_ => IsS123.far h_ NB104_112.out _) | apply (fun h_ => IsS123.far h_ NB104_129.out _)) | exact HI104.out)) yq112 (by decide)) hk (fun _ h => h.2)) (fun _ h => h.1))
            replace BK101 := Qz.mk (KeepBut.blk hk (g' := gb101) (o := .cells #[.slice none 0 0, .int .i64 0, .int .i64 0, .int .i64 0] 32 (0, 0)) yq108 NB101_104.out (by simp))
            replace BK112 := Qz.mk (KeepBut.blk hk (g' := gb112) (o := .cells #[.slice Ao19 x113000_1.length co19, .int .i64 x113001_1, .int .i64 x113002_1, .int .i64 x113003_1] 32 (0, 0)) yq109 NB112_104.out (by simp))
            replace BK129 := Qz.mk (KeepBut.blk hk (g' := gb129) (o := .cells #[.slice none 0 0, .int .i64 0, .int .i64 0, .int .i64 0] 32 (0, 0)) yq114 NB129_104.out (by simp))
            replace HB := Qz.mk (hb)
            replace HI104 := Qz.mk (hi)
            (try clear hb)
            (try clear hb2)
            (try clear hk)
            (try clear hi)
            refine hK.out _ _ ⟨(qd BK112.out 0).trans rfl, (qd BK112.out 1).trans rfl, (qd BK112.out 2).trans rfl, (qd BK112.out 3).trans rfl⟩ (fun hHeld => ?_)
            clear hK K
            refine norm_ (a' := ?_) ?_ ?_
            rotate_left
            ·show Act.put _ (some 33) _ = _
             simp only [Act.put, sq1, sq2, sq3, i64_w, i32_w]
             rfl
            refine pure_ (i := 15) (N := some 34) (v := ?_) (a' := ?_) bq109 rfl rfl (qo HT_.out (by kernel_rfl)) (fun _ _ _ h => h) (Or.inl ⟨by rfl, ?_⟩) ?_ ?_
            rotate_left
            ·intro w'
             go_simp
             with_reducible rfl
            rotate_left
            ·simp only [Act.put, sq1, sq2, sq3, i64_w, i32_w]
             rfl
            refine pure_ (i := 16) (N := some 35) (v := ?_) (a' := ?_) bq113 rfl rfl (qo HT_.out (by kernel_rfl)) (fun _ _ _ h => h) (Or.inl ⟨by rfl, ?_⟩) ?_ ?_
            rotate_left
            ·intro w'
             go_simp
             with_reducible rfl
            rotate_left
            ·simp only [Act.put, sq1, sq2, sq3, i64_w, i32_w]
             rfl
            exact norm_ yq113 (hJ11_14_23 (gb129) _ ⟨hHeld, yq112, yq108, yq109, yq114, GW129.out, GE129.out, NB104_129.out, NB129_104.out, NB101_129.out, NB129_101.out, NB112_129.out, NB129_112.out, yq106, yq111⟩)
          ·skip
           rintro _ w23 ⟨hS_, h0_, h1_, h2_, h3_, h4_⟩
           have n0_ : Qz (Kd.R k66 66 w23 w.heap.size (fun _ => True) (.slice Ao19 x113000_1.length co19) x113000_1) := ⟨h0_⟩
           have n1_ : Qz (w23.heap[gb101]? = some (.cells #[.slice none 0 0, .int .i64 0, .int .i64 0, .int .i64 0] 32 (0, 0))) := ⟨h1_⟩
           have n2_ : Qz (w23.heap[gb112]? = some (.cells #[.slice Ao19 x113000_1.length co19, .int .i64 x113001_1, .int .i64 x113002_1, .int .i64 x113003_1] 32 (0, 0))) := ⟨h2_⟩
           have n3_ : Qz (IsS123 w w23 g104 t102 t118) := ⟨h3_⟩
           have n4_ : Qz (Below w.heap.size w w23) := ⟨h4_⟩
           clear HO_113000
           clear BK101
           clear BK112
           clear HI104
           clear HB
           clear h0_ h1_ h2_ h3_ h4_
           have HO_113000 := n0_
           have BK101 := n1_
           have BK112 := n2_
           have HI104 := n3_
           have HB := n4_
           clear n0_ n1_ n2_ n3_ n4_
           have hHeld : w23.cell? ⟨gb112, 0, none⟩ = some (.slice Ao19 x113000_1.length co19) ∧ w23.cell? ⟨gb112, 1, none⟩ = some (.int .i64 x113001_1) ∧ w23.cell? ⟨gb112, 2, none⟩ = some (.int .i64 x113002_1) ∧ w23.cell? ⟨gb112, 3, none⟩ = some (.int .i64 x113003_1) := hS_
           refine norm_ (a' := ?_) ?_ ?_
           rotate_left
           ·simp only [putAll, Act.put, sq1, sq2, sq3]
            rfl
           refine two_ (i := 17) (j := 23) (Ni := some 36) (Nj := some 6) bq116 bq113 rfl rfl rfl rfl (two_of HT_.out (by kernel_rfl)) (by decide) (by decide) (fun K hK => ?_) (fun K hK => ?_)
           ·skip
            refine Kd.R_lit_step k66 _ 66 ?hg (N := 36) ?hd (xs := ([(⟨x113001_1, wrap64 (Int.tdiv t115 4), (⟨#[97]⟩ : ByteArray), (⟨#[98]⟩ : ByteArray), wrap64 (1 + t117)⟩ : S66)] : List (S66))) (inner := [.int .i64 x113001_1, .int .i64 (wrap64 (Int.tdiv t115 4)), .string (⟨#[97]⟩ : ByteArray), .string (⟨#[98]⟩ : ByteArray), .int .i64 (wrap64 (1 + t117))]) (ok := fun _ => True) (okp := fun _ => True) ?hr ?hp (fun _ hk => hk) trivial (Below.refl _ _) (Nat.le_refl _) (by simp) ?_; (case hd => rfl); (case hg => rfl); (case hr => exact yq124); (case hp => exact (Reps.c5 (show Kd.M k66 _ _ _ (⟨x113001_1, wrap64 (Int.tdiv t115 4), (⟨#[97]⟩ : ByteArray), (⟨#[98]⟩ : ByteArray), wrap64 (1 + t117)⟩ : S66) [.int .i64 x113001_1, .int .i64 (wrap64 (Int.tdiv t115 4)), .string (⟨#[97]⟩ : ByteArray), .string (⟨#[98]⟩ : ByteArray), .int .i64 (wrap64 (1 + t117))] from (k66_mkM _ _ _ (⟨x113001_1, wrap64 (Int.tdiv t115 4), (⟨#[97]⟩ : ByteArray), (⟨#[98]⟩ : ByteArray), wrap64 (1 + t117)⟩ : S66) )) (Reps.none _ _)))
            intro v120 w24 ho25 hb hg_ hnew_
            clear hg_ hnew_
            (first | rw [← Ny119.out] at ho25 | (simp only [Int.reduceToNat] at ho25; rw [← Ny119.out] at ho25))
            have HO121 := Qz.mk (Kd.R_lower (Kd.R_new' ho25 (Kd.R_lt yq112)) (qz yq107))
            replace HO_113000 := Qz.mk (Kd.R_elder' yq112 (Kd.R_base ho25) hb)
            replace BK101 := Qz.mk (qp (g := gb101) (o := .cells #[.slice none 0 0, .int .i64 0, .int .i64 0, .int .i64 0] 32 (0, 0)) yq108 hb)
            replace BK112 := Qz.mk (qp (g := gb112) (o := .cells #[.slice Ao19 x113000_1.length co19, .int .i64 x113001_1, .int .i64 x113002_1, .int .i64 x113003_1] 32 (0, 0)) yq109 hb)
            replace HB := Qz.mk (qq yq107 hb)
            replace HI104 := Qz.mk (IsS123.below yq110 hb)
            clear hb ho25
            obtain ⟨Ao26, co26, eo26⟩ := Kd.R_slice HO121.out
            (first | subst eo26 | (injection eo26 with f1_ f2_ f3_; have f4_ := f1_.symm; have f5_ := f3_.symm; clear f1_ f2_ f3_; subst f4_; subst f5_))
            refine hK.out _ _ ⟨(qd BK112.out 0).trans rfl, (qd BK112.out 1).trans rfl, (qd BK112.out 2).trans rfl, (qd BK112.out 3).trans rfl⟩ (fun hHeld => ?_)
            clear hK K
            refine norm_ (a' := ?_) ?_ ?_
            rotate_left
            ·show Act.put _ (some 36) _ = _
             simp only [Act.put, sq1, sq2, sq3, i64_w, i32_w]
             rfl
            refine pure_ (i := 18) (N := some 37) (v := ?_) (a' := ?_) bq119 rfl rfl (qo HT_.out (by kernel_rfl)) (fun _ _ _ h => h) (Or.inl ⟨by rfl, ?_⟩) ?_ ?_
            rotate_left
            ·intro w'
             go_simp
             with_reducible rfl
            rotate_left
            ·simp only [Act.put, sq1, sq2, sq3, i64_w, i32_w]
             rfl
            exact norm_ yq113 (hJ11_14_17 (.slice Ao26 y119.length co26) _ ⟨hHeld, yq131, yq130, yq108, yq109, yq110, yq107⟩)
           ·skip
            refine box_step ?hg (N := 6) ?hd (cs := #[.slice none 0 0, .int .i64 0, .int .i64 0, .int .i64 0]) (t := 32) ?hr ?_; (case hd => rfl); (case hg => rfl); (case hr => exact yq124)
            intro gb129 hg w24 hbox hb
            replace HO_113000 := Qz.mk (Kd.R_below yq112 hb)
            have BK129 := Qz.mk (hbox)
            have GW129 := Qz.mk ((by rw [hg]; exact (qz yq107) : w.heap.size ≤ gb129))
            have GE129 := GW129
            replace HB := Qz.mk (qq yq107 hb)
            have NB101_129 := Qz.mk ((yq116 : gb101 ≠ gb129))
            have NB129_101 := Qz.mk ((yq117 : gb129 ≠ gb101))
            replace BK101 := Qz.mk (qp (g := gb101) (o := .cells #[.slice none 0 0, .int .i64 0, .int .i64 0, .int .i64 0] 32 (0, 0)) yq108 hb)
            have NB112_129 := Qz.mk ((yq121 : gb112 ≠ gb129))
            have NB129_112 := Qz.mk ((yq123 : gb129 ≠ gb112))
            replace BK112 := Qz.mk (qp (g := gb112) (o := .cells #[.slice Ao19 x113000_1.length co19, .int .i64 x113001_1, .int .i64 x113002_1, .int .i64 x113003_1] 32 (0, 0)) yq109 hb)
            have NB104_129 := Qz.mk ((by rw [hg]; exact Nat.ne_of_lt (IsS123.lt (show IsS123 w _ g104 t102 t118 from by repeat (first | (with_reducible first | exact HI104.out | apply IsS123.alloc | apply IsS123.drewN | apply IsS123.drew | apply IsS123.set_1 | apply (fun h_ => IsS123.far h_ NB104_101.out _) | apply (fun h_ => IsS123.far h_ NB104_112.out _)) | exact HI104.out))) : g104 ≠ gb129))
            have NB129_104 := Qz.mk ((by rw [hg]; exact Nat.ne_of_gt (IsS123.lt (show IsS123 w _ g104 t102 t118 from by repeat (first | (with_reducible first | exact HI104.out | apply IsS123.alloc | apply IsS123.drewN | apply IsS123.drew | apply IsS123.set_1 | apply (fun h_ => IsS123.far h_ NB104_101.out _) | apply (fun h_ => IsS123.far h_ NB104_112.out _)) | exact HI104.out))) : gb129 ≠ g104))
            replace HI104 := Qz.mk (IsS123.below yq110 hb)
            clear hb hbox hg
            refine hK.out _ _ ⟨(qd BK112.out 0).trans rfl, (qd BK112.out 1).trans rfl, (qd BK112.out 2).trans rfl, (qd BK112.out 3).trans rfl⟩ (fun hHeld => ?_)
            clear hK K
            refine norm_ (a' := ?_) ?_ ?_
            rotate_left
            ·show Act.put _ (some 6) _ = _
             simp only [Act.put, sq1, sq2, sq3, i64_w, i32_w]
             rfl
            exact norm_ yq113 (hJ11_14_23 (gb129) _ ⟨hHeld, yq112, yq108, yq109, yq114, GW129.out, GE129.out, NB104_129.out, NB129_104.out, NB101_129.out, NB129_101.out, NB112_129.out, NB129_112.out, yq106, yq111⟩)
         ·skip
          rintro gb129 w24 ⟨hS_, h0_, h1_, h2_, h3_, h4_, h5_, h6_, h7_, h8_, h9_, h10_, h11_, h12_, h13_⟩
          have n0_ : Qz (Kd.R k66 66 w24 w.heap.size (fun _ => True) (.slice Ao19 x113000_1.length co19) x113000_1) := ⟨h0_⟩
          have n1_ : Qz (w24.heap[gb101]? = some (.cells #[.slice none 0 0, .int .i64 0, .int .i64 0, .int .i64 0] 32 (0, 0))) := ⟨h1_⟩
          have n2_ : Qz (w24.heap[gb112]? = some (.cells #[.slice Ao19 x113000_1.length co19, .int .i64 x113001_1, .int .i64 x113002_1, .int .i64 x113003_1] 32 (0, 0))) := ⟨h2_⟩
          have n3_ : Qz (w24.heap[gb129]? = some (.cells #[.slice none 0 0, .int .i64 0, .int .i64 0, .int .i64 0] 32 (0, 0))) := ⟨h3_⟩
          have n4_ : Qz (w.heap.size ≤ gb129) := ⟨h4_⟩
          have n5_ : Qz (w.heap.size ≤ gb129) := ⟨h5_⟩
          have n6_ : Qz (g104 ≠ gb129) := ⟨h6_⟩
          have n7_ : Qz (gb129 ≠ g104) := ⟨h7_⟩
          have n8_ : Qz (gb101 ≠ gb129) := ⟨h8_⟩
          have n9_ : Qz (gb129 ≠ gb101) := ⟨h9_⟩
          have n10_ : Qz (gb112 ≠ gb129) := ⟨h10_⟩
          have n11_ : Qz (gb129 ≠ gb112) := ⟨h11_⟩
          have n12_ : Qz (IsS123 w w24 g104 t102 t118) := ⟨h12_⟩
          have n13_ : Qz (Below w.heap.size w w24) := ⟨h13_⟩
          clear HO_113000
          clear BK101
          clear BK112
          clear HI104
          clear HB
          clear h0_ h1_ h2_ h3_ h4_ h5_ h6_ h7_ h8_ h9_ h10_ h11_ h12_ h13_
          have HO_113000 := n0_
          have BK101 := n1_
          have BK112 := n2_
          have BK129 := n3_
          have GW129 := n4_
          have GE129 := n5_
          have NB104_129 := n6_
          have NB129_104 := n7_
          have NB101_129 := n8_
          have NB129_101 := n9_
          have NB112_129 := n10_
          have NB129_112 := n11_
          have HI104 := n12_
          have HB := n13_
          clear n0_ n1_ n2_ n3_ n4_ n5_ n6_ n7_ n8_ n9_ n10_ n11_ n12_ n13_
          have hHeld : w24.cell? ⟨gb112, 0, none⟩ = some (.slice Ao19 x113000_1.length co19) ∧ w24.cell? ⟨gb112, 1, none⟩ = some (.int .i64 x113001_1) ∧ w24.cell? ⟨gb112, 2, none⟩ = some (.int .i64 x113002_1) ∧ w24.cell? ⟨gb112, 3, none⟩ = some (.int .i64 x113003_1) := hS_
          refine norm_ (a' := ?_) ?_ ?_
          rotate_left
          ·simp only [putAll, Act.put, sq1, sq2, sq3]
           rfl
          refine one_ (i := 17) (N := some 36) bq117 rfl rfl (one_of HT_.out (by kernel_rfl)) (by decide) (fun K hK => ?_)
          refine Kd.R_lit_step k66 _ 66 ?hg (N := 36) ?hd (xs := ([(⟨x113001_1, wrap64 (Int.tdiv t115 4), (⟨#[97]⟩ : ByteArray), (⟨#[98]⟩ : ByteArray), wrap64 (1 + t117)⟩ : S66)] : List (S66))) (inner := [.int .i64 x113001_1, .int .i64 (wrap64 (Int.tdiv t115 4)), .string (⟨#[97]⟩ : ByteArray), .string (⟨#[98]⟩ : ByteArray), .int .i64 (wrap64 (1 + t117))]) (ok := fun _ => True) (okp := fun _ => True) ?hr ?hp (fun _ hk => hk) trivial (Below.refl _ _) (Nat.le_refl _) (by simp) ?_; (case hd => rfl); (case hg => rfl); (case hr => exact yq124); (case hp => exact (Reps.c5 (show Kd.M k66 _ _ _ (⟨x113001_1, wrap64 (Int.tdiv t115 4), (⟨#[97]⟩ : ByteArray), (⟨#[98]⟩ : ByteArray), wrap64 (1 + t117)⟩ : S66) [.int .i64 x113001_1, .int .i64 (wrap64 (Int.tdiv t115 4)), .string (⟨#[97]⟩ : ByteArray), .string (⟨#[98]⟩ : ByteArray), .int .i64 (wrap64 (1 + t117))] from (k66_mkM _ _ _ (⟨x113001_1, wrap64 (Int.tdiv t115 4), (⟨#[97]⟩ : ByteArray), (⟨#[98]⟩ : ByteArray), wrap64 (1 + t117)⟩ : S66) )) (Reps.none _ _)))
          intro v120 w25 ho26 hb hg_ hnew_
          clear hg_ hnew_
          (first | rw [← Ny119.out] at ho26 | (simp only [Int.reduceToNat] at ho26; rw [← Ny119.out] at ho26))
          have HO121 := Qz.mk (Kd.R_lower (Kd.R_new' ho26 (Kd.R_lt yq112)) (qz yq111))
          replace HO_113000 := Qz.mk (Kd.R_elder' yq112 (Kd.R_base ho26) hb)
          replace BK101 := Qz.mk (qp (g := gb101) (o := .cells #[.slice none 0 0, .int .i64 0, .int .i64 0, .int .i64 0] 32 (0, 0)) yq108 hb)
          replace BK112 := Qz.mk (qp (g := gb112) (o := .cells #[.slice Ao19 x113000_1.length co19, .int .i64 x113001_1, .int .i64 x113002_1, .int .i64 x113003_1] 32 (0, 0)) yq109 hb)
          replace BK129 := Qz.mk (qp (g := gb129) (o := .cells #[.slice none 0 0, .int .i64 0, .int .i64 0, .int .i64 0] 32 (0, 0)) yq114 hb)
          replace HB := Qz.mk (qq yq111 hb)
          replace HI104 := Qz.mk (IsS123.below yq106 hb)
          clear hb ho26
          obtain ⟨Ao27, co27, eo27⟩ := Kd.R_slice HO121.out
          (first | subst eo27 | (injection eo27 with f1_ f2_ f3_; have f4_ := f1_.symm; have f5_ := f3_.symm; clear f1_ f2_ f3_; subst f4_; subst f5_))
          refine hK.out _ _ ⟨(qd BK112.out 0).trans rfl, (qd BK112.out 1).trans rfl, (qd BK112.out 2).trans rfl, (qd BK112.out 3).trans rfl⟩ (fun hHeld => ?_)
          clear hK K
          refine norm_ (a' := ?_) ?_ ?_
          rotate_left
          ·show Act.put _ (some 36) _ = _
           simp only [Act.put, sq1, sq2, sq3, i64_w, i32_w]
           rfl
          refine pure_ (i := 18) (N := some 37) (v := ?_) (a' := ?_) bq120 rfl rfl (qo HT_.out (by kernel_rfl)) (fun _ _ _ h => h) (Or.inl ⟨by rfl, ?_⟩) ?_ ?_
          rotate_left
          ·intro w'
           go_simp
           with_reducible rfl
          rotate_left
          ·simp only [Act.put, sq1, sq2, sq3, i64_w, i32_w]
           rfl
          exact norm_ yq113 (hJ11_14_17_23 (.slice Ao27 y119.length co27, gb129) _ ⟨hHeld, yq131, yq130, yq108, yq109, yq114, GW129.out, GE129.out, NB104_129.out, NB129_104.out, NB101_129.out, NB129_101.out, NB112_129.out, NB129_112.out, yq106, yq111⟩)
        ·skip
         rintro v120 w26 ⟨hS_, h0_, h1_, h2_, h3_, h4_, h5_⟩
         have n0_ : Qz (Kd.R k66 66 w26 w.heap.size (fun k_ => some k_ ≠ (.slice Ao19 x113000_1.length co19 : Value).ownBlock) v120 y119) := ⟨h0_⟩
         have n1_ : Qz (Kd.R k66 66 w26 w.heap.size (fun k_ => some k_ ≠ (v120 : Value).ownBlock) (.slice Ao19 x113000_1.length co19) x113000_1) := ⟨h1_⟩
         have n2_ : Qz (w26.heap[gb101]? = some (.cells #[.slice none 0 0, .int .i64 0, .int .i64 0, .int .i64 0] 32 (0, 0))) := ⟨h2_⟩
         have n3_ : Qz (w26.heap[gb112]? = some (.cells #[.slice Ao19 x113000_1.length co19, .int .i64 x113001_1, .int .i64 x113002_1, .int .i64 x113003_1] 32 (0, 0))) := ⟨h3_⟩
         have n4_ : Qz (IsS123 w w26 g104 t102 t118) := ⟨h4_⟩
         have n5_ : Qz (Below w.heap.size w w26) := ⟨h5_⟩
         clear HO_113000
         clear BK101
         clear BK112
         clear HI104
         clear HB
         clear h0_ h1_ h2_ h3_ h4_ h5_
         have HO121 := n0_
         have HO_113000 := n1_
         have BK101 := n2_
         have BK112 := n3_
         have HI104 := n4_
         have HB := n5_
         clear n0_ n1_ n2_ n3_ n4_ n5_
         have hHeld : w26.cell? ⟨gb112, 0, none⟩ = some (.slice Ao19 x113000_1.length co19) ∧ w26.cell? ⟨gb112, 1, none⟩ = some (.int .i64 x113001_1) ∧ w26.cell? ⟨gb112, 2, none⟩ = some (.int .i64 x113002_1) ∧ w26.cell? ⟨gb112, 3, none⟩ = some (.int .i64 x113003_1) := hS_
         obtain ⟨Ao27, co27, eo27⟩ := Kd.R_slice HO121.out
         (first | subst eo27 | (injection eo27 with f1_ f2_ f3_; have f4_ := f1_.symm; have f5_ := f3_.symm; clear f1_ f2_ f3_; subst f4_; subst f5_))
         refine norm_ (a' := ?_) ?_ ?_
         rotate_left
         ·simp only [putAll, Act.put, sq1, sq2, sq3]
          rfl
         refine two_ (i := 19) (j := 23) (Ni := some 38) (Nj := some 6) bq122 bq120 rfl rfl rfl rfl (two_of HT_.out (by kernel_rfl)) (by decide) (by decide) (fun K hK => ?_) (fun K hK => ?_)
         ·skip
          refine goes_ Try.func17 (by kernel_rfl) rfl #[.agg #[.slice Ao19 x113000_1.length co19, .int .i64 x113001_1, .int .i64 x113002_1, .int .i64 x113003_1], .agg #[.slice Ao27 y119.length co27, .slice none 0 0, .int .i64 (wrap64 (x113001_1 + 1)), .int .i64 x113002_1, .int .i64 x113003_1]] (by rfl) rfl rfl yq118 ?_
          refine (spec_Apply.calls k1 _ _ x113000_1 x113001_1 x113002_1 x113003_1 _ _ y119 _ _ ([] : List Int) (wrap64 (x113001_1 + 1)) x113002_1 x113003_1 t122 t125 t126 t127 true _ ?side1 ?side2 ?side3 ?side4 ?side5 ?side6 A17.out).mono ?_
          (case side1 => exact yq125)
          (case side2 => exact (Kd.R_reads' HO_113000.out).2.1)
          (case side3 => exact yq126)
          (case side4 => exact (Kd.R_reads' HO121.out).2.1)
          (case side5 => exact Kd.C_nil _ _)
          (case side6 => exact Nat.le_refl _)
          rintro e w28 ⟨v123, rfl, ho0, hb⟩
          refine ⟨_, rfl, ?_⟩
          have HO124 := Qz.mk (Kd.R_lower (Kd.R_new' (Kd.R_new' ho0 (Kd.R_lt yq112)) (Kd.R_lt yq115)) (qz yq107))
          replace HO_113000 := Qz.mk (Kd.R_elder' yq112 (Kd.R_base ho0) hb)
          replace HO121 := Qz.mk (Kd.R_elder' yq115 (Kd.R_base ho0) hb)
          replace BK101 := Qz.mk (qp (g := gb101) (o := .cells #[.slice none 0 0, .int .i64 0, .int .i64 0, .int .i64 0] 32 (0, 0)) yq108 hb)
          replace BK112 := Qz.mk (qp (g := gb112) (o := .cells #[.slice Ao19 x113000_1.length co19, .int .i64 x113001_1, .int .i64 x113002_1, .int .i64 x113003_1] 32 (0, 0)) yq109 hb)
          replace HB := Qz.mk (qq yq107 hb)
          replace HI104 := Qz.mk (IsS123.below yq110 hb)
          (try clear hb)
          (try clear hb2)
          (try clear hk)
          (try clear hi)
          (try clear ho0)
          refine hK.out _ _ ⟨(qd BK112.out 0).trans rfl, (qd BK112.out 1).trans rfl, (qd BK112.out 2).trans rfl, (qd BK112.out 3).trans rfl⟩ (fun hHeld => ?_)
          clear hK K
          refine norm_ (a' := ?_) ?_ ?_
          rotate_left
          ·show Act.put _ (some 38) _ = _
           simp only [Act.put, sq1, sq2, sq3, i64_w, i32_w]
           rfl
          refine pure_ (i := 20) (N := some 18) (v := ?_) (a' := ?_) bq125 rfl rfl (qo HT_.out (by kernel_rfl)) (fun _ _ _ h => h) (Or.inl ⟨by rfl, ?_⟩) ?_ ?_
          rotate_left
          ·intro w'
           go_simp
           with_reducible rfl
          rotate_left
          ·simp only [Act.put, sq1, sq2, sq3, i64_w, i32_w]
           rfl
          refine pure_ (i := 21) (N := some 39) (v := ?_) (a' := ?_) bq128 rfl rfl (qo HT_.out (by kernel_rfl)) (fun _ _ _ h => h) (Or.inl ⟨by rfl, ?_⟩) ?_ ?_
          rotate_left
          ·intro w'
           go_simp
           with_reducible rfl
          rotate_left
          ·simp only [Act.put, sq1, sq2, sq3, i64_w, i32_w]
           rfl
          refine pure_ (i := 22) (N := some 40) (v := ?_) (a' := ?_) bq131 rfl rfl (qo HT_.out (by kernel_rfl)) (fun _ _ _ h => h) (Or.inl ⟨by rfl, ?_⟩) ?_ ?_
          rotate_left
          ·intro w'
           go_simp
           with_reducible rfl
          rotate_left
          ·simp only [Act.put, sq1, sq2, sq3, i64_w, i32_w]
           rfl
          exact norm_ yq113 (hJ11_14_17_19 (.slice Ao27 y119.length co27, v123) _ ⟨hHeld, yq129, yq128, yq112, yq108, yq109, yq110, yq107⟩)
         ·skip
          refine box_step ?hg (N := 6) ?hd (cs := #[.slice none 0 0, .int .i64 0, .int .i64 0, .int .i64 0]) (t := 32) ?hr ?_; (case hd => rfl); (case hg => rfl); (case hr => exact yq124)
          intro gb129 hg w28 hbox hb
          replace HO_113000 := Qz.mk (Kd.R_below yq112 hb)
          replace HO121 := Qz.mk (Kd.R_below yq115 hb)
          have BK129 := Qz.mk (hbox)
          have GW129 := Qz.mk ((by rw [hg]; exact (qz yq107) : w.heap.size ≤ gb129))
          have GE129 := GW129
          replace HB := Qz.mk (qq yq107 hb)
          have NB101_129 := Qz.mk ((yq116 : gb101 ≠ gb129))
          have NB129_101 := Qz.mk ((yq117 : gb129 ≠ gb101))
          replace BK101 := Qz.mk (qp (g := gb101) (o := .cells #[.slice none 0 0, .int .i64 0, .int .i64 0, .int .i64 0] 32 (0, 0)) yq108 hb)
          have NB112_129 := Qz.mk ((yq121 : gb112 ≠ gb129))
          have NB129_112 := Qz.mk ((yq123 : gb129 ≠ gb112))
          replace BK112 := Qz.mk (qp (g := gb112) (o := .cells #[.slice Ao19 x113000_1.length co19, .int .i64 x113001_1, .int .i64 x113002_1, .int .i64 x113003_1] 32 (0, 0)) yq109 hb)
          have NB104_129 := Qz.mk ((by rw [hg]; exact Nat.ne_of_lt (IsS123.lt (show IsS123 w _ g104 t102 t118 from by repeat (first | (with_reducible first | exact HI104.out | apply IsS123.alloc | apply IsS123.drewN | apply IsS123.drew | apply IsS123.set_1 | apply (fun h_ => IsS123.far h_ NB104_101.out _) | apply (fun h_ => IsS123.far h_ NB104_112.out _)) | exact HI104.out))) : g104 ≠ gb129))
          have NB129_104 := Qz.mk ((by rw [hg]; exact Nat.ne_of_gt (IsS123.lt (show IsS123 w _ g104 t102 t118 from by repeat (first | (with_reducible first | exact HI104.out | apply IsS123.alloc | apply IsS123.drewN | apply IsS123.drew | apply IsS123.set_1 | apply (fun h_ => IsS123.far h_ NB104_101.out _) | apply (fun h_ => IsS123.far h_ NB104_112.out _)) | exact HI104.out))) : gb129 ≠ g104))
          replace HI104 := Qz.mk (IsS123.below yq110 hb)
          clear hb hbox hg
          refine hK.out _ _ ⟨(qd BK112.out 0).trans rfl, (qd BK112.out 1).trans rfl, (qd BK112.out 2).trans rfl, (qd BK112.out 3).trans rfl⟩ (fun hHeld => ?_)
          clear hK K
          refine norm_ (a' := ?_) ?_ ?_
          rotate_left
          ·show Act.put _ (some 6) _ = _
           simp only [Act.put, sq1, sq2, sq3, i64_w, i32_w]
           rfl
          exact norm_ yq113 (hJ11_14_17_23 (.slice Ao27 y119.length co27, gb129) _ ⟨hHeld, yq115, yq112, yq108, yq109, yq114, GW129.out, GE129.out, NB104_129.out, NB129_104.out, NB101_129.out, NB129_101.out, NB112_129.out, NB129_112.out, yq106, yq111⟩)
       ·skip
        rintro ⟨v120, gb129⟩ w27 ⟨hS_, h0_, h1_, h2_, h3_, h4_, h5_, h6_, h7_, h8_, h9_, h10_, h11_, h12_, h13_, h14_⟩
        have n0_ : Qz (Kd.R k66 66 w27 w.heap.size (fun k_ => some k_ ≠ (.slice Ao19 x113000_1.length co19 : Value).ownBlock) v120 y119) := ⟨h0_⟩
        have n1_ : Qz (Kd.R k66 66 w27 w.heap.size (fun k_ => some k_ ≠ (v120 : Value).ownBlock) (.slice Ao19 x113000_1.length co19) x113000_1) := ⟨h1_⟩
        have n2_ : Qz (w27.heap[gb101]? = some (.cells #[.slice none 0 0, .int .i64 0, .int .i64 0, .int .i64 0] 32 (0, 0))) := ⟨h2_⟩
        have n3_ : Qz (w27.heap[gb112]? = some (.cells #[.slice Ao19 x113000_1.length co19, .int .i64 x113001_1, .int .i64 x113002_1, .int .i64 x113003_1] 32 (0, 0))) := ⟨h3_⟩
        have n4_ : Qz (w27.heap[gb129]? = some (.cells #[.slice none 0 0, .int .i64 0, .int .i64 0, .int .i64 0] 32 (0, 0))) := ⟨h4_⟩
        have n5_ : Qz (w.heap.size ≤ gb129) := ⟨h5_⟩
        have n6_ : Qz (w.heap.size ≤ gb129) := ⟨h6_⟩
        have n7_ : Qz (g104 ≠ gb129) := ⟨h7_⟩
        have n8_ : Qz (gb129 ≠ g104) := ⟨h8_⟩
        have n9_ : Qz (gb101 ≠ gb129) := ⟨h9_⟩
        have n10_ : Qz (gb129 ≠ gb101) := ⟨h10_⟩
        have n11_ : Qz (gb112 ≠ gb129) := ⟨h11_⟩
        have n12_ : Qz (gb129 ≠ gb112) := ⟨h12_⟩
        have n13_ : Qz (IsS123 w w27 g104 t102 t118) := ⟨h13_⟩
        have n14_ : Qz (Below w.heap.size w w27) := ⟨h14_⟩
        clear HO_113000
        clear BK101
        clear BK112
        clear HI104
        clear HB
        clear h0_ h1_ h2_ h3_ h4_ h5_ h6_ h7_ h8_ h9_ h10_ h11_ h12_ h13_ h14_
        have HO121 := n0_
        have HO_113000 := n1_
        have BK101 := n2_
        have BK112 := n3_
        have BK129 := n4_
        have GW129 := n5_
        have GE129 := n6_
        have NB104_129 := n7_
        have NB129_104 := n8_
        have NB101_129 := n9_
        have NB129_101 := n10_
        have NB112_129 := n11_
        have NB129_112 := n12_
        have HI104 := n13_
        have HB := n14_
        clear n0_ n1_ n2_ n3_ n4_ n5_ n6_ n7_ n8_ n9_ n10_ n11_ n12_ n13_ n14_
        have hHeld : w27.cell? ⟨gb112, 0, none⟩ = some (.slice Ao19 x113000_1.length co19) ∧ w27.cell? ⟨gb112, 1, none⟩ = some (.int .i64 x113001_1) ∧ w27.cell? ⟨gb112, 2, none⟩ = some (.int .i64 x113002_1) ∧ w27.cell? ⟨gb112, 3, none⟩ = some (.int .i64 x113003_1) := hS_
        obtain ⟨Ao28, co28, eo28⟩ := Kd.R_slice HO121.out
        (first | subst eo28 | (injection eo28 with f1_ f2_ f3_; have f4_ := f1_.symm; have f5_ := f3_.symm; clear f1_ f2_ f3_; subst f4_; subst f5_))
        refine norm_ (a' := ?_) ?_ ?_
        rotate_left
        ·simp only [putAll, Act.put, sq1, sq2, sq3]
         rfl
        refine one_ (i := 19) (N := some 38) bq123 rfl rfl (one_of HT_.out (by kernel_rfl)) (by decide) (fun K hK => ?_)
        refine goes_ Try.func17 (by kernel_rfl) rfl #[.agg #[.slice Ao19 x113000_1.length co19, .int .i64 x113001_1, .int .i64 x113002_1, .int .i64 x113003_1], .agg #[.slice Ao28 y119.length co28, .slice none 0 0, .int .i64 (wrap64 (x113001_1 + 1)), .int .i64 x113002_1, .int .i64 x113003_1]] (by rfl) rfl rfl yq118 ?_
        refine (spec_Apply.calls k1 _ _ x113000_1 x113001_1 x113002_1 x113003_1 _ _ y119 _ _ ([] : List Int) (wrap64 (x113001_1 + 1)) x113002_1 x113003_1 t122 t125 t126 t127 true _ ?side1 ?side2 ?side3 ?side4 ?side5 ?side6 A17.out).mono ?_
        (case side1 => exact yq125)
        (case side2 => exact (Kd.R_reads' HO_113000.out).2.1)
        (case side3 => exact yq126)
        (case side4 => exact (Kd.R_reads' HO121.out).2.1)
        (case side5 => exact Kd.C_nil _ _)
        (case side6 => exact Nat.le_refl _)
        rintro e w29 ⟨v123, rfl, ho0, hb⟩
        refine ⟨_, rfl, ?_⟩
        have HO124 := Qz.mk (Kd.R_lower (Kd.R_new' (Kd.R_new' ho0 (Kd.R_lt yq112)) (Kd.R_lt yq115)) (qz yq111))
        replace HO_113000 := Qz.mk (Kd.R_elder' yq112 (Kd.R_base ho0) hb)
        replace HO121 := Qz.mk (Kd.R_elder' yq115 (Kd.R_base ho0) hb)
        replace BK101 := Qz.mk (qp (g := gb101) (o := .cells #[.slice none 0 0, .int .i64 0, .int .i64 0, .int .i64 0] 32 (0, 0)) yq108 hb)
        replace BK112 := Qz.mk (qp (g := gb112) (o := .cells #[.slice Ao19 x113000_1.length co19, .int .i64 x113001_1, .int .i64 x113002_1, .int .i64 x113003_1] 32 (0, 0)) yq109 hb)
        replace BK129 := Qz.mk (qp (g := gb129) (o := .cells #[.slice none 0 0, .int .i64 0, .int .i64 0, .int .i64 0] 32 (0, 0)) yq114 hb)
        replace HB := Qz.mk (qq yq111 hb)
        replace HI104 := Qz.mk (IsS123.below yq106 hb)
        (try clear hb)
        (try clear hb2)
        (try clear hk)
        (try clear hi)
        (try clear ho0)
        refine hK.out _ _ ⟨(qd BK112.out 0).trans rfl, (qd BK112.out 1).trans rfl, (qd BK112.out 2).trans rfl, (qd BK112.out 3).trans rfl⟩ (fun hHeld => ?_)
        clear hK K
        refine norm_ (a' := ?_) ?_ ?_
        rotate_left
        ·show Act.put _ (some 38) _ = _
         simp only [Act.put, sq1, sq2, sq3, i64_w, i32_w]
         rfl
        refine pure_ (i := 20) (N := some 18) (v := ?_) (a' := ?_) bq126 rfl rfl (qo HT_.out (by kernel_rfl)) (fun _ _ _ h => h) (Or.inl ⟨by rfl, ?_⟩) ?_ ?_
        rotate_left
        ·intro w'
         go_simp
         with_reducible rfl
        rotate_left
        ·simp only [Act.put, sq1, sq2, sq3, i64_w, i32_w]
         rfl
        refine pure_ (i := 21) (N := some 39) (v := ?_) (a' := ?_) bq129 rfl rfl (qo HT_.out (by kernel_rfl)) (fun _ _ _ h => h) (Or.inl ⟨by rfl, ?_⟩) ?_ ?_
        rotate_left
        ·intro w'
         go_simp
         with_reducible rfl
        rotate_left
        ·simp only [Act.put, sq1, sq2, sq3, i64_w, i32_w]
         rfl
        refine pure_ (i := 22) (N := some 40) (v := ?_) (a' := ?_) bq133 rfl rfl (qo HT_.out (by kernel_rfl)) (fun _ _ _ h => h) (Or.inl ⟨by rfl, ?_⟩) ?_ ?_
        rotate_left
        ·intro w'
         go_simp
         with_reducible rfl
        rotate_left
        ·simp only [Act.put, sq1, sq2, sq3, i64_w, i32_w]
         rfl
        exact norm_ yq113 (hJ11_14_17_19_23 (.slice Ao28 y119.length co28, v123, gb129) _ ⟨hHeld, yq129, yq128, yq112, yq108, yq109, yq114, GW129.out, GE129.out, NB104_129.out, NB129_104.out, NB101_129.out, NB129_101.out, NB112_129.out, NB129_112.out, yq106, yq111⟩)
      ·skip
       rintro ⟨v120, v123⟩ w27 ⟨hS_, h0_, h1_, h2_, h3_, h4_, h5_, h6_⟩
       have n0_ : Qz (Kd.R k66 66 w27 w.heap.size (fun k_ => some k_ ≠ (v123 : Value).ownBlock ∧ some k_ ≠ (.slice Ao19 x113000_1.length co19 : Value).ownBlock) v120 y119) := ⟨h0_⟩
       have n1_ : Qz (Kd.R k66 66 w27 w.heap.size (fun k_ => some k_ ≠ (v120 : Value).ownBlock ∧ some k_ ≠ (.slice Ao19 x113000_1.length co19 : Value).ownBlock) v123 t122) := ⟨h1_⟩
       have n2_ : Qz (Kd.R k66 66 w27 w.heap.size (fun k_ => some k_ ≠ (v120 : Value).ownBlock ∧ some k_ ≠ (v123 : Value).ownBlock) (.slice Ao19 x113000_1.length co19) x113000_1) := ⟨h2_⟩
       have n3_ : Qz (w27.heap[gb101]? = some (.cells #[.slice none 0 0, .int .i64 0, .int .i64 0, .int .i64 0] 32 (0, 0))) := ⟨h3_⟩
       have n4_ : Qz (w27.heap[gb112]? = some (.cells #[.slice Ao19 x113000_1.length co19, .int .i64 x113001_1, .int .i64 x113002_1, .int .i64 x113003_1] 32 (0, 0))) := ⟨h4_⟩
       have n5_ : Qz (IsS123 w w27 g104 t102 t118) := ⟨h5_⟩
       have n6_ : Qz (Below w.heap.size w w27) := ⟨h6_⟩
       clear HO_113000
       clear BK101
       clear BK112
       clear HI104
       clear HB
       clear h0_ h1_ h2_ h3_ h4_ h5_ h6_
       have HO121 := n0_
       have HO124 := n1_
       have HO_113000 := n2_
       have BK101 := n3_
       have BK112 := n4_
       have HI104 := n5_
       have HB := n6_
       clear n0_ n1_ n2_ n3_ n4_ n5_ n6_
       have hHeld : w27.cell? ⟨gb112, 0, none⟩ = some (.slice Ao19 x113000_1.length co19) ∧ w27.cell? ⟨gb112, 1, none⟩ = some (.int .i64 x113001_1) ∧ w27.cell? ⟨gb112, 2, none⟩ = some (.int .i64 x113002_1) ∧ w27.cell? ⟨gb112, 3, none⟩ = some (.int .i64 x113003_1) := hS_
       obtain ⟨Ao28, co28, eo28⟩ := Kd.R_slice HO121.out
       (first | subst eo28 | (injection eo28 with f1_ f2_ f3_; have f4_ := f1_.symm; have f5_ := f3_.symm; clear f1_ f2_ f3_; subst f4_; subst f5_))
       refine norm_ (a' := ?_) ?_ ?_
       rotate_left
       ·simp only [putAll, Act.put, sq1, sq2, sq3]
        rfl
       refine one_ (i := 23) (N := some 6) bq133 rfl rfl (one_of HT_.out (by kernel_rfl)) (by decide) (fun K hK => ?_)
       refine box_step ?hg (N := 6) ?hd (cs := #[.slice none 0 0, .int .i64 0, .int .i64 0, .int .i64 0]) (t := 32) ?hr ?_; (case hd => rfl); (case hg => rfl); (case hr => exact yq124)
       intro gb129 hg w29 hbox hb
       replace HO_113000 := Qz.mk (Kd.R_below yq112 hb)
       replace HO121 := Qz.mk (Kd.R_below yq115 hb)
       replace HO124 := Qz.mk (Kd.R_below yq132 hb)
       have BK129 := Qz.mk (hbox)
       have GW129 := Qz.mk ((by rw [hg]; exact (qz yq107) : w.heap.size ≤ gb129))
       have GE129 := GW129
       replace HB := Qz.mk (qq yq107 hb)
       have NB101_129 := Qz.mk ((yq116 : gb101 ≠ gb129))
       have NB129_101 := Qz.mk ((yq117 : gb129 ≠ gb101))
       replace BK101 := Qz.mk (qp (g := gb101) (o := .cells #[.slice none 0 0, .int .i64 0, .int .i64 0, .int .i64 0] 32 (0, 0)) yq108 hb)
       have NB112_129 := Qz.mk ((yq121 : gb112 ≠ gb129))
       have NB129_112 := Qz.mk ((yq123 : gb129 ≠ gb112))
       replace BK112 := Qz.mk (qp (g := gb112) (o := .cells #[.slice Ao19 x113000_1.length co19, .int .i64 x113001_1, .int .i64 x113002_1, .int .i64 x113003_1] 32 (0, 0)) yq109 hb)
       have NB104_129 := Qz.mk ((by rw [hg]; exact Nat.ne_of_lt (IsS123.lt (show IsS123 w _ g104 t102 t118 from by repeat (first | (with_reducible first | exact HI104.out | apply IsS123.alloc | apply IsS123.drewN | apply IsS123.drew | apply IsS123.set_1 | apply (fun h_ => IsS123.far h_ NB104_101.out _) | apply (fun h_ => IsS123.far h_ NB104_112.out _)) | exact HI104.out))) : g104 ≠ gb129))
       have NB129_104 := Qz.mk ((by rw [hg]; exact Nat.ne_of_gt (IsS123.lt (show IsS123 w _ g104 t102 t118 from by repeat (first | (with_reducible first | exact HI104.out | apply IsS123.alloc | apply IsS123.drewN | apply IsS123.drew | apply IsS123.set_1 | apply (fun h_ => IsS123.far h_ NB104_101.out _) | apply (fun h_ => IsS123.far h_ NB104_112.out _)) | exact HI104.out))) : gb129 ≠ g104))
       replace HI104 := Qz.mk (IsS123.below yq110 hb)
       clear hb hbox hg
       refine hK.out _ _ ⟨(qd BK112.out 0).trans rfl, (qd BK112.out 1).trans rfl, (qd BK112.out 2).trans rfl, (qd BK112.out 3).trans rfl⟩ (fun hHeld => ?_)
       clear hK K
       refine norm_ (a' := ?_) ?_ ?_
       rotate_left
       ·show Act.put _ (some 6) _ = _
        simp only [Act.put, sq1, sq2, sq3, i64_w, i32_w]
        rfl
       exact norm_ yq113 (hJ11_14_17_19_23 (.slice Ao28 y119.length co28, v123, gb129) _ ⟨hHeld, yq115, yq132, yq112, yq108, yq109, yq114, GW129.out, GE129.out, NB104_129.out, NB129_104.out, NB101_129.out, NB129_101.out, NB112_129.out, NB129_112.out, yq106, yq111⟩)
     rintro ⟨v120, v123, gb129⟩ w28 ⟨hS_, h0_, h1_, h2_, h3_, h4_, h5_, h6_, h7_, h8_, h9_, h10_, h11_, h12_, h13_, h14_, h15_⟩
     have n0_ : Qz (Kd.R k66 66 w28 w.heap.size (fun k_ => some k_ ≠ (v123 : Value).ownBlock ∧ some k_ ≠ (.slice Ao19 x113000_1.length co19 : Value).ownBlock) v120 y119) := ⟨h0_⟩
     have n1_ : Qz (Kd.R k66 66 w28 w.heap.size (fun k_ => some k_ ≠ (v120 : Value).ownBlock ∧ some k_ ≠ (.slice Ao19 x113000_1.length co19 : Value).ownBlock) v123 t122) := ⟨h1_⟩
     have n2_ : Qz (Kd.R k66 66 w28 w.heap.size (fun k_ => some k_ ≠ (v120 : Value).ownBlock ∧ some k_ ≠ (v123 : Value).ownBlock) (.slice Ao19 x113000_1.length co19) x113000_1) := ⟨h2_⟩
     have n3_ : Qz (w28.heap[gb101]? = some (.cells #[.slice none 0 0, .int .i64 0, .int .i64 0, .int .i64 0] 32 (0, 0))) := ⟨h3_⟩
     have n4_ : Qz (w28.heap[gb112]? = some (.cells #[.slice Ao19 x113000_1.length co19, .int .i64 x113001_1, .int .i64 x113002_1, .int .i64 x113003_1] 32 (0, 0))) := ⟨h4_⟩
     have n5_ : Qz (w28.heap[gb129]? = some (.cells #[.slice none 0 0, .int .i64 0, .int .i64 0, .int .i64 0] 32 (0, 0))) := ⟨h5_⟩
     have n6_ : Qz (w.heap.size ≤ gb129) := ⟨h6_⟩
     have n7_ : Qz (w.heap.size ≤ gb129) := ⟨h7_⟩
     have n8_ : Qz (g104 ≠ gb129) := ⟨h8_⟩
     have n9_ : Qz (gb129 ≠ g104) := ⟨h9_⟩
     have n10_ : Qz (gb101 ≠ gb129) := ⟨h10_⟩
     have n11_ : Qz (gb129 ≠ gb101) := ⟨h11_⟩
     have n12_ : Qz (gb112 ≠ gb129) := ⟨h12_⟩
     have n13_ : Qz (gb129 ≠ gb112) := ⟨h13_⟩
     have n14_ : Qz (IsS123 w w28 g104 t102 t118) := ⟨h14_⟩
     have n15_ : Qz (Below w.heap.size w w28) := ⟨h15_⟩
     clear HO_113000
     clear BK101
     clear BK112
     clear HI104
     clear HB
     clear h0_ h1_ h2_ h3_ h4_ h5_ h6_ h7_ h8_ h9_ h10_ h11_ h12_ h13_ h14_ h15_
     have HO121 := n0_
     have HO124 := n1_
     have HO_113000 := n2_
     have BK101 := n3_
     have BK112 := n4_
     have BK129 := n5_
     have GW129 := n6_
     have GE129 := n7_
     have NB104_129 := n8_
     have NB129_104 := n9_
     have NB101_129 := n10_
     have NB129_101 := n11_
     have NB112_129 := n12_
     have NB129_112 := n13_
     have HI104 := n14_
     have HB := n15_
     clear n0_ n1_ n2_ n3_ n4_ n5_ n6_ n7_ n8_ n9_ n10_ n11_ n12_ n13_ n14_ n15_
     have hHeld : w28.cell? ⟨gb112, 0, none⟩ = some (.slice Ao19 x113000_1.length co19) ∧ w28.cell? ⟨gb112, 1, none⟩ = some (.int .i64 x113001_1) ∧ w28.cell? ⟨gb112, 2, none⟩ = some (.int .i64 x113002_1) ∧ w28.cell? ⟨gb112, 3, none⟩ = some (.int .i64 x113003_1) := hS_
     obtain ⟨Ao29, co29, eo29⟩ := Kd.R_slice HO121.out
     (first | subst eo29 | (injection eo29 with f1_ f2_ f3_; have f4_ := f1_.symm; have f5_ := f3_.symm; clear f1_ f2_ f3_; subst f4_; subst f5_))
     obtain ⟨Ao30, co30, eo30⟩ := Kd.R_slice HO124.out
     (first | subst eo30 | (injection eo30 with f1_ f2_ f3_; have f4_ := f1_.symm; have f5_ := f3_.symm; clear f1_ f2_ f3_; subst f4_; subst f5_))
     refine norm_ (a' := ?_) ?_ ?_
     rotate_left
     ·simp only [putAll, Act.put, sq1, sq2, sq3]
      rfl
     refine one_ (i := 24) (N := none) bq135 rfl rfl (one_of HT_.out (by kernel_rfl)) (by decide) (fun K hK => ?_)
     have hs31 : w28.cell? ⟨gb129, 0, none⟩ = some (.slice none 0 0) := (qd BK129.out 0).trans rfl
     have hfs31 := qg BK129.out 0
     have hns31_0 := NB101_129.out
     have hns31_1 := NB112_129.out
     have hms31_0 := NB129_101.out
     have hms31_1 := NB129_112.out
     have hs32 : w28.cell? ⟨gb129, 1, none⟩ = some (.int .i64 0) := (qd BK129.out 1).trans rfl
     have hfs32 := qg BK129.out 1
     have hns32_0 := NB101_129.out
     have hns32_1 := NB112_129.out
     have hms32_0 := NB129_101.out
     have hms32_1 := NB129_112.out
     have hs33 : w28.cell? ⟨gb129, 2, none⟩ = some (.int .i64 0) := (qd BK129.out 2).trans rfl
     have hfs33 := qg BK129.out 2
     have hns33_0 := NB101_129.out
     have hns33_1 := NB112_129.out
     have hms33_0 := NB129_101.out
     have hms33_1 := NB129_112.out
     have hs34 : w28.cell? ⟨gb129, 3, none⟩ = some (.int .i64 0) := (qd BK129.out 3).trans rfl
     have hfs34 := qg BK129.out 3
     have hns34_0 := NB101_129.out
     have hns34_1 := NB112_129.out
     have hms34_0 := NB129_101.out
     have hms34_1 := NB129_112.out
     refine skip_ (w1 := ?_) (by rfl) rfl ?_ ?_
     rotate_left
     ·go_simp
      rfl
     refine hK.out _ _ ⟨((qw (p := ⟨gb129, _, none⟩) NB112_129.out _).trans (((qw (p := ⟨gb129, _, none⟩) NB112_129.out _).trans (((qw (p := ⟨gb129, _, none⟩) NB112_129.out _).trans (((qw (p := ⟨gb129, _, none⟩) NB112_129.out _).trans (hHeld.1)))))))), ((qw (p := ⟨gb129, _, none⟩) NB112_129.out _).trans (((qw (p := ⟨gb129, _, none⟩) NB112_129.out _).trans (((qw (p := ⟨gb129, _, none⟩) NB112_129.out _).trans (((qw (p := ⟨gb129, _, none⟩) NB112_129.out _).trans (hHeld.2.1)))))))), ((qw (p := ⟨gb129, _, none⟩) NB112_129.out _).trans (((qw (p := ⟨gb129, _, none⟩) NB112_129.out _).trans (((qw (p := ⟨gb129, _, none⟩) NB112_129.out _).trans (((qw (p := ⟨gb129, _, none⟩) NB112_129.out _).trans (hHeld.2.2.1)))))))), ((qw (p := ⟨gb129, _, none⟩) NB112_129.out _).trans (((qw (p := ⟨gb129, _, none⟩) NB112_129.out _).trans (((qw (p := ⟨gb129, _, none⟩) NB112_129.out _).trans (((qw (p := ⟨gb129, _, none⟩) NB112_129.out _).trans (hHeld.2.2.2))))))))⟩ (fun hHeld => ?_)
     clear hK K
     refine pure_ (i := 25) (N := some 7) (v := ?_) (a' := ?_) bq148 rfl rfl (qo HT_.out (by kernel_rfl)) (fun _ _ _ h => h) (Or.inl ⟨by rfl, ?_⟩) ?_ ?_
     rotate_left
     ·intro w'
      go_simp
      with_reducible rfl
     rotate_left
     ·simp only [Act.put, sq1, sq2, sq3, i64_w, i32_w]
      rfl
     refine done_ (done_of HT_.out (by kernel_rfl)) ?_
     have hnb35 := NB129_101.out
     have hnc35 := NB101_129.out
     have hnb36 := NB129_112.out
     have hnc36 := NB112_129.out
     have hnb37 := NB129_104.out
     have hnc37 := NB104_129.out
     have hcz38_0 : w28.cell? ⟨gb129, 0, none⟩ = some (.slice none 0 0) := (qd BK129.out 0).trans rfl
     have hcz38_1 : w28.cell? ⟨gb129, 1, none⟩ = some (.int .i64 0) := (qd BK129.out 1).trans rfl
     have hcz38_2 : w28.cell? ⟨gb129, 2, none⟩ = some (.int .i64 0) := (qd BK129.out 2).trans rfl
     have hcz38_3 : w28.cell? ⟨gb129, 3, none⟩ = some (.int .i64 0) := (qd BK129.out 3).trans rfl
     have hfz38_0 := qg BK129.out 0
     have hfz38_1 := qg BK129.out 1
     have hfz38_2 := qg BK129.out 2
     have hfz38_3 := qg BK129.out 3
     have hnb39 := NB112_101.out
     have hnc39 := NB101_112.out
     have hnb40 := NB112_104.out
     have hnc40 := NB104_112.out
     have hcz41_0 : w28.cell? ⟨gb112, 0, none⟩ = some (.slice Ao19 x113000_1.length co19) := (qd BK112.out 0).trans rfl
     have hcz41_1 : w28.cell? ⟨gb112, 1, none⟩ = some (.int .i64 x113001_1) := (qd BK112.out 1).trans rfl
     have hcz41_2 : w28.cell? ⟨gb112, 2, none⟩ = some (.int .i64 x113002_1) := (qd BK112.out 2).trans rfl
     have hcz41_3 : w28.cell? ⟨gb112, 3, none⟩ = some (.int .i64 x113003_1) := (qd BK112.out 3).trans rfl
     have hfz41_0 := qg BK112.out 0
     have hfz41_1 := qg BK112.out 1
     have hfz41_2 := qg BK112.out 2
     have hfz41_3 := qg BK112.out 3
     try go_wp2
     go_roundg k1
     case measure => have := HK1.out; omega
     case rel => exact ⟨(wrap64 (x5_1 - 1)), (t118), (t122), (t125), (t126), (t127), (.slice Ao30 t122.length co30), (by first | rfl | (simp; done) | (simp [*]; done)), H', ⟨by have := HK1.out; omega⟩, ⟨by (with_reducible repeat (first | apply Kd.R_alloc | apply Kd.R_drewN | apply Kd.R_drew)); exact Kd.R_mono (Kd.R_far (p := ⟨gb112, 3, none⟩) (Kd.R_far (p := ⟨gb112, 2, none⟩) (Kd.R_far (p := ⟨gb112, 1, none⟩) (Kd.R_far (p := ⟨gb112, 0, none⟩) (Kd.R_far (p := ⟨gb129, 3, none⟩) (Kd.R_far (p := ⟨gb129, 2, none⟩) (Kd.R_far (p := ⟨gb129, 1, none⟩) (Kd.R_far (p := ⟨gb129, 0, none⟩) (Kd.R_types (Kd.R_types HO124.out BK129.out (by decide)) BK112.out (by decide)) (fun _ hk => hk.1.2) (.slice Ao30 t122.length co30)) (fun _ hk => hk.1.2) (.int .i64 t125)) (fun _ hk => hk.1.2) (.int .i64 t126)) (fun _ hk => hk.1.2) (.int .i64 t127)) (fun _ hk => hk.2) (.slice Ao30 t122.length co30)) (fun _ hk => hk.2) (.int .i64 t125)) (fun _ hk => hk.2) (.int .i64 t126)) (fun _ hk => hk.2) (.int .i64 t127)) (fun _ hk => trivial)⟩, ⟨by (with_reducible repeat (first | refine qb ?_ _ | refine qe ?_ | refine qa ?_ _)); refine qt ?_ NB101_112.out _; (with_reducible repeat (first | refine qb ?_ _ | refine qe ?_ | refine qa ?_ _)); refine qt ?_ NB101_112.out _; (with_reducible repeat (first | refine qb ?_ _ | refine qe ?_ | refine qa ?_ _)); refine qt ?_ NB101_112.out _; (with_reducible repeat (first | refine qb ?_ _ | refine qe ?_ | refine qa ?_ _)); refine qt ?_ NB101_112.out _; (with_reducible repeat (first | refine qb ?_ _ | refine qe ?_ | refine qa ?_ _)); refine qt ?_ NB101_129.out _; (with_reducible repeat (first | refine qb ?_ _ | refine qe ?_ | refine qa ?_ _)); refine qt ?_ NB101_129.out _; (with_reducible repeat (first | refine qb ?_ _ | refine qe ?_ | refine qa ?_ _)); refine qt ?_ NB101_129.out _; (with_reducible repeat (first | refine qb ?_ _ | refine qe ?_ | refine qa ?_ _)); refine qt ?_ NB101_129.out _; (with_reducible repeat (first | refine qb ?_ _ | refine qe ?_ | refine qa ?_ _)); exact BK101.out⟩, ⟨by (with_reducible repeat (first | refine qb ?_ _ | refine qe ?_ | refine qa ?_ _)); refine qy (cs := #[.slice Ao30 t122.length co30, .int .i64 t125, .int .i64 t126, .int .i64 x113003_1]) ?_ 3 _ rfl; (with_reducible repeat (first | refine qb ?_ _ | refine qe ?_ | refine qa ?_ _)); refine qy (cs := #[.slice Ao30 t122.length co30, .int .i64 t125, .int .i64 x113002_1, .int .i64 x113003_1]) ?_ 2 _ rfl; (with_reducible repeat (first | refine qb ?_ _ | refine qe ?_ | refine qa ?_ _)); refine qy (cs := #[.slice Ao30 t122.length co30, .int .i64 x113001_1, .int .i64 x113002_1, .int .i64 x113003_1]) ?_ 1 _ rfl; (with_reducible repeat (first | refine qb ?_ _ | refine qe ?_ | refine qa ?_ _)); refine qy (cs := #[.slice Ao19 x113000_1.length co19, .int .i64 x113001_1, .int .i64 x113002_1, .int .i64 x113003_1]) ?_ 0 _ rfl; (with_reducible repeat (first | refine qb ?_ _ | refine qe ?_ | refine qa ?_ _)); refine qt ?_ NB112_129.out _; (with_reducible repeat (first | refine qb ?_ _ | refine qe ?_ | refine qa ?_ _)); refine qt ?_ NB112_129.out _; (with_reducible repeat (first | refine qb ?_ _ | refine qe ?_ | refine qa ?_ _)); refine qt ?_ NB112_129.out _; (with_reducible repeat (first | refine qb ?_ _ | refine qe ?_ | refine qa ?_ _)); refine qt ?_ NB112_129.out _; (with_reducible repeat (first | refine qb ?_ _ | refine qe ?_ | refine qa ?_ _)); exact BK112.out⟩, ⟨by repeat (first | (with_reducible first | exact HI104.out | apply IsS123.alloc | apply IsS123.drewN | apply IsS123.drew | apply IsS123.set_1 | apply (fun h_ => IsS123.far h_ NB104_101.out _) | apply (fun h_ => IsS123.far h_ NB104_112.out _) | apply (fun h_ => IsS123.far h_ NB104_129.out _)) | exact HI104.out)⟩, ⟨by repeat (first | (with_reducible first | exact HB.out | apply qi | apply qf | apply qh | refine qc ?_ (IsS123.ge HI104.out) | refine qc ?_ GE101.out | refine qc ?_ GE112.out | refine qc ?_ GE129.out) | exact HB.out)⟩⟩
    ·replace c18 := Bool.eq_false_iff.mpr c18
     subst c18
     have H1 : (spec_DrawPickLevel.l0 k1 (wrap64 (x5_1 - 1)) t102 t118 x113000_1 x113001_1 x113002_1 x113003_1) = some (r1, r2, r3, r4) := by rw [if_neg (show ¬ (false = true) by decide)] at H; exact H
     clear H
     have H := H1
     clear H1
     have H' := Qz.mk H
     clear H
     obtain ⟨Ao42, co42, eo42⟩ := Kd.R_slice HO_113000.out
     subst eo42
     try go_wp2
     replace HO_113000 := Qz.mk (Kd.R_drew HO_113000.out)
     replace BK101 := Qz.mk (qe BK101.out)
     replace BK112 := Qz.mk (qe BK112.out)
     replace HI104 := Qz.mk (IsS123.drew HI104.out)
     replace HB := Qz.mk (qh HB.out)
     refine start_ (n := 26) (S := fun w' => w'.cell? ⟨gb112, 0, none⟩ = some (.slice Ao42 x113000_1.length co42) ∧ w'.cell? ⟨gb112, 1, none⟩ = some (.int .i64 x113001_1) ∧ w'.cell? ⟨gb112, 2, none⟩ = some (.int .i64 x113002_1) ∧ w'.cell? ⟨gb112, 3, none⟩ = some (.int .i64 x113003_1)) (ds := []) bq1 (by kernel_rfl) rfl rfl ⟨(qd BK112.out 0).trans rfl, (qd BK112.out 1).trans rfl, (qd BK112.out 2).trans rfl, (qd BK112.out 3).trans rfl⟩ (fun hHeld => ?_); refine with_tabW spec_DrawPickLevel.tab6 spec_DrawPickLevel.bits6 (fun HT_ HW_ => ?_)
     generalize wr.drew = w43 at HO_113000 BK101 BK112 HI104 HB hHeld ⊢
     refine pure_ (i := 1) (N := some 20) (v := ?_) (a' := ?_) bq7 rfl rfl (qo HT_.out (by kernel_rfl)) (fun _ _ _ h => h) (Or.inl ⟨by rfl, ?_⟩) ?_ ?_
     rotate_left
     ·intro w'
      go_simp
      with_reducible rfl
     rotate_left
     ·simp only [Act.put, sq1, sq2, sq3, i64_w, i32_w]
      rfl
     refine pure_ (i := 4) (N := some 23) (v := ?_) (a' := ?_) bq9 rfl rfl (qo HT_.out (by kernel_rfl)) (fun _ _ _ h => h) (Or.inl ⟨by rfl, ?_⟩) ?_ ?_
     rotate_left
     ·intro w'
      go_simp
      with_reducible rfl
     rotate_left
     ·simp only [Act.put, sq1, sq2, sq3, i64_w, i32_w]
      rfl
     refine pure_ (i := 6) (N := some 25) (v := ?_) (a' := ?_) bq10 rfl rfl (qo HT_.out (by kernel_rfl)) (fun _ _ _ h => h) (Or.inl ⟨by rfl, ?_⟩) ?_ ?_
     rotate_left
     ·intro w'
      go_simp
      with_reducible rfl
     rotate_left
     ·simp only [Act.put, sq1, sq2, sq3, i64_w, i32_w]
      rfl
     refine pure_ (i := 8) (N := some 27) (v := ?_) (a' := ?_) bq11 rfl rfl (qo HT_.out (by kernel_rfl)) (fun _ _ _ h => h) (Or.inl ⟨by rfl, ?_⟩) ?_ ?_
     rotate_left
     ·intro w'
      go_simp
      with_reducible rfl
     rotate_left
     ·simp only [Act.put, sq1, sq2, sq3, i64_w, i32_w]
      rfl
     refine pure_ (i := 10) (N := some 29) (v := ?_) (a' := ?_) bq12 rfl rfl (qo HT_.out (by kernel_rfl)) (fun _ _ _ h => h) (Or.inl ⟨by rfl, ?_⟩) ?_ ?_
     rotate_left
     ·intro w'
      go_simp
      with_reducible rfl
     rotate_left
     ·simp only [Act.put, sq1, sq2, sq3, i64_w, i32_w]
      rfl
     refine pure_ (i := 13) (N := some 32) (v := ?_) (a' := ?_) bq13 rfl rfl (qo HT_.out (by kernel_rfl)) (fun _ _ _ h => h) (Or.inl ⟨by rfl, ?_⟩) ?_ ?_
     rotate_left
     ·intro w'
      go_simp
      with_reducible rfl
     rotate_left
     ·simp only [Act.put, sq1, sq2, sq3, i64_w, i32_w]
      rfl
     refine take_ (i := 0) (N := some 19) (v := ?_) (a' := ?_) bq27 rfl rfl (qa1 HT_.out HW_.out (by kernel_rfl)) (fun _ _ _ h => h) (Or.inl ⟨by rfl, ?_⟩) hHeld ?_ ?_
     rotate_left
     ·rintro w' ⟨s0, s1, s2, s3⟩
      go_simp
      with_reducible rfl
     rotate_left
     ·simp only [Act.put, sq1, sq2, sq3, i64_w, i32_w]
      rfl
     refine take_ (i := 2) (N := some 21) (v := ?_) (a' := ?_) bq35 rfl rfl (qa1 HT_.out HW_.out (by kernel_rfl)) (fun _ _ _ h => h) (Or.inl ⟨by rfl, ?_⟩) hHeld ?_ ?_
     rotate_left
     ·rintro w' ⟨s0, s1, s2, s3⟩
      go_simp
      with_reducible rfl
     rotate_left
     ·simp only [Act.put, sq1, sq2, sq3, i64_w, i32_w]
      rfl
     refine pure_ (i := 3) (N := some 22) (v := ?_) (a' := ?_) bq48 rfl rfl (qo HT_.out (by kernel_rfl)) (fun _ _ _ h => h) (Or.inl ⟨by rfl, ?_⟩) ?_ ?_
     rotate_left
     ·intro w'
      go_simp
      with_reducible rfl
     rotate_left
     ·simp only [Act.put, sq1, sq2, sq3, i64_w, i32_w]
      rfl
     refine take_ (i := 5) (N := some 24) (v := ?_) (a' := ?_) bq64 rfl rfl (qa1 HT_.out HW_.out (by kernel_rfl)) (fun _ _ _ h => h) (Or.inl ⟨by rfl, ?_⟩) hHeld ?_ ?_
     rotate_left
     ·rintro w' ⟨s0, s1, s2, s3⟩
      go_simp
      with_reducible rfl
     rotate_left
     ·simp only [Act.put, sq1, sq2, sq3, i64_w, i32_w]
      rfl
     refine take_ (i := 7) (N := some 26) (v := ?_) (a' := ?_) bq77 rfl rfl (qa1 HT_.out HW_.out (by kernel_rfl)) (fun _ _ _ h => h) (Or.inl ⟨by rfl, ?_⟩) hHeld ?_ ?_
     rotate_left
     ·rintro w' ⟨s0, s1, s2, s3⟩
      go_simp
      with_reducible rfl
     rotate_left
     ·simp only [Act.put, sq1, sq2, sq3, i64_w, i32_w]
      rfl
     refine take_ (i := 9) (N := some 28) (v := ?_) (a' := ?_) bq85 rfl rfl (qa1 HT_.out HW_.out (by kernel_rfl)) (fun _ _ _ h => h) (Or.inl ⟨by rfl, ?_⟩) hHeld ?_ ?_
     rotate_left
     ·rintro w' ⟨s0, s1, s2, s3⟩
      go_simp
      with_reducible rfl
     rotate_left
     ·simp only [Act.put, sq1, sq2, sq3, i64_w, i32_w]
      rfl
     refine join_ (σ := Value × Value × Nat) 2 bq133 (fun s_ => [(30, .int .i64 t115), (33, .int .i64 t117), (36, s_.1), (38, .tuple #[.agg #[s_.2.1, .int .i64 t125, .int .i64 t126, .int .i64 t127], .bool false]), (6, .pointer (some ⟨s_.2.2, 0, none⟩)), (31, .int .i64 (wrap64 (Int.tdiv t115 4))), (34, .int .i64 (wrap64 (1 + t117))), (35, .agg #[.int .i64 x113001_1, .int .i64 (wrap64 (Int.tdiv t115 4)), .string (⟨#[97]⟩ : ByteArray), .string (⟨#[98]⟩ : ByteArray), .int .i64 (wrap64 (1 + t117))]), (37, .agg #[s_.1, .slice none 0 0, .int .i64 (wrap64 (x113001_1 + 1)), .int .i64 x113002_1, .int .i64 x113003_1]), (18, .tuple #[.agg #[s_.2.1, .int .i64 t125, .int .i64 t126, .int .i64 t127], .bool false]), (39, .agg #[s_.2.1, .int .i64 t125, .int .i64 t126, .int .i64 t127]), (40, .bool false)]) (fun s_ w' => (w'.cell? ⟨gb112, 0, none⟩ = some (.slice Ao42 x113000_1.length co42) ∧ w'.cell? ⟨gb112, 1, none⟩ = some (.int .i64 x113001_1) ∧ w'.cell? ⟨gb112, 2, none⟩ = some (.int .i64 x113002_1) ∧ w'.cell? ⟨gb112, 3, none⟩ = some (.int .i64 x113003_1)) ∧ (Kd.R k66 66 w' w.heap.size (fun k_ => some k_ ≠ (s_.2.1 : Value).ownBlock ∧ some k_ ≠ (.slice Ao42 x113000_1.length co42 : Value).ownBlock) s_.1 y119) ∧ (Kd.R k66 66 w' w.heap.size (fun k_ => some k_ ≠ (s_.1 : Value).ownBlock ∧ some k_ ≠ (.slice Ao42 x113000_1.length co42 : Value).ownBlock) s_.2.1 t122) ∧ (Kd.R k66 66 w' w.heap.size (fun k_ => some k_ ≠ (s_.1 : Value).ownBlock ∧ some k_ ≠ (s_.2.1 : Value).ownBlock) (.slice Ao42 x113000_1.length co42) x113000_1) ∧ (w'.heap[gb101]? = some (.cells #[.slice none 0 0, .int .i64 0, .int .i64 0, .int .i64 0] 32 (0, 0))) ∧ (w'.heap[gb112]? = some (.cells #[.slice Ao42 x113000_1.length co42, .int .i64 x113001_1, .int .i64 x113002_1, .int .i64 x113003_1] 32 (0, 0))) ∧ (w'.heap[s_.2.2]? = some (.cells #[.slice none 0 0, .int .i64 0, .int .i64 0, .int .i64 0] 32 (0, 0))) ∧ (w.heap.size ≤ s_.2.2) ∧ (w.heap.size ≤ s_.2.2) ∧ (g104 ≠ s_.2.2) ∧ (s_.2.2 ≠ g104) ∧ (gb101 ≠ s_.2.2) ∧ (s_.2.2 ≠ gb101) ∧ (gb112 ≠ s_.2.2) ∧ (s_.2.2 ≠ gb112) ∧ (IsS123 w w' g104 t102 t118) ∧ (Below w.heap.size w w')) ?_ ?_
     rotate_left
     ·intro hJ11_14_17_19_23
      refine join_ (σ := Value × Value) 3 bq131 (fun s_ => [(30, .int .i64 t115), (33, .int .i64 t117), (36, s_.1), (38, .tuple #[.agg #[s_.2, .int .i64 t125, .int .i64 t126, .int .i64 t127], .bool false]), (31, .int .i64 (wrap64 (Int.tdiv t115 4))), (34, .int .i64 (wrap64 (1 + t117))), (35, .agg #[.int .i64 x113001_1, .int .i64 (wrap64 (Int.tdiv t115 4)), .string (⟨#[97]⟩ : ByteArray), .string (⟨#[98]⟩ : ByteArray), .int .i64 (wrap64 (1 + t117))]), (37, .agg #[s_.1, .slice none 0 0, .int .i64 (wrap64 (x113001_1 + 1)), .int .i64 x113002_1, .int .i64 x113003_1]), (18, .tuple #[.agg #[s_.2, .int .i64 t125, .int .i64 t126, .int .i64 t127], .bool false]), (39, .agg #[s_.2, .int .i64 t125, .int .i64 t126, .int .i64 t127]), (40, .bool false)]) (fun s_ w' => (w'.cell? ⟨gb112, 0, none⟩ = some (.slice Ao42 x113000_1.length co42) ∧ w'.cell? ⟨gb112, 1, none⟩ = some (.int .i64 x113001_1) ∧ w'.cell? ⟨gb112, 2, none⟩ = some (.int .i64 x113002_1) ∧ w'.cell? ⟨gb112, 3, none⟩ = some (.int .i64 x113003_1)) ∧ (Kd.R k66 66 w' w.heap.size (fun k_ => some k_ ≠ (s_.2 : Value).ownBlock ∧ some k_ ≠ (.slice Ao42 x113000_1.length co42 : Value).ownBlock) s_.1 y119) ∧ (Kd.R k66 66 w' w.heap.size (fun k_ => some k_ ≠ (s_.1 : Value).ownBlock ∧ some k_ ≠ (.slice Ao42 x113000_1.length co42 : Value).ownBlock) s_.2 t122) ∧ (Kd.R k66 66 w' w.heap.size (fun k_ => some k_ ≠ (s_.1 : Value).ownBlock ∧ some k_ ≠ (s_.2 : Value).ownBlock) (.slice Ao42 x113000_1.length co42) x113000_1) ∧ (w'.heap[gb101]? = some (.cells #[.slice none 0 0, .int .i64 0, .int .i64 0, .int .i64 0] 32 (0, 0))) ∧ (w'.heap[gb112]? = some (.cells #[.slice Ao42 x113000_1.length co42, .int .i64 x113001_1, .int .i64 x113002_1, .int .i64 x113003_1] 32 (0, 0))) ∧ (IsS123 w w' g104 t102 t118) ∧ (Below w.heap.size w w')) ?_ ?_
      rotate_left
      ·intro hJ11_14_17_19
       refine join_ (σ := Value × Nat) 6 bq120 (fun s_ => [(30, .int .i64 t115), (33, .int .i64 t117), (36, s_.1), (6, .pointer (some ⟨s_.2, 0, none⟩)), (31, .int .i64 (wrap64 (Int.tdiv t115 4))), (34, .int .i64 (wrap64 (1 + t117))), (35, .agg #[.int .i64 x113001_1, .int .i64 (wrap64 (Int.tdiv t115 4)), .string (⟨#[97]⟩ : ByteArray), .string (⟨#[98]⟩ : ByteArray), .int .i64 (wrap64 (1 + t117))]), (37, .agg #[s_.1, .slice none 0 0, .int .i64 (wrap64 (x113001_1 + 1)), .int .i64 x113002_1, .int .i64 x113003_1])]) (fun s_ w' => (w'.cell? ⟨gb112, 0, none⟩ = some (.slice Ao42 x113000_1.length co42) ∧ w'.cell? ⟨gb112, 1, none⟩ = some (.int .i64 x113001_1) ∧ w'.cell? ⟨gb112, 2, none⟩ = some (.int .i64 x113002_1) ∧ w'.cell? ⟨gb112, 3, none⟩ = some (.int .i64 x113003_1)) ∧ (Kd.R k66 66 w' w.heap.size (fun k_ => some k_ ≠ (.slice Ao42 x113000_1.length co42 : Value).ownBlock) s_.1 y119) ∧ (Kd.R k66 66 w' w.heap.size (fun k_ => some k_ ≠ (s_.1 : Value).ownBlock) (.slice Ao42 x113000_1.length co42) x113000_1) ∧ (w'.heap[gb101]? = some (.cells #[.slice none 0 0, .int .i64 0, .int .i64 0, .int .i64 0] 32 (0, 0))) ∧ (w'.heap[gb112]? = some (.cells #[.slice Ao42 x113000_1.length co42, .int .i64 x113001_1, .int .i64 x113002_1, .int .i64 x113003_1] 32 (0, 0))) ∧ (w'.heap[s_.2]? = some (.cells #[.slice none 0 0, .int .i64 0, .int .i64 0, .int .i64 0] 32 (0, 0))) ∧ (w.heap.size ≤ s_.2) ∧ (w.heap.size ≤ s_.2) ∧ (g104 ≠ s_.2) ∧ (s_.2 ≠ g104) ∧ (gb101 ≠ s_.2) ∧ (s_.2 ≠ gb101) ∧ (gb112 ≠ s_.2) ∧ (s_.2 ≠ gb112) ∧ (IsS123 w w' g104 t102 t118) ∧ (Below w.heap.size w w')) ?_ ?_
       rotate_left
       ·intro hJ11_14_17_23
        refine join_ (σ := Value) 7 bq119 (fun s_ => [(30, .int .i64 t115), (33, .int .i64 t117), (36, s_), (31, .int .i64 (wrap64 (Int.tdiv t115 4))), (34, .int .i64 (wrap64 (1 + t117))), (35, .agg #[.int .i64 x113001_1, .int .i64 (wrap64 (Int.tdiv t115 4)), .string (⟨#[97]⟩ : ByteArray), .string (⟨#[98]⟩ : ByteArray), .int .i64 (wrap64 (1 + t117))]), (37, .agg #[s_, .slice none 0 0, .int .i64 (wrap64 (x113001_1 + 1)), .int .i64 x113002_1, .int .i64 x113003_1])]) (fun s_ w' => (w'.cell? ⟨gb112, 0, none⟩ = some (.slice Ao42 x113000_1.length co42) ∧ w'.cell? ⟨gb112, 1, none⟩ = some (.int .i64 x113001_1) ∧ w'.cell? ⟨gb112, 2, none⟩ = some (.int .i64 x113002_1) ∧ w'.cell? ⟨gb112, 3, none⟩ = some (.int .i64 x113003_1)) ∧ (Kd.R k66 66 w' w.heap.size (fun k_ => some k_ ≠ (.slice Ao42 x113000_1.length co42 : Value).ownBlock) s_ y119) ∧ (Kd.R k66 66 w' w.heap.size (fun k_ => some k_ ≠ (s_ : Value).ownBlock) (.slice Ao42 x113000_1.length co42) x113000_1) ∧ (w'.heap[gb101]? = some (.cells #[.slice none 0 0, .int .i64 0, .int .i64 0, .int .i64 0] 32 (0, 0))) ∧ (w'.heap[gb112]? = some (.cells #[.slice Ao42 x113000_1.length co42, .int .i64 x113001_1, .int .i64 x113002_1, .int .i64 x113003_1] 32 (0, 0))) ∧ (IsS123 w w' g104 t102 t118) ∧ (Below w.heap.size w w')) ?_ ?_
        rotate_left
        ·intro hJ11_14_17
         refine join_ (σ := Nat) 8 bq113 (fun s_ => [(30, .int .i64 t115), (33, .int .i64 t117), (6, .pointer (some ⟨s_, 0, none⟩)), (31, .int .i64 (wrap64 (Int.tdiv t115 4))), (34, .int .i64 (wrap64 (1 + t117))), (35, .agg #[.int .i64 x113001_1, .int .i64 (wrap64 (Int.tdiv t115 4)), .string (⟨#[97]⟩ : ByteArray), .string (⟨#[98]⟩ : ByteArray), .int .i64 (wrap64 (1 + t117))])]) (fun s_ w' => (w'.cell? ⟨gb112, 0, none⟩ = some (.slice Ao42 x113000_1.length co42) ∧ w'.cell? ⟨gb112, 1, none⟩ = some (.int .i64 x113001_1) ∧ w'.cell? ⟨gb112, 2, none⟩ = some (.int .i64 x113002_1) ∧ w'.cell? ⟨gb112, 3, none⟩ = some (.int .i64 x113003_1)) ∧ (Kd.R k66 66 w' w.heap.size (fun _ => True) (.slice Ao42 x113000_1.length co42) x113000_1) ∧ (w'.heap[gb101]? = some (.cells #[.slice none 0 0, .int .i64 0, .int .i64 0, .int .i64 0] 32 (0, 0))) ∧ (w'.heap[gb112]? = some (.cells #[.slice Ao42 x113000_1.length co42, .int .i64 x113001_1, .int .i64 x113002_1, .int .i64 x113003_1] 32 (0, 0))) ∧ (w'.heap[s_]? = some (.cells #[.slice none 0 0, .int .i64 0, .int .i64 0, .int .i64 0] 32 (0, 0))) ∧ (w.heap.size ≤ s_) ∧ (w.heap.size ≤ s_) ∧ (g104 ≠ s_) ∧ (s_ ≠ g104) ∧ (gb101 ≠ s_) ∧ (s_ ≠ gb101) ∧ (gb112 ≠ s_) ∧ (s_ ≠ gb112) ∧ (IsS123 w w' g104 t102 t118) ∧ (Below w.heap.size w w')) ?_ ?_
         rotate_left
         ·intro hJ11_14_23
          refine join_ (σ := Unit) 9 bq112 (fun s_ => [(30, .int .i64 t115), (33, .int .i64 t117), (31, .int .i64 (wrap64 (Int.tdiv t115 4))), (34, .int .i64 (wrap64 (1 + t117))), (35, .agg #[.int .i64 x113001_1, .int .i64 (wrap64 (Int.tdiv t115 4)), .string (⟨#[97]⟩ : ByteArray), .string (⟨#[98]⟩ : ByteArray), .int .i64 (wrap64 (1 + t117))])]) (fun s_ w' => (w'.cell? ⟨gb112, 0, none⟩ = some (.slice Ao42 x113000_1.length co42) ∧ w'.cell? ⟨gb112, 1, none⟩ = some (.int .i64 x113001_1) ∧ w'.cell? ⟨gb112, 2, none⟩ = some (.int .i64 x113002_1) ∧ w'.cell? ⟨gb112, 3, none⟩ = some (.int .i64 x113003_1)) ∧ (Kd.R k66 66 w' w.heap.size (fun _ => True) (.slice Ao42 x113000_1.length co42) x113000_1) ∧ (w'.heap[gb101]? = some (.cells #[.slice none 0 0, .int .i64 0, .int .i64 0, .int .i64 0] 32 (0, 0))) ∧ (w'.heap[gb112]? = some (.cells #[.slice Ao42 x113000_1.length co42, .int .i64 x113001_1, .int .i64 x113002_1, .int .i64 x113003_1] 32 (0, 0))) ∧ (IsS123 w w' g104 t102 t118) ∧ (Below w.heap.size w w')) ?_ ?_
          rotate_left
          ·intro hJ11_14
           refine join_ (σ := Nat) 11 bq98 (fun s_ => [(30, .int .i64 t115), (6, .pointer (some ⟨s_, 0, none⟩)), (31, .int .i64 (wrap64 (Int.tdiv t115 4)))]) (fun s_ w' => (w'.cell? ⟨gb112, 0, none⟩ = some (.slice Ao42 x113000_1.length co42) ∧ w'.cell? ⟨gb112, 1, none⟩ = some (.int .i64 x113001_1) ∧ w'.cell? ⟨gb112, 2, none⟩ = some (.int .i64 x113002_1) ∧ w'.cell? ⟨gb112, 3, none⟩ = some (.int .i64 x113003_1)) ∧ (Kd.R k66 66 w' w.heap.size (fun _ => True) (.slice Ao42 x113000_1.length co42) x113000_1) ∧ (w'.heap[gb101]? = some (.cells #[.slice none 0 0, .int .i64 0, .int .i64 0, .int .i64 0] 32 (0, 0))) ∧ (w'.heap[gb112]? = some (.cells #[.slice Ao42 x113000_1.length co42, .int .i64 x113001_1, .int .i64 x113002_1, .int .i64 x113003_1] 32 (0, 0))) ∧ (w'.heap[s_]? = some (.cells #[.slice none 0 0, .int .i64 0, .int .i64 0, .int .i64 0] 32 (0, 0))) ∧ (w.heap.size ≤ s_) ∧ (w.heap.size ≤ s_) ∧ (g104 ≠ s_) ∧ (s_ ≠ g104) ∧ (gb101 ≠ s_) ∧ (s_ ≠ gb101) ∧ (gb112 ≠ s_) ∧ (s_ ≠ gb112) ∧ (IsS123 w w' g104 t102 t116) ∧ (Below w.heap.size w w')) ?_ ?_
           rotate_left
           ·intro hJ11_23
            refine join_ (σ := Unit) 12 bq97 (fun s_ => [(30, .int .i64 t115), (31, .int .i64 (wrap64 (Int.tdiv t115 4)))]) (fun s_ w' => (w'.cell? ⟨gb112, 0, none⟩ = some (.slice Ao42 x113000_1.length co42) ∧ w'.cell? ⟨gb112, 1, none⟩ = some (.int .i64 x113001_1) ∧ w'.cell? ⟨gb112, 2, none⟩ = some (.int .i64 x113002_1) ∧ w'.cell? ⟨gb112, 3, none⟩ = some (.int .i64 x113003_1)) ∧ (Kd.R k66 66 w' w.heap.size (fun _ => True) (.slice Ao42 x113000_1.length co42) x113000_1) ∧ (w'.heap[gb101]? = some (.cells #[.slice none 0 0, .int .i64 0, .int .i64 0, .int .i64 0] 32 (0, 0))) ∧ (w'.heap[gb112]? = some (.cells #[.slice Ao42 x113000_1.length co42, .int .i64 x113001_1, .int .i64 x113002_1, .int .i64 x113003_1] 32 (0, 0))) ∧ (IsS123 w w' g104 t102 t116) ∧ (Below w.heap.size w w')) ?_ ?_
            rotate_left
            ·intro hJ11
             refine join_ (σ := Nat) 13 bq86 (fun s_ => [(6, .pointer (some ⟨s_, 0, none⟩))]) (fun s_ w' => (w'.cell? ⟨gb112, 0, none⟩ = some (.slice Ao42 x113000_1.length co42) ∧ w'.cell? ⟨gb112, 1, none⟩ = some (.int .i64 x113001_1) ∧ w'.cell? ⟨gb112, 2, none⟩ = some (.int .i64 x113002_1) ∧ w'.cell? ⟨gb112, 3, none⟩ = some (.int .i64 x113003_1)) ∧ (Kd.R k66 66 w' w.heap.size (fun _ => True) (.slice Ao42 x113000_1.length co42) x113000_1) ∧ (w'.heap[gb101]? = some (.cells #[.slice none 0 0, .int .i64 0, .int .i64 0, .int .i64 0] 32 (0, 0))) ∧ (w'.heap[gb112]? = some (.cells #[.slice Ao42 x113000_1.length co42, .int .i64 x113001_1, .int .i64 x113002_1, .int .i64 x113003_1] 32 (0, 0))) ∧ (w'.heap[s_]? = some (.cells #[.slice none 0 0, .int .i64 0, .int .i64 0, .int .i64 0] 32 (0, 0))) ∧ (w.heap.size ≤ s_) ∧ (w.heap.size ≤ s_) ∧ (g104 ≠ s_) ∧ (s_ ≠ g104) ∧ (gb101 ≠ s_) ∧ (s_ ≠ gb101) ∧ (gb112 ≠ s_) ∧ (s_ ≠ gb112) ∧ (IsS123 w w' g104 t102 x105001_1) ∧ (Below w.heap.size w w')) ?_ ?_
             rotate_left
             ·intro hJ23
              refine two_ (i := 11) (j := 23) (Ni := some 30) (Nj := some 6) bq90 bq86 rfl rfl rfl rfl (two_of HT_.out (by kernel_rfl)) (by decide) (by decide) (fun K hK => ?_) (fun K hK => ?_)
              ·skip
               refine goes_ Try.func80 (by kernel_rfl) rfl #[.pointer (some ⟨g104, 0, none⟩), .int .i64 5] (by rfl) rfl rfl yq119 ?_
               with_reducible refine (spec_l1Rd_below.calls g104 t102 x105001_1 5 t115 t116 w _ ?side1 ?side2 A15.out).mono ?_
               (case side1 => exact yq110)
               (case side2 => exact yq107)
               rintro e w44 ⟨rfl, hi, hb, hk⟩
               refine ⟨_, rfl, ?_⟩
               replace HO_113000 := Qz.mk (Kd.R_mono (Kd.R_keep (IsS123.apart (show IsS123 w _ g104 t102 x105001_1 from by repeat (first | (with_reducible first | exact HI104.out | apply IsS123.alloc | apply IsS123.drewN | apply IsS123.drew | apply IsS123.set_1 | apply (fun h_ => IsS123.far h_ NB104_101.out _) | apply (fun h_ => IsS123.far h_ NB104_112.out _)) | exact HI104.out)) yq112 (by decide)) hk (fun _ h => h.2)) (fun _ h => h.1))
               replace BK101 := Qz.mk (KeepBut.blk hk (g' := gb101) (o := .cells #[.slice none 0 0, .int .i64 0, .int .i64 0, .int .i64 0] 32 (0, 0)) yq108 NB101_104.out (by simp))
               replace BK112 := Qz.mk (KeepBut.blk hk (g' := gb112) (o := .cells #[.slice Ao42 x113000_1.length co42, .int .i64 x113001_1, .int .i64 x113002_1, .int .i64 x113003_1] 32 (0, 0)) yq109 NB112_104.out (by simp))
               replace HB := Qz.mk (hb)
               replace HI104 := Qz.mk (hi)
               (try clear hb)
               (try clear hb2)
               (try clear hk)
               (try clear hi)
               refine hK.out _ _ ⟨(qd BK112.out 0).trans rfl, (qd BK112.out 1).trans rfl, (qd BK112.out 2).trans rfl, (qd BK112.out 3).trans rfl⟩ (fun hHeld => ?_)
               clear hK K
               refine norm_ (a' := ?_) ?_ ?_
               rotate_left
               ·show Act.put _ (some 30) _ = _
                simp only [Act.put, sq1, sq2, sq3, i64_w, i32_w]
                rfl
               refine pure_ (i := 12) (N := some 31) (v := ?_) (a' := ?_) bq97 rfl rfl (qo HT_.out (by kernel_rfl)) (fun _ _ _ h => h) (Or.inl ⟨by rfl, ?_⟩) ?_ ?_
               rotate_left
               ·intro w'
                go_simp
                with_reducible rfl
               rotate_left
               ·simp only [Act.put, sq1, sq2, sq3, i64_w, i32_w]
                rfl
               exact norm_ yq113 (hJ11 () _ ⟨hHeld, yq112, yq108, yq109, yq110, yq107⟩)
              ·skip
               refine box_step ?hg (N := 6) ?hd (cs := #[.slice none 0 0, .int .i64 0, .int .i64 0, .int .i64 0]) (t := 32) ?hr ?_; (case hd => rfl); (case hg => rfl); (case hr => exact yq124)
               intro gb129 hg w44 hbox hb
               replace HO_113000 := Qz.mk (Kd.R_below yq112 hb)
               have BK129 := Qz.mk (hbox)
               have GW129 := Qz.mk ((by rw [hg]; exact (qz yq107) : w.heap.size ≤ gb129))
               have GE129 := GW129
               replace HB := Qz.mk (qq yq107 hb)
               have NB101_129 := Qz.mk ((yq116 : gb101 ≠ gb129))
               have NB129_101 := Qz.mk ((yq117 : gb129 ≠ gb101))
               replace BK101 := Qz.mk (qp (g := gb101) (o := .cells #[.slice none 0 0, .int .i64 0, .int .i64 0, .int .i64 0] 32 (0, 0)) yq108 hb)
               have NB112_129 := Qz.mk ((yq120 : gb112 ≠ gb129))
               have NB129_112 := Qz.mk ((yq122 : gb129 ≠ gb112))
               replace BK112 := Qz.mk (qp (g := gb112) (o := .cells #[.slice Ao42 x113000_1.length co42, .int .i64 x113001_1, .int .i64 x113002_1, .int .i64 x113003_1] 32 (0, 0)) yq109 hb)
               have NB104_129 := Qz.mk ((by rw [hg]; exact Nat.ne_of_lt (IsS123.lt (show IsS123 w _ g104 t102 x105001_1 from by repeat (first | (with_reducible first | exact HI104.out | apply IsS123.alloc | apply IsS123.drewN | apply IsS123.drew | apply IsS123.set_1 | apply (fun h_ => IsS123.far h_ NB104_101.out _) | apply (fun h_ => IsS123.far h_ NB104_112.out _)) | exact HI104.out))) : g104 ≠ gb129))
               have NB129_104 := Qz.mk ((by rw [hg]; exact Nat.ne_of_gt (IsS123.lt (show IsS123 w _ g104 t102 x105001_1 from by repeat (first | (with_reducible first | exact HI104.out | apply IsS123.alloc | apply IsS123.drewN | apply IsS123.drew | apply IsS123.set_1 | apply (fun h_ => IsS123.far h_ NB104_101.out _) | apply (fun h_ => IsS123.far h_ NB104_112.out _)) | exact HI104.out))) : gb129 ≠ g104))
               replace HI104 := Qz.mk (IsS123.below yq110 hb)
               clear hb hbox hg
               refine hK.out _ _ ⟨(qd BK112.out 0).trans rfl, (qd BK112.out 1).trans rfl, (qd BK112.out 2).trans rfl, (qd BK112.out 3).trans rfl⟩ (fun hHeld => ?_)
               clear hK K
               refine norm_ (a' := ?_) ?_ ?_
               rotate_left
               ·show Act.put _ (some 6) _ = _
                simp only [Act.put, sq1, sq2, sq3, i64_w, i32_w]
                rfl
               exact norm_ yq113 (hJ23 (gb129) _ ⟨hHeld, yq112, yq108, yq109, yq114, GW129.out, GE129.out, NB104_129.out, NB129_104.out, NB101_129.out, NB129_101.out, NB112_129.out, NB129_112.out, yq106, yq111⟩)
             ·skip
              rintro gb129 w45 ⟨hS_, h0_, h1_, h2_, h3_, h4_, h5_, h6_, h7_, h8_, h9_, h10_, h11_, h12_, h13_⟩
              have n0_ : Qz (Kd.R k66 66 w45 w.heap.size (fun _ => True) (.slice Ao42 x113000_1.length co42) x113000_1) := ⟨h0_⟩
              have n1_ : Qz (w45.heap[gb101]? = some (.cells #[.slice none 0 0, .int .i64 0, .int .i64 0, .int .i64 0] 32 (0, 0))) := ⟨h1_⟩
              have n2_ : Qz (w45.heap[gb112]? = some (.cells #[.slice Ao42 x113000_1.length co42, .int .i64 x113001_1, .int .i64 x113002_1, .int .i64 x113003_1] 32 (0, 0))) := ⟨h2_⟩
              have n3_ : Qz (w45.heap[gb129]? = some (.cells #[.slice none 0 0, .int .i64 0, .int .i64 0, .int .i64 0] 32 (0, 0))) := ⟨h3_⟩
              have n4_ : Qz (w.heap.size ≤ gb129) := ⟨h4_⟩
              have n5_ : Qz (w.heap.size ≤ gb129) := ⟨h5_⟩
              have n6_ : Qz (g104 ≠ gb129) := ⟨h6_⟩
              have n7_ : Qz (gb129 ≠ g104) := ⟨h7_⟩
              have n8_ : Qz (gb101 ≠ gb129) := ⟨h8_⟩
              have n9_ : Qz (gb129 ≠ gb101) := ⟨h9_⟩
              have n10_ : Qz (gb112 ≠ gb129) := ⟨h10_⟩
              have n11_ : Qz (gb129 ≠ gb112) := ⟨h11_⟩
              have n12_ : Qz (IsS123 w w45 g104 t102 x105001_1) := ⟨h12_⟩
              have n13_ : Qz (Below w.heap.size w w45) := ⟨h13_⟩
              clear HO_113000
              clear BK101
              clear BK112
              clear HI104
              clear HB
              clear h0_ h1_ h2_ h3_ h4_ h5_ h6_ h7_ h8_ h9_ h10_ h11_ h12_ h13_
              have HO_113000 := n0_
              have BK101 := n1_
              have BK112 := n2_
              have BK129 := n3_
              have GW129 := n4_
              have GE129 := n5_
              have NB104_129 := n6_
              have NB129_104 := n7_
              have NB101_129 := n8_
              have NB129_101 := n9_
              have NB112_129 := n10_
              have NB129_112 := n11_
              have HI104 := n12_
              have HB := n13_
              clear n0_ n1_ n2_ n3_ n4_ n5_ n6_ n7_ n8_ n9_ n10_ n11_ n12_ n13_
              have hHeld : w45.cell? ⟨gb112, 0, none⟩ = some (.slice Ao42 x113000_1.length co42) ∧ w45.cell? ⟨gb112, 1, none⟩ = some (.int .i64 x113001_1) ∧ w45.cell? ⟨gb112, 2, none⟩ = some (.int .i64 x113002_1) ∧ w45.cell? ⟨gb112, 3, none⟩ = some (.int .i64 x113003_1) := hS_
              refine norm_ (a' := ?_) ?_ ?_
              rotate_left
              ·simp only [putAll, Act.put, sq1, sq2, sq3]
               rfl
              refine one_ (i := 11) (N := some 30) bq91 rfl rfl (one_of HT_.out (by kernel_rfl)) (by decide) (fun K hK => ?_)
              refine goes_ Try.func80 (by kernel_rfl) rfl #[.pointer (some ⟨g104, 0, none⟩), .int .i64 5] (by rfl) rfl rfl yq119 ?_
              with_reducible refine (spec_l1Rd_below.calls g104 t102 x105001_1 5 t115 t116 w _ ?side1 ?side2 A15.out).mono ?_
              (case side1 => exact yq106)
              (case side2 => exact yq111)
              rintro e w46 ⟨rfl, hi, hb, hk⟩
              refine ⟨_, rfl, ?_⟩
              replace HO_113000 := Qz.mk (Kd.R_mono (Kd.R_keep (IsS123.apart (show IsS123 w _ g104 t102 x105001_1 from by repeat (first | (with_reducible first | exact HI104.out | apply IsS123.alloc | apply IsS123.drewN | apply IsS123.drew | apply IsS123.set_1 | apply (fun h_ => IsS123.far h_ NB104_101.out _) | apply (fun h_ => IsS123.far h_ NB104_112.out _) | apply (fun h_ => IsS123.far h_ NB104_129.out _)) | exact HI104.out)) yq112 (by decide)) hk (fun _ h => h.2)) (fun _ h => h.1))
              replace BK101 := Qz.mk (KeepBut.blk hk (g' := gb101) (o := .cells #[.slice none 0 0, .int .i64 0, .int .i64 0, .int .i64 0] 32 (0, 0)) yq108 NB101_104.out (by simp))
              replace BK112 := Qz.mk (KeepBut.blk hk (g' := gb112) (o := .cells #[.slice Ao42 x113000_1.length co42, .int .i64 x113001_1, .int .i64 x113002_1, .int .i64 x113003_1] 32 (0, 0)) yq109 NB112_104.out (by simp))
              replace BK129 := Qz.mk (KeepBut.blk hk (g' := gb129) (o := .cells #[.slice none 0 0, .int .i64 0, .int .i64 0, .int .i64 0] 32 (0, 0)) yq114 NB129_104.out (by simp))
              replace HB := Qz.mk (hb)
              replace HI104 := Qz.mk (hi)
              (try clear hb)
              (try clear hb2)
              (try clear hk)
              (try clear hi)
              refine hK.out _ _ ⟨(qd BK112.out 0).trans rfl, (qd BK112.out 1).trans rfl, (qd BK112.out 2).trans rfl, (qd BK112.out 3).trans rfl⟩ (fun hHeld => ?_)
              clear hK K
              refine norm_ (a' := ?_) ?_ ?_
              rotate_left
              ·show Act.put _ (some 30) _ = _
               simp only [Act.put, sq1, sq2, sq3, i64_w, i32_w]
               rfl
              refine pure_ (i := 12) (N := some 31) (v := ?_) (a' := ?_) bq98 rfl rfl (qo HT_.out (by kernel_rfl)) (fun _ _ _ h => h) (Or.inl ⟨by rfl, ?_⟩) ?_ ?_
              rotate_left
              ·intro w'
               go_simp
               with_reducible rfl
              rotate_left
              ·simp only [Act.put, sq1, sq2, sq3, i64_w, i32_w]
               rfl
              exact norm_ yq113 (hJ11_23 (gb129) _ ⟨hHeld, yq112, yq108, yq109, yq114, GW129.out, GE129.out, NB104_129.out, NB129_104.out, NB101_129.out, NB129_101.out, NB112_129.out, NB129_112.out, yq106, yq111⟩)
            ·skip
             rintro _ w45 ⟨hS_, h0_, h1_, h2_, h3_, h4_⟩
             have n0_ : Qz (Kd.R k66 66 w45 w.heap.size (fun _ => True) (.slice Ao42 x113000_1.length co42) x113000_1) := ⟨h0_⟩
             have n1_ : Qz (w45.heap[gb101]? = some (.cells #[.slice none 0 0, .int .i64 0, .int .i64 0, .int .i64 0] 32 (0, 0))) := ⟨h1_⟩
             have n2_ : Qz (w45.heap[gb112]? = some (.cells #[.slice Ao42 x113000_1.length co42, .int .i64 x113001_1, .int .i64 x113002_1, .int .i64 x113003_1] 32 (0, 0))) := ⟨h2_⟩
             have n3_ : Qz (IsS123 w w45 g104 t102 t116) := ⟨h3_⟩
             have n4_ : Qz (Below w.heap.size w w45) := ⟨h4_⟩
             clear HO_113000
             clear BK101
             clear BK112
             clear HI104
             clear HB
             clear h0_ h1_ h2_ h3_ h4_
             have HO_113000 := n0_
             have BK101 := n1_
             have BK112 := n2_
             have HI104 := n3_
             have HB := n4_
             clear n0_ n1_ n2_ n3_ n4_
             have hHeld : w45.cell? ⟨gb112, 0, none⟩ = some (.slice Ao42 x113000_1.length co42) ∧ w45.cell? ⟨gb112, 1, none⟩ = some (.int .i64 x113001_1) ∧ w45.cell? ⟨gb112, 2, none⟩ = some (.int .i64 x113002_1) ∧ w45.cell? ⟨gb112, 3, none⟩ = some (.int .i64 x113003_1) := hS_
             refine norm_ (a' := ?_) ?_ ?_
             rotate_left
             ·simp only [putAll, Act.put, sq1, sq2, sq3]
              rfl
             refine two_ (i := 14) (j := 23) (Ni := some 33) (Nj := some 6) bq103 bq98 rfl rfl rfl rfl (two_of HT_.out (by kernel_rfl)) (by decide) (by decide) (fun K hK => ?_) (fun K hK => ?_)
             ·skip
              refine goes_ Try.func80 (by kernel_rfl) rfl #[.pointer (some ⟨g104, 0, none⟩), .int .i64 40] (by rfl) rfl rfl yq119 ?_
              with_reducible refine (spec_l1Rd_below.calls g104 t102 t116 40 t117 t118 w _ ?side1 ?side2 A16.out).mono ?_
              (case side1 => exact yq110)
              (case side2 => exact yq107)
              rintro e w46 ⟨rfl, hi, hb, hk⟩
              refine ⟨_, rfl, ?_⟩
              replace HO_113000 := Qz.mk (Kd.R_mono (Kd.R_keep (IsS123.apart (show IsS123 w _ g104 t102 t116 from by repeat (first | (with_reducible first | exact HI104.out | apply IsS123.alloc | apply IsS123.drewN | apply IsS123.drew | apply IsS123.set_1 | apply (fun h_ => IsS123.far h_ NB104_101.out _) | apply (fun h_ => IsS123.far h_ NB104_112.out _)) | exact HI104.out)) yq112 (by decide)) hk (fun _ h => h.2)) (fun _ h => h.1))
              replace BK101 := Qz.mk (KeepBut.blk hk (g' := gb101) (o := .cells #[.slice none 0 0, .int .i64 0, .int .i64 0, .int .i64 0] 32 (0, 0)) yq108 NB101_104.out (by simp))
              replace BK112 := Qz.mk (KeepBut.blk hk (g' := gb112) (o := .cells #[.slice Ao42 x113000_1.length co42, .int .i64 x113001_1, .int .i64 x113002_1, .int .i64 x113003_1] 32 (0, 0)) yq109 NB112_104.out (by simp))
              replace HB := Qz.mk (hb)
              replace HI104 := Qz.mk (hi)
              (try clear hb)
              (try clear hb2)
              (try clear hk)
              (try clear hi)
              refine hK.out _ _ ⟨(qd BK112.out 0).trans rfl, (qd BK112.out 1).trans rfl, (qd BK112.out 2).trans rfl, (qd BK112.out 3).trans rfl⟩ (fun hHeld => ?_)
              clear hK K
              refine norm_ (a' := ?_) ?_ ?_
              rotate_left
              ·show Act.put _ (some 33) _ = _
               simp only [Act.put, sq1, sq2, sq3, i64_w, i32_w]
               rfl
              refine pure_ (i := 15) (N := some 34) (v := ?_) (a' := ?_) bq108 rfl rfl (qo HT_.out (by kernel_rfl)) (fun _ _ _ h => h) (Or.inl ⟨by rfl, ?_⟩) ?_ ?_
              rotate_left
              ·intro w'
               go_simp
               with_reducible rfl
              rotate_left
              ·simp only [Act.put, sq1, sq2, sq3, i64_w, i32_w]
               rfl
              refine pure_ (i := 16) (N := some 35) (v := ?_) (a' := ?_) bq112 rfl rfl (qo HT_.out (by kernel_rfl)) (fun _ _ _ h => h) (Or.inl ⟨by rfl, ?_⟩) ?_ ?_
              rotate_left
              ·intro w'
               go_simp
               with_reducible rfl
              rotate_left
              ·simp only [Act.put, sq1, sq2, sq3, i64_w, i32_w]
               rfl
              exact norm_ yq113 (hJ11_14 () _ ⟨hHeld, yq112, yq108, yq109, yq110, yq107⟩)
             ·skip
              refine box_step ?hg (N := 6) ?hd (cs := #[.slice none 0 0, .int .i64 0, .int .i64 0, .int .i64 0]) (t := 32) ?hr ?_; (case hd => rfl); (case hg => rfl); (case hr => exact yq124)
              intro gb129 hg w46 hbox hb
              replace HO_113000 := Qz.mk (Kd.R_below yq112 hb)
              have BK129 := Qz.mk (hbox)
              have GW129 := Qz.mk ((by rw [hg]; exact (qz yq107) : w.heap.size ≤ gb129))
              have GE129 := GW129
              replace HB := Qz.mk (qq yq107 hb)
              have NB101_129 := Qz.mk ((yq116 : gb101 ≠ gb129))
              have NB129_101 := Qz.mk ((yq117 : gb129 ≠ gb101))
              replace BK101 := Qz.mk (qp (g := gb101) (o := .cells #[.slice none 0 0, .int .i64 0, .int .i64 0, .int .i64 0] 32 (0, 0)) yq108 hb)
              have NB112_129 := Qz.mk ((yq120 : gb112 ≠ gb129))
              have NB129_112 := Qz.mk ((yq122 : gb129 ≠ gb112))
              replace BK112 := Qz.mk (qp (g := gb112) (o := .cells #[.slice Ao42 x113000_1.length co42, .int .i64 x113001_1, .int .i64 x113002_1, .int .i64 x113003_1] 32 (0, 0)) yq109 hb)
              have NB104_129 := Qz.mk ((by rw [hg]; exact Nat.ne_of_lt (IsS123.lt (show IsS123 w _ g104 t102 t116 from by repeat (first | (with_reducible first | exact HI104.out | apply IsS123.alloc | apply IsS123.drewN | apply IsS123.drew | apply IsS123.set_1 | apply (fun h_ => IsS123.far h_ NB104_101.out _) | apply (fun h_ => IsS123.far h_ NB104_112.out _)) | exact HI104.out))) : g104 ≠ gb129))
              have NB129_104 := Qz.mk ((by rw [hg]; exact Nat.ne_of_gt (IsS123.lt (show IsS123 w _ g104 t102 t116 from by repeat (first | (with_reducible first | exact HI104.out | apply IsS123.alloc | apply IsS123.drewN | apply IsS123.drew | apply IsS123.set_1 | apply (fun h_ => IsS123.far h_ NB104_101.out _) | apply (fun h_ => IsS123.far h_ NB104_112.out _)) | exact HI104.out))) : gb129 ≠ g104))
              replace HI104 := Qz.mk (IsS123.below yq110 hb)
              clear hb hbox hg
              refine hK.out _ _ ⟨(qd BK112.out 0).trans rfl, (qd BK112.out 1).trans rfl, (qd BK112.out 2).trans rfl, (qd BK112.out 3).trans rfl⟩ (fun hHeld => ?_)
              clear hK K
              refine norm_ (a' := ?_) ?_ ?_
              rotate_left
              ·show Act.put _ (some 6) _ = _
               simp only [Act.put, sq1, sq2, sq3, i64_w, i32_w]
               rfl
              exact norm_ yq113 (hJ11_23 (gb129) _ ⟨hHeld, yq112, yq108, yq109, yq114, GW129.out, GE129.out, NB104_129.out, NB129_104.out, NB101_129.out, NB129_101.out, NB112_129.out, NB129_112.out, yq106, yq111⟩)
           ·skip
            rintro gb129 w46 ⟨hS_, h0_, h1_, h2_, h3_, h4_, h5_, h6_, h7_, h8_, h9_, h10_, h11_, h12_, h13_⟩
            have n0_ : Qz (Kd.R k66 66 w46 w.heap.size (fun _ => True) (.slice Ao42 x113000_1.length co42) x113000_1) := ⟨h0_⟩
            have n1_ : Qz (w46.heap[gb101]? = some (.cells #[.slice none 0 0, .int .i64 0, .int .i64 0, .int .i64 0] 32 (0, 0))) := ⟨h1_⟩
            have n2_ : Qz (w46.heap[gb112]? = some (.cells #[.slice Ao42 x113000_1.length co42, .int .i64 x113001_1, .int .i64 x113002_1, .int .i64 x113003_1] 32 (0, 0))) := ⟨h2_⟩
            have n3_ : Qz (w46.heap[gb129]? = some (.cells #[.slice none 0 0, .int .i64 0, .int .i64 0, .int .i64 0] 32 (0, 0))) := ⟨h3_⟩
            have n4_ : Qz (w.heap.size ≤ gb129) := ⟨h4_⟩
            have n5_ : Qz (w.heap.size ≤ gb129) := ⟨h5_⟩
            have n6_ : Qz (g104 ≠ gb129) := ⟨h6_⟩
            have n7_ : Qz (gb129 ≠ g104) := ⟨h7_⟩
            have n8_ : Qz (gb101 ≠ gb129) := ⟨h8_⟩
            have n9_ : Qz (gb129 ≠ gb101) := ⟨h9_⟩
            have n10_ : Qz (gb112 ≠ gb129) := ⟨h10_⟩
            have n11_ : Qz (gb129 ≠ gb112) := ⟨h11_⟩
            have n12_ : Qz (IsS123 w w46 g104 t102 t116) := ⟨h12_⟩
            have n13_ : Qz (Below w.heap.size w w46) := ⟨h13_⟩
            clear HO_113000
            clear BK101
            clear BK112
            clear HI104
            clear HB
            clear h0_ h1_ h2_ h3_ h4_ h5_ h6_ h7_ h8_ h9_ h10_ h11_ h12_ h13_
            have HO_113000 := n0_
            have BK101 := n1_
            have BK112 := n2_
            have BK129 := n3_
            have GW129 := n4_
            have GE129 := n5_
            have NB104_129 := n6_
            have NB129_104 := n7_
            have NB101_129 := n8_
            have NB129_101 := n9_
            have NB112_129 := n10_
            have NB129_112 := n11_
            have HI104 := n12_
            have HB := n13_
            clear n0_ n1_ n2_ n3_ n4_ n5_ n6_ n7_ n8_ n9_ n10_ n11_ n12_ n13_
            have hHeld : w46.cell? ⟨gb112, 0, none⟩ = some (.slice Ao42 x113000_1.length co42) ∧ w46.cell? ⟨gb112, 1, none⟩ = some (.int .i64 x113001_1) ∧ w46.cell? ⟨gb112, 2, none⟩ = some (.int .i64 x113002_1) ∧ w46.cell? ⟨gb112, 3, none⟩ = some (.int .i64 x113003_1) := hS_
            refine norm_ (a' := ?_) ?_ ?_
            rotate_left
            ·simp only [putAll, Act.put, sq1, sq2, sq3]
             rfl
            refine one_ (i := 14) (N := some 33) bq104 rfl rfl (one_of HT_.out (by kernel_rfl)) (by decide) (fun K hK => ?_)
            refine goes_ Try.func80 (by kernel_rfl) rfl #[.pointer (some ⟨g104, 0, none⟩), .int .i64 40] (by rfl) rfl rfl yq119 ?_
            with_reducible refine (spec_l1Rd_below.calls g104 t102 t116 40 t117 t118 w _ ?side1 ?side2 A16.out).mono ?_
            (case side1 => exact yq106)
            (case side2 => exact yq111)
            rintro e w47 ⟨rfl, hi, hb, hk⟩
            refine ⟨_, rfl, ?_⟩
            replace HO_113000 := Qz.mk (Kd.R_mono (Kd.R_keep (IsS123.apart (show IsS123 w _ g104 t102 t116 from by repeat (first | (with_reducible first | exact HI104.out | apply IsS123.alloc | apply IsS123.drewN | apply IsS123.drew | apply IsS123.set_1 | apply (fun h_ => IsS123.far h_ NB104_101.out _) | apply (fun h_ => IsS123.far h_ NB104_112.out _) | apply (fun h_ => IsS123.far h_ NB104_129.out _)) | exact HI104.out)) yq112 (by decide)) hk (fun _ h => h.2)) (fun _ h => h.1))
            replace BK101 := Qz.mk (KeepBut.blk hk (g' := gb101) (o := .cells #[.slice none 0 0, .int .i64 0, .int .i64 0, .int .i64 0] 32 (0, 0)) yq108 NB101_104.out (by simp))
            replace BK112 := Qz.mk (KeepBut.blk hk (g' := gb112) (o := .cells #[.slice Ao42 x113000_1.length co42, .int .i64 x113001_1, .int .i64 x113002_1, .int .i64 x113003_1] 32 (0, 0)) yq109 NB112_104.out (by simp))
            replace BK129 := Qz.mk (KeepBut.blk hk (g' := gb129) (o := .cells #[.slice none 0 0, .int .i64 0, .int .i64 0, .int .i64 0] 32 (0, 0)) yq114 NB129_104.out (by simp))
            replace HB := Qz.mk (hb)
            replace HI104 := Qz.mk (hi)
            (try clear hb)
            (try clear hb2)
            (try clear hk)
            (try clear hi)
            refine hK.out _ _ ⟨(qd BK112.out 0).trans rfl, (qd BK112.out 1).trans rfl, (qd BK112.out 2).trans rfl, (qd BK112.out 3).trans rfl⟩ (fun hHeld => ?_)
            clear hK K
            refine norm_ (a' := ?_) ?_ ?_
            rotate_left
            ·show Act.put _ (some 33) _ = _
             simp only [Act.put, sq1, sq2, sq3, i64_w, i32_w]
             rfl
            refine pure_ (i := 15) (N := some 34) (v := ?_) (a' := ?_) bq109 rfl rfl (qo HT_.out (by kernel_rfl)) (fun _ _ _ h => h) (Or.inl ⟨by rfl, ?_⟩) ?_ ?_
            rotate_left
            ·intro w'
             go_simp
             with_reducible rfl
            rotate_left
            ·simp only [Act.put, sq1, sq2, sq3, i64_w, i32_w]
             rfl
            refine pure_ (i := 16) (N := some 35) (v := ?_) (a' := ?_) bq113 rfl rfl (qo HT_.out (by kernel_rfl)) (fun _ _ _ h => h) (Or.inl ⟨by rfl, ?_⟩) ?_ ?_
            rotate_left
            ·intro w'
             go_simp
             with_reducible rfl
            rotate_left
            ·simp only [Act.put, sq1, sq2, sq3, i64_w, i32_w]
             rfl
            exact norm_ yq113 (hJ11_14_23 (gb129) _ ⟨hHeld, yq112, yq108, yq109, yq114, GW129.out, GE129.out, NB104_129.out, NB129_104.out, NB101_129.out, NB129_101.out, NB112_129.out, NB129_112.out, yq106, yq111⟩)
          ·skip
           rintro _ w46 ⟨hS_, h0_, h1_, h2_, h3_, h4_⟩
           have n0_ : Qz (Kd.R k66 66 w46 w.heap.size (fun _ => True) (.slice Ao42 x113000_1.length co42) x113000_1) := ⟨h0_⟩
           have n1_ : Qz (w46.heap[gb101]? = some (.cells #[.slice none 0 0, .int .i64 0, .int .i64 0, .int .i64 0] 32 (0, 0))) := ⟨h1_⟩
           have n2_ : Qz (w46.heap[gb112]? = some (.cells #[.slice Ao42 x113000_1.length co42, .int .i64 x113001_1, .int .i64 x113002_1, .int .i64 x113003_1] 32 (0, 0))) := ⟨h2_⟩
           have n3_ : Qz (IsS123 w w46 g104 t102 t118) := ⟨h3_⟩
           have n4_ : Qz (Below w.heap.size w w46) := ⟨h4_⟩
           clear HO_113000
           clear BK101
           clear BK112
           clear HI104
           clear HB
           clear h0_ h1_ h2_ h3_ h4_
           have HO_113000 := n0_
           have BK101 := n1_
           have BK112 := n2_
           have HI104 := n3_
           have HB := n4_
           clear n0_ n1_ n2_ n3_ n4_
           have hHeld : w46.cell? ⟨gb112, 0, none⟩ = some (.slice Ao42 x113000_1.length co42) ∧ w46.cell? ⟨gb112, 1, none⟩ = some (.int .i64 x113001_1) ∧ w46.cell? ⟨gb112, 2, none⟩ = some (.int .i64 x113002_1) ∧ w46.cell? ⟨gb112, 3, none⟩ = some (.int .i64 x113003_1) := hS_
           refine norm_ (a' := ?_) ?_ ?_
           rotate_left
           ·simp only [putAll, Act.put, sq1, sq2, sq3]
            rfl
           refine two_ (i := 17) (j := 23) (Ni := some 36) (Nj := some 6) bq116 bq113 rfl rfl rfl rfl (two_of HT_.out (by kernel_rfl)) (by decide) (by decide) (fun K hK => ?_) (fun K hK => ?_)
           ·skip
            refine Kd.R_lit_step k66 _ 66 ?hg (N := 36) ?hd (xs := ([(⟨x113001_1, wrap64 (Int.tdiv t115 4), (⟨#[97]⟩ : ByteArray), (⟨#[98]⟩ : ByteArray), wrap64 (1 + t117)⟩ : S66)] : List (S66))) (inner := [.int .i64 x113001_1, .int .i64 (wrap64 (Int.tdiv t115 4)), .string (⟨#[97]⟩ : ByteArray), .string (⟨#[98]⟩ : ByteArray), .int .i64 (wrap64 (1 + t117))]) (ok := fun _ => True) (okp := fun _ => True) ?hr ?hp (fun _ hk => hk) trivial (Below.refl _ _) (Nat.le_refl _) (by simp) ?_; (case hd => rfl); (case hg => rfl); (case hr => exact yq124); (case hp => exact (Reps.c5 (show Kd.M k66 _ _ _ (⟨x113001_1, wrap64 (Int.tdiv t115 4), (⟨#[97]⟩ : ByteArray), (⟨#[98]⟩ : ByteArray), wrap64 (1 + t117)⟩ : S66) [.int .i64 x113001_1, .int .i64 (wrap64 (Int.tdiv t115 4)), .string (⟨#[97]⟩ : ByteArray), .string (⟨#[98]⟩ : ByteArray), .int .i64 (wrap64 (1 + t117))] from (k66_mkM _ _ _ (⟨x113001_1, wrap64 (Int.tdiv t115 4), (⟨#[97]⟩ : ByteArray), (⟨#[98]⟩ : ByteArray), wrap64 (1 + t117)⟩ : S66) )) (Reps.none _ _)))
            intro v120 w47 ho48 hb hg_ hnew_
            clear hg_ hnew_
            (first | rw [← Ny119.out] at ho48 | (simp only [Int.reduceToNat] at ho48; rw [← Ny119.out] at ho48))
            have HO121 := Qz.mk (Kd.R_lower (Kd.R_new' ho48 (Kd.R_lt yq112)) (qz yq107))
            replace HO_113000 := Qz.mk (Kd.R_elder' yq112 (Kd.R_base ho48) hb)
            replace BK101 := Qz.mk (qp (g := gb101) (o := .cells #[.slice none 0 0, .int .i64 0, .int .i64 0, .int .i64 0] 32 (0, 0)) yq108 hb)
            replace BK112 := Qz.mk (qp (g := gb112) (o := .cells #[.slice Ao42 x113000_1.length co42, .int .i64 x113001_1, .int .i64 x113002_1, .int .i64 x113003_1] 32 (0, 0)) yq109 hb)
            replace HB := Qz.mk (qq yq107 hb)
            replace HI104 := Qz.mk (IsS123.below yq110 hb)
            clear hb ho48
            obtain ⟨Ao49, co49, eo49⟩ := Kd.R_slice HO121.out
            (first | subst eo49 | (injection eo49 with f1_ f2_ f3_; have f4_ := f1_.symm; have f5_ := f3_.symm; clear f1_ f2_ f3_; subst f4_; subst f5_))
            refine hK.out _ _ ⟨(qd BK112.out 0).trans rfl, (qd BK112.out 1).trans rfl, (qd BK112.out 2).trans rfl, (qd BK112.out 3).trans rfl⟩ (fun hHeld => ?_)
            clear hK K
            refine norm_ (a' := ?_) ?_ ?_
            rotate_left
            ·show Act.put _ (some 36) _ = _
             simp only [Act.put, sq1, sq2, sq3, i64_w, i32_w]
             rfl
            refine pure_ (i := 18) (N := some 37) (v := ?_) (a' := ?_) bq119 rfl rfl (qo HT_.out (by kernel_rfl)) (fun _ _ _ h => h) (Or.inl ⟨by rfl, ?_⟩) ?_ ?_
            rotate_left
            ·intro w'
             go_simp
             with_reducible rfl
            rotate_left
            ·simp only [Act.put, sq1, sq2, sq3, i64_w, i32_w]
             rfl
            exact norm_ yq113 (hJ11_14_17 (.slice Ao49 y119.length co49) _ ⟨hHeld, yq131, yq130, yq108, yq109, yq110, yq107⟩)
           ·skip
            refine box_step ?hg (N := 6) ?hd (cs := #[.slice none 0 0, .int .i64 0, .int .i64 0, .int .i64 0]) (t := 32) ?hr ?_; (case hd => rfl); (case hg => rfl); (case hr => exact yq124)
            intro gb129 hg w47 hbox hb
            replace HO_113000 := Qz.mk (Kd.R_below yq112 hb)
            have BK129 := Qz.mk (hbox)
            have GW129 := Qz.mk ((by rw [hg]; exact (qz yq107) : w.heap.size ≤ gb129))
            have GE129 := GW129
            replace HB := Qz.mk (qq yq107 hb)
            have NB101_129 := Qz.mk ((yq116 : gb101 ≠ gb129))
            have NB129_101 := Qz.mk ((yq117 : gb129 ≠ gb101))
            replace BK101 := Qz.mk (qp (g := gb101) (o := .cells #[.slice none 0 0, .int .i64 0, .int .i64 0, .int .i64 0] 32 (0, 0)) yq108 hb)
            have NB112_129 := Qz.mk ((yq120 : gb112 ≠ gb129))
            have NB129_112 := Qz.mk ((yq122 : gb129 ≠ gb112))
            replace BK112 := Qz.mk (qp (g := gb112) (o := .cells #[.slice Ao42 x113000_1.length co42, .int .i64 x113001_1, .int .i64 x113002_1, .int .i64 x113003_1] 32 (0, 0)) yq109 hb)
            have NB104_129 := Qz.mk ((by rw [hg]; exact Nat.ne_of_lt (IsS123.lt (show IsS123 w _ g104 t102 t118 from by repeat (first | (with_reducible first | exact HI104.out | apply IsS123.alloc | apply IsS123.drewN | apply IsS123.drew | apply IsS123.set_1 | apply (fun h_ => IsS123.far h_ NB104_101.out _) | apply (fun h_ => IsS123.far h_ NB104_112.out _)) | exact HI104.out))) : g104 ≠ gb129))
            have NB129_104 := Qz.mk ((by rw [hg]; exact Nat.ne_of_gt (IsS123.lt (show IsS123 w _ g104 t102 t118 from by repeat (first | (with_reducible first | exact HI104.out | apply IsS123.alloc | apply IsS123.drewN | apply IsS123.drew | apply IsS123.set_1 | apply (fun h_ => IsS123.far h_ NB104_101.out _) | apply (fun h_ => IsS123.far h_ NB104_112.out _)) | exact HI104.out))) : gb129 ≠ g104))
            replace HI104 := Qz.mk (IsS123.below yq110 hb)
            clear hb hbox hg
            refine hK.out _ _ ⟨(qd BK112.out 0).trans rfl, (qd BK112.out 1).trans rfl, (qd BK112.out 2).trans rfl, (qd BK112.out 3).trans rfl⟩ (fun hHeld => ?_)
            clear hK K
            refine norm_ (a' := ?_) ?_ ?_
            rotate_left
            ·show Act.put _ (some 6) _ = _
             simp only [Act.put, sq1, sq2, sq3, i64_w, i32_w]
             rfl
            exact norm_ yq113 (hJ11_14_23 (gb129) _ ⟨hHeld, yq112, yq108, yq109, yq114, GW129.out, GE129.out, NB104_129.out, NB129_104.out, NB101_129.out, NB129_101.out, NB112_129.out, NB129_112.out, yq106, yq111⟩)
         ·skip
          rintro gb129 w47 ⟨hS_, h0_, h1_, h2_, h3_, h4_, h5_, h6_, h7_, h8_, h9_, h10_, h11_, h12_, h13_⟩
          have n0_ : Qz (Kd.R k66 66 w47 w.heap.size (fun _ => True) (.slice Ao42 x113000_1.length co42) x113000_1) := ⟨h0_⟩
          have n1_ : Qz (w47.heap[gb101]? = some (.cells #[.slice none 0 0, .int .i64 0, .int .i64 0, .int .i64 0] 32 (0, 0))) := ⟨h1_⟩
          have n2_ : Qz (w47.heap[gb112]? = some (.cells #[.slice Ao42 x113000_1.length co42, .int .i64 x113001_1, .int .i64 x113002_1, .int .i64 x113003_1] 32 (0, 0))) := ⟨h2_⟩
          have n3_ : Qz (w47.heap[gb129]? = some (.cells #[.slice none 0 0, .int .i64 0, .int .i64 0, .int .i64 0] 32 (0, 0))) := ⟨h3_⟩
          have n4_ : Qz (w.heap.size ≤ gb129) := ⟨h4_⟩
          have n5_ : Qz (w.heap.size ≤ gb129) := ⟨h5_⟩
          have n6_ : Qz (g104 ≠ gb129) := ⟨h6_⟩
          have n7_ : Qz (gb129 ≠ g104) := ⟨h7_⟩
          have n8_ : Qz (gb101 ≠ gb129) := ⟨h8_⟩
          have n9_ : Qz (gb129 ≠ gb101) := ⟨h9_⟩
          have n10_ : Qz (gb112 ≠ gb129) := ⟨h10_⟩
          have n11_ : Qz (gb129 ≠ gb112) := ⟨h11_⟩
          have n12_ : Qz (IsS123 w w47 g104 t102 t118) := ⟨h12_⟩
          have n13_ : Qz (Below w.heap.size w w47) := ⟨h13_⟩
          clear HO_113000
          clear BK101
          clear BK112
          clear HI104
          clear HB
          clear h0_ h1_ h2_ h3_ h4_ h5_ h6_ h7_ h8_ h9_ h10_ h11_ h12_ h13_
          have HO_113000 := n0_
          have BK101 := n1_
          have BK112 := n2_
          have BK129 := n3_
          have GW129 := n4_
          have GE129 := n5_
          have NB104_129 := n6_
          have NB129_104 := n7_
          have NB101_129 := n8_
          have NB129_101 := n9_
          have NB112_129 := n10_
          have NB129_112 := n11_
          have HI104 := n12_
          have HB := n13_
          clear n0_ n1_ n2_ n3_ n4_ n5_ n6_ n7_ n8_ n9_ n10_ n11_ n12_ n13_
          have hHeld : w47.cell? ⟨gb112, 0, none⟩ = some (.slice Ao42 x113000_1.length co42) ∧ w47.cell? ⟨gb112, 1, none⟩ = some (.int .i64 x113001_1) ∧ w47.cell? ⟨gb112, 2, none⟩ = some (.int .i64 x113002_1) ∧ w47.cell? ⟨gb112, 3, none⟩ = some (.int .i64 x113003_1) := hS_
          refine norm_ (a' := ?_) ?_ ?_
          rotate_left
          ·simp only [putAll, Act.put, sq1, sq2, sq3]
           rfl
          refine one_ (i := 17) (N := some 36) bq117 rfl rfl (one_of HT_.out (by kernel_rfl)) (by decide) (fun K hK => ?_)
          refine Kd.R_lit_step k66 _ 66 ?hg (N := 36) ?hd (xs := ([(⟨x113001_1, wrap64 (Int.tdiv t115 4), (⟨#[97]⟩ : ByteArray), (⟨#[98]⟩ : ByteArray), wrap64 (1 + t117)⟩ : S66)] : List (S66))) (inner := [.int .i64 x113001_1, .int .i64 (wrap64 (Int.tdiv t115 4)), .string (⟨#[97]⟩ : ByteArray), .string (⟨#[98]⟩ : ByteArray), .int .i64 (wrap64 (1 + t117))]) (ok := fun _ => True) (okp := fun _ => True) ?hr ?hp (fun _ hk => hk) trivial (Below.refl _ _) (Nat.le_refl _) (by simp) ?_; (case hd => rfl); (case hg => rfl); (case hr => exact yq124); (case hp => exact (Reps.c5 (show Kd.M k66 _ _ _ (⟨x113001_1, wrap64 (Int.tdiv t115 4), (⟨#[97]⟩ : ByteArray), (⟨#[98]⟩ : ByteArray), wrap64 (1 + t117)⟩ : S66) [.int .i64 x113001_1, .int .i64 (wrap64 (Int.tdiv t115 4)), .string (⟨#[97]⟩ : ByteArray), .string (⟨#[98]⟩ : ByteArray), .int .i64 (wrap64 (1 + t117))] from (k66_mkM _ _ _ (⟨x113001_1, wrap64 (Int.tdiv t115 4), (⟨#[97]⟩ : ByteArray), (⟨#[98]⟩ : ByteArray), wrap64 (1 + t117)⟩ : S66) )) (Reps.none _ _)))
          intro v120 w48 ho49 hb hg_ hnew_
          clear hg_ hnew_
          (first | rw [← Ny119.out] at ho49 | (simp only [Int.reduceToNat] at ho49; rw [← Ny119.out] at ho49))
          have HO121 := Qz.mk (Kd.R_lower (Kd.R_new' ho49 (Kd.R_lt yq112)) (qz yq111))
          replace HO_113000 := Qz.mk (Kd.R_elder' yq112 (Kd.R_base ho49) hb)
          replace BK101 := Qz.mk (qp (g := gb101) (o := .cells #[.slice none 0 0, .int .i64 0, .int .i64 0, .int .i64 0] 32 (0, 0)) yq108 hb)
          replace BK112 := Qz.mk (qp (g := gb112) (o := .cells #[.slice Ao42 x113000_1.length co42, .int .i64 x113001_1, .int .i64 x113002_1, .int .i64 x113003_1] 32 (0, 0)) yq109 hb)
          replace BK129 := Qz.mk (qp (g := gb129) (o := .cells #[.slice none 0 0, .int .i64 0, .int .i64 0, .int .i64 0] 32 (0, 0)) yq114 hb)
          replace HB := Qz.mk (qq yq111 hb)
          replace HI104 := Qz.mk (IsS123.below yq106 hb)
          clear hb ho49
          obtain ⟨Ao50, co50, eo50⟩ := Kd.R_slice HO121.out
          (first | subst eo50 | (injection eo50 with f1_ f2_ f3_; have f4_ := f1_.symm; have f5_ := f3_.symm; clear f1_ f2_ f3_; subst f4_; subst f5_))
          refine hK.out _ _ ⟨(qd BK112.out 0).trans rfl, (qd BK112.out 1).trans rfl, (qd BK112.out 2).trans rfl, (qd BK112.out 3).trans rfl⟩ (fun hHeld => ?_)
          clear hK K
          refine norm_ (a' := ?_) ?_ ?_
          rotate_left
          ·show Act.put _ (some 36) _ = _
           simp only [Act.put, sq1, sq2, sq3, i64_w, i32_w]
           rfl
          refine pure_ (i := 18) (N := some 37) (v := ?_) (a' := ?_) bq120 rfl rfl (qo HT_.out (by kernel_rfl)) (fun _ _ _ h => h) (Or.inl ⟨by rfl, ?_⟩) ?_ ?_
          rotate_left
          ·intro w'
           go_simp
           with_reducible rfl
          rotate_left
          ·simp only [Act.put, sq1, sq2, sq3, i64_w, i32_w]
           rfl
          exact norm_ yq113 (hJ11_14_17_23 (.slice Ao50 y119.length co50, gb129) _ ⟨hHeld, yq131, yq130, yq108, yq109, yq114, GW129.out, GE129.out, NB104_129.out, NB129_104.out, NB101_129.out, NB129_101.out, NB112_129.out, NB129_112.out, yq106, yq111⟩)
        ·skip
         rintro v120 w49 ⟨hS_, h0_, h1_, h2_, h3_, h4_, h5_⟩
         have n0_ : Qz (Kd.R k66 66 w49 w.heap.size (fun k_ => some k_ ≠ (.slice Ao42 x113000_1.length co42 : Value).ownBlock) v120 y119) := ⟨h0_⟩
         have n1_ : Qz (Kd.R k66 66 w49 w.heap.size (fun k_ => some k_ ≠ (v120 : Value).ownBlock) (.slice Ao42 x113000_1.length co42) x113000_1) := ⟨h1_⟩
         have n2_ : Qz (w49.heap[gb101]? = some (.cells #[.slice none 0 0, .int .i64 0, .int .i64 0, .int .i64 0] 32 (0, 0))) := ⟨h2_⟩
         have n3_ : Qz (w49.heap[gb112]? = some (.cells #[.slice Ao42 x113000_1.length co42, .int .i64 x113001_1, .int .i64 x113002_1, .int .i64 x113003_1] 32 (0, 0))) := ⟨h3_⟩
         have n4_ : Qz (IsS123 w w49 g104 t102 t118) := ⟨h4_⟩
         have n5_ : Qz (Below w.heap.size w w49) := ⟨h5_⟩
         clear HO_113000
         clear BK101
         clear BK112
         clear HI104
         clear HB
         clear h0_ h1_ h2_ h3_ h4_ h5_
         have HO121 := n0_
         have HO_113000 := n1_
         have BK101 := n2_
         have BK112 := n3_
         have HI104 := n4_
         have HB := n5_
         clear n0_ n1_ n2_ n3_ n4_ n5_
         have hHeld : w49.cell? ⟨gb112, 0, none⟩ = some (.slice Ao42 x113000_1.length co42) ∧ w49.cell? ⟨gb112, 1, none⟩ = some (.int .i64 x113001_1) ∧ w49.cell? ⟨gb112, 2, none⟩ = some (.int .i64 x113002_1) ∧ w49.cell? ⟨gb112, 3, none⟩ = some (.int .i64 x113003_1) := hS_
         obtain ⟨Ao50, co50, eo50⟩ := Kd.R_slice HO121.out
         (first | subst eo50 | (injection eo50 with f1_ f2_ f3_; have f4_ := f1_.symm; have f5_ := f3_.symm; clear f1_ f2_ f3_; subst f4_; subst f5_))
         refine norm_ (a' := ?_) ?_ ?_
         rotate_left
         ·simp only [putAll, Act.put, sq1, sq2, sq3]
          rfl
         refine two_ (i := 19) (j := 23) (Ni := some 38) (Nj := some 6) bq122 bq120 rfl rfl rfl rfl (two_of HT_.out (by kernel_rfl)) (by decide) (by decide) (fun K hK => ?_) (fun K hK => ?_)
         ·skip
          refine goes_ Try.func17 (by kernel_rfl) rfl #[.agg #[.slice Ao42 x113000_1.length co42, .int .i64 x113001_1, .int .i64 x113002_1, .int .i64 x113003_1], .agg #[.slice Ao50 y119.length co50, .slice none 0 0, .int .i64 (wrap64 (x113001_1 + 1)), .int .i64 x113002_1, .int .i64 x113003_1]] (by rfl) rfl rfl yq118 ?_
          refine (spec_Apply.calls k1 _ _ x113000_1 x113001_1 x113002_1 x113003_1 _ _ y119 _ _ ([] : List Int) (wrap64 (x113001_1 + 1)) x113002_1 x113003_1 t122 t125 t126 t127 false _ ?side1 ?side2 ?side3 ?side4 ?side5 ?side6 A17.out).mono ?_
          (case side1 => exact yq125)
          (case side2 => exact (Kd.R_reads' HO_113000.out).2.1)
          (case side3 => exact yq126)
          (case side4 => exact (Kd.R_reads' HO121.out).2.1)
          (case side5 => exact Kd.C_nil _ _)
          (case side6 => exact Nat.le_refl _)
          rintro e w51 ⟨v123, rfl, ho0, hb⟩
          refine ⟨_, rfl, ?_⟩
          have HO124 := Qz.mk (Kd.R_lower (Kd.R_new' (Kd.R_new' ho0 (Kd.R_lt yq112)) (Kd.R_lt yq115)) (qz yq107))
          replace HO_113000 := Qz.mk (Kd.R_elder' yq112 (Kd.R_base ho0) hb)
          replace HO121 := Qz.mk (Kd.R_elder' yq115 (Kd.R_base ho0) hb)
          replace BK101 := Qz.mk (qp (g := gb101) (o := .cells #[.slice none 0 0, .int .i64 0, .int .i64 0, .int .i64 0] 32 (0, 0)) yq108 hb)
          replace BK112 := Qz.mk (qp (g := gb112) (o := .cells #[.slice Ao42 x113000_1.length co42, .int .i64 x113001_1, .int .i64 x113002_1, .int .i64 x113003_1] 32 (0, 0)) yq109 hb)
          replace HB := Qz.mk (qq yq107 hb)
          replace HI104 := Qz.mk (IsS123.below yq110 hb)
          (try clear hb)
          (try clear hb2)
          (try clear hk)
          (try clear hi)
          (try clear ho0)
          refine hK.out _ _ ⟨(qd BK112.out 0).trans rfl, (qd BK112.out 1).trans rfl, (qd BK112.out 2).trans rfl, (qd BK112.out 3).trans rfl⟩ (fun hHeld => ?_)
          clear hK K
          refine norm_ (a' := ?_) ?_ ?_
          rotate_left
          ·show Act.put _ (some 38) _ = _
           simp only [Act.put, sq1, sq2, sq3, i64_w, i32_w]
           rfl
          refine pure_ (i := 20) (N := some 18) (v := ?_) (a' := ?_) bq125 rfl rfl (qo HT_.out (by kernel_rfl)) (fun _ _ _ h => h) (Or.inl ⟨by rfl, ?_⟩) ?_ ?_
          rotate_left
          ·intro w'
           go_simp
           with_reducible rfl
          rotate_left
          ·simp only [Act.put, sq1, sq2, sq3, i64_w, i32_w]
           rfl
          refine pure_ (i := 21) (N := some 39) (v := ?_) (a' := ?_) bq128 rfl rfl (qo HT_.out (by kernel_rfl)) (fun _ _ _ h => h) (Or.inl ⟨by rfl, ?_⟩) ?_ ?_
          rotate_left
          ·intro w'
           go_simp
           with_reducible rfl
          rotate_left
          ·simp only [Act.put, sq1, sq2, sq3, i64_w, i32_w]
           rfl
          refine pure_ (i := 22) (N := some 40) (v := ?_) (a' := ?_) bq131 rfl rfl (qo HT_.out (by kernel_rfl)) (fun _ _ _ h => h) (Or.inl ⟨by rfl, ?_⟩) ?_ ?_
          rotate_left
          ·intro w'
           go_simp
           with_reducible rfl
          rotate_left
          ·simp only [Act.put, sq1, sq2, sq3, i64_w, i32_w]
           rfl
          exact norm_ yq113 (hJ11_14_17_19 (.slice Ao50 y119.length co50, v123) _ ⟨hHeld, yq129, yq128, yq112, yq108, yq109, yq110, yq107⟩)
         ·skip
          refine box_step ?hg (N := 6) ?hd (cs := #[.slice none 0 0, .int .i64 0, .int .i64 0, .int .i64 0]) (t := 32) ?hr ?_; (case hd => rfl); (case hg => rfl); (case hr => exact yq124)
          intro gb129 hg w51 hbox hb
          replace HO_113000 := Qz.mk (Kd.R_below yq112 hb)
          replace HO121 := Qz.mk (Kd.R_below yq115 hb)
          have BK129 := Qz.mk (hbox)
          have GW129 := Qz.mk ((by rw [hg]; exact (qz yq107) : w.heap.size ≤ gb129))
          have GE129 := GW129
          replace HB := Qz.mk (qq yq107 hb)
          have NB101_129 := Qz.mk ((yq116 : gb101 ≠ gb129))
          have NB129_101 := Qz.mk ((yq117 : gb129 ≠ gb101))
          replace BK101 := Qz.mk (qp (g := gb101) (o := .cells #[.slice none 0 0, .int .i64 0, .int .i64 0, .int .i64 0] 32 (0, 0)) yq108 hb)
          have NB112_129 := Qz.mk ((yq120 : gb112 ≠ gb129))
          have NB129_112 := Qz.mk ((yq122 : gb129 ≠ gb112))
          replace BK112 := Qz.mk (qp (g := gb112) (o := .cells #[.slice Ao42 x113000_1.length co42, .int .i64 x113001_1, .int .i64 x113002_1, .int .i64 x113003_1] 32 (0, 0)) yq109 hb)
          have NB104_129 := Qz.mk ((by rw [hg]; exact Nat.ne_of_lt (IsS123.lt (show IsS123 w _ g104 t102 t118 from by repeat (first | (with_reducible first | exact HI104.out | apply IsS123.alloc | apply IsS123.drewN | apply IsS123.drew | apply IsS123.set_1 | apply (fun h_ => IsS123.far h_ NB104_101.out _) | apply (fun h_ => IsS123.far h_ NB104_112.out _)) | exact HI104.out))) : g104 ≠ gb129))
          have NB129_104 := Qz.mk ((by rw [hg]; exact Nat.ne_of_gt (IsS123.lt (show IsS123 w _ g104 t102 t118 from by repeat (first | (with_reducible first | exact HI104.out | apply IsS123.alloc | apply IsS123.drewN | apply IsS123.drew | apply IsS123.set_1 | apply (fun h_ => IsS123.far h_ NB104_101.out _) | apply (fun h_ => IsS123.far h_ NB104_112.out _)) | exact HI104.out))) : gb129 ≠ g104))
          replace HI104 := Qz.mk (IsS123.below yq110 hb)
          clear hb hbox hg
          refine hK.out _ _ ⟨(qd BK112.out 0).trans rfl, (qd BK112.out 1).trans rfl, (qd BK112.out 2).trans rfl, (qd BK112.out 3).trans rfl⟩ (fun hHeld => ?_)
          clear hK K
          refine norm_ (a' := ?_) ?_ ?_
          rotate_left
          ·show Act.put _ (some 6) _ = _
           simp only [Act.put, sq1, sq2, sq3, i64_w, i32_w]
           rfl
          exact norm_ yq113 (hJ11_14_17_23 (.slice Ao50 y119.length co50, gb129) _ ⟨hHeld, yq115, yq112, yq108, yq109, yq114, GW129.out, GE129.out, NB104_129.out, NB129_104.out, NB101_129.out, NB129_101.out, NB112_129.out, NB129_112.out, yq106, yq111⟩)
       ·skip
        rintro ⟨v120, gb129⟩ w50 ⟨hS_, h0_, h1_, h2_, h3_, h4_, h5_, h6_, h7_, h8_, h9_, h10_, h11_, h12_, h13_, h14_⟩
        have n0_ : Qz (Kd.R k66 66 w50 w.heap.size (fun k_ => some k_ ≠ (.slice Ao42 x113000_1.length co42 : Value).ownBlock) v120 y119) := ⟨h0_⟩
        have n1_ : Qz (Kd.R k66 66 w50 w.heap.size (fun k_ => some k_ ≠ (v120 : Value).ownBlock) (.slice Ao42 x113000_1.length co42) x113000_1) := ⟨h1_⟩
        have n2_ : Qz (w50.heap[gb101]? = some (.cells #[.slice none 0 0, .int .i64 0, .int .i64 0, .int .i64 0] 32 (0, 0))) := ⟨h2_⟩
        have n3_ : Qz (w50.heap[gb112]? = some (.cells #[.slice Ao42 x113000_1.length co42, .int .i64 x113001_1, .int .i64 x113002_1, .int .i64 x113003_1] 32 (0, 0))) := ⟨h3_⟩
        have n4_ : Qz (w50.heap[gb129]? = some (.cells #[.slice none 0 0, .int .i64 0, .int .i64 0, .int .i64 0] 32 (0, 0))) := ⟨h4_⟩
        have n5_ : Qz (w.heap.size ≤ gb129) := ⟨h5_⟩
        have n6_ : Qz (w.heap.size ≤ gb129) := ⟨h6_⟩
        have n7_ : Qz (g104 ≠ gb129) := ⟨h7_⟩
        have n8_ : Qz (gb129 ≠ g104) := ⟨h8_⟩
        have n9_ : Qz (gb101 ≠ gb129) := ⟨h9_⟩
        have n10_ : Qz (gb129 ≠ gb101) := ⟨h10_⟩
        have n11_ : Qz (gb112 ≠ gb129) := ⟨h11_⟩
        have n12_ : Qz (gb129 ≠ gb112) := ⟨h12_⟩
        have n13_ : Qz (IsS123 w w50 g104 t102 t118) := ⟨h13_⟩
        have n14_ : Qz (Below w.heap.size w w50) := ⟨h14_⟩
        clear HO_113000
        clear BK101
        clear BK112
        clear HI104
        clear HB
        clear h0_ h1_ h2_ h3_ h4_ h5_ h6_ h7_ h8_ h9_ h10_ h11_ h12_ h13_ h14_
        have HO121 := n0_
        have HO_113000 := n1_
        have BK101 := n2_
        have BK112 := n3_
        have BK129 := n4_
        have GW129 := n5_
        have GE129 := n6_
        have NB104_129 := n7_
        have NB129_104 := n8_
        have NB101_129 := n9_
        have NB129_101 := n10_
        have NB112_129 := n11_
        have NB129_112 := n12_
        have HI104 := n13_
        have HB := n14_
        clear n0_ n1_ n2_ n3_ n4_ n5_ n6_ n7_ n8_ n9_ n10_ n11_ n12_ n13_ n14_
        have hHeld : w50.cell? ⟨gb112, 0, none⟩ = some (.slice Ao42 x113000_1.length co42) ∧ w50.cell? ⟨gb112, 1, none⟩ = some (.int .i64 x113001_1) ∧ w50.cell? ⟨gb112, 2, none⟩ = some (.int .i64 x113002_1) ∧ w50.cell? ⟨gb112, 3, none⟩ = some (.int .i64 x113003_1) := hS_
        obtain ⟨Ao51, co51, eo51⟩ := Kd.R_slice HO121.out
        (first | subst eo51 | (injection eo51 with f1_ f2_ f3_; have f4_ := f1_.symm; have f5_ := f3_.symm; clear f1_ f2_ f3_; subst f4_; subst f5_))
        refine norm_ (a' := ?_) ?_ ?_
        rotate_left
        ·simp only [putAll, Act.put, sq1, sq2, sq3]
         rfl
        refine one_ (i := 19) (N := some 38) bq123 rfl rfl (one_of HT_.out (by kernel_rfl)) (by decide) (fun K hK => ?_)
        refine goes_ Try.func17 (by kernel_rfl) rfl #[.agg #[.slice Ao42 x113000_1.length co42, .int .i64 x113001_1, .int .i64 x113002_1, .int .i64 x113003_1], .agg #[.slice Ao51 y119.length co51, .slice none 0 0, .int .i64 (wrap64 (x113001_1 + 1)), .int .i64 x113002_1, .int .i64 x113003_1]] (by rfl) rfl rfl yq118 ?_
        refine (spec_Apply.calls k1 _ _ x113000_1 x113001_1 x113002_1 x113003_1 _ _ y119 _ _ ([] : List Int) (wrap64 (x113001_1 + 1)) x113002_1 x113003_1 t122 t125 t126 t127 false _ ?side1 ?side2 ?side3 ?side4 ?side5 ?side6 A17.out).mono ?_
        (case side1 => exact yq125)
        (case side2 => exact (Kd.R_reads' HO_113000.out).2.1)
        (case side3 => exact yq126)
        (case side4 => exact (Kd.R_reads' HO121.out).2.1)
        (case side5 => exact Kd.C_nil _ _)
        (case side6 => exact Nat.le_refl _)
        rintro e w52 ⟨v123, rfl, ho0, hb⟩
        refine ⟨_, rfl, ?_⟩
        have HO124 := Qz.mk (Kd.R_lower (Kd.R_new' (Kd.R_new' ho0 (Kd.R_lt yq112)) (Kd.R_lt yq115)) (qz yq111))
        replace HO_113000 := Qz.mk (Kd.R_elder' yq112 (Kd.R_base ho0) hb)
        replace HO121 := Qz.mk (Kd.R_elder' yq115 (Kd.R_base ho0) hb)
        replace BK101 := Qz.mk (qp (g := gb101) (o := .cells #[.slice none 0 0, .int .i64 0, .int .i64 0, .int .i64 0] 32 (0, 0)) yq108 hb)
        replace BK112 := Qz.mk (qp (g := gb112) (o := .cells #[.slice Ao42 x113000_1.length co42, .int .i64 x113001_1, .int .i64 x113002_1, .int .i64 x113003_1] 32 (0, 0)) yq109 hb)
        replace BK129 := Qz.mk (qp (g := gb129) (o := .cells #[.slice none 0 0, .int .i64 0, .int .i64 0, .int .i64 0] 32 (0, 0)) yq114 hb)
        replace HB := Qz.mk (qq yq111 hb)
        replace HI104 := Qz.mk (IsS123.below yq106 hb)
        (try clear hb)
        (try clear hb2)
        (try clear hk)
        (try clear hi)
        (try clear ho0)
        refine hK.out _ _ ⟨(qd BK112.out 0).trans rfl, (qd BK112.out 1).trans rfl, (qd BK112.out 2).trans rfl, (qd BK112.out 3).trans rfl⟩ (fun hHeld => ?_)
        clear hK K
        refine norm_ (a' := ?_) ?_ ?_
        rotate_left
        ·show Act.put _ (some 38) _ = _
         simp only [Act.put, sq1, sq2, sq3, i64_w, i32_w]
         rfl
        refine pure_ (i := 20) (N := some 18) (v := ?_) (a' := ?_) bq126 rfl rfl (qo HT_.out (by kernel_rfl)) (fun _ _ _ h => h) (Or.inl ⟨by rfl, ?_⟩) ?_ ?_
        rotate_left
        ·intro w'
         go_simp
         with_reducible rfl
        rotate_left
        ·simp only [Act.put, sq1, sq2, sq3, i64_w, i32_w]
         rfl
        refine pure_ (i := 21) (N := some 39) (v := ?_) (a' := ?_) bq129 rfl rfl (qo HT_.out (by kernel_rfl)) (fun _ _ _ h => h) (Or.inl ⟨by rfl, ?_⟩) ?_ ?_
        rotate_left
        ·intro w'
         go_simp
         with_reducible rfl
        rotate_left
        ·simp only [Act.put, sq1, sq2, sq3, i64_w, i32_w]
         rfl
        refine pure_ (i := 22) (N := some 40) (v := ?_) (a' := ?_) bq133 rfl rfl (qo HT_.out (by kernel_rfl)) (fun _ _ _ h => h) (Or.inl ⟨by rfl, ?_⟩) ?_ ?_
        rotate_left
        ·intro w'
         go_simp
         with_reducible rfl
        rotate_left
        ·simp only [Act.put, sq1, sq2, sq3, i64_w, i32_w]
         rfl
        exact norm_ yq113 (hJ11_14_17_19_23 (.slice Ao51 y119.length co51, v123, gb129) _ ⟨hHeld, yq129, yq128, yq112, yq108, yq109, yq114, GW129.out, GE129.out, NB104_129.out, NB129_104.out, NB101_129.out, NB129_101.out, NB112_129.out, NB129_112.out, yq106, yq111⟩)
      ·skip
       rintro ⟨v120, v123⟩ w50 ⟨hS_, h0_, h1_, h2_, h3_, h4_, h5_, h6_⟩
       have n0_ : Qz (Kd.R k66 66 w50 w.heap.size (fun k_ => some k_ ≠ (v123 : Value).ownBlock ∧ some k_ ≠ (.slice Ao42 x113000_1.length co42 : Value).ownBlock) v120 y119) := ⟨h0_⟩
       have n1_ : Qz (Kd.R k66 66 w50 w.heap.size (fun k_ => some k_ ≠ (v120 : Value).ownBlock ∧ some k_ ≠ (.slice Ao42 x113000_1.length co42 : Value).ownBlock) v123 t122) := ⟨h1_⟩
       have n2_ : Qz (Kd.R k66 66 w50 w.heap.size (fun k_ => some k_ ≠ (v120 : Value).ownBlock ∧ some k_ ≠ (v123 : Value).ownBlock) (.slice Ao42 x113000_1.length co42) x113000_1) := ⟨h2_⟩
       have n3_ : Qz (w50.heap[gb101]? = some (.cells #[.slice none 0 0, .int .i64 0, .int .i64 0, .int .i64 0] 32 (0, 0))) := ⟨h3_⟩
       have n4_ : Qz (w50.heap[gb112]? = some (.cells #[.slice Ao42 x113000_1.length co42, .int .i64 x113001_1, .int .i64 x113002_1, .int .i64 x113003_1] 32 (0, 0))) := ⟨h4_⟩
       have n5_ : Qz (IsS123 w w50 g104 t102 t118) := ⟨h5_⟩
       have n6_ : Qz (Below w.heap.size w w50) := ⟨h6_⟩
       clear HO_113000
       clear BK101
       clear BK112
       clear HI104
       clear HB
       clear h0_ h1_ h2_ h3_ h4_ h5_ h6_
       have HO121 := n0_
       have HO124 := n1_
       have HO_113000 := n2_
       have BK101 := n3_
       have BK112 := n4_
       have HI104 := n5_
       have HB := n6_
       clear n0_ n1_ n2_ n3_ n4_ n5_ n6_
       have hHeld : w50.cell? ⟨gb112, 0, none⟩ = some (.slice Ao42 x113000_1.length co42) ∧ w50.cell? ⟨gb112, 1, none⟩ = some (.int .i64 x113001_1) ∧ w50.cell? ⟨gb112, 2, none⟩ = some (.int .i64 x113002_1) ∧ w50.cell? ⟨gb112, 3, none⟩ = some (.int .i64 x113003_1) := hS_
       obtain ⟨Ao51, co51, eo51⟩ := Kd.R_slice HO121.out
       (first | subst eo51 | (injection eo51 with f1_ f2_ f3_; have f4_ := f1_.symm; have f5_ := f3_.symm; clear f1_ f2_ f3_; subst f4_; subst f5_))
       refine norm_ (a' := ?_) ?_ ?_
       rotate_left
       ·simp only [putAll, Act.put, sq1, sq2, sq3]
        rfl
       refine one_ (i := 23) (N := some 6) bq133 rfl rfl (one_of HT_.out (by kernel_rfl)) (by decide) (fun K hK => ?_)
       refine box_step ?hg (N := 6) ?hd (cs := #[.slice none 0 0, .int .i64 0, .int .i64 0, .int .i64 0]) (t := 32) ?hr ?_; (case hd => rfl); (case hg => rfl); (case hr => exact yq124)
       intro gb129 hg w52 hbox hb
       replace HO_113000 := Qz.mk (Kd.R_below yq112 hb)
       replace HO121 := Qz.mk (Kd.R_below yq115 hb)
       replace HO124 := Qz.mk (Kd.R_below yq132 hb)
       have BK129 := Qz.mk (hbox)
       have GW129 := Qz.mk ((by rw [hg]; exact (qz yq107) : w.heap.size ≤ gb129))
       have GE129 := GW129
       replace HB := Qz.mk (qq yq107 hb)
       have NB101_129 := Qz.mk ((yq116 : gb101 ≠ gb129))
       have NB129_101 := Qz.mk ((yq117 : gb129 ≠ gb101))
       replace BK101 := Qz.mk (qp (g := gb101) (o := .cells #[.slice none 0 0, .int .i64 0, .int .i64 0, .int .i64 0] 32 (0, 0)) yq108 hb)
       have NB112_129 := Qz.mk ((yq120 : gb112 ≠ gb129))
       have NB129_112 := Qz.mk ((yq122 : gb129 ≠ gb112))
       replace BK112 := Qz.mk (qp (g := gb112) (o := .cells #[.slice Ao42 x113000_1.length co42, .int .i64 x113001_1, .int .i64 x113002_1, .int .i64 x113003_1] 32 (0, 0)) yq109 hb)
       have NB104_129 := Qz.mk ((by rw [hg]; exact Nat.ne_of_lt (IsS123.lt (show IsS123 w _ g104 t102 t118 from by repeat (first | (with_reducible first | exact HI104.out | apply IsS123.alloc | apply IsS123.drewN | apply IsS123.drew | apply IsS123.set_1 | apply (fun h_ => IsS123.far h_ NB104_101.out _) | apply (fun h_ => IsS123.far h_ NB104_112.out _)) | exact HI104.out))) : g104 ≠ gb129))
       have NB129_104 := Qz.mk ((by rw [hg]; exact Nat.ne_of_gt (IsS123.lt (show IsS123 w _ g104 t102 t118 from by repeat (first | (with_reducible first | exact HI104.out | apply IsS123.alloc | apply IsS123.drewN | apply IsS123.drew | apply IsS123.set_1 | apply (fun h_ => IsS123.far h_ NB104_101.out _) | apply (fun h_ => IsS123.far h_ NB104_112.out _)) | exact HI104.out))) : gb129 ≠ g104))
       replace HI104 := Qz.mk (IsS123.below yq110 hb)
       clear hb hbox hg
       refine hK.out _ _ ⟨(qd BK112.out 0).trans rfl, (qd BK112.out 1).trans rfl, (qd BK112.out 2).trans rfl, (qd BK112.out 3).trans rfl⟩ (fun hHeld => ?_)
       clear hK K
       refine norm_ (a' := ?_) ?_ ?_
       rotate_left
       ·show Act.put _ (some 6) _ = _
        simp only [Act.put, sq1, sq2, sq3, i64_w, i32_w]
        rfl
       exact norm_ yq113 (hJ11_14_17_19_23 (.slice Ao51 y119.length co51, v123, gb129) _ ⟨hHeld, yq115, yq132, yq112, yq108, yq109, yq114, GW129.out, GE129.out, NB104_129.out, NB129_104.out, NB101_129.out, NB129_101.out, NB112_129.out, NB129_112.out, yq106, yq111⟩)
     rintro ⟨v120, v123, gb129⟩ w51 ⟨hS_, h0_, h1_, h2_, h3_, h4_, h5_, h6_, h7_, h8_, h9_, h10_, h11_, h12_, h13_, h14_, h15_⟩
     have n0_ : Qz (Kd.R k66 66 w51 w.heap.size (fun k_ => some k_ ≠ (v123 : Value).ownBlock ∧ some k_ ≠ (.slice Ao42 x113000_1.length co42 : Value).ownBlock) v120 y119) := ⟨h0_⟩
     have n1_ : Qz (Kd.R k66 66 w51 w.heap.size (fun k_ => some k_ ≠ (v120 : Value).ownBlock ∧ some k_ ≠ (.slice Ao42 x113000_1.length co42 : Value).ownBlock) v123 t122) := ⟨h1_⟩
     have n2_ : Qz (Kd.R k66 66 w51 w.heap.size (fun k_ => some k_ ≠ (v120 : Value).ownBlock ∧ some k_ ≠ (v123 : Value).ownBlock) (.slice Ao42 x113000_1.length co42) x113000_1) := ⟨h2_⟩
     have n3_ : Qz (w51.heap[gb101]? = some (.cells #[.slice none 0 0, .int .i64 0, .int .i64 0, .int .i64 0] 32 (0, 0))) := ⟨h3_⟩
     have n4_ : Qz (w51.heap[gb112]? = some (.cells #[.slice Ao42 x113000_1.length co42, .int .i64 x113001_1, .int .i64 x113002_1, .int .i64 x113003_1] 32 (0, 0))) := ⟨h4_⟩
     have n5_ : Qz (w51.heap[gb129]? = some (.cells #[.slice none 0 0, .int .i64 0, .int .i64 0, .int .i64 0] 32 (0, 0))) := ⟨h5_⟩
     have n6_ : Qz (w.heap.size ≤ gb129) := ⟨h6_⟩
     have n7_ : Qz (w.heap.size ≤ gb129) := ⟨h7_⟩
     have n8_ : Qz (g104 ≠ gb129) := ⟨h8_⟩
     have n9_ : Qz (gb129 ≠ g104) := ⟨h9_⟩
     have n10_ : Qz (gb101 ≠ gb129) := ⟨h10_⟩
     have n11_ : Qz (gb129 ≠ gb101) := ⟨h11_⟩
     have n12_ : Qz (gb112 ≠ gb129) := ⟨h12_⟩
     have n13_ : Qz (gb129 ≠ gb112) := ⟨h13_⟩
     have n14_ : Qz (IsS123 w w51 g104 t102 t118) := ⟨h14_⟩
     have n15_ : Qz (Below w.heap.size w w51) := ⟨h15_⟩
     clear HO_113000
     clear BK101
     clear BK112
     clear HI104
     clear HB
     clear h0_ h1_ h2_ h3_ h4_ h5_ h6_ h7_ h8_ h9_ h10_ h11_ h12_ h13_ h14_ h15_
     have HO121 := n0_
     have HO124 := n1_
     have HO_113000 := n2_
     have BK101 := n3_
     have BK112 := n4_
     have BK129 := n5_
     have GW129 := n6_
     have GE129 := n7_
     have NB104_129 := n8_
     have NB129_104 := n9_
     have NB101_129 := n10_
     have NB129_101 := n11_
     have NB112_129 := n12_
     have NB129_112 := n13_
     have HI104 := n14_
     have HB := n15_
     clear n0_ n1_ n2_ n3_ n4_ n5_ n6_ n7_ n8_ n9_ n10_ n11_ n12_ n13_ n14_ n15_
     have hHeld : w51.cell? ⟨gb112, 0, none⟩ = some (.slice Ao42 x113000_1.length co42) ∧ w51.cell? ⟨gb112, 1, none⟩ = some (.int .i64 x113001_1) ∧ w51.cell? ⟨gb112, 2, none⟩ = some (.int .i64 x113002_1) ∧ w51.cell? ⟨gb112, 3, none⟩ = some (.int .i64 x113003_1) := hS_
     obtain ⟨Ao52, co52, eo52⟩ := Kd.R_slice HO121.out
     (first | subst eo52 | (injection eo52 with f1_ f2_ f3_; have f4_ := f1_.symm; have f5_ := f3_.symm; clear f1_ f2_ f3_; subst f4_; subst f5_))
     obtain ⟨Ao53, co53, eo53⟩ := Kd.R_slice HO124.out
     (first | subst eo53 | (injection eo53 with f1_ f2_ f3_; have f4_ := f1_.symm; have f5_ := f3_.symm; clear f1_ f2_ f3_; subst f4_; subst f5_))
     refine norm_ (a' := ?_) ?_ ?_
     rotate_left
     ·simp only [putAll, Act.put, sq1, sq2, sq3]
      rfl
     refine one_ (i := 24) (N := none) bq135 rfl rfl (one_of HT_.out (by kernel_rfl)) (by decide) (fun K hK => ?_)
     have hs54 : w51.cell? ⟨gb129, 0, none⟩ = some (.slice none 0 0) := (qd BK129.out 0).trans rfl
     have hfs54 := qg BK129.out 0
     have hns54_0 := NB101_129.out
     have hns54_1 := NB112_129.out
     have hms54_0 := NB129_101.out
     have hms54_1 := NB129_112.out
     have hs55 : w51.cell? ⟨gb129, 1, none⟩ = some (.int .i64 0) := (qd BK129.out 1).trans rfl
     have hfs55 := qg BK129.out 1
     have hns55_0 := NB101_129.out
     have hns55_1 := NB112_129.out
     have hms55_0 := NB129_101.out
     have hms55_1 := NB129_112.out
     have hs56 : w51.cell? ⟨gb129, 2, none⟩ = some (.int .i64 0) := (qd BK129.out 2).trans rfl
     have hfs56 := qg BK129.out 2
     have hns56_0 := NB101_129.out
     have hns56_1 := NB112_129.out
     have hms56_0 := NB129_101.out
     have hms56_1 := NB129_112.out
     have hs57 : w51.cell? ⟨gb129, 3, none⟩ = some (.int .i64 0) := (qd BK129.out 3).trans rfl
     have hfs57 := qg BK129.out 3
     have hns57_0 := NB101_129.out
     have hns57_1 := NB112_129.out
     have hms57_0 := NB129_101.out
     have hms57_1 := NB129_112.out
     refine skip_ (w1 := ?_) (by rfl) rfl ?_ ?_
     rotate_left
     ·go_simp
      rfl
     refine hK.out _ _ ⟨((qw (p := ⟨gb129, _, none⟩) NB112_129.out _).trans (((qw (p := ⟨gb129, _, none⟩) NB112_129.out _).trans (((qw (p := ⟨gb129, _, none⟩) NB112_129.out _).trans (((qw (p := ⟨gb129, _, none⟩) NB112_129.out _).trans (hHeld.1)))))))), ((qw (p := ⟨gb129, _, none⟩) NB112_129.out _).trans (((qw (p := ⟨gb129, _, none⟩) NB112_129.out _).trans (((qw (p := ⟨gb129, _, none⟩) NB112_129.out _).trans (((qw (p := ⟨gb129, _, none⟩) NB112_129.out _).trans (hHeld.2.1)))))))), ((qw (p := ⟨gb129, _, none⟩) NB112_129.out _).trans (((qw (p := ⟨gb129, _, none⟩) NB112_129.out _).trans (((qw (p := ⟨gb129, _, none⟩) NB112_129.out _).trans (((qw (p := ⟨gb129, _, none⟩) NB112_129.out _).trans (hHeld.2.2.1)))))))), ((qw (p := ⟨gb129, _, none⟩) NB112_129.out _).trans (((qw (p := ⟨gb129, _, none⟩) NB112_129.out _).trans (((qw (p := ⟨gb129, _, none⟩) NB112_129.out _).trans (((qw (p := ⟨gb129, _, none⟩) NB112_129.out _).trans (hHeld.2.2.2))))))))⟩ (fun hHeld => ?_)
     clear hK K
     refine pure_ (i := 25) (N := some 7) (v := ?_) (a' := ?_) bq148 rfl rfl (qo HT_.out (by kernel_rfl)) (fun _ _ _ h => h) (Or.inl ⟨by rfl, ?_⟩) ?_ ?_
     rotate_left
     ·intro w'
      go_simp
      with_reducible rfl
     rotate_left
     ·simp only [Act.put, sq1, sq2, sq3, i64_w, i32_w]
      rfl
     refine done_ (done_of HT_.out (by kernel_rfl)) ?_
     try go_wp2
     go_roundg k1
     case measure => have := HK1.out; omega
     case rel => exact ⟨(wrap64 (x5_1 - 1)), (t118), (x113000_1), (x113001_1), (x113002_1), (x113003_1), (.slice Ao42 x113000_1.length co42), (by first | rfl | (simp; done) | (simp [*]; done)), H', ⟨by have := HK1.out; omega⟩, ⟨by (with_reducible repeat (first | apply Kd.R_alloc | apply Kd.R_drewN | apply Kd.R_drew)); exact Kd.R_mono (Kd.R_far (p := ⟨gb129, 3, none⟩) (Kd.R_far (p := ⟨gb129, 2, none⟩) (Kd.R_far (p := ⟨gb129, 1, none⟩) (Kd.R_far (p := ⟨gb129, 0, none⟩) (Kd.R_types HO_113000.out BK129.out (by decide)) (fun _ hk => hk.2) (.slice Ao53 t122.length co53)) (fun _ hk => hk.2) (.int .i64 t125)) (fun _ hk => hk.2) (.int .i64 t126)) (fun _ hk => hk.2) (.int .i64 t127)) (fun _ hk => trivial)⟩, ⟨by (with_reducible repeat (first | refine qb ?_ _ | refine qe ?_ | refine qa ?_ _)); refine qt ?_ NB101_129.out _; (with_reducible repeat (first | refine qb ?_ _ | refine qe ?_ | refine qa ?_ _)); refine qt ?_ NB101_129.out _; (with_reducible repeat (first | refine qb ?_ _ | refine qe ?_ | refine qa ?_ _)); refine qt ?_ NB101_129.out _; (with_reducible repeat (first | refine qb ?_ _ | refine qe ?_ | refine qa ?_ _)); refine qt ?_ NB101_129.out _; (with_reducible repeat (first | refine qb ?_ _ | refine qe ?_ | refine qa ?_ _)); exact BK101.out⟩, ⟨by (with_reducible repeat (first | refine qb ?_ _ | refine qe ?_ | refine qa ?_ _)); refine qt ?_ NB112_129.out _; (with_reducible repeat (first | refine qb ?_ _ | refine qe ?_ | refine qa ?_ _)); refine qt ?_ NB112_129.out _; (with_reducible repeat (first | refine qb ?_ _ | refine qe ?_ | refine qa ?_ _)); refine qt ?_ NB112_129.out _; (with_reducible repeat (first | refine qb ?_ _ | refine qe ?_ | refine qa ?_ _)); refine qt ?_ NB112_129.out _; (with_reducible repeat (first | refine qb ?_ _ | refine qe ?_ | refine qa ?_ _)); exact BK112.out⟩, ⟨by repeat (first | (with_reducible first | exact HI104.out | apply IsS123.alloc | apply IsS123.drewN | apply IsS123.drew | apply IsS123.set_1 | apply (fun h_ => IsS123.far h_ NB104_101.out _) | apply (fun h_ => IsS123.far h_ NB104_112.out _) | apply (fun h_ => IsS123.far h_ NB104_129.out _)) | exact HI104.out)⟩, ⟨by repeat (first | (with_reducible first | exact HB.out | apply qi | apply qf | apply qh | refine qc ?_ (IsS123.ge HI104.out) | refine qc ?_ GE101.out | refine qc ?_ GE112.out | refine qc ?_ GE129.out) | exact HB.out)⟩⟩
   ·rw [if_neg c14] at H
    have c14b0 : decide (0 < x5_1) = false := decide_eq_false c14
    clear c14
    simp only [Option.some.injEq, Prod.mk.injEq] at H
    obtain ⟨rfl, rfl, rfl, rfl⟩ := H
    have hnb58 := NB112_101.out
    have hnc58 := NB101_112.out
    have hnb59 := NB112_104.out
    have hnc59 := NB104_112.out
    have hcz60_0 : wr.cell? ⟨gb112, 0, none⟩ = some (u113000) := (qd BK112.out 0).trans rfl
    have hcz60_1 : wr.cell? ⟨gb112, 1, none⟩ = some (.int .i64 x113001_1) := (qd BK112.out 1).trans rfl
    have hcz60_2 : wr.cell? ⟨gb112, 2, none⟩ = some (.int .i64 x113002_1) := (qd BK112.out 2).trans rfl
    have hcz60_3 : wr.cell? ⟨gb112, 3, none⟩ = some (.int .i64 x113003_1) := (qd BK112.out 3).trans rfl
    have hfz60_0 := qg BK112.out 0
    have hfz60_1 := qg BK112.out 1
    have hfz60_2 := qg BK112.out 2
    have hfz60_3 := qg BK112.out 3
    obtain ⟨Ao61, co61, eo61⟩ := Kd.R_slice HO_113000.out
    subst eo61
    have hnb62 := NB101_104.out
    have hnc62 := NB104_101.out
    have hcz63_0 : wr.cell? ⟨gb101, 0, none⟩ = some (.slice none 0 0) := (qd BK101.out 0).trans rfl
    have hcz63_1 : wr.cell? ⟨gb101, 1, none⟩ = some (.int .i64 0) := (qd BK101.out 1).trans rfl
    have hcz63_2 : wr.cell? ⟨gb101, 2, none⟩ = some (.int .i64 0) := (qd BK101.out 2).trans rfl
    have hcz63_3 : wr.cell? ⟨gb101, 3, none⟩ = some (.int .i64 0) := (qd BK101.out 3).trans rfl
    have hfz63_0 := qg BK101.out 0
    have hfz63_1 := qg BK101.out 1
    have hfz63_2 := qg BK101.out 2
    have hfz63_3 := qg BK101.out 3
    go_wp2
    refine bodyPost_ret (results_cell_row rfl _ _ gb101 32 #[.slice Ao61 x113000_1.length co61, .int .i64 x113001_1, .int .i64 x113002_1, .int .i64 x113003_1] (0, 0) _ rfl (by (with_reducible repeat (first | refine qb ?_ _ | refine qe ?_ | refine qa ?_ _)); refine qy (cs := #[.slice Ao61 x113000_1.length co61, .int .i64 x113001_1, .int .i64 x113002_1, .int .i64 0]) ?_ 3 _ rfl; (with_reducible repeat (first | refine qb ?_ _ | refine qe ?_ | refine qa ?_ _)); refine qy (cs := #[.slice Ao61 x113000_1.length co61, .int .i64 x113001_1, .int .i64 0, .int .i64 0]) ?_ 2 _ rfl; (with_reducible repeat (first | refine qb ?_ _ | refine qe ?_ | refine qa ?_ _)); refine qy (cs := #[.slice Ao61 x113000_1.length co61, .int .i64 0, .int .i64 0, .int .i64 0]) ?_ 1 _ rfl; (with_reducible repeat (first | refine qb ?_ _ | refine qe ?_ | refine qa ?_ _)); refine qy (cs := #[.slice none 0 0, .int .i64 0, .int .i64 0, .int .i64 0]) ?_ 0 _ rfl; (with_reducible repeat (first | refine qb ?_ _ | refine qe ?_ | refine qa ?_ _)); exact BK101.out) Try.underlying32 rfl (by kernel_rfl)) rfl ?_
    exact ⟨_, by first | rfl | (simp [qv, qu] <;> rfl) | (simp [*, qv, qu] <;> rfl), by (with_reducible repeat (first | apply Kd.R_alloc | apply Kd.R_drewN | apply Kd.R_drew)); exact Kd.R_mono (Kd.R_far (p := ⟨gb101, 3, none⟩) (Kd.R_far (p := ⟨gb101, 2, none⟩) (Kd.R_far (p := ⟨gb101, 1, none⟩) (Kd.R_far (p := ⟨gb101, 0, none⟩) (Kd.R_types HO_113000.out BK101.out (by decide)) (fun _ hk => hk.2) (.slice Ao61 x113000_1.length co61)) (fun _ hk => hk.2) (.int .i64 x113001_1)) (fun _ hk => hk.2) (.int .i64 x113002_1)) (fun _ hk => hk.2) (.int .i64 x113003_1)) (fun _ hk => trivial), by repeat (first | (with_reducible first | exact HB.out | apply qi | apply qf | apply qh | refine qc ?_ (IsS123.ge HI104.out) | refine qc ?_ GE101.out | refine qc ?_ GE112.out) | exact HB.out)⟩
theorem yq133 {P : Prop} (h : P := by (try simp only [List.map_toArray, List.map_cons, List.map_nil]); first | done | rfl | (simp only [List.length_drop, List.length_take]; rfl) | (rw [IntWalk.u64_in _ (by omega)] <;> rfl)) : P := h
theorem yq134 {P : Prop} (h : P := by (with_reducible repeat (first | apply Kd.R_alloc | apply Kd.R_drewN | apply Kd.R_drew)); exact (Kd.R_mono (Kd.R_far (p := ⟨gb108, 3, none⟩) (Kd.R_far (p := ⟨gb108, 2, none⟩) (Kd.R_far (p := ⟨gb108, 1, none⟩) (Kd.R_far (p := ⟨gb108, 0, none⟩) (Kd.R_types HO104.out BK108.out (by decide)) (fun _ hk => hk.2) (.slice Ao10 t102.length co10)) (fun _ hk => hk.2) (.int .i64 t105)) (fun _ hk => hk.2) (.int .i64 t106)) (fun _ hk => hk.2) (.int .i64 t107)) (fun _ h_ => h_.1))) : P := h
theorem yq135 {P : Prop} (h : P := by repeat (first | exact HR0.out | (with_reducible refine Kd.C_alloc ?_ _) | (with_reducible refine Kd.C_drewN ?_ _) | (with_reducible refine Kd.C_drew ?_))) : P := h
theorem yq136 {P : Prop} (h : P := by repeat (first | (with_reducible first | exact HB.out | apply qi | apply qf | apply qh) | exact HB.out)) : P := h
mutual
def laws_FnPicked.j0 : Nat → Int → Bool → Int → Bool → Bool → List (S66) → Int → Int → Int → Option (Bool)
 | 0, _, _, _, _, _, _, _, _, _ => none
 | k + 1, x4, x5, x6, x7, x34, x109000, x109001, x109002, x109003 => if x34 = true then (if x4 = x6 then (some (x5 == x7)) else (some false)) else (laws_FnPicked.l0 k x4 0 x109000 x109001 x109002 x109003)
def laws_FnPicked.l0 : Nat → Int → Int → List (S66) → Int → Int → Int → Option (Bool)
 | 0, _, _, _, _, _, _ => none
 | k + 1, x4, x8, x109000, x109001, x109002, x109003 => if x8 < (x109000.length : Int) then (if 0 ≤ x8 then (if ((qk x109000 x8).f1) = x4 then (some true) else (laws_FnPicked.l0 k x4 (wrap64 (x8 + 1)) x109000 x109001 x109002 x109003)) else (none)) else (some false)
end
def laws_FnPicked.f (k : Nat) (l0 : List Int) : Option (Bool) := (laws_big.f l0).bind fun t101 => (if t101 = true then (some true) else ((spec_DrawPickLevel.f k l0).bind fun bt102 => ((impl_PickLevel.f bt102.1 bt102.2.1 bt102.2.2.1 bt102.2.2.2).bind fun bt109 => ((spec_PickLevel.f k bt102.1 bt102.2.1 bt102.2.2.1 bt102.2.2.2).bind fun bt111 => (if bt109.1 = bt111.1 then (if (bt109.2 != bt111.2) = true then (laws_FnPicked.j0 k bt109.1 bt109.2 bt111.1 bt111.2 true bt102.1 bt102.2.1 bt102.2.2.1 bt102.2.2.2) else (laws_FnPicked.j0 k bt109.1 bt109.2 bt111.1 bt111.2 (!bt109.2) bt102.1 bt102.2.1 bt102.2.2.1 bt102.2.2.2)) else (laws_FnPicked.j0 k bt109.1 bt109.2 bt111.1 bt111.2 true bt102.1 bt102.2.1 bt102.2.2.1 bt102.2.2.2))))))
set_option maxHeartbeats 8000000 in
set_option maxRecDepth 100000 in
theorem laws_FnPicked.calls (k : Nat) (A0 : Option Addr) (c0 : Nat) (l0 : List Int) (r : Bool) (w : World) (hr0 : Kd.C (Kd.int .u8) w A0 l0.length l0) (hc0 : l0.length ≤ c0) (h : laws_FnPicked.f k l0 = some r) :
  Calls Try.prog 9 #[.slice A0 l0.length c0] w fun e w' => e = .returned (.bool r) ∧ Below w.heap.size w w' := by
 have hu32 := Try.underlying32
 have HR0 := Qz.mk hr0
 have HC0 := Qz.mk hc0
 clear hr0 hc0
 have HB := Qz.mk (Below.refl w.heap.size w)
 have H : ((laws_big.f l0).bind fun t101 => (if t101 = true then (some true) else ((spec_DrawPickLevel.f k l0).bind fun bt102 => ((impl_PickLevel.f bt102.1 bt102.2.1 bt102.2.2.1 bt102.2.2.2).bind fun bt109 => ((spec_PickLevel.f k bt102.1 bt102.2.1 bt102.2.2.1 bt102.2.2.2).bind fun bt111 => (if bt109.1 = bt111.1 then (if (bt109.2 != bt111.2) = true then (laws_FnPicked.j0 k bt109.1 bt109.2 bt111.1 bt111.2 true bt102.1 bt102.2.1 bt102.2.2.1 bt102.2.2.2) else (laws_FnPicked.j0 k bt109.1 bt109.2 bt111.1 bt111.2 (!bt109.2) bt102.1 bt102.2.1 bt102.2.2.1 bt102.2.2.2)) else (laws_FnPicked.j0 k bt109.1 bt109.2 bt111.1 bt111.2 true bt102.1 bt102.2.1 bt102.2.2.1 bt102.2.2.2))))))) = some r := h
 clear h
 replace H := Option.bind_eq_some_iff.mp H
 obtain ⟨t101, A20, H⟩ := H
 replace H : (if t101 = true then (some true) else ((spec_DrawPickLevel.f k l0).bind fun bt102 => ((impl_PickLevel.f bt102.1 bt102.2.1 bt102.2.2.1 bt102.2.2.2).bind fun bt109 => ((spec_PickLevel.f k bt102.1 bt102.2.1 bt102.2.2.1 bt102.2.2.2).bind fun bt111 => (if bt109.1 = bt111.1 then (if (bt109.2 != bt111.2) = true then (laws_FnPicked.j0 k bt109.1 bt109.2 bt111.1 bt111.2 true bt102.1 bt102.2.1 bt102.2.2.1 bt102.2.2.2) else (laws_FnPicked.j0 k bt109.1 bt109.2 bt111.1 bt111.2 (!bt109.2) bt102.1 bt102.2.1 bt102.2.2.1 bt102.2.2.2)) else (laws_FnPicked.j0 k bt109.1 bt109.2 bt111.1 bt111.2 true bt102.1 bt102.2.1 bt102.2.2.1 bt102.2.2.2)))))) = some r := H
 have A2 := Qz.mk A20
 clear A20
 by_cases c3 : t101 = true
 ·subst c3
  have H1 : (some true) = some r := by rw [if_pos rfl] at H; exact H
  clear H
  have H := H1
  clear H1
  obtain rfl := Option.some.inj H
  go_enter Try.func9, Try.ntmps9
  go_wp2_with (first | ((with_reducible refine qr (f := 36) rfl ?_); refine goesL_ (some 10) rfl rfl Try.func36 (by kernel_rfl) rfl #[.slice A0 l0.length c0] rfl yq133 ?_; (with_reducible refine (laws_big.calls _ _ l0 true _ ?side1 ?side2 A2.out).mono ?_); (case side1 => exact yq135); (case side2 => exact HC0.out); rintro e w' ⟨rfl, ⟨nd, rfl⟩⟩; refine ⟨_, rfl, ?_⟩))
  go_ret
  exact ⟨by first | rfl | (simp [qv, qu] <;> rfl) | (simp [*, qv, qu] <;> rfl), by repeat (first | (with_reducible first | exact HB.out | apply qi | apply qf | apply qh) | exact HB.out)⟩
 ·replace c3 := Bool.eq_false_iff.mpr c3
  subst c3
  have H1 : ((spec_DrawPickLevel.f k l0).bind fun bt102 => ((impl_PickLevel.f bt102.1 bt102.2.1 bt102.2.2.1 bt102.2.2.2).bind fun bt109 => ((spec_PickLevel.f k bt102.1 bt102.2.1 bt102.2.2.1 bt102.2.2.2).bind fun bt111 => (if bt109.1 = bt111.1 then (if (bt109.2 != bt111.2) = true then (laws_FnPicked.j0 k bt109.1 bt109.2 bt111.1 bt111.2 true bt102.1 bt102.2.1 bt102.2.2.1 bt102.2.2.2) else (laws_FnPicked.j0 k bt109.1 bt109.2 bt111.1 bt111.2 (!bt109.2) bt102.1 bt102.2.1 bt102.2.2.1 bt102.2.2.2)) else (laws_FnPicked.j0 k bt109.1 bt109.2 bt111.1 bt111.2 true bt102.1 bt102.2.1 bt102.2.2.1 bt102.2.2.2))))) = some r := by rw [if_neg (show ¬ (false = true) by decide)] at H; exact H
  clear H
  have H := H1
  clear H1
  replace H := Option.bind_eq_some_iff.mp H
  obtain ⟨⟨t102, t105, t106, t107⟩, A40, H⟩ := H
  replace H : ((impl_PickLevel.f t102 t105 t106 t107).bind fun bt109 => ((spec_PickLevel.f k t102 t105 t106 t107).bind fun bt111 => (if bt109.1 = bt111.1 then (if (bt109.2 != bt111.2) = true then (laws_FnPicked.j0 k bt109.1 bt109.2 bt111.1 bt111.2 true t102 t105 t106 t107) else (laws_FnPicked.j0 k bt109.1 bt109.2 bt111.1 bt111.2 (!bt109.2) t102 t105 t106 t107)) else (laws_FnPicked.j0 k bt109.1 bt109.2 bt111.1 bt111.2 true t102 t105 t106 t107)))) = some r := H
  have A4 := Qz.mk A40
  clear A40
  replace H := Option.bind_eq_some_iff.mp H
  obtain ⟨⟨t109, t110⟩, A50, H⟩ := H
  replace H : ((spec_PickLevel.f k t102 t105 t106 t107).bind fun bt111 => (if t109 = bt111.1 then (if (t110 != bt111.2) = true then (laws_FnPicked.j0 k t109 t110 bt111.1 bt111.2 true t102 t105 t106 t107) else (laws_FnPicked.j0 k t109 t110 bt111.1 bt111.2 (!t110) t102 t105 t106 t107)) else (laws_FnPicked.j0 k t109 t110 bt111.1 bt111.2 true t102 t105 t106 t107))) = some r := H
  have A5 := Qz.mk A50
  clear A50
  replace H := Option.bind_eq_some_iff.mp H
  obtain ⟨⟨t111, t112⟩, A60, H⟩ := H
  replace H : (if t109 = t111 then (if (t110 != t112) = true then (laws_FnPicked.j0 k t109 t110 t111 t112 true t102 t105 t106 t107) else (laws_FnPicked.j0 k t109 t110 t111 t112 (!t110) t102 t105 t106 t107)) else (laws_FnPicked.j0 k t109 t110 t111 t112 true t102 t105 t106 t107)) = some r := H
  have A6 := Qz.mk A60
  clear A60
  have HC7 := Qz.mk H
  clear H
  go_enter Try.func9, Try.ntmps9
  go_upto_region 6 with (first | ((with_reducible refine qr (f := 36) rfl ?_); refine goesL_ (some 10) rfl rfl Try.func36 (by kernel_rfl) rfl #[.slice A0 l0.length c0] rfl yq133 ?_; (with_reducible refine (laws_big.calls _ _ l0 false _ ?side1 ?side2 A2.out).mono ?_); (case side1 => exact yq135); (case side2 => exact HC0.out); rintro e w' ⟨rfl, ⟨nd, rfl⟩⟩; refine ⟨_, rfl, ?_⟩) | ((with_reducible refine qr (f := 43) rfl ?_); refine goesL_ (some 12) rfl rfl Try.func43 (by kernel_rfl) rfl #[.slice A0 l0.length c0] rfl yq133 ?_; (with_reducible refine (spec_DrawPickLevel.calls k _ _ l0 t102 t105 t106 t107 _ ?side1 ?side2 A4.out).mono ?_); (case side1 => exact yq135); (case side2 => exact HC0.out); rintro e w8 ⟨v103, rfl, ho0, hb⟩; refine ⟨_, rfl, ?_⟩; have HO104 := Qz.mk (Kd.R_lower ho0 (qz yq136)); replace HB := Qz.mk (qq yq136 hb); (try clear hb); (try clear hk); (try clear ho0)) | ((with_reducible refine gate_dst (N := 3) rfl ?_); refine box_event ?hg (N := 3) ?hd (cs := #[.slice none 0 0, .int .i64 0, .int .i64 0, .int .i64 0]) (t := 32) ?hr ?_; (case hd => rfl); (case hg => rfl); (case hr => first | (go_simp; done) | (go_simp; rfl)); intro gb108 hg w9 hbox hb; replace HO104 := Qz.mk (Kd.R_below (by (with_reducible repeat (first | apply Kd.R_alloc | apply Kd.R_drewN | apply Kd.R_drew)); exact HO104.out) hb); have BK108 := Qz.mk (hbox); have GW108 := Qz.mk ((by rw [hg]; exact (qz yq136) : w.heap.size ≤ gb108)); have GE108 := GW108; replace HB := Qz.mk (qq yq136 hb); clear hb hbox hg; obtain ⟨Ao10, co10, eo10⟩ := Kd.R_slice HO104.out; subst eo10; have hcz11_0 : w9.cell? ⟨gb108, 0, none⟩ = some (.slice none 0 0) := (qd BK108.out 0).trans rfl; have hcz11_1 : w9.cell? ⟨gb108, 1, none⟩ = some (.int .i64 0) := (qd BK108.out 1).trans rfl; have hcz11_2 : w9.cell? ⟨gb108, 2, none⟩ = some (.int .i64 0) := (qd BK108.out 2).trans rfl; have hcz11_3 : w9.cell? ⟨gb108, 3, none⟩ = some (.int .i64 0) := (qd BK108.out 3).trans rfl; have hfz11_0 := qg BK108.out 0; have hfz11_1 := qg BK108.out 1; have hfz11_2 := qg BK108.out 2; have hfz11_3 := qg BK108.out 3) | ((with_reducible refine qr (f := 35) rfl ?_); refine goesL_ (some 15) rfl rfl Try.func35 (by kernel_rfl) rfl #[.agg #[.slice Ao10 t102.length co10, .int .i64 t105, .int .i64 t106, .int .i64 t107]] rfl yq133 ?_; (with_reducible refine (impl_PickLevel.calls _ _ t102 t105 t106 t107 t109 t110 _ ?side1 ?side2 A5.out).mono ?_); (case side1 => refine (Kd.R_reads' (e := 66) (base := w.heap.size) (ok := fun k_ => True) (n := t102.length) (c := co10) ?_).2.2; exact yq134); (case side2 => exact (Kd.R_reads' HO104.out).2.1); rintro e w12 ⟨rfl, hb⟩; refine ⟨_, rfl, ?_⟩; replace HO104 := Qz.mk (Kd.R_below yq134 hb); replace BK108 := Qz.mk (qp (g := gb108) (o := .cells #[.slice Ao10 t102.length co10, .int .i64 t105, .int .i64 t106, .int .i64 t107] 32 (0, 0)) (by (with_reducible repeat (first | refine qb ?_ _ | refine qe ?_ | refine qa ?_ _)); refine qy (cs := #[.slice Ao10 t102.length co10, .int .i64 t105, .int .i64 t106, .int .i64 0]) ?_ 3 _ rfl; (with_reducible repeat (first | refine qb ?_ _ | refine qe ?_ | refine qa ?_ _)); refine qy (cs := #[.slice Ao10 t102.length co10, .int .i64 t105, .int .i64 0, .int .i64 0]) ?_ 2 _ rfl; (with_reducible repeat (first | refine qb ?_ _ | refine qe ?_ | refine qa ?_ _)); refine qy (cs := #[.slice Ao10 t102.length co10, .int .i64 0, .int .i64 0, .int .i64 0]) ?_ 1 _ rfl; (with_reducible repeat (first | refine qb ?_ _ | refine qe ?_ | refine qa ?_ _)); refine qy (cs := #[.slice none 0 0, .int .i64 0, .int .i64 0, .int .i64 0]) ?_ 0 _ rfl; (with_reducible repeat (first | refine qb ?_ _ | refine qe ?_ | refine qa ?_ _)); exact BK108.out) hb); replace HB := Qz.mk (qq (by repeat (first | (with_reducible first | exact HB.out | apply qi | apply qf | apply qh | refine qc ?_ GE108.out) | exact HB.out)) hb); (try clear hb); (try clear hk); have hcz13_0 : w12.cell? ⟨gb108, 0, none⟩ = some (.slice Ao10 t102.length co10) := (qd BK108.out 0).trans rfl; have hcz13_1 : w12.cell? ⟨gb108, 1, none⟩ = some (.int .i64 t105) := (qd BK108.out 1).trans rfl; have hcz13_2 : w12.cell? ⟨gb108, 2, none⟩ = some (.int .i64 t106) := (qd BK108.out 2).trans rfl; have hcz13_3 : w12.cell? ⟨gb108, 3, none⟩ = some (.int .i64 t107) := (qd BK108.out 3).trans rfl; have hfz13_0 := qg BK108.out 0; have hfz13_1 := qg BK108.out 1; have hfz13_2 := qg BK108.out 2; have hfz13_3 := qg BK108.out 3) | ((with_reducible refine qr (f := 34) rfl ?_); refine goesL_ (some 20) rfl rfl Try.func34 (by kernel_rfl) rfl #[.agg #[.slice Ao10 t102.length co10, .int .i64 t105, .int .i64 t106, .int .i64 t107]] rfl yq133 ?_; (with_reducible refine (spec_PickLevel.calls k _ _ t102 t105 t106 t107 t111 t112 _ ?side1 ?side2 A6.out).mono ?_); (case side1 => repeat (first | exact (Kd.R_reads' HO104.out).2.2 | (with_reducible refine Kd.C_alloc ?_ _) | (with_reducible refine Kd.C_drewN ?_ _) | (with_reducible refine Kd.C_drew ?_))); (case side2 => exact (Kd.R_reads' HO104.out).2.1); rintro e w14 ⟨rfl, hb⟩; refine ⟨_, rfl, ?_⟩; replace HO104 := Qz.mk (Kd.R_below (by (with_reducible repeat (first | apply Kd.R_alloc | apply Kd.R_drewN | apply Kd.R_drew)); exact HO104.out) hb); replace BK108 := Qz.mk (qp (g := gb108) (o := .cells #[.slice Ao10 t102.length co10, .int .i64 t105, .int .i64 t106, .int .i64 t107] 32 (0, 0)) (by (with_reducible repeat (first | refine qb ?_ _ | refine qe ?_ | refine qa ?_ _)); exact BK108.out) hb); replace HB := Qz.mk (qq (by repeat (first | (with_reducible first | exact HB.out | apply qi | apply qf | apply qh | refine qc ?_ GE108.out) | exact HB.out)) hb); (try clear hb); (try clear hk)))
  (try simp only [Act.put, sq1, sq2, sq3])
  go_cut [34] (fun v34 wc => ∃ (kq : Nat) (x34_6 : Bool), v34 = .bool x34_6 ∧ Qz (laws_FnPicked.j0 kq t109 t110 t111 t112 x34_6 t102 t105 t106 t107 = some r) ∧ Qz (kq ≤ k) ∧ Qz (Kd.R k66 66 wc w.heap.size (fun _ => True) (.slice Ao10 t102.length co10) t102) ∧ Qz (wc.heap[gb108]? = some (.cells #[(.slice Ao10 t102.length co10), .int .i64 t105, .int .i64 t106, .int .i64 t107] 32 (0, 0))) ∧ Qz (Below w.heap.size w wc))
  case first =>
   have H := HC7.out
   clear HC7
   by_cases c15 : t109 = t111
   ·rw [if_pos c15] at H
    have c15b0 : (t109 == t111) = true := beq_iff_eq.mpr c15
    have c15b1 : (t109 != t111) = false := bne_eq_false_iff_eq.mpr c15
    clear c15
    (first | rw [c15b0] | (simp only [i64_w, i32_w]; rw [c15b0]) | skip)
    by_cases c16 : (t110 != t112) = true
    ·rw [if_pos c16] at H
     have c16b0 : (t110 != t112) = true := c16
     (try (have c16b1 : decide (t110 = t112) = false := by simpa using c16))
     (try (have c16b2 : (t110 == t112) = false := by simpa using c16))
     (try (have c16b3 : ¬ (t110 = t112) := by simpa using c16))
     clear c16
     have H' := Qz.mk H
     clear H
     go_wp2
     go_meet
     case rel => exact ⟨_, (true), (by first | rfl | (simp; done) | (simp [*]; done)), H', ⟨by first | omega | exact Nat.le_refl _⟩, ⟨by (with_reducible repeat (first | apply Kd.R_alloc | apply Kd.R_drewN | apply Kd.R_drew)); exact HO104.out⟩, ⟨by (with_reducible repeat (first | refine qb ?_ _ | refine qe ?_ | refine qa ?_ _)); exact BK108.out⟩, ⟨by repeat (first | (with_reducible first | exact HB.out | apply qi | apply qf | apply qh | refine qc ?_ GE108.out) | exact HB.out)⟩⟩
    ·rw [if_neg c16] at H
     have c16b0 : (t110 != t112) = false := by simpa using c16
     (try (have c16b1 : decide (t110 = t112) = true := by simpa using c16))
     (try (have c16b2 : (t110 == t112) = true := by simpa using c16))
     clear c16
     have H' := Qz.mk H
     clear H
     go_wp2
     go_meet
     case rel => exact ⟨_, (!t110), (by first | rfl | (simp; done) | (simp [*]; done)), H', ⟨by first | omega | exact Nat.le_refl _⟩, ⟨by (with_reducible repeat (first | apply Kd.R_alloc | apply Kd.R_drewN | apply Kd.R_drew)); exact HO104.out⟩, ⟨by (with_reducible repeat (first | refine qb ?_ _ | refine qe ?_ | refine qa ?_ _)); exact BK108.out⟩, ⟨by repeat (first | (with_reducible first | exact HB.out | apply qi | apply qf | apply qh | refine qc ?_ GE108.out) | exact HB.out)⟩⟩
   ·rw [if_neg c15] at H
    have c15b0 : (t109 == t111) = false := beq_eq_false_iff_ne.mpr c15
    have c15b1 : (t109 != t111) = true := bne_iff_ne.mpr c15
    (first | rw [c15b0] | (simp only [i64_w, i32_w]; rw [c15b0]) | skip)
    have H' := Qz.mk H
    clear H
    go_wp2
    go_meet
    case rel => exact ⟨_, (true), (by first | rfl | (simp; done) | (simp [*]; done)), H', ⟨by first | omega | exact Nat.le_refl _⟩, ⟨by (with_reducible repeat (first | apply Kd.R_alloc | apply Kd.R_drewN | apply Kd.R_drew)); exact HO104.out⟩, ⟨by (with_reducible repeat (first | refine qb ?_ _ | refine qe ?_ | refine qa ?_ _)); exact BK108.out⟩, ⟨by repeat (first | (with_reducible first | exact HB.out | apply qi | apply qf | apply qh | refine qc ?_ GE108.out) | exact HB.out)⟩⟩
  case rest =>
   clear HC7
   try clear c1
   try clear p2
   try clear c3
   try clear c4
   try clear c9
   try clear c15
   try clear c15b0
   try clear c15b1
   try clear c16
   try clear c16b0
   try clear c16b1
   try clear c16b2
   try clear hcz11_0
   try clear hcz11_1
   try clear hcz11_2
   try clear hcz11_3
   try clear hcz13_0
   try clear hcz13_1
   try clear hcz13_2
   try clear hcz13_3
   try clear hfz11_0
   try clear hfz11_1
   try clear hfz11_2
   try clear hfz11_3
   try clear hfz13_0
   try clear hfz13_1
   try clear hfz13_2
   try clear hfz13_3
   obtain ⟨kq, x34_6, rfl, HA, HJ6, HO_109000, BK108, HB⟩ := hcut
   cases kq with
   | zero => exact absurd HA.out (by simp [laws_FnPicked.j0])
   | succ kj6 =>
    have H := HA.out
    clear HA
    simp only [laws_FnPicked.j0] at H
    by_cases c17 : x34_6 = true
    ·subst c17
     have H1 : (if t109 = t111 then (some (t110 == t112)) else (some false)) = some r := by rw [if_pos rfl] at H; exact H
     clear H
     have H := H1
     clear H1
     by_cases c18 : t109 = t111
     ·rw [if_pos c18] at H
      have c18b0 : (t109 == t111) = true := beq_iff_eq.mpr c18
      have c18b1 : (t109 != t111) = false := bne_eq_false_iff_eq.mpr c18
      clear c18
      obtain rfl := Option.some.inj H
      go_wp2
      go_ret
      exact ⟨by first | rfl | (simp [qv, qu] <;> rfl) | (simp [*, qv, qu] <;> rfl), by repeat (first | (with_reducible first | exact HB.out | apply qi | apply qf | apply qh | refine qc ?_ GE108.out) | exact HB.out)⟩
     ·rw [if_neg c18] at H
      have c18b0 : (t109 == t111) = false := beq_eq_false_iff_ne.mpr c18
      have c18b1 : (t109 != t111) = true := bne_iff_ne.mpr c18
      obtain rfl := Option.some.inj H
      go_wp2
      go_ret
      exact ⟨by first | rfl | (simp [qv, qu] <;> rfl) | (simp [*, qv, qu] <;> rfl), by repeat (first | (with_reducible first | exact HB.out | apply qi | apply qf | apply qh | refine qc ?_ GE108.out) | exact HB.out)⟩
    ·replace c17 := Bool.eq_false_iff.mpr c17
     subst c17
     have H1 : (laws_FnPicked.l0 kj6 t109 0 t102 t105 t106 t107) = some r := by rw [if_neg (show ¬ (false = true) by decide)] at H; exact H
     clear H
     have H := H1
     clear H1
     have H' := Qz.mk H
     clear H
     go_wp2
     go_loopg [8] kj6 (fun kq v8 w' => ∃ (x8_2 : Int), v8 = .int .i64 x8_2 ∧ Qz (laws_FnPicked.l0 kq t109 x8_2 t102 t105 t106 t107 = some r) ∧ Qz (kq ≤ kj6) ∧ Qz (Kd.R k66 66 w' w.heap.size (fun _ => True) (.slice Ao10 t102.length co10) t102) ∧ Qz (w'.heap[gb108]? = some (.cells #[(.slice Ao10 t102.length co10), .int .i64 t105, .int .i64 t106, .int .i64 t107] 32 (0, 0))) ∧ Qz (Below w.heap.size w w'))
     case atStart => exact ⟨(0), (by first | rfl | (simp; done) | (simp [*]; done)), H', ⟨Nat.le_refl _⟩, ⟨by (with_reducible repeat (first | apply Kd.R_alloc | apply Kd.R_drewN | apply Kd.R_drew)); exact HO_109000.out⟩, ⟨by (with_reducible repeat (first | refine qb ?_ _ | refine qe ?_ | refine qa ?_ _)); exact BK108.out⟩, ⟨by repeat (first | (with_reducible first | exact HB.out | apply qi | apply qf | apply qh | refine qc ?_ GE108.out) | exact HB.out)⟩⟩
     case round =>
      clear H'
      try clear c1
      try clear p2
      try clear c3
      try clear c4
      try clear c9
      try clear c15
      try clear c15b0
      try clear c15b1
      try clear c16
      try clear c16b0
      try clear c16b1
      try clear c16b2
      try clear c17
      try clear c18
      try clear c18b0
      try clear c18b1
      try clear hcz11_0
      try clear hcz11_1
      try clear hcz11_2
      try clear hcz11_3
      try clear hcz13_0
      try clear hcz13_1
      try clear hcz13_2
      try clear hcz13_3
      try clear hfz11_0
      try clear hfz11_1
      try clear hfz11_2
      try clear hfz11_3
      try clear hfz13_0
      try clear hfz13_1
      try clear hfz13_2
      try clear hfz13_3
      try clear p2
      obtain ⟨x8_2, rfl, HA, HK2, HO_109000, BK108, HB⟩ := hrel
      cases gk with
      | zero => exact absurd HA.out (by simp [laws_FnPicked.l0])
      | succ k2 =>
       have H := HA.out
       clear HA
       simp only [laws_FnPicked.l0] at H
       by_cases c19 : x8_2 < (t102.length : Int)
       ·rw [if_pos c19] at H
        have c19b0 : decide (x8_2 < (t102.length : Int)) = true := decide_eq_true c19
        clear c19
        by_cases c20 : 0 ≤ x8_2
        ·rw [if_pos c20] at H
         have c20b0 : decide (0 ≤ x8_2) = true := decide_eq_true c20
         clear c20
         by_cases c21 : ((qk t102 x8_2).f1) = t109
         ·rw [if_pos c21] at H
          have c21b0 : (((qk t102 x8_2).f1) == t109) = true := beq_iff_eq.mpr c21
          have c21b1 : (((qk t102 x8_2).f1) != t109) = false := bne_eq_false_iff_eq.mpr c21
          clear c21
          obtain rfl := Option.some.inj H
          have hcz22_0 : wr.cell? ⟨gb108, 0, none⟩ = some (.slice Ao10 t102.length co10) := (qd BK108.out 0).trans rfl
          have hcz22_1 : wr.cell? ⟨gb108, 1, none⟩ = some (.int .i64 t105) := (qd BK108.out 1).trans rfl
          have hcz22_2 : wr.cell? ⟨gb108, 2, none⟩ = some (.int .i64 t106) := (qd BK108.out 2).trans rfl
          have hcz22_3 : wr.cell? ⟨gb108, 3, none⟩ = some (.int .i64 t107) := (qd BK108.out 3).trans rfl
          have hfz22_0 := qg BK108.out 0
          have hfz22_1 := qg BK108.out 1
          have hfz22_2 := qg BK108.out 2
          have hfz22_3 := qg BK108.out 3
          have p113 : 0 ≤ (x8_2 : Int) := of_decide_eq_true (by first | (with_reducible assumption) | assumption)
          have q113 : x8_2 < (t102.length : Int) := of_decide_eq_true (by first | (with_reducible assumption) | assumption)
          obtain ⟨ad113, e113, hx113_0, hx113_1, hx113_2, hx113_3, hx113_4⟩ := at_T66 (Kd.R_reads' HO_109000.out).2.2 x8_2 p113 q113
          cases e113
          replace p113 := eq_true p113
          replace q113 := eq_true q113
          go_wp2
          go_ret
          exact ⟨by first | rfl | (simp [qv, qu] <;> rfl) | (simp [*, qv, qu] <;> rfl), by repeat (first | (with_reducible first | exact HB.out | apply qi | apply qf | apply qh | refine qc ?_ GE108.out) | exact HB.out)⟩
         ·rw [if_neg c21] at H
          have c21b0 : (((qk t102 x8_2).f1) == t109) = false := beq_eq_false_iff_ne.mpr c21
          have c21b1 : (((qk t102 x8_2).f1) != t109) = true := bne_iff_ne.mpr c21
          have H' := Qz.mk H
          clear H
          have hcz23_0 : wr.cell? ⟨gb108, 0, none⟩ = some (.slice Ao10 t102.length co10) := (qd BK108.out 0).trans rfl
          have hcz23_1 : wr.cell? ⟨gb108, 1, none⟩ = some (.int .i64 t105) := (qd BK108.out 1).trans rfl
          have hcz23_2 : wr.cell? ⟨gb108, 2, none⟩ = some (.int .i64 t106) := (qd BK108.out 2).trans rfl
          have hcz23_3 : wr.cell? ⟨gb108, 3, none⟩ = some (.int .i64 t107) := (qd BK108.out 3).trans rfl
          have hfz23_0 := qg BK108.out 0
          have hfz23_1 := qg BK108.out 1
          have hfz23_2 := qg BK108.out 2
          have hfz23_3 := qg BK108.out 3
          have p113 : 0 ≤ (x8_2 : Int) := of_decide_eq_true (by first | (with_reducible assumption) | assumption)
          have q113 : x8_2 < (t102.length : Int) := of_decide_eq_true (by first | (with_reducible assumption) | assumption)
          obtain ⟨ad113, e113, hx113_0, hx113_1, hx113_2, hx113_3, hx113_4⟩ := at_T66 (Kd.R_reads' HO_109000.out).2.2 x8_2 p113 q113
          cases e113
          replace p113 := eq_true p113
          replace q113 := eq_true q113
          go_wp2
          go_roundg k2
          case measure => have := HJ6.out; have := HK2.out; omega
          case rel => exact ⟨(wrap64 (x8_2 + 1)), (by first | rfl | (simp; done) | (simp [*]; done)), H', ⟨by have := HJ6.out; have := HK2.out; omega⟩, ⟨by (with_reducible repeat (first | apply Kd.R_alloc | apply Kd.R_drewN | apply Kd.R_drew)); exact HO_109000.out⟩, ⟨by (with_reducible repeat (first | refine qb ?_ _ | refine qe ?_ | refine qa ?_ _)); exact BK108.out⟩, ⟨by repeat (first | (with_reducible first | exact HB.out | apply qi | apply qf | apply qh | refine qc ?_ GE108.out) | exact HB.out)⟩⟩
        ·rw [if_neg c20] at H
         exact absurd H (by simp)
       ·rw [if_neg c19] at H
        have c19b0 : decide (x8_2 < (t102.length : Int)) = false := decide_eq_false c19
        clear c19
        obtain rfl := Option.some.inj H
        have hcz24_0 : wr.cell? ⟨gb108, 0, none⟩ = some (.slice Ao10 t102.length co10) := (qd BK108.out 0).trans rfl
        have hcz24_1 : wr.cell? ⟨gb108, 1, none⟩ = some (.int .i64 t105) := (qd BK108.out 1).trans rfl
        have hcz24_2 : wr.cell? ⟨gb108, 2, none⟩ = some (.int .i64 t106) := (qd BK108.out 2).trans rfl
        have hcz24_3 : wr.cell? ⟨gb108, 3, none⟩ = some (.int .i64 t107) := (qd BK108.out 3).trans rfl
        have hfz24_0 := qg BK108.out 0
        have hfz24_1 := qg BK108.out 1
        have hfz24_2 := qg BK108.out 2
        have hfz24_3 := qg BK108.out 3
        go_wp2
        go_ret
        exact ⟨by first | rfl | (simp [qv, qu] <;> rfl) | (simp [*, qv, qu] <;> rfl), by repeat (first | (with_reducible first | exact HB.out | apply qi | apply qf | apply qh | refine qc ?_ GE108.out) | exact HB.out)⟩
def laws_FnPicked.Pure : Prop := ∀ (l0 : List Int), l0.length ≤ maxLen → l0.length * 1 ≤ 140737488351232 → (∀ x ∈ l0, (Lit.int .u8 x).wf = true) → ∃ k, laws_FnPicked.f k l0 = some true
theorem laws_FnPicked.walk (P : laws_FnPicked.Pure) (a0 : Option Addr) (len0 cap0 : Nat) (z0 : List Int) (w : World) (w0 : (a0 = none ∧ len0 = 0 ∧ cap0 = 0 ∧ z0 = []) ∨ ∃ x, a0 = some x ∧ len0 ≤ cap0 ∧ cap0 ≤ maxLen ∧ z0.length = cap0 ∧ (∀ i, i < z0.length → w.cell? (x.add i) = some (.int .u8 (z0.getD i 0))) ∧ ∀ n ∈ z0, (Lit.int .u8 n).wf = true) (y0 : len0 * 1 ≤ 140737488351232) :
  Calls Try.prog 9 #[.slice a0 len0 cap0] w fun e w' => e = .returned (.bool true) ∧ Below w.heap.size w w' := by
 obtain ⟨l0, rfl, hr0, hm0, hw0, hc0⟩ := ReadsInt.ofRowC w0
 obtain ⟨k, h⟩ := P l0 hm0 y0 hw0
 refine (laws_FnPicked.calls k _ _ l0 true w (Kd.C_of_reads (d := (0 : Int)) (h1 := fun _ => rfl) hr0) hc0 h).mono ?_
 rintro e w' ⟨rfl, hd⟩
 exact ⟨rfl, hd⟩
end Go.Proofs.Ytcgejabkjljeeaa.P
end
