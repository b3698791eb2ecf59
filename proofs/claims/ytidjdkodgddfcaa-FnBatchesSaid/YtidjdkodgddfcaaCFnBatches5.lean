/- Proved: the law FnBatches of the given program returns true for every input of its Go types and leaves each argument as it was; no condition. (Part 6 of 14.) -/
import Derived.Test.YtidjdkodgddfcaaCFnBatches4
section
namespace Go.Proofs.Ytidjdkodgddfcaa.P
open Go.RowKit Go.Proofs.YtidjdkodgddfcaaW.PrintWords Go.Proofs.YtidjdkodgddfcaaW.PrintLast Go.Proofs.YtidjdkodgddfcaaW.PrintMore
attribute [local go_sem] qi1 qh1 qj1 qd1 qb1 ql1 qk1 qx qw qc1 qa1
set_option linter.unusedVariables false
set_option linter.unusedSimpArgs false
theorem yq44 {P : Prop} (h : P := by repeat (first | (with_reducible first | exact HK.out | apply KeepBut.set_ | apply qt | apply qv | apply qu | refine keep_far ?_ GW101.out _) | exact HK.out)) : P := h
theorem yq45 {P : Prop} (h : P := by repeat (first | (with_reducible first | exact HK.out | apply KeepBut.set_ | apply qt | apply qv | apply qu) | exact HK.out)) : P := h
def spec_l1Rd_batch.f (k : Nat) (s0_0 : List Int) (s0_1 : Int) : Option (Int × (List (S148)) × Int) := (spec_l1Rd_near.f k s0_0 s0_1 0 20).bind fun bt102 => ((spec_l1Rd_ops.f k s0_0 bt102.2).bind fun bt104 => (some (wrap64 (1 + bt102.1), bt104.1, bt104.2)))
set_option maxHeartbeats 8000000 in
set_option maxRecDepth 100000 in
theorem spec_l1Rd_batch.calls (k : Nat) (g : Nat) (s0_0 : List Int) (s0_1 : Int) (r1 : Int) (r2 : List (S148)) (r3 : Int) (w0 w : World) (hI : IsS178 w0 w g s0_0 s0_1) (hB : Below w0.heap.size w0 w) (h : spec_l1Rd_batch.f k s0_0 s0_1 = some (r1, r2, r3)) :
  Calls Try.prog 118 #[.pointer (some ⟨g, 0, none⟩)] w fun e w' => ∃ v1_ : Value, e = .returned (.agg #[.int .i64 r1, v1_]) ∧ Kd.R k148 148 w' w.heap.size (fun _ => True) v1_ r2 ∧ IsS178 w0 w' g s0_0 r3 ∧ Below w0.heap.size w0 w' ∧ KeepBut w w' g none := by
 have hu68 := Try.underlying68
 have HI0 := Qz.mk hI
 have HK := Qz.mk (KeepBut.refl w g none)
 have HL := Qz.mk hB.size
 clear hI
 have HW0 := Qz.mk hB.size
 have HB := Qz.mk hB
 clear hB
 have H : ((spec_l1Rd_near.f k s0_0 s0_1 0 20).bind fun bt102 => ((spec_l1Rd_ops.f k s0_0 bt102.2).bind fun bt104 => (some (wrap64 (1 + bt102.1), bt104.1, bt104.2)))) = some (r1, r2, r3) := h
 clear h
 replace H := Option.bind_eq_some_iff.mp H
 obtain ⟨⟨t102, t103⟩, A20, H⟩ := H
 replace H : ((spec_l1Rd_ops.f k s0_0 t103).bind fun bt104 => (some (wrap64 (1 + t102), bt104.1, bt104.2))) = some (r1, r2, r3) := H
 have A2 := Qz.mk A20
 clear A20
 replace H := Option.bind_eq_some_iff.mp H
 obtain ⟨⟨t104, t107⟩, A30, H⟩ := H
 replace H : (some (wrap64 (1 + t102), t104, t107)) = some (r1, r2, r3) := H
 have A3 := Qz.mk A30
 clear A30
 simp only [Option.some.injEq, Prod.mk.injEq] at H
 obtain ⟨rfl, rfl, rfl⟩ := H
 go_enter Try.func118, Try.ntmps118
 go_wp2_with (first | ((with_reducible refine qg1 (N := 2) rfl ?_); refine qf1 ?hg (N := 2) ?hd (cs := #[.int .i64 0, .slice none 0 0]) (t := 68) ?hr ?_; (case hd => rfl); (case hg => rfl); (case hr => first | (go_simp; done) | (go_simp; rfl)); intro gb101 hg w4 hbox hb; replace HB := Qz.mk (qm (by repeat (first | (with_reducible first | exact HB.out | apply qc | apply qa | apply qb | refine qd ?_ (IsS178.ge HI0.out)) | exact HB.out)) hb); have BK101 := Qz.mk (hbox); have GW101 := Qz.mk ((by rw [hg]; exact (keep_size (w := w) (g := g) (row := none) yq45) : w.heap.size ≤ gb101)); have GE101 := Qz.mk ((Nat.le_trans HW0.out (by rw [hg]; exact (keep_size (w := w) (g := g) (row := none) yq45) : w.heap.size ≤ gb101) : w0.heap.size ≤ gb101)); replace HK := Qz.mk (KeepBut.trans yq45 (KeepBut.of_below hb g none) (.inl rfl)); have NB0_101 := Qz.mk ((by rw [hg]; exact Nat.ne_of_lt (IsS178.lt (show IsS178 w0 _ g s0_0 s0_1 from by repeat (first | (with_reducible first | exact HI0.out | apply IsS178.alloc | apply IsS178.drewN | apply IsS178.drew | apply IsS178.set_1) | exact HI0.out))) : g ≠ gb101)); have NB101_0 := Qz.mk ((by rw [hg]; exact Nat.ne_of_gt (IsS178.lt (show IsS178 w0 _ g s0_0 s0_1 from by repeat (first | (with_reducible first | exact HI0.out | apply IsS178.alloc | apply IsS178.drewN | apply IsS178.drew | apply IsS178.set_1) | exact HI0.out))) : gb101 ≠ g)); replace HI0 := Qz.mk (IsS178.below (by repeat (first | (with_reducible first | exact HI0.out | apply IsS178.alloc | apply IsS178.drewN | apply IsS178.drew | apply IsS178.set_1) | exact HI0.out)) hb); clear hb hbox hg) | ((with_reducible refine ql (f := 157) rfl ?_); refine qy (some 4) rfl rfl Try.func157 (by kernel_rfl) rfl #[.pointer (some ⟨g, 0, none⟩), .int .i64 0, .int .i64 20] rfl (by (try simp only [List.map_toArray, List.map_cons, List.map_nil]); first | done | rfl) ?_; (with_reducible refine (spec_l1Rd_near.calls k g s0_0 s0_1 0 20 t102 t103 w0 _ ?side1 ?side2 A2.out).mono ?_); (case side1 => repeat (first | (with_reducible first | exact HI0.out | apply IsS178.alloc | apply IsS178.drewN | apply IsS178.drew | apply IsS178.set_1 | apply (fun h_ => IsS178.far h_ NB0_101.out _)) | exact HI0.out)); (case side2 => repeat (first | (with_reducible first | exact HB.out | apply qc | apply qa | apply qb | refine qd ?_ (IsS178.ge HI0.out) | refine qd ?_ GE101.out) | exact HB.out)); rintro e w5 ⟨rfl, hi, hb, hk⟩; refine ⟨_, rfl, ?_⟩; replace BK101 := Qz.mk (KeepBut.blk hk (g' := gb101) (o := .cells #[.int .i64 0, .slice none 0 0] 68 (0, 0)) (by (with_reducible repeat (first | refine qe ?_ _ | refine qg ?_ | refine qf ?_ _)); exact BK101.out) NB101_0.out (by simp)); replace HK := Qz.mk (KeepBut.trans yq44 hk (.inl rfl)); replace HB := Qz.mk (hb); replace HI0 := Qz.mk (hi); (try clear hb); (try clear hk); (try clear hi)) | ((with_reducible refine ql (f := 170) rfl ?_); refine qy (some 7) rfl rfl Try.func170 (by kernel_rfl) rfl #[.pointer (some ⟨g, 0, none⟩)] rfl (by (try simp only [List.map_toArray, List.map_cons, List.map_nil]); first | done | rfl) ?_; (with_reducible refine (spec_l1Rd_ops.calls k g s0_0 t103 t104 t107 w0 _ ?side1 ?side2 A3.out).mono ?_); (case side1 => repeat (first | (with_reducible first | exact HI0.out | apply IsS178.alloc | apply IsS178.drewN | apply IsS178.drew | apply IsS178.set_1 | apply (fun h_ => IsS178.far h_ NB0_101.out _)) | exact HI0.out)); (case side2 => repeat (first | (with_reducible first | exact HB.out | apply qc | apply qa | apply qb | refine qd ?_ (IsS178.ge HI0.out) | refine qd ?_ GE101.out) | exact HB.out)); rintro e w6 ⟨v105, rfl, ho0, hi, hb, hk⟩; refine ⟨_, rfl, ?_⟩; replace BK101 := Qz.mk (KeepBut.blk hk (g' := gb101) (o := .cells #[.int .i64 0, .slice none 0 0] 68 (0, 0)) (by (with_reducible repeat (first | refine qe ?_ _ | refine qg ?_ | refine qf ?_ _)); exact BK101.out) NB101_0.out (by simp)); have HO106 := Qz.mk (Kd.R_lower ho0 (keep_size (w := w) (g := g) (row := none) yq44)); replace HK := Qz.mk (KeepBut.trans yq44 hk (.inl rfl)); replace HB := Qz.mk (hb); replace HI0 := Qz.mk (hi); (try clear hb); (try clear hk); (try clear hi); (try clear ho0); obtain ⟨Ao7, co7, eo7⟩ := Kd.R_slice HO106.out; subst eo7; have hnb8 := NB101_0.out; have hnc8 := NB0_101.out; have hcz9_0 : w6.cell? ⟨gb101, 0, none⟩ = some (.int .i64 0) := (qh BK101.out 0).trans rfl; have hcz9_1 : w6.cell? ⟨gb101, 1, none⟩ = some (.slice none 0 0) := (qh BK101.out 1).trans rfl; have hfz9_0 := qi BK101.out 0; have hfz9_1 := qi BK101.out 1))
 refine bodyPost_ret (results_cell_row rfl _ _ gb101 68 #[.int .i64 (wrap64 (1 + t102)), .slice Ao7 t104.length co7] (0, 0) _ rfl (by (with_reducible repeat (first | refine qe ?_ _ | refine qg ?_ | refine qf ?_ _)); refine qz (cs := #[.int .i64 (wrap64 (1 + t102)), .slice none 0 0]) ?_ 1 _ rfl; (with_reducible repeat (first | refine qe ?_ _ | refine qg ?_ | refine qf ?_ _)); refine qz (cs := #[.int .i64 0, .slice none 0 0]) ?_ 0 _ rfl; (with_reducible repeat (first | refine qe ?_ _ | refine qg ?_ | refine qf ?_ _)); exact BK101.out) Try.underlying68 rfl (by kernel_rfl)) rfl ?_
 exact ⟨_, by first | rfl | (simp [qo, qn] <;> rfl) | (simp [*, qo, qn] <;> rfl), by (with_reducible repeat (first | apply Kd.R_alloc | apply Kd.R_drewN | apply Kd.R_drew)); exact Kd.R_mono (Kd.R_far (p := ⟨gb101, 1, none⟩) (Kd.R_far (p := ⟨gb101, 0, none⟩) (Kd.R_types HO106.out BK101.out (by decide)) (fun _ hk => hk.2) (.int .i64 (wrap64 (1 + t102)))) (fun _ hk => hk.2) (.slice Ao7 t104.length co7)) (fun _ hk => trivial), by repeat (first | (with_reducible first | exact HI0.out | apply IsS178.alloc | apply IsS178.drewN | apply IsS178.drew | apply IsS178.set_1 | apply (fun h_ => IsS178.far h_ NB0_101.out _)) | exact HI0.out), by repeat (first | (with_reducible first | exact HB.out | apply qc | apply qa | apply qb | refine qd ?_ (IsS178.ge HI0.out) | refine qd ?_ GE101.out) | exact HB.out), by repeat (first | (with_reducible first | exact HK.out | apply KeepBut.set_ | apply qt | apply qv | apply qu | refine keep_far ?_ GW101.out _) | exact HK.out)⟩
theorem yq46 {P : Prop} (h : P := by (with_reducible repeat (first | refine qe ?_ _ | refine qg ?_ | refine qf ?_ _)); exact BK101.out) : P := h
theorem yq47 {P : Prop} (h : P := by repeat (first | (with_reducible first | exact HB.out | apply qc | apply qa | apply qb | refine qd ?_ (IsS178.ge HI104.out) | refine qd ?_ GE101.out) | exact HB.out)) : P := h
theorem yq48 {P : Prop} (h : P := by repeat (first | (with_reducible first | exact HI104.out | apply IsS178.alloc | apply IsS178.drewN | apply IsS178.drew | apply IsS178.set_1 | apply (fun h_ => IsS178.far h_ NB104_101.out _)) | exact HI104.out)) : P := h
theorem yq49 {P : Prop} (h : P := by repeat (first | (with_reducible first | exact HI104.out | apply IsS178.alloc | apply IsS178.drewN | apply IsS178.drew | apply IsS178.set_1 | apply (fun h_ => IsS178.far h_ NB104_101.out _) | apply (fun h_ => IsS178.far h_ NB104_110.out _)) | exact HI104.out)) : P := h
theorem yq50 {P : Prop} (h : P := by (with_reducible repeat (first | refine qe ?_ _ | refine qg ?_ | refine qf ?_ _)); refine qz (cs := #[.int .i64 t105, .slice none 0 0]) ?_ 1 _ rfl; (with_reducible repeat (first | refine qe ?_ _ | refine qg ?_ | refine qf ?_ _)); refine qz (cs := #[.int .i64 0, .slice none 0 0]) ?_ 0 _ rfl; (with_reducible repeat (first | refine qe ?_ _ | refine qg ?_ | refine qf ?_ _)); exact BK110.out) : P := h
theorem yq51 {P : Prop} (h : P := by repeat (first | (with_reducible first | exact HB.out | apply qc | apply qa | apply qb | refine qd ?_ (IsS178.ge HI104.out) | refine qd ?_ GE101.out | refine qd ?_ GE110.out) | exact HB.out)) : P := h
theorem yq52 {P : Prop} (h : P := by (with_reducible repeat (first | refine qe ?_ _ | refine qg ?_ | refine qf ?_ _)); refine blk_far ?_ NB101_110.out _; (with_reducible repeat (first | refine qe ?_ _ | refine qg ?_ | refine qf ?_ _)); refine blk_far ?_ NB101_110.out _; (with_reducible repeat (first | refine qe ?_ _ | refine qg ?_ | refine qf ?_ _)); exact BK101.out) : P := h
theorem yq53 {P : Prop} (h : P := by (try simp only [List.map_toArray, List.map_cons, List.map_nil]); first | done | rfl) : P := h
theorem yq54 {P : Prop} (h : P := by repeat (first | (with_reducible first | exact HB.out | apply qc | apply qa | apply qb) | exact HB.out)) : P := h
def spec_DrawBatchOk.f (k : Nat) (l0 : List Int) : Option (Int × (List (S148))) := (spec_l1Open.f l0).bind fun bt102 => ((spec_l1Rd_batch.f k bt102.1 bt102.2).bind fun bt105 => ((spec_l1Rd_once.f bt102.1 bt105.2.2 10).bind fun bt111 => (if bt111.1 = true then ((spec_l1Rd_off.f k bt102.1 bt111.2 1 999999999980).bind fun bt113 => (some (bt113.1, bt105.2.1))) else (some (bt105.1, bt105.2.1)))))
set_option maxHeartbeats 8000000 in
set_option maxRecDepth 100000 in
theorem spec_DrawBatchOk.calls (k : Nat) (A0 : Option Addr) (c0 : Nat) (l0 : List Int) (r1 : Int) (r2 : List (S148)) (w : World) (hr0 : Kd.C (Kd.int .u8) w A0 l0.length l0) (hc0 : l0.length ≤ c0) (h : spec_DrawBatchOk.f k l0 = some (r1, r2)) :
  Calls Try.prog 110 #[.slice A0 l0.length c0] w fun e w' => ∃ v1_ : Value, e = .returned (.agg #[.int .i64 r1, v1_]) ∧ Kd.R k148 148 w' w.heap.size (fun _ => True) v1_ r2 ∧ Below w.heap.size w w' := by
 have hu68 := Try.underlying68
 have HR0 := Qz.mk hr0
 have HC0 := Qz.mk hc0
 clear hr0 hc0
 have HB := Qz.mk (Below.refl w.heap.size w)
 have H : ((spec_l1Open.f l0).bind fun bt102 => ((spec_l1Rd_batch.f k bt102.1 bt102.2).bind fun bt105 => ((spec_l1Rd_once.f bt102.1 bt105.2.2 10).bind fun bt111 => (if bt111.1 = true then ((spec_l1Rd_off.f k bt102.1 bt111.2 1 999999999980).bind fun bt113 => (some (bt113.1, bt105.2.1))) else (some (bt105.1, bt105.2.1)))))) = some (r1, r2) := h
 clear h
 replace H := Option.bind_eq_some_iff.mp H
 obtain ⟨⟨t102, t103⟩, A20, H⟩ := H
 replace H : ((spec_l1Rd_batch.f k t102 t103).bind fun bt105 => ((spec_l1Rd_once.f t102 bt105.2.2 10).bind fun bt111 => (if bt111.1 = true then ((spec_l1Rd_off.f k t102 bt111.2 1 999999999980).bind fun bt113 => (some (bt113.1, bt105.2.1))) else (some (bt105.1, bt105.2.1))))) = some (r1, r2) := H
 have A2 := Qz.mk A20
 clear A20
 replace H := Option.bind_eq_some_iff.mp H
 obtain ⟨⟨t105, t106, t109⟩, A30, H⟩ := H
 replace H : ((spec_l1Rd_once.f t102 t109 10).bind fun bt111 => (if bt111.1 = true then ((spec_l1Rd_off.f k t102 bt111.2 1 999999999980).bind fun bt113 => (some (bt113.1, t106))) else (some (t105, t106)))) = some (r1, r2) := H
 have A3 := Qz.mk A30
 clear A30
 replace H := Option.bind_eq_some_iff.mp H
 obtain ⟨⟨t111, t112⟩, A40, H⟩ := H
 replace H : (if t111 = true then ((spec_l1Rd_off.f k t102 t112 1 999999999980).bind fun bt113 => (some (bt113.1, t106))) else (some (t105, t106))) = some (r1, r2) := H
 have A4 := Qz.mk A40
 clear A40
 by_cases c5 : t111 = true
 ·subst c5
  have H1 : ((spec_l1Rd_off.f k t102 t112 1 999999999980).bind fun bt113 => (some (bt113.1, t106))) = some (r1, r2) := by rw [if_pos rfl] at H; exact H
  clear H
  have H := H1
  clear H1
  replace H := Option.bind_eq_some_iff.mp H
  obtain ⟨⟨t113, t114⟩, A60, H⟩ := H
  replace H : (some (t113, t106)) = some (r1, r2) := H
  have A6 := Qz.mk A60
  clear A60
  simp only [Option.some.injEq, Prod.mk.injEq] at H
  obtain ⟨rfl, rfl⟩ := H
  go_enter Try.func110, Try.ntmps110
  go_wp2_with (first | ((with_reducible refine qg1 (N := 2) rfl ?_); refine qf1 ?hg (N := 2) ?hd (cs := #[.int .i64 0, .slice none 0 0]) (t := 68) ?hr ?_; (case hd => rfl); (case hg => rfl); (case hr => first | (go_simp; done) | (go_simp; rfl)); intro gb101 hg w7 hbox hb; have BK101 := Qz.mk (hbox); have GW101 := Qz.mk ((by rw [hg]; exact (qr yq54) : w.heap.size ≤ gb101)); have GE101 := GW101; replace HB := Qz.mk (qm yq54 hb); clear hb hbox hg) | ((with_reducible refine ql (f := 90) rfl ?_); refine qy (some 6) rfl rfl Try.func90 (by kernel_rfl) rfl #[.slice A0 l0.length c0] rfl (by (try simp only [List.map_toArray, List.map_cons, List.map_nil]); first | done | rfl | (simp only [List.length_drop, List.length_take]; rfl) | (rw [IntWalk.u64_in _ (by omega)] <;> rfl)) ?_; (with_reducible refine (spec_l1Open.calls _ _ l0 t102 t103 w _ ?side1 ?side2 ?side3 A2.out).mono ?_); (case side1 => repeat (first | (with_reducible first | exact HB.out | apply qc | apply qa | apply qb | refine qd ?_ GE101.out) | exact HB.out)); (case side2 => exact HR0.out); (case side3 => exact HC0.out); rintro e w8 ⟨g104, rfl, hi, hb, hb2⟩; refine ⟨_, rfl, ?_⟩; replace HB := Qz.mk (hb); have HI104 := Qz.mk (hi); have NB104_101 := Qz.mk (IsS178.ne_blk hi (qp (g := gb101) (o := .cells #[.int .i64 0, .slice none 0 0] 68 (0, 0)) yq46 hb2) (by decide)); have NB101_104 := Qz.mk (Ne.symm (IsS178.ne_blk hi (qp (g := gb101) (o := .cells #[.int .i64 0, .slice none 0 0] 68 (0, 0)) yq46 hb2) (by decide))); replace BK101 := Qz.mk (qp (g := gb101) (o := .cells #[.int .i64 0, .slice none 0 0] 68 (0, 0)) yq46 hb2); (try clear hb); (try clear hb2); (try clear hk); (try clear hi)) | ((with_reducible refine ql (f := 118) rfl ?_); refine qy (some 8) rfl rfl Try.func118 (by kernel_rfl) rfl #[.pointer (some ⟨g104, 0, none⟩)] rfl yq53 ?_; (with_reducible refine (spec_l1Rd_batch.calls k g104 t102 t103 t105 t106 t109 w _ ?side1 ?side2 A3.out).mono ?_); (case side1 => exact yq48); (case side2 => exact yq47); rintro e w9 ⟨v107, rfl, ho0, hi, hb, hk⟩; refine ⟨_, rfl, ?_⟩; replace BK101 := Qz.mk (KeepBut.blk hk (g' := gb101) (o := .cells #[.int .i64 0, .slice none 0 0] 68 (0, 0)) yq46 NB101_104.out (by simp)); have HO108 := Qz.mk (Kd.R_lower ho0 (qr yq47)); replace HB := Qz.mk (hb); replace HI104 := Qz.mk (hi); (try clear hb); (try clear hb2); (try clear hk); (try clear hi); (try clear ho0)) | ((with_reducible refine qg1 (N := 4) rfl ?_); refine qf1 ?hg (N := 4) ?hd (cs := #[.int .i64 0, .slice none 0 0]) (t := 68) ?hr ?_; (case hd => rfl); (case hg => rfl); (case hr => first | (go_simp; done) | (go_simp; rfl)); intro gb110 hg w10 hbox hb; replace HO108 := Qz.mk (Kd.R_below (by (with_reducible repeat (first | apply Kd.R_alloc | apply Kd.R_drewN | apply Kd.R_drew)); exact HO108.out) hb); have BK110 := Qz.mk (hbox); have GW110 := Qz.mk ((by rw [hg]; exact (qr yq47) : w.heap.size ≤ gb110)); have GE110 := GW110; replace HB := Qz.mk (qm yq47 hb); have NB101_110 := Qz.mk ((by rw [hg]; exact Nat.ne_of_lt (blk_lt (g := gb101) (o := .cells #[.int .i64 0, .slice none 0 0] 68 (0, 0)) yq46) : gb101 ≠ gb110)); have NB110_101 := Qz.mk ((by rw [hg]; exact Nat.ne_of_gt (blk_lt (g := gb101) (o := .cells #[.int .i64 0, .slice none 0 0] 68 (0, 0)) yq46) : gb110 ≠ gb101)); replace BK101 := Qz.mk (qp (g := gb101) (o := .cells #[.int .i64 0, .slice none 0 0] 68 (0, 0)) yq46 hb); have NB104_110 := Qz.mk ((by rw [hg]; exact Nat.ne_of_lt (IsS178.lt (show IsS178 w _ g104 t102 t109 from by repeat (first | (with_reducible first | exact HI104.out | apply IsS178.alloc | apply IsS178.drewN | apply IsS178.drew | apply IsS178.set_1 | apply (fun h_ => IsS178.far h_ NB104_101.out _)) | exact HI104.out))) : g104 ≠ gb110)); have NB110_104 := Qz.mk ((by rw [hg]; exact Nat.ne_of_gt (IsS178.lt (show IsS178 w _ g104 t102 t109 from by repeat (first | (with_reducible first | exact HI104.out | apply IsS178.alloc | apply IsS178.drewN | apply IsS178.drew | apply IsS178.set_1 | apply (fun h_ => IsS178.far h_ NB104_101.out _)) | exact HI104.out))) : gb110 ≠ g104)); replace HI104 := Qz.mk (IsS178.below yq48 hb); clear hb hbox hg; have hnb11 := NB110_101.out; have hnc11 := NB101_110.out; have hnb12 := NB110_104.out; have hnc12 := NB104_110.out; have hcz13_0 : w10.cell? ⟨gb110, 0, none⟩ = some (.int .i64 0) := (qh BK110.out 0).trans rfl; have hcz13_1 : w10.cell? ⟨gb110, 1, none⟩ = some (.slice none 0 0) := (qh BK110.out 1).trans rfl; have hfz13_0 := qi BK110.out 0; have hfz13_1 := qi BK110.out 1; obtain ⟨Ao14, co14, eo14⟩ := Kd.R_slice HO108.out; subst eo14) | ((with_reducible refine ql (f := 156) rfl ?_); refine qy (some 10) rfl rfl Try.func156 (by kernel_rfl) rfl #[.pointer (some ⟨g104, 0, none⟩), .int .i64 10] rfl yq53 ?_; (with_reducible refine (spec_l1Rd_once.calls g104 t102 t109 10 true t112 w _ ?side1 ?side2 A4.out).mono ?_); (case side1 => exact yq49); (case side2 => exact yq51); rintro e w15 ⟨rfl, hi, hb, hk⟩; refine ⟨_, rfl, ?_⟩; replace BK101 := Qz.mk (KeepBut.blk hk (g' := gb101) (o := .cells #[.int .i64 0, .slice none 0 0] 68 (0, 0)) yq52 NB101_104.out (by simp)); replace HO108 := Qz.mk (Kd.R_mono (Kd.R_keep (IsS178.apart (show IsS178 w _ g104 t102 t109 from by repeat (first | (with_reducible first | exact HI104.out | apply IsS178.alloc | apply IsS178.drewN | apply IsS178.drew | apply IsS178.set_1 | apply (fun h_ => IsS178.far h_ NB104_101.out _) | apply (fun h_ => IsS178.far h_ NB104_110.out _)) | exact HI104.out)) (by (with_reducible repeat (first | apply Kd.R_alloc | apply Kd.R_drewN | apply Kd.R_drew)); exact (Kd.R_mono (Kd.R_far (p := ⟨gb110, 1, none⟩) (Kd.R_far (p := ⟨gb110, 0, none⟩) (Kd.R_types HO108.out BK110.out (by decide)) (fun _ hk => hk.2) (.int .i64 t105)) (fun _ hk => hk.2) (.slice Ao14 t106.length co14)) (fun _ h_ => h_.1))) (by decide)) hk (fun _ h => h.2)) (fun _ h => h.1)); replace BK110 := Qz.mk (KeepBut.blk hk (g' := gb110) (o := .cells #[.int .i64 t105, .slice Ao14 t106.length co14] 68 (0, 0)) yq50 NB110_104.out (by simp)); replace HB := Qz.mk (hb); replace HI104 := Qz.mk (hi); (try clear hb); (try clear hb2); (try clear hk); (try clear hi)) | ((with_reducible refine ql (f := 92) rfl ?_); refine qy (some 12) rfl rfl Try.func92 (by kernel_rfl) rfl #[.pointer (some ⟨g104, 0, none⟩), .int .i64 1, .int .i64 999999999980] rfl yq53 ?_; (with_reducible refine (spec_l1Rd_off.calls k g104 t102 t112 1 999999999980 t113 t114 w _ ?side1 ?side2 A6.out).mono ?_); (case side1 => exact yq49); (case side2 => exact yq51); rintro e w16 ⟨rfl, hi, hb, hk⟩; refine ⟨_, rfl, ?_⟩; replace BK101 := Qz.mk (KeepBut.blk hk (g' := gb101) (o := .cells #[.int .i64 0, .slice none 0 0] 68 (0, 0)) yq46 NB101_104.out (by simp)); replace HO108 := Qz.mk (Kd.R_mono (Kd.R_keep (IsS178.apart (show IsS178 w _ g104 t102 t112 from by repeat (first | (with_reducible first | exact HI104.out | apply IsS178.alloc | apply IsS178.drewN | apply IsS178.drew | apply IsS178.set_1 | apply (fun h_ => IsS178.far h_ NB104_101.out _) | apply (fun h_ => IsS178.far h_ NB104_110.out _)) | exact HI104.out)) (by (with_reducible repeat (first | apply Kd.R_alloc | apply Kd.R_drewN | apply Kd.R_drew)); exact HO108.out) (by decide)) hk (fun _ h => h.2)) (fun _ h => h.1)); replace BK110 := Qz.mk (KeepBut.blk hk (g' := gb110) (o := .cells #[.int .i64 t105, .slice Ao14 t106.length co14] 68 (0, 0)) (by (with_reducible repeat (first | refine qe ?_ _ | refine qg ?_ | refine qf ?_ _)); exact BK110.out) NB110_104.out (by simp)); replace HB := Qz.mk (hb); replace HI104 := Qz.mk (hi); (try clear hb); (try clear hb2); (try clear hk); (try clear hi); have hcz17_0 : w16.cell? ⟨gb110, 0, none⟩ = some (.int .i64 t105) := (qh BK110.out 0).trans rfl; have hcz17_1 : w16.cell? ⟨gb110, 1, none⟩ = some (.slice Ao14 t106.length co14) := (qh BK110.out 1).trans rfl; have hfz17_0 := qi BK110.out 0; have hfz17_1 := qi BK110.out 1; have hnb18 := NB101_104.out; have hnc18 := NB104_101.out; have hcz19_0 : w16.cell? ⟨gb101, 0, none⟩ = some (.int .i64 0) := (qh BK101.out 0).trans rfl; have hcz19_1 : w16.cell? ⟨gb101, 1, none⟩ = some (.slice none 0 0) := (qh BK101.out 1).trans rfl; have hfz19_0 := qi BK101.out 0; have hfz19_1 := qi BK101.out 1))
  refine bodyPost_ret (results_cell_row rfl _ _ gb101 68 #[.int .i64 t113, .slice Ao14 t106.length co14] (0, 0) _ rfl (by (with_reducible repeat (first | refine qe ?_ _ | refine qg ?_ | refine qf ?_ _)); refine qz (cs := #[.int .i64 t113, .slice none 0 0]) ?_ 1 _ rfl; (with_reducible repeat (first | refine qe ?_ _ | refine qg ?_ | refine qf ?_ _)); refine qz (cs := #[.int .i64 0, .slice none 0 0]) ?_ 0 _ rfl; (with_reducible repeat (first | refine qe ?_ _ | refine qg ?_ | refine qf ?_ _)); refine blk_far ?_ NB101_110.out _; (with_reducible repeat (first | refine qe ?_ _ | refine qg ?_ | refine qf ?_ _)); exact BK101.out) Try.underlying68 rfl (by kernel_rfl)) rfl ?_
  exact ⟨_, by first | rfl | (simp [qo, qn] <;> rfl) | (simp [*, qo, qn] <;> rfl), by (with_reducible repeat (first | apply Kd.R_alloc | apply Kd.R_drewN | apply Kd.R_drew)); exact Kd.R_mono (Kd.R_far (p := ⟨gb101, 1, none⟩) (Kd.R_far (p := ⟨gb101, 0, none⟩) (Kd.R_far (p := ⟨gb110, 0, none⟩) (Kd.R_types (Kd.R_types HO108.out BK110.out (by decide)) BK101.out (by decide)) (fun _ hk => hk.1.2) (.int .i64 t113)) (fun _ hk => hk.2) (.int .i64 t113)) (fun _ hk => hk.2) (.slice Ao14 t106.length co14)) (fun _ hk => trivial), by repeat (first | (with_reducible first | exact HB.out | apply qc | apply qa | apply qb | refine qd ?_ (IsS178.ge HI104.out) | refine qd ?_ GE101.out | refine qd ?_ GE110.out) | exact HB.out)⟩
 ·replace c5 := Bool.eq_false_iff.mpr c5
  subst c5
  have H1 : (some (t105, t106)) = some (r1, r2) := by rw [if_neg (show ¬ (false = true) by decide)] at H; exact H
  clear H
  have H := H1
  clear H1
  simp only [Option.some.injEq, Prod.mk.injEq] at H
  obtain ⟨rfl, rfl⟩ := H
  go_enter Try.func110, Try.ntmps110
  go_wp2_with (first | ((with_reducible refine qg1 (N := 2) rfl ?_); refine qf1 ?hg (N := 2) ?hd (cs := #[.int .i64 0, .slice none 0 0]) (t := 68) ?hr ?_; (case hd => rfl); (case hg => rfl); (case hr => first | (go_simp; done) | (go_simp; rfl)); intro gb101 hg w20 hbox hb; have BK101 := Qz.mk (hbox); have GW101 := Qz.mk ((by rw [hg]; exact (qr yq54) : w.heap.size ≤ gb101)); have GE101 := GW101; replace HB := Qz.mk (qm yq54 hb); clear hb hbox hg) | ((with_reducible refine ql (f := 90) rfl ?_); refine qy (some 6) rfl rfl Try.func90 (by kernel_rfl) rfl #[.slice A0 l0.length c0] rfl (by (try simp only [List.map_toArray, List.map_cons, List.map_nil]); first | done | rfl | (simp only [List.length_drop, List.length_take]; rfl) | (rw [IntWalk.u64_in _ (by omega)] <;> rfl)) ?_; (with_reducible refine (spec_l1Open.calls _ _ l0 t102 t103 w _ ?side1 ?side2 ?side3 A2.out).mono ?_); (case side1 => repeat (first | (with_reducible first | exact HB.out | apply qc | apply qa | apply qb | refine qd ?_ GE101.out) | exact HB.out)); (case side2 => exact HR0.out); (case side3 => exact HC0.out); rintro e w21 ⟨g104, rfl, hi, hb, hb2⟩; refine ⟨_, rfl, ?_⟩; replace HB := Qz.mk (hb); have HI104 := Qz.mk (hi); have NB104_101 := Qz.mk (IsS178.ne_blk hi (qp (g := gb101) (o := .cells #[.int .i64 0, .slice none 0 0] 68 (0, 0)) yq46 hb2) (by decide)); have NB101_104 := Qz.mk (Ne.symm (IsS178.ne_blk hi (qp (g := gb101) (o := .cells #[.int .i64 0, .slice none 0 0] 68 (0, 0)) yq46 hb2) (by decide))); replace BK101 := Qz.mk (qp (g := gb101) (o := .cells #[.int .i64 0, .slice none 0 0] 68 (0, 0)) yq46 hb2); (try clear hb); (try clear hb2); (try clear hk); (try clear hi)) | ((with_reducible refine ql (f := 118) rfl ?_); refine qy (some 8) rfl rfl Try.func118 (by kernel_rfl) rfl #[.pointer (some ⟨g104, 0, none⟩)] rfl yq53 ?_; (with_reducible refine (spec_l1Rd_batch.calls k g104 t102 t103 t105 t106 t109 w _ ?side1 ?side2 A3.out).mono ?_); (case side1 => exact yq48); (case side2 => exact yq47); rintro e w22 ⟨v107, rfl, ho0, hi, hb, hk⟩; refine ⟨_, rfl, ?_⟩; replace BK101 := Qz.mk (KeepBut.blk hk (g' := gb101) (o := .cells #[.int .i64 0, .slice none 0 0] 68 (0, 0)) yq46 NB101_104.out (by simp)); have HO108 := Qz.mk (Kd.R_lower ho0 (qr yq47)); replace HB := Qz.mk (hb); replace HI104 := Qz.mk (hi); (try clear hb); (try clear hb2); (try clear hk); (try clear hi); (try clear ho0)) | ((with_reducible refine qg1 (N := 4) rfl ?_); refine qf1 ?hg (N := 4) ?hd (cs := #[.int .i64 0, .slice none 0 0]) (t := 68) ?hr ?_; (case hd => rfl); (case hg => rfl); (case hr => first | (go_simp; done) | (go_simp; rfl)); intro gb110 hg w23 hbox hb; replace HO108 := Qz.mk (Kd.R_below (by (with_reducible repeat (first | apply Kd.R_alloc | apply Kd.R_drewN | apply Kd.R_drew)); exact HO108.out) hb); have BK110 := Qz.mk (hbox); have GW110 := Qz.mk ((by rw [hg]; exact (qr yq47) : w.heap.size ≤ gb110)); have GE110 := GW110; replace HB := Qz.mk (qm yq47 hb); have NB101_110 := Qz.mk ((by rw [hg]; exact Nat.ne_of_lt (blk_lt (g := gb101) (o := .cells #[.int .i64 0, .slice none 0 0] 68 (0, 0)) yq46) : gb101 ≠ gb110)); have NB110_101 := Qz.mk ((by rw [hg]; exact Nat.ne_of_gt (blk_lt (g := gb101) (o := .cells #[.int .i64 0, .slice none 0 0] 68 (0, 0)) yq46) : gb110 ≠ gb101)); replace BK101 := Qz.mk (qp (g := gb101) (o := .cells #[.int .i64 0, .slice none 0 0] 68 (0, 0)) yq46 hb); have NB104_110 := Qz.mk ((by rw [hg]; exact Nat.ne_of_lt (IsS178.lt (show IsS178 w _ g104 t102 t109 from by repeat (first | (with_reducible first | exact HI104.out | apply IsS178.alloc | apply IsS178.drewN | apply IsS178.drew | apply IsS178.set_1 | apply (fun h_ => IsS178.far h_ NB104_101.out _)) | exact HI104.out))) : g104 ≠ gb110)); have NB110_104 := Qz.mk ((by rw [hg]; exact Nat.ne_of_gt (IsS178.lt (show IsS178 w _ g104 t102 t109 from by repeat (first | (with_reducible first | exact HI104.out | apply IsS178.alloc | apply IsS178.drewN | apply IsS178.drew | apply IsS178.set_1 | apply (fun h_ => IsS178.far h_ NB104_101.out _)) | exact HI104.out))) : gb110 ≠ g104)); replace HI104 := Qz.mk (IsS178.below yq48 hb); clear hb hbox hg; have hnb24 := NB110_101.out; have hnc24 := NB101_110.out; have hnb25 := NB110_104.out; have hnc25 := NB104_110.out; have hcz26_0 : w23.cell? ⟨gb110, 0, none⟩ = some (.int .i64 0) := (qh BK110.out 0).trans rfl; have hcz26_1 : w23.cell? ⟨gb110, 1, none⟩ = some (.slice none 0 0) := (qh BK110.out 1).trans rfl; have hfz26_0 := qi BK110.out 0; have hfz26_1 := qi BK110.out 1; obtain ⟨Ao27, co27, eo27⟩ := Kd.R_slice HO108.out; subst eo27) | ((with_reducible refine ql (f := 156) rfl ?_); refine qy (some 10) rfl rfl Try.func156 (by kernel_rfl) rfl #[.pointer (some ⟨g104, 0, none⟩), .int .i64 10] rfl yq53 ?_; (with_reducible refine (spec_l1Rd_once.calls g104 t102 t109 10 false t112 w _ ?side1 ?side2 A4.out).mono ?_); (case side1 => exact yq49); (case side2 => exact yq51); rintro e w28 ⟨rfl, hi, hb, hk⟩; refine ⟨_, rfl, ?_⟩; replace BK101 := Qz.mk (KeepBut.blk hk (g' := gb101) (o := .cells #[.int .i64 0, .slice none 0 0] 68 (0, 0)) yq52 NB101_104.out (by simp)); replace HO108 := Qz.mk (Kd.R_mono (Kd.R_keep (IsS178.apart (show IsS178 w _ g104 t102 t109 from by repeat (first | (with_reducible first | exact HI104.out | apply IsS178.alloc | apply IsS178.drewN | apply IsS178.drew | apply IsS178.set_1 | apply (fun h_ => IsS178.far h_ NB104_101.out _) | apply (fun h_ => IsS178.far h_ NB104_110.out _)) | exact HI104.out)) (by (with_reducible repeat (first | apply Kd.R_alloc | apply Kd.R_drewN | apply Kd.R_drew)); exact (Kd.R_mono (Kd.R_far (p := ⟨gb110, 1, none⟩) (Kd.R_far (p := ⟨gb110, 0, none⟩) (Kd.R_types HO108.out BK110.out (by decide)) (fun _ hk => hk.2) (.int .i64 t105)) (fun _ hk => hk.2) (.slice Ao27 t106.length co27)) (fun _ h_ => h_.1))) (by decide)) hk (fun _ h => h.2)) (fun _ h => h.1)); replace BK110 := Qz.mk (KeepBut.blk hk (g' := gb110) (o := .cells #[.int .i64 t105, .slice Ao27 t106.length co27] 68 (0, 0)) yq50 NB110_104.out (by simp)); replace HB := Qz.mk (hb); replace HI104 := Qz.mk (hi); (try clear hb); (try clear hb2); (try clear hk); (try clear hi); have hcz29_0 : w28.cell? ⟨gb110, 0, none⟩ = some (.int .i64 t105) := (qh BK110.out 0).trans rfl; have hcz29_1 : w28.cell? ⟨gb110, 1, none⟩ = some (.slice Ao27 t106.length co27) := (qh BK110.out 1).trans rfl; have hfz29_0 := qi BK110.out 0; have hfz29_1 := qi BK110.out 1; have hnb30 := NB101_104.out; have hnc30 := NB104_101.out; have hcz31_0 : w28.cell? ⟨gb101, 0, none⟩ = some (.int .i64 0) := (qh BK101.out 0).trans rfl; have hcz31_1 : w28.cell? ⟨gb101, 1, none⟩ = some (.slice none 0 0) := (qh BK101.out 1).trans rfl; have hfz31_0 := qi BK101.out 0; have hfz31_1 := qi BK101.out 1))
  refine bodyPost_ret (results_cell_row rfl _ _ gb101 68 #[.int .i64 t105, .slice Ao27 t106.length co27] (0, 0) _ rfl (by (with_reducible repeat (first | refine qe ?_ _ | refine qg ?_ | refine qf ?_ _)); refine qz (cs := #[.int .i64 t105, .slice none 0 0]) ?_ 1 _ rfl; (with_reducible repeat (first | refine qe ?_ _ | refine qg ?_ | refine qf ?_ _)); refine qz (cs := #[.int .i64 0, .slice none 0 0]) ?_ 0 _ rfl; (with_reducible repeat (first | refine qe ?_ _ | refine qg ?_ | refine qf ?_ _)); exact BK101.out) Try.underlying68 rfl (by kernel_rfl)) rfl ?_
  exact ⟨_, by first | rfl | (simp [qo, qn] <;> rfl) | (simp [*, qo, qn] <;> rfl), by (with_reducible repeat (first | apply Kd.R_alloc | apply Kd.R_drewN | apply Kd.R_drew)); exact Kd.R_mono (Kd.R_far (p := ⟨gb101, 1, none⟩) (Kd.R_far (p := ⟨gb101, 0, none⟩) (Kd.R_types HO108.out BK101.out (by decide)) (fun _ hk => hk.2) (.int .i64 t105)) (fun _ hk => hk.2) (.slice Ao27 t106.length co27)) (fun _ hk => trivial), by repeat (first | (with_reducible first | exact HB.out | apply qc | apply qa | apply qb | refine qd ?_ (IsS178.ge HI104.out) | refine qd ?_ GE101.out | refine qd ?_ GE110.out) | exact HB.out)⟩
def spec_DrawBatchText.f (k : Nat) (l0 : List Int) : Option (Int × (List (S148))) := (spec_DrawBatchOk.f k l0).bind fun bt102 => (some (bt102.1, bt102.2))
set_option maxHeartbeats 8000000 in
set_option maxRecDepth 100000 in
theorem spec_DrawBatchText.calls (k : Nat) (A0 : Option Addr) (c0 : Nat) (l0 : List Int) (r1 : Int) (r2 : List (S148)) (w : World) (hr0 : Kd.C (Kd.int .u8) w A0 l0.length l0) (hc0 : l0.length ≤ c0) (h : spec_DrawBatchText.f k l0 = some (r1, r2)) :
  Calls Try.prog 44 #[.slice A0 l0.length c0] w fun e w' => ∃ v1_ : Value, e = .returned (.agg #[.int .i64 r1, v1_]) ∧ Kd.R k148 148 w' w.heap.size (fun _ => True) v1_ r2 ∧ Below w.heap.size w w' := by
 have hu68 := Try.underlying68
 have HR0 := Qz.mk hr0
 have HC0 := Qz.mk hc0
 clear hr0 hc0
 have HB := Qz.mk (Below.refl w.heap.size w)
 have H : ((spec_DrawBatchOk.f k l0).bind fun bt102 => (some (bt102.1, bt102.2))) = some (r1, r2) := h
 clear h
 replace H := Option.bind_eq_some_iff.mp H
 obtain ⟨⟨t102, t103⟩, A20, H⟩ := H
 replace H : (some (t102, t103)) = some (r1, r2) := H
 have A2 := Qz.mk A20
 clear A20
 simp only [Option.some.injEq, Prod.mk.injEq] at H
 obtain ⟨rfl, rfl⟩ := H
 go_enter Try.func44, Try.ntmps44
 go_wp2_with (first | ((with_reducible refine qg1 (N := 2) rfl ?_); refine qf1 ?hg (N := 2) ?hd (cs := #[.int .i64 0, .slice none 0 0]) (t := 68) ?hr ?_; (case hd => rfl); (case hg => rfl); (case hr => first | (go_simp; done) | (go_simp; rfl)); intro gb101 hg w3 hbox hb; have BK101 := Qz.mk (hbox); have GW101 := Qz.mk ((by rw [hg]; exact (qr (by repeat (first | (with_reducible first | exact HB.out | apply qc | apply qa | apply qb) | exact HB.out))) : w.heap.size ≤ gb101)); have GE101 := GW101; replace HB := Qz.mk (qm (by repeat (first | (with_reducible first | exact HB.out | apply qc | apply qa | apply qb) | exact HB.out)) hb); clear hb hbox hg) | ((with_reducible refine ql (f := 110) rfl ?_); refine qy (some 4) rfl rfl Try.func110 (by kernel_rfl) rfl #[.slice A0 l0.length c0] rfl (by (try simp only [List.map_toArray, List.map_cons, List.map_nil]); first | done | rfl | (simp only [List.length_drop, List.length_take]; rfl) | (rw [IntWalk.u64_in _ (by omega)] <;> rfl)) ?_; (with_reducible refine (spec_DrawBatchOk.calls k _ _ l0 t102 t103 _ ?side1 ?side2 A2.out).mono ?_); (case side1 => repeat (first | exact (Kd.C_below HR0.out HB.out) | (with_reducible refine Kd.C_alloc ?_ _) | (with_reducible refine Kd.C_drewN ?_ _) | (with_reducible refine Kd.C_drew ?_))); (case side2 => exact HC0.out); rintro e w4 ⟨v104, rfl, ho0, hb⟩; refine ⟨_, rfl, ?_⟩; have HO105 := Qz.mk (Kd.R_lower ho0 (qr (by repeat (first | (with_reducible first | exact HB.out | apply qc | apply qa | apply qb | refine qd ?_ GE101.out) | exact HB.out)))); replace BK101 := Qz.mk (qp (g := gb101) (o := .cells #[.int .i64 0, .slice none 0 0] 68 (0, 0)) (by (with_reducible repeat (first | refine qe ?_ _ | refine qg ?_ | refine qf ?_ _)); exact BK101.out) hb); replace HB := Qz.mk (qm (by repeat (first | (with_reducible first | exact HB.out | apply qc | apply qa | apply qb | refine qd ?_ GE101.out) | exact HB.out)) hb); (try clear hb); (try clear hk); (try clear ho0); have hcz5_0 : w4.cell? ⟨gb101, 0, none⟩ = some (.int .i64 0) := (qh BK101.out 0).trans rfl; have hcz5_1 : w4.cell? ⟨gb101, 1, none⟩ = some (.slice none 0 0) := (qh BK101.out 1).trans rfl; have hfz5_0 := qi BK101.out 0; have hfz5_1 := qi BK101.out 1; obtain ⟨Ao6, co6, eo6⟩ := Kd.R_slice HO105.out; subst eo6))
 refine bodyPost_ret (results_cell_row rfl _ _ gb101 68 #[.int .i64 t102, .slice Ao6 t103.length co6] (0, 0) _ rfl (by (with_reducible repeat (first | refine qe ?_ _ | refine qg ?_ | refine qf ?_ _)); refine qz (cs := #[.int .i64 t102, .slice none 0 0]) ?_ 1 _ rfl; (with_reducible repeat (first | refine qe ?_ _ | refine qg ?_ | refine qf ?_ _)); refine qz (cs := #[.int .i64 0, .slice none 0 0]) ?_ 0 _ rfl; (with_reducible repeat (first | refine qe ?_ _ | refine qg ?_ | refine qf ?_ _)); exact BK101.out) Try.underlying68 rfl (by kernel_rfl)) rfl ?_
 exact ⟨_, by first | rfl | (simp [qo, qn] <;> rfl) | (simp [*, qo, qn] <;> rfl), by (with_reducible repeat (first | apply Kd.R_alloc | apply Kd.R_drewN | apply Kd.R_drew)); exact Kd.R_mono (Kd.R_far (p := ⟨gb101, 1, none⟩) (Kd.R_far (p := ⟨gb101, 0, none⟩) (Kd.R_types HO105.out BK101.out (by decide)) (fun _ hk => hk.2) (.int .i64 t102)) (fun _ hk => hk.2) (.slice Ao6 t103.length co6)) (fun _ hk => trivial), by repeat (first | (with_reducible first | exact HB.out | apply qc | apply qa | apply qb | refine qd ?_ GE101.out) | exact HB.out)⟩
theorem yq55 {P : Prop} (h : P := by repeat (first | (with_reducible first | exact HB.out | apply qc | apply qa | apply qb) | exact HB.out)) : P := h
def impl_PutVar.l0 : Nat → Int → List Int → Option (ByteArray)
 | 0, _, _ => none
 | k + 1, x0, x3 => if x0 ≥ 128 then (if x3.length < 140737488355328 then (impl_PutVar.l0 k (x0 / 128) (x3 ++ [Go.bits .or .u8 ((x0) % 256) 128])) else (none)) else (if x3.length < 140737488355328 then (some (strOfNums (x3 ++ [(x0) % 256]))) else (none))
def impl_PutVar.f (k : Nat) (a0 : Int) : Option (ByteArray) := impl_PutVar.l0 k a0 (([] : List Int))
set_option maxHeartbeats 8000000 in
set_option maxRecDepth 100000 in
theorem impl_PutVar.calls (k : Nat) (a0 : Int) (r : ByteArray) (w : World) (h : impl_PutVar.f k a0 = some r) :
  Calls Try.prog 186 #[.int .u64 a0] w fun e w' => e = .returned (.string r) ∧ Below w.heap.size w w' := by
 have HB := Qz.mk (Below.refl w.heap.size w)
 have H : (impl_PutVar.l0 k a0 (([] : List Int))) = some r := h
 clear h
 obtain ⟨y101, hy101⟩ : ∃ y_ : List Int, y_ = (([] : List Int)) := ⟨_, rfl⟩
 replace H : (impl_PutVar.l0 k a0 y101) = some r := by first | (rw [hy101]; with_reducible exact H) | (have H2_ := (Option.bind_some _ _).symm.trans H; rw [hy101]; with_reducible exact H2_) | (have H2_ := (Option.bind_some _ _).symm.trans H; with_reducible exact H2_) | with_reducible exact H | (rw [hy101]; exact H) | exact H
 have Ny101 := Qz.mk hy101
 clear hy101
 have H' := Qz.mk H
 clear H
 go_enter Try.func186, Try.ntmps186
 go_wp2_with (first | ((with_reducible refine qg1 (N := 4) rfl ?_); refine Kd.R_lit (Kd.int .u8) _ 5 ?hg (N := 4) ?hd (xs := ([] : List Int)) (inner := []) (ok := fun _ => True) (okp := fun _ => True) ?hr ?hp (fun _ hk => hk) trivial (Below.refl _ _) (Nat.le_refl _) (by simp) ?_; (case hd => rfl); (case hg => rfl); (case hr => first | (go_simp; done) | (go_simp; rfl)); (case hp => exact (Reps.none _ _)); intro v102 w2 ho3 hb hg_ hnew_; clear hg_ hnew_; (first | rw [← Ny101.out] at ho3 | (simp only [Int.reduceToNat] at ho3; rw [← Ny101.out] at ho3)); have HO103 := Qz.mk (Kd.R_lower ho3 (qr yq55)); replace HB := Qz.mk (qm yq55 hb); clear hb ho3))
 go_loopg [0, 3] k (fun kq v0 v3 w' => ∃ (x0_1 : Int) (x3_1 : List Int), v0 = .int .u64 x0_1 ∧ Qz (impl_PutVar.l0 kq x0_1 x3_1 = some r) ∧ Qz (kq ≤ k) ∧ Qz (Kd.R (Kd.int .u8) 5 w' w.heap.size (fun _ => True) v3 x3_1) ∧ Qz (Below w.heap.size w w'))
 case atStart => exact ⟨(a0), (y101), (by first | rfl | (simp; done) | (simp [*]; done)), H', ⟨Nat.le_refl _⟩, ⟨by (with_reducible repeat (first | apply Kd.R_alloc | apply Kd.R_drewN | apply Kd.R_drew)); exact HO103.out⟩, ⟨by repeat (first | (with_reducible first | exact HB.out | apply qc | apply qa | apply qb) | exact HB.out)⟩⟩
 case round =>
  clear H'
  try clear c1
  try clear p2
  obtain ⟨x0_1, x3_1, rfl, HA, HK1, HO_3, HB⟩ := hrel
  cases gk with
  | zero => exact absurd HA.out (by simp [impl_PutVar.l0])
  | succ k1 =>
   have H := HA.out
   clear HA
   simp only [impl_PutVar.l0] at H
   by_cases c4 : x0_1 ≥ 128
   ·rw [if_pos c4] at H
    have c4b0 : decide (128 ≤ x0_1) = true := decide_eq_true c4
    clear c4
    by_cases c5 : x3_1.length < 140737488355328
    ·rw [if_pos c5] at H
     have LMc5 := Qz.mk c5
     clear c5
     obtain ⟨y104, hy104⟩ : ∃ y_ : List Int, y_ = (x3_1 ++ [Go.bits .or .u8 ((x0_1) % 256) 128]) := ⟨_, rfl⟩
     replace H : (impl_PutVar.l0 k1 (x0_1 / 128) y104) = some r := by first | (rw [hy104]; with_reducible exact H) | (have H2_ := (Option.bind_some _ _).symm.trans H; rw [hy104]; with_reducible exact H2_) | (have H2_ := (Option.bind_some _ _).symm.trans H; with_reducible exact H2_) | with_reducible exact H | (rw [hy104]; exact H) | exact H
     have Ny104 := Qz.mk hy104
     clear hy104
     have H' := Qz.mk H
     clear H
     go_wp2_with (first | ((with_reducible refine gate_builtin (b := .append) (xs := #[.tmp 9, .tmp 13]) rfl ?_); at_builtin; refine Kd.R_append (Kd.int .u8) (w0 := w) w.heap.size rfl (.tmp 9) (.tmp 13) 42 5 (.int .u8 0) 1 rfl Try.underlying42 info5 rfl (by decide) (by omega) u3 x3_1 (Go.bits .or .u8 ((x0_1) % 256) 128) [.int .u8 (Go.bits .or .u8 ((x0_1) % 256) 128)] (fun _ => True) (fun _ => False) rfl rfl ?aP (fun _ hk => hk.elim) ?aF ?aO ?aB ?aS ?aL ?_; (case aP => exact rfl); (case aB => exact yq55); (case aF => exact (fun _ _ => trivial)); (case aO => exact (by (with_reducible repeat (first | apply Kd.R_alloc | apply Kd.R_drewN | apply Kd.R_drew)); exact HO_3.out)); (case aS => exact (qr yq55)); (case aL => have := LMc5.out; omega); intro v105 w6 ho hb hg hat; rw [← Ny104.out] at ho; have n0_ := Qz.mk (hb); have n1_ := Qz.mk (ho); clear HB; clear HO_3; have HB := n0_; have HO106 := n1_; clear n0_ n1_; clear ho hb hg hat))
     go_roundg k1
     case measure => have := HK1.out; omega
     case rel => exact ⟨(x0_1 / 128), (y104), (by first | rfl | (simp; done) | (simp [*]; done)), H', ⟨by have := HK1.out; omega⟩, ⟨by (with_reducible repeat (first | apply Kd.R_alloc | apply Kd.R_drewN | apply Kd.R_drew)); exact HO106.out⟩, ⟨by repeat (first | (with_reducible first | exact HB.out | apply qc | apply qa | apply qb) | exact HB.out)⟩⟩
    ·rw [if_neg c5] at H
     exact absurd H (by simp)
   ·rw [if_neg c4] at H
    have c4b0 : decide (128 ≤ x0_1) = false := decide_eq_false c4
    clear c4
    by_cases c7 : x3_1.length < 140737488355328
    ·rw [if_pos c7] at H
     have LMc7 := Qz.mk c7
     clear c7
     obtain ⟨y107, hy107⟩ : ∃ y_ : List Int, y_ = (x3_1 ++ [(x0_1) % 256]) := ⟨_, rfl⟩
     replace H : (some (strOfNums y107)) = some r := by first | (rw [hy107]; with_reducible exact H) | (have H2_ := (Option.bind_some _ _).symm.trans H; rw [hy107]; with_reducible exact H2_) | (have H2_ := (Option.bind_some _ _).symm.trans H; with_reducible exact H2_) | with_reducible exact H | (rw [hy107]; exact H) | exact H
     have Ny107 := Qz.mk hy107
     clear hy107
     obtain rfl := Option.some.inj H
     go_wp2_with (first | ((with_reducible refine gate_builtin (b := .append) (xs := #[.tmp 15, .tmp 18]) rfl ?_); at_builtin; refine Kd.R_append (Kd.int .u8) (w0 := w) w.heap.size rfl (.tmp 15) (.tmp 18) 42 5 (.int .u8 0) 1 rfl Try.underlying42 info5 rfl (by decide) (by omega) u3 x3_1 ((x0_1) % 256) [.int .u8 ((x0_1) % 256)] (fun _ => True) (fun _ => False) rfl rfl ?aP (fun _ hk => hk.elim) ?aF ?aO ?aB ?aS ?aL ?_; (case aP => exact rfl); (case aB => exact yq55); (case aF => exact (fun _ _ => trivial)); (case aO => exact (by (with_reducible repeat (first | apply Kd.R_alloc | apply Kd.R_drewN | apply Kd.R_drew)); exact HO_3.out)); (case aS => exact (qr yq55)); (case aL => have := LMc7.out; omega); intro v108 w8 ho hb hg hat; rw [← Ny107.out] at ho; have n0_ := Qz.mk (hb); have n1_ := Qz.mk (ho); clear HB; clear HO_3; have HB := n0_; have HO109 := n1_; clear n0_ n1_; clear ho hb hg hat; have hcv9 := own_string (P := Try.prog) Try.underlying42 Try.underlying5 Try.underlying9 (Kd.own_of_R HO109.out)))
     go_ret
     exact ⟨by first | rfl | (simp [qo, qn] <;> rfl) | (simp [*, qo, qn] <;> rfl), by repeat (first | (with_reducible first | exact HB.out | apply qc | apply qa | apply qb) | exact HB.out)⟩
    ·rw [if_neg c7] at H
     exact absurd H (by simp)
def impl_putInt.f (k : Nat) (a0 : Int) : Option (ByteArray) := (impl_PutVar.f k (IntKind.u64.wrap (a0))).bind fun t101 => (some t101)
set_option maxHeartbeats 8000000 in
set_option maxRecDepth 100000 in
theorem impl_putInt.calls (k : Nat) (a0 : Int) (r : ByteArray) (w : World) (h : impl_putInt.f k a0 = some r) :
  Calls Try.prog 148 #[.int .i64 a0] w fun e w' => e = .returned (.string r) ∧ Below w.heap.size w w' := by
 have HB := Qz.mk (Below.refl w.heap.size w)
 have H : ((impl_PutVar.f k (IntKind.u64.wrap (a0))).bind fun t101 => (some t101)) = some r := h
 clear h
 replace H := Option.bind_eq_some_iff.mp H
 obtain ⟨t101, A20, H⟩ := H
 replace H : (some t101) = some r := H
 have A2 := Qz.mk A20
 clear A20
 obtain rfl := Option.some.inj H
 go_enter Try.func148, Try.ntmps148
 go_wp2_with (first | ((with_reducible refine ql (f := 186) rfl ?_); refine qy (some 5) rfl rfl Try.func186 (by kernel_rfl) rfl #[.int .u64 (IntKind.u64.wrap (a0))] rfl (by (try simp only [List.map_toArray, List.map_cons, List.map_nil]); first | done | rfl | (simp only [List.length_drop, List.length_take]; rfl) | (rw [IntWalk.u64_in _ (by omega)] <;> rfl)) ?_; (with_reducible refine (impl_PutVar.calls k (IntKind.u64.wrap (a0)) t101 _ A2.out).mono ?_); rintro e w3 ⟨rfl, hb⟩; refine ⟨_, rfl, ?_⟩; replace HB := Qz.mk (qm (by repeat (first | (with_reducible first | exact HB.out | apply qc | apply qa | apply qb) | exact HB.out)) hb); (try clear hb)))
 go_ret
 exact ⟨by first | rfl | (simp [qo, qn] <;> rfl) | (simp [*, qo, qn] <;> rfl), by repeat (first | (with_reducible first | exact HB.out | apply qc | apply qa | apply qb) | exact HB.out)⟩
def impl_PutText.f (k : Nat) (a0 : ByteArray) : Option (ByteArray) := (impl_PutVar.f k (IntKind.u64.wrap ((a0.size : Int)))).bind fun t101 => (if t101.size + a0.size ≤ 9223372036854775807 then (some (t101 ++ a0)) else (none))
set_option maxHeartbeats 8000000 in
set_option maxRecDepth 100000 in
theorem impl_PutText.calls (k : Nat) (a0 : ByteArray) (r : ByteArray) (w : World) (h : impl_PutText.f k a0 = some r) :
  Calls Try.prog 149 #[.string a0] w fun e w' => e = .returned (.string r) ∧ Below w.heap.size w w' := by
 have HB := Qz.mk (Below.refl w.heap.size w)
 have H : ((impl_PutVar.f k (IntKind.u64.wrap ((a0.size : Int)))).bind fun t101 => (if t101.size + a0.size ≤ 9223372036854775807 then (some (t101 ++ a0)) else (none))) = some r := h
 clear h
 replace H := Option.bind_eq_some_iff.mp H
 obtain ⟨t101, A20, H⟩ := H
 replace H : (if t101.size + a0.size ≤ 9223372036854775807 then (some (t101 ++ a0)) else (none)) = some r := H
 have A2 := Qz.mk A20
 clear A20
 by_cases c3 : t101.size + a0.size ≤ 9223372036854775807
 ·rw [if_pos c3] at H
  have c3b0 := eq_true c3
  have c3b1 : decide (t101.size + a0.size ≤ 9223372036854775807) = true := decide_eq_true c3
  try have c3b2 : (9223372036854775807 < t101.size + a0.size) = False := eq_false (Nat.not_lt.2 c3)
  obtain rfl := Option.some.inj H
  go_enter Try.func149, Try.ntmps149
  go_wp2_with (first | ((with_reducible refine ql (f := 186) rfl ?_); refine qy (some 6) rfl rfl Try.func186 (by kernel_rfl) rfl #[.int .u64 (IntKind.u64.wrap ((a0.size : Int)))] rfl (by (try simp only [List.map_toArray, List.map_cons, List.map_nil]); first | done | rfl | (simp only [List.length_drop, List.length_take]; rfl) | (rw [IntWalk.u64_in _ (by omega)] <;> rfl)) ?_; (with_reducible refine (impl_PutVar.calls k (IntKind.u64.wrap ((a0.size : Int))) t101 _ A2.out).mono ?_); rintro e w4 ⟨rfl, hb⟩; refine ⟨_, rfl, ?_⟩; replace HB := Qz.mk (qm (by repeat (first | (with_reducible first | exact HB.out | apply qc | apply qa | apply qb) | exact HB.out)) hb); (try clear hb)))
  go_ret
  exact ⟨by first | rfl | (simp [qo, qn] <;> rfl) | (simp [*, qo, qn] <;> rfl), by repeat (first | (with_reducible first | exact HB.out | apply qc | apply qa | apply qb) | exact HB.out)⟩
 ·rw [if_neg c3] at H
  exact absurd H (by simp)
theorem yq56 {P : Prop} (h : P := by repeat (first | (with_reducible first | exact HB.out | apply qc | apply qa | apply qb | refine qd ?_ GE101.out | refine qd ?_ GE105.out) | exact HB.out)) : P := h
theorem yq57 {P : Prop} (h : P := by (with_reducible repeat (first | refine qe ?_ _ | refine qg ?_ | refine qf ?_ _)); exact BK101.out) : P := h
theorem yq58 {P : Prop} (h : P := by (with_reducible repeat (first | refine qe ?_ _ | refine qg ?_ | refine qf ?_ _)); exact BK105.out) : P := h
theorem yq59 {P : Prop} (h : P := by (with_reducible repeat (first | apply Kd.R_alloc | apply Kd.R_drewN | apply Kd.R_drew)); exact HO108.out) : P := h
theorem yq60 {P : Prop} (h : P := by first | (simp only [putAll, Act.put, sq1, sq2, sq3]; done) | (simp only [putAll, Act.put, sq1, sq2, sq3]; rfl)) : P := h
theorem yq61 {P : Prop} (h : P := by (try simp only [List.map_toArray, List.map_cons, List.map_nil]); first | done | rfl) : P := h
theorem yq62 {P : Prop} (h : P := by repeat (first | (with_reducible first | exact HB.out | apply qc | apply qa | apply qb | refine qd ?_ GE101.out) | exact HB.out)) : P := h
def impl_Batch_text.l0 : Nat → ByteArray → List (S148) → Int → Int → Option (ByteArray)
 | 0, _, _, _, _ => none
 | k + 1, x3, x15, x16, x17 => if x17 < x16 then (if 0 ≤ x17 then (if x17 < (x15.length : Int) then ((some (([((qj x15 x17).f0) % 256] : List Int) : List Int)).bind fun y106 => ((impl_PutText.f k ((qj x15 x17).f1)).bind fun t109 => (if (strOfNums y106).size + t109.size ≤ 9223372036854775807 then ((impl_PutText.f k ((qj x15 x17).f2)).bind fun t110 => (if (strOfNums y106).size + t109.size + t110.size ≤ 9223372036854775807 then (if x3.size + ((strOfNums y106).size + t109.size + t110.size) ≤ 9223372036854775807 then (impl_Batch_text.l0 k (x3 ++ (((strOfNums y106) ++ t109) ++ t110)) x15 x16 (wrap64 (x17 + 1))) else (none)) else (none))) else (none)))) else (none)) else (none)) else (some x3)
def impl_Batch_text.f (k : Nat) (a0_0 : Int) (l0_1 : List (S148)) : Option (ByteArray) := (impl_putInt.f k a0_0).bind fun t102 => ((impl_putInt.f k (l0_1.length : Int)).bind fun t103 => (if t102.size + t103.size ≤ 9223372036854775807 then (impl_Batch_text.l0 k (t102 ++ t103) l0_1 (l0_1.length : Int) 0) else (none)))
def impl_Batch_text.T1 : Bool × List (List Nat × List Nat) := (true, [([], []), ([0], [0]), ([1], [1]), ([], []), ([3], [3]), ([4], [4]), ([5, 2], [5]), ([2, 6], [2, 6]), ([7, 6, 0, 1, 2, 3, 4, 5, 6, 7], [7])])
def impl_Batch_text.B1 : List Nat := [0, 1, 3, 0, 8, 24, 63, 127, 255]
theorem impl_Batch_text.tab1 : rtab .any (opsOf Try.f111 1) = impl_Batch_text.T1 := by kernel_rfl
theorem impl_Batch_text.bits1 : waitsOk impl_Batch_text.T1.2 impl_Batch_text.B1 = true := by kernel_rfl
def impl_Batch_text.T5 : Bool × List (List Nat × List Nat) := (true, [([], []), ([], []), ([1], [1]), ([2], [2]), ([3], [3]), ([4], [4]), ([], []), ([6], [6]), ([7], [7]), ([5, 8], [5, 8]), ([], []), ([10], [10]), ([11, 8], [11]), ([9, 12], [9, 12]), ([0, 13], [0, 13]), ([14, 12, 0, 1, 2, 3, 4, 5, 6, 7, 8, 9, 10, 11, 12, 13, 14], [0, 14])])
def impl_Batch_text.B5 : List Nat := [0, 0, 2, 6, 14, 30, 0, 64, 192, 510, 0, 1024, 3520, 8190, 16383, 32767]
theorem impl_Batch_text.tab5 : rtab .any (opsOf Try.f111 5) = impl_Batch_text.T5 := by kernel_rfl
theorem impl_Batch_text.bits5 : waitsOk impl_Batch_text.T5.2 impl_Batch_text.B5 = true := by kernel_rfl
set_option maxHeartbeats 8000000 in
set_option maxRecDepth 100000 in
theorem impl_Batch_text.calls (k : Nat) (a0_0 : Int) (A0_1 : Option Addr) (c0_1 : Nat) (l0_1 : List (S148)) (r : ByteArray) (w : World) (hr0_1 : Kd.C k148 w A0_1 l0_1.length l0_1) (hc0_1 : l0_1.length ≤ c0_1) (h : impl_Batch_text.f k a0_0 l0_1 = some r) :
  Calls Try.prog 111 #[.agg #[.int .i64 a0_0, .slice A0_1 l0_1.length c0_1]] w fun e w' => e = .returned (.string r) ∧ Below w.heap.size w w' := by
 have hu68 := Try.underlying68
 have hu148 := Try.underlying148
 have HR0_1 := Qz.mk hr0_1
 have HC0_1 := Qz.mk hc0_1
 clear hr0_1 hc0_1
 have HB := Qz.mk (Below.refl w.heap.size w)
 have H : ((impl_putInt.f k a0_0).bind fun t102 => ((impl_putInt.f k (l0_1.length : Int)).bind fun t103 => (if t102.size + t103.size ≤ 9223372036854775807 then (impl_Batch_text.l0 k (t102 ++ t103) l0_1 (l0_1.length : Int) 0) else (none)))) = some r := h
 clear h
 replace H := Option.bind_eq_some_iff.mp H
 obtain ⟨t102, A20, H⟩ := H
 replace H : ((impl_putInt.f k (l0_1.length : Int)).bind fun t103 => (if t102.size + t103.size ≤ 9223372036854775807 then (impl_Batch_text.l0 k (t102 ++ t103) l0_1 (l0_1.length : Int) 0) else (none))) = some r := H
 have A2 := Qz.mk A20
 clear A20
 replace H := Option.bind_eq_some_iff.mp H
 obtain ⟨t103, A30, H⟩ := H
 replace H : (if t102.size + t103.size ≤ 9223372036854775807 then (impl_Batch_text.l0 k (t102 ++ t103) l0_1 (l0_1.length : Int) 0) else (none)) = some r := H
 have A3 := Qz.mk A30
 clear A30
 by_cases c4 : t102.size + t103.size ≤ 9223372036854775807
 ·rw [if_pos c4] at H
  have c4b0 := eq_true c4
  have c4b1 : decide (t102.size + t103.size ≤ 9223372036854775807) = true := decide_eq_true c4
  try have c4b2 : (9223372036854775807 < t102.size + t103.size) = False := eq_false (Nat.not_lt.2 c4)
  have H' := Qz.mk H
  clear H
  go_enter Try.func111, Try.ntmps111
  try go_wp2_with (first | ((with_reducible refine qg1 (N := 1) rfl ?_); refine qf1 ?hg (N := 1) ?hd (cs := #[.int .i64 a0_0, .slice A0_1 l0_1.length c0_1]) (t := 68) ?hr ?_; (case hd => rfl); (case hg => rfl); (case hr => first | (go_simp; done) | (go_simp; rfl)); intro gb101 hg w5 hbox hb; have BK101 := Qz.mk (hbox); have GW101 := Qz.mk ((by rw [hg]; exact (qr (by repeat (first | (with_reducible first | exact HB.out | apply qc | apply qa | apply qb) | exact HB.out))) : w.heap.size ≤ gb101)); have GE101 := GW101; replace HB := Qz.mk (qm (by repeat (first | (with_reducible first | exact HB.out | apply qc | apply qa | apply qb) | exact HB.out)) hb); clear hb hbox hg))
  replace BK101 := Qz.mk (qg BK101.out)
  replace HB := Qz.mk (qb HB.out)
  refine start_ (n := 9) (S := fun w' => w'.cell? ⟨gb101, 0, none⟩ = some (.int .i64 a0_0) ∧ w'.cell? ⟨gb101, 1, none⟩ = some (.slice A0_1 l0_1.length c0_1)) (ds := []) #[false, false, false, false, false, false, false, false, false] (by kernel_rfl) rfl rfl ⟨(qh BK101.out 0).trans rfl, (qh BK101.out 1).trans rfl⟩ (fun hHeld => ?_); refine with_tabW impl_Batch_text.tab1 impl_Batch_text.bits1 (fun HT_ HW_ => ?_)
  generalize w5.drew = w6 at BK101 HB hHeld ⊢
  refine pure_ (i := 0) (N := some 6) (v := ?_) (a' := ?_) #[true, false, false, false, false, false, false, false, false] rfl rfl (qe1 HT_.out (by kernel_rfl)) (fun _ _ _ h => h) (Or.inl ⟨by rfl, ?_⟩) ?_ ?_
  rotate_left
  ·intro w'
   go_simp
   with_reducible rfl
  rotate_left
  ·simp only [Act.put, sq1, sq2, sq3, i64_w, i32_w]
   rfl
  refine pure_ (i := 3) (N := some 9) (v := ?_) (a' := ?_) #[true, false, false, true, false, false, false, false, false] rfl rfl (qe1 HT_.out (by kernel_rfl)) (fun _ _ _ h => h) (Or.inl ⟨by rfl, ?_⟩) ?_ ?_
  rotate_left
  ·intro w'
   go_simp
   with_reducible rfl
  rotate_left
  ·simp only [Act.put, sq1, sq2, sq3, i64_w, i32_w]
   rfl
  refine take_ (i := 1) (N := some 7) (v := ?_) (a' := ?_) #[true, true, false, true, false, false, false, false, false] rfl rfl (take_ofW HT_.out HW_.out (by kernel_rfl)) (fun _ _ _ h => h) (Or.inl ⟨by rfl, ?_⟩) hHeld ?_ ?_
  rotate_left
  ·rintro w' ⟨s0, s1⟩
   go_simp
   with_reducible rfl
  rotate_left
  ·simp only [Act.put, sq1, sq2, sq3, i64_w, i32_w]
   rfl
  refine take_ (i := 4) (N := some 10) (v := ?_) (a' := ?_) #[true, true, false, true, true, false, false, false, false] rfl rfl (take_ofW HT_.out HW_.out (by kernel_rfl)) (fun _ _ _ h => h) (Or.inl ⟨by rfl, ?_⟩) hHeld ?_ ?_
  rotate_left
  ·rintro w' ⟨s0, s1⟩
   go_simp
   with_reducible rfl
  rotate_left
  ·simp only [Act.put, sq1, sq2, sq3, i64_w, i32_w]
   rfl
  refine pure_ (i := 5) (N := some 11) (v := ?_) (a' := ?_) #[true, true, false, true, true, true, false, false, false] rfl rfl (qe1 HT_.out (by kernel_rfl)) (fun _ _ _ h => h) (Or.inl ⟨by rfl, ?_⟩) ?_ ?_
  rotate_left
  ·intro w'
   go_simp
   with_reducible rfl
  rotate_left
  ·simp only [Act.put, sq1, sq2, sq3, i64_w, i32_w]
   rfl
  refine one_ (i := 2) (N := some 8) #[true, true, true, true, true, true, false, false, false] rfl rfl (one_of HT_.out (by kernel_rfl)) (by decide) (fun K hK => ?_)
  refine goes_ Try.func148 (by kernel_rfl) rfl #[.int .i64 a0_0] (by rfl) rfl rfl yq61 ?_
  with_reducible refine (impl_putInt.calls k a0_0 t102 _ A2.out).mono ?_
  rintro e w7 ⟨rfl, hb⟩
  refine ⟨_, rfl, ?_⟩
  replace BK101 := Qz.mk (qp (g := gb101) (o := .cells #[.int .i64 a0_0, .slice A0_1 l0_1.length c0_1] 68 (0, 0)) yq57 hb)
  replace HB := Qz.mk (qm yq62 hb)
  (try clear hb)
  (try clear hk)
  refine hK.out _ _ ⟨(qh BK101.out 0).trans rfl, (qh BK101.out 1).trans rfl⟩ (fun hHeld => ?_)
  clear hK K
  refine norm_ (a' := ?_) ?_ ?_
  rotate_left
  ·show Act.put _ (some 8) _ = _
   simp only [Act.put, sq1, sq2, sq3, i64_w, i32_w]
   rfl
  refine one_ (i := 6) (N := some 12) #[true, true, true, true, true, true, true, false, false] rfl rfl (one_of HT_.out (by kernel_rfl)) (by decide) (fun K hK => ?_)
  refine goes_ Try.func148 (by kernel_rfl) rfl #[.int .i64 (l0_1.length : Int)] (by rfl) rfl rfl (by (try simp only [List.map_toArray, List.map_cons, List.map_nil]); first | done | rfl | (simp only [List.length_drop, List.length_take]; rfl) | (rw [IntWalk.u64_in _ (by omega)] <;> rfl)) ?_
  with_reducible refine (impl_putInt.calls k (l0_1.length : Int) t103 _ A3.out).mono ?_
  rintro e w8 ⟨rfl, hb⟩
  refine ⟨_, rfl, ?_⟩
  replace BK101 := Qz.mk (qp (g := gb101) (o := .cells #[.int .i64 a0_0, .slice A0_1 l0_1.length c0_1] 68 (0, 0)) yq57 hb)
  replace HB := Qz.mk (qm yq62 hb)
  (try clear hb)
  (try clear hk)
  refine hK.out _ _ ⟨(qh BK101.out 0).trans rfl, (qh BK101.out 1).trans rfl⟩ (fun hHeld => ?_)
  clear hK K
  refine norm_ (a' := ?_) ?_ ?_
  rotate_left
  ·show Act.put _ (some 12) _ = _
   simp only [Act.put, sq1, sq2, sq3, i64_w, i32_w]
   rfl
  refine pure_ (i := 7) (N := some 13) (v := ?_) (a' := ?_) #[true, true, true, true, true, true, true, true, false] rfl rfl (qe1 HT_.out (by kernel_rfl)) (fun _ _ _ h => h) (Or.inl ⟨by rfl, ?_⟩) ?_ ?_
  rotate_left
  ·intro w'
   go_simp
   with_reducible rfl
  rotate_left
  ·simp only [Act.put, sq1, sq2, sq3, i64_w, i32_w]
   rfl
  refine pure_ (i := 8) (N := some 3) (v := ?_) (a' := ?_) #[true, true, true, true, true, true, true, true, true] rfl rfl (qe1 HT_.out (by kernel_rfl)) (fun _ _ _ h => h) (Or.inl ⟨by rfl, ?_⟩) ?_ ?_
  rotate_left
  ·intro w'
   go_simp
   with_reducible rfl
  rotate_left
  ·simp only [Act.put, sq1, sq2, sq3, i64_w, i32_w]
   rfl
  refine done_ (done_of HT_.out (by kernel_rfl)) ?_
  have hcz9_0 : w8.cell? ⟨gb101, 0, none⟩ = some (.int .i64 a0_0) := (qh BK101.out 0).trans rfl
  have hcz9_1 : w8.cell? ⟨gb101, 1, none⟩ = some (.slice A0_1 l0_1.length c0_1) := (qh BK101.out 1).trans rfl
  have hfz9_0 := qi BK101.out 0
  have hfz9_1 := qi BK101.out 1
  try go_wp2
  go_loopg [3, 17] k (fun kq v3 v17 w' => ∃ (x3_1 : ByteArray) (x17_1 : Int), v3 = .string x3_1 ∧ v17 = .int .i64 x17_1 ∧ Qz (impl_Batch_text.l0 kq x3_1 l0_1 (l0_1.length : Int) x17_1 = some r) ∧ Qz (kq ≤ k) ∧ Qz (w'.heap[gb101]? = some (.cells #[.int .i64 a0_0, (.slice A0_1 l0_1.length c0_1)] 68 (0, 0))) ∧ Qz (Below w.heap.size w w'))
  case atStart => exact ⟨(t102 ++ t103), (0), (by first | rfl | (simp; done) | (simp [*]; done)), (by first | rfl | (simp; done) | (simp [*]; done)), H', ⟨Nat.le_refl _⟩, ⟨by (with_reducible repeat (first | refine qe ?_ _ | refine qg ?_ | refine qf ?_ _)); exact BK101.out⟩, ⟨by repeat (first | (with_reducible first | exact HB.out | apply qc | apply qa | apply qb | refine qd ?_ GE101.out) | exact HB.out)⟩⟩
  case round =>
   clear H'
   try clear c1
   try clear p2
   try clear c4
   try clear c4b0
   try clear c4b1
   try clear c4b2
   try clear hcz9_0
   try clear hcz9_1
   try clear hfz9_0
   try clear hfz9_1
   obtain ⟨x3_1, x17_1, rfl, rfl, HA, HK1, BK101, HB⟩ := hrel
   cases gk with
   | zero => exact absurd HA.out (by simp [impl_Batch_text.l0])
   | succ k1 =>
    have H := HA.out
    clear HA
    simp only [impl_Batch_text.l0] at H
    by_cases c10 : x17_1 < (l0_1.length : Int)
    ·rw [if_pos c10] at H
     have c10b0 : decide (x17_1 < (l0_1.length : Int)) = true := decide_eq_true c10
     clear c10
     by_cases c11 : 0 ≤ x17_1
     ·rw [if_pos c11] at H
      have c11b0 : decide (0 ≤ x17_1) = true := decide_eq_true c11
      clear c11
      by_cases c12 : x17_1 < (l0_1.length : Int)
      ·rw [if_pos c12] at H
       have c12b0 : decide (x17_1 < (l0_1.length : Int)) = true := decide_eq_true c12
       clear c12
       obtain ⟨y106, hy106⟩ : ∃ y_ : List Int, y_ = (([((qj l0_1 x17_1).f0) % 256] : List Int)) := ⟨_, rfl⟩
       replace H : ((impl_PutText.f k1 ((qj l0_1 x17_1).f1)).bind fun t109 => (if (strOfNums y106).size + t109.size ≤ 9223372036854775807 then ((impl_PutText.f k1 ((qj l0_1 x17_1).f2)).bind fun t110 => (if (strOfNums y106).size + t109.size + t110.size ≤ 9223372036854775807 then (if x3_1.size + ((strOfNums y106).size + t109.size + t110.size) ≤ 9223372036854775807 then (impl_Batch_text.l0 k1 (x3_1 ++ (((strOfNums y106) ++ t109) ++ t110)) l0_1 (l0_1.length : Int) (wrap64 (x17_1 + 1))) else (none)) else (none))) else (none))) = some r := by first | (rw [hy106]; with_reducible exact H) | (have H2_ := (Option.bind_some _ _).symm.trans H; rw [hy106]; with_reducible exact H2_) | (have H2_ := (Option.bind_some _ _).symm.trans H; with_reducible exact H2_) | with_reducible exact H | (rw [hy106]; exact H) | exact H
       have Ny106 := Qz.mk hy106
       clear hy106
       replace H := Option.bind_eq_some_iff.mp H
       obtain ⟨t109, A130, H⟩ := H
       replace H : (if (strOfNums y106).size + t109.size ≤ 9223372036854775807 then ((impl_PutText.f k1 ((qj l0_1 x17_1).f2)).bind fun t110 => (if (strOfNums y106).size + t109.size + t110.size ≤ 9223372036854775807 then (if x3_1.size + ((strOfNums y106).size + t109.size + t110.size) ≤ 9223372036854775807 then (impl_Batch_text.l0 k1 (x3_1 ++ (((strOfNums y106) ++ t109) ++ t110)) l0_1 (l0_1.length : Int) (wrap64 (x17_1 + 1))) else (none)) else (none))) else (none)) = some r := H
       have A13 := Qz.mk A130
       clear A130
       by_cases c14 : (strOfNums y106).size + t109.size ≤ 9223372036854775807
       ·rw [if_pos c14] at H
        have c14b0 := eq_true c14
        have c14b1 : decide ((strOfNums y106).size + t109.size ≤ 9223372036854775807) = true := decide_eq_true c14
        try have c14b2 : (9223372036854775807 < (strOfNums y106).size + t109.size) = False := eq_false (Nat.not_lt.2 c14)
        replace H := Option.bind_eq_some_iff.mp H
        obtain ⟨t110, A150, H⟩ := H
        replace H : (if (strOfNums y106).size + t109.size + t110.size ≤ 9223372036854775807 then (if x3_1.size + ((strOfNums y106).size + t109.size + t110.size) ≤ 9223372036854775807 then (impl_Batch_text.l0 k1 (x3_1 ++ (((strOfNums y106) ++ t109) ++ t110)) l0_1 (l0_1.length : Int) (wrap64 (x17_1 + 1))) else (none)) else (none)) = some r := H
        have A15 := Qz.mk A150
        clear A150
        by_cases c16 : (strOfNums y106).size + t109.size + t110.size ≤ 9223372036854775807
        ·rw [if_pos c16] at H
         have c16b0 := eq_true c16
         have c16b1 : decide ((strOfNums y106).size + t109.size + t110.size ≤ 9223372036854775807) = true := decide_eq_true c16
         try have c16b2 : (9223372036854775807 < (strOfNums y106).size + t109.size + t110.size) = False := eq_false (Nat.not_lt.2 c16)
         by_cases c17 : x3_1.size + ((strOfNums y106).size + t109.size + t110.size) ≤ 9223372036854775807
         ·rw [if_pos c17] at H
          have c17b0 := eq_true c17
          have c17b1 : decide (x3_1.size + ((strOfNums y106).size + t109.size + t110.size) ≤ 9223372036854775807) = true := decide_eq_true c17
          try have c17b2 : (9223372036854775807 < x3_1.size + ((strOfNums y106).size + t109.size + t110.size)) = False := eq_false (Nat.not_lt.2 c17)
          have H' := Qz.mk H
          clear H
          have p104 : 0 ≤ (x17_1 : Int) := of_decide_eq_true (by first | (with_reducible assumption) | assumption)
          have q104 : x17_1 < (l0_1.length : Int) := of_decide_eq_true (by first | (with_reducible assumption) | assumption)
          obtain ⟨ad104, e104, hx104_0, hx104_1, hx104_2⟩ := at_T148 HR0_1.out x17_1 p104 q104
          cases e104
          replace hx104_0 := (HB.out.cell (World.block_lt_of_cell? w _ hx104_0)).trans hx104_0
          replace hx104_1 := (HB.out.cell (World.block_lt_of_cell? w _ hx104_1)).trans hx104_1
          replace hx104_2 := (HB.out.cell (World.block_lt_of_cell? w _ hx104_2)).trans hx104_2
          replace p104 := eq_true p104
          replace q104 := eq_true q104
          try go_wp2_with (first | ((with_reducible refine qg1 (N := 5) rfl ?_); refine qf1 ?hg (N := 5) ?hd (cs := #[.int .i64 0, .string (⟨#[]⟩ : ByteArray), .string (⟨#[]⟩ : ByteArray)]) (t := 148) ?hr ?_; (case hd => rfl); (case hg => rfl); (case hr => first | (go_simp; done) | (go_simp; rfl)); intro gb105 hg w18 hbox hb; have BK105 := Qz.mk (hbox); have GW105 := Qz.mk ((by rw [hg]; exact (qr yq62) : w.heap.size ≤ gb105)); have GE105 := GW105; replace HB := Qz.mk (qm yq62 hb); have NB101_105 := Qz.mk ((by rw [hg]; exact Nat.ne_of_lt (blk_lt (g := gb101) (o := .cells #[.int .i64 a0_0, .slice (some ad104) l0_1.length c0_1] 68 (0, 0)) yq57) : gb101 ≠ gb105)); have NB105_101 := Qz.mk ((by rw [hg]; exact Nat.ne_of_gt (blk_lt (g := gb101) (o := .cells #[.int .i64 a0_0, .slice (some ad104) l0_1.length c0_1] 68 (0, 0)) yq57) : gb105 ≠ gb101)); replace BK101 := Qz.mk (qp (g := gb101) (o := .cells #[.int .i64 a0_0, .slice (some ad104) l0_1.length c0_1] 68 (0, 0)) yq57 hb); clear hb hbox hg; have hnb19 := NB105_101.out; have hnc19 := NB101_105.out; have hcz20_0 : w18.cell? ⟨gb105, 0, none⟩ = some (.int .i64 0) := (qh BK105.out 0).trans rfl; have hcz20_1 : w18.cell? ⟨gb105, 1, none⟩ = some (.string (⟨#[]⟩ : ByteArray)) := (qh BK105.out 1).trans rfl; have hcz20_2 : w18.cell? ⟨gb105, 2, none⟩ = some (.string (⟨#[]⟩ : ByteArray)) := (qh BK105.out 2).trans rfl; have hfz20_0 := qi BK105.out 0; have hfz20_1 := qi BK105.out 1; have hfz20_2 := qi BK105.out 2))
          have n0_ : Qz ((((w18.setCell ⟨gb105, 0, none⟩ (.int .i64 ((qj l0_1 x17_1).f0))).setCell ⟨gb105, 1, none⟩ (.string ((qj l0_1 x17_1).f1))).setCell ⟨gb105, 2, none⟩ (.string ((qj l0_1 x17_1).f2))).heap[gb101]? = some (.cells #[.int .i64 a0_0, .slice (some ad104) l0_1.length c0_1] 68 (0, 0))) := ⟨by (with_reducible repeat (first | refine qe ?_ _ | refine qg ?_ | refine qf ?_ _)); refine blk_far ?_ NB101_105.out _; (with_reducible repeat (first | refine qe ?_ _ | refine qg ?_ | refine qf ?_ _)); refine blk_far ?_ NB101_105.out _; (with_reducible repeat (first | refine qe ?_ _ | refine qg ?_ | refine qf ?_ _)); refine blk_far ?_ NB101_105.out _; (with_reducible repeat (first | refine qe ?_ _ | refine qg ?_ | refine qf ?_ _)); exact BK101.out⟩
          have n1_ : Qz ((((w18.setCell ⟨gb105, 0, none⟩ (.int .i64 ((qj l0_1 x17_1).f0))).setCell ⟨gb105, 1, none⟩ (.string ((qj l0_1 x17_1).f1))).setCell ⟨gb105, 2, none⟩ (.string ((qj l0_1 x17_1).f2))).heap[gb105]? = some (.cells #[.int .i64 ((qj l0_1 x17_1).f0), .string ((qj l0_1 x17_1).f1), .string ((qj l0_1 x17_1).f2)] 148 (0, 0))) := ⟨by (with_reducible repeat (first | refine qe ?_ _ | refine qg ?_ | refine qf ?_ _)); refine qz (cs := #[.int .i64 ((qj l0_1 x17_1).f0), .string ((qj l0_1 x17_1).f1), .string (⟨#[]⟩ : ByteArray)]) ?_ 2 _ rfl; (with_reducible repeat (first | refine qe ?_ _ | refine qg ?_ | refine qf ?_ _)); refine qz (cs := #[.int .i64 ((qj l0_1 x17_1).f0), .string (⟨#[]⟩ : ByteArray), .string (⟨#[]⟩ : ByteArray)]) ?_ 1 _ rfl; (with_reducible repeat (first | refine qe ?_ _ | refine qg ?_ | refine qf ?_ _)); refine qz (cs := #[.int .i64 0, .string (⟨#[]⟩ : ByteArray), .string (⟨#[]⟩ : ByteArray)]) ?_ 0 _ rfl; (with_reducible repeat (first | refine qe ?_ _ | refine qg ?_ | refine qf ?_ _)); exact BK105.out⟩
          have n2_ : Qz (Below w.heap.size w (((w18.setCell ⟨gb105, 0, none⟩ (.int .i64 ((qj l0_1 x17_1).f0))).setCell ⟨gb105, 1, none⟩ (.string ((qj l0_1 x17_1).f1))).setCell ⟨gb105, 2, none⟩ (.string ((qj l0_1 x17_1).f2)))) := ⟨by repeat (first | (with_reducible first | exact HB.out | apply qc | apply qa | apply qb | refine qd ?_ GE101.out | refine qd ?_ GE105.out) | exact HB.out)⟩
          (try clear BK101)
          (try clear BK105)
          (try clear HB)
          generalize (((w18.setCell ⟨gb105, 0, none⟩ (.int .i64 ((qj l0_1 x17_1).f0))).setCell ⟨gb105, 1, none⟩ (.string ((qj l0_1 x17_1).f1))).setCell ⟨gb105, 2, none⟩ (.string ((qj l0_1 x17_1).f2))) = w21 at n0_ n1_ n2_ ⊢
          have BK101 := n0_
          have BK105 := n1_
          have HB := n2_
          clear n0_ n1_ n2_
          replace BK101 := Qz.mk (qg BK101.out)
          replace BK105 := Qz.mk (qg BK105.out)
          replace HB := Qz.mk (qb HB.out)
          refine start_ (n := 16) (S := fun w' => w'.cell? ⟨gb105, 0, none⟩ = some (.int .i64 ((qj l0_1 x17_1).f0)) ∧ w'.cell? ⟨gb105, 1, none⟩ = some (.string ((qj l0_1 x17_1).f1)) ∧ w'.cell? ⟨gb105, 2, none⟩ = some (.string ((qj l0_1 x17_1).f2))) (ds := []) #[false, false, false, false, false, false, false, false, false, false, false, false, false, false, false, false] (by kernel_rfl) rfl rfl ⟨(qh BK105.out 0).trans rfl, (qh BK105.out 1).trans rfl, (qh BK105.out 2).trans rfl⟩ (fun hHeld => ?_); refine with_tabW impl_Batch_text.tab5 impl_Batch_text.bits5 (fun HT_ HW_ => ?_)
          generalize w21.drew = w22 at BK101 BK105 HB hHeld ⊢
          refine pure_ (i := 0) (N := some 21) (v := ?_) (a' := ?_) #[true, false, false, false, false, false, false, false, false, false, false, false, false, false, false, false] rfl rfl (qe1 HT_.out (by kernel_rfl)) (fun _ _ _ h => h) (Or.inl ⟨by rfl, ?_⟩) ?_ ?_
          rotate_left
          ·intro w'
           go_simp
           with_reducible rfl
          rotate_left
          ·simp only [Act.put, sq1, sq2, sq3, i64_w, i32_w]
           rfl
          refine pure_ (i := 1) (N := some 22) (v := ?_) (a' := ?_) #[true, true, false, false, false, false, false, false, false, false, false, false, false, false, false, false] rfl rfl (qe1 HT_.out (by kernel_rfl)) (fun _ _ _ h => h) (Or.inl ⟨by rfl, ?_⟩) ?_ ?_
          rotate_left
          ·intro w'
           go_simp
           with_reducible rfl
          rotate_left
          ·simp only [Act.put, sq1, sq2, sq3, i64_w, i32_w]
           rfl
          refine pure_ (i := 6) (N := some 27) (v := ?_) (a' := ?_) #[true, true, false, false, false, false, true, false, false, false, false, false, false, false, false, false] rfl rfl (qe1 HT_.out (by kernel_rfl)) (fun _ _ _ h => h) (Or.inl ⟨by rfl, ?_⟩) ?_ ?_
          rotate_left
          ·intro w'
           go_simp
           with_reducible rfl
          rotate_left
          ·simp only [Act.put, sq1, sq2, sq3, i64_w, i32_w]
           rfl
          refine pure_ (i := 10) (N := some 31) (v := ?_) (a' := ?_) #[true, true, false, false, false, false, true, false, false, false, true, false, false, false, false, false] rfl rfl (qe1 HT_.out (by kernel_rfl)) (fun _ _ _ h => h) (Or.inl ⟨by rfl, ?_⟩) ?_ ?_
          rotate_left
          ·intro w'
           go_simp
           with_reducible rfl
          rotate_left
          ·simp only [Act.put, sq1, sq2, sq3, i64_w, i32_w]
           rfl
          refine take_ (i := 2) (N := some 23) (v := ?_) (a' := ?_) #[true, true, true, false, false, false, true, false, false, false, true, false, false, false, false, false] rfl rfl (take_ofW HT_.out HW_.out (by kernel_rfl)) (fun _ _ _ h => h) (Or.inl ⟨by rfl, ?_⟩) hHeld ?_ ?_
          rotate_left
          ·rintro w' ⟨s0, s1, s2⟩
           go_simp
           with_reducible rfl
          rotate_left
          ·simp only [Act.put, sq1, sq2, sq3, i64_w, i32_w]
           rfl
          refine pure_ (i := 3) (N := some 24) (v := ?_) (a' := ?_) #[true, true, true, true, false, false, true, false, false, false, true, false, false, false, false, false] rfl rfl (qe1 HT_.out (by kernel_rfl)) (fun _ _ _ h => h) (Or.inl ⟨by rfl, ?_⟩) ?_ ?_
          rotate_left
          ·intro w'
           go_simp
           with_reducible rfl
          rotate_left
          ·simp only [Act.put, sq1, sq2, sq3, i64_w, i32_w]
           rfl
          refine take_ (i := 7) (N := some 28) (v := ?_) (a' := ?_) #[true, true, true, true, false, false, true, true, false, false, true, false, false, false, false, false] rfl rfl (take_ofW HT_.out HW_.out (by kernel_rfl)) (fun _ _ _ h => h) (Or.inl ⟨by rfl, ?_⟩) hHeld ?_ ?_
          rotate_left
          ·rintro w' ⟨s0, s1, s2⟩
           go_simp
           with_reducible rfl
          rotate_left
          ·simp only [Act.put, sq1, sq2, sq3, i64_w, i32_w]
           rfl
          refine take_ (i := 11) (N := some 32) (v := ?_) (a' := ?_) #[true, true, true, true, false, false, true, true, false, false, true, true, false, false, false, false] rfl rfl (take_ofW HT_.out HW_.out (by kernel_rfl)) (fun _ _ _ h => h) (Or.inl ⟨by rfl, ?_⟩) hHeld ?_ ?_
          rotate_left
          ·rintro w' ⟨s0, s1, s2⟩
           go_simp
           with_reducible rfl
          rotate_left
          ·simp only [Act.put, sq1, sq2, sq3, i64_w, i32_w]
           rfl
          refine join_ (σ := Value) 3 bq28 (fun s_ => [(25, s_), (26, .string (strOfNums y106)), (29, .string t109), (33, .string t110), (30, .string ((strOfNums y106) ++ t109))]) (fun s_ w' => (w'.cell? ⟨gb105, 0, none⟩ = some (.int .i64 ((qj l0_1 x17_1).f0)) ∧ w'.cell? ⟨gb105, 1, none⟩ = some (.string ((qj l0_1 x17_1).f1)) ∧ w'.cell? ⟨gb105, 2, none⟩ = some (.string ((qj l0_1 x17_1).f2))) ∧ (Kd.R (Kd.int .u8) 5 w' w.heap.size (fun _ => True) s_ y106) ∧ (w'.heap[gb101]? = some (.cells #[.int .i64 a0_0, .slice (some ad104) l0_1.length c0_1] 68 (0, 0))) ∧ (w'.heap[gb105]? = some (.cells #[.int .i64 ((qj l0_1 x17_1).f0), .string ((qj l0_1 x17_1).f1), .string ((qj l0_1 x17_1).f2)] 148 (0, 0))) ∧ (Below w.heap.size w w')) ?_ ?_
          rotate_left
          ·intro hJ4_5_8_12
           refine join_ (σ := Value) 4 bq25 (fun s_ => [(25, s_), (26, .string (strOfNums y106)), (29, .string t109), (30, .string ((strOfNums y106) ++ t109))]) (fun s_ w' => (w'.cell? ⟨gb105, 0, none⟩ = some (.int .i64 ((qj l0_1 x17_1).f0)) ∧ w'.cell? ⟨gb105, 1, none⟩ = some (.string ((qj l0_1 x17_1).f1)) ∧ w'.cell? ⟨gb105, 2, none⟩ = some (.string ((qj l0_1 x17_1).f2))) ∧ (Kd.R (Kd.int .u8) 5 w' w.heap.size (fun _ => True) s_ y106) ∧ (w'.heap[gb101]? = some (.cells #[.int .i64 a0_0, .slice (some ad104) l0_1.length c0_1] 68 (0, 0))) ∧ (w'.heap[gb105]? = some (.cells #[.int .i64 ((qj l0_1 x17_1).f0), .string ((qj l0_1 x17_1).f1), .string ((qj l0_1 x17_1).f2)] 148 (0, 0))) ∧ (Below w.heap.size w w')) ?_ ?_
           rotate_left
           ·intro hJ4_5_8
            refine join_ (σ := Value) 5 bq10 (fun s_ => [(25, s_), (29, .string t109), (33, .string t110)]) (fun s_ w' => (w'.cell? ⟨gb105, 0, none⟩ = some (.int .i64 ((qj l0_1 x17_1).f0)) ∧ w'.cell? ⟨gb105, 1, none⟩ = some (.string ((qj l0_1 x17_1).f1)) ∧ w'.cell? ⟨gb105, 2, none⟩ = some (.string ((qj l0_1 x17_1).f2))) ∧ (Kd.R (Kd.int .u8) 5 w' w.heap.size (fun _ => True) s_ y106) ∧ (w'.heap[gb101]? = some (.cells #[.int .i64 a0_0, .slice (some ad104) l0_1.length c0_1] 68 (0, 0))) ∧ (w'.heap[gb105]? = some (.cells #[.int .i64 ((qj l0_1 x17_1).f0), .string ((qj l0_1 x17_1).f1), .string ((qj l0_1 x17_1).f2)] 148 (0, 0))) ∧ (Below w.heap.size w w')) ?_ ?_
            rotate_left
            ·intro hJ4_8_12
             refine join_ (σ := Value) 6 bq16 (fun s_ => [(25, s_), (26, .string (strOfNums y106))]) (fun s_ w' => (w'.cell? ⟨gb105, 0, none⟩ = some (.int .i64 ((qj l0_1 x17_1).f0)) ∧ w'.cell? ⟨gb105, 1, none⟩ = some (.string ((qj l0_1 x17_1).f1)) ∧ w'.cell? ⟨gb105, 2, none⟩ = some (.string ((qj l0_1 x17_1).f2))) ∧ (Kd.R (Kd.int .u8) 5 w' w.heap.size (fun _ => True) s_ y106) ∧ (w'.heap[gb101]? = some (.cells #[.int .i64 a0_0, .slice (some ad104) l0_1.length c0_1] 68 (0, 0))) ∧ (w'.heap[gb105]? = some (.cells #[.int .i64 ((qj l0_1 x17_1).f0), .string ((qj l0_1 x17_1).f1), .string ((qj l0_1 x17_1).f2)] 148 (0, 0))) ∧ (Below w.heap.size w w')) ?_ ?_
             rotate_left
             ·intro hJ4_5
              refine join_ (σ := Value) 6 bq9 (fun s_ => [(25, s_), (29, .string t109)]) (fun s_ w' => (w'.cell? ⟨gb105, 0, none⟩ = some (.int .i64 ((qj l0_1 x17_1).f0)) ∧ w'.cell? ⟨gb105, 1, none⟩ = some (.string ((qj l0_1 x17_1).f1)) ∧ w'.cell? ⟨gb105, 2, none⟩ = some (.string ((qj l0_1 x17_1).f2))) ∧ (Kd.R (Kd.int .u8) 5 w' w.heap.size (fun _ => True) s_ y106) ∧ (w'.heap[gb101]? = some (.cells #[.int .i64 a0_0, .slice (some ad104) l0_1.length c0_1] 68 (0, 0))) ∧ (w'.heap[gb105]? = some (.cells #[.int .i64 ((qj l0_1 x17_1).f0), .string ((qj l0_1 x17_1).f1), .string ((qj l0_1 x17_1).f2)] 148 (0, 0))) ∧ (Below w.heap.size w w')) ?_ ?_
              rotate_left
              ·intro hJ4_8
               refine join_ (σ := Unit) 6 bq6 (fun s_ => [(29, .string t109), (33, .string t110)]) (fun s_ w' => (w'.cell? ⟨gb105, 0, none⟩ = some (.int .i64 ((qj l0_1 x17_1).f0)) ∧ w'.cell? ⟨gb105, 1, none⟩ = some (.string ((qj l0_1 x17_1).f1)) ∧ w'.cell? ⟨gb105, 2, none⟩ = some (.string ((qj l0_1 x17_1).f2))) ∧ (w'.heap[gb101]? = some (.cells #[.int .i64 a0_0, .slice (some ad104) l0_1.length c0_1] 68 (0, 0))) ∧ (w'.heap[gb105]? = some (.cells #[.int .i64 ((qj l0_1 x17_1).f0), .string ((qj l0_1 x17_1).f1), .string ((qj l0_1 x17_1).f2)] 148 (0, 0))) ∧ (Below w.heap.size w w')) ?_ ?_
               rotate_left
               ·intro hJ8_12
                refine join_ (σ := Value) 7 bq8 (fun s_ => [(25, s_)]) (fun s_ w' => (w'.cell? ⟨gb105, 0, none⟩ = some (.int .i64 ((qj l0_1 x17_1).f0)) ∧ w'.cell? ⟨gb105, 1, none⟩ = some (.string ((qj l0_1 x17_1).f1)) ∧ w'.cell? ⟨gb105, 2, none⟩ = some (.string ((qj l0_1 x17_1).f2))) ∧ (Kd.R (Kd.int .u8) 5 w' w.heap.size (fun _ => True) s_ y106) ∧ (w'.heap[gb101]? = some (.cells #[.int .i64 a0_0, .slice (some ad104) l0_1.length c0_1] 68 (0, 0))) ∧ (w'.heap[gb105]? = some (.cells #[.int .i64 ((qj l0_1 x17_1).f0), .string ((qj l0_1 x17_1).f1), .string ((qj l0_1 x17_1).f2)] 148 (0, 0))) ∧ (Below w.heap.size w w')) ?_ ?_
                rotate_left
                ·intro hJ4
                 refine join_ (σ := Unit) 7 bq5 (fun s_ => [(29, .string t109)]) (fun s_ w' => (w'.cell? ⟨gb105, 0, none⟩ = some (.int .i64 ((qj l0_1 x17_1).f0)) ∧ w'.cell? ⟨gb105, 1, none⟩ = some (.string ((qj l0_1 x17_1).f1)) ∧ w'.cell? ⟨gb105, 2, none⟩ = some (.string ((qj l0_1 x17_1).f2))) ∧ (w'.heap[gb101]? = some (.cells #[.int .i64 a0_0, .slice (some ad104) l0_1.length c0_1] 68 (0, 0))) ∧ (w'.heap[gb105]? = some (.cells #[.int .i64 ((qj l0_1 x17_1).f0), .string ((qj l0_1 x17_1).f1), .string ((qj l0_1 x17_1).f2)] 148 (0, 0))) ∧ (Below w.heap.size w w')) ?_ ?_
                 rotate_left
                 ·intro hJ8
                  refine two_ (i := 4) (j := 8) (Ni := some 25) (Nj := some 29) bq8 bq5 rfl rfl rfl rfl (two_of HT_.out (by kernel_rfl)) (by decide) (by decide) (fun K hK => ?_) (fun K hK => ?_)
                  ·skip
                   refine Kd.R_lit_step (Kd.int .u8) _ 5 ?hg (N := 25) ?hd (xs := ([((qj l0_1 x17_1).f0) % 256] : List Int)) (inner := [.int .u8 (((qj l0_1 x17_1).f0) % 256)]) (ok := fun _ => True) (okp := fun _ => True) ?hr ?hp (fun _ hk => hk) trivial (Below.refl _ _) (Nat.le_refl _) (by simp) ?_; (case hd => rfl); (case hg => rfl); (case hr => first | (go_simp; done) | (go_simp; rfl)); (case hp => exact (Reps.one (show Kd.M (Kd.int .u8) _ _ _ (((qj l0_1 x17_1).f0) % 256) [.int .u8 (((qj l0_1 x17_1).f0) % 256)] from rfl) (Reps.none _ _)))
                   intro v107 w23 ho24 hb hg_ hnew_
                   clear hg_ hnew_
                   (first | rw [← Ny106.out] at ho24 | (simp only [Int.reduceToNat] at ho24; rw [← Ny106.out] at ho24))
                   have HO108 := Qz.mk (Kd.R_lower ho24 (qr yq56))
                   replace BK101 := Qz.mk (qp (g := gb101) (o := .cells #[.int .i64 a0_0, .slice (some ad104) l0_1.length c0_1] 68 (0, 0)) yq57 hb)
                   replace BK105 := Qz.mk (qp (g := gb105) (o := .cells #[.int .i64 ((qj l0_1 x17_1).f0), .string ((qj l0_1 x17_1).f1), .string ((qj l0_1 x17_1).f2)] 148 (0, 0)) yq58 hb)
                   replace HB := Qz.mk (qm yq56 hb)
                   clear hb ho24
                   refine hK.out _ _ ⟨(qh BK105.out 0).trans rfl, (qh BK105.out 1).trans rfl, (qh BK105.out 2).trans rfl⟩ (fun hHeld => ?_)
                   clear hK K
                   refine norm_ (a' := ?_) ?_ ?_
                   rotate_left
                   ·show Act.put _ (some 25) _ = _
                    simp only [Act.put, sq1, sq2, sq3, i64_w, i32_w]
                    rfl
                   exact norm_ yq60 (hJ4 (v107) _ ⟨hHeld, yq59, yq57, yq58, yq56⟩)
                  ·skip
                   refine goes_ Try.func149 (by kernel_rfl) rfl #[.string ((qj l0_1 x17_1).f1)] (by rfl) rfl rfl yq61 ?_
                   with_reducible refine (impl_PutText.calls k1 ((qj l0_1 x17_1).f1) t109 _ A13.out).mono ?_
                   rintro e w23 ⟨rfl, hb⟩
                   refine ⟨_, rfl, ?_⟩
                   replace BK101 := Qz.mk (qp (g := gb101) (o := .cells #[.int .i64 a0_0, .slice (some ad104) l0_1.length c0_1] 68 (0, 0)) yq57 hb)
                   replace BK105 := Qz.mk (qp (g := gb105) (o := .cells #[.int .i64 ((qj l0_1 x17_1).f0), .string ((qj l0_1 x17_1).f1), .string ((qj l0_1 x17_1).f2)] 148 (0, 0)) yq58 hb)
                   replace HB := Qz.mk (qm yq56 hb)
                   (try clear hb)
                   (try clear hk)
                   refine hK.out _ _ ⟨(qh BK105.out 0).trans rfl, (qh BK105.out 1).trans rfl, (qh BK105.out 2).trans rfl⟩ (fun hHeld => ?_)
                   clear hK K
                   refine norm_ (a' := ?_) ?_ ?_
                   rotate_left
                   ·show Act.put _ (some 29) _ = _
                    simp only [Act.put, sq1, sq2, sq3, i64_w, i32_w]
                    rfl
                   exact norm_ yq60 (hJ8 () _ ⟨hHeld, yq57, yq58, yq56⟩)
                 ·skip
                  rintro _ w24 ⟨hS_, h0_, h1_, h2_⟩
                  have n0_ : Qz (w24.heap[gb101]? = some (.cells #[.int .i64 a0_0, .slice (some ad104) l0_1.length c0_1] 68 (0, 0))) := ⟨h0_⟩
                  have n1_ : Qz (w24.heap[gb105]? = some (.cells #[.int .i64 ((qj l0_1 x17_1).f0), .string ((qj l0_1 x17_1).f1), .string ((qj l0_1 x17_1).f2)] 148 (0, 0))) := ⟨h1_⟩
                  have n2_ : Qz (Below w.heap.size w w24) := ⟨h2_⟩
                  clear BK101
                  clear BK105
                  clear HB
                  clear h0_ h1_ h2_
                  have BK101 := n0_
                  have BK105 := n1_
                  have HB := n2_
                  clear n0_ n1_ n2_
                  have hHeld : w24.cell? ⟨gb105, 0, none⟩ = some (.int .i64 ((qj l0_1 x17_1).f0)) ∧ w24.cell? ⟨gb105, 1, none⟩ = some (.string ((qj l0_1 x17_1).f1)) ∧ w24.cell? ⟨gb105, 2, none⟩ = some (.string ((qj l0_1 x17_1).f2)) := hS_
                  refine norm_ (a' := ?_) ?_ ?_
                  rotate_left
                  ·simp only [putAll, Act.put, sq1, sq2, sq3]
                   rfl
                  refine two_ (i := 4) (j := 12) (Ni := some 25) (Nj := some 33) bq9 bq6 rfl rfl rfl rfl (two_of HT_.out (by kernel_rfl)) (by decide) (by decide) (fun K hK => ?_) (fun K hK => ?_)
                  ·skip
                   refine Kd.R_lit_step (Kd.int .u8) _ 5 ?hg (N := 25) ?hd (xs := ([((qj l0_1 x17_1).f0) % 256] : List Int)) (inner := [.int .u8 (((qj l0_1 x17_1).f0) % 256)]) (ok := fun _ => True) (okp := fun _ => True) ?hr ?hp (fun _ hk => hk) trivial (Below.refl _ _) (Nat.le_refl _) (by simp) ?_; (case hd => rfl); (case hg => rfl); (case hr => first | (go_simp; done) | (go_simp; rfl)); (case hp => exact (Reps.one (show Kd.M (Kd.int .u8) _ _ _ (((qj l0_1 x17_1).f0) % 256) [.int .u8 (((qj l0_1 x17_1).f0) % 256)] from rfl) (Reps.none _ _)))
                   intro v107 w25 ho26 hb hg_ hnew_
                   clear hg_ hnew_
                   (first | rw [← Ny106.out] at ho26 | (simp only [Int.reduceToNat] at ho26; rw [← Ny106.out] at ho26))
                   have HO108 := Qz.mk (Kd.R_lower ho26 (qr yq56))
                   replace BK101 := Qz.mk (qp (g := gb101) (o := .cells #[.int .i64 a0_0, .slice (some ad104) l0_1.length c0_1] 68 (0, 0)) yq57 hb)
                   replace BK105 := Qz.mk (qp (g := gb105) (o := .cells #[.int .i64 ((qj l0_1 x17_1).f0), .string ((qj l0_1 x17_1).f1), .string ((qj l0_1 x17_1).f2)] 148 (0, 0)) yq58 hb)
                   replace HB := Qz.mk (qm yq56 hb)
                   clear hb ho26
                   refine hK.out _ _ ⟨(qh BK105.out 0).trans rfl, (qh BK105.out 1).trans rfl, (qh BK105.out 2).trans rfl⟩ (fun hHeld => ?_)
                   clear hK K
                   refine norm_ (a' := ?_) ?_ ?_
                   rotate_left
                   ·show Act.put _ (some 25) _ = _
                    simp only [Act.put, sq1, sq2, sq3, i64_w, i32_w]
                    rfl
                   exact norm_ yq60 (hJ4_8 (v107) _ ⟨hHeld, yq59, yq57, yq58, yq56⟩)
                  ·skip
                   refine goes_ Try.func149 (by kernel_rfl) rfl #[.string ((qj l0_1 x17_1).f2)] (by rfl) rfl rfl yq61 ?_
                   with_reducible refine (impl_PutText.calls k1 ((qj l0_1 x17_1).f2) t110 _ A15.out).mono ?_
                   rintro e w25 ⟨rfl, hb⟩
                   refine ⟨_, rfl, ?_⟩
                   replace BK101 := Qz.mk (qp (g := gb101) (o := .cells #[.int .i64 a0_0, .slice (some ad104) l0_1.length c0_1] 68 (0, 0)) yq57 hb)
                   replace BK105 := Qz.mk (qp (g := gb105) (o := .cells #[.int .i64 ((qj l0_1 x17_1).f0), .string ((qj l0_1 x17_1).f1), .string ((qj l0_1 x17_1).f2)] 148 (0, 0)) yq58 hb)
                   replace HB := Qz.mk (qm yq56 hb)
                   (try clear hb)
                   (try clear hk)
                   refine hK.out _ _ ⟨(qh BK105.out 0).trans rfl, (qh BK105.out 1).trans rfl, (qh BK105.out 2).trans rfl⟩ (fun hHeld => ?_)
                   clear hK K
                   refine norm_ (a' := ?_) ?_ ?_
                   rotate_left
                   ·show Act.put _ (some 33) _ = _
                    simp only [Act.put, sq1, sq2, sq3, i64_w, i32_w]
                    rfl
                   exact norm_ yq60 (hJ8_12 () _ ⟨hHeld, yq57, yq58, yq56⟩)
                ·skip
                 rintro v107 w25 ⟨hS_, h0_, h1_, h2_, h3_⟩
                 have n0_ : Qz (Kd.R (Kd.int .u8) 5 w25 w.heap.size (fun _ => True) v107 y106) := ⟨h0_⟩
                 have n1_ : Qz (w25.heap[gb101]? = some (.cells #[.int .i64 a0_0, .slice (some ad104) l0_1.length c0_1] 68 (0, 0))) := ⟨h1_⟩
                 have n2_ : Qz (w25.heap[gb105]? = some (.cells #[.int .i64 ((qj l0_1 x17_1).f0), .string ((qj l0_1 x17_1).f1), .string ((qj l0_1 x17_1).f2)] 148 (0, 0))) := ⟨h2_⟩
                 have n3_ : Qz (Below w.heap.size w w25) := ⟨h3_⟩
                 clear BK101
                 clear BK105
                 clear HB
                 clear h0_ h1_ h2_ h3_
                 have HO108 := n0_
                 have BK101 := n1_
                 have BK105 := n2_
                 have HB := n3_
                 clear n0_ n1_ n2_ n3_
                 have hHeld : w25.cell? ⟨gb105, 0, none⟩ = some (.int .i64 ((qj l0_1 x17_1).f0)) ∧ w25.cell? ⟨gb105, 1, none⟩ = some (.string ((qj l0_1 x17_1).f1)) ∧ w25.cell? ⟨gb105, 2, none⟩ = some (.string ((qj l0_1 x17_1).f2)) := hS_
                 refine norm_ (a' := ?_) ?_ ?_
                 rotate_left
                 ·simp only [putAll, Act.put, sq1, sq2, sq3]
                  rfl
                 refine two_ (i := 5) (j := 8) (Ni := some 26) (Nj := some 29) bq16 bq9 rfl rfl rfl rfl (two_of HT_.out (by kernel_rfl)) (by decide) (by decide) (fun K hK => ?_) (fun K hK => ?_)
                 ·skip
                  have hcv26 := own_string (P := Try.prog) Try.underlying42 Try.underlying5 Try.underlying9 (Kd.own_of_R HO108.out)
                  refine value_ (w1 := ?_) (v := ?_) (by rfl) rfl ?_ ?_
                  rotate_left 2
                  ·go_simp
                   constructor
                   ·rfl
                   ·rfl
                  clear hcv26
                  refine hK.out _ _ ⟨(qh BK105.out 0).trans rfl, (qh BK105.out 1).trans rfl, (qh BK105.out 2).trans rfl⟩ (fun hHeld => ?_)
                  clear hK K
                  refine norm_ (a' := ?_) ?_ ?_
                  rotate_left
                  ·show Act.put _ (some 26) _ = _
                   simp only [Act.put, sq1, sq2, sq3, i64_w, i32_w]
                   rfl
                  exact norm_ yq60 (hJ4_5 (v107) _ ⟨hHeld, yq59, yq57, yq58, yq56⟩)
                 ·skip
                  refine goes_ Try.func149 (by kernel_rfl) rfl #[.string ((qj l0_1 x17_1).f1)] (by rfl) rfl rfl yq61 ?_
                  with_reducible refine (impl_PutText.calls k1 ((qj l0_1 x17_1).f1) t109 _ A13.out).mono ?_
                  rintro e w26 ⟨rfl, hb⟩
                  refine ⟨_, rfl, ?_⟩
                  replace HO108 := Qz.mk (Kd.R_below yq59 hb)
                  replace BK101 := Qz.mk (qp (g := gb101) (o := .cells #[.int .i64 a0_0, .slice (some ad104) l0_1.length c0_1] 68 (0, 0)) yq57 hb)
                  replace BK105 := Qz.mk (qp (g := gb105) (o := .cells #[.int .i64 ((qj l0_1 x17_1).f0), .string ((qj l0_1 x17_1).f1), .string ((qj l0_1 x17_1).f2)] 148 (0, 0)) yq58 hb)
                  replace HB := Qz.mk (qm yq56 hb)
                  (try clear hb)
                  (try clear hk)
                  refine hK.out _ _ ⟨(qh BK105.out 0).trans rfl, (qh BK105.out 1).trans rfl, (qh BK105.out 2).trans rfl⟩ (fun hHeld => ?_)
                  clear hK K
                  refine norm_ (a' := ?_) ?_ ?_
                  rotate_left
                  ·show Act.put _ (some 29) _ = _
                   simp only [Act.put, sq1, sq2, sq3, i64_w, i32_w]
                   rfl
                  exact norm_ yq60 (hJ4_8 (v107) _ ⟨hHeld, yq59, yq57, yq58, yq56⟩)
               ·skip
                rintro _ w25 ⟨hS_, h0_, h1_, h2_⟩
                have n0_ : Qz (w25.heap[gb101]? = some (.cells #[.int .i64 a0_0, .slice (some ad104) l0_1.length c0_1] 68 (0, 0))) := ⟨h0_⟩
                have n1_ : Qz (w25.heap[gb105]? = some (.cells #[.int .i64 ((qj l0_1 x17_1).f0), .string ((qj l0_1 x17_1).f1), .string ((qj l0_1 x17_1).f2)] 148 (0, 0))) := ⟨h1_⟩
                have n2_ : Qz (Below w.heap.size w w25) := ⟨h2_⟩
                clear BK101
                clear BK105
                clear HB
                clear h0_ h1_ h2_
                have BK101 := n0_
                have BK105 := n1_
                have HB := n2_
                clear n0_ n1_ n2_
                have hHeld : w25.cell? ⟨gb105, 0, none⟩ = some (.int .i64 ((qj l0_1 x17_1).f0)) ∧ w25.cell? ⟨gb105, 1, none⟩ = some (.string ((qj l0_1 x17_1).f1)) ∧ w25.cell? ⟨gb105, 2, none⟩ = some (.string ((qj l0_1 x17_1).f2)) := hS_
                refine norm_ (a' := ?_) ?_ ?_
                rotate_left
                ·simp only [putAll, Act.put, sq1, sq2, sq3]
                 rfl
                refine one_ (i := 4) (N := some 25) bq10 rfl rfl (one_of HT_.out (by kernel_rfl)) (by decide) (fun K hK => ?_)
                refine Kd.R_lit_step (Kd.int .u8) _ 5 ?hg (N := 25) ?hd (xs := ([((qj l0_1 x17_1).f0) % 256] : List Int)) (inner := [.int .u8 (((qj l0_1 x17_1).f0) % 256)]) (ok := fun _ => True) (okp := fun _ => True) ?hr ?hp (fun _ hk => hk) trivial (Below.refl _ _) (Nat.le_refl _) (by simp) ?_; (case hd => rfl); (case hg => rfl); (case hr => first | (go_simp; done) | (go_simp; rfl)); (case hp => exact (Reps.one (show Kd.M (Kd.int .u8) _ _ _ (((qj l0_1 x17_1).f0) % 256) [.int .u8 (((qj l0_1 x17_1).f0) % 256)] from rfl) (Reps.none _ _)))
                intro v107 w26 ho27 hb hg_ hnew_
                clear hg_ hnew_
                (first | rw [← Ny106.out] at ho27 | (simp only [Int.reduceToNat] at ho27; rw [← Ny106.out] at ho27))
                have HO108 := Qz.mk (Kd.R_lower ho27 (qr yq56))
                replace BK101 := Qz.mk (qp (g := gb101) (o := .cells #[.int .i64 a0_0, .slice (some ad104) l0_1.length c0_1] 68 (0, 0)) yq57 hb)
                replace BK105 := Qz.mk (qp (g := gb105) (o := .cells #[.int .i64 ((qj l0_1 x17_1).f0), .string ((qj l0_1 x17_1).f1), .string ((qj l0_1 x17_1).f2)] 148 (0, 0)) yq58 hb)
                replace HB := Qz.mk (qm yq56 hb)
                clear hb ho27
                refine hK.out _ _ ⟨(qh BK105.out 0).trans rfl, (qh BK105.out 1).trans rfl, (qh BK105.out 2).trans rfl⟩ (fun hHeld => ?_)
                clear hK K
                refine norm_ (a' := ?_) ?_ ?_
                rotate_left
                ·show Act.put _ (some 25) _ = _
                 simp only [Act.put, sq1, sq2, sq3, i64_w, i32_w]
                 rfl
                exact norm_ yq60 (hJ4_8_12 (v107) _ ⟨hHeld, yq59, yq57, yq58, yq56⟩)
              ·skip
               rintro v107 w26 ⟨hS_, h0_, h1_, h2_, h3_⟩
               have n0_ : Qz (Kd.R (Kd.int .u8) 5 w26 w.heap.size (fun _ => True) v107 y106) := ⟨h0_⟩
               have n1_ : Qz (w26.heap[gb101]? = some (.cells #[.int .i64 a0_0, .slice (some ad104) l0_1.length c0_1] 68 (0, 0))) := ⟨h1_⟩
               have n2_ : Qz (w26.heap[gb105]? = some (.cells #[.int .i64 ((qj l0_1 x17_1).f0), .string ((qj l0_1 x17_1).f1), .string ((qj l0_1 x17_1).f2)] 148 (0, 0))) := ⟨h2_⟩
               have n3_ : Qz (Below w.heap.size w w26) := ⟨h3_⟩
               clear BK101
               clear BK105
               clear HB
               clear h0_ h1_ h2_ h3_
               have HO108 := n0_
               have BK101 := n1_
               have BK105 := n2_
               have HB := n3_
               clear n0_ n1_ n2_ n3_
               have hHeld : w26.cell? ⟨gb105, 0, none⟩ = some (.int .i64 ((qj l0_1 x17_1).f0)) ∧ w26.cell? ⟨gb105, 1, none⟩ = some (.string ((qj l0_1 x17_1).f1)) ∧ w26.cell? ⟨gb105, 2, none⟩ = some (.string ((qj l0_1 x17_1).f2)) := hS_
               refine norm_ (a' := ?_) ?_ ?_
               rotate_left
               ·simp only [putAll, Act.put, sq1, sq2, sq3]
                rfl
               refine two_ (i := 5) (j := 12) (Ni := some 26) (Nj := some 33) bq21 bq10 rfl rfl rfl rfl (two_of HT_.out (by kernel_rfl)) (by decide) (by decide) (fun K hK => ?_) (fun K hK => ?_)
               ·skip
                have hcv27 := own_string (P := Try.prog) Try.underlying42 Try.underlying5 Try.underlying9 (Kd.own_of_R HO108.out)
                refine value_ (w1 := ?_) (v := ?_) (by rfl) rfl ?_ ?_
                rotate_left 2
                ·go_simp
                 constructor
                 ·rfl
                 ·rfl
                clear hcv27
                refine hK.out _ _ ⟨(qh BK105.out 0).trans rfl, (qh BK105.out 1).trans rfl, (qh BK105.out 2).trans rfl⟩ (fun hHeld => ?_)
                clear hK K
                refine norm_ (a' := ?_) ?_ ?_
                rotate_left
                ·show Act.put _ (some 26) _ = _
                 simp only [Act.put, sq1, sq2, sq3, i64_w, i32_w]
                 rfl
                refine pure_ (i := 9) (N := some 30) (v := ?_) (a' := ?_) bq25 rfl rfl (qe1 HT_.out (by kernel_rfl)) (fun _ _ _ h => h) (Or.inl ⟨by rfl, ?_⟩) ?_ ?_
                rotate_left
                ·intro w'
                 go_simp
                 with_reducible rfl
                rotate_left
                ·simp only [Act.put, sq1, sq2, sq3, i64_w, i32_w]
                 rfl
                exact norm_ yq60 (hJ4_5_8 (v107) _ ⟨hHeld, yq59, yq57, yq58, yq56⟩)
               ·skip
                refine goes_ Try.func149 (by kernel_rfl) rfl #[.string ((qj l0_1 x17_1).f2)] (by rfl) rfl rfl yq61 ?_
                with_reducible refine (impl_PutText.calls k1 ((qj l0_1 x17_1).f2) t110 _ A15.out).mono ?_
                rintro e w27 ⟨rfl, hb⟩
                refine ⟨_, rfl, ?_⟩
                replace HO108 := Qz.mk (Kd.R_below yq59 hb)
                replace BK101 := Qz.mk (qp (g := gb101) (o := .cells #[.int .i64 a0_0, .slice (some ad104) l0_1.length c0_1] 68 (0, 0)) yq57 hb)
                replace BK105 := Qz.mk (qp (g := gb105) (o := .cells #[.int .i64 ((qj l0_1 x17_1).f0), .string ((qj l0_1 x17_1).f1), .string ((qj l0_1 x17_1).f2)] 148 (0, 0)) yq58 hb)
                replace HB := Qz.mk (qm yq56 hb)
                (try clear hb)
                (try clear hk)
                refine hK.out _ _ ⟨(qh BK105.out 0).trans rfl, (qh BK105.out 1).trans rfl, (qh BK105.out 2).trans rfl⟩ (fun hHeld => ?_)
                clear hK K
                refine norm_ (a' := ?_) ?_ ?_
                rotate_left
                ·show Act.put _ (some 33) _ = _
                 simp only [Act.put, sq1, sq2, sq3, i64_w, i32_w]
                 rfl
                exact norm_ yq60 (hJ4_8_12 (v107) _ ⟨hHeld, yq59, yq57, yq58, yq56⟩)
             ·skip
              rintro v107 w26 ⟨hS_, h0_, h1_, h2_, h3_⟩
              have n0_ : Qz (Kd.R (Kd.int .u8) 5 w26 w.heap.size (fun _ => True) v107 y106) := ⟨h0_⟩
              have n1_ : Qz (w26.heap[gb101]? = some (.cells #[.int .i64 a0_0, .slice (some ad104) l0_1.length c0_1] 68 (0, 0))) := ⟨h1_⟩
              have n2_ : Qz (w26.heap[gb105]? = some (.cells #[.int .i64 ((qj l0_1 x17_1).f0), .string ((qj l0_1 x17_1).f1), .string ((qj l0_1 x17_1).f2)] 148 (0, 0))) := ⟨h2_⟩
              have n3_ : Qz (Below w.heap.size w w26) := ⟨h3_⟩
              clear BK101
              clear BK105
              clear HB
              clear h0_ h1_ h2_ h3_
              have HO108 := n0_
              have BK101 := n1_
              have BK105 := n2_
              have HB := n3_
              clear n0_ n1_ n2_ n3_
              have hHeld : w26.cell? ⟨gb105, 0, none⟩ = some (.int .i64 ((qj l0_1 x17_1).f0)) ∧ w26.cell? ⟨gb105, 1, none⟩ = some (.string ((qj l0_1 x17_1).f1)) ∧ w26.cell? ⟨gb105, 2, none⟩ = some (.string ((qj l0_1 x17_1).f2)) := hS_
              refine norm_ (a' := ?_) ?_ ?_
              rotate_left
              ·simp only [putAll, Act.put, sq1, sq2, sq3]
               rfl
              refine one_ (i := 8) (N := some 29) bq21 rfl rfl (one_of HT_.out (by kernel_rfl)) (by decide) (fun K hK => ?_)
              refine goes_ Try.func149 (by kernel_rfl) rfl #[.string ((qj l0_1 x17_1).f1)] (by rfl) rfl rfl yq61 ?_
              with_reducible refine (impl_PutText.calls k1 ((qj l0_1 x17_1).f1) t109 _ A13.out).mono ?_
              rintro e w27 ⟨rfl, hb⟩
              refine ⟨_, rfl, ?_⟩
              replace HO108 := Qz.mk (Kd.R_below yq59 hb)
              replace BK101 := Qz.mk (qp (g := gb101) (o := .cells #[.int .i64 a0_0, .slice (some ad104) l0_1.length c0_1] 68 (0, 0)) yq57 hb)
              replace BK105 := Qz.mk (qp (g := gb105) (o := .cells #[.int .i64 ((qj l0_1 x17_1).f0), .string ((qj l0_1 x17_1).f1), .string ((qj l0_1 x17_1).f2)] 148 (0, 0)) yq58 hb)
              replace HB := Qz.mk (qm yq56 hb)
              (try clear hb)
              (try clear hk)
              refine hK.out _ _ ⟨(qh BK105.out 0).trans rfl, (qh BK105.out 1).trans rfl, (qh BK105.out 2).trans rfl⟩ (fun hHeld => ?_)
              clear hK K
              refine norm_ (a' := ?_) ?_ ?_
              rotate_left
              ·show Act.put _ (some 29) _ = _
               simp only [Act.put, sq1, sq2, sq3, i64_w, i32_w]
               rfl
              refine pure_ (i := 9) (N := some 30) (v := ?_) (a' := ?_) bq25 rfl rfl (qe1 HT_.out (by kernel_rfl)) (fun _ _ _ h => h) (Or.inl ⟨by rfl, ?_⟩) ?_ ?_
              rotate_left
              ·intro w'
               go_simp
               with_reducible rfl
              rotate_left
              ·simp only [Act.put, sq1, sq2, sq3, i64_w, i32_w]
               rfl
              exact norm_ yq60 (hJ4_5_8 (v107) _ ⟨hHeld, yq59, yq57, yq58, yq56⟩)
            ·skip
             rintro v107 w27 ⟨hS_, h0_, h1_, h2_, h3_⟩
             have n0_ : Qz (Kd.R (Kd.int .u8) 5 w27 w.heap.size (fun _ => True) v107 y106) := ⟨h0_⟩
             have n1_ : Qz (w27.heap[gb101]? = some (.cells #[.int .i64 a0_0, .slice (some ad104) l0_1.length c0_1] 68 (0, 0))) := ⟨h1_⟩
             have n2_ : Qz (w27.heap[gb105]? = some (.cells #[.int .i64 ((qj l0_1 x17_1).f0), .string ((qj l0_1 x17_1).f1), .string ((qj l0_1 x17_1).f2)] 148 (0, 0))) := ⟨h2_⟩
             have n3_ : Qz (Below w.heap.size w w27) := ⟨h3_⟩
             clear BK101
             clear BK105
             clear HB
             clear h0_ h1_ h2_ h3_
             have HO108 := n0_
             have BK101 := n1_
             have BK105 := n2_
             have HB := n3_
             clear n0_ n1_ n2_ n3_
             have hHeld : w27.cell? ⟨gb105, 0, none⟩ = some (.int .i64 ((qj l0_1 x17_1).f0)) ∧ w27.cell? ⟨gb105, 1, none⟩ = some (.string ((qj l0_1 x17_1).f1)) ∧ w27.cell? ⟨gb105, 2, none⟩ = some (.string ((qj l0_1 x17_1).f2)) := hS_
             refine norm_ (a' := ?_) ?_ ?_
             rotate_left
             ·simp only [putAll, Act.put, sq1, sq2, sq3]
              rfl
             refine one_ (i := 5) (N := some 26) #[true, true, true, true, true, true, true, true, true, false, true, true, true, false, false, false] rfl rfl (one_of HT_.out (by kernel_rfl)) (by decide) (fun K hK => ?_)
             have hcv28 := own_string (P := Try.prog) Try.underlying42 Try.underlying5 Try.underlying9 (Kd.own_of_R HO108.out)
             refine value_ (w1 := ?_) (v := ?_) (by rfl) rfl ?_ ?_
             rotate_left 2
             ·go_simp
              constructor
              ·rfl
              ·rfl
             clear hcv28
             refine hK.out _ _ ⟨(qh BK105.out 0).trans rfl, (qh BK105.out 1).trans rfl, (qh BK105.out 2).trans rfl⟩ (fun hHeld => ?_)
             clear hK K
             refine norm_ (a' := ?_) ?_ ?_
             rotate_left
             ·show Act.put _ (some 26) _ = _
              simp only [Act.put, sq1, sq2, sq3, i64_w, i32_w]
              rfl
             refine pure_ (i := 9) (N := some 30) (v := ?_) (a' := ?_) bq28 rfl rfl (qe1 HT_.out (by kernel_rfl)) (fun _ _ _ h => h) (Or.inl ⟨by rfl, ?_⟩) ?_ ?_
             rotate_left
             ·intro w'
              go_simp
              with_reducible rfl
             rotate_left
             ·simp only [Act.put, sq1, sq2, sq3, i64_w, i32_w]
              rfl
             exact norm_ yq60 (hJ4_5_8_12 (v107) _ ⟨hHeld, yq59, yq57, yq58, yq56⟩)
           ·skip
            rintro v107 w27 ⟨hS_, h0_, h1_, h2_, h3_⟩
            have n0_ : Qz (Kd.R (Kd.int .u8) 5 w27 w.heap.size (fun _ => True) v107 y106) := ⟨h0_⟩
            have n1_ : Qz (w27.heap[gb101]? = some (.cells #[.int .i64 a0_0, .slice (some ad104) l0_1.length c0_1] 68 (0, 0))) := ⟨h1_⟩
            have n2_ : Qz (w27.heap[gb105]? = some (.cells #[.int .i64 ((qj l0_1 x17_1).f0), .string ((qj l0_1 x17_1).f1), .string ((qj l0_1 x17_1).f2)] 148 (0, 0))) := ⟨h2_⟩
            have n3_ : Qz (Below w.heap.size w w27) := ⟨h3_⟩
            clear BK101
            clear BK105
            clear HB
            clear h0_ h1_ h2_ h3_
            have HO108 := n0_
            have BK101 := n1_
            have BK105 := n2_
            have HB := n3_
            clear n0_ n1_ n2_ n3_
            have hHeld : w27.cell? ⟨gb105, 0, none⟩ = some (.int .i64 ((qj l0_1 x17_1).f0)) ∧ w27.cell? ⟨gb105, 1, none⟩ = some (.string ((qj l0_1 x17_1).f1)) ∧ w27.cell? ⟨gb105, 2, none⟩ = some (.string ((qj l0_1 x17_1).f2)) := hS_
            refine norm_ (a' := ?_) ?_ ?_
            rotate_left
            ·simp only [putAll, Act.put, sq1, sq2, sq3]
             rfl
            refine one_ (i := 12) (N := some 33) bq28 rfl rfl (one_of HT_.out (by kernel_rfl)) (by decide) (fun K hK => ?_)
            refine goes_ Try.func149 (by kernel_rfl) rfl #[.string ((qj l0_1 x17_1).f2)] (by rfl) rfl rfl yq61 ?_
            with_reducible refine (impl_PutText.calls k1 ((qj l0_1 x17_1).f2) t110 _ A15.out).mono ?_
            rintro e w28 ⟨rfl, hb⟩
            refine ⟨_, rfl, ?_⟩
            replace HO108 := Qz.mk (Kd.R_below yq59 hb)
            replace BK101 := Qz.mk (qp (g := gb101) (o := .cells #[.int .i64 a0_0, .slice (some ad104) l0_1.length c0_1] 68 (0, 0)) yq57 hb)
            replace BK105 := Qz.mk (qp (g := gb105) (o := .cells #[.int .i64 ((qj l0_1 x17_1).f0), .string ((qj l0_1 x17_1).f1), .string ((qj l0_1 x17_1).f2)] 148 (0, 0)) yq58 hb)
            replace HB := Qz.mk (qm yq56 hb)
            (try clear hb)
            (try clear hk)
            refine hK.out _ _ ⟨(qh BK105.out 0).trans rfl, (qh BK105.out 1).trans rfl, (qh BK105.out 2).trans rfl⟩ (fun hHeld => ?_)
            clear hK K
            refine norm_ (a' := ?_) ?_ ?_
            rotate_left
            ·show Act.put _ (some 33) _ = _
             simp only [Act.put, sq1, sq2, sq3, i64_w, i32_w]
             rfl
            exact norm_ yq60 (hJ4_5_8_12 (v107) _ ⟨hHeld, yq59, yq57, yq58, yq56⟩)
          rintro v107 w28 ⟨hS_, h0_, h1_, h2_, h3_⟩
          have n0_ : Qz (Kd.R (Kd.int .u8) 5 w28 w.heap.size (fun _ => True) v107 y106) := ⟨h0_⟩
          have n1_ : Qz (w28.heap[gb101]? = some (.cells #[.int .i64 a0_0, .slice (some ad104) l0_1.length c0_1] 68 (0, 0))) := ⟨h1_⟩
          have n2_ : Qz (w28.heap[gb105]? = some (.cells #[.int .i64 ((qj l0_1 x17_1).f0), .string ((qj l0_1 x17_1).f1), .string ((qj l0_1 x17_1).f2)] 148 (0, 0))) := ⟨h2_⟩
          have n3_ : Qz (Below w.heap.size w w28) := ⟨h3_⟩
          clear BK101
          clear BK105
          clear HB
          clear h0_ h1_ h2_ h3_
          have HO108 := n0_
          have BK101 := n1_
          have BK105 := n2_
          have HB := n3_
          clear n0_ n1_ n2_ n3_
          have hHeld : w28.cell? ⟨gb105, 0, none⟩ = some (.int .i64 ((qj l0_1 x17_1).f0)) ∧ w28.cell? ⟨gb105, 1, none⟩ = some (.string ((qj l0_1 x17_1).f1)) ∧ w28.cell? ⟨gb105, 2, none⟩ = some (.string ((qj l0_1 x17_1).f2)) := hS_
          refine norm_ (a' := ?_) ?_ ?_
          rotate_left
          ·simp only [putAll, Act.put, sq1, sq2, sq3]
           rfl
          refine pure_ (i := 13) (N := some 34) (v := ?_) (a' := ?_) #[true, true, true, true, true, true, true, true, true, true, true, true, true, true, false, false] rfl rfl (qe1 HT_.out (by kernel_rfl)) (fun _ _ _ h => h) (Or.inl ⟨by rfl, ?_⟩) ?_ ?_
          rotate_left
          ·intro w'
           go_simp
           with_reducible rfl
          rotate_left
          ·simp only [Act.put, sq1, sq2, sq3, i64_w, i32_w]
           rfl
          refine pure_ (i := 14) (N := some 35) (v := ?_) (a' := ?_) #[true, true, true, true, true, true, true, true, true, true, true, true, true, true, true, false] rfl rfl (qe1 HT_.out (by kernel_rfl)) (fun _ _ _ h => h) (Or.inl ⟨by rfl, ?_⟩) ?_ ?_
          rotate_left
          ·intro w'
           go_simp
           with_reducible rfl
          rotate_left
          ·simp only [Act.put, sq1, sq2, sq3, i64_w, i32_w]
           rfl
          refine pure_ (i := 15) (N := some 3) (v := ?_) (a' := ?_) #[true, true, true, true, true, true, true, true, true, true, true, true, true, true, true, true] rfl rfl (qe1 HT_.out (by kernel_rfl)) (fun _ _ _ h => h) (Or.inl ⟨by rfl, ?_⟩) ?_ ?_
          rotate_left
          ·intro w'
           go_simp
           with_reducible rfl
          rotate_left
          ·simp only [Act.put, sq1, sq2, sq3, i64_w, i32_w]
           rfl
          refine done_ (done_of HT_.out (by kernel_rfl)) ?_
          try go_wp2
          go_roundg k1
          case measure => have := HK1.out; omega
          case rel => exact ⟨(x3_1 ++ (((strOfNums y106) ++ t109) ++ t110)), (wrap64 (x17_1 + 1)), (by first | rfl | (simp; done) | (simp [*]; done)), (by first | rfl | (simp; done) | (simp [*]; done)), H', ⟨by have := HK1.out; omega⟩, ⟨by (with_reducible repeat (first | refine qe ?_ _ | refine qg ?_ | refine qf ?_ _)); exact BK101.out⟩, ⟨by repeat (first | (with_reducible first | exact HB.out | apply qc | apply qa | apply qb | refine qd ?_ GE101.out | refine qd ?_ GE105.out) | exact HB.out)⟩⟩
         ·rw [if_neg c17] at H
          exact absurd H (by simp)
        ·rw [if_neg c16] at H
         exact absurd H (by simp)
       ·rw [if_neg c14] at H
        exact absurd H (by simp)
      ·rw [if_neg c12] at H
       exact absurd H (by simp)
     ·rw [if_neg c11] at H
      exact absurd H (by simp)
    ·rw [if_neg c10] at H
     have c10b0 : decide (x17_1 < (l0_1.length : Int)) = false := decide_eq_false c10
     clear c10
     obtain rfl := Option.some.inj H
     go_wp2
     go_ret
     exact ⟨by first | rfl | (simp [qo, qn] <;> rfl) | (simp [*, qo, qn] <;> rfl), by repeat (first | (with_reducible first | exact HB.out | apply qc | apply qa | apply qb | refine qd ?_ GE101.out) | exact HB.out)⟩
 ·rw [if_neg c4] at H
  exact absurd H (by simp)
def impl_BatchOk_1.f (a0_0 : ByteArray) (a0_1 : Int) (a0_2 : Int) (a0_3 : ByteArray) : Option (Bool) := (impl_EntryOk.f a0_0 a0_1 a0_2 a0_3).bind fun t102 => (some (!t102))
set_option maxHeartbeats 8000000 in
set_option maxRecDepth 100000 in
theorem impl_BatchOk_1.calls (a0_0 : ByteArray) (a0_1 : Int) (a0_2 : Int) (a0_3 : ByteArray) (r : Bool) (w : World) (h : impl_BatchOk_1.f a0_0 a0_1 a0_2 a0_3 = some r) :
  Calls Try.prog 116 #[.agg #[.string a0_0, .int .i64 a0_1, .int .i64 a0_2, .string a0_3]] w fun e w' => e = .returned (.bool r) ∧ Below w.heap.size w w' := by
 have hu64 := Try.underlying64
 have HB := Qz.mk (Below.refl w.heap.size w)
 have H : ((impl_EntryOk.f a0_0 a0_1 a0_2 a0_3).bind fun t102 => (some (!t102))) = some r := h
 clear h
 replace H := Option.bind_eq_some_iff.mp H
 obtain ⟨t102, A20, H⟩ := H
 replace H : (some (!t102)) = some r := H
 have A2 := Qz.mk A20
 clear A20
 obtain rfl := Option.some.inj H
 go_enter Try.func116, Try.ntmps116
 go_wp2_with (first | ((with_reducible refine qg1 (N := 1) rfl ?_); refine qf1 ?hg (N := 1) ?hd (cs := #[.string a0_0, .int .i64 a0_1, .int .i64 a0_2, .string a0_3]) (t := 64) ?hr ?_; (case hd => rfl); (case hg => rfl); (case hr => first | (go_simp; done) | (go_simp; rfl)); intro gb101 hg w3 hbox hb; have BK101 := Qz.mk (hbox); have GW101 := Qz.mk ((by rw [hg]; exact (qr (by repeat (first | (with_reducible first | exact HB.out | apply qc | apply qa | apply qb) | exact HB.out))) : w.heap.size ≤ gb101)); have GE101 := GW101; replace HB := Qz.mk (qm (by repeat (first | (with_reducible first | exact HB.out | apply qc | apply qa | apply qb) | exact HB.out)) hb); clear hb hbox hg; have hcz4_0 : w3.cell? ⟨gb101, 0, none⟩ = some (.string a0_0) := (qh BK101.out 0).trans rfl; have hcz4_1 : w3.cell? ⟨gb101, 1, none⟩ = some (.int .i64 a0_1) := (qh BK101.out 1).trans rfl; have hcz4_2 : w3.cell? ⟨gb101, 2, none⟩ = some (.int .i64 a0_2) := (qh BK101.out 2).trans rfl; have hcz4_3 : w3.cell? ⟨gb101, 3, none⟩ = some (.string a0_3) := (qh BK101.out 3).trans rfl; have hfz4_0 := qi BK101.out 0; have hfz4_1 := qi BK101.out 1; have hfz4_2 := qi BK101.out 2; have hfz4_3 := qi BK101.out 3) | ((with_reducible refine ql (f := 108) rfl ?_); refine qy (some 4) rfl rfl Try.func108 (by kernel_rfl) rfl #[.agg #[.string a0_0, .int .i64 a0_1, .int .i64 a0_2, .string a0_3]] rfl (by (try simp only [List.map_toArray, List.map_cons, List.map_nil]); first | done | rfl) ?_; (with_reducible refine (impl_EntryOk.calls a0_0 a0_1 a0_2 a0_3 t102 _ A2.out).mono ?_); rintro e w5 ⟨rfl, hb⟩; refine ⟨_, rfl, ?_⟩; replace BK101 := Qz.mk (qp (g := gb101) (o := .cells #[.string a0_0, .int .i64 a0_1, .int .i64 a0_2, .string a0_3] 64 (0, 0)) (by (with_reducible repeat (first | refine qe ?_ _ | refine qg ?_ | refine qf ?_ _)); exact BK101.out) hb); replace HB := Qz.mk (qm (by repeat (first | (with_reducible first | exact HB.out | apply qc | apply qa | apply qb | refine qd ?_ GE101.out) | exact HB.out)) hb); (try clear hb)))
 go_ret
 exact ⟨by first | rfl | (simp [qo, qn] <;> rfl) | (simp [*, qo, qn] <;> rfl), by repeat (first | (with_reducible first | exact HB.out | apply qc | apply qa | apply qb | refine qd ?_ GE101.out) | exact HB.out)⟩
end Go.Proofs.Ytidjdkodgddfcaa.P
end

section
namespace Go.Proofs.Ytidjdkodgddfcaa.P
open Go.RowKit Go.Proofs.YtidjdkodgddfcaaW.PrintWords Go.Proofs.YtidjdkodgddfcaaW.PrintLast Go.Proofs.YtidjdkodgddfcaaW.PrintMore
attribute [local go_sem] qi1 qh1 qj1 qd1 qb1 ql1 qk1 qx qw qc1 qa1
set_option linter.unusedVariables false
set_option linter.unusedSimpArgs false
def idxf {α : Type} (p : α → Bool) : List α → Nat → Int
  | [], _ => -1
  | x :: xs, i => if p x = true then (i : Int) else idxf p xs (i + 1)
theorem idxf_hit {α : Type} (p : α → Bool) (d : α) : ∀ (l : List α) (k i : Nat), k < l.length → p (l.getD k d) = true → (∀ j, j < k → p (l.getD j d) = false) → idxf p l i = ((i + k : Nat) : Int)
  | [], _, _, h, _, _ => absurd h (Nat.not_lt_zero _)
  | x :: xs, 0, i, _, h, _ => by
    have : p x = true := by simpa using h
    simp [idxf, this]
  | x :: xs, k + 1, i, hk, h, hn => by
    have h0 : p x = false := by simpa using hn 0 (Nat.succ_pos _)
    simp only [idxf, h0, Bool.false_eq_true, if_false]
    rw [idxf_hit p d xs k (i + 1) (by simpa using hk) (by simpa using h) (fun j hj => by simpa using hn (j + 1) (by omega))]
    congr 1
    omega
theorem idxf_miss {α : Type} (p : α → Bool) (d : α) : ∀ (l : List α) (i : Nat), (∀ j, j < l.length → p (l.getD j d) = false) → idxf p l i = -1
  | [], _, _ => rfl
  | x :: xs, i, hn => by
    have h0 : p x = false := by simpa using hn 0 (by simp)
    simp only [idxf, h0, Bool.false_eq_true, if_false]
    exact idxf_miss p d xs (i + 1) (fun j hj => by simpa using hn (j + 1) (by simpa using hj))
theorem idxf_any {α : Type} (p : α → Bool) : ∀ (l : List α) (i : Nat), decide (0 ≤ idxf p l i) = l.any p
  | [], _ => rfl
  | x :: xs, i => by
    cases h : p x with
    | true => simp [idxf, h]
    | false =>
      simp only [idxf, h, Bool.false_eq_true, if_false, List.any_cons, Bool.false_or]
      exact idxf_any p xs (i + 1)
set_option maxHeartbeats 2000000 in
theorem indexFunc_Entry.calls (g : Nat) (lb : Array Value) (p : S64 → Bool) (A : Option Addr) (c : Nat) (l : List S64) (w : World) (hr : Kd.C k64 w A l.length l)
    (eg : ∀ args w, (callFunc g args).run Try.prog w = .ok (.enter g args) w)
    (hp : ∀ (x : S64) (W : World), Below w.heap.size w W → Calls Try.prog g (#[.agg #[.string x.f0.f0, .int .i64 x.f0.f1, .int .i64 x.f0.f2, .string x.f1]] ++ lb) W fun e w' => e = .returned (.bool (p x)) ∧ Below w.heap.size w w') :
    Calls Try.prog 167 #[.slice A l.length c, .func (.func g) #[] lb] w fun e w' => e = .returned (.int .i64 (idxf p l 0)) ∧ Below w.heap.size w w' := by
  have hlm := Kd.C_max hr
  have HR := Qz.mk hr
  clear hr
  go_enter Try.func167, Try.ntmps167
  go_wp2
  go_loopg [5, 8] l.length (fun gg _ s8 wr => ∃ i : Int, 0 ≤ i ∧ i ≤ l.length ∧ (l.length : Int) - i ≤ gg ∧ s8 = .int .i64 i ∧ Qz (Below w.heap.size w wr) ∧ Qz (∀ j : Nat, (j : Int) < i → p (l.getD j z64) = false))
  case atStart => exact ⟨0, by omega, by omega, by omega, rfl, ⟨Below.refl _ w⟩, ⟨fun j hj => absurd hj (by omega)⟩⟩
  case round =>
    obtain ⟨i, hi0, hi1, hg, rfl, BW, AN⟩ := hrel
    by_cases hlt : i < (l.length : Int)
    · obtain ⟨k1, rfl⟩ : ∃ m, gk = m + 1 := ⟨gk - 1, by omega⟩
      have hd : decide (i < (l.length : Int)) = true := decide_eq_true hlt
      obtain ⟨ad, e, h0, h1, h2, h3⟩ := at_T64 HR.out i hi0 hlt
      cases e
      replace h0 := (BW.out.cell (World.block_lt_of_cell? w _ h0)).trans h0
      replace h1 := (BW.out.cell (World.block_lt_of_cell? w _ h1)).trans h1
      replace h2 := (BW.out.cell (World.block_lt_of_cell? w _ h2)).trans h2
      replace h3 := (BW.out.cell (World.block_lt_of_cell? w _ h3)).trans h3
      have hcall := hp (qq l i) wr BW.out
      clear hp
      have HX : Qz (qq l i = l.getD i.toNat z64) := ⟨rfl⟩
      generalize qq l i = x at h0 h1 h2 h3 hcall HX
      cases hq : p x with
      | true =>
        rw [hq] at hcall
        have HQ := Qz.mk hq
        clear hq
        go_wp2_with fail
        (with_reducible refine hcall.mono ?_)
        rintro e w' ⟨rfl, hb'⟩
        go_wp2
        go_ret
        refine ⟨?_, hb'⟩
        show Ending.returned (.int .i64 i) = _
        rw [idxf_hit p z64 l i.toNat 0 (by omega) (by rw [← HX.out]; exact HQ.out) (fun j hj => AN.out j (by omega))]
        rw [show (((0 + i.toNat : Nat)) : Int) = i from by omega]
      | false =>
        rw [hq] at hcall
        have HQ := Qz.mk hq
        clear hq
        go_wp2_with fail
        (with_reducible refine hcall.mono ?_)
        rintro e w' ⟨rfl, hb'⟩
        go_wp2
        go_roundg k1
        case measure => omega
        case rel =>
          refine ⟨i + 1, by omega, by omega, by omega, by first | rfl | go_num, ⟨hb'⟩, ⟨fun j hj => ?_⟩⟩
          by_cases e : (j : Int) = i
          · subst e
            rw [← show x = l.getD j z64 from HX.out]
            exact HQ.out
          · exact AN.out j (by omega)
    · have hd : decide (i < (l.length : Int)) = false := decide_eq_false hlt
      go_wp2
      all_goals
        go_ret
        refine ⟨?_, BW.out⟩
        rw [idxf_miss p z64 l 0 (fun j hj => AN.out j (by omega))]
        rfl
set_option maxHeartbeats 1000000 in
theorem containsFunc_Entry.calls (g : Nat) (lb : Array Value) (p : S64 → Bool) (A : Option Addr) (c : Nat) (l : List S64) (w : World) (hr : Kd.C k64 w A l.length l)
    (eg : ∀ args w, (callFunc g args).run Try.prog w = .ok (.enter g args) w)
    (hp : ∀ (x : S64) (W : World), Below w.heap.size w W → Calls Try.prog g (#[.agg #[.string x.f0.f0, .int .i64 x.f0.f1, .int .i64 x.f0.f2, .string x.f1]] ++ lb) W fun e w' => e = .returned (.bool (p x)) ∧ Below w.heap.size w w') :
    Calls Try.prog 114 #[.slice A l.length c, .func (.func g) #[] lb] w fun e w' => e = .returned (.bool (l.any p)) ∧ Below w.heap.size w w' := by
  rw [← idxf_any p l 0]
  have hcall := indexFunc_Entry.calls g lb p A c l w hr eg hp
  clear hr hp
  generalize idxf p l 0 = r at hcall ⊢
  go_enter Try.func114, Try.ntmps114
  go_wp2_with fail
  (with_reducible refine hcall.mono ?_)
  rintro e w' ⟨rfl, hb'⟩
  go_wp2
  go_ret
  exact ⟨rfl, hb'⟩
end Go.Proofs.Ytidjdkodgddfcaa.P
end

section
namespace Go.Proofs.Ytidjdkodgddfcaa.P
open Go.RowKit Go.Proofs.YtidjdkodgddfcaaW.PrintWords Go.Proofs.YtidjdkodgddfcaaW.PrintLast Go.Proofs.YtidjdkodgddfcaaW.PrintMore
attribute [local go_sem] qi1 qh1 qj1 qd1 qb1 ql1 qk1 qx qw qc1 qa1
set_option linter.unusedVariables false
set_option linter.unusedSimpArgs false
def containsFunc_notEntryOk.p (x : S64) : Bool := (impl_BatchOk_1.f x.f0.f0 x.f0.f1 x.f0.f2 x.f1).getD false
theorem containsFunc_notEntryOk.p_eq (x : S64) : impl_BatchOk_1.f x.f0.f0 x.f0.f1 x.f0.f2 x.f1 = some (containsFunc_notEntryOk.p x) := by
  have h : ∃ b, impl_BatchOk_1.f x.f0.f0 x.f0.f1 x.f0.f2 x.f1 = some b := by
    unfold impl_BatchOk_1.f impl_EntryOk.f impl_KeyOk.f impl_isUser.f impl_within.f; repeat' (first | exact ⟨_, rfl⟩ | split | (simp only [Option.bind_some]))
  obtain ⟨b, hb⟩ := h
  rw [containsFunc_notEntryOk.p, hb]
  rfl
def containsFunc_notEntryOk.f (l0 : List S64) : Option (Bool) := some (l0.any containsFunc_notEntryOk.p)
theorem containsFunc_notEntryOk.calls (A0 : Option Addr) (c0 : Nat) (l0 : List S64) (r : Bool) (w : World) (hr0 : Kd.C k64 w A0 l0.length l0) (hc0 : l0.length ≤ c0) (h : containsFunc_notEntryOk.f l0 = some r) :
    Calls Try.prog 114 #[.slice A0 l0.length c0, .func (.func 116) #[] #[]] w fun e w' => e = .returned (.bool r) ∧ Below w.heap.size w w' := by
  obtain rfl := Option.some.inj h
  refine containsFunc_Entry.calls 116 #[] containsFunc_notEntryOk.p A0 c0 l0 w hr0 (fun args w => by kernel_rfl) (fun x W hb => ?_)
  refine (impl_BatchOk_1.calls (x.f0.f0) (x.f0.f1) (x.f0.f2) (x.f1) (containsFunc_notEntryOk.p x) W (containsFunc_notEntryOk.p_eq x)).mono ?_
  rintro e w' ⟨rfl, hb'⟩
  exact ⟨rfl, hb.trans (hb'.mono hb.size)⟩
theorem yq63 {P : Prop} (h : P := by repeat (first | (with_reducible first | exact HB.out | apply qc | apply qa | apply qb | refine qd ?_ GE101.out) | exact HB.out)) : P := h
theorem yq64 {P : Prop} (h : P := by (with_reducible repeat (first | refine qe ?_ _ | refine qg ?_ | refine qf ?_ _)); exact BK101.out) : P := h
def impl_Batch_entries.l0 : Nat → List (S64) → List (S148) → Int → Int → Int → List (S148) → Option ((List (S64)))
 | 0, _, _, _, _, _, _ => none
 | k + 1, x3, x8, x9, x10, x102000, x102001 => if x10 < x9 then (if 0 ≤ x10 then (if x10 < (x8.length : Int) then (if x3.length < 2932031007402 then (impl_Batch_entries.l0 k (x3 ++ [(⟨(⟨(qj x8 x10).f1, wrap64 (x102000 + x10), (qj x8 x10).f0⟩ : S35), (qj x8 x10).f2⟩ : S64)]) x8 x9 (wrap64 (x10 + 1)) x102000 x102001) else (none)) else (none)) else (none)) else (some x3)
def impl_Batch_entries.f (k : Nat) (a0_0 : Int) (l0_1 : List (S148)) : Option ((List (S64))) := impl_Batch_entries.l0 k (([] : List (S64))) l0_1 (l0_1.length : Int) 0 a0_0 l0_1
set_option maxHeartbeats 8000000 in
set_option maxRecDepth 100000 in
theorem impl_Batch_entries.calls (k : Nat) (a0_0 : Int) (A0_1 : Option Addr) (c0_1 : Nat) (l0_1 : List (S148)) (r : List (S64)) (w : World) (hr0_1 : Kd.C k148 w A0_1 l0_1.length l0_1) (hc0_1 : l0_1.length ≤ c0_1) (h : impl_Batch_entries.f k a0_0 l0_1 = some r) :
  Calls Try.prog 115 #[.agg #[.int .i64 a0_0, .slice A0_1 l0_1.length c0_1]] w fun e w' => ∃ v0_ : Value, e = .returned (v0_) ∧ Kd.R k64 64 w' w.heap.size (fun _ => True) v0_ r ∧ Below w.heap.size w w' := by
 have hu68 := Try.underlying68
 have hu148 := Try.underlying148
 have hu35 := Try.underlying35
 have hu64 := Try.underlying64
 have HR0_1 := Qz.mk hr0_1
 have HC0_1 := Qz.mk hc0_1
 clear hr0_1 hc0_1
 have HB := Qz.mk (Below.refl w.heap.size w)
 have H : (impl_Batch_entries.l0 k (([] : List (S64))) l0_1 (l0_1.length : Int) 0 a0_0 l0_1) = some r := h
 clear h
 obtain ⟨y102, hy102⟩ : ∃ y_ : List (S64), y_ = (([] : List (S64))) := ⟨_, rfl⟩
 replace H : (impl_Batch_entries.l0 k y102 l0_1 (l0_1.length : Int) 0 a0_0 l0_1) = some r := by first | (rw [hy102]; with_reducible exact H) | (have H2_ := (Option.bind_some _ _).symm.trans H; rw [hy102]; with_reducible exact H2_) | (have H2_ := (Option.bind_some _ _).symm.trans H; with_reducible exact H2_) | with_reducible exact H | (rw [hy102]; exact H) | exact H
 have Ny102 := Qz.mk hy102
 clear hy102
 have H' := Qz.mk H
 clear H
 go_enter Try.func115, Try.ntmps115
 go_wp2_with (first | ((with_reducible refine qg1 (N := 1) rfl ?_); refine qf1 ?hg (N := 1) ?hd (cs := #[.int .i64 a0_0, .slice A0_1 l0_1.length c0_1]) (t := 68) ?hr ?_; (case hd => rfl); (case hg => rfl); (case hr => first | (go_simp; done) | (go_simp; rfl)); intro gb101 hg w2 hbox hb; have BK101 := Qz.mk (hbox); have GW101 := Qz.mk ((by rw [hg]; exact (qr (by repeat (first | (with_reducible first | exact HB.out | apply qc | apply qa | apply qb) | exact HB.out))) : w.heap.size ≤ gb101)); have GE101 := GW101; replace HB := Qz.mk (qm (by repeat (first | (with_reducible first | exact HB.out | apply qc | apply qa | apply qb) | exact HB.out)) hb); clear hb hbox hg) | ((with_reducible refine qg1 (N := 6) rfl ?_); refine Kd.R_lit k64 _ 64 ?hg (N := 6) ?hd (xs := ([] : List (S64))) (inner := []) (ok := fun _ => True) (okp := fun _ => True) ?hr ?hp (fun _ hk => hk) trivial (Below.refl _ _) (Nat.le_refl _) (by simp) ?_; (case hd => rfl); (case hg => rfl); (case hr => first | (go_simp; done) | (go_simp; rfl)); (case hp => exact (Reps.none _ _)); intro v103 w3 ho4 hb hg_ hnew_; clear hg_ hnew_; (first | rw [← Ny102.out] at ho4 | (simp only [Int.reduceToNat] at ho4; rw [← Ny102.out] at ho4)); have HO104 := Qz.mk (Kd.R_lower ho4 (qr yq63)); replace BK101 := Qz.mk (qp (g := gb101) (o := .cells #[.int .i64 a0_0, .slice A0_1 l0_1.length c0_1] 68 (0, 0)) yq64 hb); replace HB := Qz.mk (qm yq63 hb); clear hb ho4; have hcz5_0 : w3.cell? ⟨gb101, 0, none⟩ = some (.int .i64 a0_0) := (qh BK101.out 0).trans rfl; have hcz5_1 : w3.cell? ⟨gb101, 1, none⟩ = some (.slice A0_1 l0_1.length c0_1) := (qh BK101.out 1).trans rfl; have hfz5_0 := qi BK101.out 0; have hfz5_1 := qi BK101.out 1))
 go_loopg [3, 10] k (fun kq v3 v10 w' => ∃ (x3_1 : List (S64)) (x10_1 : Int), v10 = .int .i64 x10_1 ∧ Qz (impl_Batch_entries.l0 kq x3_1 l0_1 (l0_1.length : Int) x10_1 a0_0 l0_1 = some r) ∧ Qz (kq ≤ k) ∧ Qz (Kd.R k64 64 w' w.heap.size (fun _ => True) v3 x3_1) ∧ Qz (w'.heap[gb101]? = some (.cells #[.int .i64 a0_0, (.slice A0_1 l0_1.length c0_1)] 68 (0, 0))) ∧ Qz (Below w.heap.size w w'))
 case atStart => exact ⟨(y102), (0), (by first | rfl | (simp; done) | (simp [*]; done)), H', ⟨Nat.le_refl _⟩, ⟨by (with_reducible repeat (first | apply Kd.R_alloc | apply Kd.R_drewN | apply Kd.R_drew)); exact HO104.out⟩, ⟨by (with_reducible repeat (first | refine qe ?_ _ | refine qg ?_ | refine qf ?_ _)); exact BK101.out⟩, ⟨by repeat (first | (with_reducible first | exact HB.out | apply qc | apply qa | apply qb | refine qd ?_ GE101.out) | exact HB.out)⟩⟩
 case round =>
  clear H'
  try clear c1
  try clear p2
  try clear hcz5_0
  try clear hcz5_1
  try clear hfz5_0
  try clear hfz5_1
  obtain ⟨x3_1, x10_1, rfl, HA, HK1, HO_3, BK101, HB⟩ := hrel
  cases gk with
  | zero => exact absurd HA.out (by simp [impl_Batch_entries.l0])
  | succ k1 =>
   have H := HA.out
   clear HA
   simp only [impl_Batch_entries.l0] at H
   by_cases c6 : x10_1 < (l0_1.length : Int)
   ·rw [if_pos c6] at H
    have c6b0 : decide (x10_1 < (l0_1.length : Int)) = true := decide_eq_true c6
    clear c6
    by_cases c7 : 0 ≤ x10_1
    ·rw [if_pos c7] at H
     have c7b0 : decide (0 ≤ x10_1) = true := decide_eq_true c7
     clear c7
     by_cases c8 : x10_1 < (l0_1.length : Int)
     ·rw [if_pos c8] at H
      have c8b0 : decide (x10_1 < (l0_1.length : Int)) = true := decide_eq_true c8
      clear c8
      by_cases c9 : x3_1.length < 2932031007402
      ·rw [if_pos c9] at H
       have LMc9 := Qz.mk c9
       clear c9
       obtain ⟨y107, hy107⟩ : ∃ y_ : List (S64), y_ = (x3_1 ++ [(⟨(⟨(qj l0_1 x10_1).f1, wrap64 (a0_0 + x10_1), (qj l0_1 x10_1).f0⟩ : S35), (qj l0_1 x10_1).f2⟩ : S64)]) := ⟨_, rfl⟩
       replace H : (impl_Batch_entries.l0 k1 y107 l0_1 (l0_1.length : Int) (wrap64 (x10_1 + 1)) a0_0 l0_1) = some r := by first | (rw [hy107]; with_reducible exact H) | (have H2_ := (Option.bind_some _ _).symm.trans H; rw [hy107]; with_reducible exact H2_) | (have H2_ := (Option.bind_some _ _).symm.trans H; with_reducible exact H2_) | with_reducible exact H | (rw [hy107]; exact H) | exact H
       have Ny107 := Qz.mk hy107
       clear hy107
       have H' := Qz.mk H
       clear H
       have p105 : 0 ≤ (x10_1 : Int) := of_decide_eq_true (by first | (with_reducible assumption) | assumption)
       have q105 : x10_1 < (l0_1.length : Int) := of_decide_eq_true (by first | (with_reducible assumption) | assumption)
       obtain ⟨ad105, e105, hx105_0, hx105_1, hx105_2⟩ := at_T148 HR0_1.out x10_1 p105 q105
       cases e105
       replace hx105_0 := (HB.out.cell (World.block_lt_of_cell? w _ hx105_0)).trans hx105_0
       replace hx105_1 := (HB.out.cell (World.block_lt_of_cell? w _ hx105_1)).trans hx105_1
       replace hx105_2 := (HB.out.cell (World.block_lt_of_cell? w _ hx105_2)).trans hx105_2
       replace p105 := eq_true p105
       replace q105 := eq_true q105
       go_wp2_with (first | ((with_reducible refine qg1 (N := 5) rfl ?_); refine qf1 ?hg (N := 5) ?hd (cs := #[.int .i64 0, .string (⟨#[]⟩ : ByteArray), .string (⟨#[]⟩ : ByteArray)]) (t := 148) ?hr ?_; (case hd => rfl); (case hg => rfl); (case hr => first | (go_simp; done) | (go_simp; rfl)); intro gb106 hg w10 hbox hb; replace HO_3 := Qz.mk (Kd.R_below (by (with_reducible repeat (first | apply Kd.R_alloc | apply Kd.R_drewN | apply Kd.R_drew)); exact HO_3.out) hb); have BK106 := Qz.mk (hbox); have GW106 := Qz.mk ((by rw [hg]; exact (qr yq63) : w.heap.size ≤ gb106)); have GE106 := GW106; replace HB := Qz.mk (qm yq63 hb); have NB101_106 := Qz.mk ((by rw [hg]; exact Nat.ne_of_lt (blk_lt (g := gb101) (o := .cells #[.int .i64 a0_0, .slice (some ad105) l0_1.length c0_1] 68 (0, 0)) yq64) : gb101 ≠ gb106)); have NB106_101 := Qz.mk ((by rw [hg]; exact Nat.ne_of_gt (blk_lt (g := gb101) (o := .cells #[.int .i64 a0_0, .slice (some ad105) l0_1.length c0_1] 68 (0, 0)) yq64) : gb106 ≠ gb101)); replace BK101 := Qz.mk (qp (g := gb101) (o := .cells #[.int .i64 a0_0, .slice (some ad105) l0_1.length c0_1] 68 (0, 0)) yq64 hb); clear hb hbox hg; have hnb11 := NB106_101.out; have hnc11 := NB101_106.out; have hcz12_0 : w10.cell? ⟨gb106, 0, none⟩ = some (.int .i64 0) := (qh BK106.out 0).trans rfl; have hcz12_1 : w10.cell? ⟨gb106, 1, none⟩ = some (.string (⟨#[]⟩ : ByteArray)) := (qh BK106.out 1).trans rfl; have hcz12_2 : w10.cell? ⟨gb106, 2, none⟩ = some (.string (⟨#[]⟩ : ByteArray)) := (qh BK106.out 2).trans rfl; have hfz12_0 := qi BK106.out 0; have hfz12_1 := qi BK106.out 1; have hfz12_2 := qi BK106.out 2; have hcz13_0 : w10.cell? ⟨gb101, 0, none⟩ = some (.int .i64 a0_0) := (qh BK101.out 0).trans rfl; have hcz13_1 : w10.cell? ⟨gb101, 1, none⟩ = some (.slice (some ad105) l0_1.length c0_1) := (qh BK101.out 1).trans rfl; have hfz13_0 := qi BK101.out 0; have hfz13_1 := qi BK101.out 1) | ((with_reducible refine gate_builtin (b := .append) (xs := #[.tmp 15, .tmp 28]) rfl ?_); at_builtin; refine Kd.R_append k64 (w0 := w) w.heap.size rfl (.tmp 15) (.tmp 28) 26 64 (.agg #[(.string ⟨#[]⟩), (.int .i64 0), (.int .i64 0), (.string ⟨#[]⟩)]) 48 rfl Try.underlying26 info64 rfl (by decide) (by omega) u3 x3_1 (⟨(⟨(qj l0_1 x10_1).f1, wrap64 (a0_0 + x10_1), (qj l0_1 x10_1).f0⟩ : S35), (qj l0_1 x10_1).f2⟩ : S64) [.string ((qj l0_1 x10_1).f1), .int .i64 (wrap64 (a0_0 + x10_1)), .int .i64 ((qj l0_1 x10_1).f0), .string ((qj l0_1 x10_1).f2)] (fun _ => True) (fun _ => False) rfl (by first | (go_simp; done) | (go_simp; rfl)) ?aP (fun _ hk => hk.elim) ?aF ?aO ?aB ?aS ?aL ?_; (case aP => exact k64_mkM _ _ _ (⟨(⟨(qj l0_1 x10_1).f1, wrap64 (a0_0 + x10_1), (qj l0_1 x10_1).f0⟩ : S35), (qj l0_1 x10_1).f2⟩ : S64)); (case aB => exact (by repeat (first | (with_reducible first | exact HB.out | apply qc | apply qa | apply qb | refine qd ?_ GE101.out | refine qd ?_ GE106.out) | exact HB.out))); (case aF => exact (fun _ _ => trivial)); (case aO => exact (by (with_reducible repeat (first | apply Kd.R_alloc | apply Kd.R_drewN | apply Kd.R_drew)); exact Kd.R_mono (Kd.R_far (p := ⟨gb106, 2, none⟩) (Kd.R_far (p := ⟨gb106, 1, none⟩) (Kd.R_far (p := ⟨gb106, 0, none⟩) (Kd.R_types HO_3.out BK106.out (by decide)) (fun _ hk => hk.2) (.int .i64 ((qj l0_1 x10_1).f0))) (fun _ hk => hk.2) (.string ((qj l0_1 x10_1).f1))) (fun _ hk => hk.2) (.string ((qj l0_1 x10_1).f2))) (fun _ hk => trivial))); (case aS => exact (qr (by repeat (first | (with_reducible first | exact HB.out | apply qc | apply qa | apply qb | refine qd ?_ GE101.out | refine qd ?_ GE106.out) | exact HB.out)))); (case aL => have := LMc9.out; omega); intro v108 w14 ho hb hg hat; rw [← Ny107.out] at ho; have n0_ := Qz.mk (blk_grown (g := gb101) (o := .cells #[.int .i64 a0_0, .slice (some ad105) l0_1.length c0_1] 68 (0, 0)) (by (with_reducible repeat (first | refine qe ?_ _ | refine qg ?_ | refine qf ?_ _)); refine blk_far ?_ NB101_106.out _; (with_reducible repeat (first | refine qe ?_ _ | refine qg ?_ | refine qf ?_ _)); refine blk_far ?_ NB101_106.out _; (with_reducible repeat (first | refine qe ?_ _ | refine qg ?_ | refine qf ?_ _)); refine blk_far ?_ NB101_106.out _; (with_reducible repeat (first | refine qe ?_ _ | refine qg ?_ | refine qf ?_ _)); exact BK101.out) hg (Kd.R_ne HO_3.out BK101.out (by decide))); have n1_ := Qz.mk (blk_grown (g := gb106) (o := .cells #[.int .i64 ((qj l0_1 x10_1).f0), .string ((qj l0_1 x10_1).f1), .string ((qj l0_1 x10_1).f2)] 148 (0, 0)) (by (with_reducible repeat (first | refine qe ?_ _ | refine qg ?_ | refine qf ?_ _)); refine qz (cs := #[.int .i64 ((qj l0_1 x10_1).f0), .string ((qj l0_1 x10_1).f1), .string (⟨#[]⟩ : ByteArray)]) ?_ 2 _ rfl; (with_reducible repeat (first | refine qe ?_ _ | refine qg ?_ | refine qf ?_ _)); refine qz (cs := #[.int .i64 ((qj l0_1 x10_1).f0), .string (⟨#[]⟩ : ByteArray), .string (⟨#[]⟩ : ByteArray)]) ?_ 1 _ rfl; (with_reducible repeat (first | refine qe ?_ _ | refine qg ?_ | refine qf ?_ _)); refine qz (cs := #[.int .i64 0, .string (⟨#[]⟩ : ByteArray), .string (⟨#[]⟩ : ByteArray)]) ?_ 0 _ rfl; (with_reducible repeat (first | refine qe ?_ _ | refine qg ?_ | refine qf ?_ _)); exact BK106.out) hg (Kd.R_ne HO_3.out BK106.out (by decide))); have n2_ := Qz.mk (hb); have n3_ := Qz.mk (ho); clear BK101; clear BK106; clear HB; clear HO_3; have BK101 := n0_; have BK106 := n1_; have HB := n2_; have HO109 := n3_; clear n0_ n1_ n2_ n3_; clear ho hb hg hat))
       go_roundg k1
       case measure => have := HK1.out; omega
       case rel => exact ⟨(y107), (wrap64 (x10_1 + 1)), (by first | rfl | (simp; done) | (simp [*]; done)), H', ⟨by have := HK1.out; omega⟩, ⟨by (with_reducible repeat (first | apply Kd.R_alloc | apply Kd.R_drewN | apply Kd.R_drew)); exact HO109.out⟩, ⟨by (with_reducible repeat (first | refine qe ?_ _ | refine qg ?_ | refine qf ?_ _)); exact BK101.out⟩, ⟨by repeat (first | (with_reducible first | exact HB.out | apply qc | apply qa | apply qb | refine qd ?_ GE101.out | refine qd ?_ GE106.out) | exact HB.out)⟩⟩
      ·rw [if_neg c9] at H
       exact absurd H (by simp)
     ·rw [if_neg c8] at H
      exact absurd H (by simp)
    ·rw [if_neg c7] at H
     exact absurd H (by simp)
   ·rw [if_neg c6] at H
    have c6b0 : decide (x10_1 < (l0_1.length : Int)) = false := decide_eq_false c6
    clear c6
    obtain rfl := Option.some.inj H
    go_wp2
    go_ret
    exact ⟨_, by first | rfl | (simp [qo, qn] <;> rfl) | (simp [*, qo, qn] <;> rfl), by (with_reducible repeat (first | apply Kd.R_alloc | apply Kd.R_drewN | apply Kd.R_drew)); exact HO_3.out, by repeat (first | (with_reducible first | exact HB.out | apply qc | apply qa | apply qb | refine qd ?_ GE101.out) | exact HB.out)⟩
theorem yq65 {P : Prop} (h : P := by repeat (first | (with_reducible first | exact HB.out | apply qc | apply qa | apply qb) | exact HB.out)) : P := h
theorem yq66 {P : Prop} (h : P := by repeat (first | (with_reducible first | exact HB.out | apply qc | apply qa | apply qb | refine qd ?_ GE101.out) | exact HB.out)) : P := h
theorem yq67 {P : Prop} (h : P := by (try simp only [List.map_toArray, List.map_cons, List.map_nil]); first | done | rfl | (simp only [List.length_drop, List.length_take]; rfl) | (rw [IntWalk.u64_in _ (by omega)] <;> rfl)) : P := h
def impl_BatchOk.f (k : Nat) (a0_0 : Int) (l0_1 : List (S148)) : Option (Bool) := (impl_within.f (l0_1.length : Int) 1 20).bind fun t102 => (if t102 = true then ((impl_within.f a0_0 1 999999999980).bind fun t103 => (if t103 = true then ((impl_Batch_entries.f k a0_0 l0_1).bind fun t104 => ((containsFunc_notEntryOk.f t104).bind fun t107 => (some (!t107)))) else (some false))) else (some false))
set_option maxHeartbeats 8000000 in
set_option maxRecDepth 100000 in
theorem impl_BatchOk.calls (k : Nat) (a0_0 : Int) (A0_1 : Option Addr) (c0_1 : Nat) (l0_1 : List (S148)) (r : Bool) (w : World) (hr0_1 : Kd.C k148 w A0_1 l0_1.length l0_1) (hc0_1 : l0_1.length ≤ c0_1) (h : impl_BatchOk.f k a0_0 l0_1 = some r) :
  Calls Try.prog 48 #[.agg #[.int .i64 a0_0, .slice A0_1 l0_1.length c0_1]] w fun e w' => e = .returned (.bool r) ∧ Below w.heap.size w w' := by
 have hu68 := Try.underlying68
 have HR0_1 := Qz.mk hr0_1
 have HC0_1 := Qz.mk hc0_1
 clear hr0_1 hc0_1
 have HB := Qz.mk (Below.refl w.heap.size w)
 have H : ((impl_within.f (l0_1.length : Int) 1 20).bind fun t102 => (if t102 = true then ((impl_within.f a0_0 1 999999999980).bind fun t103 => (if t103 = true then ((impl_Batch_entries.f k a0_0 l0_1).bind fun t104 => ((containsFunc_notEntryOk.f t104).bind fun t107 => (some (!t107)))) else (some false))) else (some false))) = some r := h
 clear h
 replace H := Option.bind_eq_some_iff.mp H
 obtain ⟨t102, A20, H⟩ := H
 replace H : (if t102 = true then ((impl_within.f a0_0 1 999999999980).bind fun t103 => (if t103 = true then ((impl_Batch_entries.f k a0_0 l0_1).bind fun t104 => ((containsFunc_notEntryOk.f t104).bind fun t107 => (some (!t107)))) else (some false))) else (some false)) = some r := H
 have A2 := Qz.mk A20
 clear A20
 by_cases c3 : t102 = true
 ·subst c3
  have H1 : ((impl_within.f a0_0 1 999999999980).bind fun t103 => (if t103 = true then ((impl_Batch_entries.f k a0_0 l0_1).bind fun t104 => ((containsFunc_notEntryOk.f t104).bind fun t107 => (some (!t107)))) else (some false))) = some r := by rw [if_pos rfl] at H; exact H
  clear H
  have H := H1
  clear H1
  replace H := Option.bind_eq_some_iff.mp H
  obtain ⟨t103, A40, H⟩ := H
  replace H : (if t103 = true then ((impl_Batch_entries.f k a0_0 l0_1).bind fun t104 => ((containsFunc_notEntryOk.f t104).bind fun t107 => (some (!t107)))) else (some false)) = some r := H
  have A4 := Qz.mk A40
  clear A40
  by_cases c5 : t103 = true
  ·subst c5
   have H1 : ((impl_Batch_entries.f k a0_0 l0_1).bind fun t104 => ((containsFunc_notEntryOk.f t104).bind fun t107 => (some (!t107)))) = some r := by rw [if_pos rfl] at H; exact H
   clear H
   have H := H1
   clear H1
   replace H := Option.bind_eq_some_iff.mp H
   obtain ⟨t104, A60, H⟩ := H
   replace H : ((containsFunc_notEntryOk.f t104).bind fun t107 => (some (!t107))) = some r := H
   have A6 := Qz.mk A60
   clear A60
   replace H := Option.bind_eq_some_iff.mp H
   obtain ⟨t107, A70, H⟩ := H
   replace H : (some (!t107)) = some r := H
   have A7 := Qz.mk A70
   clear A70
   obtain rfl := Option.some.inj H
   go_enter Try.func48, Try.ntmps48
   go_wp2_with (first | ((with_reducible refine qg1 (N := 1) rfl ?_); refine qf1 ?hg (N := 1) ?hd (cs := #[.int .i64 a0_0, .slice A0_1 l0_1.length c0_1]) (t := 68) ?hr ?_; (case hd => rfl); (case hg => rfl); (case hr => first | (go_simp; done) | (go_simp; rfl)); intro gb101 hg w8 hbox hb; have BK101 := Qz.mk (hbox); have GW101 := Qz.mk ((by rw [hg]; exact (qr yq65) : w.heap.size ≤ gb101)); have GE101 := GW101; replace HB := Qz.mk (qm yq65 hb); clear hb hbox hg; have hcz9_0 : w8.cell? ⟨gb101, 0, none⟩ = some (.int .i64 a0_0) := (qh BK101.out 0).trans rfl; have hcz9_1 : w8.cell? ⟨gb101, 1, none⟩ = some (.slice A0_1 l0_1.length c0_1) := (qh BK101.out 1).trans rfl; have hfz9_0 := qi BK101.out 0; have hfz9_1 := qi BK101.out 1) | ((with_reducible refine ql (f := 76) rfl ?_); refine qy (some 6) rfl rfl Try.func76 (by kernel_rfl) rfl #[.int .i64 (l0_1.length : Int), .int .i64 1, .int .i64 20] rfl yq67 ?_; (with_reducible refine (impl_within.calls (l0_1.length : Int) 1 20 true _ A2.out).mono ?_); rintro e w' ⟨rfl, ⟨nd, rfl⟩⟩; refine ⟨_, rfl, ?_⟩) | (go_at_call 76; (with_reducible refine (impl_within.calls a0_0 1 999999999980 true _ A4.out).mono ?_); rintro e w' ⟨rfl, ⟨nd, rfl⟩⟩) | (go_at_call 115; (with_reducible refine (impl_Batch_entries.calls k a0_0 _ _ l0_1 t104 _ ?side1 ?side2 A6.out).mono ?_); (case side1 => repeat (first | exact (Kd.C_below HR0_1.out yq66) | (with_reducible refine Kd.C_alloc ?_ _) | (with_reducible refine Kd.C_drewN ?_ _) | (with_reducible refine Kd.C_drew ?_))); (case side2 => exact HC0_1.out); rintro e w10 ⟨v105, rfl, ho0, hb⟩; have HO106 := Qz.mk (Kd.R_lower ho0 (qr yq66)); replace BK101 := Qz.mk (qp (g := gb101) (o := .cells #[.int .i64 a0_0, .slice A0_1 l0_1.length c0_1] 68 (0, 0)) (by (with_reducible repeat (first | refine qe ?_ _ | refine qg ?_ | refine qf ?_ _)); exact BK101.out) hb); replace HB := Qz.mk (qm yq66 hb); (try clear hb); (try clear ho0); obtain ⟨Ao11, co11, eo11⟩ := Kd.R_slice HO106.out; subst eo11) | (go_at_call 114; (with_reducible refine (containsFunc_notEntryOk.calls _ _ t104  t107 _ ?side1 ?side2 A7.out).mono ?_); (case side1 => repeat (first | exact (Kd.R_reads' HO106.out).2.2 | (with_reducible refine Kd.C_alloc ?_ _) | (with_reducible refine Kd.C_drewN ?_ _) | (with_reducible refine Kd.C_drew ?_))); (case side2 => exact (Kd.R_reads' HO106.out).2.1); rintro e w12 ⟨rfl, hb⟩; replace HO106 := Qz.mk (Kd.R_below (by (with_reducible repeat (first | apply Kd.R_alloc | apply Kd.R_drewN | apply Kd.R_drew)); exact HO106.out) hb); replace BK101 := Qz.mk (qp (g := gb101) (o := .cells #[.int .i64 a0_0, .slice A0_1 l0_1.length c0_1] 68 (0, 0)) (by (with_reducible repeat (first | refine qe ?_ _ | refine qg ?_ | refine qf ?_ _)); exact BK101.out) hb); replace HB := Qz.mk (qm yq66 hb); (try clear hb)))
   go_ret
   exact ⟨by first | rfl | (simp [qo, qn] <;> rfl) | (simp [*, qo, qn] <;> rfl), by repeat (first | (with_reducible first | exact HB.out | apply qc | apply qa | apply qb | refine qd ?_ GE101.out) | exact HB.out)⟩
  ·replace c5 := Bool.eq_false_iff.mpr c5
   subst c5
   have H1 : (some false) = some r := by rw [if_neg (show ¬ (false = true) by decide)] at H; exact H
   clear H
   have H := H1
   clear H1
   obtain rfl := Option.some.inj H
   go_enter Try.func48, Try.ntmps48
   go_wp2_with (first | ((with_reducible refine qg1 (N := 1) rfl ?_); refine qf1 ?hg (N := 1) ?hd (cs := #[.int .i64 a0_0, .slice A0_1 l0_1.length c0_1]) (t := 68) ?hr ?_; (case hd => rfl); (case hg => rfl); (case hr => first | (go_simp; done) | (go_simp; rfl)); intro gb101 hg w13 hbox hb; have BK101 := Qz.mk (hbox); have GW101 := Qz.mk ((by rw [hg]; exact (qr yq65) : w.heap.size ≤ gb101)); have GE101 := GW101; replace HB := Qz.mk (qm yq65 hb); clear hb hbox hg; have hcz14_0 : w13.cell? ⟨gb101, 0, none⟩ = some (.int .i64 a0_0) := (qh BK101.out 0).trans rfl; have hcz14_1 : w13.cell? ⟨gb101, 1, none⟩ = some (.slice A0_1 l0_1.length c0_1) := (qh BK101.out 1).trans rfl; have hfz14_0 := qi BK101.out 0; have hfz14_1 := qi BK101.out 1) | ((with_reducible refine ql (f := 76) rfl ?_); refine qy (some 6) rfl rfl Try.func76 (by kernel_rfl) rfl #[.int .i64 (l0_1.length : Int), .int .i64 1, .int .i64 20] rfl yq67 ?_; (with_reducible refine (impl_within.calls (l0_1.length : Int) 1 20 true _ A2.out).mono ?_); rintro e w' ⟨rfl, ⟨nd, rfl⟩⟩; refine ⟨_, rfl, ?_⟩) | (go_at_call 76; (with_reducible refine (impl_within.calls a0_0 1 999999999980 false _ A4.out).mono ?_); rintro e w' ⟨rfl, ⟨nd, rfl⟩⟩))
   go_ret
   exact ⟨by first | rfl | (simp [qo, qn] <;> rfl) | (simp [*, qo, qn] <;> rfl), by repeat (first | (with_reducible first | exact HB.out | apply qc | apply qa | apply qb | refine qd ?_ GE101.out) | exact HB.out)⟩
 ·replace c3 := Bool.eq_false_iff.mpr c3
  subst c3
  have H1 : (some false) = some r := by rw [if_neg (show ¬ (false = true) by decide)] at H; exact H
  clear H
  have H := H1
  clear H1
  obtain rfl := Option.some.inj H
  go_enter Try.func48, Try.ntmps48
  go_wp2_with (first | ((with_reducible refine qg1 (N := 1) rfl ?_); refine qf1 ?hg (N := 1) ?hd (cs := #[.int .i64 a0_0, .slice A0_1 l0_1.length c0_1]) (t := 68) ?hr ?_; (case hd => rfl); (case hg => rfl); (case hr => first | (go_simp; done) | (go_simp; rfl)); intro gb101 hg w15 hbox hb; have BK101 := Qz.mk (hbox); have GW101 := Qz.mk ((by rw [hg]; exact (qr yq65) : w.heap.size ≤ gb101)); have GE101 := GW101; replace HB := Qz.mk (qm yq65 hb); clear hb hbox hg; have hcz16_0 : w15.cell? ⟨gb101, 0, none⟩ = some (.int .i64 a0_0) := (qh BK101.out 0).trans rfl; have hcz16_1 : w15.cell? ⟨gb101, 1, none⟩ = some (.slice A0_1 l0_1.length c0_1) := (qh BK101.out 1).trans rfl; have hfz16_0 := qi BK101.out 0; have hfz16_1 := qi BK101.out 1) | ((with_reducible refine ql (f := 76) rfl ?_); refine qy (some 6) rfl rfl Try.func76 (by kernel_rfl) rfl #[.int .i64 (l0_1.length : Int), .int .i64 1, .int .i64 20] rfl yq67 ?_; (with_reducible refine (impl_within.calls (l0_1.length : Int) 1 20 false _ A2.out).mono ?_); rintro e w' ⟨rfl, ⟨nd, rfl⟩⟩; refine ⟨_, rfl, ?_⟩))
  go_ret
  exact ⟨by first | rfl | (simp [qo, qn] <;> rfl) | (simp [*, qo, qn] <;> rfl), by repeat (first | (with_reducible first | exact HB.out | apply qc | apply qa | apply qb | refine qd ?_ GE101.out) | exact HB.out)⟩
theorem yq68 {P : Prop} (h : P := by (try simp only [List.map_toArray, List.map_cons, List.map_nil]); first | done | rfl | (simp only [List.length_drop, List.length_take]; rfl) | (rw [IntWalk.u64_in _ (by omega)] <;> rfl)) : P := h
theorem yq69 {P : Prop} (h : P := by repeat (first | exact (Kd.C_below HR0_1.out HB.out) | (with_reducible refine Kd.C_alloc ?_ _) | (with_reducible refine Kd.C_drewN ?_ _) | (with_reducible refine Kd.C_drew ?_))) : P := h
theorem yq70 {P : Prop} (h : P := by repeat (first | (with_reducible first | exact HB.out | apply qc | apply qa | apply qb) | exact HB.out)) : P := h
theorem yq71 {P : Prop} (h : P := by repeat (first | (with_reducible first | exact HB.out | apply qc | apply qa | apply qb | refine qd ?_ GE101.out) | exact HB.out)) : P := h
def impl_BatchText.f (k : Nat) (a0_0 : Int) (l0_1 : List (S148)) : Option (ByteArray) := (impl_BatchOk.f k a0_0 l0_1).bind fun t102 => (if t102 = true then ((impl_Batch_text.f k a0_0 l0_1).bind fun t103 => (some t103)) else (some (⟨#[]⟩ : ByteArray)))
set_option maxHeartbeats 8000000 in
set_option maxRecDepth 100000 in
theorem impl_BatchText.calls (k : Nat) (a0_0 : Int) (A0_1 : Option Addr) (c0_1 : Nat) (l0_1 : List (S148)) (r : ByteArray) (w : World) (hr0_1 : Kd.C k148 w A0_1 l0_1.length l0_1) (hc0_1 : l0_1.length ≤ c0_1) (h : impl_BatchText.f k a0_0 l0_1 = some r) :
  Calls Try.prog 45 #[.agg #[.int .i64 a0_0, .slice A0_1 l0_1.length c0_1]] w fun e w' => e = .returned (.string r) ∧ Below w.heap.size w w' := by
 have hu68 := Try.underlying68
 have HR0_1 := Qz.mk hr0_1
 have HC0_1 := Qz.mk hc0_1
 clear hr0_1 hc0_1
 have HB := Qz.mk (Below.refl w.heap.size w)
 have H : ((impl_BatchOk.f k a0_0 l0_1).bind fun t102 => (if t102 = true then ((impl_Batch_text.f k a0_0 l0_1).bind fun t103 => (some t103)) else (some (⟨#[]⟩ : ByteArray)))) = some r := h
 clear h
 replace H := Option.bind_eq_some_iff.mp H
 obtain ⟨t102, A20, H⟩ := H
 replace H : (if t102 = true then ((impl_Batch_text.f k a0_0 l0_1).bind fun t103 => (some t103)) else (some (⟨#[]⟩ : ByteArray))) = some r := H
 have A2 := Qz.mk A20
 clear A20
 by_cases c3 : t102 = true
 ·subst c3
  have H1 : ((impl_Batch_text.f k a0_0 l0_1).bind fun t103 => (some t103)) = some r := by rw [if_pos rfl] at H; exact H
  clear H
  have H := H1
  clear H1
  replace H := Option.bind_eq_some_iff.mp H
  obtain ⟨t103, A40, H⟩ := H
  replace H : (some t103) = some r := H
  have A4 := Qz.mk A40
  clear A40
  obtain rfl := Option.some.inj H
  go_enter Try.func45, Try.ntmps45
  go_wp2_with (first | ((with_reducible refine qg1 (N := 1) rfl ?_); refine qf1 ?hg (N := 1) ?hd (cs := #[.int .i64 a0_0, .slice A0_1 l0_1.length c0_1]) (t := 68) ?hr ?_; (case hd => rfl); (case hg => rfl); (case hr => first | (go_simp; done) | (go_simp; rfl)); intro gb101 hg w5 hbox hb; have BK101 := Qz.mk (hbox); have GW101 := Qz.mk ((by rw [hg]; exact (qr yq70) : w.heap.size ≤ gb101)); have GE101 := GW101; replace HB := Qz.mk (qm yq70 hb); clear hb hbox hg; have hcz6_0 : w5.cell? ⟨gb101, 0, none⟩ = some (.int .i64 a0_0) := (qh BK101.out 0).trans rfl; have hcz6_1 : w5.cell? ⟨gb101, 1, none⟩ = some (.slice A0_1 l0_1.length c0_1) := (qh BK101.out 1).trans rfl; have hfz6_0 := qi BK101.out 0; have hfz6_1 := qi BK101.out 1) | ((with_reducible refine ql (f := 48) rfl ?_); refine qy (some 4) rfl rfl Try.func48 (by kernel_rfl) rfl #[.agg #[.int .i64 a0_0, .slice A0_1 l0_1.length c0_1]] rfl yq68 ?_; (with_reducible refine (impl_BatchOk.calls k a0_0 _ _ l0_1 true _ ?side1 ?side2 A2.out).mono ?_); (case side1 => exact yq69); (case side2 => exact HC0_1.out); rintro e w7 ⟨rfl, hb⟩; refine ⟨_, rfl, ?_⟩; replace BK101 := Qz.mk (qp (g := gb101) (o := .cells #[.int .i64 a0_0, .slice A0_1 l0_1.length c0_1] 68 (0, 0)) (by (with_reducible repeat (first | refine qe ?_ _ | refine qg ?_ | refine qf ?_ _)); exact BK101.out) hb); replace HB := Qz.mk (qm yq71 hb); (try clear hb); have hcz8_0 : w7.cell? ⟨gb101, 0, none⟩ = some (.int .i64 a0_0) := (qh BK101.out 0).trans rfl; have hcz8_1 : w7.cell? ⟨gb101, 1, none⟩ = some (.slice A0_1 l0_1.length c0_1) := (qh BK101.out 1).trans rfl; have hfz8_0 := qi BK101.out 0; have hfz8_1 := qi BK101.out 1) | ((with_reducible refine ql (f := 111) rfl ?_); refine qy (some 7) rfl rfl Try.func111 (by kernel_rfl) rfl #[.agg #[.int .i64 a0_0, .slice A0_1 l0_1.length c0_1]] rfl yq68 ?_; (with_reducible refine (impl_Batch_text.calls k a0_0 _ _ l0_1 t103 _ ?side1 ?side2 A4.out).mono ?_); (case side1 => exact yq69); (case side2 => exact HC0_1.out); rintro e w9 ⟨rfl, hb⟩; refine ⟨_, rfl, ?_⟩; replace BK101 := Qz.mk (qp (g := gb101) (o := .cells #[.int .i64 a0_0, .slice A0_1 l0_1.length c0_1] 68 (0, 0)) (by (with_reducible repeat (first | refine qe ?_ _ | refine qg ?_ | refine qf ?_ _)); exact BK101.out) hb); replace HB := Qz.mk (qm yq71 hb); (try clear hb)))
  go_ret
  exact ⟨by first | rfl | (simp [qo, qn] <;> rfl) | (simp [*, qo, qn] <;> rfl), by repeat (first | (with_reducible first | exact HB.out | apply qc | apply qa | apply qb | refine qd ?_ GE101.out) | exact HB.out)⟩
 ·replace c3 := Bool.eq_false_iff.mpr c3
  subst c3
  have H1 : (some (⟨#[]⟩ : ByteArray)) = some r := by rw [if_neg (show ¬ (false = true) by decide)] at H; exact H
  clear H
  have H := H1
  clear H1
  obtain rfl := Option.some.inj H
  go_enter Try.func45, Try.ntmps45
  go_wp2_with (first | ((with_reducible refine qg1 (N := 1) rfl ?_); refine qf1 ?hg (N := 1) ?hd (cs := #[.int .i64 a0_0, .slice A0_1 l0_1.length c0_1]) (t := 68) ?hr ?_; (case hd => rfl); (case hg => rfl); (case hr => first | (go_simp; done) | (go_simp; rfl)); intro gb101 hg w10 hbox hb; have BK101 := Qz.mk (hbox); have GW101 := Qz.mk ((by rw [hg]; exact (qr yq70) : w.heap.size ≤ gb101)); have GE101 := GW101; replace HB := Qz.mk (qm yq70 hb); clear hb hbox hg; have hcz11_0 : w10.cell? ⟨gb101, 0, none⟩ = some (.int .i64 a0_0) := (qh BK101.out 0).trans rfl; have hcz11_1 : w10.cell? ⟨gb101, 1, none⟩ = some (.slice A0_1 l0_1.length c0_1) := (qh BK101.out 1).trans rfl; have hfz11_0 := qi BK101.out 0; have hfz11_1 := qi BK101.out 1) | ((with_reducible refine ql (f := 48) rfl ?_); refine qy (some 4) rfl rfl Try.func48 (by kernel_rfl) rfl #[.agg #[.int .i64 a0_0, .slice A0_1 l0_1.length c0_1]] rfl yq68 ?_; (with_reducible refine (impl_BatchOk.calls k a0_0 _ _ l0_1 false _ ?side1 ?side2 A2.out).mono ?_); (case side1 => exact yq69); (case side2 => exact HC0_1.out); rintro e w12 ⟨rfl, hb⟩; refine ⟨_, rfl, ?_⟩; replace BK101 := Qz.mk (qp (g := gb101) (o := .cells #[.int .i64 a0_0, .slice A0_1 l0_1.length c0_1] 68 (0, 0)) (by (with_reducible repeat (first | refine qe ?_ _ | refine qg ?_ | refine qf ?_ _)); exact BK101.out) hb); replace HB := Qz.mk (qm yq71 hb); (try clear hb)))
  go_ret
  exact ⟨by first | rfl | (simp [qo, qn] <;> rfl) | (simp [*, qo, qn] <;> rfl), by repeat (first | (with_reducible first | exact HB.out | apply qc | apply qa | apply qb | refine qd ?_ GE101.out) | exact HB.out)⟩
def IsS123 (w0 W : World) (g : Nat) (f0 : ByteArray) (f1 : Bool) : Prop := W.heap[g]? = some (.cells #[.string f0, .bool f1] 123 (0, 0)) ∧ w0.heap.size ≤ g
theorem IsS123.grown {w0 W : World} {g : Nat} {f0 : ByteArray} {f1 : Bool} {W1 : World} {row : Option Nat} (h : IsS123 w0 W g f0 f1) (hw : W.grownBy W1 row) (hne : some g ≠ row) : IsS123 w0 W1 g f0 f1 := by
 obtain ⟨hb, hg⟩ := h
 exact ⟨blk_grown hb hw hne, hg⟩
theorem IsS123.kept {w0 W : World} {g : Nat} {f0 : ByteArray} {f1 : Bool} {W1 : World} {S : Nat → Prop} (h : IsS123 w0 W g f0 f1) (hk : Kept W W1 S) (hne : ¬ S g) : IsS123 w0 W1 g f0 f1 := by
 obtain ⟨hb, hg⟩ := h
 exact ⟨blk_kept hb hk hne, hg⟩
theorem IsS123.below {w0 W : World} {g : Nat} {f0 : ByteArray} {f1 : Bool} {W1 : World} (h : IsS123 w0 W g f0 f1) (hw : Below W.heap.size W W1) : IsS123 w0 W1 g f0 f1 := h.grown (grown_of_below hw none) (by simp)
theorem IsS123.alloc {w0 W : World} {g : Nat} {f0 : ByteArray} {f1 : Bool} (h : IsS123 w0 W g f0 f1) (o : Obj) : IsS123 w0 (W.alloc o) g f0 f1 := h.below (qc (Below.refl _ _) o)
theorem IsS123.drewN {w0 W : World} {g : Nat} {f0 : ByteArray} {f1 : Bool} (h : IsS123 w0 W g f0 f1) (m : Nat) : IsS123 w0 (W.drewN m) g f0 f1 := h
theorem IsS123.drew {w0 W : World} {g : Nat} {f0 : ByteArray} {f1 : Bool} (h : IsS123 w0 W g f0 f1) : IsS123 w0 W.drew g f0 f1 := h
theorem IsS123.at_ {w0 W : World} {g : Nat} {f0 : ByteArray} {f1 : Bool} {w' : World} {m : Nat} (hq : W.drewN m = w') (h : IsS123 w0 W g f0 f1) : IsS123 w0 w' g f0 f1 := by subst hq; exact IsS123.drewN h m
theorem IsS123.apart {w0 W : World} {g : Nat} {f0 : ByteArray} {f1 : Bool} {α : Type} {d : Kd α} {e : Nat} {base : Nat} {ok : Nat → Prop} {v : Value} {xs : List α} (h : IsS123 w0 W g f0 f1) (ho : d.R e W base ok v xs) (ht : ∀ q, q ∈ e :: d.E → q ≠ 123) : d.R e W base (fun k => ok k ∧ k ≠ g) v xs := by
 obtain ⟨hb, hg⟩ := h
 exact Kd.R_types ho hb ht
theorem IsS123.own_ne {w0 W : World} {g : Nat} {f0 : ByteArray} {f1 : Bool} {α : Type} {d : Kd α} {e : Nat} {base : Nat} {ok : Nat → Prop} {v : Value} {xs : List α} (h : IsS123 w0 W g f0 f1) (ho : d.R e W base ok v xs) (ht : e ≠ 123) : some g ≠ v.ownBlock := by
 obtain ⟨hb, hg⟩ := h
 exact Kd.R_ne ho hb ht
theorem IsS123.lt {w0 W : World} {g : Nat} {f0 : ByteArray} {f1 : Bool} (h : IsS123 w0 W g f0 f1) : g < W.heap.size := by
 obtain ⟨hb, hg⟩ := h
 exact blk_lt hb
theorem IsS123.ge {w0 W : World} {g : Nat} {f0 : ByteArray} {f1 : Bool} (h : IsS123 w0 W g f0 f1) : w0.heap.size ≤ g := by
 obtain ⟨hb, hg⟩ := h
 exact hg
theorem IsS123.ne_blk {w0 W : World} {g : Nat} {f0 : ByteArray} {f1 : Bool} {a : Nat} {cs : Array Value} {t : TypeId} {fr : Nat × Nat} (h : IsS123 w0 W g f0 f1) (hb2 : W.heap[a]? = some (.cells cs t fr)) (ht : t ≠ 123) : g ≠ a := by
 obtain ⟨hb, hg⟩ := h
 rintro rfl
 rw [hb] at hb2
 injection hb2 with hb2
 injection hb2 with _ ht2
 exact ht ht2.symm
theorem IsS123.far {w0 W : World} {g : Nat} {f0 : ByteArray} {f1 : Bool} {p : Addr} (h : IsS123 w0 W g f0 f1) (hne : g ≠ p.block) (u : Value) : IsS123 w0 (W.setCell p u) g f0 f1 := by
 obtain ⟨hb, hg⟩ := h
 exact ⟨blk_far hb hne u, hg⟩
theorem cellS123_0 {W : World} {g : Nat} {f0 : ByteArray} {f1 : Bool} (h : W.heap[g]? = some (.cells #[.string f0, .bool f1] 123 (0, 0))) : W.cell? ⟨g, 0, none⟩ = some (.string f0) := (qh h 0).trans rfl
theorem IsS123.set_0 {w0 W : World} {g : Nat} {f0 : ByteArray} {f1 : Bool} (h : IsS123 w0 W g f0 f1) (x : ByteArray) : IsS123 w0 (W.setCell ⟨g, 0, none⟩ (.string x)) g x f1 := by
 obtain ⟨hb, hg⟩ := h
 exact ⟨by simpa using blk_set hb 0 (.string x), hg⟩
theorem cellS123_1 {W : World} {g : Nat} {f0 : ByteArray} {f1 : Bool} (h : W.heap[g]? = some (.cells #[.string f0, .bool f1] 123 (0, 0))) : W.cell? ⟨g, 1, none⟩ = some (.bool f1) := (qh h 1).trans rfl
theorem IsS123.set_1 {w0 W : World} {g : Nat} {f0 : ByteArray} {f1 : Bool} (h : IsS123 w0 W g f0 f1) (x : Bool) : IsS123 w0 (W.setCell ⟨g, 1, none⟩ (.bool x)) g f0 x := by
 obtain ⟨hb, hg⟩ := h
 exact ⟨by simpa using blk_set hb 1 (.bool x), hg⟩
def impl_taker_whole.f (s0_0 : ByteArray) (s0_1 : Bool) : Option (Bool × ByteArray × Bool) := if s0_1 = true then (some (false, s0_0, s0_1)) else (some ((s0_0.toList == ([] : List UInt8)), s0_0, s0_1))
set_option maxHeartbeats 8000000 in
set_option maxRecDepth 100000 in
theorem impl_taker_whole.calls (g : Nat) (s0_0 : ByteArray) (s0_1 : Bool) (r1 : Bool) (r2 : ByteArray) (r3 : Bool) (w0 w : World) (hI : IsS123 w0 w g s0_0 s0_1) (hB : Below w0.heap.size w0 w) (h : impl_taker_whole.f s0_0 s0_1 = some (r1, r2, r3)) :
  Calls Try.prog 112 #[.pointer (some ⟨g, 0, none⟩)] w fun e w' => e = .returned (.bool r1) ∧ IsS123 w0 w' g r2 r3 ∧ Below w0.heap.size w0 w' ∧ KeepBut w w' g none := by
 have HI0 := Qz.mk hI
 have HK := Qz.mk (KeepBut.refl w g none)
 have HL := Qz.mk hB.size
 clear hI
 have HW0 := Qz.mk hB.size
 have HB := Qz.mk hB
 clear hB
 have H : (if s0_1 = true then (some (false, s0_0, s0_1)) else (some ((s0_0.toList == ([] : List UInt8)), s0_0, s0_1))) = some (r1, r2, r3) := h
 clear h
 by_cases c2 : s0_1 = true
 ·subst c2
  have H1 : (some (false, s0_0, true)) = some (r1, r2, r3) := by rw [if_pos rfl] at H; exact H
  clear H
  have H := H1
  clear H1
  simp only [Option.some.injEq, Prod.mk.injEq] at H
  obtain ⟨rfl, rfl, rfl⟩ := H
  obtain ⟨HGz3, hgz3⟩ := HI0.out
  have hcz3_0 := cellS123_0 HGz3
  have hcz3_1 := cellS123_1 HGz3
  have hfz3_0 := qi HGz3 0
  have hfz3_1 := qi HGz3 1
  clear HGz3 hgz3
  go_enter Try.func112, Try.ntmps112
  go_wp2
  go_ret
  exact ⟨by first | rfl | (simp [qo, qn] <;> rfl) | (simp [*, qo, qn] <;> rfl), by repeat (first | (with_reducible first | exact HI0.out | apply IsS123.alloc | apply IsS123.drewN | apply IsS123.drew | apply IsS123.set_0 | apply IsS123.set_1) | exact HI0.out), by repeat (first | (with_reducible first | exact HB.out | apply qc | apply qa | apply qb | refine qd ?_ (IsS123.ge HI0.out)) | exact HB.out), by repeat (first | (with_reducible first | exact HK.out | apply KeepBut.set_ | apply qt | apply qv | apply qu) | exact HK.out)⟩
 ·replace c2 := Bool.eq_false_iff.mpr c2
  subst c2
  have H1 : (some ((s0_0.toList == ([] : List UInt8)), s0_0, false)) = some (r1, r2, r3) := by rw [if_neg (show ¬ (false = true) by decide)] at H; exact H
  clear H
  have H := H1
  clear H1
  simp only [Option.some.injEq, Prod.mk.injEq] at H
  obtain ⟨rfl, rfl, rfl⟩ := H
  obtain ⟨HGz4, hgz4⟩ := HI0.out
  have hcz4_0 := cellS123_0 HGz4
  have hcz4_1 := cellS123_1 HGz4
  have hfz4_0 := qi HGz4 0
  have hfz4_1 := qi HGz4 1
  clear HGz4 hgz4
  go_enter Try.func112, Try.ntmps112
  go_wp2
  go_ret
  exact ⟨by first | rfl | (simp [qo, qn] <;> rfl) | (simp [*, qo, qn] <;> rfl), by repeat (first | (with_reducible first | exact HI0.out | apply IsS123.alloc | apply IsS123.drewN | apply IsS123.drew | apply IsS123.set_0 | apply IsS123.set_1) | exact HI0.out), by repeat (first | (with_reducible first | exact HB.out | apply qc | apply qa | apply qb | refine qd ?_ (IsS123.ge HI0.out)) | exact HB.out), by repeat (first | (with_reducible first | exact HK.out | apply KeepBut.set_ | apply qt | apply qv | apply qu) | exact HK.out)⟩
theorem yq72 {P : Prop} (h : P := by first | (with_reducible assumption) | assumption) : P := h
theorem yq73 {P : Prop} (h : P := by first | rfl | (simp; done) | (simp [*]; done)) : P := h
mutual
def impl_TakeVar.l0 : Nat → ByteArray → Int → Int → Option (Int × ByteArray × Bool)
 | 0, _, _, _ => none
 | k + 1, x0, x5, x6 => if x6 < (x0.size : Int) then (impl_TakeVar.j1 k x0 x5 x6 (decide (x6 < 10))) else (impl_TakeVar.j1 k x0 x5 x6 false)
def impl_TakeVar.j1 : Nat → ByteArray → Int → Int → Bool → Option (Int × ByteArray × Bool)
 | 0, _, _, _, _ => none
 | k + 1, x0, x5, x6, x15 => if x15 = true then (if 0 ≤ x6 then (if x6 < (x0.size : Int) then (if x6 = 9 then (impl_TakeVar.j2 k x0 x5 x6 (IntKind.u64.wrap (Go.bits .and .u8 (bt x0 x6) 127)) (decide ((IntKind.u64.wrap (Go.bits .and .u8 (bt x0 x6) 127)) > 1))) else (impl_TakeVar.j2 k x0 x5 x6 (IntKind.u64.wrap (Go.bits .and .u8 (bt x0 x6) 127)) false)) else (none)) else (none)) else (some (0, (⟨#[]⟩ : ByteArray), false))
def impl_TakeVar.j2 : Nat → ByteArray → Int → Int → Int → Bool → Option (Int × ByteArray × Bool)
 | 0, _, _, _, _, _ => none
 | k + 1, x0, x5, x6, x7, x28 => if x28 = true then (some (0, (⟨#[]⟩ : ByteArray), false)) else (if 0 ≤ (wrap64 (7 * x6)) then (if 0 ≤ x6 then (if x6 < (x0.size : Int) then (if (bt x0 x6) ≥ 128 then (impl_TakeVar.l0 k x0 (Go.bits .or .u64 x5 (shl .u64 x7 (wrap64 (7 * x6)))) (wrap64 (x6 + 1))) else (if x7 = 0 then (if x6 > 0 then (some (0, (⟨#[]⟩ : ByteArray), false)) else (if 0 ≤ (wrap64 (x6 + 1)) then (if (wrap64 (x6 + 1)) ≤ (x0.size : Int) then (some (Go.bits .or .u64 x5 (shl .u64 x7 (wrap64 (7 * x6))), x0.extract ((wrap64 (x6 + 1)) : Int).toNat x0.size, true)) else (none)) else (none))) else (if 0 ≤ (wrap64 (x6 + 1)) then (if (wrap64 (x6 + 1)) ≤ (x0.size : Int) then (some (Go.bits .or .u64 x5 (shl .u64 x7 (wrap64 (7 * x6))), x0.extract ((wrap64 (x6 + 1)) : Int).toNat x0.size, true)) else (none)) else (none)))) else (none)) else (none)) else (none))
end
def impl_TakeVar.f (k : Nat) (a0 : ByteArray) : Option (Int × ByteArray × Bool) := impl_TakeVar.l0 k a0 0 0
set_option maxHeartbeats 8000000 in
set_option maxRecDepth 100000 in
theorem impl_TakeVar.calls (k : Nat) (a0 : ByteArray) (r1 : Int) (r2 : ByteArray) (r3 : Bool) (w : World) (h : impl_TakeVar.f k a0 = some (r1, r2, r3)) :
  Calls Try.prog 153 #[.string a0] w fun e w' => e = .returned (.tuple #[.int .u64 r1, .string r2, .bool r3]) ∧ Drawn0 w w' := by
 have H : (impl_TakeVar.l0 k a0 0 0) = some (r1, r2, r3) := h
 clear h
 have H' := Qz.mk H
 clear H
 go_enter Try.func153, Try.ntmps153
 go_wp2
 repeat (go_quiet (fail); try go_wp2)
 go_loopg [5, 6] k (fun kq v5 v6 w' => ∃ (x5_1 : Int) (x6_1 : Int), v5 = .int .u64 x5_1 ∧ v6 = .int .i64 x6_1 ∧ Qz (impl_TakeVar.l0 kq a0 x5_1 x6_1 = some (r1, r2, r3)) ∧ Qz (kq ≤ k) ∧ Drawn0 w w')
 case atStart => exact ⟨(0), (0), yq73, yq73, H', ⟨Nat.le_refl _⟩, by repeat (first | exact Drawn0.refl _ | apply Drawn0.step)⟩
 case round =>
  clear H'
  try clear c1
  obtain ⟨x5_1, x6_1, rfl, rfl, HA, HK1, ⟨m1, rfl⟩⟩ := hrel
  cases gk with
  | zero => exact absurd HA.out (by simp [impl_TakeVar.l0])
  | succ k1 =>
   have H := HA.out
   clear HA
   simp only [impl_TakeVar.l0] at H
   have HC2 := Qz.mk H
   clear H
   go_upto_region 3 with (fail)
   repeat (go_quiet (fail); go_upto_region 3 with (fail))
   go_cut [15] (fun v15 wc => ∃ (kq : Nat) (x15_1 : Bool), v15 = .bool x15_1 ∧ Qz (impl_TakeVar.j1 kq a0 x5_1 x6_1 x15_1 = some (r1, r2, r3)) ∧ Qz (kq ≤ k1) ∧ Drawn0 w wc)
   case first =>
    have H := HC2.out
    clear HC2
    by_cases c3 : x6_1 < (a0.size : Int)
    ·rw [if_pos c3] at H
     have c3b0 : decide (x6_1 < (a0.size : Int)) = true := decide_eq_true c3
     clear c3
     (first | rw [c3b0] | (simp only [i64_w, i32_w]; rw [c3b0]) | skip)
     have H' := Qz.mk H
     clear H
     go_wp2
     repeat (go_quiet (fail); try go_wp2)
     go_meet
     case rel => exact ⟨_, (decide (x6_1 < 10)), yq73, H', ⟨by have := HK1.out; first | omega | exact Nat.le_refl _⟩, by repeat (first | exact Drawn0.refl _ | apply Drawn0.step)⟩
    ·rw [if_neg c3] at H
     have c3b0 : decide (x6_1 < (a0.size : Int)) = false := decide_eq_false c3
     clear c3
     (first | rw [c3b0] | (simp only [i64_w, i32_w]; rw [c3b0]) | skip)
     have H' := Qz.mk H
     clear H
     go_wp2
     repeat (go_quiet (fail); try go_wp2)
     go_meet
     case rel => exact ⟨_, (false), yq73, H', ⟨by have := HK1.out; first | omega | exact Nat.le_refl _⟩, by repeat (first | exact Drawn0.refl _ | apply Drawn0.step)⟩
   case rest =>
    clear HC2
    try clear c1
    try clear p2
    try clear c3
    try clear c3b0
    obtain ⟨kq, x15_1, rfl, HA, HJ1, ⟨mc1, rfl⟩⟩ := hcut
    cases kq with
    | zero => exact absurd HA.out (by simp [impl_TakeVar.j1])
    | succ kj1 =>
     have H := HA.out
     clear HA
     simp only [impl_TakeVar.j1] at H
     by_cases c4 : x15_1 = true
     ·subst c4
      have H1 : (if 0 ≤ x6_1 then (if x6_1 < (a0.size : Int) then (if x6_1 = 9 then (impl_TakeVar.j2 kj1 a0 x5_1 x6_1 (IntKind.u64.wrap (Go.bits .and .u8 (bt a0 x6_1) 127)) (decide ((IntKind.u64.wrap (Go.bits .and .u8 (bt a0 x6_1) 127)) > 1))) else (impl_TakeVar.j2 kj1 a0 x5_1 x6_1 (IntKind.u64.wrap (Go.bits .and .u8 (bt a0 x6_1) 127)) false)) else (none)) else (none)) = some (r1, r2, r3) := by rw [if_pos rfl] at H; exact H
      clear H
      have H := H1
      clear H1
      by_cases c5 : 0 ≤ x6_1
      ·rw [if_pos c5] at H
       have c5b0 : decide (0 ≤ x6_1) = true := decide_eq_true c5
       clear c5
       by_cases c6 : x6_1 < (a0.size : Int)
       ·rw [if_pos c6] at H
        have c6b0 : decide (x6_1 < (a0.size : Int)) = true := decide_eq_true c6
        clear c6
        have HC8 := Qz.mk H
        clear H
        have p7 : 0 ≤ (x6_1 : Int) := of_decide_eq_true yq72
        have q7 : x6_1 < (a0.size : Int) := of_decide_eq_true yq72
        have hx7 := bt_at a0 x6_1
        replace p7 := eq_true p7
        replace q7 := eq_true q7
        go_upto_region 6 with (fail)
        repeat (go_quiet (fail); go_upto_region 6 with (fail))
        go_cut [28] (fun v28 wc => ∃ (kq : Nat) (x28_7 : Bool), v28 = .bool x28_7 ∧ Qz (impl_TakeVar.j2 kq a0 x5_1 x6_1 (IntKind.u64.wrap (Go.bits .and .u8 (bt a0 x6_1) 127)) x28_7 = some (r1, r2, r3)) ∧ Qz (kq ≤ kj1) ∧ Drawn0 w wc)
        case first =>
         have H := HC8.out
         clear HC8
         by_cases c9 : x6_1 = 9
         ·rw [if_pos c9] at H
          have c9b0 : (x6_1 == 9) = true := beq_iff_eq.mpr c9
          have c9b1 : (x6_1 != 9) = false := bne_eq_false_iff_eq.mpr c9
          clear c9
          (first | rw [c9b0] | (simp only [i64_w, i32_w]; rw [c9b0]) | skip)
          have H' := Qz.mk H
          clear H
          go_wp2
          repeat (go_quiet (fail); try go_wp2)
          go_meet
          case rel => exact ⟨_, (decide ((IntKind.u64.wrap (Go.bits .and .u8 (bt a0 x6_1) 127)) > 1)), yq73, H', ⟨by have := HK1.out; have := HJ1.out; first | omega | exact Nat.le_refl _⟩, by repeat (first | exact Drawn0.refl _ | apply Drawn0.step)⟩
         ·rw [if_neg c9] at H
          have c9b0 : (x6_1 == 9) = false := beq_eq_false_iff_ne.mpr c9
          have c9b1 : (x6_1 != 9) = true := bne_iff_ne.mpr c9
          (first | rw [c9b0] | (simp only [i64_w, i32_w]; rw [c9b0]) | skip)
          have H' := Qz.mk H
          clear H
          go_wp2
          repeat (go_quiet (fail); try go_wp2)
          go_meet
          case rel => exact ⟨_, (false), yq73, H', ⟨by have := HK1.out; have := HJ1.out; first | omega | exact Nat.le_refl _⟩, by repeat (first | exact Drawn0.refl _ | apply Drawn0.step)⟩
        case rest =>
         clear HC8
         try clear c1
         try clear p2
         try clear c3
         try clear c3b0
         try clear c4
         try clear c5
         try clear c5b0
         try clear c6
         try clear c6b0
         try clear p7
         try clear q7
         try clear hx7
         try clear c9
         try clear c9b0
         try clear c9b1
         try clear p2
         try clear p7
         try clear q7
         obtain ⟨kq, x28_7, rfl, HA, HJ7, ⟨mc7, rfl⟩⟩ := hcut
         cases kq with
         | zero => exact absurd HA.out (by simp [impl_TakeVar.j2])
         | succ kj7 =>
          have H := HA.out
          clear HA
          simp only [impl_TakeVar.j2] at H
          by_cases c10 : x28_7 = true
          ·subst c10
           have H1 : (some (0, (⟨#[]⟩ : ByteArray), false)) = some (r1, r2, r3) := by rw [if_pos rfl] at H; exact H
           clear H
           have H := H1
           clear H1
           simp only [Option.some.injEq, Prod.mk.injEq] at H
           obtain ⟨rfl, rfl, rfl⟩ := H
           go_wp2
           repeat (go_quiet (fail); try go_wp2)
           go_ret3
           exact ⟨by first | rfl | (simp; done) | (simp [*]; done), by repeat (first | exact Drawn0.refl _ | apply Drawn0.step)⟩
          ·replace c10 := Bool.eq_false_iff.mpr c10
           subst c10
           have H1 : (if 0 ≤ (wrap64 (7 * x6_1)) then (if 0 ≤ x6_1 then (if x6_1 < (a0.size : Int) then (if (bt a0 x6_1) ≥ 128 then (impl_TakeVar.l0 kj7 a0 (Go.bits .or .u64 x5_1 (shl .u64 (IntKind.u64.wrap (Go.bits .and .u8 (bt a0 x6_1) 127)) (wrap64 (7 * x6_1)))) (wrap64 (x6_1 + 1))) else (if (IntKind.u64.wrap (Go.bits .and .u8 (bt a0 x6_1) 127)) = 0 then (if x6_1 > 0 then (some (0, (⟨#[]⟩ : ByteArray), false)) else (if 0 ≤ (wrap64 (x6_1 + 1)) then (if (wrap64 (x6_1 + 1)) ≤ (a0.size : Int) then (some (Go.bits .or .u64 x5_1 (shl .u64 (IntKind.u64.wrap (Go.bits .and .u8 (bt a0 x6_1) 127)) (wrap64 (7 * x6_1))), a0.extract ((wrap64 (x6_1 + 1)) : Int).toNat a0.size, true)) else (none)) else (none))) else (if 0 ≤ (wrap64 (x6_1 + 1)) then (if (wrap64 (x6_1 + 1)) ≤ (a0.size : Int) then (some (Go.bits .or .u64 x5_1 (shl .u64 (IntKind.u64.wrap (Go.bits .and .u8 (bt a0 x6_1) 127)) (wrap64 (7 * x6_1))), a0.extract ((wrap64 (x6_1 + 1)) : Int).toNat a0.size, true)) else (none)) else (none)))) else (none)) else (none)) else (none)) = some (r1, r2, r3) := by rw [if_neg (show ¬ (false = true) by decide)] at H; exact H
           clear H
           have H := H1
           clear H1
           obtain ⟨ji11, hji11⟩ : ∃ j_ : Int, (wrap64 (7 * x6_1)) = j_ := ⟨_, rfl⟩
           replace H : (if 0 ≤ (ji11) then (if 0 ≤ x6_1 then (if x6_1 < (a0.size : Int) then (if (bt a0 x6_1) ≥ 128 then (impl_TakeVar.l0 kj7 a0 (Go.bits .or .u64 x5_1 (shl .u64 (IntKind.u64.wrap (Go.bits .and .u8 (bt a0 x6_1) 127)) (ji11))) (wrap64 (x6_1 + 1))) else (if (IntKind.u64.wrap (Go.bits .and .u8 (bt a0 x6_1) 127)) = 0 then (if x6_1 > 0 then (some (0, (⟨#[]⟩ : ByteArray), false)) else (if 0 ≤ (wrap64 (x6_1 + 1)) then (if (wrap64 (x6_1 + 1)) ≤ (a0.size : Int) then (some (Go.bits .or .u64 x5_1 (shl .u64 (IntKind.u64.wrap (Go.bits .and .u8 (bt a0 x6_1) 127)) (ji11)), a0.extract ((wrap64 (x6_1 + 1)) : Int).toNat a0.size, true)) else (none)) else (none))) else (if 0 ≤ (wrap64 (x6_1 + 1)) then (if (wrap64 (x6_1 + 1)) ≤ (a0.size : Int) then (some (Go.bits .or .u64 x5_1 (shl .u64 (IntKind.u64.wrap (Go.bits .and .u8 (bt a0 x6_1) 127)) (ji11)), a0.extract ((wrap64 (x6_1 + 1)) : Int).toNat a0.size, true)) else (none)) else (none)))) else (none)) else (none)) else (none)) = some (r1, r2, r3) := by first | (rw [hji11] at H; exact H) | (simp only [hji11] at H ⊢; exact H)
           have hji11w : (IntKind.i64.wrap (7 * x6_1)) = ji11 := (i64_w _).trans hji11
           by_cases c12 : 0 ≤ (ji11)
           ·rw [if_pos c12] at H
            have c12b0 := eq_true c12
            have c12b1 : decide (0 ≤ (ji11)) = true := decide_eq_true c12
            clear c12
            obtain ⟨ji13, hji13⟩ : ∃ j_ : Int, (shl .u64 (IntKind.u64.wrap (Go.bits .and .u8 (bt a0 x6_1) 127)) (ji11)) = j_ := ⟨_, rfl⟩
            replace H : (if 0 ≤ x6_1 then (if x6_1 < (a0.size : Int) then (if (bt a0 x6_1) ≥ 128 then (impl_TakeVar.l0 kj7 a0 (Go.bits .or .u64 x5_1 (ji13)) (wrap64 (x6_1 + 1))) else (if (IntKind.u64.wrap (Go.bits .and .u8 (bt a0 x6_1) 127)) = 0 then (if x6_1 > 0 then (some (0, (⟨#[]⟩ : ByteArray), false)) else (if 0 ≤ (wrap64 (x6_1 + 1)) then (if (wrap64 (x6_1 + 1)) ≤ (a0.size : Int) then (some (Go.bits .or .u64 x5_1 (ji13), a0.extract ((wrap64 (x6_1 + 1)) : Int).toNat a0.size, true)) else (none)) else (none))) else (if 0 ≤ (wrap64 (x6_1 + 1)) then (if (wrap64 (x6_1 + 1)) ≤ (a0.size : Int) then (some (Go.bits .or .u64 x5_1 (ji13), a0.extract ((wrap64 (x6_1 + 1)) : Int).toNat a0.size, true)) else (none)) else (none)))) else (none)) else (none)) = some (r1, r2, r3) := by first | (rw [hji13] at H; exact H) | (simp only [hji13] at H ⊢; exact H)
            have hji13_ : (IntKind.u64.wrap ((IntKind.u64.wrap (Go.bits .and .u8 (bt a0 x6_1) 127)) * 2 ^ min (ji11).toNat 64)) = ji13 := hji13
            have hji13z : (ji11) ≤ 64 → (IntKind.u64.wrap ((IntKind.u64.wrap (Go.bits .and .u8 (bt a0 x6_1) 127)) * 2 ^ (ji11).toNat)) = ji13 := shl_small hji13
            by_cases c14 : 0 ≤ x6_1
            ·rw [if_pos c14] at H
             have c14b0 : decide (0 ≤ x6_1) = true := decide_eq_true c14
             clear c14
             by_cases c15 : x6_1 < (a0.size : Int)
             ·rw [if_pos c15] at H
              have c15b0 : decide (x6_1 < (a0.size : Int)) = true := decide_eq_true c15
              clear c15
              by_cases c17 : (bt a0 x6_1) ≥ 128
              ·rw [if_pos c17] at H
               have c17b0 : decide (128 ≤ (bt a0 x6_1)) = true := decide_eq_true c17
               clear c17
               have H' := Qz.mk H
               clear H
               have p16 : 0 ≤ (x6_1 : Int) := of_decide_eq_true yq72
               have q16 : x6_1 < (a0.size : Int) := of_decide_eq_true yq72
               have hx16 := bt_at a0 x6_1
               replace p16 := eq_true p16
               replace q16 := eq_true q16
               go_wp2
               repeat (go_quiet (fail); try go_wp2)
               go_roundg kj7
               case measure => have := HK1.out; have := HJ1.out; have := HJ7.out; omega
               case rel => exact ⟨(Go.bits .or .u64 x5_1 (ji13)), (wrap64 (x6_1 + 1)), (by first | rfl | (simp; done) | (simp only [← hji13] <;> (first | rfl | simp)) | (simp [*]; done)), yq73, H', ⟨by have := HK1.out; have := HJ1.out; have := HJ7.out; omega⟩, by repeat (first | exact Drawn0.refl _ | apply Drawn0.step)⟩
              ·rw [if_neg c17] at H
               have c17b0 : decide (128 ≤ (bt a0 x6_1)) = false := decide_eq_false c17
               clear c17
               by_cases c18 : (IntKind.u64.wrap (Go.bits .and .u8 (bt a0 x6_1) 127)) = 0
               ·rw [if_pos c18] at H
                have c18b0 : ((IntKind.u64.wrap (Go.bits .and .u8 (bt a0 x6_1) 127)) == 0) = true := beq_iff_eq.mpr c18
                have c18b1 : ((IntKind.u64.wrap (Go.bits .and .u8 (bt a0 x6_1) 127)) != 0) = false := bne_eq_false_iff_eq.mpr c18
                clear c18
                by_cases c19 : x6_1 > 0
                ·rw [if_pos c19] at H
                 have c19b0 : decide (0 < x6_1) = true := decide_eq_true c19
                 clear c19
                 simp only [Option.some.injEq, Prod.mk.injEq] at H
                 obtain ⟨rfl, rfl, rfl⟩ := H
                 have p16 : 0 ≤ (x6_1 : Int) := of_decide_eq_true yq72
                 have q16 : x6_1 < (a0.size : Int) := of_decide_eq_true yq72
                 have hx16 := bt_at a0 x6_1
                 replace p16 := eq_true p16
                 replace q16 := eq_true q16
                 go_wp2
                 repeat (go_quiet (fail); try go_wp2)
                 go_ret3
                 exact ⟨by first | rfl | (simp; done) | (simp only [← hji11, ← hji13] <;> (first | rfl | simp)) | (simp [*]; done), by repeat (first | exact Drawn0.refl _ | apply Drawn0.step)⟩
                ·rw [if_neg c19] at H
                 have c19b0 : decide (0 < x6_1) = false := decide_eq_false c19
                 clear c19
                 obtain ⟨ji20, hji20⟩ : ∃ j_ : Int, (wrap64 (x6_1 + 1)) = j_ := ⟨_, rfl⟩
                 replace H : (if 0 ≤ (ji20) then (if (ji20) ≤ (a0.size : Int) then (some (Go.bits .or .u64 x5_1 (ji13), a0.extract ((ji20) : Int).toNat a0.size, true)) else (none)) else (none)) = some (r1, r2, r3) := by first | (rw [hji20] at H; exact H) | (simp only [hji20] at H ⊢; exact H)
                 have hji20w : (IntKind.i64.wrap (x6_1 + 1)) = ji20 := (i64_w _).trans hji20
                 by_cases c21 : 0 ≤ (ji20)
                 ·rw [if_pos c21] at H
                  have c21b0 := eq_true c21
                  have c21b1 : decide (0 ≤ (ji20)) = true := decide_eq_true c21
                  clear c21
                  by_cases c22 : (ji20) ≤ (a0.size : Int)
                  ·rw [if_pos c22] at H
                   have c22b0 := eq_true c22
                   have c22b1 : decide ((ji20) ≤ (a0.size : Int)) = true := decide_eq_true c22
                   clear c22
                   simp only [Option.some.injEq, Prod.mk.injEq] at H
                   obtain ⟨rfl, rfl, rfl⟩ := H
                   have p16 : 0 ≤ (x6_1 : Int) := of_decide_eq_true yq72
                   have q16 : x6_1 < (a0.size : Int) := of_decide_eq_true yq72
                   have hx16 := bt_at a0 x6_1
                   replace p16 := eq_true p16
                   replace q16 := eq_true q16
                   go_wp2
                   repeat (go_quiet (fail); try go_wp2)
                   go_ret3
                   exact ⟨by first | rfl | (simp; done) | (simp only [← hji11, ← hji13, ← hji20] <;> (first | rfl | simp)) | (simp [*]; done), by repeat (first | exact Drawn0.refl _ | apply Drawn0.step)⟩
                  ·rw [if_neg c22] at H
                   exact absurd H (by simp)
                 ·rw [if_neg c21] at H
                  exact absurd H (by simp)
               ·rw [if_neg c18] at H
                have c18b0 : ((IntKind.u64.wrap (Go.bits .and .u8 (bt a0 x6_1) 127)) == 0) = false := beq_eq_false_iff_ne.mpr c18
                have c18b1 : ((IntKind.u64.wrap (Go.bits .and .u8 (bt a0 x6_1) 127)) != 0) = true := bne_iff_ne.mpr c18
                obtain ⟨ji23, hji23⟩ : ∃ j_ : Int, (wrap64 (x6_1 + 1)) = j_ := ⟨_, rfl⟩
                replace H : (if 0 ≤ (ji23) then (if (ji23) ≤ (a0.size : Int) then (some (Go.bits .or .u64 x5_1 (ji13), a0.extract ((ji23) : Int).toNat a0.size, true)) else (none)) else (none)) = some (r1, r2, r3) := by first | (rw [hji23] at H; exact H) | (simp only [hji23] at H ⊢; exact H)
                have hji23w : (IntKind.i64.wrap (x6_1 + 1)) = ji23 := (i64_w _).trans hji23
                by_cases c24 : 0 ≤ (ji23)
                ·rw [if_pos c24] at H
                 have c24b0 := eq_true c24
                 have c24b1 : decide (0 ≤ (ji23)) = true := decide_eq_true c24
                 clear c24
                 by_cases c25 : (ji23) ≤ (a0.size : Int)
                 ·rw [if_pos c25] at H
                  have c25b0 := eq_true c25
                  have c25b1 : decide ((ji23) ≤ (a0.size : Int)) = true := decide_eq_true c25
                  clear c25
                  simp only [Option.some.injEq, Prod.mk.injEq] at H
                  obtain ⟨rfl, rfl, rfl⟩ := H
                  have p16 : 0 ≤ (x6_1 : Int) := of_decide_eq_true yq72
                  have q16 : x6_1 < (a0.size : Int) := of_decide_eq_true yq72
                  have hx16 := bt_at a0 x6_1
                  replace p16 := eq_true p16
                  replace q16 := eq_true q16
                  go_wp2
                  repeat (go_quiet (fail); try go_wp2)
                  go_ret3
                  exact ⟨by first | rfl | (simp; done) | (simp only [← hji11, ← hji13, ← hji23] <;> (first | rfl | simp)) | (simp [*]; done), by repeat (first | exact Drawn0.refl _ | apply Drawn0.step)⟩
                 ·rw [if_neg c25] at H
                  exact absurd H (by simp)
                ·rw [if_neg c24] at H
                 exact absurd H (by simp)
             ·rw [if_neg c15] at H
              exact absurd H (by simp)
            ·rw [if_neg c14] at H
             exact absurd H (by simp)
           ·rw [if_neg c12] at H
            exact absurd H (by simp)
       ·rw [if_neg c6] at H
        exact absurd H (by simp)
      ·rw [if_neg c5] at H
       exact absurd H (by simp)
     ·replace c4 := Bool.eq_false_iff.mpr c4
      subst c4
      have H1 : (some (0, (⟨#[]⟩ : ByteArray), false)) = some (r1, r2, r3) := by rw [if_neg (show ¬ (false = true) by decide)] at H; exact H
      clear H
      have H := H1
      clear H1
      simp only [Option.some.injEq, Prod.mk.injEq] at H
      obtain ⟨rfl, rfl, rfl⟩ := H
      go_wp2
      repeat (go_quiet (fail); try go_wp2)
      go_ret3
      exact ⟨by first | rfl | (simp; done) | (simp [*]; done), by repeat (first | exact Drawn0.refl _ | apply Drawn0.step)⟩
def impl_taker_number.f (k : Nat) (s0_0 : ByteArray) (s0_1 : Bool) : Option (Int × ByteArray × Bool) := (impl_TakeVar.f k s0_0).bind fun bt101 => (if bt101.2.2 = true then (if bt101.1 > 4611686018427387904 then (some (0, s0_0, true)) else (some (wrap64 (bt101.1), bt101.2.1, s0_1))) else (some (0, s0_0, true)))
set_option maxHeartbeats 8000000 in
set_option maxRecDepth 100000 in
theorem impl_taker_number.calls (k : Nat) (g : Nat) (s0_0 : ByteArray) (s0_1 : Bool) (r1 : Int) (r2 : ByteArray) (r3 : Bool) (w0 w : World) (hI : IsS123 w0 w g s0_0 s0_1) (hB : Below w0.heap.size w0 w) (h : impl_taker_number.f k s0_0 s0_1 = some (r1, r2, r3)) :
  Calls Try.prog 86 #[.pointer (some ⟨g, 0, none⟩)] w fun e w' => e = .returned (.int .i64 r1) ∧ IsS123 w0 w' g r2 r3 ∧ Below w0.heap.size w0 w' ∧ KeepBut w w' g none := by
 have HI0 := Qz.mk hI
 have HK := Qz.mk (KeepBut.refl w g none)
 have HL := Qz.mk hB.size
 clear hI
 have HW0 := Qz.mk hB.size
 have HB := Qz.mk hB
 clear hB
 have H : ((impl_TakeVar.f k s0_0).bind fun bt101 => (if bt101.2.2 = true then (if bt101.1 > 4611686018427387904 then (some (0, s0_0, true)) else (some (wrap64 (bt101.1), bt101.2.1, s0_1))) else (some (0, s0_0, true)))) = some (r1, r2, r3) := h
 clear h
 replace H := Option.bind_eq_some_iff.mp H
 obtain ⟨⟨t101, t102, t103⟩, A20, H⟩ := H
 replace H : (if t103 = true then (if t101 > 4611686018427387904 then (some (0, s0_0, true)) else (some (wrap64 (t101), t102, s0_1))) else (some (0, s0_0, true))) = some (r1, r2, r3) := H
 have A2 := Qz.mk A20
 clear A20
 by_cases c3 : t103 = true
 ·subst c3
  have H1 : (if t101 > 4611686018427387904 then (some (0, s0_0, true)) else (some (wrap64 (t101), t102, s0_1))) = some (r1, r2, r3) := by rw [if_pos rfl] at H; exact H
  clear H
  have H := H1
  clear H1
  by_cases c4 : t101 > 4611686018427387904
  ·rw [if_pos c4] at H
   have c4b0 : decide (4611686018427387904 < t101) = true := decide_eq_true c4
   clear c4
   simp only [Option.some.injEq, Prod.mk.injEq] at H
   obtain ⟨rfl, rfl, rfl⟩ := H
   obtain ⟨HGz5, hgz5⟩ := HI0.out
   have hcz5_0 := cellS123_0 HGz5
   have hcz5_1 := cellS123_1 HGz5
   have hfz5_0 := qi HGz5 0
   have hfz5_1 := qi HGz5 1
   clear HGz5 hgz5
   go_enter Try.func86, Try.ntmps86
   go_wp2_with (first | ((with_reducible refine ql (f := 153) rfl ?_); refine qy (some 11) rfl rfl Try.func153 (by kernel_rfl) rfl #[.string s0_0] rfl (by (try simp only [List.map_toArray, List.map_cons, List.map_nil]); first | done | rfl) ?_; (with_reducible refine (impl_TakeVar.calls k s0_0 t101 t102 true _ A2.out).mono ?_); rintro e w' ⟨rfl, ⟨nd, rfl⟩⟩; refine ⟨_, rfl, ?_⟩))
   go_ret
   exact ⟨by first | rfl | (simp [qo, qn] <;> rfl) | (simp [*, qo, qn] <;> rfl), by repeat (first | (with_reducible first | exact HI0.out | apply IsS123.alloc | apply IsS123.drewN | apply IsS123.drew | apply IsS123.set_0 | apply IsS123.set_1) | exact HI0.out), by repeat (first | (with_reducible first | exact HB.out | apply qc | apply qa | apply qb | refine qd ?_ (IsS123.ge HI0.out)) | exact HB.out), by repeat (first | (with_reducible first | exact HK.out | apply KeepBut.set_ | apply qt | apply qv | apply qu) | exact HK.out)⟩
  ·rw [if_neg c4] at H
   have c4b0 : decide (4611686018427387904 < t101) = false := decide_eq_false c4
   clear c4
   simp only [Option.some.injEq, Prod.mk.injEq] at H
   obtain ⟨rfl, rfl, rfl⟩ := H
   obtain ⟨HGz6, hgz6⟩ := HI0.out
   have hcz6_0 := cellS123_0 HGz6
   have hcz6_1 := cellS123_1 HGz6
   have hfz6_0 := qi HGz6 0
   have hfz6_1 := qi HGz6 1
   clear HGz6 hgz6
   go_enter Try.func86, Try.ntmps86
   go_wp2_with (first | ((with_reducible refine ql (f := 153) rfl ?_); refine qy (some 11) rfl rfl Try.func153 (by kernel_rfl) rfl #[.string s0_0] rfl (by (try simp only [List.map_toArray, List.map_cons, List.map_nil]); first | done | rfl) ?_; (with_reducible refine (impl_TakeVar.calls k s0_0 t101 t102 true _ A2.out).mono ?_); rintro e w' ⟨rfl, ⟨nd, rfl⟩⟩; refine ⟨_, rfl, ?_⟩))
   go_ret
   exact ⟨by first | rfl | (simp [qo, qn] <;> rfl) | (simp [*, qo, qn] <;> rfl), by repeat (first | (with_reducible first | exact HI0.out | apply IsS123.alloc | apply IsS123.drewN | apply IsS123.drew | apply IsS123.set_0 | apply IsS123.set_1) | exact HI0.out), by repeat (first | (with_reducible first | exact HB.out | apply qc | apply qa | apply qb | refine qd ?_ (IsS123.ge HI0.out)) | exact HB.out), by repeat (first | (with_reducible first | exact HK.out | apply KeepBut.set_ | apply qt | apply qv | apply qu) | exact HK.out)⟩
 ·replace c3 := Bool.eq_false_iff.mpr c3
  subst c3
  have H1 : (some (0, s0_0, true)) = some (r1, r2, r3) := by rw [if_neg (show ¬ (false = true) by decide)] at H; exact H
  clear H
  have H := H1
  clear H1
  simp only [Option.some.injEq, Prod.mk.injEq] at H
  obtain ⟨rfl, rfl, rfl⟩ := H
  obtain ⟨HGz7, hgz7⟩ := HI0.out
  have hcz7_0 := cellS123_0 HGz7
  have hcz7_1 := cellS123_1 HGz7
  have hfz7_0 := qi HGz7 0
  have hfz7_1 := qi HGz7 1
  clear HGz7 hgz7
  go_enter Try.func86, Try.ntmps86
  go_wp2_with (first | ((with_reducible refine ql (f := 153) rfl ?_); refine qy (some 11) rfl rfl Try.func153 (by kernel_rfl) rfl #[.string s0_0] rfl (by (try simp only [List.map_toArray, List.map_cons, List.map_nil]); first | done | rfl) ?_; (with_reducible refine (impl_TakeVar.calls k s0_0 t101 t102 false _ A2.out).mono ?_); rintro e w' ⟨rfl, ⟨nd, rfl⟩⟩; refine ⟨_, rfl, ?_⟩))
  go_ret
  exact ⟨by first | rfl | (simp [qo, qn] <;> rfl) | (simp [*, qo, qn] <;> rfl), by repeat (first | (with_reducible first | exact HI0.out | apply IsS123.alloc | apply IsS123.drewN | apply IsS123.drew | apply IsS123.set_0 | apply IsS123.set_1) | exact HI0.out), by repeat (first | (with_reducible first | exact HB.out | apply qc | apply qa | apply qb | refine qd ?_ (IsS123.ge HI0.out)) | exact HB.out), by repeat (first | (with_reducible first | exact HK.out | apply KeepBut.set_ | apply qt | apply qv | apply qu) | exact HK.out)⟩
def impl_TakeText.f (k : Nat) (a0 : ByteArray) : Option (ByteArray × ByteArray × Bool) := (impl_TakeVar.f k a0).bind fun bt101 => (if bt101.2.2 = true then (if bt101.1 > 60000 then (some ((⟨#[]⟩ : ByteArray), (⟨#[]⟩ : ByteArray), false)) else (if bt101.1 > (IntKind.u64.wrap ((bt101.2.1.size : Int))) then (some ((⟨#[]⟩ : ByteArray), (⟨#[]⟩ : ByteArray), false)) else (if 0 ≤ bt101.1 then (if bt101.1 ≤ (bt101.2.1.size : Int) then (some (bt101.2.1.extract 0 (bt101.1 : Int).toNat, bt101.2.1.extract (bt101.1 : Int).toNat bt101.2.1.size, true)) else (none)) else (none)))) else (some ((⟨#[]⟩ : ByteArray), (⟨#[]⟩ : ByteArray), false)))
set_option maxHeartbeats 8000000 in
set_option maxRecDepth 100000 in
theorem impl_TakeText.calls (k : Nat) (a0 : ByteArray) (r1 : ByteArray) (r2 : ByteArray) (r3 : Bool) (w : World) (h : impl_TakeText.f k a0 = some (r1, r2, r3)) :
  Calls Try.prog 154 #[.string a0] w fun e w' => e = .returned (.tuple #[.string r1, .string r2, .bool r3]) ∧ Drawn0 w w' := by
 have H : ((impl_TakeVar.f k a0).bind fun bt101 => (if bt101.2.2 = true then (if bt101.1 > 60000 then (some ((⟨#[]⟩ : ByteArray), (⟨#[]⟩ : ByteArray), false)) else (if bt101.1 > (IntKind.u64.wrap ((bt101.2.1.size : Int))) then (some ((⟨#[]⟩ : ByteArray), (⟨#[]⟩ : ByteArray), false)) else (if 0 ≤ bt101.1 then (if bt101.1 ≤ (bt101.2.1.size : Int) then (some (bt101.2.1.extract 0 (bt101.1 : Int).toNat, bt101.2.1.extract (bt101.1 : Int).toNat bt101.2.1.size, true)) else (none)) else (none)))) else (some ((⟨#[]⟩ : ByteArray), (⟨#[]⟩ : ByteArray), false)))) = some (r1, r2, r3) := h
 clear h
 replace H := Option.bind_eq_some_iff.mp H
 obtain ⟨⟨t101, t102, t103⟩, A20, H⟩ := H
 replace H : (if t103 = true then (if t101 > 60000 then (some ((⟨#[]⟩ : ByteArray), (⟨#[]⟩ : ByteArray), false)) else (if t101 > (IntKind.u64.wrap ((t102.size : Int))) then (some ((⟨#[]⟩ : ByteArray), (⟨#[]⟩ : ByteArray), false)) else (if 0 ≤ t101 then (if t101 ≤ (t102.size : Int) then (some (t102.extract 0 (t101 : Int).toNat, t102.extract (t101 : Int).toNat t102.size, true)) else (none)) else (none)))) else (some ((⟨#[]⟩ : ByteArray), (⟨#[]⟩ : ByteArray), false))) = some (r1, r2, r3) := H
 have A2 := Qz.mk A20
 clear A20
 by_cases c3 : t103 = true
 ·subst c3
  have H1 : (if t101 > 60000 then (some ((⟨#[]⟩ : ByteArray), (⟨#[]⟩ : ByteArray), false)) else (if t101 > (IntKind.u64.wrap ((t102.size : Int))) then (some ((⟨#[]⟩ : ByteArray), (⟨#[]⟩ : ByteArray), false)) else (if 0 ≤ t101 then (if t101 ≤ (t102.size : Int) then (some (t102.extract 0 (t101 : Int).toNat, t102.extract (t101 : Int).toNat t102.size, true)) else (none)) else (none)))) = some (r1, r2, r3) := by rw [if_pos rfl] at H; exact H
  clear H
  have H := H1
  clear H1
  by_cases c4 : t101 > 60000
  ·rw [if_pos c4] at H
   have c4b0 : decide (60000 < t101) = true := decide_eq_true c4
   clear c4
   simp only [Option.some.injEq, Prod.mk.injEq] at H
   obtain ⟨rfl, rfl, rfl⟩ := H
   go_enter Try.func154, Try.ntmps154
   go_wp2_with (first | (go_at_call 153; (with_reducible refine (impl_TakeVar.calls k a0 t101 t102 true _ A2.out).mono ?_); rintro e w' ⟨rfl, ⟨nd, rfl⟩⟩; (try first | exact ⟨rfl, _, World.drewN_drewN _ _ _⟩ | exact ⟨rfl, _, Eq.trans (World.drewN_drewN _ _ _) (congrArg (World.drewN _) (Nat.add_assoc _ _ _))⟩)))
   repeat (go_quiet (first | (go_at_call 153; (with_reducible refine (impl_TakeVar.calls k a0 t101 t102 true _ A2.out).mono ?_); rintro e w' ⟨rfl, ⟨nd, rfl⟩⟩; (try first | exact ⟨rfl, _, World.drewN_drewN _ _ _⟩ | exact ⟨rfl, _, Eq.trans (World.drewN_drewN _ _ _) (congrArg (World.drewN _) (Nat.add_assoc _ _ _))⟩))); try go_wp2_with (first | (go_at_call 153; (with_reducible refine (impl_TakeVar.calls k a0 t101 t102 true _ A2.out).mono ?_); rintro e w' ⟨rfl, ⟨nd, rfl⟩⟩; (try first | exact ⟨rfl, _, World.drewN_drewN _ _ _⟩ | exact ⟨rfl, _, Eq.trans (World.drewN_drewN _ _ _) (congrArg (World.drewN _) (Nat.add_assoc _ _ _))⟩))))
   go_ret3
   exact ⟨by first | rfl | (simp; done) | (simp [*]; done), by repeat (first | exact Drawn0.refl _ | apply Drawn0.step)⟩
  ·rw [if_neg c4] at H
   have c4b0 : decide (60000 < t101) = false := decide_eq_false c4
   clear c4
   by_cases c5 : t101 > (IntKind.u64.wrap ((t102.size : Int)))
   ·rw [if_pos c5] at H
    have c5b0 : decide ((IntKind.u64.wrap ((t102.size : Int))) < t101) = true := decide_eq_true c5
    clear c5
    simp only [Option.some.injEq, Prod.mk.injEq] at H
    obtain ⟨rfl, rfl, rfl⟩ := H
    go_enter Try.func154, Try.ntmps154
    go_wp2_with (first | (go_at_call 153; (with_reducible refine (impl_TakeVar.calls k a0 t101 t102 true _ A2.out).mono ?_); rintro e w' ⟨rfl, ⟨nd, rfl⟩⟩; (try first | exact ⟨rfl, _, World.drewN_drewN _ _ _⟩ | exact ⟨rfl, _, Eq.trans (World.drewN_drewN _ _ _) (congrArg (World.drewN _) (Nat.add_assoc _ _ _))⟩)))
    repeat (go_quiet (first | (go_at_call 153; (with_reducible refine (impl_TakeVar.calls k a0 t101 t102 true _ A2.out).mono ?_); rintro e w' ⟨rfl, ⟨nd, rfl⟩⟩; (try first | exact ⟨rfl, _, World.drewN_drewN _ _ _⟩ | exact ⟨rfl, _, Eq.trans (World.drewN_drewN _ _ _) (congrArg (World.drewN _) (Nat.add_assoc _ _ _))⟩))); try go_wp2_with (first | (go_at_call 153; (with_reducible refine (impl_TakeVar.calls k a0 t101 t102 true _ A2.out).mono ?_); rintro e w' ⟨rfl, ⟨nd, rfl⟩⟩; (try first | exact ⟨rfl, _, World.drewN_drewN _ _ _⟩ | exact ⟨rfl, _, Eq.trans (World.drewN_drewN _ _ _) (congrArg (World.drewN _) (Nat.add_assoc _ _ _))⟩))))
    go_ret3
    exact ⟨by first | rfl | (simp; done) | (simp [*]; done), by repeat (first | exact Drawn0.refl _ | apply Drawn0.step)⟩
   ·rw [if_neg c5] at H
    have c5b0 : decide ((IntKind.u64.wrap ((t102.size : Int))) < t101) = false := decide_eq_false c5
    clear c5
    by_cases c6 : 0 ≤ t101
    ·rw [if_pos c6] at H
     have c6b0 := eq_true c6
     have c6b1 : decide (0 ≤ t101) = true := decide_eq_true c6
     clear c6
     by_cases c7 : t101 ≤ (t102.size : Int)
     ·rw [if_pos c7] at H
      have c7b0 := eq_true c7
      have c7b1 : decide (t101 ≤ (t102.size : Int)) = true := decide_eq_true c7
      clear c7
      have c8b0 := eq_true (of_decide_eq_true (by first | (with_reducible assumption) | assumption) : 0 ≤ t101)
      have c9b0 := eq_true (of_decide_eq_true (by first | (with_reducible assumption) | assumption) : t101 ≤ (t102.size : Int))
      simp only [Option.some.injEq, Prod.mk.injEq] at H
      obtain ⟨rfl, rfl, rfl⟩ := H
      go_enter Try.func154, Try.ntmps154
      go_wp2_with (first | (go_at_call 153; (with_reducible refine (impl_TakeVar.calls k a0 t101 t102 true _ A2.out).mono ?_); rintro e w' ⟨rfl, ⟨nd, rfl⟩⟩; (try first | exact ⟨rfl, _, World.drewN_drewN _ _ _⟩ | exact ⟨rfl, _, Eq.trans (World.drewN_drewN _ _ _) (congrArg (World.drewN _) (Nat.add_assoc _ _ _))⟩)))
      repeat (go_quiet (first | (go_at_call 153; (with_reducible refine (impl_TakeVar.calls k a0 t101 t102 true _ A2.out).mono ?_); rintro e w' ⟨rfl, ⟨nd, rfl⟩⟩; (try first | exact ⟨rfl, _, World.drewN_drewN _ _ _⟩ | exact ⟨rfl, _, Eq.trans (World.drewN_drewN _ _ _) (congrArg (World.drewN _) (Nat.add_assoc _ _ _))⟩))); try go_wp2_with (first | (go_at_call 153; (with_reducible refine (impl_TakeVar.calls k a0 t101 t102 true _ A2.out).mono ?_); rintro e w' ⟨rfl, ⟨nd, rfl⟩⟩; (try first | exact ⟨rfl, _, World.drewN_drewN _ _ _⟩ | exact ⟨rfl, _, Eq.trans (World.drewN_drewN _ _ _) (congrArg (World.drewN _) (Nat.add_assoc _ _ _))⟩))))
      go_ret3
      exact ⟨by first | rfl | (simp; done) | (simp [*]; done), by repeat (first | exact Drawn0.refl _ | apply Drawn0.step)⟩
     ·rw [if_neg c7] at H
      exact absurd H (by simp)
    ·rw [if_neg c6] at H
     exact absurd H (by simp)
 ·replace c3 := Bool.eq_false_iff.mpr c3
  subst c3
  have H1 : (some ((⟨#[]⟩ : ByteArray), (⟨#[]⟩ : ByteArray), false)) = some (r1, r2, r3) := by rw [if_neg (show ¬ (false = true) by decide)] at H; exact H
  clear H
  have H := H1
  clear H1
  simp only [Option.some.injEq, Prod.mk.injEq] at H
  obtain ⟨rfl, rfl, rfl⟩ := H
  go_enter Try.func154, Try.ntmps154
  go_wp2_with (first | (go_at_call 153; (with_reducible refine (impl_TakeVar.calls k a0 t101 t102 false _ A2.out).mono ?_); rintro e w' ⟨rfl, ⟨nd, rfl⟩⟩; (try first | exact ⟨rfl, _, World.drewN_drewN _ _ _⟩ | exact ⟨rfl, _, Eq.trans (World.drewN_drewN _ _ _) (congrArg (World.drewN _) (Nat.add_assoc _ _ _))⟩)))
  repeat (go_quiet (first | (go_at_call 153; (with_reducible refine (impl_TakeVar.calls k a0 t101 t102 false _ A2.out).mono ?_); rintro e w' ⟨rfl, ⟨nd, rfl⟩⟩; (try first | exact ⟨rfl, _, World.drewN_drewN _ _ _⟩ | exact ⟨rfl, _, Eq.trans (World.drewN_drewN _ _ _) (congrArg (World.drewN _) (Nat.add_assoc _ _ _))⟩))); try go_wp2_with (first | (go_at_call 153; (with_reducible refine (impl_TakeVar.calls k a0 t101 t102 false _ A2.out).mono ?_); rintro e w' ⟨rfl, ⟨nd, rfl⟩⟩; (try first | exact ⟨rfl, _, World.drewN_drewN _ _ _⟩ | exact ⟨rfl, _, Eq.trans (World.drewN_drewN _ _ _) (congrArg (World.drewN _) (Nat.add_assoc _ _ _))⟩))))
  go_ret3
  exact ⟨by first | rfl | (simp; done) | (simp [*]; done), by repeat (first | exact Drawn0.refl _ | apply Drawn0.step)⟩
def impl_taker_text.f (k : Nat) (s0_0 : ByteArray) (s0_1 : Bool) : Option (ByteArray × ByteArray × Bool) := (impl_TakeText.f k s0_0).bind fun bt101 => (if bt101.2.2 = true then (some (bt101.1, bt101.2.1, s0_1)) else (some ((⟨#[]⟩ : ByteArray), s0_0, true)))
set_option maxHeartbeats 8000000 in
set_option maxRecDepth 100000 in
theorem impl_taker_text.calls (k : Nat) (g : Nat) (s0_0 : ByteArray) (s0_1 : Bool) (r1 : ByteArray) (r2 : ByteArray) (r3 : Bool) (w0 w : World) (hI : IsS123 w0 w g s0_0 s0_1) (hB : Below w0.heap.size w0 w) (h : impl_taker_text.f k s0_0 s0_1 = some (r1, r2, r3)) :
  Calls Try.prog 87 #[.pointer (some ⟨g, 0, none⟩)] w fun e w' => e = .returned (.string r1) ∧ IsS123 w0 w' g r2 r3 ∧ Below w0.heap.size w0 w' ∧ KeepBut w w' g none := by
 have HI0 := Qz.mk hI
 have HK := Qz.mk (KeepBut.refl w g none)
 have HL := Qz.mk hB.size
 clear hI
 have HW0 := Qz.mk hB.size
 have HB := Qz.mk hB
 clear hB
 have H : ((impl_TakeText.f k s0_0).bind fun bt101 => (if bt101.2.2 = true then (some (bt101.1, bt101.2.1, s0_1)) else (some ((⟨#[]⟩ : ByteArray), s0_0, true)))) = some (r1, r2, r3) := h
 clear h
 replace H := Option.bind_eq_some_iff.mp H
 obtain ⟨⟨t101, t102, t103⟩, A20, H⟩ := H
 replace H : (if t103 = true then (some (t101, t102, s0_1)) else (some ((⟨#[]⟩ : ByteArray), s0_0, true))) = some (r1, r2, r3) := H
 have A2 := Qz.mk A20
 clear A20
 by_cases c3 : t103 = true
 ·subst c3
  have H1 : (some (t101, t102, s0_1)) = some (r1, r2, r3) := by rw [if_pos rfl] at H; exact H
  clear H
  have H := H1
  clear H1
  simp only [Option.some.injEq, Prod.mk.injEq] at H
  obtain ⟨rfl, rfl, rfl⟩ := H
  obtain ⟨HGz4, hgz4⟩ := HI0.out
  have hcz4_0 := cellS123_0 HGz4
  have hcz4_1 := cellS123_1 HGz4
  have hfz4_0 := qi HGz4 0
  have hfz4_1 := qi HGz4 1
  clear HGz4 hgz4
  go_enter Try.func87, Try.ntmps87
  go_wp2_with (first | ((with_reducible refine ql (f := 154) rfl ?_); refine qy (some 11) rfl rfl Try.func154 (by kernel_rfl) rfl #[.string s0_0] rfl (by (try simp only [List.map_toArray, List.map_cons, List.map_nil]); first | done | rfl) ?_; (with_reducible refine (impl_TakeText.calls k s0_0 t101 t102 true _ A2.out).mono ?_); rintro e w' ⟨rfl, ⟨nd, rfl⟩⟩; refine ⟨_, rfl, ?_⟩))
  go_ret
  exact ⟨by first | rfl | (simp [qo, qn] <;> rfl) | (simp [*, qo, qn] <;> rfl), by repeat (first | (with_reducible first | exact HI0.out | apply IsS123.alloc | apply IsS123.drewN | apply IsS123.drew | apply IsS123.set_0 | apply IsS123.set_1) | exact HI0.out), by repeat (first | (with_reducible first | exact HB.out | apply qc | apply qa | apply qb | refine qd ?_ (IsS123.ge HI0.out)) | exact HB.out), by repeat (first | (with_reducible first | exact HK.out | apply KeepBut.set_ | apply qt | apply qv | apply qu) | exact HK.out)⟩
 ·replace c3 := Bool.eq_false_iff.mpr c3
  subst c3
  have H1 : (some ((⟨#[]⟩ : ByteArray), s0_0, true)) = some (r1, r2, r3) := by rw [if_neg (show ¬ (false = true) by decide)] at H; exact H
  clear H
  have H := H1
  clear H1
  simp only [Option.some.injEq, Prod.mk.injEq] at H
  obtain ⟨rfl, rfl, rfl⟩ := H
  obtain ⟨HGz5, hgz5⟩ := HI0.out
  have hcz5_0 := cellS123_0 HGz5
  have hcz5_1 := cellS123_1 HGz5
  have hfz5_0 := qi HGz5 0
  have hfz5_1 := qi HGz5 1
  clear HGz5 hgz5
  go_enter Try.func87, Try.ntmps87
  go_wp2_with (first | ((with_reducible refine ql (f := 154) rfl ?_); refine qy (some 11) rfl rfl Try.func154 (by kernel_rfl) rfl #[.string s0_0] rfl (by (try simp only [List.map_toArray, List.map_cons, List.map_nil]); first | done | rfl) ?_; (with_reducible refine (impl_TakeText.calls k s0_0 t101 t102 false _ A2.out).mono ?_); rintro e w' ⟨rfl, ⟨nd, rfl⟩⟩; refine ⟨_, rfl, ?_⟩))
  go_ret
  exact ⟨by first | rfl | (simp [qo, qn] <;> rfl) | (simp [*, qo, qn] <;> rfl), by repeat (first | (with_reducible first | exact HI0.out | apply IsS123.alloc | apply IsS123.drewN | apply IsS123.drew | apply IsS123.set_0 | apply IsS123.set_1) | exact HI0.out), by repeat (first | (with_reducible first | exact HB.out | apply qc | apply qa | apply qb | refine qd ?_ (IsS123.ge HI0.out)) | exact HB.out), by repeat (first | (with_reducible first | exact HK.out | apply KeepBut.set_ | apply qt | apply qv | apply qu) | exact HK.out)⟩
theorem yq74 {P : Prop} (h : P := by repeat (first | (with_reducible first | exact HI102.out | apply IsS123.alloc | apply IsS123.drewN | apply IsS123.drew | apply IsS123.set_0 | apply IsS123.set_1 | apply (fun h_ => IsS123.far h_ NB102_101.out _) | apply (fun h_ => IsS123.far h_ NB102_106.out _)) | exact HI102.out)) : P := h
theorem yq75 {P : Prop} (h : P := by (with_reducible repeat (first | refine qe ?_ _ | refine qg ?_ | refine qf ?_ _)); exact BK101.out) : P := h
theorem yq76 {P : Prop} (h : P := by repeat (first | (with_reducible first | exact HB.out | apply qc | apply qa | apply qb | refine qd ?_ (IsS123.ge HI102.out) | refine qd ?_ GE101.out | refine qd ?_ GE106.out) | exact HB.out)) : P := h
theorem yq77 {P : Prop} (h : P := by (with_reducible repeat (first | refine qe ?_ _ | refine qg ?_ | refine qf ?_ _)); refine qz (cs := #[.int .i64 0, .slice none 0 0]) ?_ 1 _ rfl; (with_reducible repeat (first | refine qe ?_ _ | refine qg ?_ | refine qf ?_ _)); refine qz (cs := #[.int .i64 x102000_2, .slice none 0 0]) ?_ 0 _ rfl; (with_reducible repeat (first | refine qe ?_ _ | refine qg ?_ | refine qf ?_ _)); exact BK101.out) : P := h
theorem yq78 {P : Prop} (h : P := by (with_reducible repeat (first | refine qe ?_ _ | refine qg ?_ | refine qf ?_ _)); exact BK106.out) : P := h
theorem yq79 {P : Prop} (h : P := by repeat (first | (with_reducible first | exact HI102.out | apply IsS123.alloc | apply IsS123.drewN | apply IsS123.drew | apply IsS123.set_0 | apply IsS123.set_1 | apply (fun h_ => IsS123.far h_ NB102_101.out _) | apply (fun h_ => IsS123.far h_ NB102_106.out _) | apply (fun h_ => IsS123.far h_ NB102_110.out _)) | exact HI102.out)) : P := h
theorem yq80 {P : Prop} (h : P := by repeat (first | (with_reducible first | exact HB.out | apply qc | apply qa | apply qb | refine qd ?_ (IsS123.ge HI102.out) | refine qd ?_ GE101.out | refine qd ?_ GE106.out | refine qd ?_ GE110.out) | exact HB.out)) : P := h
theorem yq81 {P : Prop} (h : P := by (with_reducible repeat (first | apply Kd.R_alloc | apply Kd.R_drewN | apply Kd.R_drew)); exact HO_107001.out) : P := h
theorem yq82 {P : Prop} (h : P := by (try simp only [List.map_toArray, List.map_cons, List.map_nil]); first | done | rfl) : P := h
theorem yq83 {P : Prop} (h : P := by repeat (first | (with_reducible first | exact HB.out | apply qc | apply qa | apply qb | refine qd ?_ (IsS123.ge HI102.out) | refine qd ?_ GE101.out) | exact HB.out)) : P := h
theorem yq84 {P : Prop} (h : P := by (with_reducible repeat (first | refine qe ?_ _ | refine qg ?_ | refine qf ?_ _)); refine qz (cs := #[.int .i64 (wrap64 (bt x103000_2 0)), .string t111, .string (⟨#[]⟩ : ByteArray)]) ?_ 2 _ rfl; (with_reducible repeat (first | refine qe ?_ _ | refine qg ?_ | refine qf ?_ _)); exact BK110.out) : P := h
theorem yq85 {P : Prop} (h : P := by repeat (first | (with_reducible first | exact HI102.out | apply IsS123.alloc | apply IsS123.drewN | apply IsS123.drew | apply IsS123.set_0 | apply IsS123.set_1 | apply (fun h_ => IsS123.far h_ NB102_101.out _)) | exact HI102.out)) : P := h
theorem yq86 {P : Prop} (h : P := by (with_reducible repeat (first | refine qe ?_ _ | refine qg ?_ | refine qf ?_ _)); refine blk_far ?_ NB106_110.out _; (with_reducible repeat (first | refine qe ?_ _ | refine qg ?_ | refine qf ?_ _)); exact BK106.out) : P := h
theorem yq87 {P : Prop} (h : P := by (with_reducible repeat (first | refine qe ?_ _ | refine qg ?_ | refine qf ?_ _)); refine blk_far ?_ NB101_110.out _; (with_reducible repeat (first | refine qe ?_ _ | refine qg ?_ | refine qf ?_ _)); exact BK101.out) : P := h
mutual
def impl_ReadBatch.j0 : Nat → Int → Bool → ByteArray → Bool → Int → Option (Int × (List (S148)) × Bool)
 | 0, _, _, _, _, _ => none
 | k + 1, x6, x23, x103000, x103001, x107000 => if x23 = true then (some (0, ([] : List (S148)), false)) else (impl_ReadBatch.l0 k x6 0 x103000 x103001 x107000 ([] : List (S148)))
def impl_ReadBatch.l0 : Nat → Int → Int → ByteArray → Bool → Int → List (S148) → Option (Int × (List (S148)) × Bool)
 | 0, _, _, _, _, _, _ => none
 | k + 1, x25, x26, x103000, x103001, x107000, x107001 => if x26 < x25 then (if x103000.toList = ([] : List UInt8) then (some (0, ([] : List (S148)), false)) else (if 0 < (x103000.size : Int) then (if 1 ≤ (x103000.size : Int) then ((impl_taker_text.f k (x103000.extract 1 x103000.size) x103001).bind fun bt111 => ((impl_taker_text.f k bt111.2.1 bt111.2.2).bind fun bt114 => (if x107001.length < 3518437208883 then (impl_ReadBatch.l0 k x25 (wrap64 (x26 + 1)) bt114.2.1 bt114.2.2 x107000 (x107001 ++ [(⟨wrap64 (bt x103000 0), bt111.1, bt114.1⟩ : S148)])) else (none)))) else (none)) else (none))) else ((impl_taker_whole.f x103000 x103001).bind fun bt120 => (if bt120.1 = true then ((impl_BatchOk.f k x107000 x107001).bind fun t123 => (if t123 = true then (some (x107000, x107001, true)) else (some (0, ([] : List (S148)), false)))) else (some (0, ([] : List (S148)), false))))
end
def impl_ReadBatch.f (k : Nat) (a0 : ByteArray) : Option (Int × (List (S148)) × Bool) := (impl_taker_number.f k a0 false).bind fun bt103 => ((impl_taker_number.f k bt103.2.1 bt103.2.2).bind fun bt107 => (if bt107.2.2 = true then (impl_ReadBatch.j0 k bt107.1 true bt107.2.1 bt107.2.2 bt103.1) else (impl_ReadBatch.j0 k bt107.1 (decide (bt107.1 > 20)) bt107.2.1 bt107.2.2 bt103.1)))
set_option maxHeartbeats 8000000 in
set_option maxRecDepth 100000 in
theorem impl_ReadBatch.calls (k : Nat) (a0 : ByteArray) (r1 : Int) (r2 : List (S148)) (r3 : Bool) (w : World) (h : impl_ReadBatch.f k a0 = some (r1, r2, r3)) :
  Calls Try.prog 46 #[.string a0] w fun e w' => ∃ v1_ : Value, e = .returned (.tuple #[.agg #[.int .i64 r1, v1_], .bool r3]) ∧ Kd.R k148 148 w' w.heap.size (fun _ => True) v1_ r2 ∧ Below w.heap.size w w' := by
 have hu68 := Try.underlying68
 have hu123 := Try.underlying123
 have hu148 := Try.underlying148
 have HB := Qz.mk (Below.refl w.heap.size w)
 have H : ((impl_taker_number.f k a0 false).bind fun bt103 => ((impl_taker_number.f k bt103.2.1 bt103.2.2).bind fun bt107 => (if bt107.2.2 = true then (impl_ReadBatch.j0 k bt107.1 true bt107.2.1 bt107.2.2 bt103.1) else (impl_ReadBatch.j0 k bt107.1 (decide (bt107.1 > 20)) bt107.2.1 bt107.2.2 bt103.1)))) = some (r1, r2, r3) := h
 clear h
 replace H := Option.bind_eq_some_iff.mp H
 obtain ⟨⟨t103, t104, t105⟩, A20, H⟩ := H
 replace H : ((impl_taker_number.f k t104 t105).bind fun bt107 => (if bt107.2.2 = true then (impl_ReadBatch.j0 k bt107.1 true bt107.2.1 bt107.2.2 t103) else (impl_ReadBatch.j0 k bt107.1 (decide (bt107.1 > 20)) bt107.2.1 bt107.2.2 t103))) = some (r1, r2, r3) := H
 have A2 := Qz.mk A20
 clear A20
 replace H := Option.bind_eq_some_iff.mp H
 obtain ⟨⟨t107, t108, t109⟩, A30, H⟩ := H
 replace H : (if t109 = true then (impl_ReadBatch.j0 k t107 true t108 t109 t103) else (impl_ReadBatch.j0 k t107 (decide (t107 > 20)) t108 t109 t103)) = some (r1, r2, r3) := H
 have A3 := Qz.mk A30
 clear A30
 have HC4 := Qz.mk H
 clear H
 go_enter Try.func46, Try.ntmps46
 go_upto_region 4 with (first | ((with_reducible refine qg1 (N := 2) rfl ?_); refine qf1 ?hg (N := 2) ?hd (cs := #[.int .i64 0, .slice none 0 0]) (t := 68) ?hr ?_; (case hd => rfl); (case hg => rfl); (case hr => first | (go_simp; done) | (go_simp; rfl)); intro gb101 hg w5 hbox hb; have BK101 := Qz.mk (hbox); have GW101 := Qz.mk ((by rw [hg]; exact (qr (by repeat (first | (with_reducible first | exact HB.out | apply qc | apply qa | apply qb) | exact HB.out))) : w.heap.size ≤ gb101)); have GE101 := GW101; replace HB := Qz.mk (qm (by repeat (first | (with_reducible first | exact HB.out | apply qc | apply qa | apply qb) | exact HB.out)) hb); clear hb hbox hg) | ((with_reducible refine qg1 (N := 10) rfl ?_); refine qf1 ?hg (N := 10) ?hd (cs := #[.string a0, .bool false]) (t := 123) ?hr ?_; (case hd => rfl); (case hg => rfl); (case hr => first | (go_simp; done) | (go_simp; rfl)); intro gb102 hg w6 hbox hb; have HI102 := Qz.mk ((⟨hbox, (by rw [hg]; exact (qr (by repeat (first | (with_reducible first | exact HB.out | apply qc | apply qa | apply qb | refine qd ?_ GE101.out) | exact HB.out))) : w.heap.size ≤ gb102)⟩ : IsS123 w w6 gb102 a0 false)); replace HB := Qz.mk (qm (by repeat (first | (with_reducible first | exact HB.out | apply qc | apply qa | apply qb | refine qd ?_ GE101.out) | exact HB.out)) hb); have NB101_102 := Qz.mk ((by rw [hg]; exact Nat.ne_of_lt (blk_lt (g := gb101) (o := .cells #[.int .i64 0, .slice none 0 0] 68 (0, 0)) yq75) : gb101 ≠ gb102)); have NB102_101 := Qz.mk ((by rw [hg]; exact Nat.ne_of_gt (blk_lt (g := gb101) (o := .cells #[.int .i64 0, .slice none 0 0] 68 (0, 0)) yq75) : gb102 ≠ gb101)); replace BK101 := Qz.mk (qp (g := gb101) (o := .cells #[.int .i64 0, .slice none 0 0] 68 (0, 0)) yq75 hb); clear hb hbox hg) | ((with_reducible refine ql (f := 86) rfl ?_); refine qy (some 12) rfl rfl Try.func86 (by kernel_rfl) rfl #[.pointer (some ⟨gb102, 0, none⟩)] rfl yq82 ?_; (with_reducible refine (impl_taker_number.calls k gb102 a0 false t103 t104 t105 w _ ?side1 ?side2 A2.out).mono ?_); (case side1 => exact yq85); (case side2 => exact yq83); rintro e w7 ⟨rfl, hi, hb, hk⟩; refine ⟨_, rfl, ?_⟩; replace BK101 := Qz.mk (KeepBut.blk hk (g' := gb101) (o := .cells #[.int .i64 0, .slice none 0 0] 68 (0, 0)) yq75 NB101_102.out (by simp)); replace HB := Qz.mk (hb); replace HI102 := Qz.mk (hi); (try clear hb); (try clear hk); (try clear hi)) | ((with_reducible refine qg1 (N := 5) rfl ?_); refine qf1 ?hg (N := 5) ?hd (cs := #[.int .i64 0, .slice none 0 0]) (t := 68) ?hr ?_; (case hd => rfl); (case hg => rfl); (case hr => first | (go_simp; done) | (go_simp; rfl)); intro gb106 hg w8 hbox hb; have BK106 := Qz.mk (hbox); have GW106 := Qz.mk ((by rw [hg]; exact (qr yq83) : w.heap.size ≤ gb106)); have GE106 := GW106; replace HB := Qz.mk (qm yq83 hb); have NB101_106 := Qz.mk ((by rw [hg]; exact Nat.ne_of_lt (blk_lt (g := gb101) (o := .cells #[.int .i64 0, .slice none 0 0] 68 (0, 0)) yq75) : gb101 ≠ gb106)); have NB106_101 := Qz.mk ((by rw [hg]; exact Nat.ne_of_gt (blk_lt (g := gb101) (o := .cells #[.int .i64 0, .slice none 0 0] 68 (0, 0)) yq75) : gb106 ≠ gb101)); replace BK101 := Qz.mk (qp (g := gb101) (o := .cells #[.int .i64 0, .slice none 0 0] 68 (0, 0)) yq75 hb); have NB102_106 := Qz.mk ((by rw [hg]; exact Nat.ne_of_lt (IsS123.lt (show IsS123 w _ gb102 t104 t105 from by repeat (first | (with_reducible first | exact HI102.out | apply IsS123.alloc | apply IsS123.drewN | apply IsS123.drew | apply IsS123.set_0 | apply IsS123.set_1 | apply (fun h_ => IsS123.far h_ NB102_101.out _)) | exact HI102.out))) : gb102 ≠ gb106)); have NB106_102 := Qz.mk ((by rw [hg]; exact Nat.ne_of_gt (IsS123.lt (show IsS123 w _ gb102 t104 t105 from by repeat (first | (with_reducible first | exact HI102.out | apply IsS123.alloc | apply IsS123.drewN | apply IsS123.drew | apply IsS123.set_0 | apply IsS123.set_1 | apply (fun h_ => IsS123.far h_ NB102_101.out _)) | exact HI102.out))) : gb106 ≠ gb102)); replace HI102 := Qz.mk (IsS123.below yq85 hb); clear hb hbox hg; have hnb9 := NB106_101.out; have hnc9 := NB101_106.out; have hnb10 := NB106_102.out; have hnc10 := NB102_106.out; have hcz11_0 : w8.cell? ⟨gb106, 0, none⟩ = some (.int .i64 0) := (qh BK106.out 0).trans rfl; have hcz11_1 : w8.cell? ⟨gb106, 1, none⟩ = some (.slice none 0 0) := (qh BK106.out 1).trans rfl; have hfz11_0 := qi BK106.out 0; have hfz11_1 := qi BK106.out 1) | ((with_reducible refine ql (f := 86) rfl ?_); refine qy (some 15) rfl rfl Try.func86 (by kernel_rfl) rfl #[.pointer (some ⟨gb102, 0, none⟩)] rfl yq82 ?_; (with_reducible refine (impl_taker_number.calls k gb102 t104 t105 t107 t108 t109 w _ ?side1 ?side2 A3.out).mono ?_); (case side1 => exact yq74); (case side2 => exact yq76); rintro e w12 ⟨rfl, hi, hb, hk⟩; refine ⟨_, rfl, ?_⟩; replace BK101 := Qz.mk (KeepBut.blk hk (g' := gb101) (o := .cells #[.int .i64 0, .slice none 0 0] 68 (0, 0)) (by (with_reducible repeat (first | refine qe ?_ _ | refine qg ?_ | refine qf ?_ _)); refine blk_far ?_ NB101_106.out _; (with_reducible repeat (first | refine qe ?_ _ | refine qg ?_ | refine qf ?_ _)); refine blk_far ?_ NB101_106.out _; (with_reducible repeat (first | refine qe ?_ _ | refine qg ?_ | refine qf ?_ _)); exact BK101.out) NB101_102.out (by simp)); replace BK106 := Qz.mk (KeepBut.blk hk (g' := gb106) (o := .cells #[.int .i64 t103, .slice none 0 0] 68 (0, 0)) (by (with_reducible repeat (first | refine qe ?_ _ | refine qg ?_ | refine qf ?_ _)); refine qz (cs := #[.int .i64 t103, .slice none 0 0]) ?_ 1 _ rfl; (with_reducible repeat (first | refine qe ?_ _ | refine qg ?_ | refine qf ?_ _)); refine qz (cs := #[.int .i64 0, .slice none 0 0]) ?_ 0 _ rfl; (with_reducible repeat (first | refine qe ?_ _ | refine qg ?_ | refine qf ?_ _)); exact BK106.out) NB106_102.out (by simp)); replace HB := Qz.mk (hb); replace HI102 := Qz.mk (hi); (try clear hb); (try clear hk); (try clear hi)))
 (try simp only [Act.put, sq1, sq2, sq3])
 go_cut [23] (fun v23 wc => ∃ (kq : Nat) (x23_3 : Bool), v23 = .bool x23_3 ∧ Qz (impl_ReadBatch.j0 kq t107 x23_3 t108 t109 t103 = some (r1, r2, r3)) ∧ Qz (kq ≤ k) ∧ Qz (wc.heap[gb101]? = some (.cells #[.int .i64 0, (.slice none 0 0)] 68 (0, 0))) ∧ Qz (wc.heap[gb106]? = some (.cells #[.int .i64 t103, (.slice none 0 0)] 68 (0, 0))) ∧ Qz (IsS123 w wc gb102 t108 t109) ∧ Qz (Below w.heap.size w wc))
 case first =>
  have H := HC4.out
  clear HC4
  by_cases c13 : t109 = true
  ·subst c13
   have H1 : (impl_ReadBatch.j0 k t107 true t108 true t103) = some (r1, r2, r3) := by rw [if_pos rfl] at H; exact H
   clear H
   have H := H1
   clear H1
   have H' := Qz.mk H
   clear H
   obtain ⟨HGz14, hgz14⟩ := HI102.out
   have hcz14_0 := cellS123_0 HGz14
   have hcz14_1 := cellS123_1 HGz14
   have hfz14_0 := qi HGz14 0
   have hfz14_1 := qi HGz14 1
   clear HGz14 hgz14
   go_wp2
   go_meet
   case rel => exact ⟨_, (true), (by first | rfl | (simp; done) | (simp [*]; done)), H', ⟨by first | omega | exact Nat.le_refl _⟩, ⟨by (with_reducible repeat (first | refine qe ?_ _ | refine qg ?_ | refine qf ?_ _)); exact BK101.out⟩, ⟨by (with_reducible repeat (first | refine qe ?_ _ | refine qg ?_ | refine qf ?_ _)); exact BK106.out⟩, ⟨by repeat (first | (with_reducible first | exact HI102.out | apply IsS123.alloc | apply IsS123.drewN | apply IsS123.drew | apply IsS123.set_0 | apply IsS123.set_1 | apply (fun h_ => IsS123.far h_ NB102_101.out _) | apply (fun h_ => IsS123.far h_ NB102_106.out _)) | exact HI102.out)⟩, ⟨by repeat (first | (with_reducible first | exact HB.out | apply qc | apply qa | apply qb | refine qd ?_ (IsS123.ge HI102.out) | refine qd ?_ GE101.out | refine qd ?_ GE106.out) | exact HB.out)⟩⟩
  ·replace c13 := Bool.eq_false_iff.mpr c13
   subst c13
   have H1 : (impl_ReadBatch.j0 k t107 (decide (t107 > 20)) t108 false t103) = some (r1, r2, r3) := by rw [if_neg (show ¬ (false = true) by decide)] at H; exact H
   clear H
   have H := H1
   clear H1
   have H' := Qz.mk H
   clear H
   obtain ⟨HGz15, hgz15⟩ := HI102.out
   have hcz15_0 := cellS123_0 HGz15
   have hcz15_1 := cellS123_1 HGz15
   have hfz15_0 := qi HGz15 0
   have hfz15_1 := qi HGz15 1
   clear HGz15 hgz15
   go_wp2
   go_meet
   case rel => exact ⟨_, (decide (t107 > 20)), (by first | rfl | (simp; done) | (simp [*]; done)), H', ⟨by first | omega | exact Nat.le_refl _⟩, ⟨by (with_reducible repeat (first | refine qe ?_ _ | refine qg ?_ | refine qf ?_ _)); exact BK101.out⟩, ⟨by (with_reducible repeat (first | refine qe ?_ _ | refine qg ?_ | refine qf ?_ _)); exact BK106.out⟩, ⟨by repeat (first | (with_reducible first | exact HI102.out | apply IsS123.alloc | apply IsS123.drewN | apply IsS123.drew | apply IsS123.set_0 | apply IsS123.set_1 | apply (fun h_ => IsS123.far h_ NB102_101.out _) | apply (fun h_ => IsS123.far h_ NB102_106.out _)) | exact HI102.out)⟩, ⟨by repeat (first | (with_reducible first | exact HB.out | apply qc | apply qa | apply qb | refine qd ?_ (IsS123.ge HI102.out) | refine qd ?_ GE101.out | refine qd ?_ GE106.out) | exact HB.out)⟩⟩
 case rest =>
  clear HC4
  try clear c1
  try clear p2
  try clear c4
  try clear c8
  try clear c9
  try clear c10
  try clear c13
  try clear hcz11_0
  try clear hcz11_1
  try clear hcz14_0
  try clear hcz14_1
  try clear hcz15_0
  try clear hcz15_1
  try clear hfz11_0
  try clear hfz11_1
  try clear hfz14_0
  try clear hfz14_1
  try clear hfz15_0
  try clear hfz15_1
  obtain ⟨kq, x23_3, rfl, HA, HJ3, BK101, BK106, HI102, HB⟩ := hcut
  cases kq with
  | zero => exact absurd HA.out (by simp [impl_ReadBatch.j0])
  | succ kj3 =>
   have H := HA.out
   clear HA
   simp only [impl_ReadBatch.j0] at H
   by_cases c16 : x23_3 = true
   ·subst c16
    have H1 : (some (0, ([] : List (S148)), false)) = some (r1, r2, r3) := by rw [if_pos rfl] at H; exact H
    clear H
    have H := H1
    clear H1
    simp only [Option.some.injEq, Prod.mk.injEq] at H
    obtain ⟨rfl, rfl, rfl⟩ := H
    have hnb17 := NB101_106.out
    have hnc17 := NB106_101.out
    have hnb18 := NB101_102.out
    have hnc18 := NB102_101.out
    have hcz19_0 : wc.cell? ⟨gb101, 0, none⟩ = some (.int .i64 0) := (qh BK101.out 0).trans rfl
    have hcz19_1 : wc.cell? ⟨gb101, 1, none⟩ = some (.slice none 0 0) := (qh BK101.out 1).trans rfl
    have hfz19_0 := qi BK101.out 0
    have hfz19_1 := qi BK101.out 1
    go_wp2
    refine bodyPost_ret (results_ct rfl _ _ gb101 68 #[.int .i64 0, .slice none 0 0] (0, 0) _ rfl (by (with_reducible repeat (first | refine qe ?_ _ | refine qg ?_ | refine qf ?_ _)); refine qz (cs := #[.int .i64 0, .slice none 0 0]) ?_ 1 _ rfl; (with_reducible repeat (first | refine qe ?_ _ | refine qg ?_ | refine qf ?_ _)); refine qz (cs := #[.int .i64 0, .slice none 0 0]) ?_ 0 _ rfl; (with_reducible repeat (first | refine qe ?_ _ | refine qg ?_ | refine qf ?_ _)); exact BK101.out) Try.underlying68 rfl (by kernel_rfl)) rfl ?_
    exact ⟨_, by first | rfl | (simp [qo, qn] <;> rfl) | (simp [*, qo, qn] <;> rfl), by first | exact Kd.R_nil _ _ _ _ _ | exact Kd.N_nil _ _ _ _ _ | exact Kd.V_nil _ _ _ _ _ | exact Kd.Q_nil _ _ _ _ _ | exact Kd.S_nil _ _ _ _ _, by repeat (first | (with_reducible first | exact HB.out | apply qc | apply qa | apply qb | refine qd ?_ (IsS123.ge HI102.out) | refine qd ?_ GE101.out | refine qd ?_ GE106.out) | exact HB.out)⟩
   ·replace c16 := Bool.eq_false_iff.mpr c16
    subst c16
    have H1 : (impl_ReadBatch.l0 kj3 t107 0 t108 t109 t103 ([] : List (S148))) = some (r1, r2, r3) := by rw [if_neg (show ¬ (false = true) by decide)] at H; exact H
    clear H
    have H := H1
    clear H1
    have H' := Qz.mk H
    clear H
    go_wp2
    go_loopg [26] kj3 (fun kq v26 w' => ∃ (x26_2 : Int) (x102000_2 : Int) (x103000_2 : ByteArray) (x103001_2 : Bool) (x107001_2 : List (S148)) (u107001 : Value), v26 = .int .i64 x26_2 ∧ Qz (impl_ReadBatch.l0 kq t107 x26_2 x103000_2 x103001_2 t103 x107001_2 = some (r1, r2, r3)) ∧ Qz (kq ≤ kj3) ∧ Qz (Kd.R k148 148 w' w.heap.size (fun _ => True) u107001 x107001_2) ∧ Qz (w'.heap[gb101]? = some (.cells #[.int .i64 x102000_2, (.slice none 0 0)] 68 (0, 0))) ∧ Qz (w'.heap[gb106]? = some (.cells #[.int .i64 t103, u107001] 68 (0, 0))) ∧ Qz (IsS123 w w' gb102 x103000_2 x103001_2) ∧ Qz (Below w.heap.size w w'))
    case atStart => exact ⟨(0), (0), (t108), (t109), (([] : List (S148))), (.slice none 0 0), (by first | rfl | (simp; done) | (simp [*]; done)), H', ⟨Nat.le_refl _⟩, ⟨by first | exact Kd.R_nil _ _ _ _ _ | exact Kd.N_nil _ _ _ _ _ | exact Kd.V_nil _ _ _ _ _ | exact Kd.Q_nil _ _ _ _ _ | exact Kd.S_nil _ _ _ _ _⟩, ⟨by (with_reducible repeat (first | refine qe ?_ _ | refine qg ?_ | refine qf ?_ _)); exact BK101.out⟩, ⟨by (with_reducible repeat (first | refine qe ?_ _ | refine qg ?_ | refine qf ?_ _)); exact BK106.out⟩, ⟨by repeat (first | (with_reducible first | exact HI102.out | apply IsS123.alloc | apply IsS123.drewN | apply IsS123.drew | apply IsS123.set_0 | apply IsS123.set_1 | apply (fun h_ => IsS123.far h_ NB102_101.out _) | apply (fun h_ => IsS123.far h_ NB102_106.out _)) | exact HI102.out)⟩, ⟨by repeat (first | (with_reducible first | exact HB.out | apply qc | apply qa | apply qb | refine qd ?_ (IsS123.ge HI102.out) | refine qd ?_ GE101.out | refine qd ?_ GE106.out) | exact HB.out)⟩⟩
    case round =>
     clear H'
     try clear c1
     try clear p2
     try clear c4
     try clear c8
     try clear c9
     try clear c10
     try clear c13
     try clear c16
     try clear c17
     try clear c18
     try clear hcz11_0
     try clear hcz11_1
     try clear hcz14_0
     try clear hcz14_1
     try clear hcz15_0
     try clear hcz15_1
     try clear hcz19_0
     try clear hcz19_1
     try clear hfz11_0
     try clear hfz11_1
     try clear hfz14_0
     try clear hfz14_1
     try clear hfz15_0
     try clear hfz15_1
     try clear hfz19_0
     try clear hfz19_1
     try clear p2
     obtain ⟨x26_2, x102000_2, x103000_2, x103001_2, x107001_2, u107001, rfl, HA, HK2, HO_107001, BK101, BK106, HI102, HB⟩ := hrel
     cases gk with
     | zero => exact absurd HA.out (by simp [impl_ReadBatch.l0])
     | succ k2 =>
      have H := HA.out
      clear HA
      simp only [impl_ReadBatch.l0] at H
      by_cases c20 : x26_2 < t107
      ·rw [if_pos c20] at H
       have c20b0 : decide (x26_2 < t107) = true := decide_eq_true c20
       clear c20
       by_cases c21 : x103000_2.toList = ([] : List UInt8)
       ·rw [if_pos c21] at H
        have c21b0 : (x103000_2.toList == ([] : List UInt8)) = true := beq_iff_eq.mpr c21
        have c21b1 : (x103000_2.toList != ([] : List UInt8)) = false := bne_eq_false_iff_eq.mpr c21
        clear c21
        simp only [Option.some.injEq, Prod.mk.injEq] at H
        obtain ⟨rfl, rfl, rfl⟩ := H
        obtain ⟨HGz22, hgz22⟩ := HI102.out
        have hcz22_0 := cellS123_0 HGz22
        have hcz22_1 := cellS123_1 HGz22
        have hfz22_0 := qi HGz22 0
        have hfz22_1 := qi HGz22 1
        clear HGz22 hgz22
        have hnb23 := NB101_106.out
        have hnc23 := NB106_101.out
        have hnb24 := NB101_102.out
        have hnc24 := NB102_101.out
        have hcz25_0 : wr.cell? ⟨gb101, 0, none⟩ = some (.int .i64 x102000_2) := (qh BK101.out 0).trans rfl
        have hcz25_1 : wr.cell? ⟨gb101, 1, none⟩ = some (.slice none 0 0) := (qh BK101.out 1).trans rfl
        have hfz25_0 := qi BK101.out 0
        have hfz25_1 := qi BK101.out 1
        go_wp2
        refine bodyPost_ret (results_ct rfl _ _ gb101 68 #[.int .i64 0, .slice none 0 0] (0, 0) _ rfl yq77 Try.underlying68 rfl (by kernel_rfl)) rfl ?_
        exact ⟨_, by first | rfl | (simp [qo, qn] <;> rfl) | (simp [*, qo, qn] <;> rfl), by first | exact Kd.R_nil _ _ _ _ _ | exact Kd.N_nil _ _ _ _ _ | exact Kd.V_nil _ _ _ _ _ | exact Kd.Q_nil _ _ _ _ _ | exact Kd.S_nil _ _ _ _ _, by repeat (first | (with_reducible first | exact HB.out | apply qc | apply qa | apply qb | refine qd ?_ (IsS123.ge HI102.out) | refine qd ?_ GE101.out | refine qd ?_ GE106.out) | exact HB.out)⟩
       ·rw [if_neg c21] at H
        have c21b0 : (x103000_2.toList == ([] : List UInt8)) = false := beq_eq_false_iff_ne.mpr c21
        have c21b1 : (x103000_2.toList != ([] : List UInt8)) = true := bne_iff_ne.mpr c21
        by_cases c26 : 0 < (x103000_2.size : Int)
        ·rw [if_pos c26] at H
         have c26b0 : decide (0 < (x103000_2.size : Int)) = true := decide_eq_true c26
         have c26b1 : decide (0 < x103000_2.size) = true := decide_eq_true (by omega)
         clear c26
         by_cases c28 : 1 ≤ (x103000_2.size : Int)
         ·rw [if_pos c28] at H
          have c28b0 := eq_true c28
          have c28b1 : decide (1 ≤ (x103000_2.size : Int)) = true := decide_eq_true c28
          clear c28
          replace H := Option.bind_eq_some_iff.mp H
          obtain ⟨⟨t111, t112, t113⟩, A290, H⟩ := H
          replace H : ((impl_taker_text.f k2 t112 t113).bind fun bt114 => (if x107001_2.length < 3518437208883 then (impl_ReadBatch.l0 k2 t107 (wrap64 (x26_2 + 1)) bt114.2.1 bt114.2.2 t103 (x107001_2 ++ [(⟨wrap64 (bt x103000_2 0), t111, bt114.1⟩ : S148)])) else (none))) = some (r1, r2, r3) := H
          have A29 := Qz.mk A290
          clear A290
          replace H := Option.bind_eq_some_iff.mp H
          obtain ⟨⟨t114, t115, t116⟩, A300, H⟩ := H
          replace H : (if x107001_2.length < 3518437208883 then (impl_ReadBatch.l0 k2 t107 (wrap64 (x26_2 + 1)) t115 t116 t103 (x107001_2 ++ [(⟨wrap64 (bt x103000_2 0), t111, t114⟩ : S148)])) else (none)) = some (r1, r2, r3) := H
          have A30 := Qz.mk A300
          clear A300
          by_cases c31 : x107001_2.length < 3518437208883
          ·rw [if_pos c31] at H
           have LMc31 := Qz.mk c31
           clear c31
           obtain ⟨y117, hy117⟩ : ∃ y_ : List (S148), y_ = (x107001_2 ++ [(⟨wrap64 (bt x103000_2 0), t111, t114⟩ : S148)]) := ⟨_, rfl⟩
           replace H : (impl_ReadBatch.l0 k2 t107 (wrap64 (x26_2 + 1)) t115 t116 t103 y117) = some (r1, r2, r3) := by first | (rw [hy117]; with_reducible exact H) | (have H2_ := (Option.bind_some _ _).symm.trans H; rw [hy117]; with_reducible exact H2_) | (have H2_ := (Option.bind_some _ _).symm.trans H; with_reducible exact H2_) | with_reducible exact H | (rw [hy117]; exact H) | exact H
           have Ny117 := Qz.mk hy117
           clear hy117
           have H' := Qz.mk H
           clear H
           obtain ⟨HGz32, hgz32⟩ := HI102.out
           have hcz32_0 := cellS123_0 HGz32
           have hcz32_1 := cellS123_1 HGz32
           have hfz32_0 := qi HGz32 0
           have hfz32_1 := qi HGz32 1
           clear HGz32 hgz32
           have p27 : 0 ≤ (0 : Int) := (by omega)
           have q27 : 0 < x103000_2.size := (by have : (0 : Int) < (x103000_2.size : Int) := of_decide_eq_true (by first | (with_reducible assumption) | assumption); omega)
           have hx27 : ∀ h : 0 < x103000_2.size, ((x103000_2[0]'h).toNat : Int) = bt x103000_2 0 := bt_at x103000_2 0
           clear p27
           have qi27 : (0 < (x103000_2.size : Int)) = True := eq_true (of_decide_eq_true (by first | (with_reducible assumption) | assumption))
           replace q27 := eq_true q27
           go_wp2_with (first | ((with_reducible refine qg1 (N := 7) rfl ?_); refine qf1 ?hg (N := 7) ?hd (cs := #[.int .i64 0, .string (⟨#[]⟩ : ByteArray), .string (⟨#[]⟩ : ByteArray)]) (t := 148) ?hr ?_; (case hd => rfl); (case hg => rfl); (case hr => first | (go_simp; done) | (go_simp; rfl)); intro gb110 hg w33 hbox hb; replace HO_107001 := Qz.mk (Kd.R_below (Kd.R_elderB yq81 gb110 (Nat.le_of_eq hg.symm)) hb); have BK110 := Qz.mk (hbox); have GW110 := Qz.mk ((by rw [hg]; exact (qr yq76) : w.heap.size ≤ gb110)); have GE110 := GW110; replace HB := Qz.mk (qm yq76 hb); have NB101_110 := Qz.mk ((by rw [hg]; exact Nat.ne_of_lt (blk_lt (g := gb101) (o := .cells #[.int .i64 x102000_2, .slice none 0 0] 68 (0, 0)) yq75) : gb101 ≠ gb110)); have NB110_101 := Qz.mk ((by rw [hg]; exact Nat.ne_of_gt (blk_lt (g := gb101) (o := .cells #[.int .i64 x102000_2, .slice none 0 0] 68 (0, 0)) yq75) : gb110 ≠ gb101)); replace BK101 := Qz.mk (qp (g := gb101) (o := .cells #[.int .i64 x102000_2, .slice none 0 0] 68 (0, 0)) yq75 hb); have NB106_110 := Qz.mk ((by rw [hg]; exact Nat.ne_of_lt (blk_lt (g := gb106) (o := .cells #[.int .i64 t103, u107001] 68 (0, 0)) yq78) : gb106 ≠ gb110)); have NB110_106 := Qz.mk ((by rw [hg]; exact Nat.ne_of_gt (blk_lt (g := gb106) (o := .cells #[.int .i64 t103, u107001] 68 (0, 0)) yq78) : gb110 ≠ gb106)); replace BK106 := Qz.mk (qp (g := gb106) (o := .cells #[.int .i64 t103, u107001] 68 (0, 0)) yq78 hb); have NB102_110 := Qz.mk ((by rw [hg]; exact Nat.ne_of_lt (IsS123.lt (show IsS123 w _ gb102 x103000_2 x103001_2 from by repeat (first | (with_reducible first | exact HI102.out | apply IsS123.alloc | apply IsS123.drewN | apply IsS123.drew | apply IsS123.set_0 | apply IsS123.set_1 | apply (fun h_ => IsS123.far h_ NB102_101.out _) | apply (fun h_ => IsS123.far h_ NB102_106.out _)) | exact HI102.out))) : gb102 ≠ gb110)); have NB110_102 := Qz.mk ((by rw [hg]; exact Nat.ne_of_gt (IsS123.lt (show IsS123 w _ gb102 x103000_2 x103001_2 from by repeat (first | (with_reducible first | exact HI102.out | apply IsS123.alloc | apply IsS123.drewN | apply IsS123.drew | apply IsS123.set_0 | apply IsS123.set_1 | apply (fun h_ => IsS123.far h_ NB102_101.out _) | apply (fun h_ => IsS123.far h_ NB102_106.out _)) | exact HI102.out))) : gb110 ≠ gb102)); replace HI102 := Qz.mk (IsS123.below yq74 hb); clear hb hbox hg; have hnb34 := NB110_101.out; have hnc34 := NB101_110.out; have hnb35 := NB110_106.out; have hnc35 := NB106_110.out; have hnb36 := NB110_102.out; have hnc36 := NB102_110.out; have hcz37_0 : w33.cell? ⟨gb110, 0, none⟩ = some (.int .i64 0) := (qh BK110.out 0).trans rfl; have hcz37_1 : w33.cell? ⟨gb110, 1, none⟩ = some (.string (⟨#[]⟩ : ByteArray)) := (qh BK110.out 1).trans rfl; have hcz37_2 : w33.cell? ⟨gb110, 2, none⟩ = some (.string (⟨#[]⟩ : ByteArray)) := (qh BK110.out 2).trans rfl; have hfz37_0 := qi BK110.out 0; have hfz37_1 := qi BK110.out 1; have hfz37_2 := qi BK110.out 2; obtain ⟨HGz38, hgz38⟩ := HI102.out; have hcz38_0 := cellS123_0 HGz38; have hcz38_1 := cellS123_1 HGz38; have hfz38_0 := qi HGz38 0; have hfz38_1 := qi HGz38 1; clear HGz38 hgz38) | ((with_reducible refine ql (f := 87) rfl ?_); refine qy (some 50) rfl rfl Try.func87 (by kernel_rfl) rfl #[.pointer (some ⟨gb102, 0, none⟩)] rfl yq82 ?_; (with_reducible refine (impl_taker_text.calls k2 gb102 (x103000_2.extract 1 x103000_2.size) x103001_2 t111 t112 t113 w _ ?side1 ?side2 A29.out).mono ?_); (case side1 => exact yq79); (case side2 => exact yq80); rintro e w39 ⟨rfl, hi, hb, hk⟩; refine ⟨_, rfl, ?_⟩; replace HO_107001 := Qz.mk (Kd.R_mono (Kd.R_keep (IsS123.apart (show IsS123 w _ gb102 (x103000_2.extract 1 x103000_2.size) x103001_2 from by repeat (first | (with_reducible first | exact HI102.out | apply IsS123.alloc | apply IsS123.drewN | apply IsS123.drew | apply IsS123.set_0 | apply IsS123.set_1 | apply (fun h_ => IsS123.far h_ NB102_101.out _) | apply (fun h_ => IsS123.far h_ NB102_106.out _) | apply (fun h_ => IsS123.far h_ NB102_110.out _)) | exact HI102.out)) (by (with_reducible repeat (first | apply Kd.R_alloc | apply Kd.R_drewN | apply Kd.R_drew)); exact (Kd.R_mono (Kd.R_mono (Kd.R_far (p := ⟨gb102, 0, none⟩) (Kd.R_far (p := ⟨gb110, 2, none⟩) (Kd.R_far (p := ⟨gb110, 1, none⟩) (Kd.R_far (p := ⟨gb110, 0, none⟩) (IsS123.apart HI102.out (Kd.R_mono HO_107001.out (fun k_ hk => (⟨hk, hk.2⟩ : _ ∧ k_ ≠ gb110))) (by decide)) (fun _ hk => hk.1.2) (.int .i64 (wrap64 (bt x103000_2 0)))) (fun _ hk => hk.1.2) (.string (⟨#[]⟩ : ByteArray))) (fun _ hk => hk.1.2) (.string (⟨#[]⟩ : ByteArray))) (fun _ hk => hk.2) (.string (x103000_2.extract 1 x103000_2.size))) (fun _ h_ => h_.1)) (fun _ h_ => h_.1))) (by decide)) hk (fun _ h => h.2)) (fun _ h => h.1)); replace BK101 := Qz.mk (KeepBut.blk hk (g' := gb101) (o := .cells #[.int .i64 x102000_2, .slice none 0 0] 68 (0, 0)) (by (with_reducible repeat (first | refine qe ?_ _ | refine qg ?_ | refine qf ?_ _)); refine blk_far ?_ NB101_102.out _; (with_reducible repeat (first | refine qe ?_ _ | refine qg ?_ | refine qf ?_ _)); refine blk_far ?_ NB101_110.out _; (with_reducible repeat (first | refine qe ?_ _ | refine qg ?_ | refine qf ?_ _)); refine blk_far ?_ NB101_110.out _; (with_reducible repeat (first | refine qe ?_ _ | refine qg ?_ | refine qf ?_ _)); refine blk_far ?_ NB101_110.out _; (with_reducible repeat (first | refine qe ?_ _ | refine qg ?_ | refine qf ?_ _)); exact BK101.out) NB101_102.out (by simp)); replace BK106 := Qz.mk (KeepBut.blk hk (g' := gb106) (o := .cells #[.int .i64 t103, u107001] 68 (0, 0)) (by (with_reducible repeat (first | refine qe ?_ _ | refine qg ?_ | refine qf ?_ _)); refine blk_far ?_ NB106_102.out _; (with_reducible repeat (first | refine qe ?_ _ | refine qg ?_ | refine qf ?_ _)); refine blk_far ?_ NB106_110.out _; (with_reducible repeat (first | refine qe ?_ _ | refine qg ?_ | refine qf ?_ _)); refine blk_far ?_ NB106_110.out _; (with_reducible repeat (first | refine qe ?_ _ | refine qg ?_ | refine qf ?_ _)); refine blk_far ?_ NB106_110.out _; (with_reducible repeat (first | refine qe ?_ _ | refine qg ?_ | refine qf ?_ _)); exact BK106.out) NB106_102.out (by simp)); replace BK110 := Qz.mk (KeepBut.blk hk (g' := gb110) (o := .cells #[.int .i64 (wrap64 (bt x103000_2 0)), .string (⟨#[]⟩ : ByteArray), .string (⟨#[]⟩ : ByteArray)] 148 (0, 0)) (by (with_reducible repeat (first | refine qe ?_ _ | refine qg ?_ | refine qf ?_ _)); refine blk_far ?_ NB110_102.out _; (with_reducible repeat (first | refine qe ?_ _ | refine qg ?_ | refine qf ?_ _)); refine qz (cs := #[.int .i64 (wrap64 (bt x103000_2 0)), .string (⟨#[]⟩ : ByteArray), .string (⟨#[]⟩ : ByteArray)]) ?_ 2 _ rfl; (with_reducible repeat (first | refine qe ?_ _ | refine qg ?_ | refine qf ?_ _)); refine qz (cs := #[.int .i64 (wrap64 (bt x103000_2 0)), .string (⟨#[]⟩ : ByteArray), .string (⟨#[]⟩ : ByteArray)]) ?_ 1 _ rfl; (with_reducible repeat (first | refine qe ?_ _ | refine qg ?_ | refine qf ?_ _)); refine qz (cs := #[.int .i64 0, .string (⟨#[]⟩ : ByteArray), .string (⟨#[]⟩ : ByteArray)]) ?_ 0 _ rfl; (with_reducible repeat (first | refine qe ?_ _ | refine qg ?_ | refine qf ?_ _)); exact BK110.out) NB110_102.out (by simp)); replace HB := Qz.mk (hb); replace HI102 := Qz.mk (hi); (try clear hb); (try clear hk); (try clear hi); have hcz40_0 : w39.cell? ⟨gb110, 0, none⟩ = some (.int .i64 (wrap64 (bt x103000_2 0))) := (qh BK110.out 0).trans rfl; have hcz40_1 : w39.cell? ⟨gb110, 1, none⟩ = some (.string (⟨#[]⟩ : ByteArray)) := (qh BK110.out 1).trans rfl; have hcz40_2 : w39.cell? ⟨gb110, 2, none⟩ = some (.string (⟨#[]⟩ : ByteArray)) := (qh BK110.out 2).trans rfl; have hfz40_0 := qi BK110.out 0; have hfz40_1 := qi BK110.out 1; have hfz40_2 := qi BK110.out 2) | ((with_reducible refine ql (f := 87) rfl ?_); refine qy (some 53) rfl rfl Try.func87 (by kernel_rfl) rfl #[.pointer (some ⟨gb102, 0, none⟩)] rfl yq82 ?_; (with_reducible refine (impl_taker_text.calls k2 gb102 t112 t113 t114 t115 t116 w _ ?side1 ?side2 A30.out).mono ?_); (case side1 => exact yq79); (case side2 => exact yq80); rintro e w41 ⟨rfl, hi, hb, hk⟩; refine ⟨_, rfl, ?_⟩; replace HO_107001 := Qz.mk (Kd.R_mono (Kd.R_keep (IsS123.apart (show IsS123 w _ gb102 t112 t113 from by repeat (first | (with_reducible first | exact HI102.out | apply IsS123.alloc | apply IsS123.drewN | apply IsS123.drew | apply IsS123.set_0 | apply IsS123.set_1 | apply (fun h_ => IsS123.far h_ NB102_101.out _) | apply (fun h_ => IsS123.far h_ NB102_106.out _) | apply (fun h_ => IsS123.far h_ NB102_110.out _)) | exact HI102.out)) (by (with_reducible repeat (first | apply Kd.R_alloc | apply Kd.R_drewN | apply Kd.R_drew)); exact (Kd.R_mono (Kd.R_far (p := ⟨gb110, 1, none⟩) (Kd.R_mono HO_107001.out (fun k_ hk => (⟨hk, hk.2⟩ : _ ∧ k_ ≠ gb110))) (fun _ hk => hk.2) (.string t111)) (fun _ h_ => h_.1))) (by decide)) hk (fun _ h => h.2)) (fun _ h => h.1)); replace BK101 := Qz.mk (KeepBut.blk hk (g' := gb101) (o := .cells #[.int .i64 x102000_2, .slice none 0 0] 68 (0, 0)) yq87 NB101_102.out (by simp)); replace BK106 := Qz.mk (KeepBut.blk hk (g' := gb106) (o := .cells #[.int .i64 t103, u107001] 68 (0, 0)) yq86 NB106_102.out (by simp)); replace BK110 := Qz.mk (KeepBut.blk hk (g' := gb110) (o := .cells #[.int .i64 (wrap64 (bt x103000_2 0)), .string t111, .string (⟨#[]⟩ : ByteArray)] 148 (0, 0)) (by (with_reducible repeat (first | refine qe ?_ _ | refine qg ?_ | refine qf ?_ _)); refine qz (cs := #[.int .i64 (wrap64 (bt x103000_2 0)), .string (⟨#[]⟩ : ByteArray), .string (⟨#[]⟩ : ByteArray)]) ?_ 1 _ rfl; (with_reducible repeat (first | refine qe ?_ _ | refine qg ?_ | refine qf ?_ _)); exact BK110.out) NB110_102.out (by simp)); replace HB := Qz.mk (hb); replace HI102 := Qz.mk (hi); (try clear hb); (try clear hk); (try clear hi); have hcz42_0 : w41.cell? ⟨gb110, 0, none⟩ = some (.int .i64 (wrap64 (bt x103000_2 0))) := (qh BK110.out 0).trans rfl; have hcz42_1 : w41.cell? ⟨gb110, 1, none⟩ = some (.string t111) := (qh BK110.out 1).trans rfl; have hcz42_2 : w41.cell? ⟨gb110, 2, none⟩ = some (.string (⟨#[]⟩ : ByteArray)) := (qh BK110.out 2).trans rfl; have hfz42_0 := qi BK110.out 0; have hfz42_1 := qi BK110.out 1; have hfz42_2 := qi BK110.out 2; have hnb43 := NB106_101.out; have hnc43 := NB101_106.out; have hnb44 := NB106_102.out; have hnc44 := NB102_106.out; have hcz45_0 : w41.cell? ⟨gb106, 0, none⟩ = some (.int .i64 t103) := (qh BK106.out 0).trans rfl; have hcz45_1 : w41.cell? ⟨gb106, 1, none⟩ = some (u107001) := (qh BK106.out 1).trans rfl; have hfz45_0 := qi BK106.out 0; have hfz45_1 := qi BK106.out 1) | ((with_reducible refine gate_builtin (b := .append) (xs := #[.tmp 56, .tmp 58]) rfl ?_); at_builtin; refine Kd.R_append k148 (w0 := w) w.heap.size rfl (.tmp 56) (.tmp 58) 66 148 (.agg #[(.int .i64 0), (.string ⟨#[]⟩), (.string ⟨#[]⟩)]) 40 rfl Try.underlying66 info148 rfl (by decide) (by omega) u107001 x107001_2 (⟨wrap64 (bt x103000_2 0), t111, t114⟩ : S148) [.int .i64 (wrap64 (bt x103000_2 0)), .string t111, .string t114] (fun k_ => k_ ≠ gb110) (fun _ => False) rfl (by first | (go_simp; done) | (go_simp; rfl)) ?aP (fun _ hk => hk.elim) ?aF ?aO ?aB ?aS ?aL ?_; (case aP => exact k148_mkM _ _ _ (⟨wrap64 (bt x103000_2 0), t111, t114⟩ : S148)); (case aB => exact yq80); (case aF => exact (fun k_ hk => Kd.freshB (g := gb110) (o := .cells #[.int .i64 (wrap64 (bt x103000_2 0)), .string t111, .string t114] 148 (0, 0)) yq84 k_ hk)); (case aO => exact (by (with_reducible repeat (first | apply Kd.R_alloc | apply Kd.R_drewN | apply Kd.R_drew)); exact Kd.R_mono (Kd.R_far (p := ⟨gb110, 2, none⟩) (Kd.R_mono HO_107001.out (fun k_ hk => (⟨hk, hk.2⟩ : _ ∧ k_ ≠ gb110))) (fun _ hk => hk.2) (.string t114)) (fun _ hk => hk.1.2))); (case aS => exact (qr yq80)); (case aL => have := LMc31.out; omega); intro v118 w46 ho hb hg hat; rw [← Ny117.out] at ho; have n0_ := Qz.mk (blk_grown (g := gb101) (o := .cells #[.int .i64 x102000_2, .slice none 0 0] 68 (0, 0)) yq87 hg (Kd.R_ne HO_107001.out BK101.out (by decide))); have n1_ := Qz.mk (blk_grown (g := gb106) (o := .cells #[.int .i64 t103, u107001] 68 (0, 0)) yq86 hg (Kd.R_ne HO_107001.out BK106.out (by decide))); have n2_ := Qz.mk (IsS123.grown yq79 hg (IsS123.own_ne HI102.out HO_107001.out (by decide))); have n3_ := Qz.mk (blk_grown (g := gb110) (o := .cells #[.int .i64 (wrap64 (bt x103000_2 0)), .string t111, .string t114] 148 (0, 0)) yq84 hg (Kd.R_away HO_107001.out (fun _ hk => hk.2))); have n4_ := Qz.mk (hb); have n5_ := Qz.mk (ho); clear BK101; clear BK106; clear HI102; clear BK110; clear HB; clear HO_107001; have BK101 := n0_; have BK106 := n1_; have HI102 := n2_; have BK110 := n3_; have HB := n4_; have HO119 := n5_; clear n0_ n1_ n2_ n3_ n4_ n5_; clear ho hb hg hat; obtain ⟨Ao47, co47, eo47⟩ := Kd.R_slice HO119.out; subst eo47; have hcz48_0 : w46.cell? ⟨gb106, 0, none⟩ = some (.int .i64 t103) := (qh BK106.out 0).trans rfl; have hcz48_1 : w46.cell? ⟨gb106, 1, none⟩ = some (u107001) := (qh BK106.out 1).trans rfl; have hfz48_0 := qi BK106.out 0; have hfz48_1 := qi BK106.out 1))
           go_roundg k2
           case measure => have := HJ3.out; have := HK2.out; omega
           case rel => exact ⟨(wrap64 (x26_2 + 1)), (x102000_2), (t115), (t116), (y117), (.slice Ao47 y117.length co47), (by first | rfl | (simp; done) | (simp [*]; done)), H', ⟨by have := HJ3.out; have := HK2.out; omega⟩, ⟨by (with_reducible repeat (first | apply Kd.R_alloc | apply Kd.R_drewN | apply Kd.R_drew)); exact Kd.R_mono (Kd.R_far (p := ⟨gb106, 1, none⟩) (Kd.R_types HO119.out BK106.out (by decide)) (fun _ hk => hk.2) (.slice Ao47 y117.length co47)) (fun _ hk => trivial)⟩, ⟨by (with_reducible repeat (first | refine qe ?_ _ | refine qg ?_ | refine qf ?_ _)); refine blk_far ?_ NB101_106.out _; (with_reducible repeat (first | refine qe ?_ _ | refine qg ?_ | refine qf ?_ _)); exact BK101.out⟩, ⟨by (with_reducible repeat (first | refine qe ?_ _ | refine qg ?_ | refine qf ?_ _)); refine qz (cs := #[.int .i64 t103, u107001]) ?_ 1 _ rfl; (with_reducible repeat (first | refine qe ?_ _ | refine qg ?_ | refine qf ?_ _)); exact BK106.out⟩, ⟨by repeat (first | (with_reducible first | exact HI102.out | apply IsS123.alloc | apply IsS123.drewN | apply IsS123.drew | apply IsS123.set_0 | apply IsS123.set_1 | apply (fun h_ => IsS123.far h_ NB102_101.out _) | apply (fun h_ => IsS123.far h_ NB102_106.out _) | apply (fun h_ => IsS123.far h_ NB102_110.out _)) | exact HI102.out)⟩, ⟨by repeat (first | (with_reducible first | exact HB.out | apply qc | apply qa | apply qb | refine qd ?_ (IsS123.ge HI102.out) | refine qd ?_ GE101.out | refine qd ?_ GE106.out | refine qd ?_ GE110.out) | exact HB.out)⟩⟩
          ·rw [if_neg c31] at H
           exact absurd H (by simp)
         ·rw [if_neg c28] at H
          exact absurd H (by simp)
        ·rw [if_neg c26] at H
         exact absurd H (by simp)
      ·rw [if_neg c20] at H
       have c20b0 : decide (x26_2 < t107) = false := decide_eq_false c20
       clear c20
       replace H := Option.bind_eq_some_iff.mp H
       obtain ⟨⟨t120, t121, t122⟩, A490, H⟩ := H
       replace H : (if t120 = true then ((impl_BatchOk.f k2 t103 x107001_2).bind fun t123 => (if t123 = true then (some (t103, x107001_2, true)) else (some (0, ([] : List (S148)), false)))) else (some (0, ([] : List (S148)), false))) = some (r1, r2, r3) := H
       have A49 := Qz.mk A490
       clear A490
       by_cases c50 : t120 = true
       ·subst c50
        have H1 : ((impl_BatchOk.f k2 t103 x107001_2).bind fun t123 => (if t123 = true then (some (t103, x107001_2, true)) else (some (0, ([] : List (S148)), false)))) = some (r1, r2, r3) := by rw [if_pos rfl] at H; exact H
        clear H
        have H := H1
        clear H1
        replace H := Option.bind_eq_some_iff.mp H
        obtain ⟨t123, A510, H⟩ := H
        replace H : (if t123 = true then (some (t103, x107001_2, true)) else (some (0, ([] : List (S148)), false))) = some (r1, r2, r3) := H
        have A51 := Qz.mk A510
        clear A510
        by_cases c52 : t123 = true
        ·subst c52
         have H1 : (some (t103, x107001_2, true)) = some (r1, r2, r3) := by rw [if_pos rfl] at H; exact H
         clear H
         have H := H1
         clear H1
         simp only [Option.some.injEq, Prod.mk.injEq] at H
         obtain ⟨rfl, rfl, rfl⟩ := H
         go_wp2_with (first | ((with_reducible refine ql (f := 112) rfl ?_); refine qy (some 63) rfl rfl Try.func112 (by kernel_rfl) rfl #[.pointer (some ⟨gb102, 0, none⟩)] rfl yq82 ?_; (with_reducible refine (impl_taker_whole.calls gb102 x103000_2 x103001_2 true t121 t122 w _ ?side1 ?side2 A49.out).mono ?_); (case side1 => exact yq74); (case side2 => exact yq76); rintro e w53 ⟨rfl, hi, hb, hk⟩; refine ⟨_, rfl, ?_⟩; replace HO_107001 := Qz.mk (Kd.R_mono (Kd.R_keep (IsS123.apart (show IsS123 w _ gb102 x103000_2 x103001_2 from by repeat (first | (with_reducible first | exact HI102.out | apply IsS123.alloc | apply IsS123.drewN | apply IsS123.drew | apply IsS123.set_0 | apply IsS123.set_1 | apply (fun h_ => IsS123.far h_ NB102_101.out _) | apply (fun h_ => IsS123.far h_ NB102_106.out _)) | exact HI102.out)) yq81 (by decide)) hk (fun _ h => h.2)) (fun _ h => h.1)); replace BK101 := Qz.mk (KeepBut.blk hk (g' := gb101) (o := .cells #[.int .i64 x102000_2, .slice none 0 0] 68 (0, 0)) yq75 NB101_102.out (by simp)); replace BK106 := Qz.mk (KeepBut.blk hk (g' := gb106) (o := .cells #[.int .i64 t103, u107001] 68 (0, 0)) yq78 NB106_102.out (by simp)); replace HB := Qz.mk (hb); replace HI102 := Qz.mk (hi); (try clear hb); (try clear hk); (try clear hi); have hnb54 := NB106_101.out; have hnc54 := NB101_106.out; have hnb55 := NB106_102.out; have hnc55 := NB102_106.out; have hcz56_0 : w53.cell? ⟨gb106, 0, none⟩ = some (.int .i64 t103) := (qh BK106.out 0).trans rfl; have hcz56_1 : w53.cell? ⟨gb106, 1, none⟩ = some (u107001) := (qh BK106.out 1).trans rfl; have hfz56_0 := qi BK106.out 0; have hfz56_1 := qi BK106.out 1; obtain ⟨Ao57, co57, eo57⟩ := Kd.R_slice HO_107001.out; subst eo57) | (go_at_call 48; (with_reducible refine (impl_BatchOk.calls k2 t103 _ _ x107001_2 true _ ?side1 ?side2 A51.out).mono ?_); (case side1 => repeat (first | exact (Kd.R_reads' HO_107001.out).2.2 | (with_reducible refine Kd.C_alloc ?_ _) | (with_reducible refine Kd.C_drewN ?_ _) | (with_reducible refine Kd.C_drew ?_))); (case side2 => exact (Kd.R_reads' HO_107001.out).2.1); rintro e w58 ⟨rfl, hb⟩; replace HO_107001 := Qz.mk (Kd.R_below yq81 hb); replace BK101 := Qz.mk (qp (g := gb101) (o := .cells #[.int .i64 x102000_2, .slice none 0 0] 68 (0, 0)) yq75 hb); replace BK106 := Qz.mk (qp (g := gb106) (o := .cells #[.int .i64 t103, .slice Ao57 x107001_2.length co57] 68 (0, 0)) yq78 hb); replace HB := Qz.mk (qm yq76 hb); replace HI102 := Qz.mk (IsS123.below yq74 hb); (try clear hb); (try clear hk); (try clear hi); have hcz59_0 : w58.cell? ⟨gb106, 0, none⟩ = some (.int .i64 t103) := (qh BK106.out 0).trans rfl; have hcz59_1 : w58.cell? ⟨gb106, 1, none⟩ = some (.slice Ao57 x107001_2.length co57) := (qh BK106.out 1).trans rfl; have hfz59_0 := qi BK106.out 0; have hfz59_1 := qi BK106.out 1; have hnb60 := NB101_102.out; have hnc60 := NB102_101.out; have hcz61_0 : w58.cell? ⟨gb101, 0, none⟩ = some (.int .i64 x102000_2) := (qh BK101.out 0).trans rfl; have hcz61_1 : w58.cell? ⟨gb101, 1, none⟩ = some (.slice none 0 0) := (qh BK101.out 1).trans rfl; have hfz61_0 := qi BK101.out 0; have hfz61_1 := qi BK101.out 1))
         refine bodyPost_ret (results_ct rfl _ _ gb101 68 #[.int .i64 t103, .slice Ao57 x107001_2.length co57] (0, 0) _ rfl (by (with_reducible repeat (first | refine qe ?_ _ | refine qg ?_ | refine qf ?_ _)); refine qz (cs := #[.int .i64 t103, .slice none 0 0]) ?_ 1 _ rfl; (with_reducible repeat (first | refine qe ?_ _ | refine qg ?_ | refine qf ?_ _)); refine qz (cs := #[.int .i64 x102000_2, .slice none 0 0]) ?_ 0 _ rfl; (with_reducible repeat (first | refine qe ?_ _ | refine qg ?_ | refine qf ?_ _)); exact BK101.out) Try.underlying68 rfl (by kernel_rfl)) rfl ?_
         exact ⟨_, by first | rfl | (simp [qo, qn] <;> rfl) | (simp [*, qo, qn] <;> rfl), by (with_reducible repeat (first | apply Kd.R_alloc | apply Kd.R_drewN | apply Kd.R_drew)); exact Kd.R_mono (Kd.R_far (p := ⟨gb101, 1, none⟩) (Kd.R_far (p := ⟨gb101, 0, none⟩) (Kd.R_types HO_107001.out BK101.out (by decide)) (fun _ hk => hk.2) (.int .i64 t103)) (fun _ hk => hk.2) (.slice Ao57 x107001_2.length co57)) (fun _ hk => trivial), by repeat (first | (with_reducible first | exact HB.out | apply qc | apply qa | apply qb | refine qd ?_ (IsS123.ge HI102.out) | refine qd ?_ GE101.out | refine qd ?_ GE106.out) | exact HB.out)⟩
        ·replace c52 := Bool.eq_false_iff.mpr c52
         subst c52
         have H1 : (some (0, ([] : List (S148)), false)) = some (r1, r2, r3) := by rw [if_neg (show ¬ (false = true) by decide)] at H; exact H
         clear H
         have H := H1
         clear H1
         simp only [Option.some.injEq, Prod.mk.injEq] at H
         obtain ⟨rfl, rfl, rfl⟩ := H
         go_wp2_with (first | ((with_reducible refine ql (f := 112) rfl ?_); refine qy (some 63) rfl rfl Try.func112 (by kernel_rfl) rfl #[.pointer (some ⟨gb102, 0, none⟩)] rfl yq82 ?_; (with_reducible refine (impl_taker_whole.calls gb102 x103000_2 x103001_2 true t121 t122 w _ ?side1 ?side2 A49.out).mono ?_); (case side1 => exact yq74); (case side2 => exact yq76); rintro e w62 ⟨rfl, hi, hb, hk⟩; refine ⟨_, rfl, ?_⟩; replace HO_107001 := Qz.mk (Kd.R_mono (Kd.R_keep (IsS123.apart (show IsS123 w _ gb102 x103000_2 x103001_2 from by repeat (first | (with_reducible first | exact HI102.out | apply IsS123.alloc | apply IsS123.drewN | apply IsS123.drew | apply IsS123.set_0 | apply IsS123.set_1 | apply (fun h_ => IsS123.far h_ NB102_101.out _) | apply (fun h_ => IsS123.far h_ NB102_106.out _)) | exact HI102.out)) yq81 (by decide)) hk (fun _ h => h.2)) (fun _ h => h.1)); replace BK101 := Qz.mk (KeepBut.blk hk (g' := gb101) (o := .cells #[.int .i64 x102000_2, .slice none 0 0] 68 (0, 0)) yq75 NB101_102.out (by simp)); replace BK106 := Qz.mk (KeepBut.blk hk (g' := gb106) (o := .cells #[.int .i64 t103, u107001] 68 (0, 0)) yq78 NB106_102.out (by simp)); replace HB := Qz.mk (hb); replace HI102 := Qz.mk (hi); (try clear hb); (try clear hk); (try clear hi); have hnb63 := NB106_101.out; have hnc63 := NB101_106.out; have hnb64 := NB106_102.out; have hnc64 := NB102_106.out; have hcz65_0 : w62.cell? ⟨gb106, 0, none⟩ = some (.int .i64 t103) := (qh BK106.out 0).trans rfl; have hcz65_1 : w62.cell? ⟨gb106, 1, none⟩ = some (u107001) := (qh BK106.out 1).trans rfl; have hfz65_0 := qi BK106.out 0; have hfz65_1 := qi BK106.out 1; obtain ⟨Ao66, co66, eo66⟩ := Kd.R_slice HO_107001.out; subst eo66) | (go_at_call 48; (with_reducible refine (impl_BatchOk.calls k2 t103 _ _ x107001_2 false _ ?side1 ?side2 A51.out).mono ?_); (case side1 => repeat (first | exact (Kd.R_reads' HO_107001.out).2.2 | (with_reducible refine Kd.C_alloc ?_ _) | (with_reducible refine Kd.C_drewN ?_ _) | (with_reducible refine Kd.C_drew ?_))); (case side2 => exact (Kd.R_reads' HO_107001.out).2.1); rintro e w67 ⟨rfl, hb⟩; replace HO_107001 := Qz.mk (Kd.R_below yq81 hb); replace BK101 := Qz.mk (qp (g := gb101) (o := .cells #[.int .i64 x102000_2, .slice none 0 0] 68 (0, 0)) yq75 hb); replace BK106 := Qz.mk (qp (g := gb106) (o := .cells #[.int .i64 t103, .slice Ao66 x107001_2.length co66] 68 (0, 0)) yq78 hb); replace HB := Qz.mk (qm yq76 hb); replace HI102 := Qz.mk (IsS123.below yq74 hb); (try clear hb); (try clear hk); (try clear hi); have hnb68 := NB101_102.out; have hnc68 := NB102_101.out; have hcz69_0 : w67.cell? ⟨gb101, 0, none⟩ = some (.int .i64 x102000_2) := (qh BK101.out 0).trans rfl; have hcz69_1 : w67.cell? ⟨gb101, 1, none⟩ = some (.slice none 0 0) := (qh BK101.out 1).trans rfl; have hfz69_0 := qi BK101.out 0; have hfz69_1 := qi BK101.out 1))
         refine bodyPost_ret (results_ct rfl _ _ gb101 68 #[.int .i64 0, .slice none 0 0] (0, 0) _ rfl yq77 Try.underlying68 rfl (by kernel_rfl)) rfl ?_
         exact ⟨_, by first | rfl | (simp [qo, qn] <;> rfl) | (simp [*, qo, qn] <;> rfl), by first | exact Kd.R_nil _ _ _ _ _ | exact Kd.N_nil _ _ _ _ _ | exact Kd.V_nil _ _ _ _ _ | exact Kd.Q_nil _ _ _ _ _ | exact Kd.S_nil _ _ _ _ _, by repeat (first | (with_reducible first | exact HB.out | apply qc | apply qa | apply qb | refine qd ?_ (IsS123.ge HI102.out) | refine qd ?_ GE101.out | refine qd ?_ GE106.out) | exact HB.out)⟩
       ·replace c50 := Bool.eq_false_iff.mpr c50
        subst c50
        have H1 : (some (0, ([] : List (S148)), false)) = some (r1, r2, r3) := by rw [if_neg (show ¬ (false = true) by decide)] at H; exact H
        clear H
        have H := H1
        clear H1
        simp only [Option.some.injEq, Prod.mk.injEq] at H
        obtain ⟨rfl, rfl, rfl⟩ := H
        go_wp2_with (first | ((with_reducible refine ql (f := 112) rfl ?_); refine qy (some 63) rfl rfl Try.func112 (by kernel_rfl) rfl #[.pointer (some ⟨gb102, 0, none⟩)] rfl yq82 ?_; (with_reducible refine (impl_taker_whole.calls gb102 x103000_2 x103001_2 false t121 t122 w _ ?side1 ?side2 A49.out).mono ?_); (case side1 => exact yq74); (case side2 => exact yq76); rintro e w70 ⟨rfl, hi, hb, hk⟩; refine ⟨_, rfl, ?_⟩; replace HO_107001 := Qz.mk (Kd.R_mono (Kd.R_keep (IsS123.apart (show IsS123 w _ gb102 x103000_2 x103001_2 from by repeat (first | (with_reducible first | exact HI102.out | apply IsS123.alloc | apply IsS123.drewN | apply IsS123.drew | apply IsS123.set_0 | apply IsS123.set_1 | apply (fun h_ => IsS123.far h_ NB102_101.out _) | apply (fun h_ => IsS123.far h_ NB102_106.out _)) | exact HI102.out)) yq81 (by decide)) hk (fun _ h => h.2)) (fun _ h => h.1)); replace BK101 := Qz.mk (KeepBut.blk hk (g' := gb101) (o := .cells #[.int .i64 x102000_2, .slice none 0 0] 68 (0, 0)) yq75 NB101_102.out (by simp)); replace BK106 := Qz.mk (KeepBut.blk hk (g' := gb106) (o := .cells #[.int .i64 t103, u107001] 68 (0, 0)) yq78 NB106_102.out (by simp)); replace HB := Qz.mk (hb); replace HI102 := Qz.mk (hi); (try clear hb); (try clear hk); (try clear hi); have hnb71 := NB101_106.out; have hnc71 := NB106_101.out; have hnb72 := NB101_102.out; have hnc72 := NB102_101.out; have hcz73_0 : w70.cell? ⟨gb101, 0, none⟩ = some (.int .i64 x102000_2) := (qh BK101.out 0).trans rfl; have hcz73_1 : w70.cell? ⟨gb101, 1, none⟩ = some (.slice none 0 0) := (qh BK101.out 1).trans rfl; have hfz73_0 := qi BK101.out 0; have hfz73_1 := qi BK101.out 1))
        refine bodyPost_ret (results_ct rfl _ _ gb101 68 #[.int .i64 0, .slice none 0 0] (0, 0) _ rfl yq77 Try.underlying68 rfl (by kernel_rfl)) rfl ?_
        exact ⟨_, by first | rfl | (simp [qo, qn] <;> rfl) | (simp [*, qo, qn] <;> rfl), by first | exact Kd.R_nil _ _ _ _ _ | exact Kd.N_nil _ _ _ _ _ | exact Kd.V_nil _ _ _ _ _ | exact Kd.Q_nil _ _ _ _ _ | exact Kd.S_nil _ _ _ _ _, by repeat (first | (with_reducible first | exact HB.out | apply qc | apply qa | apply qb | refine qd ?_ (IsS123.ge HI102.out) | refine qd ?_ GE101.out | refine qd ?_ GE106.out) | exact HB.out)⟩
def spec_l2User.f (a0 : ByteArray) : Option (Bool) := if (a0.size : Int) ≥ 1 then (some (decide ((a0.size : Int) ≤ 40))) else (some false)
set_option maxHeartbeats 8000000 in
set_option maxRecDepth 100000 in
theorem spec_l2User.calls (a0 : ByteArray) (r : Bool) (w : World) (h : spec_l2User.f a0 = some r) :
  Calls Try.prog 151 #[.string a0] w fun e w' => e = .returned (.bool r) ∧ Drawn0 w w' := by
 have H : (if (a0.size : Int) ≥ 1 then (some (decide ((a0.size : Int) ≤ 40))) else (some false)) = some r := h
 clear h
 by_cases c2 : (a0.size : Int) ≥ 1
 ·rw [if_pos c2] at H
  have c2b0 : decide (1 ≤ (a0.size : Int)) = true := decide_eq_true c2
  have c2b1 : decide (1 ≤ a0.size) = true := decide_eq_true (by omega)
  clear c2
  obtain rfl := Option.some.inj H
  go_enter Try.func151, Try.ntmps151
  go_wp2
  go_ret
  exact ⟨by first | rfl | (simp; done) | (simp [*]; done), by repeat (first | exact Drawn0.refl _ | apply Drawn0.step)⟩
 ·rw [if_neg c2] at H
  have c2b0 : decide (1 ≤ (a0.size : Int)) = false := decide_eq_false c2
  have c2b1 : decide (1 ≤ a0.size) = false := decide_eq_false (by omega)
  clear c2
  obtain rfl := Option.some.inj H
  go_enter Try.func151, Try.ntmps151
  go_wp2
  go_ret
  exact ⟨by first | rfl | (simp; done) | (simp [*]; done), by repeat (first | exact Drawn0.refl _ | apply Drawn0.step)⟩
def spec_l1In.f (a0 : Int) (a1 : Int) (a2 : Int) : Option (Bool) := if a0 ≥ a1 then (some (decide (a0 ≤ a2))) else (some false)
set_option maxHeartbeats 8000000 in
set_option maxRecDepth 100000 in
theorem spec_l1In.calls (a0 : Int) (a1 : Int) (a2 : Int) (r : Bool) (w : World) (h : spec_l1In.f a0 a1 a2 = some r) :
  Calls Try.prog 69 #[.int .i64 a0, .int .i64 a1, .int .i64 a2] w fun e w' => e = .returned (.bool r) ∧ Drawn0 w w' := by
 have H : (if a0 ≥ a1 then (some (decide (a0 ≤ a2))) else (some false)) = some r := h
 clear h
 by_cases c4 : a0 ≥ a1
 ·rw [if_pos c4] at H
  have c4b0 : decide (a1 ≤ a0) = true := decide_eq_true c4
  clear c4
  obtain rfl := Option.some.inj H
  go_enter Try.func69, Try.ntmps69
  go_wp2
  go_ret
  exact ⟨by first | rfl | (simp; done) | (simp [*]; done), by repeat (first | exact Drawn0.refl _ | apply Drawn0.step)⟩
 ·rw [if_neg c4] at H
  have c4b0 : decide (a1 ≤ a0) = false := decide_eq_false c4
  clear c4
  obtain rfl := Option.some.inj H
  go_enter Try.func69, Try.ntmps69
  go_wp2
  go_ret
  exact ⟨by first | rfl | (simp; done) | (simp [*]; done), by repeat (first | exact Drawn0.refl _ | apply Drawn0.step)⟩
theorem yq88 {P : Prop} (h : P := by repeat (first | (with_reducible first | exact HB.out | apply qc | apply qa | apply qb) | exact HB.out)) : P := h
def spec_KeyOk.f (a0_0 : ByteArray) (a0_1 : Int) (a0_2 : Int) : Option (Bool) := (spec_l2User.f a0_0).bind fun t102 => (if t102 = true then ((spec_l1In.f a0_1 0 1000000000000).bind fun t103 => (if t103 = true then ((spec_l1In.f a0_2 0 1).bind fun t104 => (some t104)) else (some false))) else (some false))
set_option maxHeartbeats 8000000 in
set_option maxRecDepth 100000 in
theorem spec_KeyOk.calls (a0_0 : ByteArray) (a0_1 : Int) (a0_2 : Int) (r : Bool) (w : World) (h : spec_KeyOk.f a0_0 a0_1 a0_2 = some r) :
  Calls Try.prog 79 #[.agg #[.string a0_0, .int .i64 a0_1, .int .i64 a0_2]] w fun e w' => e = .returned (.bool r) ∧ Below w.heap.size w w' := by
 have hu35 := Try.underlying35
 have HB := Qz.mk (Below.refl w.heap.size w)
 have H : ((spec_l2User.f a0_0).bind fun t102 => (if t102 = true then ((spec_l1In.f a0_1 0 1000000000000).bind fun t103 => (if t103 = true then ((spec_l1In.f a0_2 0 1).bind fun t104 => (some t104)) else (some false))) else (some false))) = some r := h
 clear h
 replace H := Option.bind_eq_some_iff.mp H
 obtain ⟨t102, A20, H⟩ := H
 replace H : (if t102 = true then ((spec_l1In.f a0_1 0 1000000000000).bind fun t103 => (if t103 = true then ((spec_l1In.f a0_2 0 1).bind fun t104 => (some t104)) else (some false))) else (some false)) = some r := H
 have A2 := Qz.mk A20
 clear A20
 by_cases c3 : t102 = true
 ·subst c3
  have H1 : ((spec_l1In.f a0_1 0 1000000000000).bind fun t103 => (if t103 = true then ((spec_l1In.f a0_2 0 1).bind fun t104 => (some t104)) else (some false))) = some r := by rw [if_pos rfl] at H; exact H
  clear H
  have H := H1
  clear H1
  replace H := Option.bind_eq_some_iff.mp H
  obtain ⟨t103, A40, H⟩ := H
  replace H : (if t103 = true then ((spec_l1In.f a0_2 0 1).bind fun t104 => (some t104)) else (some false)) = some r := H
  have A4 := Qz.mk A40
  clear A40
  by_cases c5 : t103 = true
  ·subst c5
   have H1 : ((spec_l1In.f a0_2 0 1).bind fun t104 => (some t104)) = some r := by rw [if_pos rfl] at H; exact H
   clear H
   have H := H1
   clear H1
   replace H := Option.bind_eq_some_iff.mp H
   obtain ⟨t104, A60, H⟩ := H
   replace H : (some t104) = some r := H
   have A6 := Qz.mk A60
   clear A60
   obtain rfl := Option.some.inj H
   go_enter Try.func79, Try.ntmps79
   go_wp2_with (first | ((with_reducible refine qg1 (N := 1) rfl ?_); refine qf1 ?hg (N := 1) ?hd (cs := #[.string a0_0, .int .i64 a0_1, .int .i64 a0_2]) (t := 35) ?hr ?_; (case hd => rfl); (case hg => rfl); (case hr => first | (go_simp; done) | (go_simp; rfl)); intro gb101 hg w7 hbox hb; have BK101 := Qz.mk (hbox); have GW101 := Qz.mk ((by rw [hg]; exact (qr yq88) : w.heap.size ≤ gb101)); have GE101 := GW101; replace HB := Qz.mk (qm yq88 hb); clear hb hbox hg; have hcz8_0 : w7.cell? ⟨gb101, 0, none⟩ = some (.string a0_0) := (qh BK101.out 0).trans rfl; have hcz8_1 : w7.cell? ⟨gb101, 1, none⟩ = some (.int .i64 a0_1) := (qh BK101.out 1).trans rfl; have hcz8_2 : w7.cell? ⟨gb101, 2, none⟩ = some (.int .i64 a0_2) := (qh BK101.out 2).trans rfl; have hfz8_0 := qi BK101.out 0; have hfz8_1 := qi BK101.out 1; have hfz8_2 := qi BK101.out 2) | ((with_reducible refine ql (f := 151) rfl ?_); refine qy (some 5) rfl rfl Try.func151 (by kernel_rfl) rfl #[.string a0_0] rfl (by (try simp only [List.map_toArray, List.map_cons, List.map_nil]); first | done | rfl) ?_; (with_reducible refine (spec_l2User.calls a0_0 true _ A2.out).mono ?_); rintro e w' ⟨rfl, ⟨nd, rfl⟩⟩; refine ⟨_, rfl, ?_⟩) | (go_at_call 69; (with_reducible refine (spec_l1In.calls a0_1 0 1000000000000 true _ A4.out).mono ?_); rintro e w' ⟨rfl, ⟨nd, rfl⟩⟩) | (go_at_call 69; (with_reducible refine (spec_l1In.calls a0_2 0 1 t104 _ A6.out).mono ?_); rintro e w' ⟨rfl, ⟨nd, rfl⟩⟩))
   go_ret
   exact ⟨by first | rfl | (simp [qo, qn] <;> rfl) | (simp [*, qo, qn] <;> rfl), by repeat (first | (with_reducible first | exact HB.out | apply qc | apply qa | apply qb | refine qd ?_ GE101.out) | exact HB.out)⟩
  ·replace c5 := Bool.eq_false_iff.mpr c5
   subst c5
   have H1 : (some false) = some r := by rw [if_neg (show ¬ (false = true) by decide)] at H; exact H
   clear H
   have H := H1
   clear H1
   obtain rfl := Option.some.inj H
   go_enter Try.func79, Try.ntmps79
   go_wp2_with (first | ((with_reducible refine qg1 (N := 1) rfl ?_); refine qf1 ?hg (N := 1) ?hd (cs := #[.string a0_0, .int .i64 a0_1, .int .i64 a0_2]) (t := 35) ?hr ?_; (case hd => rfl); (case hg => rfl); (case hr => first | (go_simp; done) | (go_simp; rfl)); intro gb101 hg w9 hbox hb; have BK101 := Qz.mk (hbox); have GW101 := Qz.mk ((by rw [hg]; exact (qr yq88) : w.heap.size ≤ gb101)); have GE101 := GW101; replace HB := Qz.mk (qm yq88 hb); clear hb hbox hg; have hcz10_0 : w9.cell? ⟨gb101, 0, none⟩ = some (.string a0_0) := (qh BK101.out 0).trans rfl; have hcz10_1 : w9.cell? ⟨gb101, 1, none⟩ = some (.int .i64 a0_1) := (qh BK101.out 1).trans rfl; have hcz10_2 : w9.cell? ⟨gb101, 2, none⟩ = some (.int .i64 a0_2) := (qh BK101.out 2).trans rfl; have hfz10_0 := qi BK101.out 0; have hfz10_1 := qi BK101.out 1; have hfz10_2 := qi BK101.out 2) | ((with_reducible refine ql (f := 151) rfl ?_); refine qy (some 5) rfl rfl Try.func151 (by kernel_rfl) rfl #[.string a0_0] rfl (by (try simp only [List.map_toArray, List.map_cons, List.map_nil]); first | done | rfl) ?_; (with_reducible refine (spec_l2User.calls a0_0 true _ A2.out).mono ?_); rintro e w' ⟨rfl, ⟨nd, rfl⟩⟩; refine ⟨_, rfl, ?_⟩) | (go_at_call 69; (with_reducible refine (spec_l1In.calls a0_1 0 1000000000000 false _ A4.out).mono ?_); rintro e w' ⟨rfl, ⟨nd, rfl⟩⟩))
   go_ret
   exact ⟨by first | rfl | (simp [qo, qn] <;> rfl) | (simp [*, qo, qn] <;> rfl), by repeat (first | (with_reducible first | exact HB.out | apply qc | apply qa | apply qb | refine qd ?_ GE101.out) | exact HB.out)⟩
 ·replace c3 := Bool.eq_false_iff.mpr c3
  subst c3
  have H1 : (some false) = some r := by rw [if_neg (show ¬ (false = true) by decide)] at H; exact H
  clear H
  have H := H1
  clear H1
  obtain rfl := Option.some.inj H
  go_enter Try.func79, Try.ntmps79
  go_wp2_with (first | ((with_reducible refine qg1 (N := 1) rfl ?_); refine qf1 ?hg (N := 1) ?hd (cs := #[.string a0_0, .int .i64 a0_1, .int .i64 a0_2]) (t := 35) ?hr ?_; (case hd => rfl); (case hg => rfl); (case hr => first | (go_simp; done) | (go_simp; rfl)); intro gb101 hg w11 hbox hb; have BK101 := Qz.mk (hbox); have GW101 := Qz.mk ((by rw [hg]; exact (qr yq88) : w.heap.size ≤ gb101)); have GE101 := GW101; replace HB := Qz.mk (qm yq88 hb); clear hb hbox hg; have hcz12_0 : w11.cell? ⟨gb101, 0, none⟩ = some (.string a0_0) := (qh BK101.out 0).trans rfl; have hcz12_1 : w11.cell? ⟨gb101, 1, none⟩ = some (.int .i64 a0_1) := (qh BK101.out 1).trans rfl; have hcz12_2 : w11.cell? ⟨gb101, 2, none⟩ = some (.int .i64 a0_2) := (qh BK101.out 2).trans rfl; have hfz12_0 := qi BK101.out 0; have hfz12_1 := qi BK101.out 1; have hfz12_2 := qi BK101.out 2) | ((with_reducible refine ql (f := 151) rfl ?_); refine qy (some 5) rfl rfl Try.func151 (by kernel_rfl) rfl #[.string a0_0] rfl (by (try simp only [List.map_toArray, List.map_cons, List.map_nil]); first | done | rfl) ?_; (with_reducible refine (spec_l2User.calls a0_0 false _ A2.out).mono ?_); rintro e w' ⟨rfl, ⟨nd, rfl⟩⟩; refine ⟨_, rfl, ?_⟩))
  go_ret
  exact ⟨by first | rfl | (simp [qo, qn] <;> rfl) | (simp [*, qo, qn] <;> rfl), by repeat (first | (with_reducible first | exact HB.out | apply qc | apply qa | apply qb | refine qd ?_ GE101.out) | exact HB.out)⟩
end Go.Proofs.Ytidjdkodgddfcaa.P
end
