/- Proved: the law FnBatches of the given program returns true for every input of its Go types and leaves each argument as it was; no condition. (Part 11 of 14.) -/
import Derived.Test.YtidjdkodgddfcaaCFnBatches4
import Derived.Test.YtidjdkodgddfcaaCFnBatches6
import Derived.Lib.SliceRun
import Derived.Lib.Walk
import Derived.Test.YtidjdkodgddfcaaCFnBatches9
import Derived.Test.YtidjdkodgddfcaaCFnBatches5
section
namespace Go.Proofs.Ytidjdkodgddfcaa.P
open Go.RowKit Go.Proofs.YtidjdkodgddfcaaW.PrintWords Go.Proofs.YtidjdkodgddfcaaW.PrintLast Go.Proofs.YtidjdkodgddfcaaW.PrintMore
attribute [local go_sem] qi1 qh1 qj1 qd1 qb1 ql1 qk1 qx qw qc1 qa1
set_option linter.unusedVariables false
set_option linter.unusedSimpArgs false
theorem R_empty {α : Type} (d : Kd α) (e : Nat) (w : World) (base : Nat) (hb : base ≤ w.heap.size) : d.R e (w.alloc (.cells #[] e)) base (fun _ => True) (.slice (some ⟨w.heap.size, 0, none⟩) ([] : List α).length 0) [] :=
  ⟨fun _ _ => trivial, [], World.ownsRow_made w #[] 0 hb (Nat.zero_le _) (by simp), Reps.none _ _⟩
set_option maxHeartbeats 4000000 in
set_option maxRecDepth 100000 in
theorem clone_Entry (A0 : Option Addr) (c0 : Nat) (l : List S64) (w0 w : World) (hB : Below w0.heap.size w0 w) (hr : Kd.C k64 w A0 l.length l) (hl : l.length * 48 ≤ 140737488355328) :
    Calls Try.prog 168 #[.slice A0 l.length c0] w fun e w' => ∃ v, e = .returned v ∧ Kd.R k64 64 w' w0.heap.size (fun _ => True) v l ∧ Below w0.heap.size w0 w' := by
  have q : ∀ (w : World) (a : Option Addr) (n c n' c' : Nat), (binOp .eql 26 (.slice a n c) (.slice none n' c')).run Try.prog w = .ok (.bool a.isNone) w := fun w a n c n' c' => Lib.run_eql_slice_nil w _ _ a n c n' c' Try.underlying26
  have HR := Qz.mk hr
  have HB := Qz.mk hB
  have hsz := hB.size
  cases A0 with
  | none =>
    have h0 : l = [] := by
      by_cases h0 : l.length = 0
      · exact List.length_eq_zero_iff.1 h0
      · obtain ⟨ad, e, _⟩ := hr.2.2 (by omega)
        cases e
    clear hr hB
    go_enter Try.func168, Try.ntmps168
    go_wp2
    go_ret
    refine ⟨_, rfl, ?_, HB.out⟩
    rw [h0]
    exact Kd.R_nil _ _ _ _ _
  | some ad =>
    clear hr hB
    have HX := Qz.mk hl
    clear hl
    go_enter Try.func168, Try.ntmps168
    go_wp2_with (first | ((with_reducible refine gate_builtin (b := .append) (xs := #[.tmp 5, .tmp 6]) rfl ?_); at_builtin; refine Kd.R_append_rows k64 (w0 := w0) w0.heap.size rfl (.tmp 5) (.tmp 6) 26 64 (.agg #[.string ⟨#[]⟩, .int .i64 0, .int .i64 0, .string ⟨#[]⟩]) 48 rfl Try.underlying26 info64 rfl (by decide) (by omega) (.slice (some ⟨w.heap.size, 0, none⟩) ([] : List S64).length 0) [] l (some ad) l.length c0 (fun _ => True) (fun _ => False) rfl rfl ?aO ?aR (fun _ _ h => h) (fun _ h => h.elim) ?aF ?aB ?aS ?aL ?_; (case aO => exact R_empty k64 64 w _ hsz); (case aR => exact Kd.C_below HR.out ((Below.refl _ w).alloc (Nat.le_refl _) _)); (case aF => exact fun _ _ => trivial); (case aB => exact HB.out.alloc hsz _); (case aS => exact (HB.out.alloc hsz _).size); (case aL => have := HX.out; simp only [List.length_nil, Nat.zero_add]; exact this); intro v1 w1 ho hb hg hat))
    go_ret
    exact ⟨_, rfl, ho, hb⟩
end Go.Proofs.Ytidjdkodgddfcaa.P
end

section
namespace Go.Proofs.Ytidjdkodgddfcaa.P
open Go.RowKit Go.Proofs.YtidjdkodgddfcaaW.PrintWords Go.Proofs.YtidjdkodgddfcaaW.PrintLast Go.Proofs.YtidjdkodgddfcaaW.PrintMore
attribute [local go_sem] qi1 qh1 qj1 qd1 qb1 ql1 qk1 qx qw qc1 qa1
set_option linter.unusedVariables false
set_option linter.unusedSimpArgs false
theorem cmpB_entries : CmpB Try.prog 97 #[] encL (cfL ecmp) := by
  intro W x y
  obtain ⟨k, hk⟩ := Ev.rounds (cmpKeys_ev x.1.f0.f0 x.1.f0.f1 x.1.f0.f2 y.1.f0.f0 y.1.f0.f1 y.1.f0.f2)
  exact impl_cmpEntries.calls k x.1.f0.f0 x.1.f0.f1 x.1.f0.f2 x.1.f1 y.1.f0.f0 y.1.f0.f1 y.1.f0.f2 y.1.f1 _ W (by unfold impl_cmpEntries.f; rw [hk]; rfl)
def impl_ordered.f (l0 : List S64) : Option (List S64) := if l0.length ≤ 1000000 then some (srt ecmp l0) else none
set_option maxHeartbeats 4000000 in
theorem impl_ordered.calls (A0 : Option Addr) (c0 : Nat) (l0 : List S64) (r : List S64) (w : World) (hr0 : Kd.C k64 w A0 l0.length l0) (hc0 : l0.length ≤ c0) (h : impl_ordered.f l0 = some r) :
    Calls Try.prog 117 #[.slice A0 l0.length c0] w fun e w' => ∃ v0_ : Value, e = .returned (v0_) ∧ Kd.R k64 64 w' w.heap.size (fun _ => True) v0_ r ∧ Below w.heap.size w w' := by
  unfold impl_ordered.f at h
  split at h
  · rename_i hl
    obtain rfl := Option.some.inj h
    have hcl := clone_Entry A0 c0 l0 w w (Below.refl _ w) hr0 (by omega)
    have hso := fun v W hR hB => sort_own 97 ecmp (fun args w => by kernel_rfl) cmpB_entries w.heap.size v l0 w W hR hB (by omega)
    have HSO := Qz.mk hso
    clear hr0 hc0 h hl hso
    generalize srt ecmp l0 = r at HSO ⊢
    have q1 : ∀ args w, (callFunc 168 args).run Try.prog w = .ok (.enter 168 args) w := fun args w => by kernel_rfl
    have q2 : ∀ args w, (callFunc 169 args).run Try.prog w = .ok (.enter 169 args) w := fun args w => by kernel_rfl
    go_enter Try.func117, Try.ntmps117
    go_wp2_with fail
    (with_reducible refine hcl.mono ?_)
    rintro e w1 ⟨v, rfl, hR, hB⟩
    have hso := HSO.out v w1 hR hB
    clear hcl hR hB HSO
    go_wp2_with fail
    (with_reducible refine hso.mono ?_)
    rintro e w2 ⟨rfl, hR, hB⟩
    have HR := Qz.mk hR
    have HB := Qz.mk hB
    clear hso hR hB
    go_wp2
    go_ret
    exact ⟨_, rfl, HR.out, HB.out⟩
  · cases h
theorem yq107 {P : Prop} (h : P := by repeat (first | (with_reducible first | exact HB.out | apply qc | apply qa | apply qb | refine qd ?_ GE101.out) | exact HB.out)) : P := h
theorem yq108 {P : Prop} (h : P := by (try simp only [List.map_toArray, List.map_cons, List.map_nil]); first | done | rfl | (simp only [List.length_drop, List.length_take]; rfl) | (rw [IntWalk.u64_in _ (by omega)] <;> rfl)) : P := h
theorem yq109 {P : Prop} (h : P := by repeat (first | exact (Kd.C_below HR0_1.out HB.out) | (with_reducible refine Kd.C_alloc ?_ _) | (with_reducible refine Kd.C_drewN ?_ _) | (with_reducible refine Kd.C_drew ?_))) : P := h
theorem yq110 {P : Prop} (h : P := by repeat (first | (with_reducible first | exact HB.out | apply qc | apply qa | apply qb) | exact HB.out)) : P := h
theorem yq111 {P : Prop} (h : P := by (with_reducible repeat (first | refine qe ?_ _ | refine qg ?_ | refine qf ?_ _)); exact BK101.out) : P := h
def impl_BatchEntries.f (k : Nat) (a0_0 : Int) (l0_1 : List (S148)) : Option ((List (S64))) := (impl_BatchOk.f k a0_0 l0_1).bind fun t102 => (if t102 = true then ((impl_Batch_entries.f k a0_0 l0_1).bind fun t103 => ((impl_ordered.f t103).bind fun t106 => (some t106))) else (some ([] : List (S64))))
set_option maxHeartbeats 8000000 in
set_option maxRecDepth 100000 in
theorem impl_BatchEntries.calls (k : Nat) (a0_0 : Int) (A0_1 : Option Addr) (c0_1 : Nat) (l0_1 : List (S148)) (r : List (S64)) (w : World) (hr0_1 : Kd.C k148 w A0_1 l0_1.length l0_1) (hc0_1 : l0_1.length ≤ c0_1) (h : impl_BatchEntries.f k a0_0 l0_1 = some r) :
  Calls Try.prog 50 #[.agg #[.int .i64 a0_0, .slice A0_1 l0_1.length c0_1]] w fun e w' => ∃ v0_ : Value, e = .returned (v0_) ∧ Kd.R k64 64 w' w.heap.size (fun _ => True) v0_ r ∧ Below w.heap.size w w' := by
 have hu68 := Try.underlying68
 have HR0_1 := Qz.mk hr0_1
 have HC0_1 := Qz.mk hc0_1
 clear hr0_1 hc0_1
 have HB := Qz.mk (Below.refl w.heap.size w)
 have H : ((impl_BatchOk.f k a0_0 l0_1).bind fun t102 => (if t102 = true then ((impl_Batch_entries.f k a0_0 l0_1).bind fun t103 => ((impl_ordered.f t103).bind fun t106 => (some t106))) else (some ([] : List (S64))))) = some r := h
 clear h
 replace H := Option.bind_eq_some_iff.mp H
 obtain ⟨t102, A20, H⟩ := H
 replace H : (if t102 = true then ((impl_Batch_entries.f k a0_0 l0_1).bind fun t103 => ((impl_ordered.f t103).bind fun t106 => (some t106))) else (some ([] : List (S64)))) = some r := H
 have A2 := Qz.mk A20
 clear A20
 by_cases c3 : t102 = true
 ·subst c3
  have H1 : ((impl_Batch_entries.f k a0_0 l0_1).bind fun t103 => ((impl_ordered.f t103).bind fun t106 => (some t106))) = some r := by rw [if_pos rfl] at H; exact H
  clear H
  have H := H1
  clear H1
  replace H := Option.bind_eq_some_iff.mp H
  obtain ⟨t103, A40, H⟩ := H
  replace H : ((impl_ordered.f t103).bind fun t106 => (some t106)) = some r := H
  have A4 := Qz.mk A40
  clear A40
  replace H := Option.bind_eq_some_iff.mp H
  obtain ⟨t106, A50, H⟩ := H
  replace H : (some t106) = some r := H
  have A5 := Qz.mk A50
  clear A50
  obtain rfl := Option.some.inj H
  go_enter Try.func50, Try.ntmps50
  go_wp2_with (first | ((with_reducible refine qg1 (N := 1) rfl ?_); refine qf1 ?hg (N := 1) ?hd (cs := #[.int .i64 a0_0, .slice A0_1 l0_1.length c0_1]) (t := 68) ?hr ?_; (case hd => rfl); (case hg => rfl); (case hr => first | (go_simp; done) | (go_simp; rfl)); intro gb101 hg w6 hbox hb; have BK101 := Qz.mk (hbox); have GW101 := Qz.mk ((by rw [hg]; exact (qr yq110) : w.heap.size ≤ gb101)); have GE101 := GW101; replace HB := Qz.mk (qm yq110 hb); clear hb hbox hg; have hcz7_0 : w6.cell? ⟨gb101, 0, none⟩ = some (.int .i64 a0_0) := (qh BK101.out 0).trans rfl; have hcz7_1 : w6.cell? ⟨gb101, 1, none⟩ = some (.slice A0_1 l0_1.length c0_1) := (qh BK101.out 1).trans rfl; have hfz7_0 := qi BK101.out 0; have hfz7_1 := qi BK101.out 1) | ((with_reducible refine ql (f := 48) rfl ?_); refine qy (some 4) rfl rfl Try.func48 (by kernel_rfl) rfl #[.agg #[.int .i64 a0_0, .slice A0_1 l0_1.length c0_1]] rfl yq108 ?_; (with_reducible refine (impl_BatchOk.calls k a0_0 _ _ l0_1 true _ ?side1 ?side2 A2.out).mono ?_); (case side1 => exact yq109); (case side2 => exact HC0_1.out); rintro e w8 ⟨rfl, hb⟩; refine ⟨_, rfl, ?_⟩; replace BK101 := Qz.mk (qp (g := gb101) (o := .cells #[.int .i64 a0_0, .slice A0_1 l0_1.length c0_1] 68 (0, 0)) yq111 hb); replace HB := Qz.mk (qm yq107 hb); (try clear hb); (try clear hk); have hcz9_0 : w8.cell? ⟨gb101, 0, none⟩ = some (.int .i64 a0_0) := (qh BK101.out 0).trans rfl; have hcz9_1 : w8.cell? ⟨gb101, 1, none⟩ = some (.slice A0_1 l0_1.length c0_1) := (qh BK101.out 1).trans rfl; have hfz9_0 := qi BK101.out 0; have hfz9_1 := qi BK101.out 1) | ((with_reducible refine ql (f := 115) rfl ?_); refine qy (some 7) rfl rfl Try.func115 (by kernel_rfl) rfl #[.agg #[.int .i64 a0_0, .slice A0_1 l0_1.length c0_1]] rfl yq108 ?_; (with_reducible refine (impl_Batch_entries.calls k a0_0 _ _ l0_1 t103 _ ?side1 ?side2 A4.out).mono ?_); (case side1 => exact yq109); (case side2 => exact HC0_1.out); rintro e w10 ⟨v104, rfl, ho0, hb⟩; refine ⟨_, rfl, ?_⟩; have HO105 := Qz.mk (Kd.R_lower ho0 (qr yq107)); replace BK101 := Qz.mk (qp (g := gb101) (o := .cells #[.int .i64 a0_0, .slice A0_1 l0_1.length c0_1] 68 (0, 0)) yq111 hb); replace HB := Qz.mk (qm yq107 hb); (try clear hb); (try clear hk); (try clear ho0); obtain ⟨Ao11, co11, eo11⟩ := Kd.R_slice HO105.out; subst eo11) | ((with_reducible refine ql (f := 117) rfl ?_); refine qy (some 8) rfl rfl Try.func117 (by kernel_rfl) rfl #[.slice Ao11 t103.length co11] rfl yq108 ?_; (with_reducible refine (impl_ordered.calls _ _ t103 t106 _ ?side1 ?side2 A5.out).mono ?_); (case side1 => repeat (first | exact (Kd.R_reads' HO105.out).2.2 | (with_reducible refine Kd.C_alloc ?_ _) | (with_reducible refine Kd.C_drewN ?_ _) | (with_reducible refine Kd.C_drew ?_))); (case side2 => exact (Kd.R_reads' HO105.out).2.1); rintro e w12 ⟨v107, rfl, ho0, hb⟩; refine ⟨_, rfl, ?_⟩; have HO108 := Qz.mk (Kd.R_lower (Kd.R_new' ho0 (Kd.R_lt (by (with_reducible repeat (first | apply Kd.R_alloc | apply Kd.R_drewN | apply Kd.R_drew)); exact HO105.out))) (qr yq107)); replace HO105 := Qz.mk (Kd.R_elder' (by (with_reducible repeat (first | apply Kd.R_alloc | apply Kd.R_drewN | apply Kd.R_drew)); exact HO105.out) (Kd.R_base ho0) hb); replace BK101 := Qz.mk (qp (g := gb101) (o := .cells #[.int .i64 a0_0, .slice A0_1 l0_1.length c0_1] 68 (0, 0)) yq111 hb); replace HB := Qz.mk (qm yq107 hb); (try clear hb); (try clear hk); (try clear ho0)))
  go_ret
  exact ⟨_, by first | rfl | (simp [qo, qn] <;> rfl) | (simp [*, qo, qn] <;> rfl), by (with_reducible repeat (first | apply Kd.R_alloc | apply Kd.R_drewN | apply Kd.R_drew)); exact Kd.R_mono HO108.out (fun _ hk => trivial), by repeat (first | (with_reducible first | exact HB.out | apply qc | apply qa | apply qb | refine qd ?_ GE101.out) | exact HB.out)⟩
 ·replace c3 := Bool.eq_false_iff.mpr c3
  subst c3
  have H1 : (some ([] : List (S64))) = some r := by rw [if_neg (show ¬ (false = true) by decide)] at H; exact H
  clear H
  have H := H1
  clear H1
  obtain rfl := Option.some.inj H
  go_enter Try.func50, Try.ntmps50
  go_wp2_with (first | ((with_reducible refine qg1 (N := 1) rfl ?_); refine qf1 ?hg (N := 1) ?hd (cs := #[.int .i64 a0_0, .slice A0_1 l0_1.length c0_1]) (t := 68) ?hr ?_; (case hd => rfl); (case hg => rfl); (case hr => first | (go_simp; done) | (go_simp; rfl)); intro gb101 hg w13 hbox hb; have BK101 := Qz.mk (hbox); have GW101 := Qz.mk ((by rw [hg]; exact (qr yq110) : w.heap.size ≤ gb101)); have GE101 := GW101; replace HB := Qz.mk (qm yq110 hb); clear hb hbox hg; have hcz14_0 : w13.cell? ⟨gb101, 0, none⟩ = some (.int .i64 a0_0) := (qh BK101.out 0).trans rfl; have hcz14_1 : w13.cell? ⟨gb101, 1, none⟩ = some (.slice A0_1 l0_1.length c0_1) := (qh BK101.out 1).trans rfl; have hfz14_0 := qi BK101.out 0; have hfz14_1 := qi BK101.out 1) | ((with_reducible refine ql (f := 48) rfl ?_); refine qy (some 4) rfl rfl Try.func48 (by kernel_rfl) rfl #[.agg #[.int .i64 a0_0, .slice A0_1 l0_1.length c0_1]] rfl yq108 ?_; (with_reducible refine (impl_BatchOk.calls k a0_0 _ _ l0_1 false _ ?side1 ?side2 A2.out).mono ?_); (case side1 => exact yq109); (case side2 => exact HC0_1.out); rintro e w15 ⟨rfl, hb⟩; refine ⟨_, rfl, ?_⟩; replace BK101 := Qz.mk (qp (g := gb101) (o := .cells #[.int .i64 a0_0, .slice A0_1 l0_1.length c0_1] 68 (0, 0)) yq111 hb); replace HB := Qz.mk (qm yq107 hb); (try clear hb); (try clear hk)))
  go_ret
  exact ⟨_, by first | rfl | (simp [qo, qn] <;> rfl) | (simp [*, qo, qn] <;> rfl), by first | exact Kd.R_nil _ _ _ _ _ | exact Kd.N_nil _ _ _ _ _ | exact Kd.V_nil _ _ _ _ _ | exact Kd.Q_nil _ _ _ _ _ | exact Kd.S_nil _ _ _ _ _, by repeat (first | (with_reducible first | exact HB.out | apply qc | apply qa | apply qb | refine qd ?_ GE101.out) | exact HB.out)⟩
theorem yq112 {P : Prop} (h : P := by repeat (first | (with_reducible first | exact HB.out | apply qc | apply qa | apply qb | refine qd ?_ (IsS178.ge HI103.out)) | exact HB.out)) : P := h
theorem yq113 {P : Prop} (h : P := by repeat (first | (with_reducible first | exact HI103.out | apply IsS178.alloc | apply IsS178.drewN | apply IsS178.drew | apply IsS178.set_1) | exact HI103.out)) : P := h
theorem yq114 {P : Prop} (h : P := by (try simp only [List.map_toArray, List.map_cons, List.map_nil]); first | done | rfl | (simp only [List.length_drop, List.length_take]; rfl) | (rw [IntWalk.u64_in _ (by omega)] <;> rfl)) : P := h
theorem yq115 {P : Prop} (h : P := by (with_reducible repeat (first | apply Kd.R_alloc | apply Kd.R_drewN | apply Kd.R_drew)); exact HO107.out) : P := h
theorem yq116 {P : Prop} (h : P := by (try simp only [List.map_toArray, List.map_cons, List.map_nil]); first | done | rfl) : P := h
theorem yq117 {P : Prop} (h : P := by repeat (first | exact (Kd.R_reads' HO107.out).2.2 | (with_reducible refine Kd.C_alloc ?_ _) | (with_reducible refine Kd.C_drewN ?_ _) | (with_reducible refine Kd.C_drew ?_))) : P := h
theorem yq118 {P : Prop} (h : P := by repeat (first | (with_reducible first | exact HB.out | apply qc | apply qa | apply qb) | exact HB.out)) : P := h
def spec_DrawReadBatch.f (k : Nat) (l0 : List Int) : Option (ByteArray) := (spec_l1Open.f l0).bind fun bt101 => ((spec_l1Rd_batch.f k bt101.1 bt101.2).bind fun bt104 => ((spec_BatchText.f k bt104.1 bt104.2.1).bind fun t109 => ((spec_l1Rd_below.f bt101.1 bt104.2.2 6).bind fun bt110 => (if bt110.1 = 0 then ((spec_l1Rd_bytes.f k bt101.1 bt110.2 2).bind fun bt112 => (if t109.size + bt112.1.size ≤ 9223372036854775807 then (some (t109 ++ bt112.1)) else (none))) else (if bt110.1 = 1 then ((spec_l1Rd_below.f bt101.1 bt110.2 (wrap64 ((t109.size : Int) + 1))).bind fun bt114 => (if 0 ≤ bt114.1 then (if bt114.1 ≤ (t109.size : Int) then (some (t109.extract 0 (bt114.1 : Int).toNat)) else (none)) else (none))) else (if bt110.1 = 2 then ((spec_l1Rd_bytes.f k bt101.1 bt110.2 9).bind fun bt116 => (some bt116.1)) else (some t109)))))))
set_option maxHeartbeats 8000000 in
set_option maxRecDepth 100000 in
theorem spec_DrawReadBatch.calls (k : Nat) (A0 : Option Addr) (c0 : Nat) (l0 : List Int) (r : ByteArray) (w : World) (hr0 : Kd.C (Kd.int .u8) w A0 l0.length l0) (hc0 : l0.length ≤ c0) (h : spec_DrawReadBatch.f k l0 = some r) :
  Calls Try.prog 51 #[.slice A0 l0.length c0] w fun e w' => e = .returned (.string r) ∧ Below w.heap.size w w' := by
 have HR0 := Qz.mk hr0
 have HC0 := Qz.mk hc0
 clear hr0 hc0
 have HB := Qz.mk (Below.refl w.heap.size w)
 have H : ((spec_l1Open.f l0).bind fun bt101 => ((spec_l1Rd_batch.f k bt101.1 bt101.2).bind fun bt104 => ((spec_BatchText.f k bt104.1 bt104.2.1).bind fun t109 => ((spec_l1Rd_below.f bt101.1 bt104.2.2 6).bind fun bt110 => (if bt110.1 = 0 then ((spec_l1Rd_bytes.f k bt101.1 bt110.2 2).bind fun bt112 => (if t109.size + bt112.1.size ≤ 9223372036854775807 then (some (t109 ++ bt112.1)) else (none))) else (if bt110.1 = 1 then ((spec_l1Rd_below.f bt101.1 bt110.2 (wrap64 ((t109.size : Int) + 1))).bind fun bt114 => (if 0 ≤ bt114.1 then (if bt114.1 ≤ (t109.size : Int) then (some (t109.extract 0 (bt114.1 : Int).toNat)) else (none)) else (none))) else (if bt110.1 = 2 then ((spec_l1Rd_bytes.f k bt101.1 bt110.2 9).bind fun bt116 => (some bt116.1)) else (some t109)))))))) = some r := h
 clear h
 replace H := Option.bind_eq_some_iff.mp H
 obtain ⟨⟨t101, t102⟩, A20, H⟩ := H
 replace H : ((spec_l1Rd_batch.f k t101 t102).bind fun bt104 => ((spec_BatchText.f k bt104.1 bt104.2.1).bind fun t109 => ((spec_l1Rd_below.f t101 bt104.2.2 6).bind fun bt110 => (if bt110.1 = 0 then ((spec_l1Rd_bytes.f k t101 bt110.2 2).bind fun bt112 => (if t109.size + bt112.1.size ≤ 9223372036854775807 then (some (t109 ++ bt112.1)) else (none))) else (if bt110.1 = 1 then ((spec_l1Rd_below.f t101 bt110.2 (wrap64 ((t109.size : Int) + 1))).bind fun bt114 => (if 0 ≤ bt114.1 then (if bt114.1 ≤ (t109.size : Int) then (some (t109.extract 0 (bt114.1 : Int).toNat)) else (none)) else (none))) else (if bt110.1 = 2 then ((spec_l1Rd_bytes.f k t101 bt110.2 9).bind fun bt116 => (some bt116.1)) else (some t109))))))) = some r := H
 have A2 := Qz.mk A20
 clear A20
 replace H := Option.bind_eq_some_iff.mp H
 obtain ⟨⟨t104, t105, t108⟩, A30, H⟩ := H
 replace H : ((spec_BatchText.f k t104 t105).bind fun t109 => ((spec_l1Rd_below.f t101 t108 6).bind fun bt110 => (if bt110.1 = 0 then ((spec_l1Rd_bytes.f k t101 bt110.2 2).bind fun bt112 => (if t109.size + bt112.1.size ≤ 9223372036854775807 then (some (t109 ++ bt112.1)) else (none))) else (if bt110.1 = 1 then ((spec_l1Rd_below.f t101 bt110.2 (wrap64 ((t109.size : Int) + 1))).bind fun bt114 => (if 0 ≤ bt114.1 then (if bt114.1 ≤ (t109.size : Int) then (some (t109.extract 0 (bt114.1 : Int).toNat)) else (none)) else (none))) else (if bt110.1 = 2 then ((spec_l1Rd_bytes.f k t101 bt110.2 9).bind fun bt116 => (some bt116.1)) else (some t109)))))) = some r := H
 have A3 := Qz.mk A30
 clear A30
 replace H := Option.bind_eq_some_iff.mp H
 obtain ⟨t109, A40, H⟩ := H
 replace H : ((spec_l1Rd_below.f t101 t108 6).bind fun bt110 => (if bt110.1 = 0 then ((spec_l1Rd_bytes.f k t101 bt110.2 2).bind fun bt112 => (if t109.size + bt112.1.size ≤ 9223372036854775807 then (some (t109 ++ bt112.1)) else (none))) else (if bt110.1 = 1 then ((spec_l1Rd_below.f t101 bt110.2 (wrap64 ((t109.size : Int) + 1))).bind fun bt114 => (if 0 ≤ bt114.1 then (if bt114.1 ≤ (t109.size : Int) then (some (t109.extract 0 (bt114.1 : Int).toNat)) else (none)) else (none))) else (if bt110.1 = 2 then ((spec_l1Rd_bytes.f k t101 bt110.2 9).bind fun bt116 => (some bt116.1)) else (some t109))))) = some r := H
 have A4 := Qz.mk A40
 clear A40
 replace H := Option.bind_eq_some_iff.mp H
 obtain ⟨⟨t110, t111⟩, A50, H⟩ := H
 replace H : (if t110 = 0 then ((spec_l1Rd_bytes.f k t101 t111 2).bind fun bt112 => (if t109.size + bt112.1.size ≤ 9223372036854775807 then (some (t109 ++ bt112.1)) else (none))) else (if t110 = 1 then ((spec_l1Rd_below.f t101 t111 (wrap64 ((t109.size : Int) + 1))).bind fun bt114 => (if 0 ≤ bt114.1 then (if bt114.1 ≤ (t109.size : Int) then (some (t109.extract 0 (bt114.1 : Int).toNat)) else (none)) else (none))) else (if t110 = 2 then ((spec_l1Rd_bytes.f k t101 t111 9).bind fun bt116 => (some bt116.1)) else (some t109)))) = some r := H
 have A5 := Qz.mk A50
 clear A50
 by_cases c6 : t110 = 0
 ·rw [if_pos c6] at H
  have c6b0 : (t110 == 0) = true := beq_iff_eq.mpr c6
  have c6b1 : (t110 != 0) = false := bne_eq_false_iff_eq.mpr c6
  clear c6
  replace H := Option.bind_eq_some_iff.mp H
  obtain ⟨⟨t112, t113⟩, A70, H⟩ := H
  replace H : (if t109.size + t112.size ≤ 9223372036854775807 then (some (t109 ++ t112)) else (none)) = some r := H
  have A7 := Qz.mk A70
  clear A70
  by_cases c8 : t109.size + t112.size ≤ 9223372036854775807
  ·rw [if_pos c8] at H
   have c8b0 := eq_true c8
   have c8b1 : decide (t109.size + t112.size ≤ 9223372036854775807) = true := decide_eq_true c8
   try have c8b2 : (9223372036854775807 < t109.size + t112.size) = False := eq_false (Nat.not_lt.2 c8)
   obtain rfl := Option.some.inj H
   go_enter Try.func51, Try.ntmps51
   go_wp2_with (first | ((with_reducible refine ql (f := 90) rfl ?_); refine qy (some 6) rfl rfl Try.func90 (by kernel_rfl) rfl #[.slice A0 l0.length c0] rfl yq114 ?_; (with_reducible refine (spec_l1Open.calls _ _ l0 t101 t102 w _ ?side1 ?side2 ?side3 A2.out).mono ?_); (case side1 => exact yq118); (case side2 => exact HR0.out); (case side3 => exact HC0.out); rintro e w9 ⟨g103, rfl, hi, hb, hb2⟩; refine ⟨_, rfl, ?_⟩; replace HB := Qz.mk (hb); have HI103 := Qz.mk (hi); (try clear hb); (try clear hb2); (try clear hk); (try clear hi)) | ((with_reducible refine ql (f := 118) rfl ?_); refine qy (some 8) rfl rfl Try.func118 (by kernel_rfl) rfl #[.pointer (some ⟨g103, 0, none⟩)] rfl yq116 ?_; (with_reducible refine (spec_l1Rd_batch.calls k g103 t101 t102 t104 t105 t108 w _ ?side1 ?side2 A3.out).mono ?_); (case side1 => exact yq113); (case side2 => exact yq112); rintro e w10 ⟨v106, rfl, ho0, hi, hb, hk⟩; refine ⟨_, rfl, ?_⟩; have HO107 := Qz.mk (Kd.R_lower ho0 (qr yq112)); replace HB := Qz.mk (hb); replace HI103 := Qz.mk (hi); (try clear hb); (try clear hb2); (try clear hk); (try clear hi); (try clear ho0); obtain ⟨Ao11, co11, eo11⟩ := Kd.R_slice HO107.out; subst eo11) | ((with_reducible refine ql (f := 47) rfl ?_); refine qy (some 9) rfl rfl Try.func47 (by kernel_rfl) rfl #[.agg #[.int .i64 t104, .slice Ao11 t105.length co11]] rfl yq114 ?_; (with_reducible refine (spec_BatchText.calls k t104 _ _ t105 t109 _ ?side1 ?side2 A4.out).mono ?_); (case side1 => exact yq117); (case side2 => exact (Kd.R_reads' HO107.out).2.1); rintro e w12 ⟨rfl, hb⟩; refine ⟨_, rfl, ?_⟩; replace HO107 := Qz.mk (Kd.R_below yq115 hb); replace HB := Qz.mk (qm yq112 hb); replace HI103 := Qz.mk (IsS178.below yq113 hb); (try clear hb); (try clear hb2); (try clear hk); (try clear hi)) | ((with_reducible refine ql (f := 119) rfl ?_); refine qy (some 11) rfl rfl Try.func119 (by kernel_rfl) rfl #[.pointer (some ⟨g103, 0, none⟩), .int .i64 6] rfl yq116 ?_; (with_reducible refine (spec_l1Rd_below.calls g103 t101 t108 6 t110 t111 w _ ?side1 ?side2 A5.out).mono ?_); (case side1 => exact yq113); (case side2 => exact yq112); rintro e w13 ⟨rfl, hi, hb, hk⟩; refine ⟨_, rfl, ?_⟩; replace HO107 := Qz.mk (Kd.R_mono (Kd.R_keep (IsS178.apart (show IsS178 w _ g103 t101 t108 from by repeat (first | (with_reducible first | exact HI103.out | apply IsS178.alloc | apply IsS178.drewN | apply IsS178.drew | apply IsS178.set_1) | exact HI103.out)) yq115 (by decide)) hk (fun _ h => h.2)) (fun _ h => h.1)); replace HB := Qz.mk (hb); replace HI103 := Qz.mk (hi); (try clear hb); (try clear hb2); (try clear hk); (try clear hi)) | ((with_reducible refine ql (f := 120) rfl ?_); refine qy (some 16) rfl rfl Try.func120 (by kernel_rfl) rfl #[.pointer (some ⟨g103, 0, none⟩), .int .i64 2] rfl yq116 ?_; (with_reducible refine (spec_l1Rd_bytes.calls k g103 t101 t111 2 t112 t113 w _ ?side1 ?side2 A7.out).mono ?_); (case side1 => exact yq113); (case side2 => exact yq112); rintro e w14 ⟨rfl, hi, hb, hk⟩; refine ⟨_, rfl, ?_⟩; replace HO107 := Qz.mk (Kd.R_mono (Kd.R_keep (IsS178.apart (show IsS178 w _ g103 t101 t111 from by repeat (first | (with_reducible first | exact HI103.out | apply IsS178.alloc | apply IsS178.drewN | apply IsS178.drew | apply IsS178.set_1) | exact HI103.out)) yq115 (by decide)) hk (fun _ h => h.2)) (fun _ h => h.1)); replace HB := Qz.mk (hb); replace HI103 := Qz.mk (hi); (try clear hb); (try clear hb2); (try clear hk); (try clear hi)))
   go_ret
   exact ⟨by first | rfl | (simp [qo, qn] <;> rfl) | (simp [*, qo, qn] <;> rfl), by repeat (first | (with_reducible first | exact HB.out | apply qc | apply qa | apply qb | refine qd ?_ (IsS178.ge HI103.out)) | exact HB.out)⟩
  ·rw [if_neg c8] at H
   exact absurd H (by simp)
 ·rw [if_neg c6] at H
  have c6b0 : (t110 == 0) = false := beq_eq_false_iff_ne.mpr c6
  have c6b1 : (t110 != 0) = true := bne_iff_ne.mpr c6
  by_cases c15 : t110 = 1
  ·rw [if_pos c15] at H
   have c15b0 : (t110 == 1) = true := beq_iff_eq.mpr c15
   have c15b1 : (t110 != 1) = false := bne_eq_false_iff_eq.mpr c15
   clear c15
   replace H := Option.bind_eq_some_iff.mp H
   obtain ⟨⟨t114, t115⟩, A160, H⟩ := H
   replace H : (if 0 ≤ t114 then (if t114 ≤ (t109.size : Int) then (some (t109.extract 0 (t114 : Int).toNat)) else (none)) else (none)) = some r := H
   have A16 := Qz.mk A160
   clear A160
   by_cases c17 : 0 ≤ t114
   ·rw [if_pos c17] at H
    have c17b0 := eq_true c17
    have c17b1 : decide (0 ≤ t114) = true := decide_eq_true c17
    clear c17
    by_cases c18 : t114 ≤ (t109.size : Int)
    ·rw [if_pos c18] at H
     have c18b0 := eq_true c18
     have c18b1 : decide (t114 ≤ (t109.size : Int)) = true := decide_eq_true c18
     clear c18
     obtain rfl := Option.some.inj H
     go_enter Try.func51, Try.ntmps51
     go_wp2_with (first | ((with_reducible refine ql (f := 90) rfl ?_); refine qy (some 6) rfl rfl Try.func90 (by kernel_rfl) rfl #[.slice A0 l0.length c0] rfl yq114 ?_; (with_reducible refine (spec_l1Open.calls _ _ l0 t101 t102 w _ ?side1 ?side2 ?side3 A2.out).mono ?_); (case side1 => exact yq118); (case side2 => exact HR0.out); (case side3 => exact HC0.out); rintro e w19 ⟨g103, rfl, hi, hb, hb2⟩; refine ⟨_, rfl, ?_⟩; replace HB := Qz.mk (hb); have HI103 := Qz.mk (hi); (try clear hb); (try clear hb2); (try clear hk); (try clear hi)) | ((with_reducible refine ql (f := 118) rfl ?_); refine qy (some 8) rfl rfl Try.func118 (by kernel_rfl) rfl #[.pointer (some ⟨g103, 0, none⟩)] rfl yq116 ?_; (with_reducible refine (spec_l1Rd_batch.calls k g103 t101 t102 t104 t105 t108 w _ ?side1 ?side2 A3.out).mono ?_); (case side1 => exact yq113); (case side2 => exact yq112); rintro e w20 ⟨v106, rfl, ho0, hi, hb, hk⟩; refine ⟨_, rfl, ?_⟩; have HO107 := Qz.mk (Kd.R_lower ho0 (qr yq112)); replace HB := Qz.mk (hb); replace HI103 := Qz.mk (hi); (try clear hb); (try clear hb2); (try clear hk); (try clear hi); (try clear ho0); obtain ⟨Ao21, co21, eo21⟩ := Kd.R_slice HO107.out; subst eo21) | ((with_reducible refine ql (f := 47) rfl ?_); refine qy (some 9) rfl rfl Try.func47 (by kernel_rfl) rfl #[.agg #[.int .i64 t104, .slice Ao21 t105.length co21]] rfl yq114 ?_; (with_reducible refine (spec_BatchText.calls k t104 _ _ t105 t109 _ ?side1 ?side2 A4.out).mono ?_); (case side1 => exact yq117); (case side2 => exact (Kd.R_reads' HO107.out).2.1); rintro e w22 ⟨rfl, hb⟩; refine ⟨_, rfl, ?_⟩; replace HO107 := Qz.mk (Kd.R_below yq115 hb); replace HB := Qz.mk (qm yq112 hb); replace HI103 := Qz.mk (IsS178.below yq113 hb); (try clear hb); (try clear hb2); (try clear hk); (try clear hi)) | ((with_reducible refine ql (f := 119) rfl ?_); refine qy (some 11) rfl rfl Try.func119 (by kernel_rfl) rfl #[.pointer (some ⟨g103, 0, none⟩), .int .i64 6] rfl yq116 ?_; (with_reducible refine (spec_l1Rd_below.calls g103 t101 t108 6 t110 t111 w _ ?side1 ?side2 A5.out).mono ?_); (case side1 => exact yq113); (case side2 => exact yq112); rintro e w23 ⟨rfl, hi, hb, hk⟩; refine ⟨_, rfl, ?_⟩; replace HO107 := Qz.mk (Kd.R_mono (Kd.R_keep (IsS178.apart (show IsS178 w _ g103 t101 t108 from by repeat (first | (with_reducible first | exact HI103.out | apply IsS178.alloc | apply IsS178.drewN | apply IsS178.drew | apply IsS178.set_1) | exact HI103.out)) yq115 (by decide)) hk (fun _ h => h.2)) (fun _ h => h.1)); replace HB := Qz.mk (hb); replace HI103 := Qz.mk (hi); (try clear hb); (try clear hb2); (try clear hk); (try clear hi)) | ((with_reducible refine ql (f := 119) rfl ?_); refine qy (some 25) rfl rfl Try.func119 (by kernel_rfl) rfl #[.pointer (some ⟨g103, 0, none⟩), .int .i64 (wrap64 ((t109.size : Int) + 1))] rfl yq114 ?_; (with_reducible refine (spec_l1Rd_below.calls g103 t101 t111 (wrap64 ((t109.size : Int) + 1)) t114 t115 w _ ?side1 ?side2 A16.out).mono ?_); (case side1 => exact yq113); (case side2 => exact yq112); rintro e w24 ⟨rfl, hi, hb, hk⟩; refine ⟨_, rfl, ?_⟩; replace HO107 := Qz.mk (Kd.R_mono (Kd.R_keep (IsS178.apart (show IsS178 w _ g103 t101 t111 from by repeat (first | (with_reducible first | exact HI103.out | apply IsS178.alloc | apply IsS178.drewN | apply IsS178.drew | apply IsS178.set_1) | exact HI103.out)) yq115 (by decide)) hk (fun _ h => h.2)) (fun _ h => h.1)); replace HB := Qz.mk (hb); replace HI103 := Qz.mk (hi); (try clear hb); (try clear hb2); (try clear hk); (try clear hi)))
     go_ret
     exact ⟨by first | rfl | (simp [qo, qn] <;> rfl) | (simp [*, qo, qn] <;> rfl), by repeat (first | (with_reducible first | exact HB.out | apply qc | apply qa | apply qb | refine qd ?_ (IsS178.ge HI103.out)) | exact HB.out)⟩
    ·rw [if_neg c18] at H
     exact absurd H (by simp)
   ·rw [if_neg c17] at H
    exact absurd H (by simp)
  ·rw [if_neg c15] at H
   have c15b0 : (t110 == 1) = false := beq_eq_false_iff_ne.mpr c15
   have c15b1 : (t110 != 1) = true := bne_iff_ne.mpr c15
   by_cases c25 : t110 = 2
   ·rw [if_pos c25] at H
    have c25b0 : (t110 == 2) = true := beq_iff_eq.mpr c25
    have c25b1 : (t110 != 2) = false := bne_eq_false_iff_eq.mpr c25
    clear c25
    replace H := Option.bind_eq_some_iff.mp H
    obtain ⟨⟨t116, t117⟩, A260, H⟩ := H
    replace H : (some t116) = some r := H
    have A26 := Qz.mk A260
    clear A260
    obtain rfl := Option.some.inj H
    go_enter Try.func51, Try.ntmps51
    go_wp2_with (first | ((with_reducible refine ql (f := 90) rfl ?_); refine qy (some 6) rfl rfl Try.func90 (by kernel_rfl) rfl #[.slice A0 l0.length c0] rfl yq114 ?_; (with_reducible refine (spec_l1Open.calls _ _ l0 t101 t102 w _ ?side1 ?side2 ?side3 A2.out).mono ?_); (case side1 => exact yq118); (case side2 => exact HR0.out); (case side3 => exact HC0.out); rintro e w27 ⟨g103, rfl, hi, hb, hb2⟩; refine ⟨_, rfl, ?_⟩; replace HB := Qz.mk (hb); have HI103 := Qz.mk (hi); (try clear hb); (try clear hb2); (try clear hk); (try clear hi)) | ((with_reducible refine ql (f := 118) rfl ?_); refine qy (some 8) rfl rfl Try.func118 (by kernel_rfl) rfl #[.pointer (some ⟨g103, 0, none⟩)] rfl yq116 ?_; (with_reducible refine (spec_l1Rd_batch.calls k g103 t101 t102 t104 t105 t108 w _ ?side1 ?side2 A3.out).mono ?_); (case side1 => exact yq113); (case side2 => exact yq112); rintro e w28 ⟨v106, rfl, ho0, hi, hb, hk⟩; refine ⟨_, rfl, ?_⟩; have HO107 := Qz.mk (Kd.R_lower ho0 (qr yq112)); replace HB := Qz.mk (hb); replace HI103 := Qz.mk (hi); (try clear hb); (try clear hb2); (try clear hk); (try clear hi); (try clear ho0); obtain ⟨Ao29, co29, eo29⟩ := Kd.R_slice HO107.out; subst eo29) | ((with_reducible refine ql (f := 47) rfl ?_); refine qy (some 9) rfl rfl Try.func47 (by kernel_rfl) rfl #[.agg #[.int .i64 t104, .slice Ao29 t105.length co29]] rfl yq114 ?_; (with_reducible refine (spec_BatchText.calls k t104 _ _ t105 t109 _ ?side1 ?side2 A4.out).mono ?_); (case side1 => exact yq117); (case side2 => exact (Kd.R_reads' HO107.out).2.1); rintro e w30 ⟨rfl, hb⟩; refine ⟨_, rfl, ?_⟩; replace HO107 := Qz.mk (Kd.R_below yq115 hb); replace HB := Qz.mk (qm yq112 hb); replace HI103 := Qz.mk (IsS178.below yq113 hb); (try clear hb); (try clear hb2); (try clear hk); (try clear hi)) | ((with_reducible refine ql (f := 119) rfl ?_); refine qy (some 11) rfl rfl Try.func119 (by kernel_rfl) rfl #[.pointer (some ⟨g103, 0, none⟩), .int .i64 6] rfl yq116 ?_; (with_reducible refine (spec_l1Rd_below.calls g103 t101 t108 6 t110 t111 w _ ?side1 ?side2 A5.out).mono ?_); (case side1 => exact yq113); (case side2 => exact yq112); rintro e w31 ⟨rfl, hi, hb, hk⟩; refine ⟨_, rfl, ?_⟩; replace HO107 := Qz.mk (Kd.R_mono (Kd.R_keep (IsS178.apart (show IsS178 w _ g103 t101 t108 from by repeat (first | (with_reducible first | exact HI103.out | apply IsS178.alloc | apply IsS178.drewN | apply IsS178.drew | apply IsS178.set_1) | exact HI103.out)) yq115 (by decide)) hk (fun _ h => h.2)) (fun _ h => h.1)); replace HB := Qz.mk (hb); replace HI103 := Qz.mk (hi); (try clear hb); (try clear hb2); (try clear hk); (try clear hi)) | ((with_reducible refine ql (f := 120) rfl ?_); refine qy (some 30) rfl rfl Try.func120 (by kernel_rfl) rfl #[.pointer (some ⟨g103, 0, none⟩), .int .i64 9] rfl yq116 ?_; (with_reducible refine (spec_l1Rd_bytes.calls k g103 t101 t111 9 t116 t117 w _ ?side1 ?side2 A26.out).mono ?_); (case side1 => exact yq113); (case side2 => exact yq112); rintro e w32 ⟨rfl, hi, hb, hk⟩; refine ⟨_, rfl, ?_⟩; replace HO107 := Qz.mk (Kd.R_mono (Kd.R_keep (IsS178.apart (show IsS178 w _ g103 t101 t111 from by repeat (first | (with_reducible first | exact HI103.out | apply IsS178.alloc | apply IsS178.drewN | apply IsS178.drew | apply IsS178.set_1) | exact HI103.out)) yq115 (by decide)) hk (fun _ h => h.2)) (fun _ h => h.1)); replace HB := Qz.mk (hb); replace HI103 := Qz.mk (hi); (try clear hb); (try clear hb2); (try clear hk); (try clear hi)))
    go_ret
    exact ⟨by first | rfl | (simp [qo, qn] <;> rfl) | (simp [*, qo, qn] <;> rfl), by repeat (first | (with_reducible first | exact HB.out | apply qc | apply qa | apply qb | refine qd ?_ (IsS178.ge HI103.out)) | exact HB.out)⟩
   ·rw [if_neg c25] at H
    have c25b0 : (t110 == 2) = false := beq_eq_false_iff_ne.mpr c25
    have c25b1 : (t110 != 2) = true := bne_iff_ne.mpr c25
    obtain rfl := Option.some.inj H
    go_enter Try.func51, Try.ntmps51
    go_wp2_with (first | ((with_reducible refine ql (f := 90) rfl ?_); refine qy (some 6) rfl rfl Try.func90 (by kernel_rfl) rfl #[.slice A0 l0.length c0] rfl yq114 ?_; (with_reducible refine (spec_l1Open.calls _ _ l0 t101 t102 w _ ?side1 ?side2 ?side3 A2.out).mono ?_); (case side1 => exact yq118); (case side2 => exact HR0.out); (case side3 => exact HC0.out); rintro e w33 ⟨g103, rfl, hi, hb, hb2⟩; refine ⟨_, rfl, ?_⟩; replace HB := Qz.mk (hb); have HI103 := Qz.mk (hi); (try clear hb); (try clear hb2); (try clear hk); (try clear hi)) | ((with_reducible refine ql (f := 118) rfl ?_); refine qy (some 8) rfl rfl Try.func118 (by kernel_rfl) rfl #[.pointer (some ⟨g103, 0, none⟩)] rfl yq116 ?_; (with_reducible refine (spec_l1Rd_batch.calls k g103 t101 t102 t104 t105 t108 w _ ?side1 ?side2 A3.out).mono ?_); (case side1 => exact yq113); (case side2 => exact yq112); rintro e w34 ⟨v106, rfl, ho0, hi, hb, hk⟩; refine ⟨_, rfl, ?_⟩; have HO107 := Qz.mk (Kd.R_lower ho0 (qr yq112)); replace HB := Qz.mk (hb); replace HI103 := Qz.mk (hi); (try clear hb); (try clear hb2); (try clear hk); (try clear hi); (try clear ho0); obtain ⟨Ao35, co35, eo35⟩ := Kd.R_slice HO107.out; subst eo35) | ((with_reducible refine ql (f := 47) rfl ?_); refine qy (some 9) rfl rfl Try.func47 (by kernel_rfl) rfl #[.agg #[.int .i64 t104, .slice Ao35 t105.length co35]] rfl yq114 ?_; (with_reducible refine (spec_BatchText.calls k t104 _ _ t105 t109 _ ?side1 ?side2 A4.out).mono ?_); (case side1 => exact yq117); (case side2 => exact (Kd.R_reads' HO107.out).2.1); rintro e w36 ⟨rfl, hb⟩; refine ⟨_, rfl, ?_⟩; replace HO107 := Qz.mk (Kd.R_below yq115 hb); replace HB := Qz.mk (qm yq112 hb); replace HI103 := Qz.mk (IsS178.below yq113 hb); (try clear hb); (try clear hb2); (try clear hk); (try clear hi)) | ((with_reducible refine ql (f := 119) rfl ?_); refine qy (some 11) rfl rfl Try.func119 (by kernel_rfl) rfl #[.pointer (some ⟨g103, 0, none⟩), .int .i64 6] rfl yq116 ?_; (with_reducible refine (spec_l1Rd_below.calls g103 t101 t108 6 t110 t111 w _ ?side1 ?side2 A5.out).mono ?_); (case side1 => exact yq113); (case side2 => exact yq112); rintro e w37 ⟨rfl, hi, hb, hk⟩; refine ⟨_, rfl, ?_⟩; replace HO107 := Qz.mk (Kd.R_mono (Kd.R_keep (IsS178.apart (show IsS178 w _ g103 t101 t108 from by repeat (first | (with_reducible first | exact HI103.out | apply IsS178.alloc | apply IsS178.drewN | apply IsS178.drew | apply IsS178.set_1) | exact HI103.out)) yq115 (by decide)) hk (fun _ h => h.2)) (fun _ h => h.1)); replace HB := Qz.mk (hb); replace HI103 := Qz.mk (hi); (try clear hb); (try clear hb2); (try clear hk); (try clear hi)))
    go_ret
    exact ⟨by first | rfl | (simp [qo, qn] <;> rfl) | (simp [*, qo, qn] <;> rfl), by repeat (first | (with_reducible first | exact HB.out | apply qc | apply qa | apply qb | refine qd ?_ (IsS178.ge HI103.out)) | exact HB.out)⟩
theorem yq119 {P : Prop} (h : P := by first | (with_reducible assumption) | assumption) : P := h
theorem yq120 {P : Prop} (h : P := by first | rfl | (simp; done) | (simp [*]; done)) : P := h
mutual
def spec_TakeVar.l0 : Nat → ByteArray → Int → Int → Option (Int × ByteArray × Bool)
 | 0, _, _, _ => none
 | k + 1, x0, x5, x6 => if x6 < (x0.size : Int) then (spec_TakeVar.j1 k x0 x5 x6 (decide (x6 < 10))) else (spec_TakeVar.j1 k x0 x5 x6 false)
def spec_TakeVar.j1 : Nat → ByteArray → Int → Int → Bool → Option (Int × ByteArray × Bool)
 | 0, _, _, _, _ => none
 | k + 1, x0, x5, x6, x15 => if x15 = true then (if 0 ≤ x6 then (if x6 < (x0.size : Int) then (if x6 = 9 then (spec_TakeVar.j2 k x0 x5 x6 (IntKind.u64.wrap (Int.tmod (bt x0 x6) 128)) (decide ((bt x0 x6) > 1))) else (spec_TakeVar.j2 k x0 x5 x6 (IntKind.u64.wrap (Int.tmod (bt x0 x6) 128)) false)) else (none)) else (none)) else (some (0, (⟨#[]⟩ : ByteArray), false))
def spec_TakeVar.j2 : Nat → ByteArray → Int → Int → Int → Bool → Option (Int × ByteArray × Bool)
 | 0, _, _, _, _, _ => none
 | k + 1, x0, x5, x6, x7, x30 => if x30 = true then (some (0, (⟨#[]⟩ : ByteArray), false)) else (if 0 ≤ (IntKind.u64.wrap (wrap64 (7 * x6))) then (if 0 ≤ x6 then (if x6 < (x0.size : Int) then (if (bt x0 x6) < 128 then (if x6 > 0 then (if (bt x0 x6) = 0 then (some (0, (⟨#[]⟩ : ByteArray), false)) else (if 0 ≤ (wrap64 (x6 + 1)) then (if (wrap64 (x6 + 1)) ≤ (x0.size : Int) then (some (Go.bits .or .u64 x5 (shl .u64 x7 (IntKind.u64.wrap (wrap64 (7 * x6)))), x0.extract ((wrap64 (x6 + 1)) : Int).toNat x0.size, true)) else (none)) else (none))) else (if 0 ≤ (wrap64 (x6 + 1)) then (if (wrap64 (x6 + 1)) ≤ (x0.size : Int) then (some (Go.bits .or .u64 x5 (shl .u64 x7 (IntKind.u64.wrap (wrap64 (7 * x6)))), x0.extract ((wrap64 (x6 + 1)) : Int).toNat x0.size, true)) else (none)) else (none))) else (spec_TakeVar.l0 k x0 (Go.bits .or .u64 x5 (shl .u64 x7 (IntKind.u64.wrap (wrap64 (7 * x6))))) (wrap64 (x6 + 1)))) else (none)) else (none)) else (none))
end
def spec_TakeVar.f (k : Nat) (a0 : ByteArray) : Option (Int × ByteArray × Bool) := spec_TakeVar.l0 k a0 0 0
set_option maxHeartbeats 8000000 in
set_option maxRecDepth 100000 in
theorem spec_TakeVar.calls (k : Nat) (a0 : ByteArray) (r1 : Int) (r2 : ByteArray) (r3 : Bool) (w : World) (h : spec_TakeVar.f k a0 = some (r1, r2, r3)) :
  Calls Try.prog 82 #[.string a0] w fun e w' => e = .returned (.tuple #[.int .u64 r1, .string r2, .bool r3]) ∧ Drawn0 w w' := by
 have H : (spec_TakeVar.l0 k a0 0 0) = some (r1, r2, r3) := h
 clear h
 have H' := Qz.mk H
 clear H
 go_enter Try.func82, Try.ntmps82
 go_wp2
 repeat (go_quiet (fail); try go_wp2)
 go_loopg [5, 6] k (fun kq v5 v6 w' => ∃ (x5_1 : Int) (x6_1 : Int), v5 = .int .u64 x5_1 ∧ v6 = .int .i64 x6_1 ∧ Qz (spec_TakeVar.l0 kq a0 x5_1 x6_1 = some (r1, r2, r3)) ∧ Qz (kq ≤ k) ∧ Drawn0 w w')
 case atStart => exact ⟨(0), (0), yq120, yq120, H', ⟨Nat.le_refl _⟩, by repeat (first | exact Drawn0.refl _ | apply Drawn0.step)⟩
 case round =>
  clear H'
  obtain ⟨x5_1, x6_1, rfl, rfl, HA, HK1, ⟨m1, rfl⟩⟩ := hrel
  cases gk with
  | zero => exact absurd HA.out (by simp [spec_TakeVar.l0])
  | succ k1 =>
   have H := HA.out
   clear HA
   simp only [spec_TakeVar.l0] at H
   have HC2 := Qz.mk H
   clear H
   go_upto_region 3 with (fail)
   repeat (go_quiet (fail); go_upto_region 3 with (fail))
   go_cut [15] (fun v15 wc => ∃ (kq : Nat) (x15_1 : Bool), v15 = .bool x15_1 ∧ Qz (spec_TakeVar.j1 kq a0 x5_1 x6_1 x15_1 = some (r1, r2, r3)) ∧ Qz (kq ≤ k1) ∧ Drawn0 w wc)
   case first =>
    have H := HC2.out
    clear HC2
    by_cases c3 : x6_1 < (a0.size : Int)
    ·rw [if_pos c3] at H
     have c3b0 : decide (x6_1 < (a0.size : Int)) = true := decide_eq_true c3
     clear c3
     (first | rw [c3b0] | (simp only [i64_w, i32_w]; rw [c3b0]) | skip)
     have H' := Qz.mk H
     clear H
     go_wp2
     repeat (go_quiet (fail); try go_wp2)
     go_meet
     case rel => exact ⟨_, (decide (x6_1 < 10)), yq120, H', ⟨by have := HK1.out; first | omega | exact Nat.le_refl _⟩, by repeat (first | exact Drawn0.refl _ | apply Drawn0.step)⟩
    ·rw [if_neg c3] at H
     have c3b0 : decide (x6_1 < (a0.size : Int)) = false := decide_eq_false c3
     clear c3
     (first | rw [c3b0] | (simp only [i64_w, i32_w]; rw [c3b0]) | skip)
     have H' := Qz.mk H
     clear H
     go_wp2
     repeat (go_quiet (fail); try go_wp2)
     go_meet
     case rel => exact ⟨_, (false), yq120, H', ⟨by have := HK1.out; first | omega | exact Nat.le_refl _⟩, by repeat (first | exact Drawn0.refl _ | apply Drawn0.step)⟩
   case rest =>
    clear HC2
    try clear p2
    try clear c3
    try clear c3b0
    obtain ⟨kq, x15_1, rfl, HA, HJ1, ⟨mc1, rfl⟩⟩ := hcut
    cases kq with
    | zero => exact absurd HA.out (by simp [spec_TakeVar.j1])
    | succ kj1 =>
     have H := HA.out
     clear HA
     simp only [spec_TakeVar.j1] at H
     by_cases c4 : x15_1 = true
     ·subst c4
      have H1 : (if 0 ≤ x6_1 then (if x6_1 < (a0.size : Int) then (if x6_1 = 9 then (spec_TakeVar.j2 kj1 a0 x5_1 x6_1 (IntKind.u64.wrap (Int.tmod (bt a0 x6_1) 128)) (decide ((bt a0 x6_1) > 1))) else (spec_TakeVar.j2 kj1 a0 x5_1 x6_1 (IntKind.u64.wrap (Int.tmod (bt a0 x6_1) 128)) false)) else (none)) else (none)) = some (r1, r2, r3) := by rw [if_pos rfl] at H; exact H
      clear H
      have H := H1
      clear H1
      by_cases c5 : 0 ≤ x6_1
      ·rw [if_pos c5] at H
       have c5b0 : decide (0 ≤ x6_1) = true := decide_eq_true c5
       clear c5
       by_cases c6 : x6_1 < (a0.size : Int)
       ·rw [if_pos c6] at H
        have c6b0 : decide (x6_1 < (a0.size : Int)) = true := decide_eq_true c6
        clear c6
        have HC8 := Qz.mk H
        clear H
        have p7 : 0 ≤ (x6_1 : Int) := of_decide_eq_true yq119
        have q7 : x6_1 < (a0.size : Int) := of_decide_eq_true yq119
        have hx7 := bt_at a0 x6_1
        replace p7 := eq_true p7
        replace q7 := eq_true q7
        go_upto_region 6 with (fail)
        repeat (go_quiet (fail); go_upto_region 6 with (fail))
        go_cut [30] (fun v30 wc => ∃ (kq : Nat) (x30_7 : Bool), v30 = .bool x30_7 ∧ Qz (spec_TakeVar.j2 kq a0 x5_1 x6_1 (IntKind.u64.wrap (Int.tmod (bt a0 x6_1) 128)) x30_7 = some (r1, r2, r3)) ∧ Qz (kq ≤ kj1) ∧ Drawn0 w wc)
        case first =>
         have H := HC8.out
         clear HC8
         by_cases c9 : x6_1 = 9
         ·rw [if_pos c9] at H
          have c9b0 : (x6_1 == 9) = true := beq_iff_eq.mpr c9
          have c9b1 : (x6_1 != 9) = false := bne_eq_false_iff_eq.mpr c9
          clear c9
          (first | rw [c9b0] | (simp only [i64_w, i32_w]; rw [c9b0]) | skip)
          have H' := Qz.mk H
          clear H
          have p10 : 0 ≤ (x6_1 : Int) := of_decide_eq_true yq119
          have q10 : x6_1 < (a0.size : Int) := of_decide_eq_true yq119
          have hx10 := bt_at a0 x6_1
          replace p10 := eq_true p10
          replace q10 := eq_true q10
          go_wp2
          repeat (go_quiet (fail); try go_wp2)
          go_meet
          case rel => exact ⟨_, (decide ((bt a0 x6_1) > 1)), yq120, H', ⟨by have := HK1.out; have := HJ1.out; first | omega | exact Nat.le_refl _⟩, by repeat (first | exact Drawn0.refl _ | apply Drawn0.step)⟩
         ·rw [if_neg c9] at H
          have c9b0 : (x6_1 == 9) = false := beq_eq_false_iff_ne.mpr c9
          have c9b1 : (x6_1 != 9) = true := bne_iff_ne.mpr c9
          (first | rw [c9b0] | (simp only [i64_w, i32_w]; rw [c9b0]) | skip)
          have H' := Qz.mk H
          clear H
          go_wp2
          repeat (go_quiet (fail); try go_wp2)
          go_meet
          case rel => exact ⟨_, (false), yq120, H', ⟨by have := HK1.out; have := HJ1.out; first | omega | exact Nat.le_refl _⟩, by repeat (first | exact Drawn0.refl _ | apply Drawn0.step)⟩
        case rest =>
         clear HC8
         try clear c1
         try clear p1
         try clear q1
         try clear hx1
         try clear p2
         try clear c3
         try clear c3b0
         try clear c4
         try clear c5
         try clear c5b0
         try clear c6
         try clear c6b0
         try clear p7
         try clear q7
         try clear hx7
         try clear c8
         try clear c9
         try clear c9b0
         try clear c9b1
         try clear p10
         try clear q10
         try clear hx10
         try clear p10
         try clear p2
         try clear p7
         try clear q10
         try clear q7
         obtain ⟨kq, x30_7, rfl, HA, HJ7, ⟨mc7, rfl⟩⟩ := hcut
         cases kq with
         | zero => exact absurd HA.out (by simp [spec_TakeVar.j2])
         | succ kj7 =>
          have H := HA.out
          clear HA
          simp only [spec_TakeVar.j2] at H
          by_cases c11 : x30_7 = true
          ·subst c11
           have H1 : (some (0, (⟨#[]⟩ : ByteArray), false)) = some (r1, r2, r3) := by rw [if_pos rfl] at H; exact H
           clear H
           have H := H1
           clear H1
           simp only [Option.some.injEq, Prod.mk.injEq] at H
           obtain ⟨rfl, rfl, rfl⟩ := H
           go_wp2
           repeat (go_quiet (fail); try go_wp2)
           go_ret3
           exact ⟨by first | rfl | (simp; done) | (simp [*]; done), by repeat (first | exact Drawn0.refl _ | apply Drawn0.step)⟩
          ·replace c11 := Bool.eq_false_iff.mpr c11
           subst c11
           have H1 : (if 0 ≤ (IntKind.u64.wrap (wrap64 (7 * x6_1))) then (if 0 ≤ x6_1 then (if x6_1 < (a0.size : Int) then (if (bt a0 x6_1) < 128 then (if x6_1 > 0 then (if (bt a0 x6_1) = 0 then (some (0, (⟨#[]⟩ : ByteArray), false)) else (if 0 ≤ (wrap64 (x6_1 + 1)) then (if (wrap64 (x6_1 + 1)) ≤ (a0.size : Int) then (some (Go.bits .or .u64 x5_1 (shl .u64 (IntKind.u64.wrap (Int.tmod (bt a0 x6_1) 128)) (IntKind.u64.wrap (wrap64 (7 * x6_1)))), a0.extract ((wrap64 (x6_1 + 1)) : Int).toNat a0.size, true)) else (none)) else (none))) else (if 0 ≤ (wrap64 (x6_1 + 1)) then (if (wrap64 (x6_1 + 1)) ≤ (a0.size : Int) then (some (Go.bits .or .u64 x5_1 (shl .u64 (IntKind.u64.wrap (Int.tmod (bt a0 x6_1) 128)) (IntKind.u64.wrap (wrap64 (7 * x6_1)))), a0.extract ((wrap64 (x6_1 + 1)) : Int).toNat a0.size, true)) else (none)) else (none))) else (spec_TakeVar.l0 kj7 a0 (Go.bits .or .u64 x5_1 (shl .u64 (IntKind.u64.wrap (Int.tmod (bt a0 x6_1) 128)) (IntKind.u64.wrap (wrap64 (7 * x6_1))))) (wrap64 (x6_1 + 1)))) else (none)) else (none)) else (none)) = some (r1, r2, r3) := by rw [if_neg (show ¬ (false = true) by decide)] at H; exact H
           clear H
           have H := H1
           clear H1
           obtain ⟨ji12, hji12⟩ : ∃ j_ : Int, (IntKind.u64.wrap (wrap64 (7 * x6_1))) = j_ := ⟨_, rfl⟩
           replace H : (if 0 ≤ (ji12) then (if 0 ≤ x6_1 then (if x6_1 < (a0.size : Int) then (if (bt a0 x6_1) < 128 then (if x6_1 > 0 then (if (bt a0 x6_1) = 0 then (some (0, (⟨#[]⟩ : ByteArray), false)) else (if 0 ≤ (wrap64 (x6_1 + 1)) then (if (wrap64 (x6_1 + 1)) ≤ (a0.size : Int) then (some (Go.bits .or .u64 x5_1 (shl .u64 (IntKind.u64.wrap (Int.tmod (bt a0 x6_1) 128)) (ji12)), a0.extract ((wrap64 (x6_1 + 1)) : Int).toNat a0.size, true)) else (none)) else (none))) else (if 0 ≤ (wrap64 (x6_1 + 1)) then (if (wrap64 (x6_1 + 1)) ≤ (a0.size : Int) then (some (Go.bits .or .u64 x5_1 (shl .u64 (IntKind.u64.wrap (Int.tmod (bt a0 x6_1) 128)) (ji12)), a0.extract ((wrap64 (x6_1 + 1)) : Int).toNat a0.size, true)) else (none)) else (none))) else (spec_TakeVar.l0 kj7 a0 (Go.bits .or .u64 x5_1 (shl .u64 (IntKind.u64.wrap (Int.tmod (bt a0 x6_1) 128)) (ji12))) (wrap64 (x6_1 + 1)))) else (none)) else (none)) else (none)) = some (r1, r2, r3) := by first | (rw [hji12] at H; exact H) | (simp only [hji12] at H ⊢; exact H)
           by_cases c13 : 0 ≤ (ji12)
           ·rw [if_pos c13] at H
            have c13b0 := eq_true c13
            have c13b1 : decide (0 ≤ (ji12)) = true := decide_eq_true c13
            clear c13
            obtain ⟨ji14, hji14⟩ : ∃ j_ : Int, (shl .u64 (IntKind.u64.wrap (Int.tmod (bt a0 x6_1) 128)) (ji12)) = j_ := ⟨_, rfl⟩
            replace H : (if 0 ≤ x6_1 then (if x6_1 < (a0.size : Int) then (if (bt a0 x6_1) < 128 then (if x6_1 > 0 then (if (bt a0 x6_1) = 0 then (some (0, (⟨#[]⟩ : ByteArray), false)) else (if 0 ≤ (wrap64 (x6_1 + 1)) then (if (wrap64 (x6_1 + 1)) ≤ (a0.size : Int) then (some (Go.bits .or .u64 x5_1 (ji14), a0.extract ((wrap64 (x6_1 + 1)) : Int).toNat a0.size, true)) else (none)) else (none))) else (if 0 ≤ (wrap64 (x6_1 + 1)) then (if (wrap64 (x6_1 + 1)) ≤ (a0.size : Int) then (some (Go.bits .or .u64 x5_1 (ji14), a0.extract ((wrap64 (x6_1 + 1)) : Int).toNat a0.size, true)) else (none)) else (none))) else (spec_TakeVar.l0 kj7 a0 (Go.bits .or .u64 x5_1 (ji14)) (wrap64 (x6_1 + 1)))) else (none)) else (none)) = some (r1, r2, r3) := by first | (rw [hji14] at H; exact H) | (simp only [hji14] at H ⊢; exact H)
            have hji14_ : (IntKind.u64.wrap ((IntKind.u64.wrap (Int.tmod (bt a0 x6_1) 128)) * 2 ^ min (ji12).toNat 64)) = ji14 := hji14
            have hji14z : (ji12) ≤ 64 → (IntKind.u64.wrap ((IntKind.u64.wrap (Int.tmod (bt a0 x6_1) 128)) * 2 ^ (ji12).toNat)) = ji14 := shl_small hji14
            by_cases c15 : 0 ≤ x6_1
            ·rw [if_pos c15] at H
             have c15b0 : decide (0 ≤ x6_1) = true := decide_eq_true c15
             clear c15
             by_cases c16 : x6_1 < (a0.size : Int)
             ·rw [if_pos c16] at H
              have c16b0 : decide (x6_1 < (a0.size : Int)) = true := decide_eq_true c16
              clear c16
              by_cases c18 : (bt a0 x6_1) < 128
              ·rw [if_pos c18] at H
               have c18b0 : decide ((bt a0 x6_1) < 128) = true := decide_eq_true c18
               clear c18
               by_cases c19 : x6_1 > 0
               ·rw [if_pos c19] at H
                have c19b0 : decide (0 < x6_1) = true := decide_eq_true c19
                clear c19
                by_cases c21 : (bt a0 x6_1) = 0
                ·rw [if_pos c21] at H
                 have c21b0 : ((bt a0 x6_1) == 0) = true := beq_iff_eq.mpr c21
                 have c21b1 : ((bt a0 x6_1) != 0) = false := bne_eq_false_iff_eq.mpr c21
                 clear c21
                 simp only [Option.some.injEq, Prod.mk.injEq] at H
                 obtain ⟨rfl, rfl, rfl⟩ := H
                 have p17 : 0 ≤ (x6_1 : Int) := of_decide_eq_true yq119
                 have q17 : x6_1 < (a0.size : Int) := of_decide_eq_true yq119
                 have hx17 := bt_at a0 x6_1
                 replace p17 := eq_true p17
                 replace q17 := eq_true q17
                 have p20 : 0 ≤ (x6_1 : Int) := of_decide_eq_true yq119
                 have q20 : x6_1 < (a0.size : Int) := of_decide_eq_true yq119
                 have hx20 := bt_at a0 x6_1
                 replace p20 := eq_true p20
                 replace q20 := eq_true q20
                 go_wp2
                 repeat (go_quiet (fail); try go_wp2)
                 go_ret3
                 exact ⟨by first | rfl | (simp; done) | (simp only [← hji12, ← hji14] <;> (first | rfl | simp)) | (simp [*]; done), by repeat (first | exact Drawn0.refl _ | apply Drawn0.step)⟩
                ·rw [if_neg c21] at H
                 have c21b0 : ((bt a0 x6_1) == 0) = false := beq_eq_false_iff_ne.mpr c21
                 have c21b1 : ((bt a0 x6_1) != 0) = true := bne_iff_ne.mpr c21
                 obtain ⟨ji22, hji22⟩ : ∃ j_ : Int, (wrap64 (x6_1 + 1)) = j_ := ⟨_, rfl⟩
                 replace H : (if 0 ≤ (ji22) then (if (ji22) ≤ (a0.size : Int) then (some (Go.bits .or .u64 x5_1 (ji14), a0.extract ((ji22) : Int).toNat a0.size, true)) else (none)) else (none)) = some (r1, r2, r3) := by first | (rw [hji22] at H; exact H) | (simp only [hji22] at H ⊢; exact H)
                 have hji22w : (IntKind.i64.wrap (x6_1 + 1)) = ji22 := (i64_w _).trans hji22
                 by_cases c23 : 0 ≤ (ji22)
                 ·rw [if_pos c23] at H
                  have c23b0 := eq_true c23
                  have c23b1 : decide (0 ≤ (ji22)) = true := decide_eq_true c23
                  clear c23
                  by_cases c24 : (ji22) ≤ (a0.size : Int)
                  ·rw [if_pos c24] at H
                   have c24b0 := eq_true c24
                   have c24b1 : decide ((ji22) ≤ (a0.size : Int)) = true := decide_eq_true c24
                   clear c24
                   simp only [Option.some.injEq, Prod.mk.injEq] at H
                   obtain ⟨rfl, rfl, rfl⟩ := H
                   have p17 : 0 ≤ (x6_1 : Int) := of_decide_eq_true yq119
                   have q17 : x6_1 < (a0.size : Int) := of_decide_eq_true yq119
                   have hx17 := bt_at a0 x6_1
                   replace p17 := eq_true p17
                   replace q17 := eq_true q17
                   have p20 : 0 ≤ (x6_1 : Int) := of_decide_eq_true yq119
                   have q20 : x6_1 < (a0.size : Int) := of_decide_eq_true yq119
                   have hx20 := bt_at a0 x6_1
                   replace p20 := eq_true p20
                   replace q20 := eq_true q20
                   go_wp2
                   repeat (go_quiet (fail); try go_wp2)
                   go_ret3
                   exact ⟨by first | rfl | (simp; done) | (simp only [← hji12, ← hji14, ← hji22] <;> (first | rfl | simp)) | (simp [*]; done), by repeat (first | exact Drawn0.refl _ | apply Drawn0.step)⟩
                  ·rw [if_neg c24] at H
                   exact absurd H (by simp)
                 ·rw [if_neg c23] at H
                  exact absurd H (by simp)
               ·rw [if_neg c19] at H
                have c19b0 : decide (0 < x6_1) = false := decide_eq_false c19
                clear c19
                obtain ⟨ji25, hji25⟩ : ∃ j_ : Int, (wrap64 (x6_1 + 1)) = j_ := ⟨_, rfl⟩
                replace H : (if 0 ≤ (ji25) then (if (ji25) ≤ (a0.size : Int) then (some (Go.bits .or .u64 x5_1 (ji14), a0.extract ((ji25) : Int).toNat a0.size, true)) else (none)) else (none)) = some (r1, r2, r3) := by first | (rw [hji25] at H; exact H) | (simp only [hji25] at H ⊢; exact H)
                have hji25w : (IntKind.i64.wrap (x6_1 + 1)) = ji25 := (i64_w _).trans hji25
                by_cases c26 : 0 ≤ (ji25)
                ·rw [if_pos c26] at H
                 have c26b0 := eq_true c26
                 have c26b1 : decide (0 ≤ (ji25)) = true := decide_eq_true c26
                 clear c26
                 by_cases c27 : (ji25) ≤ (a0.size : Int)
                 ·rw [if_pos c27] at H
                  have c27b0 := eq_true c27
                  have c27b1 : decide ((ji25) ≤ (a0.size : Int)) = true := decide_eq_true c27
                  clear c27
                  simp only [Option.some.injEq, Prod.mk.injEq] at H
                  obtain ⟨rfl, rfl, rfl⟩ := H
                  have p17 : 0 ≤ (x6_1 : Int) := of_decide_eq_true yq119
                  have q17 : x6_1 < (a0.size : Int) := of_decide_eq_true yq119
                  have hx17 := bt_at a0 x6_1
                  replace p17 := eq_true p17
                  replace q17 := eq_true q17
                  go_wp2
                  repeat (go_quiet (fail); try go_wp2)
                  go_ret3
                  exact ⟨by first | rfl | (simp; done) | (simp only [← hji12, ← hji14, ← hji25] <;> (first | rfl | simp)) | (simp [*]; done), by repeat (first | exact Drawn0.refl _ | apply Drawn0.step)⟩
                 ·rw [if_neg c27] at H
                  exact absurd H (by simp)
                ·rw [if_neg c26] at H
                 exact absurd H (by simp)
              ·rw [if_neg c18] at H
               have c18b0 : decide ((bt a0 x6_1) < 128) = false := decide_eq_false c18
               clear c18
               have H' := Qz.mk H
               clear H
               have p17 : 0 ≤ (x6_1 : Int) := of_decide_eq_true yq119
               have q17 : x6_1 < (a0.size : Int) := of_decide_eq_true yq119
               have hx17 := bt_at a0 x6_1
               replace p17 := eq_true p17
               replace q17 := eq_true q17
               go_wp2
               repeat (go_quiet (fail); try go_wp2)
               go_roundg kj7
               case measure => have := HK1.out; have := HJ1.out; have := HJ7.out; omega
               case rel => exact ⟨(Go.bits .or .u64 x5_1 (ji14)), (wrap64 (x6_1 + 1)), (by first | rfl | (simp; done) | (simp only [← hji14] <;> (first | rfl | simp)) | (simp [*]; done)), yq120, H', ⟨by have := HK1.out; have := HJ1.out; have := HJ7.out; omega⟩, by repeat (first | exact Drawn0.refl _ | apply Drawn0.step)⟩
             ·rw [if_neg c16] at H
              exact absurd H (by simp)
            ·rw [if_neg c15] at H
             exact absurd H (by simp)
           ·rw [if_neg c13] at H
            exact absurd H (by simp)
       ·rw [if_neg c6] at H
        exact absurd H (by simp)
      ·rw [if_neg c5] at H
       exact absurd H (by simp)
     ·replace c4 := Bool.eq_false_iff.mpr c4
      subst c4
      have H1 : (some (0, (⟨#[]⟩ : ByteArray), false)) = some (r1, r2, r3) := by rw [if_neg (show ¬ (false = true) by decide)] at H; exact H
      clear H
      have H := H1
      clear H1
      simp only [Option.some.injEq, Prod.mk.injEq] at H
      obtain ⟨rfl, rfl, rfl⟩ := H
      go_wp2
      repeat (go_quiet (fail); try go_wp2)
      go_ret3
      exact ⟨by first | rfl | (simp; done) | (simp [*]; done), by repeat (first | exact Drawn0.refl _ | apply Drawn0.step)⟩
def spec_TakeText.f (k : Nat) (a0 : ByteArray) : Option (ByteArray × ByteArray × Bool) := (spec_TakeVar.f k a0).bind fun bt101 => (if bt101.2.2 = true then (if bt101.1 > 60000 then (some ((⟨#[]⟩ : ByteArray), (⟨#[]⟩ : ByteArray), false)) else (if bt101.1 > (IntKind.u64.wrap ((bt101.2.1.size : Int))) then (some ((⟨#[]⟩ : ByteArray), (⟨#[]⟩ : ByteArray), false)) else (if 0 ≤ bt101.1 then (if bt101.1 ≤ (bt101.2.1.size : Int) then (some (bt101.2.1.extract 0 (bt101.1 : Int).toNat, bt101.2.1.extract (bt101.1 : Int).toNat bt101.2.1.size, true)) else (none)) else (none)))) else (some ((⟨#[]⟩ : ByteArray), (⟨#[]⟩ : ByteArray), false)))
set_option maxHeartbeats 8000000 in
set_option maxRecDepth 100000 in
theorem spec_TakeText.calls (k : Nat) (a0 : ByteArray) (r1 : ByteArray) (r2 : ByteArray) (r3 : Bool) (w : World) (h : spec_TakeText.f k a0 = some (r1, r2, r3)) :
  Calls Try.prog 83 #[.string a0] w fun e w' => e = .returned (.tuple #[.string r1, .string r2, .bool r3]) ∧ Drawn0 w w' := by
 have H : ((spec_TakeVar.f k a0).bind fun bt101 => (if bt101.2.2 = true then (if bt101.1 > 60000 then (some ((⟨#[]⟩ : ByteArray), (⟨#[]⟩ : ByteArray), false)) else (if bt101.1 > (IntKind.u64.wrap ((bt101.2.1.size : Int))) then (some ((⟨#[]⟩ : ByteArray), (⟨#[]⟩ : ByteArray), false)) else (if 0 ≤ bt101.1 then (if bt101.1 ≤ (bt101.2.1.size : Int) then (some (bt101.2.1.extract 0 (bt101.1 : Int).toNat, bt101.2.1.extract (bt101.1 : Int).toNat bt101.2.1.size, true)) else (none)) else (none)))) else (some ((⟨#[]⟩ : ByteArray), (⟨#[]⟩ : ByteArray), false)))) = some (r1, r2, r3) := h
 clear h
 replace H := Option.bind_eq_some_iff.mp H
 obtain ⟨⟨t101, t102, t103⟩, A20, H⟩ := H
 replace H : (if t103 = true then (if t101 > 60000 then (some ((⟨#[]⟩ : ByteArray), (⟨#[]⟩ : ByteArray), false)) else (if t101 > (IntKind.u64.wrap ((t102.size : Int))) then (some ((⟨#[]⟩ : ByteArray), (⟨#[]⟩ : ByteArray), false)) else (if 0 ≤ t101 then (if t101 ≤ (t102.size : Int) then (some (t102.extract 0 (t101 : Int).toNat, t102.extract (t101 : Int).toNat t102.size, true)) else (none)) else (none)))) else (some ((⟨#[]⟩ : ByteArray), (⟨#[]⟩ : ByteArray), false))) = some (r1, r2, r3) := H
 have A2 := Qz.mk A20
 clear A20
 by_cases c3 : t103 = true
 ·subst c3
  have H1 : (if t101 > 60000 then (some ((⟨#[]⟩ : ByteArray), (⟨#[]⟩ : ByteArray), false)) else (if t101 > (IntKind.u64.wrap ((t102.size : Int))) then (some ((⟨#[]⟩ : ByteArray), (⟨#[]⟩ : ByteArray), false)) else (if 0 ≤ t101 then (if t101 ≤ (t102.size : Int) then (some (t102.extract 0 (t101 : Int).toNat, t102.extract (t101 : Int).toNat t102.size, true)) else (none)) else (none)))) = some (r1, r2, r3) := by rw [if_pos rfl] at H; exact H
  clear H
  have H := H1
  clear H1
  by_cases c4 : t101 > 60000
  ·rw [if_pos c4] at H
   have c4b0 : decide (60000 < t101) = true := decide_eq_true c4
   clear c4
   simp only [Option.some.injEq, Prod.mk.injEq] at H
   obtain ⟨rfl, rfl, rfl⟩ := H
   go_enter Try.func83, Try.ntmps83
   go_wp2_with (first | (go_at_call 82; (with_reducible refine (spec_TakeVar.calls k a0 t101 t102 true _ A2.out).mono ?_); rintro e w' ⟨rfl, ⟨nd, rfl⟩⟩; (try first | exact ⟨rfl, _, World.drewN_drewN _ _ _⟩ | exact ⟨rfl, _, Eq.trans (World.drewN_drewN _ _ _) (congrArg (World.drewN _) (Nat.add_assoc _ _ _))⟩)))
   repeat (go_quiet (first | (go_at_call 82; (with_reducible refine (spec_TakeVar.calls k a0 t101 t102 true _ A2.out).mono ?_); rintro e w' ⟨rfl, ⟨nd, rfl⟩⟩; (try first | exact ⟨rfl, _, World.drewN_drewN _ _ _⟩ | exact ⟨rfl, _, Eq.trans (World.drewN_drewN _ _ _) (congrArg (World.drewN _) (Nat.add_assoc _ _ _))⟩))); try go_wp2_with (first | (go_at_call 82; (with_reducible refine (spec_TakeVar.calls k a0 t101 t102 true _ A2.out).mono ?_); rintro e w' ⟨rfl, ⟨nd, rfl⟩⟩; (try first | exact ⟨rfl, _, World.drewN_drewN _ _ _⟩ | exact ⟨rfl, _, Eq.trans (World.drewN_drewN _ _ _) (congrArg (World.drewN _) (Nat.add_assoc _ _ _))⟩))))
   go_ret3
   exact ⟨by first | rfl | (simp; done) | (simp [*]; done), by repeat (first | exact Drawn0.refl _ | apply Drawn0.step)⟩
  ·rw [if_neg c4] at H
   have c4b0 : decide (60000 < t101) = false := decide_eq_false c4
   clear c4
   by_cases c5 : t101 > (IntKind.u64.wrap ((t102.size : Int)))
   ·rw [if_pos c5] at H
    have c5b0 : decide ((IntKind.u64.wrap ((t102.size : Int))) < t101) = true := decide_eq_true c5
    clear c5
    simp only [Option.some.injEq, Prod.mk.injEq] at H
    obtain ⟨rfl, rfl, rfl⟩ := H
    go_enter Try.func83, Try.ntmps83
    go_wp2_with (first | (go_at_call 82; (with_reducible refine (spec_TakeVar.calls k a0 t101 t102 true _ A2.out).mono ?_); rintro e w' ⟨rfl, ⟨nd, rfl⟩⟩; (try first | exact ⟨rfl, _, World.drewN_drewN _ _ _⟩ | exact ⟨rfl, _, Eq.trans (World.drewN_drewN _ _ _) (congrArg (World.drewN _) (Nat.add_assoc _ _ _))⟩)))
    repeat (go_quiet (first | (go_at_call 82; (with_reducible refine (spec_TakeVar.calls k a0 t101 t102 true _ A2.out).mono ?_); rintro e w' ⟨rfl, ⟨nd, rfl⟩⟩; (try first | exact ⟨rfl, _, World.drewN_drewN _ _ _⟩ | exact ⟨rfl, _, Eq.trans (World.drewN_drewN _ _ _) (congrArg (World.drewN _) (Nat.add_assoc _ _ _))⟩))); try go_wp2_with (first | (go_at_call 82; (with_reducible refine (spec_TakeVar.calls k a0 t101 t102 true _ A2.out).mono ?_); rintro e w' ⟨rfl, ⟨nd, rfl⟩⟩; (try first | exact ⟨rfl, _, World.drewN_drewN _ _ _⟩ | exact ⟨rfl, _, Eq.trans (World.drewN_drewN _ _ _) (congrArg (World.drewN _) (Nat.add_assoc _ _ _))⟩))))
    go_ret3
    exact ⟨by first | rfl | (simp; done) | (simp [*]; done), by repeat (first | exact Drawn0.refl _ | apply Drawn0.step)⟩
   ·rw [if_neg c5] at H
    have c5b0 : decide ((IntKind.u64.wrap ((t102.size : Int))) < t101) = false := decide_eq_false c5
    clear c5
    by_cases c6 : 0 ≤ t101
    ·rw [if_pos c6] at H
     have c6b0 := eq_true c6
     have c6b1 : decide (0 ≤ t101) = true := decide_eq_true c6
     clear c6
     by_cases c7 : t101 ≤ (t102.size : Int)
     ·rw [if_pos c7] at H
      have c7b0 := eq_true c7
      have c7b1 : decide (t101 ≤ (t102.size : Int)) = true := decide_eq_true c7
      clear c7
      have c8b0 := eq_true (of_decide_eq_true (by first | (with_reducible assumption) | assumption) : 0 ≤ t101)
      have c9b0 := eq_true (of_decide_eq_true (by first | (with_reducible assumption) | assumption) : t101 ≤ (t102.size : Int))
      simp only [Option.some.injEq, Prod.mk.injEq] at H
      obtain ⟨rfl, rfl, rfl⟩ := H
      go_enter Try.func83, Try.ntmps83
      go_wp2_with (first | (go_at_call 82; (with_reducible refine (spec_TakeVar.calls k a0 t101 t102 true _ A2.out).mono ?_); rintro e w' ⟨rfl, ⟨nd, rfl⟩⟩; (try first | exact ⟨rfl, _, World.drewN_drewN _ _ _⟩ | exact ⟨rfl, _, Eq.trans (World.drewN_drewN _ _ _) (congrArg (World.drewN _) (Nat.add_assoc _ _ _))⟩)))
      repeat (go_quiet (first | (go_at_call 82; (with_reducible refine (spec_TakeVar.calls k a0 t101 t102 true _ A2.out).mono ?_); rintro e w' ⟨rfl, ⟨nd, rfl⟩⟩; (try first | exact ⟨rfl, _, World.drewN_drewN _ _ _⟩ | exact ⟨rfl, _, Eq.trans (World.drewN_drewN _ _ _) (congrArg (World.drewN _) (Nat.add_assoc _ _ _))⟩))); try go_wp2_with (first | (go_at_call 82; (with_reducible refine (spec_TakeVar.calls k a0 t101 t102 true _ A2.out).mono ?_); rintro e w' ⟨rfl, ⟨nd, rfl⟩⟩; (try first | exact ⟨rfl, _, World.drewN_drewN _ _ _⟩ | exact ⟨rfl, _, Eq.trans (World.drewN_drewN _ _ _) (congrArg (World.drewN _) (Nat.add_assoc _ _ _))⟩))))
      go_ret3
      exact ⟨by first | rfl | (simp; done) | (simp [*]; done), by repeat (first | exact Drawn0.refl _ | apply Drawn0.step)⟩
     ·rw [if_neg c7] at H
      exact absurd H (by simp)
    ·rw [if_neg c6] at H
     exact absurd H (by simp)
 ·replace c3 := Bool.eq_false_iff.mpr c3
  subst c3
  have H1 : (some ((⟨#[]⟩ : ByteArray), (⟨#[]⟩ : ByteArray), false)) = some (r1, r2, r3) := by rw [if_neg (show ¬ (false = true) by decide)] at H; exact H
  clear H
  have H := H1
  clear H1
  simp only [Option.some.injEq, Prod.mk.injEq] at H
  obtain ⟨rfl, rfl, rfl⟩ := H
  go_enter Try.func83, Try.ntmps83
  go_wp2_with (first | (go_at_call 82; (with_reducible refine (spec_TakeVar.calls k a0 t101 t102 false _ A2.out).mono ?_); rintro e w' ⟨rfl, ⟨nd, rfl⟩⟩; (try first | exact ⟨rfl, _, World.drewN_drewN _ _ _⟩ | exact ⟨rfl, _, Eq.trans (World.drewN_drewN _ _ _) (congrArg (World.drewN _) (Nat.add_assoc _ _ _))⟩)))
  repeat (go_quiet (first | (go_at_call 82; (with_reducible refine (spec_TakeVar.calls k a0 t101 t102 false _ A2.out).mono ?_); rintro e w' ⟨rfl, ⟨nd, rfl⟩⟩; (try first | exact ⟨rfl, _, World.drewN_drewN _ _ _⟩ | exact ⟨rfl, _, Eq.trans (World.drewN_drewN _ _ _) (congrArg (World.drewN _) (Nat.add_assoc _ _ _))⟩))); try go_wp2_with (first | (go_at_call 82; (with_reducible refine (spec_TakeVar.calls k a0 t101 t102 false _ A2.out).mono ?_); rintro e w' ⟨rfl, ⟨nd, rfl⟩⟩; (try first | exact ⟨rfl, _, World.drewN_drewN _ _ _⟩ | exact ⟨rfl, _, Eq.trans (World.drewN_drewN _ _ _) (congrArg (World.drewN _) (Nat.add_assoc _ _ _))⟩))))
  go_ret3
  exact ⟨by first | rfl | (simp; done) | (simp [*]; done), by repeat (first | exact Drawn0.refl _ | apply Drawn0.step)⟩
theorem yq121 {P : Prop} (h : P := by (with_reducible repeat (first | refine qe ?_ _ | refine qg ?_ | refine qf ?_ _)); refine qz (cs := #[.int .i64 0, .slice none 0 0]) ?_ 1 _ rfl; (with_reducible repeat (first | refine qe ?_ _ | refine qg ?_ | refine qf ?_ _)); refine qz (cs := #[.int .i64 x102000_2, .slice none 0 0]) ?_ 0 _ rfl; (with_reducible repeat (first | refine qe ?_ _ | refine qg ?_ | refine qf ?_ _)); exact BK101.out) : P := h
theorem yq122 {P : Prop} (h : P := by repeat (first | (with_reducible first | exact HB.out | apply qc | apply qa | apply qb | refine qd ?_ GE101.out | refine qd ?_ GE108.out) | exact HB.out)) : P := h
theorem yq123 {P : Prop} (h : P := by (with_reducible repeat (first | refine qe ?_ _ | refine qg ?_ | refine qf ?_ _)); exact BK101.out) : P := h
theorem yq124 {P : Prop} (h : P := by (with_reducible repeat (first | apply Kd.R_alloc | apply Kd.R_drewN | apply Kd.R_drew)); exact HO_109001.out) : P := h
theorem yq125 {P : Prop} (h : P := by (with_reducible repeat (first | refine qe ?_ _ | refine qg ?_ | refine qf ?_ _)); exact BK108.out) : P := h
theorem yq126 {P : Prop} (h : P := by (try simp only [List.map_toArray, List.map_cons, List.map_nil]); first | done | rfl) : P := h
theorem yq127 {P : Prop} (h : P := by first | rfl | (simp; done) | (simp [*]; done)) : P := h
theorem yq128 {P : Prop} (h : P := by first | (with_reducible assumption) | assumption) : P := h
mutual
def spec_ReadBatch.j0 : Nat → Int → Int → ByteArray → Bool → Option (Int × (List (S148)) × Bool)
 | 0, _, _, _, _ => none
 | k + 1, x4, x7, x8, x44 => if x44 = true then (some (0, ([] : List (S148)), false)) else (spec_ReadBatch.l0 k x7 x8 0 (wrap64 (x4)) ([] : List (S148)))
def spec_ReadBatch.l0 : Nat → Int → ByteArray → Int → Int → List (S148) → Option (Int × (List (S148)) × Bool)
 | 0, _, _, _, _, _ => none
 | k + 1, x7, x8, x11, x109000, x109001 => if x11 < x7 then (if x8.toList = ([] : List UInt8) then (some (0, ([] : List (S148)), false)) else (if 0 < (x8.size : Int) then (if 1 ≤ (x8.size : Int) then ((spec_TakeText.f k (x8.extract 1 x8.size)).bind fun bt110 => ((spec_TakeText.f k bt110.2.1).bind fun bt113 => (if bt110.2.2 = true then (if bt113.2.2 = true then (if x109001.length < 3518437208883 then (spec_ReadBatch.l0 k x7 bt113.2.1 (IntKind.u64.wrap (x11 + 1)) x109000 (x109001 ++ [(⟨wrap64 (bt x8 0), bt110.1, bt113.1⟩ : S148)])) else (none)) else (some (0, ([] : List (S148)), false))) else (some (0, ([] : List (S148)), false))))) else (none)) else (none))) else (if x8.toList = ([] : List UInt8) then ((spec_BatchOk.f k x109000 x109001).bind fun t109 => (if t109 = true then (some (x109000, x109001, true)) else (some (0, ([] : List (S148)), false)))) else (some (0, ([] : List (S148)), false)))
end
def spec_ReadBatch.f (k : Nat) (a0 : ByteArray) : Option (Int × (List (S148)) × Bool) := (spec_TakeVar.f k a0).bind fun bt102 => ((spec_TakeVar.f k bt102.2.1).bind fun bt105 => (if bt102.2.2 = true then (if bt105.2.2 = true then (if bt102.1 > 1000000000000 then (spec_ReadBatch.j0 k bt102.1 bt105.1 bt105.2.1 true) else (spec_ReadBatch.j0 k bt102.1 bt105.1 bt105.2.1 (decide (bt105.1 > 20)))) else (spec_ReadBatch.j0 k bt102.1 bt105.1 bt105.2.1 true)) else (spec_ReadBatch.j0 k bt102.1 bt105.1 bt105.2.1 true)))
set_option maxHeartbeats 8000000 in
set_option maxRecDepth 100000 in
theorem spec_ReadBatch.calls (k : Nat) (a0 : ByteArray) (r1 : Int) (r2 : List (S148)) (r3 : Bool) (w : World) (h : spec_ReadBatch.f k a0 = some (r1, r2, r3)) :
  Calls Try.prog 52 #[.string a0] w fun e w' => ∃ v1_ : Value, e = .returned (.tuple #[.agg #[.int .i64 r1, v1_], .bool r3]) ∧ Kd.R k148 148 w' w.heap.size (fun _ => True) v1_ r2 ∧ Below w.heap.size w w' := by
 have hu68 := Try.underlying68
 have hu148 := Try.underlying148
 have HB := Qz.mk (Below.refl w.heap.size w)
 have H : ((spec_TakeVar.f k a0).bind fun bt102 => ((spec_TakeVar.f k bt102.2.1).bind fun bt105 => (if bt102.2.2 = true then (if bt105.2.2 = true then (if bt102.1 > 1000000000000 then (spec_ReadBatch.j0 k bt102.1 bt105.1 bt105.2.1 true) else (spec_ReadBatch.j0 k bt102.1 bt105.1 bt105.2.1 (decide (bt105.1 > 20)))) else (spec_ReadBatch.j0 k bt102.1 bt105.1 bt105.2.1 true)) else (spec_ReadBatch.j0 k bt102.1 bt105.1 bt105.2.1 true)))) = some (r1, r2, r3) := h
 clear h
 replace H := Option.bind_eq_some_iff.mp H
 obtain ⟨⟨t102, t103, t104⟩, A20, H⟩ := H
 replace H : ((spec_TakeVar.f k t103).bind fun bt105 => (if t104 = true then (if bt105.2.2 = true then (if t102 > 1000000000000 then (spec_ReadBatch.j0 k t102 bt105.1 bt105.2.1 true) else (spec_ReadBatch.j0 k t102 bt105.1 bt105.2.1 (decide (bt105.1 > 20)))) else (spec_ReadBatch.j0 k t102 bt105.1 bt105.2.1 true)) else (spec_ReadBatch.j0 k t102 bt105.1 bt105.2.1 true))) = some (r1, r2, r3) := H
 have A2 := Qz.mk A20
 clear A20
 replace H := Option.bind_eq_some_iff.mp H
 obtain ⟨⟨t105, t106, t107⟩, A30, H⟩ := H
 replace H : (if t104 = true then (if t107 = true then (if t102 > 1000000000000 then (spec_ReadBatch.j0 k t102 t105 t106 true) else (spec_ReadBatch.j0 k t102 t105 t106 (decide (t105 > 20)))) else (spec_ReadBatch.j0 k t102 t105 t106 true)) else (spec_ReadBatch.j0 k t102 t105 t106 true)) = some (r1, r2, r3) := H
 have A3 := Qz.mk A30
 clear A30
 have HC4 := Qz.mk H
 clear H
 go_enter Try.func52, Try.ntmps52
 go_upto_region 3 with (first | ((with_reducible refine qg1 (N := 2) rfl ?_); refine qf1 ?hg (N := 2) ?hd (cs := #[.int .i64 0, .slice none 0 0]) (t := 68) ?hr ?_; (case hd => rfl); (case hg => rfl); (case hr => first | (go_simp; done) | (go_simp; rfl)); intro gb101 hg w5 hbox hb; have BK101 := Qz.mk (hbox); have GW101 := Qz.mk ((by rw [hg]; exact (qr (by repeat (first | (with_reducible first | exact HB.out | apply qc | apply qa | apply qb) | exact HB.out))) : w.heap.size ≤ gb101)); have GE101 := GW101; replace HB := Qz.mk (qm (by repeat (first | (with_reducible first | exact HB.out | apply qc | apply qa | apply qb) | exact HB.out)) hb); clear hb hbox hg) | ((with_reducible refine ql (f := 82) rfl ?_); refine qy (some 21) rfl rfl Try.func82 (by kernel_rfl) rfl #[.string a0] rfl yq126 ?_; (with_reducible refine (spec_TakeVar.calls k a0 t102 t103 t104 _ A2.out).mono ?_); rintro e w' ⟨rfl, ⟨nd, rfl⟩⟩; refine ⟨_, rfl, ?_⟩) | ((with_reducible refine ql (f := 82) rfl ?_); refine qy (some 27) rfl rfl Try.func82 (by kernel_rfl) rfl #[.string t103] rfl yq126 ?_; (with_reducible refine (spec_TakeVar.calls k t103 t105 t106 t107 _ A3.out).mono ?_); rintro e w' ⟨rfl, ⟨nd, rfl⟩⟩; refine ⟨_, rfl, ?_⟩))
 (try simp only [Act.put, sq1, sq2, sq3])
 go_cut [44] (fun v44 wc => ∃ (kq : Nat) (x44_3 : Bool), v44 = .bool x44_3 ∧ Qz (spec_ReadBatch.j0 kq t102 t105 t106 x44_3 = some (r1, r2, r3)) ∧ Qz (kq ≤ k) ∧ Qz (wc.heap[gb101]? = some (.cells #[.int .i64 0, (.slice none 0 0)] 68 (0, 0))) ∧ Qz (Below w.heap.size w wc))
 case first =>
  have H := HC4.out
  clear HC4
  by_cases c6 : t104 = true
  ·subst c6
   have H1 : (if t107 = true then (if t102 > 1000000000000 then (spec_ReadBatch.j0 k t102 t105 t106 true) else (spec_ReadBatch.j0 k t102 t105 t106 (decide (t105 > 20)))) else (spec_ReadBatch.j0 k t102 t105 t106 true)) = some (r1, r2, r3) := by rw [if_pos rfl] at H; exact H
   clear H
   have H := H1
   clear H1
   by_cases c7 : t107 = true
   ·subst c7
    have H1 : (if t102 > 1000000000000 then (spec_ReadBatch.j0 k t102 t105 t106 true) else (spec_ReadBatch.j0 k t102 t105 t106 (decide (t105 > 20)))) = some (r1, r2, r3) := by rw [if_pos rfl] at H; exact H
    clear H
    have H := H1
    clear H1
    by_cases c8 : t102 > 1000000000000
    ·rw [if_pos c8] at H
     have c8b0 : decide (1000000000000 < t102) = true := decide_eq_true c8
     clear c8
     (first | rw [c8b0] | (simp only [i64_w, i32_w]; rw [c8b0]) | skip)
     have H' := Qz.mk H
     clear H
     go_wp2
     go_meet
     case rel => exact ⟨_, (true), yq127, H', ⟨by first | omega | exact Nat.le_refl _⟩, ⟨by (with_reducible repeat (first | refine qe ?_ _ | refine qg ?_ | refine qf ?_ _)); exact BK101.out⟩, ⟨by repeat (first | (with_reducible first | exact HB.out | apply qc | apply qa | apply qb | refine qd ?_ GE101.out) | exact HB.out)⟩⟩
    ·rw [if_neg c8] at H
     have c8b0 : decide (1000000000000 < t102) = false := decide_eq_false c8
     clear c8
     (first | rw [c8b0] | (simp only [i64_w, i32_w]; rw [c8b0]) | skip)
     have H' := Qz.mk H
     clear H
     go_wp2
     go_meet
     case rel => exact ⟨_, (decide (t105 > 20)), yq127, H', ⟨by first | omega | exact Nat.le_refl _⟩, ⟨by (with_reducible repeat (first | refine qe ?_ _ | refine qg ?_ | refine qf ?_ _)); exact BK101.out⟩, ⟨by repeat (first | (with_reducible first | exact HB.out | apply qc | apply qa | apply qb | refine qd ?_ GE101.out) | exact HB.out)⟩⟩
   ·replace c7 := Bool.eq_false_iff.mpr c7
    subst c7
    have H1 : (spec_ReadBatch.j0 k t102 t105 t106 true) = some (r1, r2, r3) := by rw [if_neg (show ¬ (false = true) by decide)] at H; exact H
    clear H
    have H := H1
    clear H1
    have H' := Qz.mk H
    clear H
    go_wp2
    go_meet
    case rel => exact ⟨_, (true), yq127, H', ⟨by first | omega | exact Nat.le_refl _⟩, ⟨by (with_reducible repeat (first | refine qe ?_ _ | refine qg ?_ | refine qf ?_ _)); exact BK101.out⟩, ⟨by repeat (first | (with_reducible first | exact HB.out | apply qc | apply qa | apply qb | refine qd ?_ GE101.out) | exact HB.out)⟩⟩
  ·replace c6 := Bool.eq_false_iff.mpr c6
   subst c6
   have H1 : (spec_ReadBatch.j0 k t102 t105 t106 true) = some (r1, r2, r3) := by rw [if_neg (show ¬ (false = true) by decide)] at H; exact H
   clear H
   have H := H1
   clear H1
   have H' := Qz.mk H
   clear H
   go_wp2
   go_meet
   case rel => exact ⟨_, (true), yq127, H', ⟨by first | omega | exact Nat.le_refl _⟩, ⟨by (with_reducible repeat (first | refine qe ?_ _ | refine qg ?_ | refine qf ?_ _)); exact BK101.out⟩, ⟨by repeat (first | (with_reducible first | exact HB.out | apply qc | apply qa | apply qb | refine qd ?_ GE101.out) | exact HB.out)⟩⟩
 case rest =>
  clear HC4
  try clear p2
  try clear c5
  try clear c6
  try clear c7
  try clear c8
  try clear c8b0
  obtain ⟨kq, x44_3, rfl, HA, HJ3, BK101, HB⟩ := hcut
  cases kq with
  | zero => exact absurd HA.out (by simp [spec_ReadBatch.j0])
  | succ kj3 =>
   have H := HA.out
   clear HA
   simp only [spec_ReadBatch.j0] at H
   by_cases c9 : x44_3 = true
   ·subst c9
    have H1 : (some (0, ([] : List (S148)), false)) = some (r1, r2, r3) := by rw [if_pos rfl] at H; exact H
    clear H
    have H := H1
    clear H1
    simp only [Option.some.injEq, Prod.mk.injEq] at H
    obtain ⟨rfl, rfl, rfl⟩ := H
    have hcz10_0 : wc.cell? ⟨gb101, 0, none⟩ = some (.int .i64 0) := (qh BK101.out 0).trans rfl
    have hcz10_1 : wc.cell? ⟨gb101, 1, none⟩ = some (.slice none 0 0) := (qh BK101.out 1).trans rfl
    have hfz10_0 := qi BK101.out 0
    have hfz10_1 := qi BK101.out 1
    go_wp2
    refine bodyPost_ret (results_ct rfl _ _ gb101 68 #[.int .i64 0, .slice none 0 0] (0, 0) _ rfl (by (with_reducible repeat (first | refine qe ?_ _ | refine qg ?_ | refine qf ?_ _)); refine qz (cs := #[.int .i64 0, .slice none 0 0]) ?_ 1 _ rfl; (with_reducible repeat (first | refine qe ?_ _ | refine qg ?_ | refine qf ?_ _)); refine qz (cs := #[.int .i64 0, .slice none 0 0]) ?_ 0 _ rfl; (with_reducible repeat (first | refine qe ?_ _ | refine qg ?_ | refine qf ?_ _)); exact BK101.out) Try.underlying68 rfl (by kernel_rfl)) rfl ?_
    exact ⟨_, by first | rfl | (simp [qo, qn] <;> rfl) | (simp [*, qo, qn] <;> rfl), by first | exact Kd.R_nil _ _ _ _ _ | exact Kd.N_nil _ _ _ _ _ | exact Kd.V_nil _ _ _ _ _ | exact Kd.Q_nil _ _ _ _ _ | exact Kd.S_nil _ _ _ _ _, by repeat (first | (with_reducible first | exact HB.out | apply qc | apply qa | apply qb | refine qd ?_ GE101.out) | exact HB.out)⟩
   ·replace c9 := Bool.eq_false_iff.mpr c9
    subst c9
    have H1 : (spec_ReadBatch.l0 kj3 t105 t106 0 (wrap64 (t102)) ([] : List (S148))) = some (r1, r2, r3) := by rw [if_neg (show ¬ (false = true) by decide)] at H; exact H
    clear H
    have H := H1
    clear H1
    have H' := Qz.mk H
    clear H
    go_wp2_with (first | ((with_reducible refine qg1 (N := 10) rfl ?_); refine qf1 ?hg (N := 10) ?hd (cs := #[.int .i64 0, .slice none 0 0]) (t := 68) ?hr ?_; (case hd => rfl); (case hg => rfl); (case hr => first | (go_simp; done) | (go_simp; rfl)); intro gb108 hg w11 hbox hb; have BK108 := Qz.mk (hbox); have GW108 := Qz.mk ((by rw [hg]; exact (qr (by repeat (first | (with_reducible first | exact HB.out | apply qc | apply qa | apply qb | refine qd ?_ GE101.out) | exact HB.out))) : w.heap.size ≤ gb108)); have GE108 := GW108; replace HB := Qz.mk (qm (by repeat (first | (with_reducible first | exact HB.out | apply qc | apply qa | apply qb | refine qd ?_ GE101.out) | exact HB.out)) hb); have NB101_108 := Qz.mk ((by rw [hg]; exact Nat.ne_of_lt (blk_lt (g := gb101) (o := .cells #[.int .i64 0, .slice none 0 0] 68 (0, 0)) yq123) : gb101 ≠ gb108)); have NB108_101 := Qz.mk ((by rw [hg]; exact Nat.ne_of_gt (blk_lt (g := gb101) (o := .cells #[.int .i64 0, .slice none 0 0] 68 (0, 0)) yq123) : gb108 ≠ gb101)); replace BK101 := Qz.mk (qp (g := gb101) (o := .cells #[.int .i64 0, .slice none 0 0] 68 (0, 0)) yq123 hb); clear hb hbox hg; have hnb12 := NB108_101.out; have hnc12 := NB101_108.out; have hcz13_0 : w11.cell? ⟨gb108, 0, none⟩ = some (.int .i64 0) := (qh BK108.out 0).trans rfl; have hcz13_1 : w11.cell? ⟨gb108, 1, none⟩ = some (.slice none 0 0) := (qh BK108.out 1).trans rfl; have hfz13_0 := qi BK108.out 0; have hfz13_1 := qi BK108.out 1))
    go_loopg [8, 11] kj3 (fun kq v8 v11 w' => ∃ (x8_2 : ByteArray) (x11_2 : Int) (x102000_2 : Int) (x109001_2 : List (S148)) (u109001 : Value), v8 = .string x8_2 ∧ v11 = .int .u64 x11_2 ∧ Qz (spec_ReadBatch.l0 kq t105 x8_2 x11_2 (wrap64 (t102)) x109001_2 = some (r1, r2, r3)) ∧ Qz (kq ≤ kj3) ∧ Qz (Kd.R k148 148 w' w.heap.size (fun _ => True) u109001 x109001_2) ∧ Qz (w'.heap[gb101]? = some (.cells #[.int .i64 x102000_2, (.slice none 0 0)] 68 (0, 0))) ∧ Qz (w'.heap[gb108]? = some (.cells #[.int .i64 (wrap64 (t102)), u109001] 68 (0, 0))) ∧ Qz (Below w.heap.size w w'))
    case atStart => exact ⟨(t106), (0), (0), (([] : List (S148))), (.slice none 0 0), yq127, yq127, H', ⟨Nat.le_refl _⟩, ⟨by first | exact Kd.R_nil _ _ _ _ _ | exact Kd.N_nil _ _ _ _ _ | exact Kd.V_nil _ _ _ _ _ | exact Kd.Q_nil _ _ _ _ _ | exact Kd.S_nil _ _ _ _ _⟩, ⟨by (with_reducible repeat (first | refine qe ?_ _ | refine qg ?_ | refine qf ?_ _)); refine blk_far ?_ NB101_108.out _; (with_reducible repeat (first | refine qe ?_ _ | refine qg ?_ | refine qf ?_ _)); refine blk_far ?_ NB101_108.out _; (with_reducible repeat (first | refine qe ?_ _ | refine qg ?_ | refine qf ?_ _)); exact BK101.out⟩, ⟨by (with_reducible repeat (first | refine qe ?_ _ | refine qg ?_ | refine qf ?_ _)); refine qz (cs := #[.int .i64 (wrap64 (t102)), .slice none 0 0]) ?_ 1 _ rfl; (with_reducible repeat (first | refine qe ?_ _ | refine qg ?_ | refine qf ?_ _)); refine qz (cs := #[.int .i64 0, .slice none 0 0]) ?_ 0 _ rfl; (with_reducible repeat (first | refine qe ?_ _ | refine qg ?_ | refine qf ?_ _)); exact BK108.out⟩, ⟨by repeat (first | (with_reducible first | exact HB.out | apply qc | apply qa | apply qb | refine qd ?_ GE101.out | refine qd ?_ GE108.out) | exact HB.out)⟩⟩
    case round =>
     clear H'
     try clear c1
     try clear p2
     try clear c5
     try clear c6
     try clear p6
     try clear c7
     try clear c8
     try clear c8b0
     try clear c9
     try clear c12
     try clear hcz10_0
     try clear hcz10_1
     try clear hcz13_0
     try clear hcz13_1
     try clear hfz10_0
     try clear hfz10_1
     try clear hfz13_0
     try clear hfz13_1
     try clear p2
     obtain ⟨x8_2, x11_2, x102000_2, x109001_2, u109001, rfl, rfl, HA, HK2, HO_109001, BK101, BK108, HB⟩ := hrel
     cases gk with
     | zero => exact absurd HA.out (by simp [spec_ReadBatch.l0])
     | succ k2 =>
      have H := HA.out
      clear HA
      simp only [spec_ReadBatch.l0] at H
      by_cases c14 : x11_2 < t105
      ·rw [if_pos c14] at H
       have c14b0 : decide (x11_2 < t105) = true := decide_eq_true c14
       clear c14
       by_cases c15 : x8_2.toList = ([] : List UInt8)
       ·rw [if_pos c15] at H
        have c15b0 : (x8_2.toList == ([] : List UInt8)) = true := beq_iff_eq.mpr c15
        have c15b1 : (x8_2.toList != ([] : List UInt8)) = false := bne_eq_false_iff_eq.mpr c15
        clear c15
        simp only [Option.some.injEq, Prod.mk.injEq] at H
        obtain ⟨rfl, rfl, rfl⟩ := H
        have hnb16 := NB101_108.out
        have hnc16 := NB108_101.out
        have hcz17_0 : wr.cell? ⟨gb101, 0, none⟩ = some (.int .i64 x102000_2) := (qh BK101.out 0).trans rfl
        have hcz17_1 : wr.cell? ⟨gb101, 1, none⟩ = some (.slice none 0 0) := (qh BK101.out 1).trans rfl
        have hfz17_0 := qi BK101.out 0
        have hfz17_1 := qi BK101.out 1
        go_wp2
        refine bodyPost_ret (results_ct rfl _ _ gb101 68 #[.int .i64 0, .slice none 0 0] (0, 0) _ rfl yq121 Try.underlying68 rfl (by kernel_rfl)) rfl ?_
        exact ⟨_, by first | rfl | (simp [qo, qn] <;> rfl) | (simp [*, qo, qn] <;> rfl), by first | exact Kd.R_nil _ _ _ _ _ | exact Kd.N_nil _ _ _ _ _ | exact Kd.V_nil _ _ _ _ _ | exact Kd.Q_nil _ _ _ _ _ | exact Kd.S_nil _ _ _ _ _, by repeat (first | (with_reducible first | exact HB.out | apply qc | apply qa | apply qb | refine qd ?_ GE101.out | refine qd ?_ GE108.out) | exact HB.out)⟩
       ·rw [if_neg c15] at H
        have c15b0 : (x8_2.toList == ([] : List UInt8)) = false := beq_eq_false_iff_ne.mpr c15
        have c15b1 : (x8_2.toList != ([] : List UInt8)) = true := bne_iff_ne.mpr c15
        by_cases c18 : 0 < (x8_2.size : Int)
        ·rw [if_pos c18] at H
         have c18b0 : decide (0 < (x8_2.size : Int)) = true := decide_eq_true c18
         have c18b1 : decide (0 < x8_2.size) = true := decide_eq_true (by omega)
         clear c18
         by_cases c20 : 1 ≤ (x8_2.size : Int)
         ·rw [if_pos c20] at H
          have c20b0 := eq_true c20
          have c20b1 : decide (1 ≤ (x8_2.size : Int)) = true := decide_eq_true c20
          clear c20
          replace H := Option.bind_eq_some_iff.mp H
          obtain ⟨⟨t110, t111, t112⟩, A210, H⟩ := H
          replace H : ((spec_TakeText.f k2 t111).bind fun bt113 => (if t112 = true then (if bt113.2.2 = true then (if x109001_2.length < 3518437208883 then (spec_ReadBatch.l0 k2 t105 bt113.2.1 (IntKind.u64.wrap (x11_2 + 1)) (wrap64 (t102)) (x109001_2 ++ [(⟨wrap64 (bt x8_2 0), t110, bt113.1⟩ : S148)])) else (none)) else (some (0, ([] : List (S148)), false))) else (some (0, ([] : List (S148)), false)))) = some (r1, r2, r3) := H
          have A21 := Qz.mk A210
          clear A210
          replace H := Option.bind_eq_some_iff.mp H
          obtain ⟨⟨t113, t114, t115⟩, A220, H⟩ := H
          replace H : (if t112 = true then (if t115 = true then (if x109001_2.length < 3518437208883 then (spec_ReadBatch.l0 k2 t105 t114 (IntKind.u64.wrap (x11_2 + 1)) (wrap64 (t102)) (x109001_2 ++ [(⟨wrap64 (bt x8_2 0), t110, t113⟩ : S148)])) else (none)) else (some (0, ([] : List (S148)), false))) else (some (0, ([] : List (S148)), false))) = some (r1, r2, r3) := H
          have A22 := Qz.mk A220
          clear A220
          by_cases c23 : t112 = true
          ·subst c23
           have H1 : (if t115 = true then (if x109001_2.length < 3518437208883 then (spec_ReadBatch.l0 k2 t105 t114 (IntKind.u64.wrap (x11_2 + 1)) (wrap64 (t102)) (x109001_2 ++ [(⟨wrap64 (bt x8_2 0), t110, t113⟩ : S148)])) else (none)) else (some (0, ([] : List (S148)), false))) = some (r1, r2, r3) := by rw [if_pos rfl] at H; exact H
           clear H
           have H := H1
           clear H1
           by_cases c24 : t115 = true
           ·subst c24
            have H1 : (if x109001_2.length < 3518437208883 then (spec_ReadBatch.l0 k2 t105 t114 (IntKind.u64.wrap (x11_2 + 1)) (wrap64 (t102)) (x109001_2 ++ [(⟨wrap64 (bt x8_2 0), t110, t113⟩ : S148)])) else (none)) = some (r1, r2, r3) := by rw [if_pos rfl] at H; exact H
            clear H
            have H := H1
            clear H1
            by_cases c25 : x109001_2.length < 3518437208883
            ·rw [if_pos c25] at H
             have LMc25 := Qz.mk c25
             clear c25
             obtain ⟨y116, hy116⟩ : ∃ y_ : List (S148), y_ = (x109001_2 ++ [(⟨wrap64 (bt x8_2 0), t110, t113⟩ : S148)]) := ⟨_, rfl⟩
             replace H : (spec_ReadBatch.l0 k2 t105 t114 (IntKind.u64.wrap (x11_2 + 1)) (wrap64 (t102)) y116) = some (r1, r2, r3) := by first | (rw [hy116]; with_reducible exact H) | (have H2_ := (Option.bind_some _ _).symm.trans H; rw [hy116]; with_reducible exact H2_) | (have H2_ := (Option.bind_some _ _).symm.trans H; with_reducible exact H2_) | with_reducible exact H | (rw [hy116]; exact H) | exact H
             have Ny116 := Qz.mk hy116
             clear hy116
             have H' := Qz.mk H
             clear H
             have p19 : 0 ≤ (0 : Int) := (by omega)
             have q19 : 0 < x8_2.size := (by have : (0 : Int) < (x8_2.size : Int) := of_decide_eq_true yq128; omega)
             have hx19 : ∀ h : 0 < x8_2.size, ((x8_2[0]'h).toNat : Int) = bt x8_2 0 := bt_at x8_2 0
             clear p19
             have qi19 : (0 < (x8_2.size : Int)) = True := eq_true (of_decide_eq_true yq128)
             replace q19 := eq_true q19
             go_wp2_with (first | ((with_reducible refine ql (f := 83) rfl ?_); refine qy (some 63) rfl rfl Try.func83 (by kernel_rfl) rfl #[.string (x8_2.extract 1 x8_2.size)] rfl yq126 ?_; (with_reducible refine (spec_TakeText.calls k2 (x8_2.extract 1 x8_2.size) t110 t111 true _ A21.out).mono ?_); rintro e w' ⟨rfl, ⟨nd, rfl⟩⟩; refine ⟨_, rfl, ?_⟩; (try (rw [drewN_self wr]; generalize hq_ : World.drewN wr _ = wr; have n0_ : Qz (Kd.R k148 148 wr w.heap.size (fun _ => True) u109001 x109001_2) := ⟨by rw [← hq_]; exact yq124⟩; have n1_ : Qz (wr.heap[gb101]? = some (.cells #[.int .i64 x102000_2, .slice none 0 0] 68 (0, 0))) := ⟨by rw [← hq_]; exact yq123⟩; have n2_ : Qz (wr.heap[gb108]? = some (.cells #[.int .i64 (wrap64 (t102)), u109001] 68 (0, 0))) := ⟨by rw [← hq_]; exact yq125⟩; have n3_ : Qz (Below w.heap.size w wr) := ⟨by rw [← hq_]; exact yq122⟩; clear HO_109001 BK101 BK108 HB hq_; have HO_109001 := n0_; have BK101 := n1_; have BK108 := n2_; have HB := n3_; clear n0_ n1_ n2_ n3_))) | ((with_reducible refine ql (f := 83) rfl ?_); refine qy (some 69) rfl rfl Try.func83 (by kernel_rfl) rfl #[.string t111] rfl yq126 ?_; (with_reducible refine (spec_TakeText.calls k2 t111 t113 t114 true _ A22.out).mono ?_); rintro e w' ⟨rfl, ⟨nd, rfl⟩⟩; refine ⟨_, rfl, ?_⟩; (try (rw [drewN_self wr]; generalize hq_ : World.drewN wr _ = wr; have n0_ : Qz (Kd.R k148 148 wr w.heap.size (fun _ => True) u109001 x109001_2) := ⟨by rw [← hq_]; exact yq124⟩; have n1_ : Qz (wr.heap[gb101]? = some (.cells #[.int .i64 x102000_2, .slice none 0 0] 68 (0, 0))) := ⟨by rw [← hq_]; exact yq123⟩; have n2_ : Qz (wr.heap[gb108]? = some (.cells #[.int .i64 (wrap64 (t102)), u109001] 68 (0, 0))) := ⟨by rw [← hq_]; exact yq125⟩; have n3_ : Qz (Below w.heap.size w wr) := ⟨by rw [← hq_]; exact yq122⟩; clear HO_109001 BK101 BK108 HB hq_; have HO_109001 := n0_; have BK101 := n1_; have BK108 := n2_; have HB := n3_; clear n0_ n1_ n2_ n3_)); have hnb26 := NB108_101.out; have hnc26 := NB101_108.out; have hcz27_0 : wr.cell? ⟨gb108, 0, none⟩ = some (.int .i64 (wrap64 (t102))) := (qh BK108.out 0).trans rfl; have hcz27_1 : wr.cell? ⟨gb108, 1, none⟩ = some (u109001) := (qh BK108.out 1).trans rfl; have hfz27_0 := qi BK108.out 0; have hfz27_1 := qi BK108.out 1) | ((with_reducible refine gate_builtin (b := .append) (xs := #[.tmp 81, .tmp 86]) rfl ?_); at_builtin; refine Kd.R_append k148 (w0 := w) w.heap.size rfl (.tmp 81) (.tmp 86) 66 148 (.agg #[(.int .i64 0), (.string ⟨#[]⟩), (.string ⟨#[]⟩)]) 40 rfl Try.underlying66 info148 rfl (by decide) (by omega) u109001 x109001_2 (⟨wrap64 (bt x8_2 0), t110, t113⟩ : S148) [.int .i64 (wrap64 (bt x8_2 0)), .string t110, .string t113] (fun _ => True) (fun _ => False) rfl rfl ?aP (fun _ hk => hk.elim) ?aF ?aO ?aB ?aS ?aL ?_; (case aP => exact k148_mkM _ _ _ (⟨wrap64 (bt x8_2 0), t110, t113⟩ : S148)); (case aB => exact yq122); (case aF => exact (fun _ _ => trivial)); (case aO => exact yq124); (case aS => exact (qr yq122)); (case aL => have := LMc25.out; omega); intro v117 w28 ho hb hg hat; rw [← Ny116.out] at ho; have n0_ := Qz.mk (blk_grown (g := gb101) (o := .cells #[.int .i64 x102000_2, .slice none 0 0] 68 (0, 0)) yq123 hg (Kd.R_ne HO_109001.out BK101.out (by decide))); have n1_ := Qz.mk (blk_grown (g := gb108) (o := .cells #[.int .i64 (wrap64 (t102)), u109001] 68 (0, 0)) yq125 hg (Kd.R_ne HO_109001.out BK108.out (by decide))); have n2_ := Qz.mk (hb); have n3_ := Qz.mk (ho); clear BK101; clear BK108; clear HB; clear HO_109001; have BK101 := n0_; have BK108 := n1_; have HB := n2_; have HO118 := n3_; clear n0_ n1_ n2_ n3_; clear ho hb hg hat; obtain ⟨Ao29, co29, eo29⟩ := Kd.R_slice HO118.out; subst eo29; have hcz30_0 : w28.cell? ⟨gb108, 0, none⟩ = some (.int .i64 (wrap64 (t102))) := (qh BK108.out 0).trans rfl; have hcz30_1 : w28.cell? ⟨gb108, 1, none⟩ = some (u109001) := (qh BK108.out 1).trans rfl; have hfz30_0 := qi BK108.out 0; have hfz30_1 := qi BK108.out 1))
             go_roundg k2
             case measure => have := HJ3.out; have := HK2.out; omega
             case rel => exact ⟨(t114), (IntKind.u64.wrap (x11_2 + 1)), (x102000_2), (y116), (.slice Ao29 y116.length co29), yq127, yq127, H', ⟨by have := HJ3.out; have := HK2.out; omega⟩, ⟨by (with_reducible repeat (first | apply Kd.R_alloc | apply Kd.R_drewN | apply Kd.R_drew)); exact Kd.R_mono (Kd.R_far (p := ⟨gb108, 1, none⟩) (Kd.R_types HO118.out BK108.out (by decide)) (fun _ hk => hk.2) (.slice Ao29 y116.length co29)) (fun _ hk => trivial)⟩, ⟨by (with_reducible repeat (first | refine qe ?_ _ | refine qg ?_ | refine qf ?_ _)); refine blk_far ?_ NB101_108.out _; (with_reducible repeat (first | refine qe ?_ _ | refine qg ?_ | refine qf ?_ _)); exact BK101.out⟩, ⟨by (with_reducible repeat (first | refine qe ?_ _ | refine qg ?_ | refine qf ?_ _)); refine qz (cs := #[.int .i64 (wrap64 (t102)), u109001]) ?_ 1 _ rfl; (with_reducible repeat (first | refine qe ?_ _ | refine qg ?_ | refine qf ?_ _)); exact BK108.out⟩, ⟨by repeat (first | (with_reducible first | exact HB.out | apply qc | apply qa | apply qb | refine qd ?_ GE101.out | refine qd ?_ GE108.out) | exact HB.out)⟩⟩
            ·rw [if_neg c25] at H
             exact absurd H (by simp)
           ·replace c24 := Bool.eq_false_iff.mpr c24
            subst c24
            have H1 : (some (0, ([] : List (S148)), false)) = some (r1, r2, r3) := by rw [if_neg (show ¬ (false = true) by decide)] at H; exact H
            clear H
            have H := H1
            clear H1
            simp only [Option.some.injEq, Prod.mk.injEq] at H
            obtain ⟨rfl, rfl, rfl⟩ := H
            have p19 : 0 ≤ (0 : Int) := (by omega)
            have q19 : 0 < x8_2.size := (by have : (0 : Int) < (x8_2.size : Int) := of_decide_eq_true yq128; omega)
            have hx19 : ∀ h : 0 < x8_2.size, ((x8_2[0]'h).toNat : Int) = bt x8_2 0 := bt_at x8_2 0
            clear p19
            have qi19 : (0 < (x8_2.size : Int)) = True := eq_true (of_decide_eq_true yq128)
            replace q19 := eq_true q19
            go_wp2_with (first | ((with_reducible refine ql (f := 83) rfl ?_); refine qy (some 63) rfl rfl Try.func83 (by kernel_rfl) rfl #[.string (x8_2.extract 1 x8_2.size)] rfl yq126 ?_; (with_reducible refine (spec_TakeText.calls k2 (x8_2.extract 1 x8_2.size) t110 t111 true _ A21.out).mono ?_); rintro e w' ⟨rfl, ⟨nd, rfl⟩⟩; refine ⟨_, rfl, ?_⟩; (try (rw [drewN_self wr]; generalize hq_ : World.drewN wr _ = wr; have n0_ : Qz (Kd.R k148 148 wr w.heap.size (fun _ => True) u109001 x109001_2) := ⟨by rw [← hq_]; exact yq124⟩; have n1_ : Qz (wr.heap[gb101]? = some (.cells #[.int .i64 x102000_2, .slice none 0 0] 68 (0, 0))) := ⟨by rw [← hq_]; exact yq123⟩; have n2_ : Qz (wr.heap[gb108]? = some (.cells #[.int .i64 (wrap64 (t102)), u109001] 68 (0, 0))) := ⟨by rw [← hq_]; exact yq125⟩; have n3_ : Qz (Below w.heap.size w wr) := ⟨by rw [← hq_]; exact yq122⟩; clear HO_109001 BK101 BK108 HB hq_; have HO_109001 := n0_; have BK101 := n1_; have BK108 := n2_; have HB := n3_; clear n0_ n1_ n2_ n3_))) | ((with_reducible refine ql (f := 83) rfl ?_); refine qy (some 69) rfl rfl Try.func83 (by kernel_rfl) rfl #[.string t111] rfl yq126 ?_; (with_reducible refine (spec_TakeText.calls k2 t111 t113 t114 false _ A22.out).mono ?_); rintro e w' ⟨rfl, ⟨nd, rfl⟩⟩; refine ⟨_, rfl, ?_⟩; (try (rw [drewN_self wr]; generalize hq_ : World.drewN wr _ = wr; have n0_ : Qz (Kd.R k148 148 wr w.heap.size (fun _ => True) u109001 x109001_2) := ⟨by rw [← hq_]; exact yq124⟩; have n1_ : Qz (wr.heap[gb101]? = some (.cells #[.int .i64 x102000_2, .slice none 0 0] 68 (0, 0))) := ⟨by rw [← hq_]; exact yq123⟩; have n2_ : Qz (wr.heap[gb108]? = some (.cells #[.int .i64 (wrap64 (t102)), u109001] 68 (0, 0))) := ⟨by rw [← hq_]; exact yq125⟩; have n3_ : Qz (Below w.heap.size w wr) := ⟨by rw [← hq_]; exact yq122⟩; clear HO_109001 BK101 BK108 HB hq_; have HO_109001 := n0_; have BK101 := n1_; have BK108 := n2_; have HB := n3_; clear n0_ n1_ n2_ n3_)); have hnb31 := NB101_108.out; have hnc31 := NB108_101.out; have hcz32_0 : wr.cell? ⟨gb101, 0, none⟩ = some (.int .i64 x102000_2) := (qh BK101.out 0).trans rfl; have hcz32_1 : wr.cell? ⟨gb101, 1, none⟩ = some (.slice none 0 0) := (qh BK101.out 1).trans rfl; have hfz32_0 := qi BK101.out 0; have hfz32_1 := qi BK101.out 1))
            refine bodyPost_ret (results_ct rfl _ _ gb101 68 #[.int .i64 0, .slice none 0 0] (0, 0) _ rfl yq121 Try.underlying68 rfl (by kernel_rfl)) rfl ?_
            exact ⟨_, by first | rfl | (simp [qo, qn] <;> rfl) | (simp [*, qo, qn] <;> rfl), by first | exact Kd.R_nil _ _ _ _ _ | exact Kd.N_nil _ _ _ _ _ | exact Kd.V_nil _ _ _ _ _ | exact Kd.Q_nil _ _ _ _ _ | exact Kd.S_nil _ _ _ _ _, by repeat (first | (with_reducible first | exact HB.out | apply qc | apply qa | apply qb | refine qd ?_ GE101.out | refine qd ?_ GE108.out) | exact HB.out)⟩
          ·replace c23 := Bool.eq_false_iff.mpr c23
           subst c23
           have H1 : (some (0, ([] : List (S148)), false)) = some (r1, r2, r3) := by rw [if_neg (show ¬ (false = true) by decide)] at H; exact H
           clear H
           have H := H1
           clear H1
           simp only [Option.some.injEq, Prod.mk.injEq] at H
           obtain ⟨rfl, rfl, rfl⟩ := H
           have p19 : 0 ≤ (0 : Int) := (by omega)
           have q19 : 0 < x8_2.size := (by have : (0 : Int) < (x8_2.size : Int) := of_decide_eq_true yq128; omega)
           have hx19 : ∀ h : 0 < x8_2.size, ((x8_2[0]'h).toNat : Int) = bt x8_2 0 := bt_at x8_2 0
           clear p19
           have qi19 : (0 < (x8_2.size : Int)) = True := eq_true (of_decide_eq_true yq128)
           replace q19 := eq_true q19
           go_wp2_with (first | ((with_reducible refine ql (f := 83) rfl ?_); refine qy (some 63) rfl rfl Try.func83 (by kernel_rfl) rfl #[.string (x8_2.extract 1 x8_2.size)] rfl yq126 ?_; (with_reducible refine (spec_TakeText.calls k2 (x8_2.extract 1 x8_2.size) t110 t111 false _ A21.out).mono ?_); rintro e w' ⟨rfl, ⟨nd, rfl⟩⟩; refine ⟨_, rfl, ?_⟩; (try (rw [drewN_self wr]; generalize hq_ : World.drewN wr _ = wr; have n0_ : Qz (Kd.R k148 148 wr w.heap.size (fun _ => True) u109001 x109001_2) := ⟨by rw [← hq_]; exact yq124⟩; have n1_ : Qz (wr.heap[gb101]? = some (.cells #[.int .i64 x102000_2, .slice none 0 0] 68 (0, 0))) := ⟨by rw [← hq_]; exact yq123⟩; have n2_ : Qz (wr.heap[gb108]? = some (.cells #[.int .i64 (wrap64 (t102)), u109001] 68 (0, 0))) := ⟨by rw [← hq_]; exact yq125⟩; have n3_ : Qz (Below w.heap.size w wr) := ⟨by rw [← hq_]; exact yq122⟩; clear HO_109001 BK101 BK108 HB hq_; have HO_109001 := n0_; have BK101 := n1_; have BK108 := n2_; have HB := n3_; clear n0_ n1_ n2_ n3_))) | ((with_reducible refine ql (f := 83) rfl ?_); refine qy (some 69) rfl rfl Try.func83 (by kernel_rfl) rfl #[.string t111] rfl yq126 ?_; (with_reducible refine (spec_TakeText.calls k2 t111 t113 t114 t115 _ A22.out).mono ?_); rintro e w' ⟨rfl, ⟨nd, rfl⟩⟩; refine ⟨_, rfl, ?_⟩; (try (rw [drewN_self wr]; generalize hq_ : World.drewN wr _ = wr; have n0_ : Qz (Kd.R k148 148 wr w.heap.size (fun _ => True) u109001 x109001_2) := ⟨by rw [← hq_]; exact yq124⟩; have n1_ : Qz (wr.heap[gb101]? = some (.cells #[.int .i64 x102000_2, .slice none 0 0] 68 (0, 0))) := ⟨by rw [← hq_]; exact yq123⟩; have n2_ : Qz (wr.heap[gb108]? = some (.cells #[.int .i64 (wrap64 (t102)), u109001] 68 (0, 0))) := ⟨by rw [← hq_]; exact yq125⟩; have n3_ : Qz (Below w.heap.size w wr) := ⟨by rw [← hq_]; exact yq122⟩; clear HO_109001 BK101 BK108 HB hq_; have HO_109001 := n0_; have BK101 := n1_; have BK108 := n2_; have HB := n3_; clear n0_ n1_ n2_ n3_)); have hnb33 := NB101_108.out; have hnc33 := NB108_101.out; have hcz34_0 : wr.cell? ⟨gb101, 0, none⟩ = some (.int .i64 x102000_2) := (qh BK101.out 0).trans rfl; have hcz34_1 : wr.cell? ⟨gb101, 1, none⟩ = some (.slice none 0 0) := (qh BK101.out 1).trans rfl; have hfz34_0 := qi BK101.out 0; have hfz34_1 := qi BK101.out 1))
           refine bodyPost_ret (results_ct rfl _ _ gb101 68 #[.int .i64 0, .slice none 0 0] (0, 0) _ rfl yq121 Try.underlying68 rfl (by kernel_rfl)) rfl ?_
           exact ⟨_, by first | rfl | (simp [qo, qn] <;> rfl) | (simp [*, qo, qn] <;> rfl), by first | exact Kd.R_nil _ _ _ _ _ | exact Kd.N_nil _ _ _ _ _ | exact Kd.V_nil _ _ _ _ _ | exact Kd.Q_nil _ _ _ _ _ | exact Kd.S_nil _ _ _ _ _, by repeat (first | (with_reducible first | exact HB.out | apply qc | apply qa | apply qb | refine qd ?_ GE101.out | refine qd ?_ GE108.out) | exact HB.out)⟩
         ·rw [if_neg c20] at H
          exact absurd H (by simp)
        ·rw [if_neg c18] at H
         exact absurd H (by simp)
      ·rw [if_neg c14] at H
       have c14b0 : decide (x11_2 < t105) = false := decide_eq_false c14
       clear c14
       by_cases c35 : x8_2.toList = ([] : List UInt8)
       ·rw [if_pos c35] at H
        have c35b0 : (x8_2.toList == ([] : List UInt8)) = true := beq_iff_eq.mpr c35
        have c35b1 : (x8_2.toList != ([] : List UInt8)) = false := bne_eq_false_iff_eq.mpr c35
        clear c35
        replace H := Option.bind_eq_some_iff.mp H
        obtain ⟨t109, A360, H⟩ := H
        replace H : (if t109 = true then (some ((wrap64 (t102)), x109001_2, true)) else (some (0, ([] : List (S148)), false))) = some (r1, r2, r3) := H
        have A36 := Qz.mk A360
        clear A360
        by_cases c37 : t109 = true
        ·subst c37
         have H1 : (some ((wrap64 (t102)), x109001_2, true)) = some (r1, r2, r3) := by rw [if_pos rfl] at H; exact H
         clear H
         have H := H1
         clear H1
         simp only [Option.some.injEq, Prod.mk.injEq] at H
         obtain ⟨rfl, rfl, rfl⟩ := H
         have hnb38 := NB108_101.out
         have hnc38 := NB101_108.out
         have hcz39_0 : wr.cell? ⟨gb108, 0, none⟩ = some (.int .i64 (wrap64 (t102))) := (qh BK108.out 0).trans rfl
         have hcz39_1 : wr.cell? ⟨gb108, 1, none⟩ = some (u109001) := (qh BK108.out 1).trans rfl
         have hfz39_0 := qi BK108.out 0
         have hfz39_1 := qi BK108.out 1
         obtain ⟨Ao40, co40, eo40⟩ := Kd.R_slice HO_109001.out
         subst eo40
         go_wp2_with (first | (go_at_call 113; (with_reducible refine (spec_BatchOk.calls k2 (wrap64 (t102)) _ _ x109001_2 true _ ?side1 ?side2 A36.out).mono ?_); (case side1 => repeat (first | exact (Kd.R_reads' HO_109001.out).2.2 | (with_reducible refine Kd.C_alloc ?_ _) | (with_reducible refine Kd.C_drewN ?_ _) | (with_reducible refine Kd.C_drew ?_))); (case side2 => exact (Kd.R_reads' HO_109001.out).2.1); rintro e w41 ⟨rfl, hb⟩; replace HO_109001 := Qz.mk (Kd.R_below yq124 hb); replace BK101 := Qz.mk (qp (g := gb101) (o := .cells #[.int .i64 x102000_2, .slice none 0 0] 68 (0, 0)) yq123 hb); replace BK108 := Qz.mk (qp (g := gb108) (o := .cells #[.int .i64 (wrap64 (t102)), .slice Ao40 x109001_2.length co40] 68 (0, 0)) yq125 hb); replace HB := Qz.mk (qm yq122 hb); (try clear hb); (try clear hk); have hcz42_0 : w41.cell? ⟨gb108, 0, none⟩ = some (.int .i64 (wrap64 (t102))) := (qh BK108.out 0).trans rfl; have hcz42_1 : w41.cell? ⟨gb108, 1, none⟩ = some (.slice Ao40 x109001_2.length co40) := (qh BK108.out 1).trans rfl; have hfz42_0 := qi BK108.out 0; have hfz42_1 := qi BK108.out 1; have hcz43_0 : w41.cell? ⟨gb101, 0, none⟩ = some (.int .i64 x102000_2) := (qh BK101.out 0).trans rfl; have hcz43_1 : w41.cell? ⟨gb101, 1, none⟩ = some (.slice none 0 0) := (qh BK101.out 1).trans rfl; have hfz43_0 := qi BK101.out 0; have hfz43_1 := qi BK101.out 1))
         refine bodyPost_ret (results_ct rfl _ _ gb101 68 #[.int .i64 (wrap64 (t102)), .slice Ao40 x109001_2.length co40] (0, 0) _ rfl (by (with_reducible repeat (first | refine qe ?_ _ | refine qg ?_ | refine qf ?_ _)); refine qz (cs := #[.int .i64 (wrap64 (t102)), .slice none 0 0]) ?_ 1 _ rfl; (with_reducible repeat (first | refine qe ?_ _ | refine qg ?_ | refine qf ?_ _)); refine qz (cs := #[.int .i64 x102000_2, .slice none 0 0]) ?_ 0 _ rfl; (with_reducible repeat (first | refine qe ?_ _ | refine qg ?_ | refine qf ?_ _)); exact BK101.out) Try.underlying68 rfl (by kernel_rfl)) rfl ?_
         exact ⟨_, by first | rfl | (simp [qo, qn] <;> rfl) | (simp [*, qo, qn] <;> rfl), by (with_reducible repeat (first | apply Kd.R_alloc | apply Kd.R_drewN | apply Kd.R_drew)); exact Kd.R_mono (Kd.R_far (p := ⟨gb101, 1, none⟩) (Kd.R_far (p := ⟨gb101, 0, none⟩) (Kd.R_types HO_109001.out BK101.out (by decide)) (fun _ hk => hk.2) (.int .i64 (wrap64 (t102)))) (fun _ hk => hk.2) (.slice Ao40 x109001_2.length co40)) (fun _ hk => trivial), by repeat (first | (with_reducible first | exact HB.out | apply qc | apply qa | apply qb | refine qd ?_ GE101.out | refine qd ?_ GE108.out) | exact HB.out)⟩
        ·replace c37 := Bool.eq_false_iff.mpr c37
         subst c37
         have H1 : (some (0, ([] : List (S148)), false)) = some (r1, r2, r3) := by rw [if_neg (show ¬ (false = true) by decide)] at H; exact H
         clear H
         have H := H1
         clear H1
         simp only [Option.some.injEq, Prod.mk.injEq] at H
         obtain ⟨rfl, rfl, rfl⟩ := H
         have hnb44 := NB108_101.out
         have hnc44 := NB101_108.out
         have hcz45_0 : wr.cell? ⟨gb108, 0, none⟩ = some (.int .i64 (wrap64 (t102))) := (qh BK108.out 0).trans rfl
         have hcz45_1 : wr.cell? ⟨gb108, 1, none⟩ = some (u109001) := (qh BK108.out 1).trans rfl
         have hfz45_0 := qi BK108.out 0
         have hfz45_1 := qi BK108.out 1
         obtain ⟨Ao46, co46, eo46⟩ := Kd.R_slice HO_109001.out
         subst eo46
         go_wp2_with (first | (go_at_call 113; (with_reducible refine (spec_BatchOk.calls k2 (wrap64 (t102)) _ _ x109001_2 false _ ?side1 ?side2 A36.out).mono ?_); (case side1 => repeat (first | exact (Kd.R_reads' HO_109001.out).2.2 | (with_reducible refine Kd.C_alloc ?_ _) | (with_reducible refine Kd.C_drewN ?_ _) | (with_reducible refine Kd.C_drew ?_))); (case side2 => exact (Kd.R_reads' HO_109001.out).2.1); rintro e w47 ⟨rfl, hb⟩; replace HO_109001 := Qz.mk (Kd.R_below yq124 hb); replace BK101 := Qz.mk (qp (g := gb101) (o := .cells #[.int .i64 x102000_2, .slice none 0 0] 68 (0, 0)) yq123 hb); replace BK108 := Qz.mk (qp (g := gb108) (o := .cells #[.int .i64 (wrap64 (t102)), .slice Ao46 x109001_2.length co46] 68 (0, 0)) yq125 hb); replace HB := Qz.mk (qm yq122 hb); (try clear hb); (try clear hk); have hcz48_0 : w47.cell? ⟨gb101, 0, none⟩ = some (.int .i64 x102000_2) := (qh BK101.out 0).trans rfl; have hcz48_1 : w47.cell? ⟨gb101, 1, none⟩ = some (.slice none 0 0) := (qh BK101.out 1).trans rfl; have hfz48_0 := qi BK101.out 0; have hfz48_1 := qi BK101.out 1))
         refine bodyPost_ret (results_ct rfl _ _ gb101 68 #[.int .i64 0, .slice none 0 0] (0, 0) _ rfl yq121 Try.underlying68 rfl (by kernel_rfl)) rfl ?_
         exact ⟨_, by first | rfl | (simp [qo, qn] <;> rfl) | (simp [*, qo, qn] <;> rfl), by first | exact Kd.R_nil _ _ _ _ _ | exact Kd.N_nil _ _ _ _ _ | exact Kd.V_nil _ _ _ _ _ | exact Kd.Q_nil _ _ _ _ _ | exact Kd.S_nil _ _ _ _ _, by repeat (first | (with_reducible first | exact HB.out | apply qc | apply qa | apply qb | refine qd ?_ GE101.out | refine qd ?_ GE108.out) | exact HB.out)⟩
       ·rw [if_neg c35] at H
        have c35b0 : (x8_2.toList == ([] : List UInt8)) = false := beq_eq_false_iff_ne.mpr c35
        have c35b1 : (x8_2.toList != ([] : List UInt8)) = true := bne_iff_ne.mpr c35
        simp only [Option.some.injEq, Prod.mk.injEq] at H
        obtain ⟨rfl, rfl, rfl⟩ := H
        have hnb49 := NB101_108.out
        have hnc49 := NB108_101.out
        have hcz50_0 : wr.cell? ⟨gb101, 0, none⟩ = some (.int .i64 x102000_2) := (qh BK101.out 0).trans rfl
        have hcz50_1 : wr.cell? ⟨gb101, 1, none⟩ = some (.slice none 0 0) := (qh BK101.out 1).trans rfl
        have hfz50_0 := qi BK101.out 0
        have hfz50_1 := qi BK101.out 1
        go_wp2
        refine bodyPost_ret (results_ct rfl _ _ gb101 68 #[.int .i64 0, .slice none 0 0] (0, 0) _ rfl yq121 Try.underlying68 rfl (by kernel_rfl)) rfl ?_
        exact ⟨_, by first | rfl | (simp [qo, qn] <;> rfl) | (simp [*, qo, qn] <;> rfl), by first | exact Kd.R_nil _ _ _ _ _ | exact Kd.N_nil _ _ _ _ _ | exact Kd.V_nil _ _ _ _ _ | exact Kd.Q_nil _ _ _ _ _ | exact Kd.S_nil _ _ _ _ _, by repeat (first | (with_reducible first | exact HB.out | apply qc | apply qa | apply qb | refine qd ?_ GE101.out | refine qd ?_ GE108.out) | exact HB.out)⟩
theorem yq129 {P : Prop} (h : P := by repeat (first | (with_reducible first | exact HB.out | apply qc | apply qa | apply qb | refine qd ?_ GE106.out | refine qd ?_ GE113.out) | exact HB.out)) : P := h
theorem yq130 {P : Prop} (h : P := by (with_reducible repeat (first | refine qe ?_ _ | refine qg ?_ | refine qf ?_ _)); exact BK106.out) : P := h
theorem yq131 {P : Prop} (h : P := by (with_reducible repeat (first | refine qe ?_ _ | refine qg ?_ | refine qf ?_ _)); exact BK113.out) : P := h
theorem yq132 {P : Prop} (h : P := by (with_reducible repeat (first | apply Kd.R_alloc | apply Kd.R_drewN | apply Kd.R_drew)); exact (Kd.R_mono (Kd.R_far (p := ⟨gb113, 1, none⟩) (Kd.R_far (p := ⟨gb113, 0, none⟩) (Kd.R_types HO105.out BK113.out (by decide)) (fun _ hk => hk.2) (.int .i64 t108)) (fun _ hk => hk.2) (.slice Ao17 t109.length co17)) (fun _ h_ => h_.1))) : P := h
theorem yq133 {P : Prop} (h : P := by (try simp only [List.map_toArray, List.map_cons, List.map_nil]); first | done | rfl | (simp only [List.length_drop, List.length_take]; rfl) | (rw [IntWalk.u64_in _ (by omega)] <;> rfl)) : P := h
theorem yq134 {P : Prop} (h : P := by repeat (first | (with_reducible first | exact HB.out | apply qc | apply qa | apply qb | refine qd ?_ GE106.out | refine qd ?_ GE113.out | refine qd ?_ GE127.out) | exact HB.out)) : P := h
theorem yq135 {P : Prop} (h : P := by (with_reducible repeat (first | apply Kd.R_alloc | apply Kd.R_drewN | apply Kd.R_drew)); exact HO_114001.out) : P := h
theorem yq136 {P : Prop} (h : P := by (with_reducible repeat (first | apply Kd.R_alloc | apply Kd.R_drewN | apply Kd.R_drew)); exact HO_107001.out) : P := h
theorem yq137 {P : Prop} (h : P := by (with_reducible repeat (first | refine qe ?_ _ | refine qg ?_ | refine qf ?_ _)); refine qz (cs := #[.int .i64 t108, .slice none 0 0]) ?_ 1 _ rfl; (with_reducible repeat (first | refine qe ?_ _ | refine qg ?_ | refine qf ?_ _)); refine qz (cs := #[.int .i64 0, .slice none 0 0]) ?_ 0 _ rfl; (with_reducible repeat (first | refine qe ?_ _ | refine qg ?_ | refine qf ?_ _)); exact BK113.out) : P := h
theorem yq138 {P : Prop} (h : P := by (with_reducible repeat (first | refine qe ?_ _ | refine qg ?_ | refine qf ?_ _)); refine blk_far ?_ NB106_113.out _; (with_reducible repeat (first | refine qe ?_ _ | refine qg ?_ | refine qf ?_ _)); refine blk_far ?_ NB106_113.out _; (with_reducible repeat (first | refine qe ?_ _ | refine qg ?_ | refine qf ?_ _)); exact BK106.out) : P := h
theorem yq139 {P : Prop} (h : P := by (with_reducible repeat (first | apply Kd.R_alloc | apply Kd.R_drewN | apply Kd.R_drew)); exact (Kd.R_mono (Kd.R_far (p := ⟨gb113, 1, none⟩) (Kd.R_far (p := ⟨gb113, 0, none⟩) (Kd.R_types HO111.out BK113.out (by decide)) (fun _ hk => hk.2) (.int .i64 t108)) (fun _ hk => hk.2) (.slice Ao17 t109.length co17)) (fun _ h_ => h_.1))) : P := h
theorem yq140 {P : Prop} (h : P := by (with_reducible repeat (first | refine qe ?_ _ | refine qg ?_ | refine qf ?_ _)); refine qz (cs := #[.int .i64 t122, .slice none 0 0]) ?_ 1 _ rfl; (with_reducible repeat (first | refine qe ?_ _ | refine qg ?_ | refine qf ?_ _)); refine qz (cs := #[.int .i64 0, .slice none 0 0]) ?_ 0 _ rfl; (with_reducible repeat (first | refine qe ?_ _ | refine qg ?_ | refine qf ?_ _)); exact BK127.out) : P := h
theorem yq141 {P : Prop} (h : P := by (with_reducible repeat (first | refine qe ?_ _ | refine qg ?_ | refine qf ?_ _)); exact BK127.out) : P := h
theorem yq142 {P : Prop} (h : P := by rw [hg]; exact Nat.ne_of_lt (blk_lt (g := gb106) (o := .cells #[.int .i64 t102, .slice Ao11 t103.length co11] 68 (0, 0)) yq130)) : P := h
theorem yq143 {P : Prop} (h : P := by rw [hg]; exact Nat.ne_of_gt (blk_lt (g := gb106) (o := .cells #[.int .i64 t102, .slice Ao11 t103.length co11] 68 (0, 0)) yq130)) : P := h
theorem yq144 {P : Prop} (h : P := by refine (Kd.R_reads' (e := 148) (base := w.heap.size) (ok := fun k_ => (True ∧ some k_ ≠ (.slice Ao17 t109.length co17 : Value).ownBlock)) (n := t103.length) (c := co11) ?_).2.2; exact yq132) : P := h
theorem yq145 {P : Prop} (h : P := by (with_reducible repeat (first | apply Kd.R_alloc | apply Kd.R_drewN | apply Kd.R_drew)); exact HO105.out) : P := h
theorem yq146 {P : Prop} (h : P := by repeat (first | exact (Kd.R_reads' HO105.out).2.2 | (with_reducible refine Kd.C_alloc ?_ _) | (with_reducible refine Kd.C_drewN ?_ _) | (with_reducible refine Kd.C_drew ?_))) : P := h
theorem yq147 {P : Prop} (h : P := by (with_reducible repeat (first | refine qe ?_ _ | refine qg ?_ | refine qf ?_ _)); refine blk_far ?_ NB113_127.out _; (with_reducible repeat (first | refine qe ?_ _ | refine qg ?_ | refine qf ?_ _)); refine blk_far ?_ NB113_127.out _; (with_reducible repeat (first | refine qe ?_ _ | refine qg ?_ | refine qf ?_ _)); exact BK113.out) : P := h
theorem yq148 {P : Prop} (h : P := by (with_reducible repeat (first | refine qe ?_ _ | refine qg ?_ | refine qf ?_ _)); refine blk_far ?_ NB106_127.out _; (with_reducible repeat (first | refine qe ?_ _ | refine qg ?_ | refine qf ?_ _)); refine blk_far ?_ NB106_127.out _; (with_reducible repeat (first | refine qe ?_ _ | refine qg ?_ | refine qf ?_ _)); exact BK106.out) : P := h
theorem yq149 {P : Prop} (h : P := by rw [hg]; exact Nat.ne_of_lt (blk_lt (g := gb113) (o := .cells #[.int .i64 t108, .slice Ao17 t109.length co17] 68 (0, 0)) yq131)) : P := h
theorem yq150 {P : Prop} (h : P := by rw [hg]; exact Nat.ne_of_gt (blk_lt (g := gb113) (o := .cells #[.int .i64 t108, .slice Ao17 t109.length co17] 68 (0, 0)) yq131)) : P := h
theorem yq151 {P : Prop} (h : P := by (with_reducible repeat (first | apply Kd.R_alloc | apply Kd.R_drewN | apply Kd.R_drew)); exact HO125.out) : P := h
theorem yq152 {P : Prop} (h : P := by repeat (first | (with_reducible first | exact HB.out | apply qc | apply qa | apply qb | refine qd ?_ GE106.out) | exact HB.out)) : P := h
theorem yq153 {P : Prop} (h : P := by (try simp only [List.map_toArray, List.map_cons, List.map_nil]); first | done | rfl) : P := h
theorem yq154 {P : Prop} (h : P := by (with_reducible repeat (first | apply Kd.R_alloc | apply Kd.R_drewN | apply Kd.R_drew)); exact HO111.out) : P := h
theorem yq155 {P : Prop} (h : P := by first | rfl | (simp; done) | (simp [*]; done)) : P := h
theorem yq156 {P : Prop} (h : P := by repeat (first | exact (Kd.R_reads' HO119.out).2.2 | (with_reducible refine Kd.C_alloc ?_ _) | (with_reducible refine Kd.C_drewN ?_ _) | (with_reducible refine Kd.C_drew ?_))) : P := h
theorem yq157 {P : Prop} (h : P := by repeat (first | exact (Kd.C_below HR0.out HB.out) | (with_reducible refine Kd.C_alloc ?_ _) | (with_reducible refine Kd.C_drewN ?_ _) | (with_reducible refine Kd.C_drew ?_))) : P := h
theorem yq158 {P : Prop} (h : P := by (with_reducible repeat (first | apply Kd.R_alloc | apply Kd.R_drewN | apply Kd.R_drew)); exact (Kd.R_mono (Kd.R_far (p := ⟨gb127, 1, none⟩) (Kd.R_far (p := ⟨gb127, 0, none⟩) (Kd.R_types HO_114001.out BK127.out (by decide)) (fun _ hk => hk.2) (.int .i64 t122)) (fun _ hk => hk.2) (.slice Ao122 t123.length co122)) (fun _ h_ => h_.1))) : P := h
theorem yq159 {P : Prop} (h : P := by (with_reducible repeat (first | apply Kd.R_alloc | apply Kd.R_drewN | apply Kd.R_drew)); exact (Kd.R_mono (Kd.R_far (p := ⟨gb127, 1, none⟩) (Kd.R_far (p := ⟨gb127, 0, none⟩) (Kd.R_types HO_114001.out BK127.out (by decide)) (fun _ hk => hk.2) (.int .i64 t122)) (fun _ hk => hk.2) (.slice Ao108 t123.length co108)) (fun _ h_ => h_.1))) : P := h
theorem yq160 {P : Prop} (h : P := by (with_reducible repeat (first | apply Kd.R_alloc | apply Kd.R_drewN | apply Kd.R_drew)); exact (Kd.R_mono (Kd.R_far (p := ⟨gb127, 1, none⟩) (Kd.R_far (p := ⟨gb127, 0, none⟩) (Kd.R_types HO_107001.out BK127.out (by decide)) (fun _ hk => hk.2) (.int .i64 t122)) (fun _ hk => hk.2) (.slice Ao122 t123.length co122)) (fun _ h_ => h_.1))) : P := h
theorem yq161 {P : Prop} (h : P := by (with_reducible repeat (first | apply Kd.R_alloc | apply Kd.R_drewN | apply Kd.R_drew)); exact (Kd.R_mono (Kd.R_far (p := ⟨gb127, 1, none⟩) (Kd.R_far (p := ⟨gb127, 0, none⟩) (Kd.R_types HO_107001.out BK127.out (by decide)) (fun _ hk => hk.2) (.int .i64 t122)) (fun _ hk => hk.2) (.slice Ao108 t123.length co108)) (fun _ h_ => h_.1))) : P := h
theorem yq162 {P : Prop} (h : P := by (with_reducible repeat (first | apply Kd.R_alloc | apply Kd.R_drewN | apply Kd.R_drew)); exact (Kd.R_mono (Kd.R_far (p := ⟨gb127, 1, none⟩) (Kd.R_far (p := ⟨gb127, 0, none⟩) (Kd.R_types HO_114001.out BK127.out (by decide)) (fun _ hk => hk.2) (.int .i64 t122)) (fun _ hk => hk.2) (.slice Ao92 t123.length co92)) (fun _ h_ => h_.1))) : P := h
theorem yq163 {P : Prop} (h : P := by (with_reducible repeat (first | apply Kd.R_alloc | apply Kd.R_drewN | apply Kd.R_drew)); exact (Kd.R_mono (Kd.R_far (p := ⟨gb127, 1, none⟩) (Kd.R_far (p := ⟨gb127, 0, none⟩) (Kd.R_types HO_107001.out BK127.out (by decide)) (fun _ hk => hk.2) (.int .i64 t122)) (fun _ hk => hk.2) (.slice Ao92 t123.length co92)) (fun _ h_ => h_.1))) : P := h
theorem yq164 {P : Prop} (h : P := by (with_reducible repeat (first | apply Kd.R_alloc | apply Kd.R_drewN | apply Kd.R_drew)); exact (Kd.R_mono (Kd.R_far (p := ⟨gb127, 1, none⟩) (Kd.R_far (p := ⟨gb127, 0, none⟩) (Kd.R_types HO125.out BK127.out (by decide)) (fun _ hk => hk.2) (.int .i64 t122)) (fun _ hk => hk.2) (.slice Ao122 t123.length co122)) (fun _ h_ => h_.1))) : P := h
theorem yq165 {P : Prop} (h : P := by (with_reducible repeat (first | apply Kd.R_alloc | apply Kd.R_drewN | apply Kd.R_drew)); exact (Kd.R_mono (Kd.R_far (p := ⟨gb127, 1, none⟩) (Kd.R_far (p := ⟨gb127, 0, none⟩) (Kd.R_types HO125.out BK127.out (by decide)) (fun _ hk => hk.2) (.int .i64 t122)) (fun _ hk => hk.2) (.slice Ao108 t123.length co108)) (fun _ h_ => h_.1))) : P := h
theorem yq166 {P : Prop} (h : P := by (with_reducible repeat (first | apply Kd.R_alloc | apply Kd.R_drewN | apply Kd.R_drew)); exact (Kd.R_mono (Kd.R_far (p := ⟨gb133, 1, none⟩) (Kd.R_far (p := ⟨gb133, 0, none⟩) (Kd.R_types HO125.out BK133.out (by decide)) (fun _ hk => hk.2) (.int .i64 t128)) (fun _ hk => hk.2) (.slice Ao99 t129.length co99)) (fun _ h_ => h_.1))) : P := h
theorem yq167 {P : Prop} (h : P := by (with_reducible repeat (first | apply Kd.R_alloc | apply Kd.R_drewN | apply Kd.R_drew)); exact (Kd.R_mono (Kd.R_far (p := ⟨gb127, 1, none⟩) (Kd.R_far (p := ⟨gb127, 0, none⟩) (Kd.R_types HO125.out BK127.out (by decide)) (fun _ hk => hk.2) (.int .i64 t122)) (fun _ hk => hk.2) (.slice Ao92 t123.length co92)) (fun _ h_ => h_.1))) : P := h
theorem yq168 {P : Prop} (h : P := by (with_reducible repeat (first | apply Kd.R_alloc | apply Kd.R_drewN | apply Kd.R_drew)); exact (Kd.R_mono (Kd.R_far (p := ⟨gb106, 1, none⟩) (Kd.R_far (p := ⟨gb106, 0, none⟩) (Kd.R_types HO105.out BK106.out (by decide)) (fun _ hk => hk.2) (.int .i64 t102)) (fun _ hk => hk.2) (.slice Ao11 t103.length co11)) (fun _ h_ => h_.1))) : P := h
theorem yq169 {P : Prop} (h : P := by repeat (first | exact HR0.out | (with_reducible refine Kd.C_alloc ?_ _) | (with_reducible refine Kd.C_drewN ?_ _) | (with_reducible refine Kd.C_drew ?_))) : P := h
theorem yq170 {P : Prop} (h : P := by repeat (first | (with_reducible first | exact HB.out | apply qc | apply qa | apply qb) | exact HB.out)) : P := h
theorem yq171 {P : Prop} (h : P := by first | (go_simp; done) | (go_simp; rfl)) : P := h
mutual
def laws_FnBatches.j0 : Nat → List Int → ByteArray → Bool → Bool → Int → List (S148) → Option (Bool)
 | 0, _, _, _, _, _, _ => none
 | k + 1, x0, x4, x6, x51, x107000, x107001 => if x51 = true then (some false) else ((impl_BatchEntries.f k x107000 x107001).bind fun t117 => (if x6 = true then (if (t117.length : Int) = (x107001.length : Int) then ((impl_EntriesOk.f k t117).bind fun t120 => (if t120 = true then (if (x4.size : Int) > 8000 then (laws_FnBatches.j1 k x0 true) else (laws_FnBatches.j1 k x0 false)) else (laws_FnBatches.j1 k x0 true))) else (laws_FnBatches.j1 k x0 true)) else (laws_FnBatches.j1 k x0 (decide ((t117.length : Int) > 0)))))
def laws_FnBatches.j1 : Nat → List Int → Bool → Option (Bool)
 | 0, _, _ => none
 | k + 1, x0, x81 => if x81 = true then (some false) else ((spec_DrawReadBatch.f k x0).bind fun t121 => ((impl_ReadBatch.f k t121).bind fun bt122 => ((spec_ReadBatch.f k t121).bind fun bt128 => (if (bt122.2.2 == bt128.2.2) = true then (if bt122.2.2 = true then ((impl_BatchText.f k bt122.1 bt122.2.1).bind fun t134 => (some (t134.toList == t121.toList))) else (some true)) else (some false)))))
end
def laws_FnBatches.f (k : Nat) (l0 : List Int) : Option (Bool) := (laws_big.f l0).bind fun t101 => (if t101 = true then (some true) else ((spec_DrawBatchText.f k l0).bind fun bt102 => ((impl_BatchText.f k bt102.1 bt102.2).bind fun t107 => ((impl_ReadBatch.f k t107).bind fun bt108 => ((spec_BatchText.f k bt102.1 bt102.2).bind fun t114 => (if t107.toList = t114.toList then ((impl_BatchOk.f k bt102.1 bt102.2).bind fun t115 => (if (bt108.2.2 != t115) = true then (laws_FnBatches.j0 k l0 t107 bt108.2.2 true bt102.1 bt102.2) else (if bt108.2.2 = true then (if bt108.1 = bt102.1 then ((laws_sameOps.f k bt108.2.1 bt102.2).bind fun t116 => (laws_FnBatches.j0 k l0 t107 bt108.2.2 (!t116) bt102.1 bt102.2)) else (laws_FnBatches.j0 k l0 t107 bt108.2.2 true bt102.1 bt102.2)) else (laws_FnBatches.j0 k l0 t107 bt108.2.2 false bt102.1 bt102.2)))) else (laws_FnBatches.j0 k l0 t107 bt108.2.2 true bt102.1 bt102.2)))))))
set_option maxHeartbeats 8000000 in
set_option maxRecDepth 100000 in
theorem laws_FnBatches.calls (k : Nat) (A0 : Option Addr) (c0 : Nat) (l0 : List Int) (r : Bool) (w : World) (hr0 : Kd.C (Kd.int .u8) w A0 l0.length l0) (hc0 : l0.length ≤ c0) (h : laws_FnBatches.f k l0 = some r) :
  Calls Try.prog 11 #[.slice A0 l0.length c0] w fun e w' => e = .returned (.bool r) ∧ Below w.heap.size w w' := by
 have hu68 := Try.underlying68
 have HR0 := Qz.mk hr0
 have HC0 := Qz.mk hc0
 clear hr0 hc0
 have HB := Qz.mk (Below.refl w.heap.size w)
 have H : ((laws_big.f l0).bind fun t101 => (if t101 = true then (some true) else ((spec_DrawBatchText.f k l0).bind fun bt102 => ((impl_BatchText.f k bt102.1 bt102.2).bind fun t107 => ((impl_ReadBatch.f k t107).bind fun bt108 => ((spec_BatchText.f k bt102.1 bt102.2).bind fun t114 => (if t107.toList = t114.toList then ((impl_BatchOk.f k bt102.1 bt102.2).bind fun t115 => (if (bt108.2.2 != t115) = true then (laws_FnBatches.j0 k l0 t107 bt108.2.2 true bt102.1 bt102.2) else (if bt108.2.2 = true then (if bt108.1 = bt102.1 then ((laws_sameOps.f k bt108.2.1 bt102.2).bind fun t116 => (laws_FnBatches.j0 k l0 t107 bt108.2.2 (!t116) bt102.1 bt102.2)) else (laws_FnBatches.j0 k l0 t107 bt108.2.2 true bt102.1 bt102.2)) else (laws_FnBatches.j0 k l0 t107 bt108.2.2 false bt102.1 bt102.2)))) else (laws_FnBatches.j0 k l0 t107 bt108.2.2 true bt102.1 bt102.2)))))))) = some r := h
 clear h
 replace H := Option.bind_eq_some_iff.mp H
 obtain ⟨t101, A20, H⟩ := H
 replace H : (if t101 = true then (some true) else ((spec_DrawBatchText.f k l0).bind fun bt102 => ((impl_BatchText.f k bt102.1 bt102.2).bind fun t107 => ((impl_ReadBatch.f k t107).bind fun bt108 => ((spec_BatchText.f k bt102.1 bt102.2).bind fun t114 => (if t107.toList = t114.toList then ((impl_BatchOk.f k bt102.1 bt102.2).bind fun t115 => (if (bt108.2.2 != t115) = true then (laws_FnBatches.j0 k l0 t107 bt108.2.2 true bt102.1 bt102.2) else (if bt108.2.2 = true then (if bt108.1 = bt102.1 then ((laws_sameOps.f k bt108.2.1 bt102.2).bind fun t116 => (laws_FnBatches.j0 k l0 t107 bt108.2.2 (!t116) bt102.1 bt102.2)) else (laws_FnBatches.j0 k l0 t107 bt108.2.2 true bt102.1 bt102.2)) else (laws_FnBatches.j0 k l0 t107 bt108.2.2 false bt102.1 bt102.2)))) else (laws_FnBatches.j0 k l0 t107 bt108.2.2 true bt102.1 bt102.2))))))) = some r := H
 have A2 := Qz.mk A20
 clear A20
 by_cases c3 : t101 = true
 ·subst c3
  have H1 : (some true) = some r := by rw [if_pos rfl] at H; exact H
  clear H
  have H := H1
  clear H1
  obtain rfl := Option.some.inj H
  go_enter Try.func11, Try.ntmps11
  go_wp2_with (first | ((with_reducible refine ql (f := 28) rfl ?_); refine qy (some 14) rfl rfl Try.func28 (by kernel_rfl) rfl #[.slice A0 l0.length c0] rfl yq133 ?_; (with_reducible refine (laws_big.calls _ _ l0 true _ ?side1 ?side2 A2.out).mono ?_); (case side1 => exact yq169); (case side2 => exact HC0.out); rintro e w' ⟨rfl, ⟨nd, rfl⟩⟩; refine ⟨_, rfl, ?_⟩))
  go_ret
  exact ⟨by first | rfl | (simp [qo, qn] <;> rfl) | (simp [*, qo, qn] <;> rfl), by repeat (first | (with_reducible first | exact HB.out | apply qc | apply qa | apply qb) | exact HB.out)⟩
 ·replace c3 := Bool.eq_false_iff.mpr c3
  subst c3
  have H1 : ((spec_DrawBatchText.f k l0).bind fun bt102 => ((impl_BatchText.f k bt102.1 bt102.2).bind fun t107 => ((impl_ReadBatch.f k t107).bind fun bt108 => ((spec_BatchText.f k bt102.1 bt102.2).bind fun t114 => (if t107.toList = t114.toList then ((impl_BatchOk.f k bt102.1 bt102.2).bind fun t115 => (if (bt108.2.2 != t115) = true then (laws_FnBatches.j0 k l0 t107 bt108.2.2 true bt102.1 bt102.2) else (if bt108.2.2 = true then (if bt108.1 = bt102.1 then ((laws_sameOps.f k bt108.2.1 bt102.2).bind fun t116 => (laws_FnBatches.j0 k l0 t107 bt108.2.2 (!t116) bt102.1 bt102.2)) else (laws_FnBatches.j0 k l0 t107 bt108.2.2 true bt102.1 bt102.2)) else (laws_FnBatches.j0 k l0 t107 bt108.2.2 false bt102.1 bt102.2)))) else (laws_FnBatches.j0 k l0 t107 bt108.2.2 true bt102.1 bt102.2)))))) = some r := by rw [if_neg (show ¬ (false = true) by decide)] at H; exact H
  clear H
  have H := H1
  clear H1
  replace H := Option.bind_eq_some_iff.mp H
  obtain ⟨⟨t102, t103⟩, A40, H⟩ := H
  replace H : ((impl_BatchText.f k t102 t103).bind fun t107 => ((impl_ReadBatch.f k t107).bind fun bt108 => ((spec_BatchText.f k t102 t103).bind fun t114 => (if t107.toList = t114.toList then ((impl_BatchOk.f k t102 t103).bind fun t115 => (if (bt108.2.2 != t115) = true then (laws_FnBatches.j0 k l0 t107 bt108.2.2 true t102 t103) else (if bt108.2.2 = true then (if bt108.1 = t102 then ((laws_sameOps.f k bt108.2.1 t103).bind fun t116 => (laws_FnBatches.j0 k l0 t107 bt108.2.2 (!t116) t102 t103)) else (laws_FnBatches.j0 k l0 t107 bt108.2.2 true t102 t103)) else (laws_FnBatches.j0 k l0 t107 bt108.2.2 false t102 t103)))) else (laws_FnBatches.j0 k l0 t107 bt108.2.2 true t102 t103))))) = some r := H
  have A4 := Qz.mk A40
  clear A40
  replace H := Option.bind_eq_some_iff.mp H
  obtain ⟨t107, A50, H⟩ := H
  replace H : ((impl_ReadBatch.f k t107).bind fun bt108 => ((spec_BatchText.f k t102 t103).bind fun t114 => (if t107.toList = t114.toList then ((impl_BatchOk.f k t102 t103).bind fun t115 => (if (bt108.2.2 != t115) = true then (laws_FnBatches.j0 k l0 t107 bt108.2.2 true t102 t103) else (if bt108.2.2 = true then (if bt108.1 = t102 then ((laws_sameOps.f k bt108.2.1 t103).bind fun t116 => (laws_FnBatches.j0 k l0 t107 bt108.2.2 (!t116) t102 t103)) else (laws_FnBatches.j0 k l0 t107 bt108.2.2 true t102 t103)) else (laws_FnBatches.j0 k l0 t107 bt108.2.2 false t102 t103)))) else (laws_FnBatches.j0 k l0 t107 bt108.2.2 true t102 t103)))) = some r := H
  have A5 := Qz.mk A50
  clear A50
  replace H := Option.bind_eq_some_iff.mp H
  obtain ⟨⟨t108, t109, t112⟩, A60, H⟩ := H
  replace H : ((spec_BatchText.f k t102 t103).bind fun t114 => (if t107.toList = t114.toList then ((impl_BatchOk.f k t102 t103).bind fun t115 => (if (t112 != t115) = true then (laws_FnBatches.j0 k l0 t107 t112 true t102 t103) else (if t112 = true then (if t108 = t102 then ((laws_sameOps.f k t109 t103).bind fun t116 => (laws_FnBatches.j0 k l0 t107 t112 (!t116) t102 t103)) else (laws_FnBatches.j0 k l0 t107 t112 true t102 t103)) else (laws_FnBatches.j0 k l0 t107 t112 false t102 t103)))) else (laws_FnBatches.j0 k l0 t107 t112 true t102 t103))) = some r := H
  have A6 := Qz.mk A60
  clear A60
  have HC7 := Qz.mk H
  clear H
  go_enter Try.func11, Try.ntmps11
  go_upto_region 6 with (first | ((with_reducible refine ql (f := 28) rfl ?_); refine qy (some 14) rfl rfl Try.func28 (by kernel_rfl) rfl #[.slice A0 l0.length c0] rfl yq133 ?_; (with_reducible refine (laws_big.calls _ _ l0 false _ ?side1 ?side2 A2.out).mono ?_); (case side1 => exact yq169); (case side2 => exact HC0.out); rintro e w' ⟨rfl, ⟨nd, rfl⟩⟩; refine ⟨_, rfl, ?_⟩) | ((with_reducible refine ql (f := 44) rfl ?_); refine qy (some 16) rfl rfl Try.func44 (by kernel_rfl) rfl #[.slice A0 l0.length c0] rfl yq133 ?_; (with_reducible refine (spec_DrawBatchText.calls k _ _ l0 t102 t103 _ ?side1 ?side2 A4.out).mono ?_); (case side1 => exact yq169); (case side2 => exact HC0.out); rintro e w8 ⟨v104, rfl, ho0, hb⟩; refine ⟨_, rfl, ?_⟩; have HO105 := Qz.mk (Kd.R_lower ho0 (qr yq170)); replace HB := Qz.mk (qm yq170 hb); (try clear hb); (try clear hk); (try clear ho0)) | ((with_reducible refine qg1 (N := 3) rfl ?_); (try (refine gate_guard (by rfl) ?_; dsimp only)); refine qf1 ?hg (N := 3) ?hd (cs := #[.int .i64 0, .slice none 0 0]) (t := 68) ?hr ?_; (case hd => rfl); (case hg => rfl); (case hr => exact yq171); intro gb106 hg w9 hbox hb; replace HO105 := Qz.mk (Kd.R_below yq145 hb); have BK106 := Qz.mk (hbox); have GW106 := Qz.mk ((by rw [hg]; exact (qr yq170) : w.heap.size ≤ gb106)); have GE106 := GW106; replace HB := Qz.mk (qm yq170 hb); clear hb hbox hg; have hcz10_0 : w9.cell? ⟨gb106, 0, none⟩ = some (.int .i64 0) := (qh BK106.out 0).trans rfl; have hcz10_1 : w9.cell? ⟨gb106, 1, none⟩ = some (.slice none 0 0) := (qh BK106.out 1).trans rfl; have hfz10_0 := qi BK106.out 0; have hfz10_1 := qi BK106.out 1; obtain ⟨Ao11, co11, eo11⟩ := Kd.R_slice HO105.out; subst eo11) | ((with_reducible refine ql (f := 45) rfl ?_); refine qy (some 18) rfl rfl Try.func45 (by kernel_rfl) rfl #[.agg #[.int .i64 t102, .slice Ao11 t103.length co11]] rfl yq133 ?_; (with_reducible refine (impl_BatchText.calls k t102 _ _ t103 t107 _ ?side1 ?side2 A5.out).mono ?_); (case side1 => refine (Kd.R_reads' (e := 148) (base := w.heap.size) (ok := fun k_ => True) (n := t103.length) (c := co11) ?_).2.2; exact yq168); (case side2 => exact (Kd.R_reads' HO105.out).2.1); rintro e w12 ⟨rfl, hb⟩; refine ⟨_, rfl, ?_⟩; replace HO105 := Qz.mk (Kd.R_below yq168 hb); replace BK106 := Qz.mk (qp (g := gb106) (o := .cells #[.int .i64 t102, .slice Ao11 t103.length co11] 68 (0, 0)) (by (with_reducible repeat (first | refine qe ?_ _ | refine qg ?_ | refine qf ?_ _)); refine qz (cs := #[.int .i64 t102, .slice none 0 0]) ?_ 1 _ rfl; (with_reducible repeat (first | refine qe ?_ _ | refine qg ?_ | refine qf ?_ _)); refine qz (cs := #[.int .i64 0, .slice none 0 0]) ?_ 0 _ rfl; (with_reducible repeat (first | refine qe ?_ _ | refine qg ?_ | refine qf ?_ _)); exact BK106.out) hb); replace HB := Qz.mk (qm yq152 hb); (try clear hb); (try clear hk)) | ((with_reducible refine ql (f := 46) rfl ?_); refine qy (some 21) rfl rfl Try.func46 (by kernel_rfl) rfl #[.string t107] rfl yq153 ?_; (with_reducible refine (impl_ReadBatch.calls k t107 t108 t109 t112 _ A6.out).mono ?_); rintro e w13 ⟨v110, rfl, ho0, hb⟩; refine ⟨_, rfl, ?_⟩; have HO111 := Qz.mk (Kd.R_lower (Kd.R_new' ho0 (Kd.R_lt yq145)) (qr yq152)); replace HO105 := Qz.mk (Kd.R_elder' yq145 (Kd.R_base ho0) hb); replace BK106 := Qz.mk (qp (g := gb106) (o := .cells #[.int .i64 t102, .slice Ao11 t103.length co11] 68 (0, 0)) yq130 hb); replace HB := Qz.mk (qm yq152 hb); (try clear hb); (try clear hk); (try clear ho0)) | ((with_reducible refine qg1 (N := 5) rfl ?_); (try (refine gate_guard (by rfl) ?_; dsimp only)); refine qf1 ?hg (N := 5) ?hd (cs := #[.int .i64 0, .slice none 0 0]) (t := 68) ?hr ?_; (case hd => rfl); (case hg => rfl); (case hr => exact yq171); intro gb113 hg w14 hbox hb; replace HO105 := Qz.mk (Kd.R_below yq145 hb); replace HO111 := Qz.mk (Kd.R_below yq154 hb); have BK113 := Qz.mk (hbox); have GW113 := Qz.mk ((by rw [hg]; exact (qr yq152) : w.heap.size ≤ gb113)); have GE113 := GW113; replace HB := Qz.mk (qm yq152 hb); have NB106_113 := Qz.mk ((yq142 : gb106 ≠ gb113)); have NB113_106 := Qz.mk ((yq143 : gb113 ≠ gb106)); replace BK106 := Qz.mk (qp (g := gb106) (o := .cells #[.int .i64 t102, .slice Ao11 t103.length co11] 68 (0, 0)) yq130 hb); clear hb hbox hg; have hnb15 := NB113_106.out; have hnc15 := NB106_113.out; have hcz16_0 : w14.cell? ⟨gb113, 0, none⟩ = some (.int .i64 0) := (qh BK113.out 0).trans rfl; have hcz16_1 : w14.cell? ⟨gb113, 1, none⟩ = some (.slice none 0 0) := (qh BK113.out 1).trans rfl; have hfz16_0 := qi BK113.out 0; have hfz16_1 := qi BK113.out 1; obtain ⟨Ao17, co17, eo17⟩ := Kd.R_slice HO111.out; subst eo17))
  (try simp only [Act.put, sq1, sq2, sq3])
  go_cut [51] (fun v51 wc => ∃ (kq : Nat) (x51_6 : Bool), v51 = .bool x51_6 ∧ Qz (laws_FnBatches.j0 kq l0 t107 t112 x51_6 t102 t103 = some r) ∧ Qz (kq ≤ k) ∧ Qz (Kd.R k148 148 wc w.heap.size (fun k_ => some k_ ≠ ((.slice Ao17 t109.length co17) : Value).ownBlock) (.slice Ao11 t103.length co11) t103) ∧ Qz (Kd.R k148 148 wc w.heap.size (fun k_ => some k_ ≠ ((.slice Ao11 t103.length co11) : Value).ownBlock) (.slice Ao17 t109.length co17) t109) ∧ Qz (wc.heap[gb106]? = some (.cells #[.int .i64 t102, (.slice Ao11 t103.length co11)] 68 (0, 0))) ∧ Qz (wc.heap[gb113]? = some (.cells #[.int .i64 t108, (.slice Ao17 t109.length co17)] 68 (0, 0))) ∧ Qz (Below w.heap.size w wc))
  case first =>
   have H := HC7.out
   clear HC7
   replace H := Option.bind_eq_some_iff.mp H
   obtain ⟨t114, A180, H⟩ := H
   replace H : (if t107.toList = t114.toList then ((impl_BatchOk.f k t102 t103).bind fun t115 => (if (t112 != t115) = true then (laws_FnBatches.j0 k l0 t107 t112 true t102 t103) else (if t112 = true then (if t108 = t102 then ((laws_sameOps.f k t109 t103).bind fun t116 => (laws_FnBatches.j0 k l0 t107 t112 (!t116) t102 t103)) else (laws_FnBatches.j0 k l0 t107 t112 true t102 t103)) else (laws_FnBatches.j0 k l0 t107 t112 false t102 t103)))) else (laws_FnBatches.j0 k l0 t107 t112 true t102 t103)) = some r := H
   have A18 := Qz.mk A180
   clear A180
   by_cases c19 : t107.toList = t114.toList
   ·rw [if_pos c19] at H
    have c19b0 : (t107.toList == t114.toList) = true := beq_iff_eq.mpr c19
    have c19b1 : (t107.toList != t114.toList) = false := bne_eq_false_iff_eq.mpr c19
    clear c19
    (first | rw [c19b0] | (simp only [i64_w, i32_w]; rw [c19b0]) | skip)
    replace H := Option.bind_eq_some_iff.mp H
    obtain ⟨t115, A200, H⟩ := H
    replace H : (if (t112 != t115) = true then (laws_FnBatches.j0 k l0 t107 t112 true t102 t103) else (if t112 = true then (if t108 = t102 then ((laws_sameOps.f k t109 t103).bind fun t116 => (laws_FnBatches.j0 k l0 t107 t112 (!t116) t102 t103)) else (laws_FnBatches.j0 k l0 t107 t112 true t102 t103)) else (laws_FnBatches.j0 k l0 t107 t112 false t102 t103))) = some r := H
    have A20 := Qz.mk A200
    clear A200
    by_cases c21 : (t112 != t115) = true
    ·rw [if_pos c21] at H
     have c21b0 : (t112 != t115) = true := c21
     (try (have c21b1 : decide (t112 = t115) = false := by simpa using c21))
     (try (have c21b2 : (t112 == t115) = false := by simpa using c21))
     (try (have c21b3 : ¬ (t112 = t115) := by simpa using c21))
     clear c21
     have H' := Qz.mk H
     clear H
     have hnb22 := NB106_113.out
     have hnc22 := NB113_106.out
     have hcz23_0 : w14.cell? ⟨gb106, 0, none⟩ = some (.int .i64 t102) := (qh BK106.out 0).trans rfl
     have hcz23_1 : w14.cell? ⟨gb106, 1, none⟩ = some (.slice Ao11 t103.length co11) := (qh BK106.out 1).trans rfl
     have hfz23_0 := qi BK106.out 0
     have hfz23_1 := qi BK106.out 1
     go_wp2_with (first | ((with_reducible refine ql (f := 47) rfl ?_); refine qy (some 26) rfl rfl Try.func47 (by kernel_rfl) rfl #[.agg #[.int .i64 t102, .slice Ao11 t103.length co11]] rfl yq133 ?_; (with_reducible refine (spec_BatchText.calls k t102 _ _ t103 t114 _ ?side1 ?side2 A18.out).mono ?_); (case side1 => exact yq144); (case side2 => exact (Kd.R_reads' HO105.out).2.1); rintro e w24 ⟨rfl, hb⟩; refine ⟨_, rfl, ?_⟩; replace HO105 := Qz.mk (Kd.R_below yq132 hb); replace HO111 := Qz.mk (Kd.R_below yq139 hb); replace BK106 := Qz.mk (qp (g := gb106) (o := .cells #[.int .i64 t102, .slice Ao11 t103.length co11] 68 (0, 0)) yq138 hb); replace BK113 := Qz.mk (qp (g := gb113) (o := .cells #[.int .i64 t108, .slice Ao17 t109.length co17] 68 (0, 0)) yq137 hb); replace HB := Qz.mk (qm yq129 hb); (try clear hb); (try clear hk); have hcz25_0 : w24.cell? ⟨gb106, 0, none⟩ = some (.int .i64 t102) := (qh BK106.out 0).trans rfl; have hcz25_1 : w24.cell? ⟨gb106, 1, none⟩ = some (.slice Ao11 t103.length co11) := (qh BK106.out 1).trans rfl; have hfz25_0 := qi BK106.out 0; have hfz25_1 := qi BK106.out 1) | (go_at_call 48; (with_reducible refine (impl_BatchOk.calls k t102 _ _ t103 t115 _ ?side1 ?side2 A20.out).mono ?_); (case side1 => exact yq146); (case side2 => exact (Kd.R_reads' HO105.out).2.1); rintro e w26 ⟨rfl, hb⟩; replace HO105 := Qz.mk (Kd.R_below yq145 hb); replace HO111 := Qz.mk (Kd.R_below yq154 hb); replace BK106 := Qz.mk (qp (g := gb106) (o := .cells #[.int .i64 t102, .slice Ao11 t103.length co11] 68 (0, 0)) yq130 hb); replace BK113 := Qz.mk (qp (g := gb113) (o := .cells #[.int .i64 t108, .slice Ao17 t109.length co17] 68 (0, 0)) yq131 hb); replace HB := Qz.mk (qm yq129 hb); (try clear hb); (try clear hk)))
     go_meet
     case rel => exact ⟨_, (true), yq155, H', ⟨by first | omega | exact Nat.le_refl _⟩, ⟨by (with_reducible repeat (first | apply Kd.R_alloc | apply Kd.R_drewN | apply Kd.R_drew)); exact Kd.R_mono HO105.out (fun _ hk => hk.2)⟩, ⟨by (with_reducible repeat (first | apply Kd.R_alloc | apply Kd.R_drewN | apply Kd.R_drew)); exact Kd.R_mono HO111.out (fun _ hk => hk.2)⟩, ⟨by (with_reducible repeat (first | refine qe ?_ _ | refine qg ?_ | refine qf ?_ _)); exact BK106.out⟩, ⟨by (with_reducible repeat (first | refine qe ?_ _ | refine qg ?_ | refine qf ?_ _)); exact BK113.out⟩, ⟨by repeat (first | (with_reducible first | exact HB.out | apply qc | apply qa | apply qb | refine qd ?_ GE106.out | refine qd ?_ GE113.out) | exact HB.out)⟩⟩
    ·rw [if_neg c21] at H
     have c21b0 : (t112 != t115) = false := by simpa using c21
     (try (have c21b1 : decide (t112 = t115) = true := by simpa using c21))
     (try (have c21b2 : (t112 == t115) = true := by simpa using c21))
     clear c21
     by_cases c27 : t112 = true
     ·subst c27
      have H1 : (if t108 = t102 then ((laws_sameOps.f k t109 t103).bind fun t116 => (laws_FnBatches.j0 k l0 t107 true (!t116) t102 t103)) else (laws_FnBatches.j0 k l0 t107 true true t102 t103)) = some r := by rw [if_pos rfl] at H; exact H
      clear H
      have H := H1
      clear H1
      by_cases c28 : t108 = t102
      ·rw [if_pos c28] at H
       have c28b0 : (t108 == t102) = true := beq_iff_eq.mpr c28
       have c28b1 : (t108 != t102) = false := bne_eq_false_iff_eq.mpr c28
       clear c28
       replace H := Option.bind_eq_some_iff.mp H
       obtain ⟨t116, A290, H⟩ := H
       replace H : (laws_FnBatches.j0 k l0 t107 true (!t116) t102 t103) = some r := H
       have A29 := Qz.mk A290
       clear A290
       have H' := Qz.mk H
       clear H
       have hnb30 := NB106_113.out
       have hnc30 := NB113_106.out
       have hcz31_0 : w14.cell? ⟨gb106, 0, none⟩ = some (.int .i64 t102) := (qh BK106.out 0).trans rfl
       have hcz31_1 : w14.cell? ⟨gb106, 1, none⟩ = some (.slice Ao11 t103.length co11) := (qh BK106.out 1).trans rfl
       have hfz31_0 := qi BK106.out 0
       have hfz31_1 := qi BK106.out 1
       go_wp2_with (first | ((with_reducible refine ql (f := 47) rfl ?_); refine qy (some 26) rfl rfl Try.func47 (by kernel_rfl) rfl #[.agg #[.int .i64 t102, .slice Ao11 t103.length co11]] rfl yq133 ?_; (with_reducible refine (spec_BatchText.calls k t102 _ _ t103 t114 _ ?side1 ?side2 A18.out).mono ?_); (case side1 => exact yq144); (case side2 => exact (Kd.R_reads' HO105.out).2.1); rintro e w32 ⟨rfl, hb⟩; refine ⟨_, rfl, ?_⟩; replace HO105 := Qz.mk (Kd.R_below yq132 hb); replace HO111 := Qz.mk (Kd.R_below yq139 hb); replace BK106 := Qz.mk (qp (g := gb106) (o := .cells #[.int .i64 t102, .slice Ao11 t103.length co11] 68 (0, 0)) yq138 hb); replace BK113 := Qz.mk (qp (g := gb113) (o := .cells #[.int .i64 t108, .slice Ao17 t109.length co17] 68 (0, 0)) yq137 hb); replace HB := Qz.mk (qm yq129 hb); (try clear hb); (try clear hk); have hcz33_0 : w32.cell? ⟨gb106, 0, none⟩ = some (.int .i64 t102) := (qh BK106.out 0).trans rfl; have hcz33_1 : w32.cell? ⟨gb106, 1, none⟩ = some (.slice Ao11 t103.length co11) := (qh BK106.out 1).trans rfl; have hfz33_0 := qi BK106.out 0; have hfz33_1 := qi BK106.out 1) | (go_at_call 48; (with_reducible refine (impl_BatchOk.calls k t102 _ _ t103 t115 _ ?side1 ?side2 A20.out).mono ?_); (case side1 => exact yq146); (case side2 => exact (Kd.R_reads' HO105.out).2.1); rintro e w34 ⟨rfl, hb⟩; replace HO105 := Qz.mk (Kd.R_below yq145 hb); replace HO111 := Qz.mk (Kd.R_below yq154 hb); replace BK106 := Qz.mk (qp (g := gb106) (o := .cells #[.int .i64 t102, .slice Ao11 t103.length co11] 68 (0, 0)) yq130 hb); replace BK113 := Qz.mk (qp (g := gb113) (o := .cells #[.int .i64 t108, .slice Ao17 t109.length co17] 68 (0, 0)) yq131 hb); replace HB := Qz.mk (qm yq129 hb); (try clear hb); (try clear hk); have hcz35_0 : w34.cell? ⟨gb113, 0, none⟩ = some (.int .i64 t108) := (qh BK113.out 0).trans rfl; have hcz35_1 : w34.cell? ⟨gb113, 1, none⟩ = some (.slice Ao17 t109.length co17) := (qh BK113.out 1).trans rfl; have hfz35_0 := qi BK113.out 0; have hfz35_1 := qi BK113.out 1; have hcz36_0 : w34.cell? ⟨gb106, 0, none⟩ = some (.int .i64 t102) := (qh BK106.out 0).trans rfl; have hcz36_1 : w34.cell? ⟨gb106, 1, none⟩ = some (.slice Ao11 t103.length co11) := (qh BK106.out 1).trans rfl; have hfz36_0 := qi BK106.out 0; have hfz36_1 := qi BK106.out 1) | (go_at_call 49; (with_reducible refine (laws_sameOps.calls k _ _ t109 _ _ t103 t116 _ ?side1 ?side2 ?side3 ?side4 A29.out).mono ?_); (case side1 => repeat (first | exact (Kd.R_reads' HO111.out).2.2 | (with_reducible refine Kd.C_alloc ?_ _) | (with_reducible refine Kd.C_drewN ?_ _) | (with_reducible refine Kd.C_drew ?_))); (case side2 => exact (Kd.R_reads' HO111.out).2.1); (case side3 => exact yq146); (case side4 => exact (Kd.R_reads' HO105.out).2.1); rintro e w' ⟨rfl, ⟨nd, rfl⟩⟩))
       go_meet
       case rel => exact ⟨_, (!t116), yq155, H', ⟨by first | omega | exact Nat.le_refl _⟩, ⟨by (with_reducible repeat (first | apply Kd.R_alloc | apply Kd.R_drewN | apply Kd.R_drew)); exact Kd.R_mono HO105.out (fun _ hk => hk.2)⟩, ⟨by (with_reducible repeat (first | apply Kd.R_alloc | apply Kd.R_drewN | apply Kd.R_drew)); exact Kd.R_mono HO111.out (fun _ hk => hk.2)⟩, ⟨by (with_reducible repeat (first | refine qe ?_ _ | refine qg ?_ | refine qf ?_ _)); exact BK106.out⟩, ⟨by (with_reducible repeat (first | refine qe ?_ _ | refine qg ?_ | refine qf ?_ _)); exact BK113.out⟩, ⟨by repeat (first | (with_reducible first | exact HB.out | apply qc | apply qa | apply qb | refine qd ?_ GE106.out | refine qd ?_ GE113.out) | exact HB.out)⟩⟩
      ·rw [if_neg c28] at H
       have c28b0 : (t108 == t102) = false := beq_eq_false_iff_ne.mpr c28
       have c28b1 : (t108 != t102) = true := bne_iff_ne.mpr c28
       have H' := Qz.mk H
       clear H
       have hnb37 := NB106_113.out
       have hnc37 := NB113_106.out
       have hcz38_0 : w14.cell? ⟨gb106, 0, none⟩ = some (.int .i64 t102) := (qh BK106.out 0).trans rfl
       have hcz38_1 : w14.cell? ⟨gb106, 1, none⟩ = some (.slice Ao11 t103.length co11) := (qh BK106.out 1).trans rfl
       have hfz38_0 := qi BK106.out 0
       have hfz38_1 := qi BK106.out 1
       go_wp2_with (first | ((with_reducible refine ql (f := 47) rfl ?_); refine qy (some 26) rfl rfl Try.func47 (by kernel_rfl) rfl #[.agg #[.int .i64 t102, .slice Ao11 t103.length co11]] rfl yq133 ?_; (with_reducible refine (spec_BatchText.calls k t102 _ _ t103 t114 _ ?side1 ?side2 A18.out).mono ?_); (case side1 => exact yq144); (case side2 => exact (Kd.R_reads' HO105.out).2.1); rintro e w39 ⟨rfl, hb⟩; refine ⟨_, rfl, ?_⟩; replace HO105 := Qz.mk (Kd.R_below yq132 hb); replace HO111 := Qz.mk (Kd.R_below yq139 hb); replace BK106 := Qz.mk (qp (g := gb106) (o := .cells #[.int .i64 t102, .slice Ao11 t103.length co11] 68 (0, 0)) yq138 hb); replace BK113 := Qz.mk (qp (g := gb113) (o := .cells #[.int .i64 t108, .slice Ao17 t109.length co17] 68 (0, 0)) yq137 hb); replace HB := Qz.mk (qm yq129 hb); (try clear hb); (try clear hk); have hcz40_0 : w39.cell? ⟨gb106, 0, none⟩ = some (.int .i64 t102) := (qh BK106.out 0).trans rfl; have hcz40_1 : w39.cell? ⟨gb106, 1, none⟩ = some (.slice Ao11 t103.length co11) := (qh BK106.out 1).trans rfl; have hfz40_0 := qi BK106.out 0; have hfz40_1 := qi BK106.out 1) | (go_at_call 48; (with_reducible refine (impl_BatchOk.calls k t102 _ _ t103 t115 _ ?side1 ?side2 A20.out).mono ?_); (case side1 => exact yq146); (case side2 => exact (Kd.R_reads' HO105.out).2.1); rintro e w41 ⟨rfl, hb⟩; replace HO105 := Qz.mk (Kd.R_below yq145 hb); replace HO111 := Qz.mk (Kd.R_below yq154 hb); replace BK106 := Qz.mk (qp (g := gb106) (o := .cells #[.int .i64 t102, .slice Ao11 t103.length co11] 68 (0, 0)) yq130 hb); replace BK113 := Qz.mk (qp (g := gb113) (o := .cells #[.int .i64 t108, .slice Ao17 t109.length co17] 68 (0, 0)) yq131 hb); replace HB := Qz.mk (qm yq129 hb); (try clear hb); (try clear hk); have hcz42_0 : w41.cell? ⟨gb113, 0, none⟩ = some (.int .i64 t108) := (qh BK113.out 0).trans rfl; have hcz42_1 : w41.cell? ⟨gb113, 1, none⟩ = some (.slice Ao17 t109.length co17) := (qh BK113.out 1).trans rfl; have hfz42_0 := qi BK113.out 0; have hfz42_1 := qi BK113.out 1; have hcz43_0 : w41.cell? ⟨gb106, 0, none⟩ = some (.int .i64 t102) := (qh BK106.out 0).trans rfl; have hcz43_1 : w41.cell? ⟨gb106, 1, none⟩ = some (.slice Ao11 t103.length co11) := (qh BK106.out 1).trans rfl; have hfz43_0 := qi BK106.out 0; have hfz43_1 := qi BK106.out 1))
       go_meet
       case rel => exact ⟨_, (true), yq155, H', ⟨by first | omega | exact Nat.le_refl _⟩, ⟨by (with_reducible repeat (first | apply Kd.R_alloc | apply Kd.R_drewN | apply Kd.R_drew)); exact Kd.R_mono HO105.out (fun _ hk => hk.2)⟩, ⟨by (with_reducible repeat (first | apply Kd.R_alloc | apply Kd.R_drewN | apply Kd.R_drew)); exact Kd.R_mono HO111.out (fun _ hk => hk.2)⟩, ⟨by (with_reducible repeat (first | refine qe ?_ _ | refine qg ?_ | refine qf ?_ _)); exact BK106.out⟩, ⟨by (with_reducible repeat (first | refine qe ?_ _ | refine qg ?_ | refine qf ?_ _)); exact BK113.out⟩, ⟨by repeat (first | (with_reducible first | exact HB.out | apply qc | apply qa | apply qb | refine qd ?_ GE106.out | refine qd ?_ GE113.out) | exact HB.out)⟩⟩
     ·replace c27 := Bool.eq_false_iff.mpr c27
      subst c27
      have H1 : (laws_FnBatches.j0 k l0 t107 false false t102 t103) = some r := by rw [if_neg (show ¬ (false = true) by decide)] at H; exact H
      clear H
      have H := H1
      clear H1
      have H' := Qz.mk H
      clear H
      have hnb44 := NB106_113.out
      have hnc44 := NB113_106.out
      have hcz45_0 : w14.cell? ⟨gb106, 0, none⟩ = some (.int .i64 t102) := (qh BK106.out 0).trans rfl
      have hcz45_1 : w14.cell? ⟨gb106, 1, none⟩ = some (.slice Ao11 t103.length co11) := (qh BK106.out 1).trans rfl
      have hfz45_0 := qi BK106.out 0
      have hfz45_1 := qi BK106.out 1
      go_wp2_with (first | ((with_reducible refine ql (f := 47) rfl ?_); refine qy (some 26) rfl rfl Try.func47 (by kernel_rfl) rfl #[.agg #[.int .i64 t102, .slice Ao11 t103.length co11]] rfl yq133 ?_; (with_reducible refine (spec_BatchText.calls k t102 _ _ t103 t114 _ ?side1 ?side2 A18.out).mono ?_); (case side1 => exact yq144); (case side2 => exact (Kd.R_reads' HO105.out).2.1); rintro e w46 ⟨rfl, hb⟩; refine ⟨_, rfl, ?_⟩; replace HO105 := Qz.mk (Kd.R_below yq132 hb); replace HO111 := Qz.mk (Kd.R_below yq139 hb); replace BK106 := Qz.mk (qp (g := gb106) (o := .cells #[.int .i64 t102, .slice Ao11 t103.length co11] 68 (0, 0)) yq138 hb); replace BK113 := Qz.mk (qp (g := gb113) (o := .cells #[.int .i64 t108, .slice Ao17 t109.length co17] 68 (0, 0)) yq137 hb); replace HB := Qz.mk (qm yq129 hb); (try clear hb); (try clear hk); have hcz47_0 : w46.cell? ⟨gb106, 0, none⟩ = some (.int .i64 t102) := (qh BK106.out 0).trans rfl; have hcz47_1 : w46.cell? ⟨gb106, 1, none⟩ = some (.slice Ao11 t103.length co11) := (qh BK106.out 1).trans rfl; have hfz47_0 := qi BK106.out 0; have hfz47_1 := qi BK106.out 1) | (go_at_call 48; (with_reducible refine (impl_BatchOk.calls k t102 _ _ t103 t115 _ ?side1 ?side2 A20.out).mono ?_); (case side1 => exact yq146); (case side2 => exact (Kd.R_reads' HO105.out).2.1); rintro e w48 ⟨rfl, hb⟩; replace HO105 := Qz.mk (Kd.R_below yq145 hb); replace HO111 := Qz.mk (Kd.R_below yq154 hb); replace BK106 := Qz.mk (qp (g := gb106) (o := .cells #[.int .i64 t102, .slice Ao11 t103.length co11] 68 (0, 0)) yq130 hb); replace BK113 := Qz.mk (qp (g := gb113) (o := .cells #[.int .i64 t108, .slice Ao17 t109.length co17] 68 (0, 0)) yq131 hb); replace HB := Qz.mk (qm yq129 hb); (try clear hb); (try clear hk)))
      go_meet
      case rel => exact ⟨_, (false), yq155, H', ⟨by first | omega | exact Nat.le_refl _⟩, ⟨by (with_reducible repeat (first | apply Kd.R_alloc | apply Kd.R_drewN | apply Kd.R_drew)); exact Kd.R_mono HO105.out (fun _ hk => hk.2)⟩, ⟨by (with_reducible repeat (first | apply Kd.R_alloc | apply Kd.R_drewN | apply Kd.R_drew)); exact Kd.R_mono HO111.out (fun _ hk => hk.2)⟩, ⟨by (with_reducible repeat (first | refine qe ?_ _ | refine qg ?_ | refine qf ?_ _)); exact BK106.out⟩, ⟨by (with_reducible repeat (first | refine qe ?_ _ | refine qg ?_ | refine qf ?_ _)); exact BK113.out⟩, ⟨by repeat (first | (with_reducible first | exact HB.out | apply qc | apply qa | apply qb | refine qd ?_ GE106.out | refine qd ?_ GE113.out) | exact HB.out)⟩⟩
   ·rw [if_neg c19] at H
    have c19b0 : (t107.toList == t114.toList) = false := beq_eq_false_iff_ne.mpr c19
    have c19b1 : (t107.toList != t114.toList) = true := bne_iff_ne.mpr c19
    (first | rw [c19b0] | (simp only [i64_w, i32_w]; rw [c19b0]) | skip)
    have H' := Qz.mk H
    clear H
    have hnb49 := NB106_113.out
    have hnc49 := NB113_106.out
    have hcz50_0 : w14.cell? ⟨gb106, 0, none⟩ = some (.int .i64 t102) := (qh BK106.out 0).trans rfl
    have hcz50_1 : w14.cell? ⟨gb106, 1, none⟩ = some (.slice Ao11 t103.length co11) := (qh BK106.out 1).trans rfl
    have hfz50_0 := qi BK106.out 0
    have hfz50_1 := qi BK106.out 1
    go_wp2_with (first | ((with_reducible refine ql (f := 47) rfl ?_); refine qy (some 26) rfl rfl Try.func47 (by kernel_rfl) rfl #[.agg #[.int .i64 t102, .slice Ao11 t103.length co11]] rfl yq133 ?_; (with_reducible refine (spec_BatchText.calls k t102 _ _ t103 t114 _ ?side1 ?side2 A18.out).mono ?_); (case side1 => exact yq144); (case side2 => exact (Kd.R_reads' HO105.out).2.1); rintro e w51 ⟨rfl, hb⟩; refine ⟨_, rfl, ?_⟩; replace HO105 := Qz.mk (Kd.R_below yq132 hb); replace HO111 := Qz.mk (Kd.R_below yq139 hb); replace BK106 := Qz.mk (qp (g := gb106) (o := .cells #[.int .i64 t102, .slice Ao11 t103.length co11] 68 (0, 0)) yq138 hb); replace BK113 := Qz.mk (qp (g := gb113) (o := .cells #[.int .i64 t108, .slice Ao17 t109.length co17] 68 (0, 0)) yq137 hb); replace HB := Qz.mk (qm yq129 hb); (try clear hb); (try clear hk)))
    go_meet
    case rel => exact ⟨_, (true), yq155, H', ⟨by first | omega | exact Nat.le_refl _⟩, ⟨by (with_reducible repeat (first | apply Kd.R_alloc | apply Kd.R_drewN | apply Kd.R_drew)); exact Kd.R_mono HO105.out (fun _ hk => hk.2)⟩, ⟨by (with_reducible repeat (first | apply Kd.R_alloc | apply Kd.R_drewN | apply Kd.R_drew)); exact Kd.R_mono HO111.out (fun _ hk => hk.2)⟩, ⟨by (with_reducible repeat (first | refine qe ?_ _ | refine qg ?_ | refine qf ?_ _)); exact BK106.out⟩, ⟨by (with_reducible repeat (first | refine qe ?_ _ | refine qg ?_ | refine qf ?_ _)); exact BK113.out⟩, ⟨by repeat (first | (with_reducible first | exact HB.out | apply qc | apply qa | apply qb | refine qd ?_ GE106.out | refine qd ?_ GE113.out) | exact HB.out)⟩⟩
  case rest =>
   clear HC7
   try clear c1
   try clear c2
   try clear p2
   try clear c3
   try clear c4
   try clear c11
   try clear c15
   try clear c19
   try clear c19b0
   try clear c19b1
   try clear c21
   try clear c21b0
   try clear c21b1
   try clear c21b2
   try clear c22
   try clear c27
   try clear c28
   try clear c28b0
   try clear c28b1
   try clear c30
   try clear c37
   try clear c44
   try clear c45
   try clear c46
   try clear c47
   try clear c49
   try clear hcz10_0
   try clear hcz10_1
   try clear hcz16_0
   try clear hcz16_1
   try clear hcz23_0
   try clear hcz23_1
   try clear hcz25_0
   try clear hcz25_1
   try clear hcz31_0
   try clear hcz31_1
   try clear hcz33_0
   try clear hcz33_1
   try clear hcz35_0
   try clear hcz35_1
   try clear hcz36_0
   try clear hcz36_1
   try clear hcz38_0
   try clear hcz38_1
   try clear hcz40_0
   try clear hcz40_1
   try clear hcz42_0
   try clear hcz42_1
   try clear hcz43_0
   try clear hcz43_1
   try clear hcz45_0
   try clear hcz45_1
   try clear hcz47_0
   try clear hcz47_1
   try clear hcz50_0
   try clear hcz50_1
   try clear hfz10_0
   try clear hfz10_1
   try clear hfz16_0
   try clear hfz16_1
   try clear hfz23_0
   try clear hfz23_1
   try clear hfz25_0
   try clear hfz25_1
   try clear hfz31_0
   try clear hfz31_1
   try clear hfz33_0
   try clear hfz33_1
   try clear hfz35_0
   try clear hfz35_1
   try clear hfz36_0
   try clear hfz36_1
   try clear hfz38_0
   try clear hfz38_1
   try clear hfz40_0
   try clear hfz40_1
   try clear hfz42_0
   try clear hfz42_1
   try clear hfz43_0
   try clear hfz43_1
   try clear hfz45_0
   try clear hfz45_1
   try clear hfz47_0
   try clear hfz47_1
   try clear hfz50_0
   try clear hfz50_1
   obtain ⟨kq, x51_6, rfl, HA, HJ6, HO_107001, HO_114001, BK106, BK113, HB⟩ := hcut
   cases kq with
   | zero => exact absurd HA.out (by simp [laws_FnBatches.j0])
   | succ kj6 =>
    have H := HA.out
    clear HA
    simp only [laws_FnBatches.j0] at H
    by_cases c52 : x51_6 = true
    ·subst c52
     have H1 : (some false) = some r := by rw [if_pos rfl] at H; exact H
     clear H
     have H := H1
     clear H1
     obtain rfl := Option.some.inj H
     go_wp2
     go_ret
     exact ⟨by first | rfl | (simp [qo, qn] <;> rfl) | (simp [*, qo, qn] <;> rfl), by repeat (first | (with_reducible first | exact HB.out | apply qc | apply qa | apply qb | refine qd ?_ GE106.out | refine qd ?_ GE113.out) | exact HB.out)⟩
    ·replace c52 := Bool.eq_false_iff.mpr c52
     subst c52
     have H1 : ((impl_BatchEntries.f kj6 t102 t103).bind fun t117 => (if t112 = true then (if (t117.length : Int) = (t103.length : Int) then ((impl_EntriesOk.f kj6 t117).bind fun t120 => (if t120 = true then (if (t107.size : Int) > 8000 then (laws_FnBatches.j1 kj6 l0 true) else (laws_FnBatches.j1 kj6 l0 false)) else (laws_FnBatches.j1 kj6 l0 true))) else (laws_FnBatches.j1 kj6 l0 true)) else (laws_FnBatches.j1 kj6 l0 (decide ((t117.length : Int) > 0))))) = some r := by rw [if_neg (show ¬ (false = true) by decide)] at H; exact H
     clear H
     have H := H1
     clear H1
     replace H := Option.bind_eq_some_iff.mp H
     obtain ⟨t117, A530, H⟩ := H
     replace H : (if t112 = true then (if (t117.length : Int) = (t103.length : Int) then ((impl_EntriesOk.f kj6 t117).bind fun t120 => (if t120 = true then (if (t107.size : Int) > 8000 then (laws_FnBatches.j1 kj6 l0 true) else (laws_FnBatches.j1 kj6 l0 false)) else (laws_FnBatches.j1 kj6 l0 true))) else (laws_FnBatches.j1 kj6 l0 true)) else (laws_FnBatches.j1 kj6 l0 (decide ((t117.length : Int) > 0)))) = some r := H
     have A53 := Qz.mk A530
     clear A530
     have HC54 := Qz.mk H
     clear H
     have hnb55 := NB106_113.out
     have hnc55 := NB113_106.out
     have hcz56_0 : wc.cell? ⟨gb106, 0, none⟩ = some (.int .i64 t102) := (qh BK106.out 0).trans rfl
     have hcz56_1 : wc.cell? ⟨gb106, 1, none⟩ = some (.slice Ao11 t103.length co11) := (qh BK106.out 1).trans rfl
     have hfz56_0 := qi BK106.out 0
     have hfz56_1 := qi BK106.out 1
     go_upto_region 9 with (first | ((with_reducible refine ql (f := 50) rfl ?_); refine qy (some 53) rfl rfl Try.func50 (by kernel_rfl) rfl #[.agg #[.int .i64 t102, .slice Ao11 t103.length co11]] rfl yq133 ?_; (with_reducible refine (impl_BatchEntries.calls kj6 t102 _ _ t103 t117 _ ?side1 ?side2 A53.out).mono ?_); (case side1 => repeat (first | exact (Kd.R_reads' HO_107001.out).2.2 | (with_reducible refine Kd.C_alloc ?_ _) | (with_reducible refine Kd.C_drewN ?_ _) | (with_reducible refine Kd.C_drew ?_))); (case side2 => exact (Kd.R_reads' HO_107001.out).2.1); rintro e w57 ⟨v118, rfl, ho0, hb⟩; refine ⟨_, rfl, ?_⟩; replace HO_107001 := Qz.mk (Kd.R_below yq136 hb); replace HO_114001 := Qz.mk (Kd.R_below yq135 hb); have HO119 := Qz.mk (Kd.R_lower ho0 (qr yq129)); replace BK106 := Qz.mk (qp (g := gb106) (o := .cells #[.int .i64 t102, .slice Ao11 t103.length co11] 68 (0, 0)) yq130 hb); replace BK113 := Qz.mk (qp (g := gb113) (o := .cells #[.int .i64 t108, .slice Ao17 t109.length co17] 68 (0, 0)) yq131 hb); replace HB := Qz.mk (qm yq129 hb); (try clear hb); (try clear hk); (try clear ho0)))
     (try simp only [Act.put, sq1, sq2, sq3])
     go_cut [81] (fun v81 wc => ∃ (kq : Nat) (x81_53 : Bool), v81 = .bool x81_53 ∧ Qz (laws_FnBatches.j1 kq l0 x81_53 = some r) ∧ Qz (kq ≤ kj6) ∧ Qz (Kd.R k148 148 wc w.heap.size (fun k_ => some k_ ≠ ((.slice Ao17 t109.length co17) : Value).ownBlock) (.slice Ao11 t103.length co11) t103) ∧ Qz (Kd.R k148 148 wc w.heap.size (fun k_ => some k_ ≠ ((.slice Ao11 t103.length co11) : Value).ownBlock) (.slice Ao17 t109.length co17) t109) ∧ Qz (wc.heap[gb106]? = some (.cells #[.int .i64 t102, (.slice Ao11 t103.length co11)] 68 (0, 0))) ∧ Qz (wc.heap[gb113]? = some (.cells #[.int .i64 t108, (.slice Ao17 t109.length co17)] 68 (0, 0))) ∧ Qz (Below w.heap.size w wc))
     case first =>
      have H := HC54.out
      clear HC54
      by_cases c58 : t112 = true
      ·subst c58
       have H1 : (if (t117.length : Int) = (t103.length : Int) then ((impl_EntriesOk.f kj6 t117).bind fun t120 => (if t120 = true then (if (t107.size : Int) > 8000 then (laws_FnBatches.j1 kj6 l0 true) else (laws_FnBatches.j1 kj6 l0 false)) else (laws_FnBatches.j1 kj6 l0 true))) else (laws_FnBatches.j1 kj6 l0 true)) = some r := by rw [if_pos rfl] at H; exact H
       clear H
       have H := H1
       clear H1
       by_cases c59 : (t117.length : Int) = (t103.length : Int)
       ·rw [if_pos c59] at H
        have c59b0 : ((t117.length : Int) == (t103.length : Int)) = true := beq_iff_eq.mpr c59
        have c59b1 : ((t117.length : Int) != (t103.length : Int)) = false := bne_eq_false_iff_eq.mpr c59
        have c59b2 : (t117.length == t103.length) = true := by first | simpa using c59 | (simp at c59 ⊢; omega)
        clear c59
        (first | rw [c59b0] | (simp only [i64_w, i32_w]; rw [c59b0]) | skip)
        replace H := Option.bind_eq_some_iff.mp H
        obtain ⟨t120, A600, H⟩ := H
        replace H : (if t120 = true then (if (t107.size : Int) > 8000 then (laws_FnBatches.j1 kj6 l0 true) else (laws_FnBatches.j1 kj6 l0 false)) else (laws_FnBatches.j1 kj6 l0 true)) = some r := H
        have A60 := Qz.mk A600
        clear A600
        by_cases c61 : t120 = true
        ·subst c61
         have H1 : (if (t107.size : Int) > 8000 then (laws_FnBatches.j1 kj6 l0 true) else (laws_FnBatches.j1 kj6 l0 false)) = some r := by rw [if_pos rfl] at H; exact H
         clear H
         have H := H1
         clear H1
         by_cases c62 : (t107.size : Int) > 8000
         ·rw [if_pos c62] at H
          have c62b0 : decide (8000 < (t107.size : Int)) = true := decide_eq_true c62
          have c62b1 : decide (8000 < t107.size) = true := decide_eq_true (by omega)
          clear c62
          have H' := Qz.mk H
          clear H
          obtain ⟨Ao63, co63, eo63⟩ := Kd.R_slice HO119.out
          subst eo63
          have hnb64 := NB106_113.out
          have hnc64 := NB113_106.out
          have hcz65_0 : w57.cell? ⟨gb106, 0, none⟩ = some (.int .i64 t102) := (qh BK106.out 0).trans rfl
          have hcz65_1 : w57.cell? ⟨gb106, 1, none⟩ = some (.slice Ao11 t103.length co11) := (qh BK106.out 1).trans rfl
          have hfz65_0 := qi BK106.out 0
          have hfz65_1 := qi BK106.out 1
          go_wp2_with (first | (go_at_call 43; (with_reducible refine (impl_EntriesOk.calls kj6 _ _ t117 true _ ?side1 ?side2 A60.out).mono ?_); (case side1 => exact yq156); (case side2 => exact (Kd.R_reads' HO119.out).2.1); rintro e w66 ⟨rfl, hb⟩; replace HO_107001 := Qz.mk (Kd.R_below yq136 hb); replace HO_114001 := Qz.mk (Kd.R_below yq135 hb); replace HO119 := Qz.mk (Kd.R_below (by (with_reducible repeat (first | apply Kd.R_alloc | apply Kd.R_drewN | apply Kd.R_drew)); exact HO119.out) hb); replace BK106 := Qz.mk (qp (g := gb106) (o := .cells #[.int .i64 t102, .slice Ao11 t103.length co11] 68 (0, 0)) yq130 hb); replace BK113 := Qz.mk (qp (g := gb113) (o := .cells #[.int .i64 t108, .slice Ao17 t109.length co17] 68 (0, 0)) yq131 hb); replace HB := Qz.mk (qm yq129 hb); (try clear hb); (try clear hk)))
          go_meet
          case rel => exact ⟨_, (true), yq155, H', ⟨by have := HJ6.out; first | omega | exact Nat.le_refl _⟩, ⟨by (with_reducible repeat (first | apply Kd.R_alloc | apply Kd.R_drewN | apply Kd.R_drew)); exact HO_107001.out⟩, ⟨by (with_reducible repeat (first | apply Kd.R_alloc | apply Kd.R_drewN | apply Kd.R_drew)); exact HO_114001.out⟩, ⟨by (with_reducible repeat (first | refine qe ?_ _ | refine qg ?_ | refine qf ?_ _)); exact BK106.out⟩, ⟨by (with_reducible repeat (first | refine qe ?_ _ | refine qg ?_ | refine qf ?_ _)); exact BK113.out⟩, ⟨by repeat (first | (with_reducible first | exact HB.out | apply qc | apply qa | apply qb | refine qd ?_ GE106.out | refine qd ?_ GE113.out) | exact HB.out)⟩⟩
         ·rw [if_neg c62] at H
          have c62b0 : decide (8000 < (t107.size : Int)) = false := decide_eq_false c62
          have c62b1 : decide (8000 < t107.size) = false := decide_eq_false (by omega)
          clear c62
          have H' := Qz.mk H
          clear H
          obtain ⟨Ao67, co67, eo67⟩ := Kd.R_slice HO119.out
          subst eo67
          have hnb68 := NB106_113.out
          have hnc68 := NB113_106.out
          have hcz69_0 : w57.cell? ⟨gb106, 0, none⟩ = some (.int .i64 t102) := (qh BK106.out 0).trans rfl
          have hcz69_1 : w57.cell? ⟨gb106, 1, none⟩ = some (.slice Ao11 t103.length co11) := (qh BK106.out 1).trans rfl
          have hfz69_0 := qi BK106.out 0
          have hfz69_1 := qi BK106.out 1
          go_wp2_with (first | (go_at_call 43; (with_reducible refine (impl_EntriesOk.calls kj6 _ _ t117 true _ ?side1 ?side2 A60.out).mono ?_); (case side1 => exact yq156); (case side2 => exact (Kd.R_reads' HO119.out).2.1); rintro e w70 ⟨rfl, hb⟩; replace HO_107001 := Qz.mk (Kd.R_below yq136 hb); replace HO_114001 := Qz.mk (Kd.R_below yq135 hb); replace HO119 := Qz.mk (Kd.R_below (by (with_reducible repeat (first | apply Kd.R_alloc | apply Kd.R_drewN | apply Kd.R_drew)); exact HO119.out) hb); replace BK106 := Qz.mk (qp (g := gb106) (o := .cells #[.int .i64 t102, .slice Ao11 t103.length co11] 68 (0, 0)) yq130 hb); replace BK113 := Qz.mk (qp (g := gb113) (o := .cells #[.int .i64 t108, .slice Ao17 t109.length co17] 68 (0, 0)) yq131 hb); replace HB := Qz.mk (qm yq129 hb); (try clear hb); (try clear hk)))
          go_meet
          case rel => exact ⟨_, (false), yq155, H', ⟨by have := HJ6.out; first | omega | exact Nat.le_refl _⟩, ⟨by (with_reducible repeat (first | apply Kd.R_alloc | apply Kd.R_drewN | apply Kd.R_drew)); exact HO_107001.out⟩, ⟨by (with_reducible repeat (first | apply Kd.R_alloc | apply Kd.R_drewN | apply Kd.R_drew)); exact HO_114001.out⟩, ⟨by (with_reducible repeat (first | refine qe ?_ _ | refine qg ?_ | refine qf ?_ _)); exact BK106.out⟩, ⟨by (with_reducible repeat (first | refine qe ?_ _ | refine qg ?_ | refine qf ?_ _)); exact BK113.out⟩, ⟨by repeat (first | (with_reducible first | exact HB.out | apply qc | apply qa | apply qb | refine qd ?_ GE106.out | refine qd ?_ GE113.out) | exact HB.out)⟩⟩
        ·replace c61 := Bool.eq_false_iff.mpr c61
         subst c61
         have H1 : (laws_FnBatches.j1 kj6 l0 true) = some r := by rw [if_neg (show ¬ (false = true) by decide)] at H; exact H
         clear H
         have H := H1
         clear H1
         have H' := Qz.mk H
         clear H
         obtain ⟨Ao71, co71, eo71⟩ := Kd.R_slice HO119.out
         subst eo71
         have hnb72 := NB106_113.out
         have hnc72 := NB113_106.out
         have hcz73_0 : w57.cell? ⟨gb106, 0, none⟩ = some (.int .i64 t102) := (qh BK106.out 0).trans rfl
         have hcz73_1 : w57.cell? ⟨gb106, 1, none⟩ = some (.slice Ao11 t103.length co11) := (qh BK106.out 1).trans rfl
         have hfz73_0 := qi BK106.out 0
         have hfz73_1 := qi BK106.out 1
         go_wp2_with (first | (go_at_call 43; (with_reducible refine (impl_EntriesOk.calls kj6 _ _ t117 false _ ?side1 ?side2 A60.out).mono ?_); (case side1 => exact yq156); (case side2 => exact (Kd.R_reads' HO119.out).2.1); rintro e w74 ⟨rfl, hb⟩; replace HO_107001 := Qz.mk (Kd.R_below yq136 hb); replace HO_114001 := Qz.mk (Kd.R_below yq135 hb); replace HO119 := Qz.mk (Kd.R_below (by (with_reducible repeat (first | apply Kd.R_alloc | apply Kd.R_drewN | apply Kd.R_drew)); exact HO119.out) hb); replace BK106 := Qz.mk (qp (g := gb106) (o := .cells #[.int .i64 t102, .slice Ao11 t103.length co11] 68 (0, 0)) yq130 hb); replace BK113 := Qz.mk (qp (g := gb113) (o := .cells #[.int .i64 t108, .slice Ao17 t109.length co17] 68 (0, 0)) yq131 hb); replace HB := Qz.mk (qm yq129 hb); (try clear hb); (try clear hk)))
         go_meet
         case rel => exact ⟨_, (true), yq155, H', ⟨by have := HJ6.out; first | omega | exact Nat.le_refl _⟩, ⟨by (with_reducible repeat (first | apply Kd.R_alloc | apply Kd.R_drewN | apply Kd.R_drew)); exact HO_107001.out⟩, ⟨by (with_reducible repeat (first | apply Kd.R_alloc | apply Kd.R_drewN | apply Kd.R_drew)); exact HO_114001.out⟩, ⟨by (with_reducible repeat (first | refine qe ?_ _ | refine qg ?_ | refine qf ?_ _)); exact BK106.out⟩, ⟨by (with_reducible repeat (first | refine qe ?_ _ | refine qg ?_ | refine qf ?_ _)); exact BK113.out⟩, ⟨by repeat (first | (with_reducible first | exact HB.out | apply qc | apply qa | apply qb | refine qd ?_ GE106.out | refine qd ?_ GE113.out) | exact HB.out)⟩⟩
       ·rw [if_neg c59] at H
        have c59b0 : ((t117.length : Int) == (t103.length : Int)) = false := beq_eq_false_iff_ne.mpr c59
        have c59b1 : ((t117.length : Int) != (t103.length : Int)) = true := bne_iff_ne.mpr c59
        have c59b2 : (t117.length == t103.length) = false := by first | simpa using c59 | (simp at c59 ⊢; omega)
        (first | rw [c59b0] | (simp only [i64_w, i32_w]; rw [c59b0]) | skip)
        have H' := Qz.mk H
        clear H
        obtain ⟨Ao75, co75, eo75⟩ := Kd.R_slice HO119.out
        subst eo75
        have hnb76 := NB106_113.out
        have hnc76 := NB113_106.out
        have hcz77_0 : w57.cell? ⟨gb106, 0, none⟩ = some (.int .i64 t102) := (qh BK106.out 0).trans rfl
        have hcz77_1 : w57.cell? ⟨gb106, 1, none⟩ = some (.slice Ao11 t103.length co11) := (qh BK106.out 1).trans rfl
        have hfz77_0 := qi BK106.out 0
        have hfz77_1 := qi BK106.out 1
        go_wp2
        go_meet
        case rel => exact ⟨_, (true), yq155, H', ⟨by have := HJ6.out; first | omega | exact Nat.le_refl _⟩, ⟨by (with_reducible repeat (first | apply Kd.R_alloc | apply Kd.R_drewN | apply Kd.R_drew)); exact HO_107001.out⟩, ⟨by (with_reducible repeat (first | apply Kd.R_alloc | apply Kd.R_drewN | apply Kd.R_drew)); exact HO_114001.out⟩, ⟨by (with_reducible repeat (first | refine qe ?_ _ | refine qg ?_ | refine qf ?_ _)); exact BK106.out⟩, ⟨by (with_reducible repeat (first | refine qe ?_ _ | refine qg ?_ | refine qf ?_ _)); exact BK113.out⟩, ⟨by repeat (first | (with_reducible first | exact HB.out | apply qc | apply qa | apply qb | refine qd ?_ GE106.out | refine qd ?_ GE113.out) | exact HB.out)⟩⟩
      ·replace c58 := Bool.eq_false_iff.mpr c58
       subst c58
       have H1 : (laws_FnBatches.j1 kj6 l0 (decide ((t117.length : Int) > 0))) = some r := by rw [if_neg (show ¬ (false = true) by decide)] at H; exact H
       clear H
       have H := H1
       clear H1
       have H' := Qz.mk H
       clear H
       obtain ⟨Ao78, co78, eo78⟩ := Kd.R_slice HO119.out
       subst eo78
       go_wp2
       go_meet
       case rel => exact ⟨_, (decide ((t117.length : Int) > 0)), yq155, H', ⟨by have := HJ6.out; first | omega | exact Nat.le_refl _⟩, ⟨by (with_reducible repeat (first | apply Kd.R_alloc | apply Kd.R_drewN | apply Kd.R_drew)); exact HO_107001.out⟩, ⟨by (with_reducible repeat (first | apply Kd.R_alloc | apply Kd.R_drewN | apply Kd.R_drew)); exact HO_114001.out⟩, ⟨by (with_reducible repeat (first | refine qe ?_ _ | refine qg ?_ | refine qf ?_ _)); exact BK106.out⟩, ⟨by (with_reducible repeat (first | refine qe ?_ _ | refine qg ?_ | refine qf ?_ _)); exact BK113.out⟩, ⟨by repeat (first | (with_reducible first | exact HB.out | apply qc | apply qa | apply qb | refine qd ?_ GE106.out | refine qd ?_ GE113.out) | exact HB.out)⟩⟩
     case rest =>
      clear HC54
      try clear c1
      try clear c2
      try clear p2
      try clear c3
      try clear c4
      try clear c5
      try clear c6
      try clear c7
      try clear c11
      try clear c15
      try clear c19
      try clear c19b0
      try clear c19b1
      try clear c21
      try clear c21b0
      try clear c21b1
      try clear c21b2
      try clear c22
      try clear c27
      try clear c28
      try clear c28b0
      try clear c28b1
      try clear c30
      try clear c37
      try clear c44
      try clear c45
      try clear c46
      try clear c47
      try clear c49
      try clear c50
      try clear c52
      try clear c55
      try clear c58
      try clear c59
      try clear c59b0
      try clear c59b1
      try clear c59b2
      try clear c61
      try clear c62
      try clear c62b0
      try clear c62b1
      try clear c64
      try clear c68
      try clear c72
      try clear c76
      try clear hcz10_0
      try clear hcz10_1
      try clear hcz16_0
      try clear hcz16_1
      try clear hcz23_0
      try clear hcz23_1
      try clear hcz25_0
      try clear hcz25_1
      try clear hcz31_0
      try clear hcz31_1
      try clear hcz33_0
      try clear hcz33_1
      try clear hcz35_0
      try clear hcz35_1
      try clear hcz36_0
      try clear hcz36_1
      try clear hcz38_0
      try clear hcz38_1
      try clear hcz40_0
      try clear hcz40_1
      try clear hcz42_0
      try clear hcz42_1
      try clear hcz43_0
      try clear hcz43_1
      try clear hcz45_0
      try clear hcz45_1
      try clear hcz47_0
      try clear hcz47_1
      try clear hcz50_0
      try clear hcz50_1
      try clear hcz56_0
      try clear hcz56_1
      try clear hcz65_0
      try clear hcz65_1
      try clear hcz69_0
      try clear hcz69_1
      try clear hcz73_0
      try clear hcz73_1
      try clear hcz77_0
      try clear hcz77_1
      try clear hfz10_0
      try clear hfz10_1
      try clear hfz16_0
      try clear hfz16_1
      try clear hfz23_0
      try clear hfz23_1
      try clear hfz25_0
      try clear hfz25_1
      try clear hfz31_0
      try clear hfz31_1
      try clear hfz33_0
      try clear hfz33_1
      try clear hfz35_0
      try clear hfz35_1
      try clear hfz36_0
      try clear hfz36_1
      try clear hfz38_0
      try clear hfz38_1
      try clear hfz40_0
      try clear hfz40_1
      try clear hfz42_0
      try clear hfz42_1
      try clear hfz43_0
      try clear hfz43_1
      try clear hfz45_0
      try clear hfz45_1
      try clear hfz47_0
      try clear hfz47_1
      try clear hfz50_0
      try clear hfz50_1
      try clear hfz56_0
      try clear hfz56_1
      try clear hfz65_0
      try clear hfz65_1
      try clear hfz69_0
      try clear hfz69_1
      try clear hfz73_0
      try clear hfz73_1
      try clear hfz77_0
      try clear hfz77_1
      try clear p2
      obtain ⟨kq, x81_53, rfl, HA, HJ53, HO_107001, HO_114001, BK106, BK113, HB⟩ := hcut
      cases kq with
      | zero => exact absurd HA.out (by simp [laws_FnBatches.j1])
      | succ kj53 =>
       have H := HA.out
       clear HA
       simp only [laws_FnBatches.j1] at H
       by_cases c79 : x81_53 = true
       ·subst c79
        have H1 : (some false) = some r := by rw [if_pos rfl] at H; exact H
        clear H
        have H := H1
        clear H1
        obtain rfl := Option.some.inj H
        go_wp2
        go_ret
        exact ⟨by first | rfl | (simp [qo, qn] <;> rfl) | (simp [*, qo, qn] <;> rfl), by repeat (first | (with_reducible first | exact HB.out | apply qc | apply qa | apply qb | refine qd ?_ GE106.out | refine qd ?_ GE113.out) | exact HB.out)⟩
       ·replace c79 := Bool.eq_false_iff.mpr c79
        subst c79
        have H1 : ((spec_DrawReadBatch.f kj53 l0).bind fun t121 => ((impl_ReadBatch.f kj53 t121).bind fun bt122 => ((spec_ReadBatch.f kj53 t121).bind fun bt128 => (if (bt122.2.2 == bt128.2.2) = true then (if bt122.2.2 = true then ((impl_BatchText.f kj53 bt122.1 bt122.2.1).bind fun t134 => (some (t134.toList == t121.toList))) else (some true)) else (some false))))) = some r := by rw [if_neg (show ¬ (false = true) by decide)] at H; exact H
        clear H
        have H := H1
        clear H1
        replace H := Option.bind_eq_some_iff.mp H
        obtain ⟨t121, A800, H⟩ := H
        replace H : ((impl_ReadBatch.f kj53 t121).bind fun bt122 => ((spec_ReadBatch.f kj53 t121).bind fun bt128 => (if (bt122.2.2 == bt128.2.2) = true then (if bt122.2.2 = true then ((impl_BatchText.f kj53 bt122.1 bt122.2.1).bind fun t134 => (some (t134.toList == t121.toList))) else (some true)) else (some false)))) = some r := H
        have A80 := Qz.mk A800
        clear A800
        replace H := Option.bind_eq_some_iff.mp H
        obtain ⟨⟨t122, t123, t126⟩, A810, H⟩ := H
        replace H : ((spec_ReadBatch.f kj53 t121).bind fun bt128 => (if (t126 == bt128.2.2) = true then (if t126 = true then ((impl_BatchText.f kj53 t122 t123).bind fun t134 => (some (t134.toList == t121.toList))) else (some true)) else (some false))) = some r := H
        have A81 := Qz.mk A810
        clear A810
        replace H := Option.bind_eq_some_iff.mp H
        obtain ⟨⟨t128, t129, t132⟩, A820, H⟩ := H
        replace H : (if (t126 == t132) = true then (if t126 = true then ((impl_BatchText.f kj53 t122 t123).bind fun t134 => (some (t134.toList == t121.toList))) else (some true)) else (some false)) = some r := H
        have A82 := Qz.mk A820
        clear A820
        by_cases c83 : (t126 == t132) = true
        ·rw [if_pos c83] at H
         have c83b0 : (t126 == t132) = true := c83
         (try (have c83b1 : decide (t126 = t132) = true := by simpa using c83))
         (try (have c83b2 : (t126 == t132) = true := by simpa using c83))
         clear c83
         by_cases c84 : t126 = true
         ·subst c84
          have H1 : ((impl_BatchText.f kj53 t122 t123).bind fun t134 => (some (t134.toList == t121.toList))) = some r := by rw [if_pos rfl] at H; exact H
          clear H
          have H := H1
          clear H1
          replace H := Option.bind_eq_some_iff.mp H
          obtain ⟨t134, A850, H⟩ := H
          replace H : (some (t134.toList == t121.toList)) = some r := H
          have A85 := Qz.mk A850
          clear A850
          obtain rfl := Option.some.inj H
          go_wp2_with (first | ((with_reducible refine ql (f := 51) rfl ?_); refine qy (some 83) rfl rfl Try.func51 (by kernel_rfl) rfl #[.slice A0 l0.length c0] rfl yq133 ?_; (with_reducible refine (spec_DrawReadBatch.calls kj53 _ _ l0 t121 _ ?side1 ?side2 A80.out).mono ?_); (case side1 => exact yq157); (case side2 => exact HC0.out); rintro e w86 ⟨rfl, hb⟩; refine ⟨_, rfl, ?_⟩; replace HO_107001 := Qz.mk (Kd.R_below yq136 hb); replace HO_114001 := Qz.mk (Kd.R_below yq135 hb); replace BK106 := Qz.mk (qp (g := gb106) (o := .cells #[.int .i64 t102, .slice Ao11 t103.length co11] 68 (0, 0)) yq130 hb); replace BK113 := Qz.mk (qp (g := gb113) (o := .cells #[.int .i64 t108, .slice Ao17 t109.length co17] 68 (0, 0)) yq131 hb); replace HB := Qz.mk (qm yq129 hb); (try clear hb); (try clear hk)) | ((with_reducible refine ql (f := 46) rfl ?_); refine qy (some 86) rfl rfl Try.func46 (by kernel_rfl) rfl #[.string t121] rfl yq153 ?_; (with_reducible refine (impl_ReadBatch.calls kj53 t121 t122 t123 true _ A81.out).mono ?_); rintro e w87 ⟨v124, rfl, ho0, hb⟩; refine ⟨_, rfl, ?_⟩; have HO125 := Qz.mk (Kd.R_lower (Kd.R_new' (Kd.R_new' ho0 (Kd.R_lt yq136)) (Kd.R_lt yq135)) (qr yq129)); replace HO_107001 := Qz.mk (Kd.R_elder' yq136 (Kd.R_base ho0) hb); replace HO_114001 := Qz.mk (Kd.R_elder' yq135 (Kd.R_base ho0) hb); replace BK106 := Qz.mk (qp (g := gb106) (o := .cells #[.int .i64 t102, .slice Ao11 t103.length co11] 68 (0, 0)) yq130 hb); replace BK113 := Qz.mk (qp (g := gb113) (o := .cells #[.int .i64 t108, .slice Ao17 t109.length co17] 68 (0, 0)) yq131 hb); replace HB := Qz.mk (qm yq129 hb); (try clear hb); (try clear hk); (try clear ho0)) | ((with_reducible refine qg1 (N := 9) rfl ?_); (try (refine gate_guard (by rfl) ?_; dsimp only)); refine qf1 ?hg (N := 9) ?hd (cs := #[.int .i64 0, .slice none 0 0]) (t := 68) ?hr ?_; (case hd => rfl); (case hg => rfl); (case hr => exact yq171); intro gb127 hg w88 hbox hb; replace HO_107001 := Qz.mk (Kd.R_below yq136 hb); replace HO_114001 := Qz.mk (Kd.R_below yq135 hb); replace HO125 := Qz.mk (Kd.R_below yq151 hb); have BK127 := Qz.mk (hbox); have GW127 := Qz.mk ((by rw [hg]; exact (qr yq129) : w.heap.size ≤ gb127)); have GE127 := GW127; replace HB := Qz.mk (qm yq129 hb); have NB106_127 := Qz.mk ((yq142 : gb106 ≠ gb127)); have NB127_106 := Qz.mk ((yq143 : gb127 ≠ gb106)); replace BK106 := Qz.mk (qp (g := gb106) (o := .cells #[.int .i64 t102, .slice Ao11 t103.length co11] 68 (0, 0)) yq130 hb); have NB113_127 := Qz.mk ((yq149 : gb113 ≠ gb127)); have NB127_113 := Qz.mk ((yq150 : gb127 ≠ gb113)); replace BK113 := Qz.mk (qp (g := gb113) (o := .cells #[.int .i64 t108, .slice Ao17 t109.length co17] 68 (0, 0)) yq131 hb); clear hb hbox hg; have hnb89 := NB127_106.out; have hnc89 := NB106_127.out; have hnb90 := NB127_113.out; have hnc90 := NB113_127.out; have hcz91_0 : w88.cell? ⟨gb127, 0, none⟩ = some (.int .i64 0) := (qh BK127.out 0).trans rfl; have hcz91_1 : w88.cell? ⟨gb127, 1, none⟩ = some (.slice none 0 0) := (qh BK127.out 1).trans rfl; have hfz91_0 := qi BK127.out 0; have hfz91_1 := qi BK127.out 1; obtain ⟨Ao92, co92, eo92⟩ := Kd.R_slice HO125.out; subst eo92) | ((with_reducible refine ql (f := 52) rfl ?_); refine qy (some 91) rfl rfl Try.func52 (by kernel_rfl) rfl #[.string t121] rfl yq153 ?_; (with_reducible refine (spec_ReadBatch.calls kj53 t121 t128 t129 t132 _ A82.out).mono ?_); rintro e w93 ⟨v130, rfl, ho0, hb⟩; refine ⟨_, rfl, ?_⟩; have HO131 := Qz.mk (Kd.R_lower (Kd.R_new' (Kd.R_new' (Kd.R_new' ho0 (Kd.R_lt yq163)) (Kd.R_lt yq162)) (Kd.R_lt yq167)) (qr yq134)); replace HO_107001 := Qz.mk (Kd.R_elder' yq163 (Kd.R_base ho0) hb); replace HO_114001 := Qz.mk (Kd.R_elder' yq162 (Kd.R_base ho0) hb); replace HO125 := Qz.mk (Kd.R_elder' yq167 (Kd.R_base ho0) hb); replace BK106 := Qz.mk (qp (g := gb106) (o := .cells #[.int .i64 t102, .slice Ao11 t103.length co11] 68 (0, 0)) yq148 hb); replace BK113 := Qz.mk (qp (g := gb113) (o := .cells #[.int .i64 t108, .slice Ao17 t109.length co17] 68 (0, 0)) yq147 hb); replace BK127 := Qz.mk (qp (g := gb127) (o := .cells #[.int .i64 t122, .slice Ao92 t123.length co92] 68 (0, 0)) yq140 hb); replace HB := Qz.mk (qm yq134 hb); (try clear hb); (try clear hk); (try clear ho0)) | ((with_reducible refine qg1 (N := 11) rfl ?_); (try (refine gate_guard (by rfl) ?_; dsimp only)); refine qf1 ?hg (N := 11) ?hd (cs := #[.int .i64 0, .slice none 0 0]) (t := 68) ?hr ?_; (case hd => rfl); (case hg => rfl); (case hr => exact yq171); intro gb133 hg w94 hbox hb; replace HO_107001 := Qz.mk (Kd.R_below yq136 hb); replace HO_114001 := Qz.mk (Kd.R_below yq135 hb); replace HO125 := Qz.mk (Kd.R_below yq151 hb); replace HO131 := Qz.mk (Kd.R_below (by (with_reducible repeat (first | apply Kd.R_alloc | apply Kd.R_drewN | apply Kd.R_drew)); exact HO131.out) hb); have BK133 := Qz.mk (hbox); have GW133 := Qz.mk ((by rw [hg]; exact (qr yq134) : w.heap.size ≤ gb133)); have GE133 := GW133; replace HB := Qz.mk (qm yq134 hb); have NB106_133 := Qz.mk ((yq142 : gb106 ≠ gb133)); have NB133_106 := Qz.mk ((yq143 : gb133 ≠ gb106)); replace BK106 := Qz.mk (qp (g := gb106) (o := .cells #[.int .i64 t102, .slice Ao11 t103.length co11] 68 (0, 0)) yq130 hb); have NB113_133 := Qz.mk ((yq149 : gb113 ≠ gb133)); have NB133_113 := Qz.mk ((yq150 : gb133 ≠ gb113)); replace BK113 := Qz.mk (qp (g := gb113) (o := .cells #[.int .i64 t108, .slice Ao17 t109.length co17] 68 (0, 0)) yq131 hb); have NB127_133 := Qz.mk ((by rw [hg]; exact Nat.ne_of_lt (blk_lt (g := gb127) (o := .cells #[.int .i64 t122, .slice Ao92 t123.length co92] 68 (0, 0)) yq141) : gb127 ≠ gb133)); have NB133_127 := Qz.mk ((by rw [hg]; exact Nat.ne_of_gt (blk_lt (g := gb127) (o := .cells #[.int .i64 t122, .slice Ao92 t123.length co92] 68 (0, 0)) yq141) : gb133 ≠ gb127)); replace BK127 := Qz.mk (qp (g := gb127) (o := .cells #[.int .i64 t122, .slice Ao92 t123.length co92] 68 (0, 0)) yq141 hb); clear hb hbox hg; have hnb95 := NB133_106.out; have hnc95 := NB106_133.out; have hnb96 := NB133_113.out; have hnc96 := NB113_133.out; have hnb97 := NB133_127.out; have hnc97 := NB127_133.out; have hcz98_0 : w94.cell? ⟨gb133, 0, none⟩ = some (.int .i64 0) := (qh BK133.out 0).trans rfl; have hcz98_1 : w94.cell? ⟨gb133, 1, none⟩ = some (.slice none 0 0) := (qh BK133.out 1).trans rfl; have hfz98_0 := qi BK133.out 0; have hfz98_1 := qi BK133.out 1; obtain ⟨Ao99, co99, eo99⟩ := Kd.R_slice HO131.out; subst eo99; have hcz100_0 : w94.cell? ⟨gb127, 0, none⟩ = some (.int .i64 t122) := (qh BK127.out 0).trans rfl; have hcz100_1 : w94.cell? ⟨gb127, 1, none⟩ = some (.slice Ao92 t123.length co92) := (qh BK127.out 1).trans rfl; have hfz100_0 := qi BK127.out 0; have hfz100_1 := qi BK127.out 1) | (go_at_call 45; (with_reducible refine (impl_BatchText.calls kj53 t122 _ _ t123 t134 _ ?side1 ?side2 A85.out).mono ?_); (case side1 => refine (Kd.R_reads' (e := 148) (base := w.heap.size) (ok := fun k_ => (((True ∧ some k_ ≠ (.slice Ao11 t103.length co11 : Value).ownBlock) ∧ some k_ ≠ (.slice Ao17 t109.length co17 : Value).ownBlock) ∧ some k_ ≠ (.slice Ao99 t129.length co99 : Value).ownBlock)) (n := t123.length) (c := co92) ?_).2.2; exact yq166); (case side2 => exact (Kd.R_reads' HO125.out).2.1); rintro e w101 ⟨rfl, hb⟩; replace HO_107001 := Qz.mk (Kd.R_below (by (with_reducible repeat (first | apply Kd.R_alloc | apply Kd.R_drewN | apply Kd.R_drew)); exact (Kd.R_mono (Kd.R_far (p := ⟨gb133, 1, none⟩) (Kd.R_far (p := ⟨gb133, 0, none⟩) (Kd.R_types HO_107001.out BK133.out (by decide)) (fun _ hk => hk.2) (.int .i64 t128)) (fun _ hk => hk.2) (.slice Ao99 t129.length co99)) (fun _ h_ => h_.1))) hb); replace HO_114001 := Qz.mk (Kd.R_below (by (with_reducible repeat (first | apply Kd.R_alloc | apply Kd.R_drewN | apply Kd.R_drew)); exact (Kd.R_mono (Kd.R_far (p := ⟨gb133, 1, none⟩) (Kd.R_far (p := ⟨gb133, 0, none⟩) (Kd.R_types HO_114001.out BK133.out (by decide)) (fun _ hk => hk.2) (.int .i64 t128)) (fun _ hk => hk.2) (.slice Ao99 t129.length co99)) (fun _ h_ => h_.1))) hb); replace HO125 := Qz.mk (Kd.R_below yq166 hb); replace HO131 := Qz.mk (Kd.R_below (by (with_reducible repeat (first | apply Kd.R_alloc | apply Kd.R_drewN | apply Kd.R_drew)); exact (Kd.R_mono (Kd.R_far (p := ⟨gb133, 1, none⟩) (Kd.R_far (p := ⟨gb133, 0, none⟩) (Kd.R_types HO131.out BK133.out (by decide)) (fun _ hk => hk.2) (.int .i64 t128)) (fun _ hk => hk.2) (.slice Ao99 t129.length co99)) (fun _ h_ => h_.1))) hb); replace BK106 := Qz.mk (qp (g := gb106) (o := .cells #[.int .i64 t102, .slice Ao11 t103.length co11] 68 (0, 0)) (by (with_reducible repeat (first | refine qe ?_ _ | refine qg ?_ | refine qf ?_ _)); refine blk_far ?_ NB106_133.out _; (with_reducible repeat (first | refine qe ?_ _ | refine qg ?_ | refine qf ?_ _)); refine blk_far ?_ NB106_133.out _; (with_reducible repeat (first | refine qe ?_ _ | refine qg ?_ | refine qf ?_ _)); exact BK106.out) hb); replace BK113 := Qz.mk (qp (g := gb113) (o := .cells #[.int .i64 t108, .slice Ao17 t109.length co17] 68 (0, 0)) (by (with_reducible repeat (first | refine qe ?_ _ | refine qg ?_ | refine qf ?_ _)); refine blk_far ?_ NB113_133.out _; (with_reducible repeat (first | refine qe ?_ _ | refine qg ?_ | refine qf ?_ _)); refine blk_far ?_ NB113_133.out _; (with_reducible repeat (first | refine qe ?_ _ | refine qg ?_ | refine qf ?_ _)); exact BK113.out) hb); replace BK127 := Qz.mk (qp (g := gb127) (o := .cells #[.int .i64 t122, .slice Ao92 t123.length co92] 68 (0, 0)) (by (with_reducible repeat (first | refine qe ?_ _ | refine qg ?_ | refine qf ?_ _)); refine blk_far ?_ NB127_133.out _; (with_reducible repeat (first | refine qe ?_ _ | refine qg ?_ | refine qf ?_ _)); refine blk_far ?_ NB127_133.out _; (with_reducible repeat (first | refine qe ?_ _ | refine qg ?_ | refine qf ?_ _)); exact BK127.out) hb); replace BK133 := Qz.mk (qp (g := gb133) (o := .cells #[.int .i64 t128, .slice Ao99 t129.length co99] 68 (0, 0)) (by (with_reducible repeat (first | refine qe ?_ _ | refine qg ?_ | refine qf ?_ _)); refine qz (cs := #[.int .i64 t128, .slice none 0 0]) ?_ 1 _ rfl; (with_reducible repeat (first | refine qe ?_ _ | refine qg ?_ | refine qf ?_ _)); refine qz (cs := #[.int .i64 0, .slice none 0 0]) ?_ 0 _ rfl; (with_reducible repeat (first | refine qe ?_ _ | refine qg ?_ | refine qf ?_ _)); exact BK133.out) hb); replace HB := Qz.mk (qm (by repeat (first | (with_reducible first | exact HB.out | apply qc | apply qa | apply qb | refine qd ?_ GE106.out | refine qd ?_ GE113.out | refine qd ?_ GE127.out | refine qd ?_ GE133.out) | exact HB.out)) hb); (try clear hb); (try clear hk)))
          go_ret
          exact ⟨by first | rfl | (simp [qo, qn] <;> rfl) | (simp [*, qo, qn] <;> rfl), by repeat (first | (with_reducible first | exact HB.out | apply qc | apply qa | apply qb | refine qd ?_ GE106.out | refine qd ?_ GE113.out | refine qd ?_ GE127.out | refine qd ?_ GE133.out) | exact HB.out)⟩
         ·replace c84 := Bool.eq_false_iff.mpr c84
          subst c84
          have H1 : (some true) = some r := by rw [if_neg (show ¬ (false = true) by decide)] at H; exact H
          clear H
          have H := H1
          clear H1
          obtain rfl := Option.some.inj H
          go_wp2_with (first | ((with_reducible refine ql (f := 51) rfl ?_); refine qy (some 83) rfl rfl Try.func51 (by kernel_rfl) rfl #[.slice A0 l0.length c0] rfl yq133 ?_; (with_reducible refine (spec_DrawReadBatch.calls kj53 _ _ l0 t121 _ ?side1 ?side2 A80.out).mono ?_); (case side1 => exact yq157); (case side2 => exact HC0.out); rintro e w102 ⟨rfl, hb⟩; refine ⟨_, rfl, ?_⟩; replace HO_107001 := Qz.mk (Kd.R_below yq136 hb); replace HO_114001 := Qz.mk (Kd.R_below yq135 hb); replace BK106 := Qz.mk (qp (g := gb106) (o := .cells #[.int .i64 t102, .slice Ao11 t103.length co11] 68 (0, 0)) yq130 hb); replace BK113 := Qz.mk (qp (g := gb113) (o := .cells #[.int .i64 t108, .slice Ao17 t109.length co17] 68 (0, 0)) yq131 hb); replace HB := Qz.mk (qm yq129 hb); (try clear hb); (try clear hk)) | ((with_reducible refine ql (f := 46) rfl ?_); refine qy (some 86) rfl rfl Try.func46 (by kernel_rfl) rfl #[.string t121] rfl yq153 ?_; (with_reducible refine (impl_ReadBatch.calls kj53 t121 t122 t123 false _ A81.out).mono ?_); rintro e w103 ⟨v124, rfl, ho0, hb⟩; refine ⟨_, rfl, ?_⟩; have HO125 := Qz.mk (Kd.R_lower (Kd.R_new' (Kd.R_new' ho0 (Kd.R_lt yq136)) (Kd.R_lt yq135)) (qr yq129)); replace HO_107001 := Qz.mk (Kd.R_elder' yq136 (Kd.R_base ho0) hb); replace HO_114001 := Qz.mk (Kd.R_elder' yq135 (Kd.R_base ho0) hb); replace BK106 := Qz.mk (qp (g := gb106) (o := .cells #[.int .i64 t102, .slice Ao11 t103.length co11] 68 (0, 0)) yq130 hb); replace BK113 := Qz.mk (qp (g := gb113) (o := .cells #[.int .i64 t108, .slice Ao17 t109.length co17] 68 (0, 0)) yq131 hb); replace HB := Qz.mk (qm yq129 hb); (try clear hb); (try clear hk); (try clear ho0)) | ((with_reducible refine qg1 (N := 9) rfl ?_); (try (refine gate_guard (by rfl) ?_; dsimp only)); refine qf1 ?hg (N := 9) ?hd (cs := #[.int .i64 0, .slice none 0 0]) (t := 68) ?hr ?_; (case hd => rfl); (case hg => rfl); (case hr => exact yq171); intro gb127 hg w104 hbox hb; replace HO_107001 := Qz.mk (Kd.R_below yq136 hb); replace HO_114001 := Qz.mk (Kd.R_below yq135 hb); replace HO125 := Qz.mk (Kd.R_below yq151 hb); have BK127 := Qz.mk (hbox); have GW127 := Qz.mk ((by rw [hg]; exact (qr yq129) : w.heap.size ≤ gb127)); have GE127 := GW127; replace HB := Qz.mk (qm yq129 hb); have NB106_127 := Qz.mk ((yq142 : gb106 ≠ gb127)); have NB127_106 := Qz.mk ((yq143 : gb127 ≠ gb106)); replace BK106 := Qz.mk (qp (g := gb106) (o := .cells #[.int .i64 t102, .slice Ao11 t103.length co11] 68 (0, 0)) yq130 hb); have NB113_127 := Qz.mk ((yq149 : gb113 ≠ gb127)); have NB127_113 := Qz.mk ((yq150 : gb127 ≠ gb113)); replace BK113 := Qz.mk (qp (g := gb113) (o := .cells #[.int .i64 t108, .slice Ao17 t109.length co17] 68 (0, 0)) yq131 hb); clear hb hbox hg; have hnb105 := NB127_106.out; have hnc105 := NB106_127.out; have hnb106 := NB127_113.out; have hnc106 := NB113_127.out; have hcz107_0 : w104.cell? ⟨gb127, 0, none⟩ = some (.int .i64 0) := (qh BK127.out 0).trans rfl; have hcz107_1 : w104.cell? ⟨gb127, 1, none⟩ = some (.slice none 0 0) := (qh BK127.out 1).trans rfl; have hfz107_0 := qi BK127.out 0; have hfz107_1 := qi BK127.out 1; obtain ⟨Ao108, co108, eo108⟩ := Kd.R_slice HO125.out; subst eo108) | ((with_reducible refine ql (f := 52) rfl ?_); refine qy (some 91) rfl rfl Try.func52 (by kernel_rfl) rfl #[.string t121] rfl yq153 ?_; (with_reducible refine (spec_ReadBatch.calls kj53 t121 t128 t129 t132 _ A82.out).mono ?_); rintro e w109 ⟨v130, rfl, ho0, hb⟩; refine ⟨_, rfl, ?_⟩; have HO131 := Qz.mk (Kd.R_lower (Kd.R_new' (Kd.R_new' (Kd.R_new' ho0 (Kd.R_lt yq161)) (Kd.R_lt yq159)) (Kd.R_lt yq165)) (qr yq134)); replace HO_107001 := Qz.mk (Kd.R_elder' yq161 (Kd.R_base ho0) hb); replace HO_114001 := Qz.mk (Kd.R_elder' yq159 (Kd.R_base ho0) hb); replace HO125 := Qz.mk (Kd.R_elder' yq165 (Kd.R_base ho0) hb); replace BK106 := Qz.mk (qp (g := gb106) (o := .cells #[.int .i64 t102, .slice Ao11 t103.length co11] 68 (0, 0)) yq148 hb); replace BK113 := Qz.mk (qp (g := gb113) (o := .cells #[.int .i64 t108, .slice Ao17 t109.length co17] 68 (0, 0)) yq147 hb); replace BK127 := Qz.mk (qp (g := gb127) (o := .cells #[.int .i64 t122, .slice Ao108 t123.length co108] 68 (0, 0)) yq140 hb); replace HB := Qz.mk (qm yq134 hb); (try clear hb); (try clear hk); (try clear ho0)) | ((with_reducible refine qg1 (N := 11) rfl ?_); (try (refine gate_guard (by rfl) ?_; dsimp only)); refine qf1 ?hg (N := 11) ?hd (cs := #[.int .i64 0, .slice none 0 0]) (t := 68) ?hr ?_; (case hd => rfl); (case hg => rfl); (case hr => exact yq171); intro gb133 hg w110 hbox hb; replace HO_107001 := Qz.mk (Kd.R_below yq136 hb); replace HO_114001 := Qz.mk (Kd.R_below yq135 hb); replace HO125 := Qz.mk (Kd.R_below yq151 hb); replace HO131 := Qz.mk (Kd.R_below (by (with_reducible repeat (first | apply Kd.R_alloc | apply Kd.R_drewN | apply Kd.R_drew)); exact HO131.out) hb); have BK133 := Qz.mk (hbox); have GW133 := Qz.mk ((by rw [hg]; exact (qr yq134) : w.heap.size ≤ gb133)); have GE133 := GW133; replace HB := Qz.mk (qm yq134 hb); have NB106_133 := Qz.mk ((yq142 : gb106 ≠ gb133)); have NB133_106 := Qz.mk ((yq143 : gb133 ≠ gb106)); replace BK106 := Qz.mk (qp (g := gb106) (o := .cells #[.int .i64 t102, .slice Ao11 t103.length co11] 68 (0, 0)) yq130 hb); have NB113_133 := Qz.mk ((yq149 : gb113 ≠ gb133)); have NB133_113 := Qz.mk ((yq150 : gb133 ≠ gb113)); replace BK113 := Qz.mk (qp (g := gb113) (o := .cells #[.int .i64 t108, .slice Ao17 t109.length co17] 68 (0, 0)) yq131 hb); have NB127_133 := Qz.mk ((by rw [hg]; exact Nat.ne_of_lt (blk_lt (g := gb127) (o := .cells #[.int .i64 t122, .slice Ao108 t123.length co108] 68 (0, 0)) yq141) : gb127 ≠ gb133)); have NB133_127 := Qz.mk ((by rw [hg]; exact Nat.ne_of_gt (blk_lt (g := gb127) (o := .cells #[.int .i64 t122, .slice Ao108 t123.length co108] 68 (0, 0)) yq141) : gb133 ≠ gb127)); replace BK127 := Qz.mk (qp (g := gb127) (o := .cells #[.int .i64 t122, .slice Ao108 t123.length co108] 68 (0, 0)) yq141 hb); clear hb hbox hg; have hnb111 := NB133_106.out; have hnc111 := NB106_133.out; have hnb112 := NB133_113.out; have hnc112 := NB113_133.out; have hnb113 := NB133_127.out; have hnc113 := NB127_133.out; have hcz114_0 : w110.cell? ⟨gb133, 0, none⟩ = some (.int .i64 0) := (qh BK133.out 0).trans rfl; have hcz114_1 : w110.cell? ⟨gb133, 1, none⟩ = some (.slice none 0 0) := (qh BK133.out 1).trans rfl; have hfz114_0 := qi BK133.out 0; have hfz114_1 := qi BK133.out 1; obtain ⟨Ao115, co115, eo115⟩ := Kd.R_slice HO131.out; subst eo115))
          go_ret
          exact ⟨by first | rfl | (simp [qo, qn] <;> rfl) | (simp [*, qo, qn] <;> rfl), by repeat (first | (with_reducible first | exact HB.out | apply qc | apply qa | apply qb | refine qd ?_ GE106.out | refine qd ?_ GE113.out | refine qd ?_ GE127.out | refine qd ?_ GE133.out) | exact HB.out)⟩
        ·rw [if_neg c83] at H
         have c83b0 : (t126 == t132) = false := by simpa using c83
         (try (have c83b1 : decide (t126 = t132) = false := by simpa using c83))
         (try (have c83b2 : (t126 == t132) = false := by simpa using c83))
         (try (have c83b3 : ¬ (t126 = t132) := by simpa using c83))
         clear c83
         obtain rfl := Option.some.inj H
         go_wp2_with (first | ((with_reducible refine ql (f := 51) rfl ?_); refine qy (some 83) rfl rfl Try.func51 (by kernel_rfl) rfl #[.slice A0 l0.length c0] rfl yq133 ?_; (with_reducible refine (spec_DrawReadBatch.calls kj53 _ _ l0 t121 _ ?side1 ?side2 A80.out).mono ?_); (case side1 => exact yq157); (case side2 => exact HC0.out); rintro e w116 ⟨rfl, hb⟩; refine ⟨_, rfl, ?_⟩; replace HO_107001 := Qz.mk (Kd.R_below yq136 hb); replace HO_114001 := Qz.mk (Kd.R_below yq135 hb); replace BK106 := Qz.mk (qp (g := gb106) (o := .cells #[.int .i64 t102, .slice Ao11 t103.length co11] 68 (0, 0)) yq130 hb); replace BK113 := Qz.mk (qp (g := gb113) (o := .cells #[.int .i64 t108, .slice Ao17 t109.length co17] 68 (0, 0)) yq131 hb); replace HB := Qz.mk (qm yq129 hb); (try clear hb); (try clear hk)) | ((with_reducible refine ql (f := 46) rfl ?_); refine qy (some 86) rfl rfl Try.func46 (by kernel_rfl) rfl #[.string t121] rfl yq153 ?_; (with_reducible refine (impl_ReadBatch.calls kj53 t121 t122 t123 t126 _ A81.out).mono ?_); rintro e w117 ⟨v124, rfl, ho0, hb⟩; refine ⟨_, rfl, ?_⟩; have HO125 := Qz.mk (Kd.R_lower (Kd.R_new' (Kd.R_new' ho0 (Kd.R_lt yq136)) (Kd.R_lt yq135)) (qr yq129)); replace HO_107001 := Qz.mk (Kd.R_elder' yq136 (Kd.R_base ho0) hb); replace HO_114001 := Qz.mk (Kd.R_elder' yq135 (Kd.R_base ho0) hb); replace BK106 := Qz.mk (qp (g := gb106) (o := .cells #[.int .i64 t102, .slice Ao11 t103.length co11] 68 (0, 0)) yq130 hb); replace BK113 := Qz.mk (qp (g := gb113) (o := .cells #[.int .i64 t108, .slice Ao17 t109.length co17] 68 (0, 0)) yq131 hb); replace HB := Qz.mk (qm yq129 hb); (try clear hb); (try clear hk); (try clear ho0)) | ((with_reducible refine qg1 (N := 9) rfl ?_); (try (refine gate_guard (by rfl) ?_; dsimp only)); refine qf1 ?hg (N := 9) ?hd (cs := #[.int .i64 0, .slice none 0 0]) (t := 68) ?hr ?_; (case hd => rfl); (case hg => rfl); (case hr => exact yq171); intro gb127 hg w118 hbox hb; replace HO_107001 := Qz.mk (Kd.R_below yq136 hb); replace HO_114001 := Qz.mk (Kd.R_below yq135 hb); replace HO125 := Qz.mk (Kd.R_below yq151 hb); have BK127 := Qz.mk (hbox); have GW127 := Qz.mk ((by rw [hg]; exact (qr yq129) : w.heap.size ≤ gb127)); have GE127 := GW127; replace HB := Qz.mk (qm yq129 hb); have NB106_127 := Qz.mk ((yq142 : gb106 ≠ gb127)); have NB127_106 := Qz.mk ((yq143 : gb127 ≠ gb106)); replace BK106 := Qz.mk (qp (g := gb106) (o := .cells #[.int .i64 t102, .slice Ao11 t103.length co11] 68 (0, 0)) yq130 hb); have NB113_127 := Qz.mk ((yq149 : gb113 ≠ gb127)); have NB127_113 := Qz.mk ((yq150 : gb127 ≠ gb113)); replace BK113 := Qz.mk (qp (g := gb113) (o := .cells #[.int .i64 t108, .slice Ao17 t109.length co17] 68 (0, 0)) yq131 hb); clear hb hbox hg; have hnb119 := NB127_106.out; have hnc119 := NB106_127.out; have hnb120 := NB127_113.out; have hnc120 := NB113_127.out; have hcz121_0 : w118.cell? ⟨gb127, 0, none⟩ = some (.int .i64 0) := (qh BK127.out 0).trans rfl; have hcz121_1 : w118.cell? ⟨gb127, 1, none⟩ = some (.slice none 0 0) := (qh BK127.out 1).trans rfl; have hfz121_0 := qi BK127.out 0; have hfz121_1 := qi BK127.out 1; obtain ⟨Ao122, co122, eo122⟩ := Kd.R_slice HO125.out; subst eo122) | ((with_reducible refine ql (f := 52) rfl ?_); refine qy (some 91) rfl rfl Try.func52 (by kernel_rfl) rfl #[.string t121] rfl yq153 ?_; (with_reducible refine (spec_ReadBatch.calls kj53 t121 t128 t129 t132 _ A82.out).mono ?_); rintro e w123 ⟨v130, rfl, ho0, hb⟩; refine ⟨_, rfl, ?_⟩; have HO131 := Qz.mk (Kd.R_lower (Kd.R_new' (Kd.R_new' (Kd.R_new' ho0 (Kd.R_lt yq160)) (Kd.R_lt yq158)) (Kd.R_lt yq164)) (qr yq134)); replace HO_107001 := Qz.mk (Kd.R_elder' yq160 (Kd.R_base ho0) hb); replace HO_114001 := Qz.mk (Kd.R_elder' yq158 (Kd.R_base ho0) hb); replace HO125 := Qz.mk (Kd.R_elder' yq164 (Kd.R_base ho0) hb); replace BK106 := Qz.mk (qp (g := gb106) (o := .cells #[.int .i64 t102, .slice Ao11 t103.length co11] 68 (0, 0)) yq148 hb); replace BK113 := Qz.mk (qp (g := gb113) (o := .cells #[.int .i64 t108, .slice Ao17 t109.length co17] 68 (0, 0)) yq147 hb); replace BK127 := Qz.mk (qp (g := gb127) (o := .cells #[.int .i64 t122, .slice Ao122 t123.length co122] 68 (0, 0)) yq140 hb); replace HB := Qz.mk (qm yq134 hb); (try clear hb); (try clear hk); (try clear ho0)) | ((with_reducible refine qg1 (N := 11) rfl ?_); (try (refine gate_guard (by rfl) ?_; dsimp only)); refine qf1 ?hg (N := 11) ?hd (cs := #[.int .i64 0, .slice none 0 0]) (t := 68) ?hr ?_; (case hd => rfl); (case hg => rfl); (case hr => exact yq171); intro gb133 hg w124 hbox hb; replace HO_107001 := Qz.mk (Kd.R_below yq136 hb); replace HO_114001 := Qz.mk (Kd.R_below yq135 hb); replace HO125 := Qz.mk (Kd.R_below yq151 hb); replace HO131 := Qz.mk (Kd.R_below (by (with_reducible repeat (first | apply Kd.R_alloc | apply Kd.R_drewN | apply Kd.R_drew)); exact HO131.out) hb); have BK133 := Qz.mk (hbox); have GW133 := Qz.mk ((by rw [hg]; exact (qr yq134) : w.heap.size ≤ gb133)); have GE133 := GW133; replace HB := Qz.mk (qm yq134 hb); have NB106_133 := Qz.mk ((yq142 : gb106 ≠ gb133)); have NB133_106 := Qz.mk ((yq143 : gb133 ≠ gb106)); replace BK106 := Qz.mk (qp (g := gb106) (o := .cells #[.int .i64 t102, .slice Ao11 t103.length co11] 68 (0, 0)) yq130 hb); have NB113_133 := Qz.mk ((yq149 : gb113 ≠ gb133)); have NB133_113 := Qz.mk ((yq150 : gb133 ≠ gb113)); replace BK113 := Qz.mk (qp (g := gb113) (o := .cells #[.int .i64 t108, .slice Ao17 t109.length co17] 68 (0, 0)) yq131 hb); have NB127_133 := Qz.mk ((by rw [hg]; exact Nat.ne_of_lt (blk_lt (g := gb127) (o := .cells #[.int .i64 t122, .slice Ao122 t123.length co122] 68 (0, 0)) yq141) : gb127 ≠ gb133)); have NB133_127 := Qz.mk ((by rw [hg]; exact Nat.ne_of_gt (blk_lt (g := gb127) (o := .cells #[.int .i64 t122, .slice Ao122 t123.length co122] 68 (0, 0)) yq141) : gb133 ≠ gb127)); replace BK127 := Qz.mk (qp (g := gb127) (o := .cells #[.int .i64 t122, .slice Ao122 t123.length co122] 68 (0, 0)) yq141 hb); clear hb hbox hg; have hnb125 := NB133_106.out; have hnc125 := NB106_133.out; have hnb126 := NB133_113.out; have hnc126 := NB113_133.out; have hnb127 := NB133_127.out; have hnc127 := NB127_133.out; have hcz128_0 : w124.cell? ⟨gb133, 0, none⟩ = some (.int .i64 0) := (qh BK133.out 0).trans rfl; have hcz128_1 : w124.cell? ⟨gb133, 1, none⟩ = some (.slice none 0 0) := (qh BK133.out 1).trans rfl; have hfz128_0 := qi BK133.out 0; have hfz128_1 := qi BK133.out 1; obtain ⟨Ao129, co129, eo129⟩ := Kd.R_slice HO131.out; subst eo129))
         go_ret
         exact ⟨by first | rfl | (simp [qo, qn] <;> rfl) | (simp [*, qo, qn] <;> rfl), by repeat (first | (with_reducible first | exact HB.out | apply qc | apply qa | apply qb | refine qd ?_ GE106.out | refine qd ?_ GE113.out | refine qd ?_ GE127.out | refine qd ?_ GE133.out) | exact HB.out)⟩
def laws_FnBatches.Pure : Prop := ∀ (l0 : List Int), l0.length ≤ maxLen → l0.length * 1 ≤ 140737488351232 → (∀ x ∈ l0, (Lit.int .u8 x).wf = true) → ∃ k, laws_FnBatches.f k l0 = some true
theorem laws_FnBatches.walk (P : laws_FnBatches.Pure) (a0 : Option Addr) (len0 cap0 : Nat) (z0 : List Int) (w : World) (w0 : (a0 = none ∧ len0 = 0 ∧ cap0 = 0 ∧ z0 = []) ∨ ∃ x, a0 = some x ∧ len0 ≤ cap0 ∧ cap0 ≤ maxLen ∧ z0.length = cap0 ∧ (∀ i, i < z0.length → w.cell? (x.add i) = some (.int .u8 (z0.getD i 0))) ∧ ∀ n ∈ z0, (Lit.int .u8 n).wf = true) (y0 : len0 * 1 ≤ 140737488351232) :
  Calls Try.prog 11 #[.slice a0 len0 cap0] w fun e w' => e = .returned (.bool true) ∧ Below w.heap.size w w' := by
 obtain ⟨l0, rfl, hr0, hm0, hw0, hc0⟩ := ReadsInt.ofRowC w0
 obtain ⟨k, h⟩ := P l0 hm0 y0 hw0
 refine (laws_FnBatches.calls k _ _ l0 true w (Kd.C_of_reads (d := (0 : Int)) (h1 := fun _ => rfl) hr0) hc0 h).mono ?_
 rintro e w' ⟨rfl, hd⟩
 exact ⟨rfl, hd⟩
end Go.Proofs.Ytidjdkodgddfcaa.P
end
