/- Proved: the law FnExactReadVersion of the given program returns true for every input of its Go types and leaves each argument as it was; no condition. (Part 9 of 12.) -/
import Derived.Test.YtcgejabkjljeeaaCFnExactReadVersion3
import Derived.Test.YtcgejabkjljeeaaCFnExactReadVersion5
import Derived.Test.YtcgejabkjljeeaaCFnExactReadVersion7
section
namespace Go.Proofs.Ytcgejabkjljeeaa.P
open Go.RowKit Go.Proofs.YtcgejabkjljeeaaW.PrintWords Go.Proofs.YtcgejabkjljeeaaW.PrintLast Go.Proofs.YtcgejabkjljeeaaW.PrintMore
attribute [local go_sem] str_gtr str_leq str_geq max2_int min2_int max_two min_two qw qv max_four min_four
set_option linter.unusedVariables false
set_option linter.unusedSimpArgs false
mutual
def laws_FnExactReadVersion.j0 : Nat → ByteArray → Bool → Bool → List (S66) → Int → Int → Int → List (S66) → Int → Int → Int → Option (Bool)
 | 0, _, _, _, _, _, _, _, _, _, _, _ => none
 | k + 1, x0, x4, x32, x109000, x109001, x109002, x109003, x117000, x117001, x117002, x117003 => if x32 = true then (some false) else ((laws_markVersion.f k x117000 x117001 x117002 x117003 1).bind fun bt118 => ((laws_heldVersion.f k bt118.2 x117001 x117002 x117003 1).bind fun t120 => (if t120 < 0 then (some false) else (if t120 = bt118.1 then ((impl_ReadVersion.f k x0).bind fun bt121 => ((laws_eqVersion.f k bt121.1 bt121.2.1 bt121.2.2.1 bt121.2.2.2.1 x109000 x109001 x109002 x109003).bind fun t129 => (if t129 = true then (laws_FnExactReadVersion.j1 k bt118.1 (bt121.2.2.2.2 != x4) bt118.2 x117001 x117002 x117003) else (laws_FnExactReadVersion.j1 k bt118.1 true bt118.2 x117001 x117002 x117003)))) else (some false)))))
def laws_FnExactReadVersion.j1 : Nat → Int → Bool → List (S66) → Int → Int → Int → Option (Bool)
 | 0, _, _, _, _, _, _ => none
 | k + 1, x7, x57, x117000, x117001, x117002, x117003 => if x57 = true then (some false) else ((laws_heldVersion.f k x117000 x117001 x117002 x117003 1).bind fun t130 => (if t130 < 0 then (some false) else (if t130 = x7 then (some true) else (some false))))
end
def laws_FnExactReadVersion.f (k : Nat) (a0 : ByteArray) : Option (Bool) := if (a0.size : Int) > 1048576 then (some true) else ((spec_ReadVersion.f k a0).bind fun bt101 => ((impl_ReadVersion.f k a0).bind fun bt109 => ((laws_eqVersion.f k bt109.1 bt109.2.1 bt109.2.2.1 bt109.2.2.2.1 bt101.1 bt101.2.1 bt101.2.2.1 bt101.2.2.2.1).bind fun t117 => (if t117 = true then (laws_FnExactReadVersion.j0 k a0 bt101.2.2.2.2 (bt109.2.2.2.2 != bt101.2.2.2.2) bt101.1 bt101.2.1 bt101.2.2.1 bt101.2.2.2.1 bt109.1 bt109.2.1 bt109.2.2.1 bt109.2.2.2.1) else (laws_FnExactReadVersion.j0 k a0 bt101.2.2.2.2 true bt101.1 bt101.2.1 bt101.2.2.1 bt101.2.2.2.1 bt109.1 bt109.2.1 bt109.2.2.1 bt109.2.2.2.1)))))
set_option maxHeartbeats 8000000 in
set_option maxRecDepth 100000 in
theorem laws_FnExactReadVersion.calls (k : Nat) (a0 : ByteArray) (r : Bool) (w : World) (h : laws_FnExactReadVersion.f k a0 = some r) :
  Calls Try.prog 11 #[.string a0] w fun e w' => e = .returned (.bool r) ∧ Below w.heap.size w w' := by
 have hu32 := Try.underlying32
 have HB := Qz.mk (Below.refl w.heap.size w)
 have H : (if (a0.size : Int) > 1048576 then (some true) else ((spec_ReadVersion.f k a0).bind fun bt101 => ((impl_ReadVersion.f k a0).bind fun bt109 => ((laws_eqVersion.f k bt109.1 bt109.2.1 bt109.2.2.1 bt109.2.2.2.1 bt101.1 bt101.2.1 bt101.2.2.1 bt101.2.2.2.1).bind fun t117 => (if t117 = true then (laws_FnExactReadVersion.j0 k a0 bt101.2.2.2.2 (bt109.2.2.2.2 != bt101.2.2.2.2) bt101.1 bt101.2.1 bt101.2.2.1 bt101.2.2.2.1 bt109.1 bt109.2.1 bt109.2.2.1 bt109.2.2.2.1) else (laws_FnExactReadVersion.j0 k a0 bt101.2.2.2.2 true bt101.1 bt101.2.1 bt101.2.2.1 bt101.2.2.2.1 bt109.1 bt109.2.1 bt109.2.2.1 bt109.2.2.2.1)))))) = some r := h
 clear h
 by_cases c2 : (a0.size : Int) > 1048576
 ·rw [if_pos c2] at H
  have c2b0 : decide (1048576 < (a0.size : Int)) = true := decide_eq_true c2
  have c2b1 : decide (1048576 < a0.size) = true := decide_eq_true (by omega)
  clear c2
  obtain rfl := Option.some.inj H
  go_enter Try.func11, Try.ntmps11
  go_wp2
  go_ret
  exact ⟨by first | rfl | (simp [qo, qn] <;> rfl) | (simp [*, qo, qn] <;> rfl), by repeat (first | (with_reducible first | exact HB.out | apply qf | apply qa | apply qd) | exact HB.out)⟩
 ·rw [if_neg c2] at H
  have c2b0 : decide (1048576 < (a0.size : Int)) = false := decide_eq_false c2
  have c2b1 : decide (1048576 < a0.size) = false := decide_eq_false (by omega)
  clear c2
  replace H := Option.bind_eq_some_iff.mp H
  obtain ⟨⟨t101, t104, t105, t106, t107⟩, A30, H⟩ := H
  replace H : ((impl_ReadVersion.f k a0).bind fun bt109 => ((laws_eqVersion.f k bt109.1 bt109.2.1 bt109.2.2.1 bt109.2.2.2.1 t101 t104 t105 t106).bind fun t117 => (if t117 = true then (laws_FnExactReadVersion.j0 k a0 t107 (bt109.2.2.2.2 != t107) t101 t104 t105 t106 bt109.1 bt109.2.1 bt109.2.2.1 bt109.2.2.2.1) else (laws_FnExactReadVersion.j0 k a0 t107 true t101 t104 t105 t106 bt109.1 bt109.2.1 bt109.2.2.1 bt109.2.2.2.1)))) = some r := H
  have A3 := Qz.mk A30
  clear A30
  replace H := Option.bind_eq_some_iff.mp H
  obtain ⟨⟨t109, t112, t113, t114, t115⟩, A40, H⟩ := H
  replace H : ((laws_eqVersion.f k t109 t112 t113 t114 t101 t104 t105 t106).bind fun t117 => (if t117 = true then (laws_FnExactReadVersion.j0 k a0 t107 (t115 != t107) t101 t104 t105 t106 t109 t112 t113 t114) else (laws_FnExactReadVersion.j0 k a0 t107 true t101 t104 t105 t106 t109 t112 t113 t114))) = some r := H
  have A4 := Qz.mk A40
  clear A40
  have HC5 := Qz.mk H
  clear H
  go_enter Try.func11, Try.ntmps11
  go_upto_region 5 with (first | ((with_reducible refine qm (f := 47) rfl ?_); refine qt (some 16) rfl rfl Try.func47 (by kernel_rfl) rfl #[.string a0] rfl (by (try simp only [List.map_toArray, List.map_cons, List.map_nil]); first | done | rfl) ?_; (with_reducible refine (spec_ReadVersion.calls k a0 t101 t104 t105 t106 t107 _ A3.out).mono ?_); rintro e w6 ⟨v102, rfl, ho0, hb⟩; refine ⟨_, rfl, ?_⟩; have HO103 := Qz.mk (Kd.R_lower ho0 (qs (by repeat (first | (with_reducible first | exact HB.out | apply qf | apply qa | apply qd) | exact HB.out)))); replace HB := Qz.mk (qp (by repeat (first | (with_reducible first | exact HB.out | apply qf | apply qa | apply qd) | exact HB.out)) hb); (try clear hb); (try clear hk); (try clear ho0)) | ((with_reducible refine gate_dst (N := 3) rfl ?_); refine qx ?hg (N := 3) ?hd (cs := #[.slice none 0 0, .int .i64 0, .int .i64 0, .int .i64 0]) (t := 32) ?hr ?_; (case hd => rfl); (case hg => rfl); (case hr => first | (go_simp; done) | (go_simp; rfl)); intro gb108 hg w7 hbox hb; replace HO103 := Qz.mk (Kd.R_below (by (with_reducible repeat (first | apply Kd.R_alloc | apply Kd.R_drewN | apply Kd.R_drew)); exact HO103.out) hb); have BK108 := Qz.mk (hbox); have GW108 := Qz.mk ((by rw [hg]; exact (qs (by repeat (first | (with_reducible first | exact HB.out | apply qf | apply qa | apply qd) | exact HB.out))) : w.heap.size ≤ gb108)); have GE108 := GW108; replace HB := Qz.mk (qp (by repeat (first | (with_reducible first | exact HB.out | apply qf | apply qa | apply qd) | exact HB.out)) hb); clear hb hbox hg; obtain ⟨Ao8, co8, eo8⟩ := Kd.R_slice HO103.out; subst eo8; have hcz9_0 : w7.cell? ⟨gb108, 0, none⟩ = some (.slice none 0 0) := (qe BK108.out 0).trans rfl; have hcz9_1 : w7.cell? ⟨gb108, 1, none⟩ = some (.int .i64 0) := (qe BK108.out 1).trans rfl; have hcz9_2 : w7.cell? ⟨gb108, 2, none⟩ = some (.int .i64 0) := (qe BK108.out 2).trans rfl; have hcz9_3 : w7.cell? ⟨gb108, 3, none⟩ = some (.int .i64 0) := (qe BK108.out 3).trans rfl; have hfz9_0 := qc BK108.out 0; have hfz9_1 := qc BK108.out 1; have hfz9_2 := qc BK108.out 2; have hfz9_3 := qc BK108.out 3) | ((with_reducible refine qm (f := 48) rfl ?_); refine qt (some 21) rfl rfl Try.func48 (by kernel_rfl) rfl #[.string a0] rfl (by (try simp only [List.map_toArray, List.map_cons, List.map_nil]); first | done | rfl) ?_; (with_reducible refine (impl_ReadVersion.calls k a0 t109 t112 t113 t114 t115 _ A4.out).mono ?_); rintro e w10 ⟨v110, rfl, ho0, hb⟩; refine ⟨_, rfl, ?_⟩; have HO111 := Qz.mk (Kd.R_lower (Kd.R_new' ho0 (Kd.R_lt (by (with_reducible repeat (first | apply Kd.R_alloc | apply Kd.R_drewN | apply Kd.R_drew)); exact (Kd.R_mono (Kd.R_far (p := ⟨gb108, 3, none⟩) (Kd.R_far (p := ⟨gb108, 2, none⟩) (Kd.R_far (p := ⟨gb108, 1, none⟩) (Kd.R_far (p := ⟨gb108, 0, none⟩) (Kd.R_types HO103.out BK108.out (by decide)) (fun _ hk => hk.2) (.slice Ao8 t101.length co8)) (fun _ hk => hk.2) (.int .i64 t104)) (fun _ hk => hk.2) (.int .i64 t105)) (fun _ hk => hk.2) (.int .i64 t106)) (fun _ h_ => h_.1))))) (qs (by repeat (first | (with_reducible first | exact HB.out | apply qf | apply qa | apply qd | refine qi ?_ GE108.out) | exact HB.out)))); replace HO103 := Qz.mk (Kd.R_elder' (by (with_reducible repeat (first | apply Kd.R_alloc | apply Kd.R_drewN | apply Kd.R_drew)); exact (Kd.R_mono (Kd.R_far (p := ⟨gb108, 3, none⟩) (Kd.R_far (p := ⟨gb108, 2, none⟩) (Kd.R_far (p := ⟨gb108, 1, none⟩) (Kd.R_far (p := ⟨gb108, 0, none⟩) (Kd.R_types HO103.out BK108.out (by decide)) (fun _ hk => hk.2) (.slice Ao8 t101.length co8)) (fun _ hk => hk.2) (.int .i64 t104)) (fun _ hk => hk.2) (.int .i64 t105)) (fun _ hk => hk.2) (.int .i64 t106)) (fun _ h_ => h_.1))) (Kd.R_base ho0) hb); replace BK108 := Qz.mk (qr (g := gb108) (o := .cells #[.slice Ao8 t101.length co8, .int .i64 t104, .int .i64 t105, .int .i64 t106] 32 (0, 0)) (by (with_reducible repeat (first | refine qh ?_ _ | refine qj ?_ | refine qg ?_ _)); refine qu (cs := #[.slice Ao8 t101.length co8, .int .i64 t104, .int .i64 t105, .int .i64 0]) ?_ 3 _ rfl; (with_reducible repeat (first | refine qh ?_ _ | refine qj ?_ | refine qg ?_ _)); refine qu (cs := #[.slice Ao8 t101.length co8, .int .i64 t104, .int .i64 0, .int .i64 0]) ?_ 2 _ rfl; (with_reducible repeat (first | refine qh ?_ _ | refine qj ?_ | refine qg ?_ _)); refine qu (cs := #[.slice Ao8 t101.length co8, .int .i64 0, .int .i64 0, .int .i64 0]) ?_ 1 _ rfl; (with_reducible repeat (first | refine qh ?_ _ | refine qj ?_ | refine qg ?_ _)); refine qu (cs := #[.slice none 0 0, .int .i64 0, .int .i64 0, .int .i64 0]) ?_ 0 _ rfl; (with_reducible repeat (first | refine qh ?_ _ | refine qj ?_ | refine qg ?_ _)); exact BK108.out) hb); replace HB := Qz.mk (qp (by repeat (first | (with_reducible first | exact HB.out | apply qf | apply qa | apply qd | refine qi ?_ GE108.out) | exact HB.out)) hb); (try clear hb); (try clear hk); (try clear ho0)) | ((with_reducible refine gate_dst (N := 5) rfl ?_); refine qx ?hg (N := 5) ?hd (cs := #[.slice none 0 0, .int .i64 0, .int .i64 0, .int .i64 0]) (t := 32) ?hr ?_; (case hd => rfl); (case hg => rfl); (case hr => first | (go_simp; done) | (go_simp; rfl)); intro gb116 hg w11 hbox hb; replace HO103 := Qz.mk (Kd.R_below (by (with_reducible repeat (first | apply Kd.R_alloc | apply Kd.R_drewN | apply Kd.R_drew)); exact HO103.out) hb); replace HO111 := Qz.mk (Kd.R_below (by (with_reducible repeat (first | apply Kd.R_alloc | apply Kd.R_drewN | apply Kd.R_drew)); exact HO111.out) hb); have BK116 := Qz.mk (hbox); have GW116 := Qz.mk ((by rw [hg]; exact (qs (by repeat (first | (with_reducible first | exact HB.out | apply qf | apply qa | apply qd | refine qi ?_ GE108.out) | exact HB.out))) : w.heap.size ≤ gb116)); have GE116 := GW116; replace HB := Qz.mk (qp (by repeat (first | (with_reducible first | exact HB.out | apply qf | apply qa | apply qd | refine qi ?_ GE108.out) | exact HB.out)) hb); have NB108_116 := Qz.mk ((by rw [hg]; exact Nat.ne_of_lt (blk_lt (g := gb108) (o := .cells #[.slice Ao8 t101.length co8, .int .i64 t104, .int .i64 t105, .int .i64 t106] 32 (0, 0)) (by (with_reducible repeat (first | refine qh ?_ _ | refine qj ?_ | refine qg ?_ _)); exact BK108.out)) : gb108 ≠ gb116)); have NB116_108 := Qz.mk ((by rw [hg]; exact Nat.ne_of_gt (blk_lt (g := gb108) (o := .cells #[.slice Ao8 t101.length co8, .int .i64 t104, .int .i64 t105, .int .i64 t106] 32 (0, 0)) (by (with_reducible repeat (first | refine qh ?_ _ | refine qj ?_ | refine qg ?_ _)); exact BK108.out)) : gb116 ≠ gb108)); replace BK108 := Qz.mk (qr (g := gb108) (o := .cells #[.slice Ao8 t101.length co8, .int .i64 t104, .int .i64 t105, .int .i64 t106] 32 (0, 0)) (by (with_reducible repeat (first | refine qh ?_ _ | refine qj ?_ | refine qg ?_ _)); exact BK108.out) hb); clear hb hbox hg; obtain ⟨Ao12, co12, eo12⟩ := Kd.R_slice HO111.out; subst eo12; have hnb13 := NB116_108.out; have hnc13 := NB108_116.out; have hcz14_0 : w11.cell? ⟨gb116, 0, none⟩ = some (.slice none 0 0) := (qe BK116.out 0).trans rfl; have hcz14_1 : w11.cell? ⟨gb116, 1, none⟩ = some (.int .i64 0) := (qe BK116.out 1).trans rfl; have hcz14_2 : w11.cell? ⟨gb116, 2, none⟩ = some (.int .i64 0) := (qe BK116.out 2).trans rfl; have hcz14_3 : w11.cell? ⟨gb116, 3, none⟩ = some (.int .i64 0) := (qe BK116.out 3).trans rfl; have hfz14_0 := qc BK116.out 0; have hfz14_1 := qc BK116.out 1; have hfz14_2 := qc BK116.out 2; have hfz14_3 := qc BK116.out 3))
  (try simp only [Act.put, sq1, sq2, sq3])
  go_cut [32] (fun v32 wc => ∃ (kq : Nat) (x32_4 : Bool), v32 = .bool x32_4 ∧ Qz (laws_FnExactReadVersion.j0 kq a0 t107 x32_4 t101 t104 t105 t106 t109 t112 t113 t114 = some r) ∧ Qz (kq ≤ k) ∧ Qz (Kd.R k66 66 wc w.heap.size (fun k_ => some k_ ≠ ((.slice Ao12 t109.length co12) : Value).ownBlock) (.slice Ao8 t101.length co8) t101) ∧ Qz (Kd.R k66 66 wc w.heap.size (fun k_ => some k_ ≠ ((.slice Ao8 t101.length co8) : Value).ownBlock) (.slice Ao12 t109.length co12) t109) ∧ Qz (wc.heap[gb108]? = some (.cells #[(.slice Ao8 t101.length co8), .int .i64 t104, .int .i64 t105, .int .i64 t106] 32 (0, 0))) ∧ Qz (wc.heap[gb116]? = some (.cells #[(.slice Ao12 t109.length co12), .int .i64 t112, .int .i64 t113, .int .i64 t114] 32 (0, 0))) ∧ Qz (Below w.heap.size w wc))
  case first =>
   have H := HC5.out
   clear HC5
   replace H := Option.bind_eq_some_iff.mp H
   obtain ⟨t117, A150, H⟩ := H
   replace H : (if t117 = true then (laws_FnExactReadVersion.j0 k a0 t107 (t115 != t107) t101 t104 t105 t106 t109 t112 t113 t114) else (laws_FnExactReadVersion.j0 k a0 t107 true t101 t104 t105 t106 t109 t112 t113 t114)) = some r := H
   have A15 := Qz.mk A150
   clear A150
   by_cases c16 : t117 = true
   ·subst c16
    have H1 : (laws_FnExactReadVersion.j0 k a0 t107 (t115 != t107) t101 t104 t105 t106 t109 t112 t113 t114) = some r := by rw [if_pos rfl] at H; exact H
    clear H
    have H := H1
    clear H1
    have H' := Qz.mk H
    clear H
    have hnb17 := NB116_108.out
    have hnc17 := NB108_116.out
    have hcz18_0 : w11.cell? ⟨gb116, 0, none⟩ = some (.slice none 0 0) := (qe BK116.out 0).trans rfl
    have hcz18_1 : w11.cell? ⟨gb116, 1, none⟩ = some (.int .i64 0) := (qe BK116.out 1).trans rfl
    have hcz18_2 : w11.cell? ⟨gb116, 2, none⟩ = some (.int .i64 0) := (qe BK116.out 2).trans rfl
    have hcz18_3 : w11.cell? ⟨gb116, 3, none⟩ = some (.int .i64 0) := (qe BK116.out 3).trans rfl
    have hfz18_0 := qc BK116.out 0
    have hfz18_1 := qc BK116.out 1
    have hfz18_2 := qc BK116.out 2
    have hfz18_3 := qc BK116.out 3
    have hcz19_0 : w11.cell? ⟨gb108, 0, none⟩ = some (.slice Ao8 t101.length co8) := (qe BK108.out 0).trans rfl
    have hcz19_1 : w11.cell? ⟨gb108, 1, none⟩ = some (.int .i64 t104) := (qe BK108.out 1).trans rfl
    have hcz19_2 : w11.cell? ⟨gb108, 2, none⟩ = some (.int .i64 t105) := (qe BK108.out 2).trans rfl
    have hcz19_3 : w11.cell? ⟨gb108, 3, none⟩ = some (.int .i64 t106) := (qe BK108.out 3).trans rfl
    have hfz19_0 := qc BK108.out 0
    have hfz19_1 := qc BK108.out 1
    have hfz19_2 := qc BK108.out 2
    have hfz19_3 := qc BK108.out 3
    go_wp2_with (first | ((with_reducible refine qm (f := 21) rfl ?_); refine qt (some 26) rfl rfl Try.func21 (by kernel_rfl) rfl #[.agg #[.slice Ao12 t109.length co12, .int .i64 t112, .int .i64 t113, .int .i64 t114], .agg #[.slice Ao8 t101.length co8, .int .i64 t104, .int .i64 t105, .int .i64 t106]] rfl (by (try simp only [List.map_toArray, List.map_cons, List.map_nil]); first | done | rfl | (simp only [List.length_drop, List.length_take]; rfl) | (rw [IntWalk.u64_in _ (by omega)] <;> rfl)) ?_; (with_reducible refine (laws_eqVersion.calls k _ _ t109 t112 t113 t114 _ _ t101 t104 t105 t106 true _ ?side1 ?side2 ?side3 ?side4 A15.out).mono ?_); (case side1 => refine (Kd.R_reads' (e := 66) (base := w.heap.size) (ok := fun k_ => (True ∧ some k_ ≠ (.slice Ao8 t101.length co8 : Value).ownBlock)) (n := t109.length) (c := co12) ?_).2.2; exact (by (with_reducible repeat (first | apply Kd.R_alloc | apply Kd.R_drewN | apply Kd.R_drew)); exact (Kd.R_mono (Kd.R_far (p := ⟨gb116, 3, none⟩) (Kd.R_far (p := ⟨gb116, 2, none⟩) (Kd.R_far (p := ⟨gb116, 1, none⟩) (Kd.R_far (p := ⟨gb116, 0, none⟩) (Kd.R_types HO111.out BK116.out (by decide)) (fun _ hk => hk.2) (.slice Ao12 t109.length co12)) (fun _ hk => hk.2) (.int .i64 t112)) (fun _ hk => hk.2) (.int .i64 t113)) (fun _ hk => hk.2) (.int .i64 t114)) (fun _ h_ => h_.1)))); (case side2 => exact (Kd.R_reads' HO111.out).2.1); (case side3 => refine (Kd.R_reads' (e := 66) (base := w.heap.size) (ok := fun k_ => (True ∧ some k_ ≠ (.slice Ao12 t109.length co12 : Value).ownBlock)) (n := t101.length) (c := co8) ?_).2.2; exact (by (with_reducible repeat (first | apply Kd.R_alloc | apply Kd.R_drewN | apply Kd.R_drew)); exact (Kd.R_mono (Kd.R_far (p := ⟨gb116, 3, none⟩) (Kd.R_far (p := ⟨gb116, 2, none⟩) (Kd.R_far (p := ⟨gb116, 1, none⟩) (Kd.R_far (p := ⟨gb116, 0, none⟩) (Kd.R_types HO103.out BK116.out (by decide)) (fun _ hk => hk.2) (.slice Ao12 t109.length co12)) (fun _ hk => hk.2) (.int .i64 t112)) (fun _ hk => hk.2) (.int .i64 t113)) (fun _ hk => hk.2) (.int .i64 t114)) (fun _ h_ => h_.1)))); (case side4 => exact (Kd.R_reads' HO103.out).2.1); rintro e w20 ⟨rfl, hb⟩; refine ⟨_, rfl, ?_⟩; replace HO103 := Qz.mk (Kd.R_below (by (with_reducible repeat (first | apply Kd.R_alloc | apply Kd.R_drewN | apply Kd.R_drew)); exact (Kd.R_mono (Kd.R_far (p := ⟨gb116, 3, none⟩) (Kd.R_far (p := ⟨gb116, 2, none⟩) (Kd.R_far (p := ⟨gb116, 1, none⟩) (Kd.R_far (p := ⟨gb116, 0, none⟩) (Kd.R_types HO103.out BK116.out (by decide)) (fun _ hk => hk.2) (.slice Ao12 t109.length co12)) (fun _ hk => hk.2) (.int .i64 t112)) (fun _ hk => hk.2) (.int .i64 t113)) (fun _ hk => hk.2) (.int .i64 t114)) (fun _ h_ => h_.1))) hb); replace HO111 := Qz.mk (Kd.R_below (by (with_reducible repeat (first | apply Kd.R_alloc | apply Kd.R_drewN | apply Kd.R_drew)); exact (Kd.R_mono (Kd.R_far (p := ⟨gb116, 3, none⟩) (Kd.R_far (p := ⟨gb116, 2, none⟩) (Kd.R_far (p := ⟨gb116, 1, none⟩) (Kd.R_far (p := ⟨gb116, 0, none⟩) (Kd.R_types HO111.out BK116.out (by decide)) (fun _ hk => hk.2) (.slice Ao12 t109.length co12)) (fun _ hk => hk.2) (.int .i64 t112)) (fun _ hk => hk.2) (.int .i64 t113)) (fun _ hk => hk.2) (.int .i64 t114)) (fun _ h_ => h_.1))) hb); replace BK108 := Qz.mk (qr (g := gb108) (o := .cells #[.slice Ao8 t101.length co8, .int .i64 t104, .int .i64 t105, .int .i64 t106] 32 (0, 0)) (by (with_reducible repeat (first | refine qh ?_ _ | refine qj ?_ | refine qg ?_ _)); refine blk_far ?_ NB108_116.out _; (with_reducible repeat (first | refine qh ?_ _ | refine qj ?_ | refine qg ?_ _)); refine blk_far ?_ NB108_116.out _; (with_reducible repeat (first | refine qh ?_ _ | refine qj ?_ | refine qg ?_ _)); refine blk_far ?_ NB108_116.out _; (with_reducible repeat (first | refine qh ?_ _ | refine qj ?_ | refine qg ?_ _)); refine blk_far ?_ NB108_116.out _; (with_reducible repeat (first | refine qh ?_ _ | refine qj ?_ | refine qg ?_ _)); exact BK108.out) hb); replace BK116 := Qz.mk (qr (g := gb116) (o := .cells #[.slice Ao12 t109.length co12, .int .i64 t112, .int .i64 t113, .int .i64 t114] 32 (0, 0)) (by (with_reducible repeat (first | refine qh ?_ _ | refine qj ?_ | refine qg ?_ _)); refine qu (cs := #[.slice Ao12 t109.length co12, .int .i64 t112, .int .i64 t113, .int .i64 0]) ?_ 3 _ rfl; (with_reducible repeat (first | refine qh ?_ _ | refine qj ?_ | refine qg ?_ _)); refine qu (cs := #[.slice Ao12 t109.length co12, .int .i64 t112, .int .i64 0, .int .i64 0]) ?_ 2 _ rfl; (with_reducible repeat (first | refine qh ?_ _ | refine qj ?_ | refine qg ?_ _)); refine qu (cs := #[.slice Ao12 t109.length co12, .int .i64 0, .int .i64 0, .int .i64 0]) ?_ 1 _ rfl; (with_reducible repeat (first | refine qh ?_ _ | refine qj ?_ | refine qg ?_ _)); refine qu (cs := #[.slice none 0 0, .int .i64 0, .int .i64 0, .int .i64 0]) ?_ 0 _ rfl; (with_reducible repeat (first | refine qh ?_ _ | refine qj ?_ | refine qg ?_ _)); exact BK116.out) hb); replace HB := Qz.mk (qp (by repeat (first | (with_reducible first | exact HB.out | apply qf | apply qa | apply qd | refine qi ?_ GE108.out | refine qi ?_ GE116.out) | exact HB.out)) hb); (try clear hb); (try clear hk)))
    go_meet
    case rel => exact ⟨_, ((t115 != t107)), (by first | rfl | (simp; done) | (simp [*]; done)), H', ⟨by first | omega | exact Nat.le_refl _⟩, ⟨by (with_reducible repeat (first | apply Kd.R_alloc | apply Kd.R_drewN | apply Kd.R_drew)); exact Kd.R_mono HO103.out (fun _ hk => hk.2)⟩, ⟨by (with_reducible repeat (first | apply Kd.R_alloc | apply Kd.R_drewN | apply Kd.R_drew)); exact Kd.R_mono HO111.out (fun _ hk => hk.2)⟩, ⟨by (with_reducible repeat (first | refine qh ?_ _ | refine qj ?_ | refine qg ?_ _)); exact BK108.out⟩, ⟨by (with_reducible repeat (first | refine qh ?_ _ | refine qj ?_ | refine qg ?_ _)); exact BK116.out⟩, ⟨by repeat (first | (with_reducible first | exact HB.out | apply qf | apply qa | apply qd | refine qi ?_ GE108.out | refine qi ?_ GE116.out) | exact HB.out)⟩⟩
   ·replace c16 := Bool.eq_false_iff.mpr c16
    subst c16
    have H1 : (laws_FnExactReadVersion.j0 k a0 t107 true t101 t104 t105 t106 t109 t112 t113 t114) = some r := by rw [if_neg (show ¬ (false = true) by decide)] at H; exact H
    clear H
    have H := H1
    clear H1
    have H' := Qz.mk H
    clear H
    have hnb21 := NB116_108.out
    have hnc21 := NB108_116.out
    have hcz22_0 : w11.cell? ⟨gb116, 0, none⟩ = some (.slice none 0 0) := (qe BK116.out 0).trans rfl
    have hcz22_1 : w11.cell? ⟨gb116, 1, none⟩ = some (.int .i64 0) := (qe BK116.out 1).trans rfl
    have hcz22_2 : w11.cell? ⟨gb116, 2, none⟩ = some (.int .i64 0) := (qe BK116.out 2).trans rfl
    have hcz22_3 : w11.cell? ⟨gb116, 3, none⟩ = some (.int .i64 0) := (qe BK116.out 3).trans rfl
    have hfz22_0 := qc BK116.out 0
    have hfz22_1 := qc BK116.out 1
    have hfz22_2 := qc BK116.out 2
    have hfz22_3 := qc BK116.out 3
    have hcz23_0 : w11.cell? ⟨gb108, 0, none⟩ = some (.slice Ao8 t101.length co8) := (qe BK108.out 0).trans rfl
    have hcz23_1 : w11.cell? ⟨gb108, 1, none⟩ = some (.int .i64 t104) := (qe BK108.out 1).trans rfl
    have hcz23_2 : w11.cell? ⟨gb108, 2, none⟩ = some (.int .i64 t105) := (qe BK108.out 2).trans rfl
    have hcz23_3 : w11.cell? ⟨gb108, 3, none⟩ = some (.int .i64 t106) := (qe BK108.out 3).trans rfl
    have hfz23_0 := qc BK108.out 0
    have hfz23_1 := qc BK108.out 1
    have hfz23_2 := qc BK108.out 2
    have hfz23_3 := qc BK108.out 3
    go_wp2_with (first | ((with_reducible refine qm (f := 21) rfl ?_); refine qt (some 26) rfl rfl Try.func21 (by kernel_rfl) rfl #[.agg #[.slice Ao12 t109.length co12, .int .i64 t112, .int .i64 t113, .int .i64 t114], .agg #[.slice Ao8 t101.length co8, .int .i64 t104, .int .i64 t105, .int .i64 t106]] rfl (by (try simp only [List.map_toArray, List.map_cons, List.map_nil]); first | done | rfl | (simp only [List.length_drop, List.length_take]; rfl) | (rw [IntWalk.u64_in _ (by omega)] <;> rfl)) ?_; (with_reducible refine (laws_eqVersion.calls k _ _ t109 t112 t113 t114 _ _ t101 t104 t105 t106 false _ ?side1 ?side2 ?side3 ?side4 A15.out).mono ?_); (case side1 => refine (Kd.R_reads' (e := 66) (base := w.heap.size) (ok := fun k_ => (True ∧ some k_ ≠ (.slice Ao8 t101.length co8 : Value).ownBlock)) (n := t109.length) (c := co12) ?_).2.2; exact (by (with_reducible repeat (first | apply Kd.R_alloc | apply Kd.R_drewN | apply Kd.R_drew)); exact (Kd.R_mono (Kd.R_far (p := ⟨gb116, 3, none⟩) (Kd.R_far (p := ⟨gb116, 2, none⟩) (Kd.R_far (p := ⟨gb116, 1, none⟩) (Kd.R_far (p := ⟨gb116, 0, none⟩) (Kd.R_types HO111.out BK116.out (by decide)) (fun _ hk => hk.2) (.slice Ao12 t109.length co12)) (fun _ hk => hk.2) (.int .i64 t112)) (fun _ hk => hk.2) (.int .i64 t113)) (fun _ hk => hk.2) (.int .i64 t114)) (fun _ h_ => h_.1)))); (case side2 => exact (Kd.R_reads' HO111.out).2.1); (case side3 => refine (Kd.R_reads' (e := 66) (base := w.heap.size) (ok := fun k_ => (True ∧ some k_ ≠ (.slice Ao12 t109.length co12 : Value).ownBlock)) (n := t101.length) (c := co8) ?_).2.2; exact (by (with_reducible repeat (first | apply Kd.R_alloc | apply Kd.R_drewN | apply Kd.R_drew)); exact (Kd.R_mono (Kd.R_far (p := ⟨gb116, 3, none⟩) (Kd.R_far (p := ⟨gb116, 2, none⟩) (Kd.R_far (p := ⟨gb116, 1, none⟩) (Kd.R_far (p := ⟨gb116, 0, none⟩) (Kd.R_types HO103.out BK116.out (by decide)) (fun _ hk => hk.2) (.slice Ao12 t109.length co12)) (fun _ hk => hk.2) (.int .i64 t112)) (fun _ hk => hk.2) (.int .i64 t113)) (fun _ hk => hk.2) (.int .i64 t114)) (fun _ h_ => h_.1)))); (case side4 => exact (Kd.R_reads' HO103.out).2.1); rintro e w24 ⟨rfl, hb⟩; refine ⟨_, rfl, ?_⟩; replace HO103 := Qz.mk (Kd.R_below (by (with_reducible repeat (first | apply Kd.R_alloc | apply Kd.R_drewN | apply Kd.R_drew)); exact (Kd.R_mono (Kd.R_far (p := ⟨gb116, 3, none⟩) (Kd.R_far (p := ⟨gb116, 2, none⟩) (Kd.R_far (p := ⟨gb116, 1, none⟩) (Kd.R_far (p := ⟨gb116, 0, none⟩) (Kd.R_types HO103.out BK116.out (by decide)) (fun _ hk => hk.2) (.slice Ao12 t109.length co12)) (fun _ hk => hk.2) (.int .i64 t112)) (fun _ hk => hk.2) (.int .i64 t113)) (fun _ hk => hk.2) (.int .i64 t114)) (fun _ h_ => h_.1))) hb); replace HO111 := Qz.mk (Kd.R_below (by (with_reducible repeat (first | apply Kd.R_alloc | apply Kd.R_drewN | apply Kd.R_drew)); exact (Kd.R_mono (Kd.R_far (p := ⟨gb116, 3, none⟩) (Kd.R_far (p := ⟨gb116, 2, none⟩) (Kd.R_far (p := ⟨gb116, 1, none⟩) (Kd.R_far (p := ⟨gb116, 0, none⟩) (Kd.R_types HO111.out BK116.out (by decide)) (fun _ hk => hk.2) (.slice Ao12 t109.length co12)) (fun _ hk => hk.2) (.int .i64 t112)) (fun _ hk => hk.2) (.int .i64 t113)) (fun _ hk => hk.2) (.int .i64 t114)) (fun _ h_ => h_.1))) hb); replace BK108 := Qz.mk (qr (g := gb108) (o := .cells #[.slice Ao8 t101.length co8, .int .i64 t104, .int .i64 t105, .int .i64 t106] 32 (0, 0)) (by (with_reducible repeat (first | refine qh ?_ _ | refine qj ?_ | refine qg ?_ _)); refine blk_far ?_ NB108_116.out _; (with_reducible repeat (first | refine qh ?_ _ | refine qj ?_ | refine qg ?_ _)); refine blk_far ?_ NB108_116.out _; (with_reducible repeat (first | refine qh ?_ _ | refine qj ?_ | refine qg ?_ _)); refine blk_far ?_ NB108_116.out _; (with_reducible repeat (first | refine qh ?_ _ | refine qj ?_ | refine qg ?_ _)); refine blk_far ?_ NB108_116.out _; (with_reducible repeat (first | refine qh ?_ _ | refine qj ?_ | refine qg ?_ _)); exact BK108.out) hb); replace BK116 := Qz.mk (qr (g := gb116) (o := .cells #[.slice Ao12 t109.length co12, .int .i64 t112, .int .i64 t113, .int .i64 t114] 32 (0, 0)) (by (with_reducible repeat (first | refine qh ?_ _ | refine qj ?_ | refine qg ?_ _)); refine qu (cs := #[.slice Ao12 t109.length co12, .int .i64 t112, .int .i64 t113, .int .i64 0]) ?_ 3 _ rfl; (with_reducible repeat (first | refine qh ?_ _ | refine qj ?_ | refine qg ?_ _)); refine qu (cs := #[.slice Ao12 t109.length co12, .int .i64 t112, .int .i64 0, .int .i64 0]) ?_ 2 _ rfl; (with_reducible repeat (first | refine qh ?_ _ | refine qj ?_ | refine qg ?_ _)); refine qu (cs := #[.slice Ao12 t109.length co12, .int .i64 0, .int .i64 0, .int .i64 0]) ?_ 1 _ rfl; (with_reducible repeat (first | refine qh ?_ _ | refine qj ?_ | refine qg ?_ _)); refine qu (cs := #[.slice none 0 0, .int .i64 0, .int .i64 0, .int .i64 0]) ?_ 0 _ rfl; (with_reducible repeat (first | refine qh ?_ _ | refine qj ?_ | refine qg ?_ _)); exact BK116.out) hb); replace HB := Qz.mk (qp (by repeat (first | (with_reducible first | exact HB.out | apply qf | apply qa | apply qd | refine qi ?_ GE108.out | refine qi ?_ GE116.out) | exact HB.out)) hb); (try clear hb); (try clear hk)))
    go_meet
    case rel => exact ⟨_, (true), (by first | rfl | (simp; done) | (simp [*]; done)), H', ⟨by first | omega | exact Nat.le_refl _⟩, ⟨by (with_reducible repeat (first | apply Kd.R_alloc | apply Kd.R_drewN | apply Kd.R_drew)); exact Kd.R_mono HO103.out (fun _ hk => hk.2)⟩, ⟨by (with_reducible repeat (first | apply Kd.R_alloc | apply Kd.R_drewN | apply Kd.R_drew)); exact Kd.R_mono HO111.out (fun _ hk => hk.2)⟩, ⟨by (with_reducible repeat (first | refine qh ?_ _ | refine qj ?_ | refine qg ?_ _)); exact BK108.out⟩, ⟨by (with_reducible repeat (first | refine qh ?_ _ | refine qj ?_ | refine qg ?_ _)); exact BK116.out⟩, ⟨by repeat (first | (with_reducible first | exact HB.out | apply qf | apply qa | apply qd | refine qi ?_ GE108.out | refine qi ?_ GE116.out) | exact HB.out)⟩⟩
  case rest =>
   clear HC5
   try clear c1
   try clear c2
   try clear c2b0
   try clear c2b1
   try clear p2
   try clear c4
   try clear c11
   try clear c13
   try clear c16
   try clear c17
   try clear c21
   try clear hcz14_0
   try clear hcz14_1
   try clear hcz14_2
   try clear hcz14_3
   try clear hcz18_0
   try clear hcz18_1
   try clear hcz18_2
   try clear hcz18_3
   try clear hcz19_0
   try clear hcz19_1
   try clear hcz19_2
   try clear hcz19_3
   try clear hcz22_0
   try clear hcz22_1
   try clear hcz22_2
   try clear hcz22_3
   try clear hcz23_0
   try clear hcz23_1
   try clear hcz23_2
   try clear hcz23_3
   try clear hcz9_0
   try clear hcz9_1
   try clear hcz9_2
   try clear hcz9_3
   try clear hfz14_0
   try clear hfz14_1
   try clear hfz14_2
   try clear hfz14_3
   try clear hfz18_0
   try clear hfz18_1
   try clear hfz18_2
   try clear hfz18_3
   try clear hfz19_0
   try clear hfz19_1
   try clear hfz19_2
   try clear hfz19_3
   try clear hfz22_0
   try clear hfz22_1
   try clear hfz22_2
   try clear hfz22_3
   try clear hfz23_0
   try clear hfz23_1
   try clear hfz23_2
   try clear hfz23_3
   try clear hfz9_0
   try clear hfz9_1
   try clear hfz9_2
   try clear hfz9_3
   obtain ⟨kq, x32_4, rfl, HA, HJ4, HO_109000, HO_117000, BK108, BK116, HB⟩ := hcut
   cases kq with
   | zero => exact absurd HA.out (by simp [laws_FnExactReadVersion.j0])
   | succ kj4 =>
    have H := HA.out
    clear HA
    simp only [laws_FnExactReadVersion.j0] at H
    by_cases c25 : x32_4 = true
    ·subst c25
     have H1 : (some false) = some r := by rw [if_pos rfl] at H; exact H
     clear H
     have H := H1
     clear H1
     obtain rfl := Option.some.inj H
     go_wp2
     go_ret
     exact ⟨by first | rfl | (simp [qo, qn] <;> rfl) | (simp [*, qo, qn] <;> rfl), by repeat (first | (with_reducible first | exact HB.out | apply qf | apply qa | apply qd | refine qi ?_ GE108.out | refine qi ?_ GE116.out) | exact HB.out)⟩
    ·replace c25 := Bool.eq_false_iff.mpr c25
     subst c25
     have H1 : ((laws_markVersion.f kj4 t109 t112 t113 t114 1).bind fun bt118 => ((laws_heldVersion.f kj4 bt118.2 t112 t113 t114 1).bind fun t120 => (if t120 < 0 then (some false) else (if t120 = bt118.1 then ((impl_ReadVersion.f kj4 a0).bind fun bt121 => ((laws_eqVersion.f kj4 bt121.1 bt121.2.1 bt121.2.2.1 bt121.2.2.2.1 t101 t104 t105 t106).bind fun t129 => (if t129 = true then (laws_FnExactReadVersion.j1 kj4 bt118.1 (bt121.2.2.2.2 != t107) bt118.2 t112 t113 t114) else (laws_FnExactReadVersion.j1 kj4 bt118.1 true bt118.2 t112 t113 t114)))) else (some false))))) = some r := by rw [if_neg (show ¬ (false = true) by decide)] at H; exact H
     clear H
     have H := H1
     clear H1
     replace H := Option.bind_eq_some_iff.mp H
     obtain ⟨⟨t118, t119⟩, A260, H⟩ := H
     replace H : ((laws_heldVersion.f kj4 t119 t112 t113 t114 1).bind fun t120 => (if t120 < 0 then (some false) else (if t120 = t118 then ((impl_ReadVersion.f kj4 a0).bind fun bt121 => ((laws_eqVersion.f kj4 bt121.1 bt121.2.1 bt121.2.2.1 bt121.2.2.2.1 t101 t104 t105 t106).bind fun t129 => (if t129 = true then (laws_FnExactReadVersion.j1 kj4 t118 (bt121.2.2.2.2 != t107) t119 t112 t113 t114) else (laws_FnExactReadVersion.j1 kj4 t118 true t119 t112 t113 t114)))) else (some false)))) = some r := H
     have A26 := Qz.mk A260
     clear A260
     replace H := Option.bind_eq_some_iff.mp H
     obtain ⟨t120, A270, H⟩ := H
     replace H : (if t120 < 0 then (some false) else (if t120 = t118 then ((impl_ReadVersion.f kj4 a0).bind fun bt121 => ((laws_eqVersion.f kj4 bt121.1 bt121.2.1 bt121.2.2.1 bt121.2.2.2.1 t101 t104 t105 t106).bind fun t129 => (if t129 = true then (laws_FnExactReadVersion.j1 kj4 t118 (bt121.2.2.2.2 != t107) t119 t112 t113 t114) else (laws_FnExactReadVersion.j1 kj4 t118 true t119 t112 t113 t114)))) else (some false))) = some r := H
     have A27 := Qz.mk A270
     clear A270
     by_cases c28 : t120 < 0
     ·rw [if_pos c28] at H
      have c28b0 : decide (t120 < 0) = true := decide_eq_true c28
      clear c28
      obtain rfl := Option.some.inj H
      have hnb29 := NB116_108.out
      have hnc29 := NB108_116.out
      have hcz30_0 : wc.cell? ⟨gb116, 0, none⟩ = some (.slice Ao12 t109.length co12) := (qe BK116.out 0).trans rfl
      have hcz30_1 : wc.cell? ⟨gb116, 1, none⟩ = some (.int .i64 t112) := (qe BK116.out 1).trans rfl
      have hcz30_2 : wc.cell? ⟨gb116, 2, none⟩ = some (.int .i64 t113) := (qe BK116.out 2).trans rfl
      have hcz30_3 : wc.cell? ⟨gb116, 3, none⟩ = some (.int .i64 t114) := (qe BK116.out 3).trans rfl
      have hfz30_0 := qc BK116.out 0
      have hfz30_1 := qc BK116.out 1
      have hfz30_2 := qc BK116.out 2
      have hfz30_3 := qc BK116.out 3
      go_wp2_with (first | ((with_reducible refine qm (f := 23) rfl ?_); refine qt (some 35) rfl rfl Try.func23 (by kernel_rfl) rfl #[.agg #[.slice Ao12 t109.length co12, .int .i64 t112, .int .i64 t113, .int .i64 t114], .int .i64 1] rfl (by (try simp only [List.map_toArray, List.map_cons, List.map_nil]); first | done | rfl | (simp only [List.length_drop, List.length_take]; rfl) | (rw [IntWalk.u64_in _ (by omega)] <;> rfl)) ?_; (with_reducible refine (laws_markVersion.calls kj4 (fun k_ => some k_ = (.slice Ao12 t109.length co12 : Value).ownBlock) (.slice Ao12 t109.length co12) t109 t112 t113 t114 1 t118 t119 w _ ?side1 ?side2 A26.out).mono ?_); (case side1 => repeat (first | (with_reducible first | exact HB.out | apply qf | apply qa | apply qd | refine qi ?_ GE108.out | refine qi ?_ GE116.out) | exact HB.out)); (case side2 => exact Kd.R_tight rfl HO_117000.out); rintro e w31 ⟨rfl, hy0, hb, hkp⟩; refine ⟨_, rfl, ?_⟩; replace HO_109000 := Qz.mk (Kd.R_mono (ok' := fun k_ => some k_ ≠ (.slice Ao12 t109.length co12 : Value).ownBlock) (Kd.R_keptB (HO_109000.out) hkp (fun k_ hk_ hs_ => (hk_) hs_)) (fun k_ hk_ => hk_.1)); replace BK108 := Qz.mk (blk_kept (by (with_reducible repeat (first | refine qh ?_ _ | refine qj ?_ | refine qg ?_ _)); exact BK108.out) hkp (fun hs_ => (fun e_ => (Kd.R_ne HO_117000.out BK108.out (by decide)) e_) hs_)); replace BK116 := Qz.mk (blk_kept (by (with_reducible repeat (first | refine qh ?_ _ | refine qj ?_ | refine qg ?_ _)); exact BK116.out) hkp (fun hs_ => (fun e_ => (Kd.R_ne HO_117000.out BK116.out (by decide)) e_) hs_)); replace HO_117000 := Qz.mk (Kd.R_reok rfl hy0 (fun k_ e_ => HO_117000.out.1 k_ e_)); replace HB := Qz.mk (hb); (try clear hb); (try clear hkp); (try clear hy0); have hcz32_0 : w31.cell? ⟨gb116, 0, none⟩ = some (.slice Ao12 t109.length co12) := (qe BK116.out 0).trans rfl; have hcz32_1 : w31.cell? ⟨gb116, 1, none⟩ = some (.int .i64 t112) := (qe BK116.out 1).trans rfl; have hcz32_2 : w31.cell? ⟨gb116, 2, none⟩ = some (.int .i64 t113) := (qe BK116.out 2).trans rfl; have hcz32_3 : w31.cell? ⟨gb116, 3, none⟩ = some (.int .i64 t114) := (qe BK116.out 3).trans rfl; have hfz32_0 := qc BK116.out 0; have hfz32_1 := qc BK116.out 1; have hfz32_2 := qc BK116.out 2; have hfz32_3 := qc BK116.out 3) | ((with_reducible refine qm (f := 25) rfl ?_); refine qt (some 38) rfl rfl Try.func25 (by kernel_rfl) rfl #[.agg #[.slice Ao12 t119.length co12, .int .i64 t112, .int .i64 t113, .int .i64 t114], .int .i64 1] rfl (by (try simp only [List.map_toArray, List.map_cons, List.map_nil]); first | done | (rw [show t119.length = t109.length from (Kd.R_reads' HO_117000.out).1.symm] <;> rfl) | rfl | (simp only [List.length_drop, List.length_take]; rfl) | (rw [IntWalk.u64_in _ (by omega)] <;> rfl)) ?_; (with_reducible refine (laws_heldVersion.calls kj4 _ _ t119 t112 t113 t114 1 t120 _ ?side1 ?side2 A27.out).mono ?_); (case side1 => repeat (first | exact (Kd.R_reads' HO_117000.out).2.2 | (with_reducible refine Kd.C_alloc ?_ _) | (with_reducible refine Kd.C_drewN ?_ _) | (with_reducible refine Kd.C_drew ?_))); (case side2 => rw [show t119.length = t109.length from (Kd.R_reads' HO_117000.out).1.symm]; exact (Kd.R_reads' HO_117000.out).2.1); rintro e w33 ⟨rfl, hb⟩; refine ⟨_, rfl, ?_⟩; replace HO_109000 := Qz.mk (Kd.R_below (by (with_reducible repeat (first | apply Kd.R_alloc | apply Kd.R_drewN | apply Kd.R_drew)); exact HO_109000.out) hb); replace HO_117000 := Qz.mk (Kd.R_below (by (with_reducible repeat (first | apply Kd.R_alloc | apply Kd.R_drewN | apply Kd.R_drew)); exact HO_117000.out) hb); replace BK108 := Qz.mk (qr (g := gb108) (o := .cells #[.slice Ao8 t101.length co8, .int .i64 t104, .int .i64 t105, .int .i64 t106] 32 (0, 0)) (by (with_reducible repeat (first | refine qh ?_ _ | refine qj ?_ | refine qg ?_ _)); exact BK108.out) hb); replace BK116 := Qz.mk (qr (g := gb116) (o := .cells #[.slice Ao12 t109.length co12, .int .i64 t112, .int .i64 t113, .int .i64 t114] 32 (0, 0)) (by (with_reducible repeat (first | refine qh ?_ _ | refine qj ?_ | refine qg ?_ _)); exact BK116.out) hb); replace HB := Qz.mk (qp (by repeat (first | (with_reducible first | exact HB.out | apply qf | apply qa | apply qd | refine qi ?_ GE108.out | refine qi ?_ GE116.out) | exact HB.out)) hb); (try clear hb); (try clear hk)))
      go_ret
      exact ⟨by first | rfl | (simp [qo, qn] <;> rfl) | (simp [*, qo, qn] <;> rfl), by repeat (first | (with_reducible first | exact HB.out | apply qf | apply qa | apply qd | refine qi ?_ GE108.out | refine qi ?_ GE116.out) | exact HB.out)⟩
     ·rw [if_neg c28] at H
      have c28b0 : decide (t120 < 0) = false := decide_eq_false c28
      clear c28
      by_cases c34 : t120 = t118
      ·rw [if_pos c34] at H
       have c34b0 : (t120 == t118) = true := beq_iff_eq.mpr c34
       have c34b1 : (t120 != t118) = false := bne_eq_false_iff_eq.mpr c34
       clear c34
       replace H := Option.bind_eq_some_iff.mp H
       obtain ⟨⟨t121, t124, t125, t126, t127⟩, A350, H⟩ := H
       replace H : ((laws_eqVersion.f kj4 t121 t124 t125 t126 t101 t104 t105 t106).bind fun t129 => (if t129 = true then (laws_FnExactReadVersion.j1 kj4 t118 (t127 != t107) t119 t112 t113 t114) else (laws_FnExactReadVersion.j1 kj4 t118 true t119 t112 t113 t114))) = some r := H
       have A35 := Qz.mk A350
       clear A350
       have HC36 := Qz.mk H
       clear H
       have hnb37 := NB116_108.out
       have hnc37 := NB108_116.out
       have hcz38_0 : wc.cell? ⟨gb116, 0, none⟩ = some (.slice Ao12 t109.length co12) := (qe BK116.out 0).trans rfl
       have hcz38_1 : wc.cell? ⟨gb116, 1, none⟩ = some (.int .i64 t112) := (qe BK116.out 1).trans rfl
       have hcz38_2 : wc.cell? ⟨gb116, 2, none⟩ = some (.int .i64 t113) := (qe BK116.out 2).trans rfl
       have hcz38_3 : wc.cell? ⟨gb116, 3, none⟩ = some (.int .i64 t114) := (qe BK116.out 3).trans rfl
       have hfz38_0 := qc BK116.out 0
       have hfz38_1 := qc BK116.out 1
       have hfz38_2 := qc BK116.out 2
       have hfz38_3 := qc BK116.out 3
       go_upto_region 16 with (first | ((with_reducible refine qm (f := 23) rfl ?_); refine qt (some 35) rfl rfl Try.func23 (by kernel_rfl) rfl #[.agg #[.slice Ao12 t109.length co12, .int .i64 t112, .int .i64 t113, .int .i64 t114], .int .i64 1] rfl (by (try simp only [List.map_toArray, List.map_cons, List.map_nil]); first | done | rfl | (simp only [List.length_drop, List.length_take]; rfl) | (rw [IntWalk.u64_in _ (by omega)] <;> rfl)) ?_; (with_reducible refine (laws_markVersion.calls kj4 (fun k_ => some k_ = (.slice Ao12 t109.length co12 : Value).ownBlock) (.slice Ao12 t109.length co12) t109 t112 t113 t114 1 t118 t119 w _ ?side1 ?side2 A26.out).mono ?_); (case side1 => repeat (first | (with_reducible first | exact HB.out | apply qf | apply qa | apply qd | refine qi ?_ GE108.out | refine qi ?_ GE116.out) | exact HB.out)); (case side2 => exact Kd.R_tight rfl HO_117000.out); rintro e w39 ⟨rfl, hy0, hb, hkp⟩; refine ⟨_, rfl, ?_⟩; replace HO_109000 := Qz.mk (Kd.R_mono (ok' := fun k_ => some k_ ≠ (.slice Ao12 t109.length co12 : Value).ownBlock) (Kd.R_keptB (HO_109000.out) hkp (fun k_ hk_ hs_ => (hk_) hs_)) (fun k_ hk_ => hk_.1)); replace BK108 := Qz.mk (blk_kept (by (with_reducible repeat (first | refine qh ?_ _ | refine qj ?_ | refine qg ?_ _)); exact BK108.out) hkp (fun hs_ => (fun e_ => (Kd.R_ne HO_117000.out BK108.out (by decide)) e_) hs_)); replace BK116 := Qz.mk (blk_kept (by (with_reducible repeat (first | refine qh ?_ _ | refine qj ?_ | refine qg ?_ _)); exact BK116.out) hkp (fun hs_ => (fun e_ => (Kd.R_ne HO_117000.out BK116.out (by decide)) e_) hs_)); replace HO_117000 := Qz.mk (Kd.R_reok rfl hy0 (fun k_ e_ => HO_117000.out.1 k_ e_)); replace HB := Qz.mk (hb); (try clear hb); (try clear hkp); (try clear hy0); have hcz40_0 : w39.cell? ⟨gb116, 0, none⟩ = some (.slice Ao12 t109.length co12) := (qe BK116.out 0).trans rfl; have hcz40_1 : w39.cell? ⟨gb116, 1, none⟩ = some (.int .i64 t112) := (qe BK116.out 1).trans rfl; have hcz40_2 : w39.cell? ⟨gb116, 2, none⟩ = some (.int .i64 t113) := (qe BK116.out 2).trans rfl; have hcz40_3 : w39.cell? ⟨gb116, 3, none⟩ = some (.int .i64 t114) := (qe BK116.out 3).trans rfl; have hfz40_0 := qc BK116.out 0; have hfz40_1 := qc BK116.out 1; have hfz40_2 := qc BK116.out 2; have hfz40_3 := qc BK116.out 3) | ((with_reducible refine qm (f := 25) rfl ?_); refine qt (some 38) rfl rfl Try.func25 (by kernel_rfl) rfl #[.agg #[.slice Ao12 t119.length co12, .int .i64 t112, .int .i64 t113, .int .i64 t114], .int .i64 1] rfl (by (try simp only [List.map_toArray, List.map_cons, List.map_nil]); first | done | (rw [show t119.length = t109.length from (Kd.R_reads' HO_117000.out).1.symm] <;> rfl) | rfl | (simp only [List.length_drop, List.length_take]; rfl) | (rw [IntWalk.u64_in _ (by omega)] <;> rfl)) ?_; (with_reducible refine (laws_heldVersion.calls kj4 _ _ t119 t112 t113 t114 1 t120 _ ?side1 ?side2 A27.out).mono ?_); (case side1 => repeat (first | exact (Kd.R_reads' HO_117000.out).2.2 | (with_reducible refine Kd.C_alloc ?_ _) | (with_reducible refine Kd.C_drewN ?_ _) | (with_reducible refine Kd.C_drew ?_))); (case side2 => rw [show t119.length = t109.length from (Kd.R_reads' HO_117000.out).1.symm]; exact (Kd.R_reads' HO_117000.out).2.1); rintro e w41 ⟨rfl, hb⟩; refine ⟨_, rfl, ?_⟩; replace HO_109000 := Qz.mk (Kd.R_below (by (with_reducible repeat (first | apply Kd.R_alloc | apply Kd.R_drewN | apply Kd.R_drew)); exact HO_109000.out) hb); replace HO_117000 := Qz.mk (Kd.R_below (by (with_reducible repeat (first | apply Kd.R_alloc | apply Kd.R_drewN | apply Kd.R_drew)); exact HO_117000.out) hb); replace BK108 := Qz.mk (qr (g := gb108) (o := .cells #[.slice Ao8 t101.length co8, .int .i64 t104, .int .i64 t105, .int .i64 t106] 32 (0, 0)) (by (with_reducible repeat (first | refine qh ?_ _ | refine qj ?_ | refine qg ?_ _)); exact BK108.out) hb); replace BK116 := Qz.mk (qr (g := gb116) (o := .cells #[.slice Ao12 t109.length co12, .int .i64 t112, .int .i64 t113, .int .i64 t114] 32 (0, 0)) (by (with_reducible repeat (first | refine qh ?_ _ | refine qj ?_ | refine qg ?_ _)); exact BK116.out) hb); replace HB := Qz.mk (qp (by repeat (first | (with_reducible first | exact HB.out | apply qf | apply qa | apply qd | refine qi ?_ GE108.out | refine qi ?_ GE116.out) | exact HB.out)) hb); (try clear hb); (try clear hk)) | ((with_reducible refine qm (f := 48) rfl ?_); refine qt (some 46) rfl rfl Try.func48 (by kernel_rfl) rfl #[.string a0] rfl (by (try simp only [List.map_toArray, List.map_cons, List.map_nil]); first | done | rfl) ?_; (with_reducible refine (impl_ReadVersion.calls kj4 a0 t121 t124 t125 t126 t127 _ A35.out).mono ?_); rintro e w42 ⟨v122, rfl, ho0, hb⟩; refine ⟨_, rfl, ?_⟩; have HO123 := Qz.mk (Kd.R_lower (Kd.R_new' (Kd.R_new' ho0 (Kd.R_lt (by (with_reducible repeat (first | apply Kd.R_alloc | apply Kd.R_drewN | apply Kd.R_drew)); exact HO_109000.out))) (Kd.R_lt (by (with_reducible repeat (first | apply Kd.R_alloc | apply Kd.R_drewN | apply Kd.R_drew)); exact HO_117000.out))) (qs (by repeat (first | (with_reducible first | exact HB.out | apply qf | apply qa | apply qd | refine qi ?_ GE108.out | refine qi ?_ GE116.out) | exact HB.out)))); replace HO_109000 := Qz.mk (Kd.R_elder' (by (with_reducible repeat (first | apply Kd.R_alloc | apply Kd.R_drewN | apply Kd.R_drew)); exact HO_109000.out) (Kd.R_base ho0) hb); replace HO_117000 := Qz.mk (Kd.R_elder' (by (with_reducible repeat (first | apply Kd.R_alloc | apply Kd.R_drewN | apply Kd.R_drew)); exact HO_117000.out) (Kd.R_base ho0) hb); replace BK108 := Qz.mk (qr (g := gb108) (o := .cells #[.slice Ao8 t101.length co8, .int .i64 t104, .int .i64 t105, .int .i64 t106] 32 (0, 0)) (by (with_reducible repeat (first | refine qh ?_ _ | refine qj ?_ | refine qg ?_ _)); exact BK108.out) hb); replace BK116 := Qz.mk (qr (g := gb116) (o := .cells #[.slice Ao12 t109.length co12, .int .i64 t112, .int .i64 t113, .int .i64 t114] 32 (0, 0)) (by (with_reducible repeat (first | refine qh ?_ _ | refine qj ?_ | refine qg ?_ _)); exact BK116.out) hb); replace HB := Qz.mk (qp (by repeat (first | (with_reducible first | exact HB.out | apply qf | apply qa | apply qd | refine qi ?_ GE108.out | refine qi ?_ GE116.out) | exact HB.out)) hb); (try clear hb); (try clear hk); (try clear ho0)) | ((with_reducible refine gate_dst (N := 9) rfl ?_); refine qx ?hg (N := 9) ?hd (cs := #[.slice none 0 0, .int .i64 0, .int .i64 0, .int .i64 0]) (t := 32) ?hr ?_; (case hd => rfl); (case hg => rfl); (case hr => first | (go_simp; done) | (go_simp; rfl)); intro gb128 hg w43 hbox hb; replace HO_109000 := Qz.mk (Kd.R_below (by (with_reducible repeat (first | apply Kd.R_alloc | apply Kd.R_drewN | apply Kd.R_drew)); exact HO_109000.out) hb); replace HO_117000 := Qz.mk (Kd.R_below (by (with_reducible repeat (first | apply Kd.R_alloc | apply Kd.R_drewN | apply Kd.R_drew)); exact HO_117000.out) hb); replace HO123 := Qz.mk (Kd.R_below (by (with_reducible repeat (first | apply Kd.R_alloc | apply Kd.R_drewN | apply Kd.R_drew)); exact HO123.out) hb); have BK128 := Qz.mk (hbox); have GW128 := Qz.mk ((by rw [hg]; exact (qs (by repeat (first | (with_reducible first | exact HB.out | apply qf | apply qa | apply qd | refine qi ?_ GE108.out | refine qi ?_ GE116.out) | exact HB.out))) : w.heap.size ≤ gb128)); have GE128 := GW128; replace HB := Qz.mk (qp (by repeat (first | (with_reducible first | exact HB.out | apply qf | apply qa | apply qd | refine qi ?_ GE108.out | refine qi ?_ GE116.out) | exact HB.out)) hb); have NB108_128 := Qz.mk ((by rw [hg]; exact Nat.ne_of_lt (blk_lt (g := gb108) (o := .cells #[.slice Ao8 t101.length co8, .int .i64 t104, .int .i64 t105, .int .i64 t106] 32 (0, 0)) (by (with_reducible repeat (first | refine qh ?_ _ | refine qj ?_ | refine qg ?_ _)); exact BK108.out)) : gb108 ≠ gb128)); have NB128_108 := Qz.mk ((by rw [hg]; exact Nat.ne_of_gt (blk_lt (g := gb108) (o := .cells #[.slice Ao8 t101.length co8, .int .i64 t104, .int .i64 t105, .int .i64 t106] 32 (0, 0)) (by (with_reducible repeat (first | refine qh ?_ _ | refine qj ?_ | refine qg ?_ _)); exact BK108.out)) : gb128 ≠ gb108)); replace BK108 := Qz.mk (qr (g := gb108) (o := .cells #[.slice Ao8 t101.length co8, .int .i64 t104, .int .i64 t105, .int .i64 t106] 32 (0, 0)) (by (with_reducible repeat (first | refine qh ?_ _ | refine qj ?_ | refine qg ?_ _)); exact BK108.out) hb); have NB116_128 := Qz.mk ((by rw [hg]; exact Nat.ne_of_lt (blk_lt (g := gb116) (o := .cells #[.slice Ao12 t109.length co12, .int .i64 t112, .int .i64 t113, .int .i64 t114] 32 (0, 0)) (by (with_reducible repeat (first | refine qh ?_ _ | refine qj ?_ | refine qg ?_ _)); exact BK116.out)) : gb116 ≠ gb128)); have NB128_116 := Qz.mk ((by rw [hg]; exact Nat.ne_of_gt (blk_lt (g := gb116) (o := .cells #[.slice Ao12 t109.length co12, .int .i64 t112, .int .i64 t113, .int .i64 t114] 32 (0, 0)) (by (with_reducible repeat (first | refine qh ?_ _ | refine qj ?_ | refine qg ?_ _)); exact BK116.out)) : gb128 ≠ gb116)); replace BK116 := Qz.mk (qr (g := gb116) (o := .cells #[.slice Ao12 t109.length co12, .int .i64 t112, .int .i64 t113, .int .i64 t114] 32 (0, 0)) (by (with_reducible repeat (first | refine qh ?_ _ | refine qj ?_ | refine qg ?_ _)); exact BK116.out) hb); clear hb hbox hg; obtain ⟨Ao44, co44, eo44⟩ := Kd.R_slice HO123.out; subst eo44; have hnb45 := NB128_108.out; have hnc45 := NB108_128.out; have hnb46 := NB128_116.out; have hnc46 := NB116_128.out; have hcz47_0 : w43.cell? ⟨gb128, 0, none⟩ = some (.slice none 0 0) := (qe BK128.out 0).trans rfl; have hcz47_1 : w43.cell? ⟨gb128, 1, none⟩ = some (.int .i64 0) := (qe BK128.out 1).trans rfl; have hcz47_2 : w43.cell? ⟨gb128, 2, none⟩ = some (.int .i64 0) := (qe BK128.out 2).trans rfl; have hcz47_3 : w43.cell? ⟨gb128, 3, none⟩ = some (.int .i64 0) := (qe BK128.out 3).trans rfl; have hfz47_0 := qc BK128.out 0; have hfz47_1 := qc BK128.out 1; have hfz47_2 := qc BK128.out 2; have hfz47_3 := qc BK128.out 3))
       (try simp only [Act.put, sq1, sq2, sq3])
       go_cut [57] (fun v57 wc => ∃ (kq : Nat) (x57_35 : Bool), v57 = .bool x57_35 ∧ Qz (laws_FnExactReadVersion.j1 kq t118 x57_35 t119 t112 t113 t114 = some r) ∧ Qz (kq ≤ kj4) ∧ Qz (Kd.R k66 66 wc w.heap.size (fun k_ => some k_ ≠ ((.slice Ao12 t109.length co12) : Value).ownBlock ∧ some k_ ≠ ((.slice Ao44 t121.length co44) : Value).ownBlock) (.slice Ao8 t101.length co8) t101) ∧ Qz (Kd.R k66 66 wc w.heap.size (fun k_ => some k_ ≠ ((.slice Ao8 t101.length co8) : Value).ownBlock ∧ some k_ ≠ ((.slice Ao44 t121.length co44) : Value).ownBlock) (.slice Ao12 t109.length co12) t119) ∧ Qz (Kd.R k66 66 wc w.heap.size (fun k_ => some k_ ≠ ((.slice Ao8 t101.length co8) : Value).ownBlock ∧ some k_ ≠ ((.slice Ao12 t109.length co12) : Value).ownBlock) (.slice Ao44 t121.length co44) t121) ∧ Qz (wc.heap[gb108]? = some (.cells #[(.slice Ao8 t101.length co8), .int .i64 t104, .int .i64 t105, .int .i64 t106] 32 (0, 0))) ∧ Qz (wc.heap[gb116]? = some (.cells #[(.slice Ao12 t109.length co12), .int .i64 t112, .int .i64 t113, .int .i64 t114] 32 (0, 0))) ∧ Qz (wc.heap[gb128]? = some (.cells #[(.slice Ao44 t121.length co44), .int .i64 t124, .int .i64 t125, .int .i64 t126] 32 (0, 0))) ∧ Qz (Below w.heap.size w wc))
       case first =>
        have H := HC36.out
        clear HC36
        replace H := Option.bind_eq_some_iff.mp H
        obtain ⟨t129, A480, H⟩ := H
        replace H : (if t129 = true then (laws_FnExactReadVersion.j1 kj4 t118 (t127 != t107) t119 t112 t113 t114) else (laws_FnExactReadVersion.j1 kj4 t118 true t119 t112 t113 t114)) = some r := H
        have A48 := Qz.mk A480
        clear A480
        by_cases c49 : t129 = true
        ·subst c49
         have H1 : (laws_FnExactReadVersion.j1 kj4 t118 (t127 != t107) t119 t112 t113 t114) = some r := by rw [if_pos rfl] at H; exact H
         clear H
         have H := H1
         clear H1
         have H' := Qz.mk H
         clear H
         have hnb50 := NB128_108.out
         have hnc50 := NB108_128.out
         have hnb51 := NB128_116.out
         have hnc51 := NB116_128.out
         have hcz52_0 : w43.cell? ⟨gb128, 0, none⟩ = some (.slice none 0 0) := (qe BK128.out 0).trans rfl
         have hcz52_1 : w43.cell? ⟨gb128, 1, none⟩ = some (.int .i64 0) := (qe BK128.out 1).trans rfl
         have hcz52_2 : w43.cell? ⟨gb128, 2, none⟩ = some (.int .i64 0) := (qe BK128.out 2).trans rfl
         have hcz52_3 : w43.cell? ⟨gb128, 3, none⟩ = some (.int .i64 0) := (qe BK128.out 3).trans rfl
         have hfz52_0 := qc BK128.out 0
         have hfz52_1 := qc BK128.out 1
         have hfz52_2 := qc BK128.out 2
         have hfz52_3 := qc BK128.out 3
         have hnb53 := NB108_116.out
         have hnc53 := NB116_108.out
         have hcz54_0 : w43.cell? ⟨gb108, 0, none⟩ = some (.slice Ao8 t101.length co8) := (qe BK108.out 0).trans rfl
         have hcz54_1 : w43.cell? ⟨gb108, 1, none⟩ = some (.int .i64 t104) := (qe BK108.out 1).trans rfl
         have hcz54_2 : w43.cell? ⟨gb108, 2, none⟩ = some (.int .i64 t105) := (qe BK108.out 2).trans rfl
         have hcz54_3 : w43.cell? ⟨gb108, 3, none⟩ = some (.int .i64 t106) := (qe BK108.out 3).trans rfl
         have hfz54_0 := qc BK108.out 0
         have hfz54_1 := qc BK108.out 1
         have hfz54_2 := qc BK108.out 2
         have hfz54_3 := qc BK108.out 3
         go_wp2_with (first | ((with_reducible refine qm (f := 21) rfl ?_); refine qt (some 51) rfl rfl Try.func21 (by kernel_rfl) rfl #[.agg #[.slice Ao44 t121.length co44, .int .i64 t124, .int .i64 t125, .int .i64 t126], .agg #[.slice Ao8 t101.length co8, .int .i64 t104, .int .i64 t105, .int .i64 t106]] rfl (by (try simp only [List.map_toArray, List.map_cons, List.map_nil]); first | done | rfl | (simp only [List.length_drop, List.length_take]; rfl) | (rw [IntWalk.u64_in _ (by omega)] <;> rfl)) ?_; (with_reducible refine (laws_eqVersion.calls kj4 _ _ t121 t124 t125 t126 _ _ t101 t104 t105 t106 true _ ?side1 ?side2 ?side3 ?side4 A48.out).mono ?_); (case side1 => refine (Kd.R_reads' (e := 66) (base := w.heap.size) (ok := fun k_ => ((True ∧ some k_ ≠ (.slice Ao8 t101.length co8 : Value).ownBlock) ∧ some k_ ≠ (.slice Ao12 t109.length co12 : Value).ownBlock)) (n := t121.length) (c := co44) ?_).2.2; exact (by (with_reducible repeat (first | apply Kd.R_alloc | apply Kd.R_drewN | apply Kd.R_drew)); exact (Kd.R_mono (Kd.R_far (p := ⟨gb128, 3, none⟩) (Kd.R_far (p := ⟨gb128, 2, none⟩) (Kd.R_far (p := ⟨gb128, 1, none⟩) (Kd.R_far (p := ⟨gb128, 0, none⟩) (Kd.R_types HO123.out BK128.out (by decide)) (fun _ hk => hk.2) (.slice Ao44 t121.length co44)) (fun _ hk => hk.2) (.int .i64 t124)) (fun _ hk => hk.2) (.int .i64 t125)) (fun _ hk => hk.2) (.int .i64 t126)) (fun _ h_ => h_.1)))); (case side2 => exact (Kd.R_reads' HO123.out).2.1); (case side3 => refine (Kd.R_reads' (e := 66) (base := w.heap.size) (ok := fun k_ => (some k_ ≠ (.slice Ao12 t109.length co12 : Value).ownBlock ∧ some k_ ≠ (.slice Ao44 t121.length co44 : Value).ownBlock)) (n := t101.length) (c := co8) ?_).2.2; exact (by (with_reducible repeat (first | apply Kd.R_alloc | apply Kd.R_drewN | apply Kd.R_drew)); exact (Kd.R_mono (Kd.R_far (p := ⟨gb128, 3, none⟩) (Kd.R_far (p := ⟨gb128, 2, none⟩) (Kd.R_far (p := ⟨gb128, 1, none⟩) (Kd.R_far (p := ⟨gb128, 0, none⟩) (Kd.R_types HO_109000.out BK128.out (by decide)) (fun _ hk => hk.2) (.slice Ao44 t121.length co44)) (fun _ hk => hk.2) (.int .i64 t124)) (fun _ hk => hk.2) (.int .i64 t125)) (fun _ hk => hk.2) (.int .i64 t126)) (fun _ h_ => h_.1)))); (case side4 => exact (Kd.R_reads' HO_109000.out).2.1); rintro e w55 ⟨rfl, hb⟩; refine ⟨_, rfl, ?_⟩; replace HO_109000 := Qz.mk (Kd.R_below (by (with_reducible repeat (first | apply Kd.R_alloc | apply Kd.R_drewN | apply Kd.R_drew)); exact (Kd.R_mono (Kd.R_far (p := ⟨gb128, 3, none⟩) (Kd.R_far (p := ⟨gb128, 2, none⟩) (Kd.R_far (p := ⟨gb128, 1, none⟩) (Kd.R_far (p := ⟨gb128, 0, none⟩) (Kd.R_types HO_109000.out BK128.out (by decide)) (fun _ hk => hk.2) (.slice Ao44 t121.length co44)) (fun _ hk => hk.2) (.int .i64 t124)) (fun _ hk => hk.2) (.int .i64 t125)) (fun _ hk => hk.2) (.int .i64 t126)) (fun _ h_ => h_.1))) hb); replace HO_117000 := Qz.mk (Kd.R_below (by (with_reducible repeat (first | apply Kd.R_alloc | apply Kd.R_drewN | apply Kd.R_drew)); exact (Kd.R_mono (Kd.R_far (p := ⟨gb128, 3, none⟩) (Kd.R_far (p := ⟨gb128, 2, none⟩) (Kd.R_far (p := ⟨gb128, 1, none⟩) (Kd.R_far (p := ⟨gb128, 0, none⟩) (Kd.R_types HO_117000.out BK128.out (by decide)) (fun _ hk => hk.2) (.slice Ao44 t121.length co44)) (fun _ hk => hk.2) (.int .i64 t124)) (fun _ hk => hk.2) (.int .i64 t125)) (fun _ hk => hk.2) (.int .i64 t126)) (fun _ h_ => h_.1))) hb); replace HO123 := Qz.mk (Kd.R_below (by (with_reducible repeat (first | apply Kd.R_alloc | apply Kd.R_drewN | apply Kd.R_drew)); exact (Kd.R_mono (Kd.R_far (p := ⟨gb128, 3, none⟩) (Kd.R_far (p := ⟨gb128, 2, none⟩) (Kd.R_far (p := ⟨gb128, 1, none⟩) (Kd.R_far (p := ⟨gb128, 0, none⟩) (Kd.R_types HO123.out BK128.out (by decide)) (fun _ hk => hk.2) (.slice Ao44 t121.length co44)) (fun _ hk => hk.2) (.int .i64 t124)) (fun _ hk => hk.2) (.int .i64 t125)) (fun _ hk => hk.2) (.int .i64 t126)) (fun _ h_ => h_.1))) hb); replace BK108 := Qz.mk (qr (g := gb108) (o := .cells #[.slice Ao8 t101.length co8, .int .i64 t104, .int .i64 t105, .int .i64 t106] 32 (0, 0)) (by (with_reducible repeat (first | refine qh ?_ _ | refine qj ?_ | refine qg ?_ _)); refine blk_far ?_ NB108_128.out _; (with_reducible repeat (first | refine qh ?_ _ | refine qj ?_ | refine qg ?_ _)); refine blk_far ?_ NB108_128.out _; (with_reducible repeat (first | refine qh ?_ _ | refine qj ?_ | refine qg ?_ _)); refine blk_far ?_ NB108_128.out _; (with_reducible repeat (first | refine qh ?_ _ | refine qj ?_ | refine qg ?_ _)); refine blk_far ?_ NB108_128.out _; (with_reducible repeat (first | refine qh ?_ _ | refine qj ?_ | refine qg ?_ _)); exact BK108.out) hb); replace BK116 := Qz.mk (qr (g := gb116) (o := .cells #[.slice Ao12 t109.length co12, .int .i64 t112, .int .i64 t113, .int .i64 t114] 32 (0, 0)) (by (with_reducible repeat (first | refine qh ?_ _ | refine qj ?_ | refine qg ?_ _)); refine blk_far ?_ NB116_128.out _; (with_reducible repeat (first | refine qh ?_ _ | refine qj ?_ | refine qg ?_ _)); refine blk_far ?_ NB116_128.out _; (with_reducible repeat (first | refine qh ?_ _ | refine qj ?_ | refine qg ?_ _)); refine blk_far ?_ NB116_128.out _; (with_reducible repeat (first | refine qh ?_ _ | refine qj ?_ | refine qg ?_ _)); refine blk_far ?_ NB116_128.out _; (with_reducible repeat (first | refine qh ?_ _ | refine qj ?_ | refine qg ?_ _)); exact BK116.out) hb); replace BK128 := Qz.mk (qr (g := gb128) (o := .cells #[.slice Ao44 t121.length co44, .int .i64 t124, .int .i64 t125, .int .i64 t126] 32 (0, 0)) (by (with_reducible repeat (first | refine qh ?_ _ | refine qj ?_ | refine qg ?_ _)); refine qu (cs := #[.slice Ao44 t121.length co44, .int .i64 t124, .int .i64 t125, .int .i64 0]) ?_ 3 _ rfl; (with_reducible repeat (first | refine qh ?_ _ | refine qj ?_ | refine qg ?_ _)); refine qu (cs := #[.slice Ao44 t121.length co44, .int .i64 t124, .int .i64 0, .int .i64 0]) ?_ 2 _ rfl; (with_reducible repeat (first | refine qh ?_ _ | refine qj ?_ | refine qg ?_ _)); refine qu (cs := #[.slice Ao44 t121.length co44, .int .i64 0, .int .i64 0, .int .i64 0]) ?_ 1 _ rfl; (with_reducible repeat (first | refine qh ?_ _ | refine qj ?_ | refine qg ?_ _)); refine qu (cs := #[.slice none 0 0, .int .i64 0, .int .i64 0, .int .i64 0]) ?_ 0 _ rfl; (with_reducible repeat (first | refine qh ?_ _ | refine qj ?_ | refine qg ?_ _)); exact BK128.out) hb); replace HB := Qz.mk (qp (by repeat (first | (with_reducible first | exact HB.out | apply qf | apply qa | apply qd | refine qi ?_ GE108.out | refine qi ?_ GE116.out | refine qi ?_ GE128.out) | exact HB.out)) hb); (try clear hb); (try clear hk)))
         go_meet
         case rel => exact ⟨_, ((t127 != t107)), (by first | rfl | (simp; done) | (simp [*]; done)), H', ⟨by have := HJ4.out; first | omega | exact Nat.le_refl _⟩, ⟨by (with_reducible repeat (first | apply Kd.R_alloc | apply Kd.R_drewN | apply Kd.R_drew)); exact HO_109000.out⟩, ⟨by (with_reducible repeat (first | apply Kd.R_alloc | apply Kd.R_drewN | apply Kd.R_drew)); exact HO_117000.out⟩, ⟨by (with_reducible repeat (first | apply Kd.R_alloc | apply Kd.R_drewN | apply Kd.R_drew)); exact Kd.R_mono HO123.out (fun _ hk => ⟨hk.1.2, hk.2⟩)⟩, ⟨by (with_reducible repeat (first | refine qh ?_ _ | refine qj ?_ | refine qg ?_ _)); exact BK108.out⟩, ⟨by (with_reducible repeat (first | refine qh ?_ _ | refine qj ?_ | refine qg ?_ _)); exact BK116.out⟩, ⟨by (with_reducible repeat (first | refine qh ?_ _ | refine qj ?_ | refine qg ?_ _)); exact BK128.out⟩, ⟨by repeat (first | (with_reducible first | exact HB.out | apply qf | apply qa | apply qd | refine qi ?_ GE108.out | refine qi ?_ GE116.out | refine qi ?_ GE128.out) | exact HB.out)⟩⟩
        ·replace c49 := Bool.eq_false_iff.mpr c49
         subst c49
         have H1 : (laws_FnExactReadVersion.j1 kj4 t118 true t119 t112 t113 t114) = some r := by rw [if_neg (show ¬ (false = true) by decide)] at H; exact H
         clear H
         have H := H1
         clear H1
         have H' := Qz.mk H
         clear H
         have hnb56 := NB128_108.out
         have hnc56 := NB108_128.out
         have hnb57 := NB128_116.out
         have hnc57 := NB116_128.out
         have hcz58_0 : w43.cell? ⟨gb128, 0, none⟩ = some (.slice none 0 0) := (qe BK128.out 0).trans rfl
         have hcz58_1 : w43.cell? ⟨gb128, 1, none⟩ = some (.int .i64 0) := (qe BK128.out 1).trans rfl
         have hcz58_2 : w43.cell? ⟨gb128, 2, none⟩ = some (.int .i64 0) := (qe BK128.out 2).trans rfl
         have hcz58_3 : w43.cell? ⟨gb128, 3, none⟩ = some (.int .i64 0) := (qe BK128.out 3).trans rfl
         have hfz58_0 := qc BK128.out 0
         have hfz58_1 := qc BK128.out 1
         have hfz58_2 := qc BK128.out 2
         have hfz58_3 := qc BK128.out 3
         have hnb59 := NB108_116.out
         have hnc59 := NB116_108.out
         have hcz60_0 : w43.cell? ⟨gb108, 0, none⟩ = some (.slice Ao8 t101.length co8) := (qe BK108.out 0).trans rfl
         have hcz60_1 : w43.cell? ⟨gb108, 1, none⟩ = some (.int .i64 t104) := (qe BK108.out 1).trans rfl
         have hcz60_2 : w43.cell? ⟨gb108, 2, none⟩ = some (.int .i64 t105) := (qe BK108.out 2).trans rfl
         have hcz60_3 : w43.cell? ⟨gb108, 3, none⟩ = some (.int .i64 t106) := (qe BK108.out 3).trans rfl
         have hfz60_0 := qc BK108.out 0
         have hfz60_1 := qc BK108.out 1
         have hfz60_2 := qc BK108.out 2
         have hfz60_3 := qc BK108.out 3
         go_wp2_with (first | ((with_reducible refine qm (f := 21) rfl ?_); refine qt (some 51) rfl rfl Try.func21 (by kernel_rfl) rfl #[.agg #[.slice Ao44 t121.length co44, .int .i64 t124, .int .i64 t125, .int .i64 t126], .agg #[.slice Ao8 t101.length co8, .int .i64 t104, .int .i64 t105, .int .i64 t106]] rfl (by (try simp only [List.map_toArray, List.map_cons, List.map_nil]); first | done | rfl | (simp only [List.length_drop, List.length_take]; rfl) | (rw [IntWalk.u64_in _ (by omega)] <;> rfl)) ?_; (with_reducible refine (laws_eqVersion.calls kj4 _ _ t121 t124 t125 t126 _ _ t101 t104 t105 t106 false _ ?side1 ?side2 ?side3 ?side4 A48.out).mono ?_); (case side1 => refine (Kd.R_reads' (e := 66) (base := w.heap.size) (ok := fun k_ => ((True ∧ some k_ ≠ (.slice Ao8 t101.length co8 : Value).ownBlock) ∧ some k_ ≠ (.slice Ao12 t109.length co12 : Value).ownBlock)) (n := t121.length) (c := co44) ?_).2.2; exact (by (with_reducible repeat (first | apply Kd.R_alloc | apply Kd.R_drewN | apply Kd.R_drew)); exact (Kd.R_mono (Kd.R_far (p := ⟨gb128, 3, none⟩) (Kd.R_far (p := ⟨gb128, 2, none⟩) (Kd.R_far (p := ⟨gb128, 1, none⟩) (Kd.R_far (p := ⟨gb128, 0, none⟩) (Kd.R_types HO123.out BK128.out (by decide)) (fun _ hk => hk.2) (.slice Ao44 t121.length co44)) (fun _ hk => hk.2) (.int .i64 t124)) (fun _ hk => hk.2) (.int .i64 t125)) (fun _ hk => hk.2) (.int .i64 t126)) (fun _ h_ => h_.1)))); (case side2 => exact (Kd.R_reads' HO123.out).2.1); (case side3 => refine (Kd.R_reads' (e := 66) (base := w.heap.size) (ok := fun k_ => (some k_ ≠ (.slice Ao12 t109.length co12 : Value).ownBlock ∧ some k_ ≠ (.slice Ao44 t121.length co44 : Value).ownBlock)) (n := t101.length) (c := co8) ?_).2.2; exact (by (with_reducible repeat (first | apply Kd.R_alloc | apply Kd.R_drewN | apply Kd.R_drew)); exact (Kd.R_mono (Kd.R_far (p := ⟨gb128, 3, none⟩) (Kd.R_far (p := ⟨gb128, 2, none⟩) (Kd.R_far (p := ⟨gb128, 1, none⟩) (Kd.R_far (p := ⟨gb128, 0, none⟩) (Kd.R_types HO_109000.out BK128.out (by decide)) (fun _ hk => hk.2) (.slice Ao44 t121.length co44)) (fun _ hk => hk.2) (.int .i64 t124)) (fun _ hk => hk.2) (.int .i64 t125)) (fun _ hk => hk.2) (.int .i64 t126)) (fun _ h_ => h_.1)))); (case side4 => exact (Kd.R_reads' HO_109000.out).2.1); rintro e w61 ⟨rfl, hb⟩; refine ⟨_, rfl, ?_⟩; replace HO_109000 := Qz.mk (Kd.R_below (by (with_reducible repeat (first | apply Kd.R_alloc | apply Kd.R_drewN | apply Kd.R_drew)); exact (Kd.R_mono (Kd.R_far (p := ⟨gb128, 3, none⟩) (Kd.R_far (p := ⟨gb128, 2, none⟩) (Kd.R_far (p := ⟨gb128, 1, none⟩) (Kd.R_far (p := ⟨gb128, 0, none⟩) (Kd.R_types HO_109000.out BK128.out (by decide)) (fun _ hk => hk.2) (.slice Ao44 t121.length co44)) (fun _ hk => hk.2) (.int .i64 t124)) (fun _ hk => hk.2) (.int .i64 t125)) (fun _ hk => hk.2) (.int .i64 t126)) (fun _ h_ => h_.1))) hb); replace HO_117000 := Qz.mk (Kd.R_below (by (with_reducible repeat (first | apply Kd.R_alloc | apply Kd.R_drewN | apply Kd.R_drew)); exact (Kd.R_mono (Kd.R_far (p := ⟨gb128, 3, none⟩) (Kd.R_far (p := ⟨gb128, 2, none⟩) (Kd.R_far (p := ⟨gb128, 1, none⟩) (Kd.R_far (p := ⟨gb128, 0, none⟩) (Kd.R_types HO_117000.out BK128.out (by decide)) (fun _ hk => hk.2) (.slice Ao44 t121.length co44)) (fun _ hk => hk.2) (.int .i64 t124)) (fun _ hk => hk.2) (.int .i64 t125)) (fun _ hk => hk.2) (.int .i64 t126)) (fun _ h_ => h_.1))) hb); replace HO123 := Qz.mk (Kd.R_below (by (with_reducible repeat (first | apply Kd.R_alloc | apply Kd.R_drewN | apply Kd.R_drew)); exact (Kd.R_mono (Kd.R_far (p := ⟨gb128, 3, none⟩) (Kd.R_far (p := ⟨gb128, 2, none⟩) (Kd.R_far (p := ⟨gb128, 1, none⟩) (Kd.R_far (p := ⟨gb128, 0, none⟩) (Kd.R_types HO123.out BK128.out (by decide)) (fun _ hk => hk.2) (.slice Ao44 t121.length co44)) (fun _ hk => hk.2) (.int .i64 t124)) (fun _ hk => hk.2) (.int .i64 t125)) (fun _ hk => hk.2) (.int .i64 t126)) (fun _ h_ => h_.1))) hb); replace BK108 := Qz.mk (qr (g := gb108) (o := .cells #[.slice Ao8 t101.length co8, .int .i64 t104, .int .i64 t105, .int .i64 t106] 32 (0, 0)) (by (with_reducible repeat (first | refine qh ?_ _ | refine qj ?_ | refine qg ?_ _)); refine blk_far ?_ NB108_128.out _; (with_reducible repeat (first | refine qh ?_ _ | refine qj ?_ | refine qg ?_ _)); refine blk_far ?_ NB108_128.out _; (with_reducible repeat (first | refine qh ?_ _ | refine qj ?_ | refine qg ?_ _)); refine blk_far ?_ NB108_128.out _; (with_reducible repeat (first | refine qh ?_ _ | refine qj ?_ | refine qg ?_ _)); refine blk_far ?_ NB108_128.out _; (with_reducible repeat (first | refine qh ?_ _ | refine qj ?_ | refine qg ?_ _)); exact BK108.out) hb); replace BK116 := Qz.mk (qr (g := gb116) (o := .cells #[.slice Ao12 t109.length co12, .int .i64 t112, .int .i64 t113, .int .i64 t114] 32 (0, 0)) (by (with_reducible repeat (first | refine qh ?_ _ | refine qj ?_ | refine qg ?_ _)); refine blk_far ?_ NB116_128.out _; (with_reducible repeat (first | refine qh ?_ _ | refine qj ?_ | refine qg ?_ _)); refine blk_far ?_ NB116_128.out _; (with_reducible repeat (first | refine qh ?_ _ | refine qj ?_ | refine qg ?_ _)); refine blk_far ?_ NB116_128.out _; (with_reducible repeat (first | refine qh ?_ _ | refine qj ?_ | refine qg ?_ _)); refine blk_far ?_ NB116_128.out _; (with_reducible repeat (first | refine qh ?_ _ | refine qj ?_ | refine qg ?_ _)); exact BK116.out) hb); replace BK128 := Qz.mk (qr (g := gb128) (o := .cells #[.slice Ao44 t121.length co44, .int .i64 t124, .int .i64 t125, .int .i64 t126] 32 (0, 0)) (by (with_reducible repeat (first | refine qh ?_ _ | refine qj ?_ | refine qg ?_ _)); refine qu (cs := #[.slice Ao44 t121.length co44, .int .i64 t124, .int .i64 t125, .int .i64 0]) ?_ 3 _ rfl; (with_reducible repeat (first | refine qh ?_ _ | refine qj ?_ | refine qg ?_ _)); refine qu (cs := #[.slice Ao44 t121.length co44, .int .i64 t124, .int .i64 0, .int .i64 0]) ?_ 2 _ rfl; (with_reducible repeat (first | refine qh ?_ _ | refine qj ?_ | refine qg ?_ _)); refine qu (cs := #[.slice Ao44 t121.length co44, .int .i64 0, .int .i64 0, .int .i64 0]) ?_ 1 _ rfl; (with_reducible repeat (first | refine qh ?_ _ | refine qj ?_ | refine qg ?_ _)); refine qu (cs := #[.slice none 0 0, .int .i64 0, .int .i64 0, .int .i64 0]) ?_ 0 _ rfl; (with_reducible repeat (first | refine qh ?_ _ | refine qj ?_ | refine qg ?_ _)); exact BK128.out) hb); replace HB := Qz.mk (qp (by repeat (first | (with_reducible first | exact HB.out | apply qf | apply qa | apply qd | refine qi ?_ GE108.out | refine qi ?_ GE116.out | refine qi ?_ GE128.out) | exact HB.out)) hb); (try clear hb); (try clear hk)))
         go_meet
         case rel => exact ⟨_, (true), (by first | rfl | (simp; done) | (simp [*]; done)), H', ⟨by have := HJ4.out; first | omega | exact Nat.le_refl _⟩, ⟨by (with_reducible repeat (first | apply Kd.R_alloc | apply Kd.R_drewN | apply Kd.R_drew)); exact HO_109000.out⟩, ⟨by (with_reducible repeat (first | apply Kd.R_alloc | apply Kd.R_drewN | apply Kd.R_drew)); exact HO_117000.out⟩, ⟨by (with_reducible repeat (first | apply Kd.R_alloc | apply Kd.R_drewN | apply Kd.R_drew)); exact Kd.R_mono HO123.out (fun _ hk => ⟨hk.1.2, hk.2⟩)⟩, ⟨by (with_reducible repeat (first | refine qh ?_ _ | refine qj ?_ | refine qg ?_ _)); exact BK108.out⟩, ⟨by (with_reducible repeat (first | refine qh ?_ _ | refine qj ?_ | refine qg ?_ _)); exact BK116.out⟩, ⟨by (with_reducible repeat (first | refine qh ?_ _ | refine qj ?_ | refine qg ?_ _)); exact BK128.out⟩, ⟨by repeat (first | (with_reducible first | exact HB.out | apply qf | apply qa | apply qd | refine qi ?_ GE108.out | refine qi ?_ GE116.out | refine qi ?_ GE128.out) | exact HB.out)⟩⟩
       case rest =>
        clear HC36
        try clear c1
        try clear c2
        try clear c2b0
        try clear c2b1
        try clear p2
        try clear c3
        try clear c4
        try clear c5
        try clear c11
        try clear c13
        try clear c16
        try clear c17
        try clear c21
        try clear c23
        try clear c25
        try clear c28
        try clear c28b0
        try clear c29
        try clear c34
        try clear c34b0
        try clear c34b1
        try clear c37
        try clear c45
        try clear c46
        try clear c47
        try clear c48
        try clear c49
        try clear c50
        try clear c51
        try clear c53
        try clear c56
        try clear c57
        try clear c59
        try clear hcz14_0
        try clear hcz14_1
        try clear hcz14_2
        try clear hcz14_3
        try clear hcz18_0
        try clear hcz18_1
        try clear hcz18_2
        try clear hcz18_3
        try clear hcz19_0
        try clear hcz19_1
        try clear hcz19_2
        try clear hcz19_3
        try clear hcz22_0
        try clear hcz22_1
        try clear hcz22_2
        try clear hcz22_3
        try clear hcz23_0
        try clear hcz23_1
        try clear hcz23_2
        try clear hcz23_3
        try clear hcz30_0
        try clear hcz30_1
        try clear hcz30_2
        try clear hcz30_3
        try clear hcz32_0
        try clear hcz32_1
        try clear hcz32_2
        try clear hcz32_3
        try clear hcz38_0
        try clear hcz38_1
        try clear hcz38_2
        try clear hcz38_3
        try clear hcz40_0
        try clear hcz40_1
        try clear hcz40_2
        try clear hcz40_3
        try clear hcz47_0
        try clear hcz47_1
        try clear hcz47_2
        try clear hcz47_3
        try clear hcz52_0
        try clear hcz52_1
        try clear hcz52_2
        try clear hcz52_3
        try clear hcz54_0
        try clear hcz54_1
        try clear hcz54_2
        try clear hcz54_3
        try clear hcz58_0
        try clear hcz58_1
        try clear hcz58_2
        try clear hcz58_3
        try clear hcz60_0
        try clear hcz60_1
        try clear hcz60_2
        try clear hcz60_3
        try clear hcz9_0
        try clear hcz9_1
        try clear hcz9_2
        try clear hcz9_3
        try clear hfz14_0
        try clear hfz14_1
        try clear hfz14_2
        try clear hfz14_3
        try clear hfz18_0
        try clear hfz18_1
        try clear hfz18_2
        try clear hfz18_3
        try clear hfz19_0
        try clear hfz19_1
        try clear hfz19_2
        try clear hfz19_3
        try clear hfz22_0
        try clear hfz22_1
        try clear hfz22_2
        try clear hfz22_3
        try clear hfz23_0
        try clear hfz23_1
        try clear hfz23_2
        try clear hfz23_3
        try clear hfz30_0
        try clear hfz30_1
        try clear hfz30_2
        try clear hfz30_3
        try clear hfz32_0
        try clear hfz32_1
        try clear hfz32_2
        try clear hfz32_3
        try clear hfz38_0
        try clear hfz38_1
        try clear hfz38_2
        try clear hfz38_3
        try clear hfz40_0
        try clear hfz40_1
        try clear hfz40_2
        try clear hfz40_3
        try clear hfz47_0
        try clear hfz47_1
        try clear hfz47_2
        try clear hfz47_3
        try clear hfz52_0
        try clear hfz52_1
        try clear hfz52_2
        try clear hfz52_3
        try clear hfz54_0
        try clear hfz54_1
        try clear hfz54_2
        try clear hfz54_3
        try clear hfz58_0
        try clear hfz58_1
        try clear hfz58_2
        try clear hfz58_3
        try clear hfz60_0
        try clear hfz60_1
        try clear hfz60_2
        try clear hfz60_3
        try clear hfz9_0
        try clear hfz9_1
        try clear hfz9_2
        try clear hfz9_3
        try clear p2
        obtain ⟨kq, x57_35, rfl, HA, HJ35, HO_109000, HO_117000, HO_129000, BK108, BK116, BK128, HB⟩ := hcut
        have hl117000_35 := (Kd.R_reads' HO_117000.out).1
        rw [hl117000_35] at HO_117000
        (try simp only [hl117000_35])
        (try simp only [hl117000_35] at BK108)
        (try simp only [hl117000_35] at BK116)
        (try simp only [hl117000_35] at BK128)
        (try simp only [hl117000_35] at HO_109000)
        (try simp only [hl117000_35] at HO_129000)
        cases kq with
        | zero => exact absurd HA.out (by simp [laws_FnExactReadVersion.j1])
        | succ kj35 =>
         have H := HA.out
         clear HA
         simp only [laws_FnExactReadVersion.j1] at H
         by_cases c62 : x57_35 = true
         ·subst c62
          have H1 : (some false) = some r := by rw [if_pos rfl] at H; exact H
          clear H
          have H := H1
          clear H1
          obtain rfl := Option.some.inj H
          go_wp2
          go_ret
          exact ⟨by first | rfl | (simp [qo, qn] <;> rfl) | (simp [*, qo, qn] <;> rfl), by repeat (first | (with_reducible first | exact HB.out | apply qf | apply qa | apply qd | refine qi ?_ GE108.out | refine qi ?_ GE116.out | refine qi ?_ GE128.out) | exact HB.out)⟩
         ·replace c62 := Bool.eq_false_iff.mpr c62
          subst c62
          have H1 : ((laws_heldVersion.f kj35 t119 t112 t113 t114 1).bind fun t130 => (if t130 < 0 then (some false) else (if t130 = t118 then (some true) else (some false)))) = some r := by rw [if_neg (show ¬ (false = true) by decide)] at H; exact H
          clear H
          have H := H1
          clear H1
          replace H := Option.bind_eq_some_iff.mp H
          obtain ⟨t130, A630, H⟩ := H
          replace H : (if t130 < 0 then (some false) else (if t130 = t118 then (some true) else (some false))) = some r := H
          have A63 := Qz.mk A630
          clear A630
          by_cases c64 : t130 < 0
          ·rw [if_pos c64] at H
           have c64b0 : decide (t130 < 0) = true := decide_eq_true c64
           clear c64
           obtain rfl := Option.some.inj H
           have hnb65 := NB116_108.out
           have hnc65 := NB108_116.out
           have hnb66 := NB116_128.out
           have hnc66 := NB128_116.out
           have hcz67_0 : wc.cell? ⟨gb116, 0, none⟩ = some (.slice Ao12 t119.length co12) := (qe BK116.out 0).trans rfl
           have hcz67_1 : wc.cell? ⟨gb116, 1, none⟩ = some (.int .i64 t112) := (qe BK116.out 1).trans rfl
           have hcz67_2 : wc.cell? ⟨gb116, 2, none⟩ = some (.int .i64 t113) := (qe BK116.out 2).trans rfl
           have hcz67_3 : wc.cell? ⟨gb116, 3, none⟩ = some (.int .i64 t114) := (qe BK116.out 3).trans rfl
           have hfz67_0 := qc BK116.out 0
           have hfz67_1 := qc BK116.out 1
           have hfz67_2 := qc BK116.out 2
           have hfz67_3 := qc BK116.out 3
           go_wp2_with (first | ((with_reducible refine qm (f := 25) rfl ?_); refine qt (some 60) rfl rfl Try.func25 (by kernel_rfl) rfl #[.agg #[.slice Ao12 t119.length co12, .int .i64 t112, .int .i64 t113, .int .i64 t114], .int .i64 1] rfl (by (try simp only [List.map_toArray, List.map_cons, List.map_nil]); first | done | rfl | (simp only [List.length_drop, List.length_take]; rfl) | (rw [IntWalk.u64_in _ (by omega)] <;> rfl)) ?_; (with_reducible refine (laws_heldVersion.calls kj35 _ _ t119 t112 t113 t114 1 t130 _ ?side1 ?side2 A63.out).mono ?_); (case side1 => repeat (first | exact (Kd.R_reads' HO_117000.out).2.2 | (with_reducible refine Kd.C_alloc ?_ _) | (with_reducible refine Kd.C_drewN ?_ _) | (with_reducible refine Kd.C_drew ?_))); (case side2 => exact (Kd.R_reads' HO_117000.out).2.1); rintro e w68 ⟨rfl, hb⟩; refine ⟨_, rfl, ?_⟩; replace HO_109000 := Qz.mk (Kd.R_below (by (with_reducible repeat (first | apply Kd.R_alloc | apply Kd.R_drewN | apply Kd.R_drew)); exact HO_109000.out) hb); replace HO_117000 := Qz.mk (Kd.R_below (by (with_reducible repeat (first | apply Kd.R_alloc | apply Kd.R_drewN | apply Kd.R_drew)); exact HO_117000.out) hb); replace HO_129000 := Qz.mk (Kd.R_below (by (with_reducible repeat (first | apply Kd.R_alloc | apply Kd.R_drewN | apply Kd.R_drew)); exact HO_129000.out) hb); replace BK108 := Qz.mk (qr (g := gb108) (o := .cells #[.slice Ao8 t101.length co8, .int .i64 t104, .int .i64 t105, .int .i64 t106] 32 (0, 0)) (by (with_reducible repeat (first | refine qh ?_ _ | refine qj ?_ | refine qg ?_ _)); exact BK108.out) hb); replace BK116 := Qz.mk (qr (g := gb116) (o := .cells #[.slice Ao12 t119.length co12, .int .i64 t112, .int .i64 t113, .int .i64 t114] 32 (0, 0)) (by (with_reducible repeat (first | refine qh ?_ _ | refine qj ?_ | refine qg ?_ _)); exact BK116.out) hb); replace BK128 := Qz.mk (qr (g := gb128) (o := .cells #[.slice Ao44 t121.length co44, .int .i64 t124, .int .i64 t125, .int .i64 t126] 32 (0, 0)) (by (with_reducible repeat (first | refine qh ?_ _ | refine qj ?_ | refine qg ?_ _)); exact BK128.out) hb); replace HB := Qz.mk (qp (by repeat (first | (with_reducible first | exact HB.out | apply qf | apply qa | apply qd | refine qi ?_ GE108.out | refine qi ?_ GE116.out | refine qi ?_ GE128.out) | exact HB.out)) hb); (try clear hb); (try clear hk)))
           go_ret
           exact ⟨by first | rfl | (simp [qo, qn] <;> rfl) | (simp [*, qo, qn] <;> rfl), by repeat (first | (with_reducible first | exact HB.out | apply qf | apply qa | apply qd | refine qi ?_ GE108.out | refine qi ?_ GE116.out | refine qi ?_ GE128.out) | exact HB.out)⟩
          ·rw [if_neg c64] at H
           have c64b0 : decide (t130 < 0) = false := decide_eq_false c64
           clear c64
           by_cases c69 : t130 = t118
           ·rw [if_pos c69] at H
            have c69b0 : (t130 == t118) = true := beq_iff_eq.mpr c69
            have c69b1 : (t130 != t118) = false := bne_eq_false_iff_eq.mpr c69
            clear c69
            obtain rfl := Option.some.inj H
            have hnb70 := NB116_108.out
            have hnc70 := NB108_116.out
            have hnb71 := NB116_128.out
            have hnc71 := NB128_116.out
            have hcz72_0 : wc.cell? ⟨gb116, 0, none⟩ = some (.slice Ao12 t119.length co12) := (qe BK116.out 0).trans rfl
            have hcz72_1 : wc.cell? ⟨gb116, 1, none⟩ = some (.int .i64 t112) := (qe BK116.out 1).trans rfl
            have hcz72_2 : wc.cell? ⟨gb116, 2, none⟩ = some (.int .i64 t113) := (qe BK116.out 2).trans rfl
            have hcz72_3 : wc.cell? ⟨gb116, 3, none⟩ = some (.int .i64 t114) := (qe BK116.out 3).trans rfl
            have hfz72_0 := qc BK116.out 0
            have hfz72_1 := qc BK116.out 1
            have hfz72_2 := qc BK116.out 2
            have hfz72_3 := qc BK116.out 3
            go_wp2_with (first | ((with_reducible refine qm (f := 25) rfl ?_); refine qt (some 60) rfl rfl Try.func25 (by kernel_rfl) rfl #[.agg #[.slice Ao12 t119.length co12, .int .i64 t112, .int .i64 t113, .int .i64 t114], .int .i64 1] rfl (by (try simp only [List.map_toArray, List.map_cons, List.map_nil]); first | done | rfl | (simp only [List.length_drop, List.length_take]; rfl) | (rw [IntWalk.u64_in _ (by omega)] <;> rfl)) ?_; (with_reducible refine (laws_heldVersion.calls kj35 _ _ t119 t112 t113 t114 1 t130 _ ?side1 ?side2 A63.out).mono ?_); (case side1 => repeat (first | exact (Kd.R_reads' HO_117000.out).2.2 | (with_reducible refine Kd.C_alloc ?_ _) | (with_reducible refine Kd.C_drewN ?_ _) | (with_reducible refine Kd.C_drew ?_))); (case side2 => exact (Kd.R_reads' HO_117000.out).2.1); rintro e w73 ⟨rfl, hb⟩; refine ⟨_, rfl, ?_⟩; replace HO_109000 := Qz.mk (Kd.R_below (by (with_reducible repeat (first | apply Kd.R_alloc | apply Kd.R_drewN | apply Kd.R_drew)); exact HO_109000.out) hb); replace HO_117000 := Qz.mk (Kd.R_below (by (with_reducible repeat (first | apply Kd.R_alloc | apply Kd.R_drewN | apply Kd.R_drew)); exact HO_117000.out) hb); replace HO_129000 := Qz.mk (Kd.R_below (by (with_reducible repeat (first | apply Kd.R_alloc | apply Kd.R_drewN | apply Kd.R_drew)); exact HO_129000.out) hb); replace BK108 := Qz.mk (qr (g := gb108) (o := .cells #[.slice Ao8 t101.length co8, .int .i64 t104, .int .i64 t105, .int .i64 t106] 32 (0, 0)) (by (with_reducible repeat (first | refine qh ?_ _ | refine qj ?_ | refine qg ?_ _)); exact BK108.out) hb); replace BK116 := Qz.mk (qr (g := gb116) (o := .cells #[.slice Ao12 t119.length co12, .int .i64 t112, .int .i64 t113, .int .i64 t114] 32 (0, 0)) (by (with_reducible repeat (first | refine qh ?_ _ | refine qj ?_ | refine qg ?_ _)); exact BK116.out) hb); replace BK128 := Qz.mk (qr (g := gb128) (o := .cells #[.slice Ao44 t121.length co44, .int .i64 t124, .int .i64 t125, .int .i64 t126] 32 (0, 0)) (by (with_reducible repeat (first | refine qh ?_ _ | refine qj ?_ | refine qg ?_ _)); exact BK128.out) hb); replace HB := Qz.mk (qp (by repeat (first | (with_reducible first | exact HB.out | apply qf | apply qa | apply qd | refine qi ?_ GE108.out | refine qi ?_ GE116.out | refine qi ?_ GE128.out) | exact HB.out)) hb); (try clear hb); (try clear hk)))
            go_ret
            exact ⟨by first | rfl | (simp [qo, qn] <;> rfl) | (simp [*, qo, qn] <;> rfl), by repeat (first | (with_reducible first | exact HB.out | apply qf | apply qa | apply qd | refine qi ?_ GE108.out | refine qi ?_ GE116.out | refine qi ?_ GE128.out) | exact HB.out)⟩
           ·rw [if_neg c69] at H
            have c69b0 : (t130 == t118) = false := beq_eq_false_iff_ne.mpr c69
            have c69b1 : (t130 != t118) = true := bne_iff_ne.mpr c69
            obtain rfl := Option.some.inj H
            have hnb74 := NB116_108.out
            have hnc74 := NB108_116.out
            have hnb75 := NB116_128.out
            have hnc75 := NB128_116.out
            have hcz76_0 : wc.cell? ⟨gb116, 0, none⟩ = some (.slice Ao12 t119.length co12) := (qe BK116.out 0).trans rfl
            have hcz76_1 : wc.cell? ⟨gb116, 1, none⟩ = some (.int .i64 t112) := (qe BK116.out 1).trans rfl
            have hcz76_2 : wc.cell? ⟨gb116, 2, none⟩ = some (.int .i64 t113) := (qe BK116.out 2).trans rfl
            have hcz76_3 : wc.cell? ⟨gb116, 3, none⟩ = some (.int .i64 t114) := (qe BK116.out 3).trans rfl
            have hfz76_0 := qc BK116.out 0
            have hfz76_1 := qc BK116.out 1
            have hfz76_2 := qc BK116.out 2
            have hfz76_3 := qc BK116.out 3
            go_wp2_with (first | ((with_reducible refine qm (f := 25) rfl ?_); refine qt (some 60) rfl rfl Try.func25 (by kernel_rfl) rfl #[.agg #[.slice Ao12 t119.length co12, .int .i64 t112, .int .i64 t113, .int .i64 t114], .int .i64 1] rfl (by (try simp only [List.map_toArray, List.map_cons, List.map_nil]); first | done | rfl | (simp only [List.length_drop, List.length_take]; rfl) | (rw [IntWalk.u64_in _ (by omega)] <;> rfl)) ?_; (with_reducible refine (laws_heldVersion.calls kj35 _ _ t119 t112 t113 t114 1 t130 _ ?side1 ?side2 A63.out).mono ?_); (case side1 => repeat (first | exact (Kd.R_reads' HO_117000.out).2.2 | (with_reducible refine Kd.C_alloc ?_ _) | (with_reducible refine Kd.C_drewN ?_ _) | (with_reducible refine Kd.C_drew ?_))); (case side2 => exact (Kd.R_reads' HO_117000.out).2.1); rintro e w77 ⟨rfl, hb⟩; refine ⟨_, rfl, ?_⟩; replace HO_109000 := Qz.mk (Kd.R_below (by (with_reducible repeat (first | apply Kd.R_alloc | apply Kd.R_drewN | apply Kd.R_drew)); exact HO_109000.out) hb); replace HO_117000 := Qz.mk (Kd.R_below (by (with_reducible repeat (first | apply Kd.R_alloc | apply Kd.R_drewN | apply Kd.R_drew)); exact HO_117000.out) hb); replace HO_129000 := Qz.mk (Kd.R_below (by (with_reducible repeat (first | apply Kd.R_alloc | apply Kd.R_drewN | apply Kd.R_drew)); exact HO_129000.out) hb); replace BK108 := Qz.mk (qr (g := gb108) (o := .cells #[.slice Ao8 t101.length co8, .int .i64 t104, .int .i64 t105, .int .i64 t106] 32 (0, 0)) (by (with_reducible repeat (first | refine qh ?_ _ | refine qj ?_ | refine qg ?_ _)); exact BK108.out) hb); replace BK116 := Qz.mk (qr (g := gb116) (o := .cells #[.slice Ao12 t119.length co12, .int .i64 t112, .int .i64 t113, .int .i64 t114] 32 (0, 0)) (by (with_reducible repeat (first | refine qh ?_ _ | refine qj ?_ | refine qg ?_ _)); exact BK116.out) hb); replace BK128 := Qz.mk (qr (g := gb128) (o := .cells #[.slice Ao44 t121.length co44, .int .i64 t124, .int .i64 t125, .int .i64 t126] 32 (0, 0)) (by (with_reducible repeat (first | refine qh ?_ _ | refine qj ?_ | refine qg ?_ _)); exact BK128.out) hb); replace HB := Qz.mk (qp (by repeat (first | (with_reducible first | exact HB.out | apply qf | apply qa | apply qd | refine qi ?_ GE108.out | refine qi ?_ GE116.out | refine qi ?_ GE128.out) | exact HB.out)) hb); (try clear hb); (try clear hk)))
            go_ret
            exact ⟨by first | rfl | (simp [qo, qn] <;> rfl) | (simp [*, qo, qn] <;> rfl), by repeat (first | (with_reducible first | exact HB.out | apply qf | apply qa | apply qd | refine qi ?_ GE108.out | refine qi ?_ GE116.out | refine qi ?_ GE128.out) | exact HB.out)⟩
      ·rw [if_neg c34] at H
       have c34b0 : (t120 == t118) = false := beq_eq_false_iff_ne.mpr c34
       have c34b1 : (t120 != t118) = true := bne_iff_ne.mpr c34
       obtain rfl := Option.some.inj H
       have hnb78 := NB116_108.out
       have hnc78 := NB108_116.out
       have hcz79_0 : wc.cell? ⟨gb116, 0, none⟩ = some (.slice Ao12 t109.length co12) := (qe BK116.out 0).trans rfl
       have hcz79_1 : wc.cell? ⟨gb116, 1, none⟩ = some (.int .i64 t112) := (qe BK116.out 1).trans rfl
       have hcz79_2 : wc.cell? ⟨gb116, 2, none⟩ = some (.int .i64 t113) := (qe BK116.out 2).trans rfl
       have hcz79_3 : wc.cell? ⟨gb116, 3, none⟩ = some (.int .i64 t114) := (qe BK116.out 3).trans rfl
       have hfz79_0 := qc BK116.out 0
       have hfz79_1 := qc BK116.out 1
       have hfz79_2 := qc BK116.out 2
       have hfz79_3 := qc BK116.out 3
       go_wp2_with (first | ((with_reducible refine qm (f := 23) rfl ?_); refine qt (some 35) rfl rfl Try.func23 (by kernel_rfl) rfl #[.agg #[.slice Ao12 t109.length co12, .int .i64 t112, .int .i64 t113, .int .i64 t114], .int .i64 1] rfl (by (try simp only [List.map_toArray, List.map_cons, List.map_nil]); first | done | rfl | (simp only [List.length_drop, List.length_take]; rfl) | (rw [IntWalk.u64_in _ (by omega)] <;> rfl)) ?_; (with_reducible refine (laws_markVersion.calls kj4 (fun k_ => some k_ = (.slice Ao12 t109.length co12 : Value).ownBlock) (.slice Ao12 t109.length co12) t109 t112 t113 t114 1 t118 t119 w _ ?side1 ?side2 A26.out).mono ?_); (case side1 => repeat (first | (with_reducible first | exact HB.out | apply qf | apply qa | apply qd | refine qi ?_ GE108.out | refine qi ?_ GE116.out) | exact HB.out)); (case side2 => exact Kd.R_tight rfl HO_117000.out); rintro e w80 ⟨rfl, hy0, hb, hkp⟩; refine ⟨_, rfl, ?_⟩; replace HO_109000 := Qz.mk (Kd.R_mono (ok' := fun k_ => some k_ ≠ (.slice Ao12 t109.length co12 : Value).ownBlock) (Kd.R_keptB (HO_109000.out) hkp (fun k_ hk_ hs_ => (hk_) hs_)) (fun k_ hk_ => hk_.1)); replace BK108 := Qz.mk (blk_kept (by (with_reducible repeat (first | refine qh ?_ _ | refine qj ?_ | refine qg ?_ _)); exact BK108.out) hkp (fun hs_ => (fun e_ => (Kd.R_ne HO_117000.out BK108.out (by decide)) e_) hs_)); replace BK116 := Qz.mk (blk_kept (by (with_reducible repeat (first | refine qh ?_ _ | refine qj ?_ | refine qg ?_ _)); exact BK116.out) hkp (fun hs_ => (fun e_ => (Kd.R_ne HO_117000.out BK116.out (by decide)) e_) hs_)); replace HO_117000 := Qz.mk (Kd.R_reok rfl hy0 (fun k_ e_ => HO_117000.out.1 k_ e_)); replace HB := Qz.mk (hb); (try clear hb); (try clear hkp); (try clear hy0); have hcz81_0 : w80.cell? ⟨gb116, 0, none⟩ = some (.slice Ao12 t109.length co12) := (qe BK116.out 0).trans rfl; have hcz81_1 : w80.cell? ⟨gb116, 1, none⟩ = some (.int .i64 t112) := (qe BK116.out 1).trans rfl; have hcz81_2 : w80.cell? ⟨gb116, 2, none⟩ = some (.int .i64 t113) := (qe BK116.out 2).trans rfl; have hcz81_3 : w80.cell? ⟨gb116, 3, none⟩ = some (.int .i64 t114) := (qe BK116.out 3).trans rfl; have hfz81_0 := qc BK116.out 0; have hfz81_1 := qc BK116.out 1; have hfz81_2 := qc BK116.out 2; have hfz81_3 := qc BK116.out 3) | ((with_reducible refine qm (f := 25) rfl ?_); refine qt (some 38) rfl rfl Try.func25 (by kernel_rfl) rfl #[.agg #[.slice Ao12 t119.length co12, .int .i64 t112, .int .i64 t113, .int .i64 t114], .int .i64 1] rfl (by (try simp only [List.map_toArray, List.map_cons, List.map_nil]); first | done | (rw [show t119.length = t109.length from (Kd.R_reads' HO_117000.out).1.symm] <;> rfl) | rfl | (simp only [List.length_drop, List.length_take]; rfl) | (rw [IntWalk.u64_in _ (by omega)] <;> rfl)) ?_; (with_reducible refine (laws_heldVersion.calls kj4 _ _ t119 t112 t113 t114 1 t120 _ ?side1 ?side2 A27.out).mono ?_); (case side1 => repeat (first | exact (Kd.R_reads' HO_117000.out).2.2 | (with_reducible refine Kd.C_alloc ?_ _) | (with_reducible refine Kd.C_drewN ?_ _) | (with_reducible refine Kd.C_drew ?_))); (case side2 => rw [show t119.length = t109.length from (Kd.R_reads' HO_117000.out).1.symm]; exact (Kd.R_reads' HO_117000.out).2.1); rintro e w82 ⟨rfl, hb⟩; refine ⟨_, rfl, ?_⟩; replace HO_109000 := Qz.mk (Kd.R_below (by (with_reducible repeat (first | apply Kd.R_alloc | apply Kd.R_drewN | apply Kd.R_drew)); exact HO_109000.out) hb); replace HO_117000 := Qz.mk (Kd.R_below (by (with_reducible repeat (first | apply Kd.R_alloc | apply Kd.R_drewN | apply Kd.R_drew)); exact HO_117000.out) hb); replace BK108 := Qz.mk (qr (g := gb108) (o := .cells #[.slice Ao8 t101.length co8, .int .i64 t104, .int .i64 t105, .int .i64 t106] 32 (0, 0)) (by (with_reducible repeat (first | refine qh ?_ _ | refine qj ?_ | refine qg ?_ _)); exact BK108.out) hb); replace BK116 := Qz.mk (qr (g := gb116) (o := .cells #[.slice Ao12 t109.length co12, .int .i64 t112, .int .i64 t113, .int .i64 t114] 32 (0, 0)) (by (with_reducible repeat (first | refine qh ?_ _ | refine qj ?_ | refine qg ?_ _)); exact BK116.out) hb); replace HB := Qz.mk (qp (by repeat (first | (with_reducible first | exact HB.out | apply qf | apply qa | apply qd | refine qi ?_ GE108.out | refine qi ?_ GE116.out) | exact HB.out)) hb); (try clear hb); (try clear hk)))
       go_ret
       exact ⟨by first | rfl | (simp [qo, qn] <;> rfl) | (simp [*, qo, qn] <;> rfl), by repeat (first | (with_reducible first | exact HB.out | apply qf | apply qa | apply qd | refine qi ?_ GE108.out | refine qi ?_ GE116.out) | exact HB.out)⟩
def laws_FnExactReadVersion.Pure : Prop := ∀ (a0 : ByteArray), a0.size ≤ 140737488351232 → ∃ k, laws_FnExactReadVersion.f k a0 = some true
theorem laws_FnExactReadVersion.walk (P : laws_FnExactReadVersion.Pure) (a0 : ByteArray) (w : World) (w0 : a0.size ≤ 140737488351232) :
  Calls Try.prog 11 #[.string a0] w fun e w' => e = .returned (.bool true) ∧ Below w.heap.size w w' := by
 obtain ⟨k, h⟩ := P a0 w0
 refine (laws_FnExactReadVersion.calls k a0 true w h).mono ?_
 rintro e w' ⟨rfl, hd⟩
 exact ⟨rfl, hd⟩
end Go.Proofs.Ytcgejabkjljeeaa.P
end

section
namespace Go.Proofs.Ytcgejabkjljeeaa.P
open Go.RowKit Go.Proofs.YtcgejabkjljeeaaW.PrintWords Go.Proofs.YtcgejabkjljeeaaW.PrintLast Go.Proofs.YtcgejabkjljeeaaW.PrintMore
attribute [local go_sem] str_gtr str_leq str_geq max2_int min2_int max_two min_two qw qv max_four min_four
set_option linter.unusedVariables false
set_option linter.unusedSimpArgs false
theorem strOfNums_size (l : List Int) : (strOfNums l).size = l.length := by
  unfold strOfNums
  simp [ByteArray.size]
theorem markText_ends (n : Int) (h : n < 1099511627776) : ∃ r, Ev (fun k => laws_markText.f k n) r := by
  by_cases h0 : n ≤ 0
  · exact ⟨_, by unfold laws_markText.f; exact Ev.pos h0 (Ev.now _)⟩
  · have key : ∀ (d : Nat) (x : Int) (y : ByteArray), 0 ≤ x → x ≤ d → y.size + d < 2199023255552 → ∃ r, Ev (fun k => laws_markText.l0 k x y) r := by
      intro d
      induction d using Nat.strongRecOn with
      | _ d ih =>
        intro x y hx hd hy
        by_cases hp : x > 0
        · have ht : Int.tdiv x 10 = x / 10 := Int.tdiv_eq_ediv_of_nonneg hx
          obtain ⟨r, hr⟩ := ih (d - 1) (by omega) (x / 10) ((strOfNums [(wrap64 (48 + (Int.tmod x 10))) % 256]) ++ y) (by omega) (by omega) (by
            rw [ByteArray.size_append, strOfNums_size]
            simp only [List.length_cons, List.length_nil]
            omega)
          refine ⟨r, Ev.step (fun k => rfl) (Ev.pos hp (Ev.bindS rfl (Ev.pos (by rw [strOfNums_size]; simp only [List.length_cons, List.length_nil]; omega) ?_)))⟩
          rw [ht, wid (by omega) (by omega)]
          exact hr
        · exact ⟨_, Ev.step (fun k => rfl) (Ev.neg hp (Ev.pos (by omega) (Ev.now _)))⟩
    obtain ⟨r, hr⟩ := key n.toNat n ⟨#[]⟩ (by omega) (by omega) (by
      show 0 + n.toNat < _
      omega)
    exact ⟨r, by unfold laws_markText.f; exact Ev.neg h0 hr⟩
noncomputable def mt (n : Int) : ByteArray := if h : n < 1099511627776 then (markText_ends n h).choose else ⟨#[]⟩
theorem markText_ev (n : Int) (h : n < 1099511627776) : Ev (fun k => laws_markText.f k n) (mt n) := by
  rw [mt, dif_pos h]
  exact (markText_ends n h).choose_spec
theorem markLoop {α : Type} (l : Nat → List α → Int → Int → Option (Int × List α)) (mk : Int → α) (c n : Nat) (hn : n < 2097152) (hc : c ≤ 8)
    (hs : ∀ (ys : List α) (i : Nat) (kk : Int) (r : Int × List α), ys.length = n → i < n → 0 ≤ kk → kk < 549755813888 → Ev (fun k => l k (ys.set i (mk kk)) (kk + c) ((i + 1 : Nat) : Int)) r → Ev (fun k => l k ys kk (i : Int)) r)
    (he : ∀ (ys : List α) (kk : Int), ys.length = n → Ev (fun k => l k ys kk (n : Int)) (kk, ys)) (ys : List α) (hy : ys.length = n) (k0 : Int) (h0 : 0 ≤ k0) (h1 : k0 < 274877906944) :
    Ev (fun k => l k ys k0 0) (k0 + c * n, (List.range n).map fun j : Nat => mk (k0 + (c : Int) * (j : Int))) := by
  have key : ∀ i, i ≤ n → ∀ ys : List α, ys.length = n → Ev (fun k => l k ys (k0 + c * i) (i : Int)) (k0 + c * n, ys.take i ++ (List.range' i (n - i)).map fun j : Nat => mk (k0 + (c : Int) * (j : Int))) := by
    refine downTo n ?_ ?_
    · intro ys hy
      refine Ev.eqr (he ys _ hy) ?_
      rw [Nat.sub_self, List.range'_zero, List.map_nil, List.append_nil, List.take_of_length_le (by omega)]
    · intro i hi ih ys hy
      have hcb : (c : Int) * (i : Int) ≤ 16777216 := by
        have h2 : c * i ≤ 8 * i := Nat.mul_le_mul_right i hc
        have e : (c : Int) * (i : Int) = ((c * i : Nat) : Int) := (Int.natCast_mul c i).symm
        rw [e]
        omega
      have hcp : (0 : Int) ≤ (c : Int) * (i : Int) := Int.mul_nonneg (by omega) (by omega)
      refine hs ys i _ _ hy hi (by omega) (by omega) ?_
      rw [show k0 + (c : Int) * (i : Int) + (c : Int) = k0 + (c : Int) * ((i + 1 : Nat) : Int) from by rw [Int.natCast_add, Int.mul_add]; omega]
      refine Ev.eqr (ih (ys.set i (mk (k0 + (c : Int) * (i : Int)))) (by simpa using hy)) ?_
      rw [set_take _ _ _ (by omega), List.append_assoc, show n - i = (n - (i + 1)) + 1 from by omega, List.range'_succ, List.map_cons]
      rfl
  have := key 0 (Nat.zero_le _) ys hy
  simp only [Int.natCast_zero, Int.mul_zero, Int.add_zero, List.take_zero, List.nil_append, Nat.sub_zero, ← List.range_eq_range'] at this
  exact this
theorem heldLoop {α : Type} (l : Nat → List α → Int → Int → Option Int) (mk : Int → α) (c n : Nat) (d : α) (hn : n < 2097152) (hc : c ≤ 8)
    (hs : ∀ (ys : List α) (i : Nat) (kk : Int) (r : Int), ys.length = n → i < n → 0 ≤ kk → kk < 549755813888 → ys.getD i d = mk kk → Ev (fun k => l k ys (kk + c) ((i + 1 : Nat) : Int)) r → Ev (fun k => l k ys kk (i : Int)) r)
    (he : ∀ (ys : List α) (kk : Int), ys.length = n → Ev (fun k => l k ys kk (n : Int)) kk) (k0 : Int) (h0 : 0 ≤ k0) (h1 : k0 < 274877906944) :
    Ev (fun k => l k ((List.range n).map fun j : Nat => mk (k0 + (c : Int) * (j : Int))) k0 0) (k0 + c * n) := by
  have key : ∀ i, i ≤ n → Ev (fun k => l k ((List.range n).map fun j : Nat => mk (k0 + (c : Int) * (j : Int))) (k0 + c * i) (i : Int)) (k0 + c * n) := by
    refine downTo n (he _ _ (by simp)) ?_
    intro i hi ih
    have hcb : (c : Int) * (i : Int) ≤ 16777216 := by
      have h2 : c * i ≤ 8 * i := Nat.mul_le_mul_right i hc
      have e : (c : Int) * (i : Int) = ((c * i : Nat) : Int) := (Int.natCast_mul c i).symm
      rw [e]
      omega
    have hcp : (0 : Int) ≤ (c : Int) * (i : Int) := Int.mul_nonneg (by omega) (by omega)
    refine hs _ i _ _ (by simp) hi (by omega) (by omega) ?_ ?_
    · rw [List.getD_eq_getElem?_getD, List.getElem?_map, List.getElem?_range hi]
      rfl
    · rw [show k0 + (c : Int) * (i : Int) + (c : Int) = k0 + (c : Int) * ((i + 1 : Nat) : Int) from by rw [Int.natCast_add, Int.mul_add]; omega]
      exact ih
  have := key 0 (Nat.zero_le _)
  simp only [Int.natCast_zero, Int.mul_zero, Int.add_zero] at this
  exact this
theorem eqMeta_self (a0 : Int) (a1 : Int) (a2 : ByteArray) (a3 : ByteArray) (a4 : Int) : laws_eqMeta.f a0 a1 a2 a3 a4 a0 a1 a2 a3 a4 = some true := by simp [laws_eqMeta.f]
theorem eqMetaS_ev (l : List S66) (h : l.length < 2097152) : Ev (fun k => laws_eqMetaS.f k l l) true := by
  unfold laws_eqMetaS.f
  refine Ev.pos rfl ?_
  have key : ∀ i, i ≤ l.length → Ev (fun k => laws_eqMetaS.l0 k l l (i : Int)) true := by
    refine downTo l.length (Ev.step (fun k => rfl) (Ev.neg (by omega) (Ev.now _))) ?_
    intro i hi ih
    refine Ev.step (fun k => rfl) (Ev.pos (by omega) (Ev.pos (by omega) (Ev.pos (by omega) (Ev.bindS (eqMeta_self _ _ _ _ _) (Ev.pos rfl ?_)))))
    rw [wsucc (by omega)]
    exact ih
  exact key 0 (Nat.zero_le _)
noncomputable def mk_Meta (k : Int) : S66 := ⟨k, k + 1, mt (k + 2), mt (k + 3), k + 4⟩
theorem markMetaS_ev (l : List S66) (hl : l.length < 2097152) (k0 : Int) (h0 : 0 ≤ k0) (h1 : k0 < 274877906944) : Ev (fun k => laws_markMetaS.f k l k0) (k0 + 5 * l.length, (List.range l.length).map fun j : Nat => mk_Meta (k0 + 5 * (j : Int))) := by
  unfold laws_markMetaS.f
  refine markLoop laws_markMetaS.l0 mk_Meta 5 l.length hl (by omega) ?_ ?_ l rfl k0 h0 h1
  · intro ys i kk r hy hi k0 k1 h
    have rs : ∀ v : S66, qk (ys.set i v) (i : Int) = v := fun v => by
      unfold qk
      rw [Int.toNat_natCast, List.getD_eq_getElem?_getD, List.getElem?_set_self (by omega)]
      rfl
    have w1 : wrap64 (kk + 1) = kk + 1 := by rw [wid (by omega) (by omega)]
    have w2 : wrap64 (kk + 1 + 1) = kk + 2 := by rw [wid (by omega) (by omega)]; omega
    have w3 : wrap64 (kk + 2 + 1) = kk + 3 := by rw [wid (by omega) (by omega)]; omega
    have w4 : wrap64 (kk + 3 + 1) = kk + 4 := by rw [wid (by omega) (by omega)]; omega
    have w5 : wrap64 (kk + 4 + 1) = kk + 5 := by rw [wid (by omega) (by omega)]; omega
    refine Ev.step (fun k => laws_markMetaS.l0.eq_2 ..) ?_
    simp only [w1, w2, w3, w4, w5, Int.toNat_natCast]
    refine Ev.pos (by omega) ?_
    refine Ev.pos (by omega) ?_
    refine Ev.bindS rfl ?_
    refine Ev.bindS rfl ?_
    refine Ev.bind (markText_ev _ (by omega)) ?_
    refine Ev.bindS rfl ?_
    refine Ev.bind (markText_ev _ (by omega)) ?_
    refine Ev.bindS rfl ?_
    simp only [rs, List.set_set]
    rw [wsucc (by omega)]
    exact h
  · intro ys kk hy
    exact Ev.step (fun k => laws_markMetaS.l0.eq_2 ..) (Ev.neg (by omega) (Ev.now _))
theorem heldMetaS_ev (n : Nat) (hl : n < 2097152) (k0 : Int) (h0 : 0 ≤ k0) (h1 : k0 < 274877906944) : Ev (fun k => laws_heldMetaS.f k ((List.range n).map fun j : Nat => mk_Meta (k0 + 5 * (j : Int))) k0) (k0 + 5 * n) := by
  unfold laws_heldMetaS.f
  refine heldLoop laws_heldMetaS.l0 mk_Meta 5 n z66 hl (by omega) ?_ ?_ k0 h0 h1
  · intro ys i kk r hy hi k0 k1 hg h
    have rs : qk ys (i : Int) = mk_Meta kk := by
      unfold qk
      rw [Int.toNat_natCast]
      exact hg
    have w1 : wrap64 (kk + 1) = kk + 1 := by rw [wid (by omega) (by omega)]
    have w2 : wrap64 (kk + 1 + 1) = kk + 2 := by rw [wid (by omega) (by omega)]; omega
    have w3 : wrap64 (kk + 2 + 1) = kk + 3 := by rw [wid (by omega) (by omega)]; omega
    have w4 : wrap64 (kk + 3 + 1) = kk + 4 := by rw [wid (by omega) (by omega)]; omega
    have w5 : wrap64 (kk + 4 + 1) = kk + 5 := by rw [wid (by omega) (by omega)]; omega
    refine Ev.step (fun k => laws_heldMetaS.l0.eq_2 ..) ?_
    simp only [w1, w2, w3, w4, w5, rs, mk_Meta]
    refine Ev.pos (by omega) ?_
    refine Ev.pos (by omega) ?_
    refine Ev.pos trivial ?_
    refine Ev.pos trivial ?_
    refine Ev.bind (markText_ev _ (by omega)) (Ev.pos rfl ?_)
    refine Ev.bind (markText_ev _ (by omega)) (Ev.pos rfl ?_)
    refine Ev.pos trivial ?_
    rw [wsucc (by omega)]
    exact h
  · intro ys kk hy
    exact Ev.step (fun k => laws_heldMetaS.l0.eq_2 ..) (Ev.neg (by omega) (Ev.now _))
end Go.Proofs.Ytcgejabkjljeeaa.P
end
