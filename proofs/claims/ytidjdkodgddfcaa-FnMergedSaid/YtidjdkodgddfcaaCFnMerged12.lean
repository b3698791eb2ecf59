/- Proved: the law FnMerged of the given program returns true for every input of its Go types and leaves each argument as it was; no condition. (Part 13 of 16.) -/
import Derived.Test.YtidjdkodgddfcaaCFnMerged4
import Derived.Test.YtidjdkodgddfcaaCFnMerged6
import Derived.Test.YtidjdkodgddfcaaCFnMerged10
import Derived.Test.YtidjdkodgddfcaaCFnMerged11
section
namespace Go.Proofs.Ytidjdkodgddfcaa.P
open Go.RowKit Go.Proofs.YtidjdkodgddfcaaW.PrintWords Go.Proofs.YtidjdkodgddfcaaW.PrintLast Go.Proofs.YtidjdkodgddfcaaW.PrintMore
attribute [local go_sem] str_gtr str_leq str_geq qd1 qb1 max_two min_two qy qx qc1 qa1
set_option linter.unusedVariables false
set_option linter.unusedSimpArgs false
attribute [local go_sem high] eqA35 eqA64
theorem yq110 {P : Prop} (h : P := by repeat (first | (with_reducible first | exact HB.out | apply qc | apply qa | apply qb) | exact HB.out)) : P := h
theorem yq111 {P : Prop} (h : P := by (with_reducible repeat (first | apply Kd.N_alloc | apply Kd.N_drewN | apply Kd.N_drew)); exact HO_3.out) : P := h
theorem yq112 {P : Prop} (h : P := by (with_reducible repeat (first | apply Kd.R_alloc | apply Kd.R_drewN | apply Kd.R_drew)); exact HO_4.out) : P := h
theorem yq113 {P : Prop} (h : P := by first | (with_reducible assumption) | assumption) : P := h
theorem yq114 {P : Prop} (h : P := by repeat (first | exact (Kd.R_reads' HO_4.out).2.2 | (with_reducible refine Kd.C_alloc ?_ _) | (with_reducible refine Kd.C_drewN ?_ _) | (with_reducible refine Kd.C_drew ?_))) : P := h
theorem yq115 {P : Prop} (h : P := by (with_reducible repeat (first | apply Kd.N_alloc | apply Kd.N_drewN | apply Kd.N_drew)); exact HO124.out) : P := h
theorem yq116 {P : Prop} (h : P := by repeat (first | exact (Kd.N_reads' HO124.out).2.2 | (with_reducible refine Kd.C_alloc ?_ _) | (with_reducible refine Kd.C_drewN ?_ _) | (with_reducible refine Kd.C_drew ?_))) : P := h
theorem yq117 {P : Prop} (h : P := by repeat (first | (with_reducible exact HR132_0.out) | (with_reducible refine Kd.C_alloc ?_ _) | (with_reducible refine Kd.C_drewN ?_ _) | (with_reducible refine Kd.C_drew ?_) | exact HR132_0.out)) : P := h
theorem yq118 {P : Prop} (h : P := by repeat (first | (with_reducible exact HR131_0.out) | (with_reducible refine Kd.C_alloc ?_ _) | (with_reducible refine Kd.C_drewN ?_ _) | (with_reducible refine Kd.C_drew ?_) | exact HR131_0.out)) : P := h
theorem yq119 {P : Prop} (h : P := by (with_reducible repeat (first | apply Kd.R_alloc | apply Kd.R_drewN | apply Kd.R_drew)); exact HO128.out) : P := h
theorem yq120 {P : Prop} (h : P := by repeat (first | exact (Kd.N_reads' HO104.out).2.2 | (with_reducible refine Kd.C_alloc ?_ _) | (with_reducible refine Kd.C_drewN ?_ _) | (with_reducible refine Kd.C_drew ?_))) : P := h
theorem yq121 {P : Prop} (h : P := by repeat (first | exact HR0.out | (with_reducible refine Kd.C_alloc ?_ _) | (with_reducible refine Kd.C_drewN ?_ _) | (with_reducible refine Kd.C_drew ?_))) : P := h
theorem yq122 {P : Prop} (h : P := by first | rfl | (simp; done) | (simp [*]; done)) : P := h
theorem yq123 {P : Prop} (h : P := by repeat (first | (with_reducible exact HR136_0.out) | (with_reducible refine Kd.C_alloc ?_ _) | (with_reducible refine Kd.C_drewN ?_ _) | (with_reducible refine Kd.C_drew ?_) | exact HR136_0.out)) : P := h
theorem yq124 {P : Prop} (h : P := by repeat (first | exact (Kd.R_reads' HO112.out).2.2 | (with_reducible refine Kd.C_alloc ?_ _) | (with_reducible refine Kd.C_drewN ?_ _) | (with_reducible refine Kd.C_drew ?_))) : P := h
theorem yq125 {P : Prop} (h : P := by repeat (first | exact (Kd.R_reads' HO108.out).2.2 | (with_reducible refine Kd.C_alloc ?_ _) | (with_reducible refine Kd.C_drewN ?_ _) | (with_reducible refine Kd.C_drew ?_))) : P := h
theorem yq126 {P : Prop} (h : P := by (with_reducible repeat (first | apply Kd.V_alloc | apply Kd.V_drewN | apply Kd.V_drew)); exact HL132_0.out) : P := h
theorem yq127 {P : Prop} (h : P := by (with_reducible repeat (first | apply Kd.V_alloc | apply Kd.V_drewN | apply Kd.V_drew)); exact HL131_0.out) : P := h
theorem yq128 {P : Prop} (h : P := by (with_reducible repeat (first | apply Kd.R_alloc | apply Kd.R_drewN | apply Kd.R_drew)); exact HO108.out) : P := h
theorem yq129 {P : Prop} (h : P := by (with_reducible repeat (first | apply Kd.N_alloc | apply Kd.N_drewN | apply Kd.N_drew)); exact HO104.out) : P := h
theorem yq130 {P : Prop} (h : P := by first | (go_simp; done) | (go_simp; rfl)) : P := h
theorem yq131 {P : Prop} (h : P := by first | exact q136 | exact of_decide_eq_true yq113 | (have e_ := (Kd.N_reads' HO_3.out).1; omega)) : P := h
theorem yq132 {P : Prop} (h : P := by repeat (first | (with_reducible exact HR116_0.out) | (with_reducible refine Kd.C_alloc ?_ _) | (with_reducible refine Kd.C_drewN ?_ _) | (with_reducible refine Kd.C_drew ?_) | exact HR116_0.out)) : P := h
theorem yq133 {P : Prop} (h : P := by repeat (first | exact (Kd.R_reads' HO128.out).2.2 | (with_reducible refine Kd.C_alloc ?_ _) | (with_reducible refine Kd.C_drewN ?_ _) | (with_reducible refine Kd.C_drew ?_))) : P := h
theorem yq134 {P : Prop} (h : P := by first | exact q131 | exact of_decide_eq_true yq113 | (have e_ := (Kd.N_reads' HO_3.out).1; omega)) : P := h
theorem yq135 {P : Prop} (h : P := by first | exact q115 | exact of_decide_eq_true yq113 | (have e_ := (Kd.N_reads' HO_3.out).1; omega)) : P := h
mutual
def laws_FnMerged.j0 : Nat → List (S62) → List (S64) → Bool → Bool → Option (Bool)
 | 0, _, _, _, _ => none
 | k + 1, x3, x4, x5, x46 => if x46 = true then (some false) else (if x5 = true then (laws_FnMerged.l0 k x3 x4 0 0) else (some true))
def laws_FnMerged.l0 : Nat → List (S62) → List (S64) → Int → Int → Option (Bool)
 | 0, _, _, _, _ => none
 | k + 1, x3, x4, x8, x9 => if x9 < (x4.length : Int) then (laws_FnMerged.l1 k x3 x4 x8 x9 false 0) else (laws_FnMerged.l3 k x3 x4 x8 0)
def laws_FnMerged.l1 : Nat → List (S62) → List (S64) → Int → Int → Bool → Int → Option (Bool)
 | 0, _, _, _, _, _, _ => none
 | k + 1, x3, x4, x8, x9, x10, x11 => if x11 < (x3.length : Int) then (laws_FnMerged.j3 k x3 x4 x8 x9 x10 x11 (!x10)) else (laws_FnMerged.j3 k x3 x4 x8 x9 x10 x11 false)
def laws_FnMerged.j3 : Nat → List (S62) → List (S64) → Int → Int → Bool → Int → Bool → Option (Bool)
 | 0, _, _, _, _, _, _, _ => none
 | k + 1, x3, x4, x8, x9, x10, x11, x62 => if x62 = true then (laws_FnMerged.l2 k x3 x4 x8 x9 x10 x11 0) else (if x10 = true then (laws_FnMerged.l0 k x3 x4 x8 (wrap64 (x9 + 1))) else (some false))
def laws_FnMerged.l2 : Nat → List (S62) → List (S64) → Int → Int → Bool → Int → Int → Option (Bool)
 | 0, _, _, _, _, _, _, _ => none
 | k + 1, x3, x4, x8, x9, x10, x11, x12 => if 0 ≤ x11 then (if x11 < (x3.length : Int) then (if x12 < (((qv x3 x11).f0).length : Int) then (if 0 ≤ x12 then (if 0 ≤ x9 then (if x9 < (x4.length : Int) then (if ((((qd ((qv x3 x11).f0) x12).f0.f0).toList) == (((qd x4 x9).f0.f0).toList) && (((qd ((qv x3 x11).f0) x12).f0.f1) == ((qd x4 x9).f0.f1) && (((qd ((qv x3 x11).f0) x12).f0.f2) == ((qd x4 x9).f0.f2)))) = true then (if ((!((((qd ((qv x3 x11).f0) x12).f0.f0).toList) == (((qd x4 x9).f0.f0).toList)) || (!(((qd ((qv x3 x11).f0) x12).f0.f1) == ((qd x4 x9).f0.f1)) || (!(((qd ((qv x3 x11).f0) x12).f0.f2) == ((qd x4 x9).f0.f2))))) || (!((((qd ((qv x3 x11).f0) x12).f1).toList) == (((qd x4 x9).f1).toList)))) = true then (some false) else (laws_FnMerged.l2 k x3 x4 x8 x9 true x11 (wrap64 (x12 + 1)))) else (laws_FnMerged.l2 k x3 x4 x8 x9 x10 x11 (wrap64 (x12 + 1)))) else (none)) else (none)) else (none)) else (laws_FnMerged.l1 k x3 x4 x8 x9 x10 (wrap64 (x11 + 1)))) else (none)) else (none)
def laws_FnMerged.l3 : Nat → List (S62) → List (S64) → Int → Int → Option (Bool)
 | 0, _, _, _, _ => none
 | k + 1, x3, x4, x8, x13 => if x13 < (x3.length : Int) then (laws_FnMerged.l4 k x3 x4 x8 x13 0) else ((impl_MergeRuns.f k (([(⟨x4⟩ : S62), (⟨x4⟩ : S62)] : List (S62)))).bind fun bt125 => ((impl_EntriesOk.f k x4).bind fun t129 => (if t129 = true then (if x8 ≥ (x4.length : Int) then (if bt125.2 = true then ((laws_sameEntries.f k bt125.1 x4).bind fun t130 => (some t130)) else (if (wrap64 (2 * (x4.length : Int))) > 400 then (some true) else (some false))) else (some false)) else (some false))))
def laws_FnMerged.l4 : Nat → List (S62) → List (S64) → Int → Int → Int → Option (Bool)
 | 0, _, _, _, _, _ => none
 | k + 1, x3, x4, x8, x13, x14 => if 0 ≤ x13 then (if x13 < (x3.length : Int) then (if x14 < (((qv x3 x13).f0).length : Int) then (if 0 ≤ x14 then ((impl_SeekEntry.f k x4 ((qd ((qv x3 x13).f0) x14).f0.f0) ((qd ((qv x3 x13).f0) x14).f0.f1) ((qd ((qv x3 x13).f0) x14).f0.f2)).bind fun t134 => (if t134 ≥ (x4.length : Int) then (some false) else (if 0 ≤ t134 then (if t134 < (x4.length : Int) then (if (!((((qd x4 t134).f0.f0).toList) == (((qd ((qv x3 x13).f0) x14).f0.f0).toList)) || (!(((qd x4 t134).f0.f1) == ((qd ((qv x3 x13).f0) x14).f0.f1)) || (!(((qd x4 t134).f0.f2) == ((qd ((qv x3 x13).f0) x14).f0.f2))))) = true then (some false) else (laws_FnMerged.l4 k x3 x4 (wrap64 (x8 + 1)) x13 (wrap64 (x14 + 1)))) else (none)) else (none)))) else (none)) else (laws_FnMerged.l3 k x3 x4 x8 (wrap64 (x13 + 1)))) else (none)) else (none)
end
def laws_FnMerged.f (k : Nat) (l0 : List Int) : Option (Bool) := (laws_big.f l0).bind fun t101 => (if t101 = true then (some true) else ((spec_DrawMergeRuns.f k l0).bind fun t102 => ((impl_MergeRuns.f k t102).bind fun bt105 => ((spec_MergeRuns.f k t102).bind fun bt109 => (if (bt105.2 != bt109.2) = true then (laws_FnMerged.j0 k t102 bt105.1 bt105.2 true) else ((laws_sameEntries.f k bt105.1 bt109.1).bind fun t113 => (if t113 = true then ((impl_RunsOk.f k t102).bind fun t114 => (laws_FnMerged.j0 k t102 bt105.1 bt105.2 (bt105.2 != t114))) else (laws_FnMerged.j0 k t102 bt105.1 bt105.2 true))))))))
set_option maxHeartbeats 8000000 in
set_option maxRecDepth 100000 in
theorem laws_FnMerged.calls (k : Nat) (A0 : Option Addr) (c0 : Nat) (l0 : List Int) (r : Bool) (w : World) (hr0 : Kd.C (Kd.int .u8) w A0 l0.length l0) (hc0 : l0.length ≤ c0) (h : laws_FnMerged.f k l0 = some r) :
  Calls Try.prog 10 #[.slice A0 l0.length c0] w fun e w' => e = .returned (.bool r) ∧ Below w.heap.size w w' := by
 have hu35 := Try.underlying35
 have hu64 := Try.underlying64
 have hu62 := Try.underlying62
 have HR0 := Qz.mk hr0
 have HC0 := Qz.mk hc0
 clear hr0 hc0
 have HB := Qz.mk (Below.refl w.heap.size w)
 have H : ((laws_big.f l0).bind fun t101 => (if t101 = true then (some true) else ((spec_DrawMergeRuns.f k l0).bind fun t102 => ((impl_MergeRuns.f k t102).bind fun bt105 => ((spec_MergeRuns.f k t102).bind fun bt109 => (if (bt105.2 != bt109.2) = true then (laws_FnMerged.j0 k t102 bt105.1 bt105.2 true) else ((laws_sameEntries.f k bt105.1 bt109.1).bind fun t113 => (if t113 = true then ((impl_RunsOk.f k t102).bind fun t114 => (laws_FnMerged.j0 k t102 bt105.1 bt105.2 (bt105.2 != t114))) else (laws_FnMerged.j0 k t102 bt105.1 bt105.2 true))))))))) = some r := h
 clear h
 replace H := Option.bind_eq_some_iff.mp H
 obtain ⟨t101, A20, H⟩ := H
 replace H : (if t101 = true then (some true) else ((spec_DrawMergeRuns.f k l0).bind fun t102 => ((impl_MergeRuns.f k t102).bind fun bt105 => ((spec_MergeRuns.f k t102).bind fun bt109 => (if (bt105.2 != bt109.2) = true then (laws_FnMerged.j0 k t102 bt105.1 bt105.2 true) else ((laws_sameEntries.f k bt105.1 bt109.1).bind fun t113 => (if t113 = true then ((impl_RunsOk.f k t102).bind fun t114 => (laws_FnMerged.j0 k t102 bt105.1 bt105.2 (bt105.2 != t114))) else (laws_FnMerged.j0 k t102 bt105.1 bt105.2 true)))))))) = some r := H
 have A2 := Qz.mk A20
 clear A20
 by_cases c3 : t101 = true
 ·subst c3
  have H1 : (some true) = some r := by rw [if_pos rfl] at H; exact H
  clear H
  have H := H1
  clear H1
  obtain rfl := Option.some.inj H
  go_enter Try.func10, Try.ntmps10
  go_wp2_with (first | (go_at_call 28; (with_reducible refine (laws_big.calls _ _ l0 true _ ?side1 ?side2 A2.out).mono ?_); (case side1 => exact yq121); (case side2 => exact HC0.out); rintro e w' ⟨rfl, ⟨nd, rfl⟩⟩; (try first | exact ⟨rfl, _, World.drewN_drewN _ _ _⟩ | exact ⟨rfl, _, Eq.trans (World.drewN_drewN _ _ _) (congrArg (World.drewN _) (Nat.add_assoc _ _ _))⟩)))
  repeat (go_quiet (first | (go_at_call 28; (with_reducible refine (laws_big.calls _ _ l0 true _ ?side1 ?side2 A2.out).mono ?_); (case side1 => exact yq121); (case side2 => exact HC0.out); rintro e w' ⟨rfl, ⟨nd, rfl⟩⟩; (try first | exact ⟨rfl, _, World.drewN_drewN _ _ _⟩ | exact ⟨rfl, _, Eq.trans (World.drewN_drewN _ _ _) (congrArg (World.drewN _) (Nat.add_assoc _ _ _))⟩))); try go_wp2_with (first | (go_at_call 28; (with_reducible refine (laws_big.calls _ _ l0 true _ ?side1 ?side2 A2.out).mono ?_); (case side1 => exact yq121); (case side2 => exact HC0.out); rintro e w' ⟨rfl, ⟨nd, rfl⟩⟩; (try first | exact ⟨rfl, _, World.drewN_drewN _ _ _⟩ | exact ⟨rfl, _, Eq.trans (World.drewN_drewN _ _ _) (congrArg (World.drewN _) (Nat.add_assoc _ _ _))⟩))))
  go_ret
  exact ⟨by first | rfl | (simp [qq, qo] <;> rfl) | (simp [*, qq, qo] <;> rfl), by repeat (first | (with_reducible first | exact HB.out | apply qc | apply qa | apply qb) | exact HB.out)⟩
 ·replace c3 := Bool.eq_false_iff.mpr c3
  subst c3
  have H1 : ((spec_DrawMergeRuns.f k l0).bind fun t102 => ((impl_MergeRuns.f k t102).bind fun bt105 => ((spec_MergeRuns.f k t102).bind fun bt109 => (if (bt105.2 != bt109.2) = true then (laws_FnMerged.j0 k t102 bt105.1 bt105.2 true) else ((laws_sameEntries.f k bt105.1 bt109.1).bind fun t113 => (if t113 = true then ((impl_RunsOk.f k t102).bind fun t114 => (laws_FnMerged.j0 k t102 bt105.1 bt105.2 (bt105.2 != t114))) else (laws_FnMerged.j0 k t102 bt105.1 bt105.2 true))))))) = some r := by rw [if_neg (show ¬ (false = true) by decide)] at H; exact H
  clear H
  have H := H1
  clear H1
  replace H := Option.bind_eq_some_iff.mp H
  obtain ⟨t102, A40, H⟩ := H
  replace H : ((impl_MergeRuns.f k t102).bind fun bt105 => ((spec_MergeRuns.f k t102).bind fun bt109 => (if (bt105.2 != bt109.2) = true then (laws_FnMerged.j0 k t102 bt105.1 bt105.2 true) else ((laws_sameEntries.f k bt105.1 bt109.1).bind fun t113 => (if t113 = true then ((impl_RunsOk.f k t102).bind fun t114 => (laws_FnMerged.j0 k t102 bt105.1 bt105.2 (bt105.2 != t114))) else (laws_FnMerged.j0 k t102 bt105.1 bt105.2 true)))))) = some r := H
  have A4 := Qz.mk A40
  clear A40
  replace H := Option.bind_eq_some_iff.mp H
  obtain ⟨⟨t105, t106⟩, A50, H⟩ := H
  replace H : ((spec_MergeRuns.f k t102).bind fun bt109 => (if (t106 != bt109.2) = true then (laws_FnMerged.j0 k t102 t105 t106 true) else ((laws_sameEntries.f k t105 bt109.1).bind fun t113 => (if t113 = true then ((impl_RunsOk.f k t102).bind fun t114 => (laws_FnMerged.j0 k t102 t105 t106 (t106 != t114))) else (laws_FnMerged.j0 k t102 t105 t106 true))))) = some r := H
  have A5 := Qz.mk A50
  clear A50
  replace H := Option.bind_eq_some_iff.mp H
  obtain ⟨⟨t109, t110⟩, A60, H⟩ := H
  replace H : (if (t106 != t110) = true then (laws_FnMerged.j0 k t102 t105 t106 true) else ((laws_sameEntries.f k t105 t109).bind fun t113 => (if t113 = true then ((impl_RunsOk.f k t102).bind fun t114 => (laws_FnMerged.j0 k t102 t105 t106 (t106 != t114))) else (laws_FnMerged.j0 k t102 t105 t106 true)))) = some r := H
  have A6 := Qz.mk A60
  clear A60
  have HC7 := Qz.mk H
  clear H
  go_enter Try.func10, Try.ntmps10
  go_upto_region 6 with (first | (go_at_call 28; (with_reducible refine (laws_big.calls _ _ l0 false _ ?side1 ?side2 A2.out).mono ?_); (case side1 => exact yq121); (case side2 => exact HC0.out); rintro e w' ⟨rfl, ⟨nd, rfl⟩⟩; (try first | exact ⟨rfl, _, World.drewN_drewN _ _ _⟩ | exact ⟨rfl, _, Eq.trans (World.drewN_drewN _ _ _) (congrArg (World.drewN _) (Nat.add_assoc _ _ _))⟩)) | (go_at_call 41; (with_reducible refine (spec_DrawMergeRuns.calls k _ _ l0 t102 _ ?side1 ?side2 A4.out).mono ?_); (case side1 => exact yq121); (case side2 => exact HC0.out); rintro e w8 ⟨v103, rfl, ho0, hb⟩; have HO104 := Qz.mk (Kd.N_lower (Kd.N_mono (ok' := fun k_ => True) (Kd.S_N (Kd.S_bound ho0)) (fun k_ hk_ => trivial)) (qu yq110)); replace HB := Qz.mk (qm yq110 hb); (try clear hb); (try clear hk); (try clear ho0); obtain ⟨Ao9, co9, eo9⟩ := Kd.N_slice HO104.out; subst eo9) | (go_at_call 38; (with_reducible refine (impl_MergeRuns.calls k _ _ t102 t105 t106 _ ?side1 ?side2 A5.out).mono ?_); (case side1 => exact yq120); (case side2 => exact (Kd.N_reads' HO104.out).2.1); rintro e w10 ⟨v107, rfl, ho0, hb⟩; replace HO104 := Qz.mk (Kd.N_elder' yq129 (Kd.R_base ho0) hb); have HO108 := Qz.mk (Kd.R_lower ho0 (qu yq110)); replace HB := Qz.mk (qm yq110 hb); (try clear hb); (try clear hk); (try clear ho0)) | (go_at_call 36; (with_reducible refine (spec_MergeRuns.calls k _ _ t102 t109 t110 _ ?side1 ?side2 A6.out).mono ?_); (case side1 => exact yq120); (case side2 => exact (Kd.N_reads' HO104.out).2.1); rintro e w11 ⟨v111, rfl, ho0, hb⟩; replace HO104 := Qz.mk (Kd.N_elder' yq129 (Kd.R_base ho0) hb); have HO112 := Qz.mk (Kd.R_lower (Kd.R_new' ho0 (Kd.R_lt yq128)) (qu yq110)); replace HO108 := Qz.mk (Kd.R_elder' yq128 (Kd.R_base ho0) hb); replace HB := Qz.mk (qm yq110 hb); (try clear hb); (try clear hk); (try clear ho0)))
  repeat (go_quiet (first | (go_at_call 28; (with_reducible refine (laws_big.calls _ _ l0 false _ ?side1 ?side2 A2.out).mono ?_); (case side1 => exact yq121); (case side2 => exact HC0.out); rintro e w' ⟨rfl, ⟨nd, rfl⟩⟩; (try first | exact ⟨rfl, _, World.drewN_drewN _ _ _⟩ | exact ⟨rfl, _, Eq.trans (World.drewN_drewN _ _ _) (congrArg (World.drewN _) (Nat.add_assoc _ _ _))⟩)) | (go_at_call 41; (with_reducible refine (spec_DrawMergeRuns.calls k _ _ l0 t102 _ ?side1 ?side2 A4.out).mono ?_); (case side1 => exact yq121); (case side2 => exact HC0.out); rintro e w8 ⟨v103, rfl, ho0, hb⟩; have HO104 := Qz.mk (Kd.N_lower (Kd.N_mono (ok' := fun k_ => True) (Kd.S_N (Kd.S_bound ho0)) (fun k_ hk_ => trivial)) (qu yq110)); replace HB := Qz.mk (qm yq110 hb); (try clear hb); (try clear hk); (try clear ho0); obtain ⟨Ao9, co9, eo9⟩ := Kd.N_slice HO104.out; subst eo9) | (go_at_call 38; (with_reducible refine (impl_MergeRuns.calls k _ _ t102 t105 t106 _ ?side1 ?side2 A5.out).mono ?_); (case side1 => exact yq120); (case side2 => exact (Kd.N_reads' HO104.out).2.1); rintro e w10 ⟨v107, rfl, ho0, hb⟩; replace HO104 := Qz.mk (Kd.N_elder' yq129 (Kd.R_base ho0) hb); have HO108 := Qz.mk (Kd.R_lower ho0 (qu yq110)); replace HB := Qz.mk (qm yq110 hb); (try clear hb); (try clear hk); (try clear ho0)) | (go_at_call 36; (with_reducible refine (spec_MergeRuns.calls k _ _ t102 t109 t110 _ ?side1 ?side2 A6.out).mono ?_); (case side1 => exact yq120); (case side2 => exact (Kd.N_reads' HO104.out).2.1); rintro e w11 ⟨v111, rfl, ho0, hb⟩; replace HO104 := Qz.mk (Kd.N_elder' yq129 (Kd.R_base ho0) hb); have HO112 := Qz.mk (Kd.R_lower (Kd.R_new' ho0 (Kd.R_lt yq128)) (qu yq110)); replace HO108 := Qz.mk (Kd.R_elder' yq128 (Kd.R_base ho0) hb); replace HB := Qz.mk (qm yq110 hb); (try clear hb); (try clear hk); (try clear ho0))); go_upto_region 6 with (first | (go_at_call 28; (with_reducible refine (laws_big.calls _ _ l0 false _ ?side1 ?side2 A2.out).mono ?_); (case side1 => exact yq121); (case side2 => exact HC0.out); rintro e w' ⟨rfl, ⟨nd, rfl⟩⟩; (try first | exact ⟨rfl, _, World.drewN_drewN _ _ _⟩ | exact ⟨rfl, _, Eq.trans (World.drewN_drewN _ _ _) (congrArg (World.drewN _) (Nat.add_assoc _ _ _))⟩)) | (go_at_call 41; (with_reducible refine (spec_DrawMergeRuns.calls k _ _ l0 t102 _ ?side1 ?side2 A4.out).mono ?_); (case side1 => exact yq121); (case side2 => exact HC0.out); rintro e w8 ⟨v103, rfl, ho0, hb⟩; have HO104 := Qz.mk (Kd.N_lower (Kd.N_mono (ok' := fun k_ => True) (Kd.S_N (Kd.S_bound ho0)) (fun k_ hk_ => trivial)) (qu yq110)); replace HB := Qz.mk (qm yq110 hb); (try clear hb); (try clear hk); (try clear ho0); obtain ⟨Ao9, co9, eo9⟩ := Kd.N_slice HO104.out; subst eo9) | (go_at_call 38; (with_reducible refine (impl_MergeRuns.calls k _ _ t102 t105 t106 _ ?side1 ?side2 A5.out).mono ?_); (case side1 => exact yq120); (case side2 => exact (Kd.N_reads' HO104.out).2.1); rintro e w10 ⟨v107, rfl, ho0, hb⟩; replace HO104 := Qz.mk (Kd.N_elder' yq129 (Kd.R_base ho0) hb); have HO108 := Qz.mk (Kd.R_lower ho0 (qu yq110)); replace HB := Qz.mk (qm yq110 hb); (try clear hb); (try clear hk); (try clear ho0)) | (go_at_call 36; (with_reducible refine (spec_MergeRuns.calls k _ _ t102 t109 t110 _ ?side1 ?side2 A6.out).mono ?_); (case side1 => exact yq120); (case side2 => exact (Kd.N_reads' HO104.out).2.1); rintro e w11 ⟨v111, rfl, ho0, hb⟩; replace HO104 := Qz.mk (Kd.N_elder' yq129 (Kd.R_base ho0) hb); have HO112 := Qz.mk (Kd.R_lower (Kd.R_new' ho0 (Kd.R_lt yq128)) (qu yq110)); replace HO108 := Qz.mk (Kd.R_elder' yq128 (Kd.R_base ho0) hb); replace HB := Qz.mk (qm yq110 hb); (try clear hb); (try clear hk); (try clear ho0))))
  (try simp only [Act.put, sq1, sq2, sq3])
  go_cut [46] (fun v46 wc => ∃ (kq : Nat) (x46_6 : Bool), v46 = .bool x46_6 ∧ Qz (laws_FnMerged.j0 kq t102 t105 t106 x46_6 = some r) ∧ Qz (kq ≤ k) ∧ Qz (Kd.N k62 62 wc w.heap.size (fun k_ => some k_ ≠ (v107 : Value).ownBlock) (.slice Ao9 t102.length co9) t102) ∧ Qz (Kd.R k64 64 wc w.heap.size (fun _ => True) v107 t105) ∧ Qz (Below w.heap.size w wc))
  case first =>
   have H := HC7.out
   clear HC7
   by_cases c12 : (t106 != t110) = true
   ·rw [if_pos c12] at H
    have c12b0 : (t106 != t110) = true := c12
    (try (have c12b1 : decide (t106 = t110) = false := by simpa using c12))
    (try (have c12b2 : (t106 == t110) = false := by simpa using c12))
    (try (have c12b3 : ¬ (t106 = t110) := by simpa using c12))
    clear c12
    (first | rw [c12b0] | (simp only [i64_w, i32_w]; rw [c12b0]) | skip)
    have H' := Qz.mk H
    clear H
    go_wp2
    repeat (go_quiet (fail); try go_wp2)
    go_meet
    case rel => exact ⟨_, (true), yq122, H', ⟨by first | omega | exact Nat.le_refl _⟩, ⟨by (with_reducible repeat (first | apply Kd.N_alloc | apply Kd.N_drewN | apply Kd.N_drew)); exact Kd.N_mono HO104.out (fun _ hk => hk.1.2)⟩, ⟨by (with_reducible repeat (first | apply Kd.R_alloc | apply Kd.R_drewN | apply Kd.R_drew)); exact Kd.R_mono HO108.out (fun _ hk => trivial)⟩, ⟨by repeat (first | (with_reducible first | exact HB.out | apply qc | apply qa | apply qb) | exact HB.out)⟩⟩
   ·rw [if_neg c12] at H
    have c12b0 : (t106 != t110) = false := by simpa using c12
    (try (have c12b1 : decide (t106 = t110) = true := by simpa using c12))
    (try (have c12b2 : (t106 == t110) = true := by simpa using c12))
    clear c12
    (first | rw [c12b0] | (simp only [i64_w, i32_w]; rw [c12b0]) | skip)
    replace H := Option.bind_eq_some_iff.mp H
    obtain ⟨t113, A130, H⟩ := H
    replace H : (if t113 = true then ((impl_RunsOk.f k t102).bind fun t114 => (laws_FnMerged.j0 k t102 t105 t106 (t106 != t114))) else (laws_FnMerged.j0 k t102 t105 t106 true)) = some r := H
    have A13 := Qz.mk A130
    clear A130
    by_cases c14 : t113 = true
    ·subst c14
     have H1 : ((impl_RunsOk.f k t102).bind fun t114 => (laws_FnMerged.j0 k t102 t105 t106 (t106 != t114))) = some r := by rw [if_pos rfl] at H; exact H
     clear H
     have H := H1
     clear H1
     replace H := Option.bind_eq_some_iff.mp H
     obtain ⟨t114, A150, H⟩ := H
     replace H : (laws_FnMerged.j0 k t102 t105 t106 (t106 != t114)) = some r := H
     have A15 := Qz.mk A150
     clear A150
     have H' := Qz.mk H
     clear H
     obtain ⟨Ao16, co16, eo16⟩ := Kd.R_slice HO108.out
     subst eo16
     obtain ⟨Ao17, co17, eo17⟩ := Kd.R_slice HO112.out
     subst eo17
     go_wp2_with (first | (go_at_call 30; (with_reducible refine (laws_sameEntries.calls k _ _ t105 _ _ t109 true _ ?side1 ?side2 ?side3 ?side4 A13.out).mono ?_); (case side1 => exact yq125); (case side2 => exact (Kd.R_reads' HO108.out).2.1); (case side3 => exact yq124); (case side4 => exact (Kd.R_reads' HO112.out).2.1); rintro e w' ⟨rfl, ⟨nd, rfl⟩⟩; (try first | exact ⟨rfl, _, World.drewN_drewN _ _ _⟩ | exact ⟨rfl, _, Eq.trans (World.drewN_drewN _ _ _) (congrArg (World.drewN _) (Nat.add_assoc _ _ _))⟩)) | (go_at_call 42; (with_reducible refine (impl_RunsOk.calls k _ _ t102 t114 _ ?side1 ?side2 A15.out).mono ?_); (case side1 => exact yq120); (case side2 => exact (Kd.N_reads' HO104.out).2.1); rintro e w18 ⟨rfl, hb⟩; replace HO104 := Qz.mk (Kd.N_below yq129 hb); replace HO108 := Qz.mk (Kd.R_below yq128 hb); replace HO112 := Qz.mk (Kd.R_below (by (with_reducible repeat (first | apply Kd.R_alloc | apply Kd.R_drewN | apply Kd.R_drew)); exact HO112.out) hb); replace HB := Qz.mk (qm yq110 hb); (try clear hb); (try clear hk)))
     repeat (go_quiet (first | (go_at_call 30; (with_reducible refine (laws_sameEntries.calls k _ _ t105 _ _ t109 true _ ?side1 ?side2 ?side3 ?side4 A13.out).mono ?_); (case side1 => exact yq125); (case side2 => exact (Kd.R_reads' HO108.out).2.1); (case side3 => exact yq124); (case side4 => exact (Kd.R_reads' HO112.out).2.1); rintro e w' ⟨rfl, ⟨nd, rfl⟩⟩; (try first | exact ⟨rfl, _, World.drewN_drewN _ _ _⟩ | exact ⟨rfl, _, Eq.trans (World.drewN_drewN _ _ _) (congrArg (World.drewN _) (Nat.add_assoc _ _ _))⟩)) | (go_at_call 42; (with_reducible refine (impl_RunsOk.calls k _ _ t102 t114 _ ?side1 ?side2 A15.out).mono ?_); (case side1 => exact yq120); (case side2 => exact (Kd.N_reads' HO104.out).2.1); rintro e w18 ⟨rfl, hb⟩; replace HO104 := Qz.mk (Kd.N_below yq129 hb); replace HO108 := Qz.mk (Kd.R_below yq128 hb); replace HO112 := Qz.mk (Kd.R_below (by (with_reducible repeat (first | apply Kd.R_alloc | apply Kd.R_drewN | apply Kd.R_drew)); exact HO112.out) hb); replace HB := Qz.mk (qm yq110 hb); (try clear hb); (try clear hk))); try go_wp2_with (first | (go_at_call 30; (with_reducible refine (laws_sameEntries.calls k _ _ t105 _ _ t109 true _ ?side1 ?side2 ?side3 ?side4 A13.out).mono ?_); (case side1 => exact yq125); (case side2 => exact (Kd.R_reads' HO108.out).2.1); (case side3 => exact yq124); (case side4 => exact (Kd.R_reads' HO112.out).2.1); rintro e w' ⟨rfl, ⟨nd, rfl⟩⟩; (try first | exact ⟨rfl, _, World.drewN_drewN _ _ _⟩ | exact ⟨rfl, _, Eq.trans (World.drewN_drewN _ _ _) (congrArg (World.drewN _) (Nat.add_assoc _ _ _))⟩)) | (go_at_call 42; (with_reducible refine (impl_RunsOk.calls k _ _ t102 t114 _ ?side1 ?side2 A15.out).mono ?_); (case side1 => exact yq120); (case side2 => exact (Kd.N_reads' HO104.out).2.1); rintro e w18 ⟨rfl, hb⟩; replace HO104 := Qz.mk (Kd.N_below yq129 hb); replace HO108 := Qz.mk (Kd.R_below yq128 hb); replace HO112 := Qz.mk (Kd.R_below (by (with_reducible repeat (first | apply Kd.R_alloc | apply Kd.R_drewN | apply Kd.R_drew)); exact HO112.out) hb); replace HB := Qz.mk (qm yq110 hb); (try clear hb); (try clear hk))))
     go_meet
     case rel => exact ⟨_, ((t106 != t114)), yq122, H', ⟨by first | omega | exact Nat.le_refl _⟩, ⟨by (with_reducible repeat (first | apply Kd.N_alloc | apply Kd.N_drewN | apply Kd.N_drew)); exact Kd.N_mono HO104.out (fun _ hk => hk.1.2)⟩, ⟨by (with_reducible repeat (first | apply Kd.R_alloc | apply Kd.R_drewN | apply Kd.R_drew)); exact Kd.R_mono HO108.out (fun _ hk => trivial)⟩, ⟨by repeat (first | (with_reducible first | exact HB.out | apply qc | apply qa | apply qb) | exact HB.out)⟩⟩
    ·replace c14 := Bool.eq_false_iff.mpr c14
     subst c14
     have H1 : (laws_FnMerged.j0 k t102 t105 t106 true) = some r := by rw [if_neg (show ¬ (false = true) by decide)] at H; exact H
     clear H
     have H := H1
     clear H1
     have H' := Qz.mk H
     clear H
     obtain ⟨Ao19, co19, eo19⟩ := Kd.R_slice HO108.out
     subst eo19
     obtain ⟨Ao20, co20, eo20⟩ := Kd.R_slice HO112.out
     subst eo20
     go_wp2_with (first | (go_at_call 30; (with_reducible refine (laws_sameEntries.calls k _ _ t105 _ _ t109 false _ ?side1 ?side2 ?side3 ?side4 A13.out).mono ?_); (case side1 => exact yq125); (case side2 => exact (Kd.R_reads' HO108.out).2.1); (case side3 => exact yq124); (case side4 => exact (Kd.R_reads' HO112.out).2.1); rintro e w' ⟨rfl, ⟨nd, rfl⟩⟩; (try first | exact ⟨rfl, _, World.drewN_drewN _ _ _⟩ | exact ⟨rfl, _, Eq.trans (World.drewN_drewN _ _ _) (congrArg (World.drewN _) (Nat.add_assoc _ _ _))⟩)))
     repeat (go_quiet (first | (go_at_call 30; (with_reducible refine (laws_sameEntries.calls k _ _ t105 _ _ t109 false _ ?side1 ?side2 ?side3 ?side4 A13.out).mono ?_); (case side1 => exact yq125); (case side2 => exact (Kd.R_reads' HO108.out).2.1); (case side3 => exact yq124); (case side4 => exact (Kd.R_reads' HO112.out).2.1); rintro e w' ⟨rfl, ⟨nd, rfl⟩⟩; (try first | exact ⟨rfl, _, World.drewN_drewN _ _ _⟩ | exact ⟨rfl, _, Eq.trans (World.drewN_drewN _ _ _) (congrArg (World.drewN _) (Nat.add_assoc _ _ _))⟩))); try go_wp2_with (first | (go_at_call 30; (with_reducible refine (laws_sameEntries.calls k _ _ t105 _ _ t109 false _ ?side1 ?side2 ?side3 ?side4 A13.out).mono ?_); (case side1 => exact yq125); (case side2 => exact (Kd.R_reads' HO108.out).2.1); (case side3 => exact yq124); (case side4 => exact (Kd.R_reads' HO112.out).2.1); rintro e w' ⟨rfl, ⟨nd, rfl⟩⟩; (try first | exact ⟨rfl, _, World.drewN_drewN _ _ _⟩ | exact ⟨rfl, _, Eq.trans (World.drewN_drewN _ _ _) (congrArg (World.drewN _) (Nat.add_assoc _ _ _))⟩))))
     go_meet
     case rel => exact ⟨_, (true), yq122, H', ⟨by first | omega | exact Nat.le_refl _⟩, ⟨by (with_reducible repeat (first | apply Kd.N_alloc | apply Kd.N_drewN | apply Kd.N_drew)); exact Kd.N_mono HO104.out (fun _ hk => hk.1.2)⟩, ⟨by (with_reducible repeat (first | apply Kd.R_alloc | apply Kd.R_drewN | apply Kd.R_drew)); exact Kd.R_mono HO108.out (fun _ hk => trivial)⟩, ⟨by repeat (first | (with_reducible first | exact HB.out | apply qc | apply qa | apply qb) | exact HB.out)⟩⟩
  case rest =>
   clear HC7
   try clear c1
   try clear p2
   try clear c3
   try clear c10
   try clear c12
   try clear c12b0
   try clear c12b1
   try clear c12b2
   try clear c14
   obtain ⟨kq, x46_6, rfl, HA, HJ6, HO_3, HO_4, HB⟩ := hcut
   cases kq with
   | zero => exact absurd HA.out (by simp [laws_FnMerged.j0])
   | succ kj6 =>
    have H := HA.out
    clear HA
    simp only [laws_FnMerged.j0] at H
    by_cases c21 : x46_6 = true
    ·subst c21
     have H1 : (some false) = some r := by rw [if_pos rfl] at H; exact H
     clear H
     have H := H1
     clear H1
     obtain rfl := Option.some.inj H
     go_wp2
     repeat (go_quiet (fail); try go_wp2)
     go_ret
     exact ⟨by first | rfl | (simp [qq, qo] <;> rfl) | (simp [*, qq, qo] <;> rfl), by repeat (first | (with_reducible first | exact HB.out | apply qc | apply qa | apply qb) | exact HB.out)⟩
    ·replace c21 := Bool.eq_false_iff.mpr c21
     subst c21
     have H1 : (if t106 = true then (laws_FnMerged.l0 kj6 t102 t105 0 0) else (some true)) = some r := by rw [if_neg (show ¬ (false = true) by decide)] at H; exact H
     clear H
     have H := H1
     clear H1
     by_cases c22 : t106 = true
     ·subst c22
      have H1 : (laws_FnMerged.l0 kj6 t102 t105 0 0) = some r := by rw [if_pos rfl] at H; exact H
      clear H
      have H := H1
      clear H1
      have H' := Qz.mk H
      clear H
      go_wp2
      repeat (go_quiet (fail); try go_wp2)
      go_loopg [9] kj6 (fun kq v9 w' => ∃ (x9_2 : Int), v9 = .int .i64 x9_2 ∧ Qz (laws_FnMerged.l0 kq t102 t105 0 x9_2 = some r) ∧ Qz (kq ≤ kj6) ∧ Qz (Kd.N k62 62 w' w.heap.size (fun k_ => some k_ ≠ (v107 : Value).ownBlock) (.slice Ao9 t102.length co9) t102) ∧ Qz (Kd.R k64 64 w' w.heap.size (fun _ => True) v107 t105) ∧ Qz (Below w.heap.size w w'))
      case atStart => exact ⟨(0), yq122, H', ⟨Nat.le_refl _⟩, ⟨by (with_reducible repeat (first | apply Kd.N_alloc | apply Kd.N_drewN | apply Kd.N_drew)); exact HO_3.out⟩, ⟨by (with_reducible repeat (first | apply Kd.R_alloc | apply Kd.R_drewN | apply Kd.R_drew)); exact HO_4.out⟩, ⟨by repeat (first | (with_reducible first | exact HB.out | apply qc | apply qa | apply qb) | exact HB.out)⟩⟩
      case round =>
       clear H'
       try clear c1
       try clear c2
       try clear p2
       try clear c3
       try clear c10
       try clear c12
       try clear c12b0
       try clear c12b1
       try clear c12b2
       try clear c14
       try clear c21
       try clear c22
       try clear p2
       obtain ⟨x9_2, rfl, HA, HK2, HO_3, HO_4, HB⟩ := hrel
       cases gk with
       | zero => exact absurd HA.out (by simp [laws_FnMerged.l0])
       | succ k2 =>
        have H := HA.out
        clear HA
        simp only [laws_FnMerged.l0] at H
        by_cases c23 : x9_2 < (t105.length : Int)
        ·rw [if_pos c23] at H
         have c23b0 : decide (x9_2 < (t105.length : Int)) = true := decide_eq_true c23
         clear c23
         have H' := Qz.mk H
         clear H
         obtain ⟨Ao24, co24, eo24⟩ := Kd.R_slice HO_4.out
         subst eo24
         go_wp2
         repeat (go_quiet (fail); try go_wp2)
         go_loopg [10, 11] k2 (fun kq v10 v11 w' => ∃ (x10_3 : Bool) (x11_3 : Int), v10 = .bool x10_3 ∧ v11 = .int .i64 x11_3 ∧ Qz (laws_FnMerged.l1 kq t102 t105 0 x9_2 x10_3 x11_3 = some r) ∧ Qz (kq ≤ k2) ∧ Qz (Kd.N k62 62 w' w.heap.size (fun k_ => some k_ ≠ ((.slice Ao24 t105.length co24) : Value).ownBlock) (.slice Ao9 t102.length co9) t102) ∧ Qz (Kd.R k64 64 w' w.heap.size (fun _ => True) (.slice Ao24 t105.length co24) t105) ∧ Qz (Below w.heap.size w w'))
         case atStart => exact ⟨(false), (0), yq122, yq122, H', ⟨Nat.le_refl _⟩, ⟨by (with_reducible repeat (first | apply Kd.N_alloc | apply Kd.N_drewN | apply Kd.N_drew)); exact HO_3.out⟩, ⟨by (with_reducible repeat (first | apply Kd.R_alloc | apply Kd.R_drewN | apply Kd.R_drew)); exact HO_4.out⟩, ⟨by repeat (first | (with_reducible first | exact HB.out | apply qc | apply qa | apply qb) | exact HB.out)⟩⟩
         case round =>
          clear H'
          try clear c1
          try clear c2
          try clear p2
          try clear c3
          try clear c10
          try clear c12
          try clear c12b0
          try clear c12b1
          try clear c12b2
          try clear c14
          try clear c21
          try clear c22
          try clear c23
          try clear c23b0
          try clear p2
          obtain ⟨x10_3, x11_3, rfl, rfl, HA, HK3, HO_3, HO_4, HB⟩ := hrel
          cases gk with
          | zero => exact absurd HA.out (by simp [laws_FnMerged.l1])
          | succ k3 =>
           have H := HA.out
           clear HA
           simp only [laws_FnMerged.l1] at H
           have HC25 := Qz.mk H
           clear H
           go_upto_region 16 with (fail)
           repeat (go_quiet (fail); go_upto_region 16 with (fail))
           go_cut [62] (fun v62 wc => ∃ (kq : Nat) (x62_24 : Bool), v62 = .bool x62_24 ∧ Qz (laws_FnMerged.j3 kq t102 t105 0 x9_2 x10_3 x11_3 x62_24 = some r) ∧ Qz (kq ≤ k3) ∧ Qz (Kd.N k62 62 wc w.heap.size (fun k_ => some k_ ≠ ((.slice Ao24 t105.length co24) : Value).ownBlock) (.slice Ao9 t102.length co9) t102) ∧ Qz (Kd.R k64 64 wc w.heap.size (fun _ => True) (.slice Ao24 t105.length co24) t105) ∧ Qz (Below w.heap.size w wc))
           case first =>
            have H := HC25.out
            clear HC25
            by_cases c26 : x11_3 < (t102.length : Int)
            ·rw [if_pos c26] at H
             have c26b0 : decide (x11_3 < (t102.length : Int)) = true := decide_eq_true c26
             clear c26
             (first | rw [c26b0] | (simp only [i64_w, i32_w]; rw [c26b0]) | skip)
             have H' := Qz.mk H
             clear H
             go_wp2
             repeat (go_quiet (fail); try go_wp2)
             go_meet
             case rel => exact ⟨_, (!x10_3), yq122, H', ⟨by have := HJ6.out; have := HK2.out; have := HK3.out; first | omega | exact Nat.le_refl _⟩, ⟨by (with_reducible repeat (first | apply Kd.N_alloc | apply Kd.N_drewN | apply Kd.N_drew)); exact HO_3.out⟩, ⟨by (with_reducible repeat (first | apply Kd.R_alloc | apply Kd.R_drewN | apply Kd.R_drew)); exact HO_4.out⟩, ⟨by repeat (first | (with_reducible first | exact HB.out | apply qc | apply qa | apply qb) | exact HB.out)⟩⟩
            ·rw [if_neg c26] at H
             have c26b0 : decide (x11_3 < (t102.length : Int)) = false := decide_eq_false c26
             clear c26
             (first | rw [c26b0] | (simp only [i64_w, i32_w]; rw [c26b0]) | skip)
             have H' := Qz.mk H
             clear H
             go_wp2
             repeat (go_quiet (fail); try go_wp2)
             go_meet
             case rel => exact ⟨_, (false), yq122, H', ⟨by have := HJ6.out; have := HK2.out; have := HK3.out; first | omega | exact Nat.le_refl _⟩, ⟨by (with_reducible repeat (first | apply Kd.N_alloc | apply Kd.N_drewN | apply Kd.N_drew)); exact HO_3.out⟩, ⟨by (with_reducible repeat (first | apply Kd.R_alloc | apply Kd.R_drewN | apply Kd.R_drew)); exact HO_4.out⟩, ⟨by repeat (first | (with_reducible first | exact HB.out | apply qc | apply qa | apply qb) | exact HB.out)⟩⟩
           case rest =>
            clear HC25
            try clear c1
            try clear c2
            try clear p2
            try clear c3
            try clear c10
            try clear c12
            try clear c12b0
            try clear c12b1
            try clear c12b2
            try clear c14
            try clear c21
            try clear c22
            try clear c23
            try clear c23b0
            try clear c26
            try clear c26b0
            try clear p2
            obtain ⟨kq, x62_24, rfl, HA, HJ24, HO_3, HO_4, HB⟩ := hcut
            cases kq with
            | zero => exact absurd HA.out (by simp [laws_FnMerged.j3])
            | succ kj24 =>
             have H := HA.out
             clear HA
             simp only [laws_FnMerged.j3] at H
             by_cases c27 : x62_24 = true
             ·subst c27
              have H1 : (laws_FnMerged.l2 kj24 t102 t105 0 x9_2 x10_3 x11_3 0) = some r := by rw [if_pos rfl] at H; exact H
              clear H
              have H := H1
              clear H1
              have H' := Qz.mk H
              clear H
              go_wp2
              repeat (go_quiet (fail); try go_wp2)
              go_loopg [10, 12] kj24 (fun kq v10 v12 w' => ∃ (x10_5 : Bool) (x12_5 : Int), v10 = .bool x10_5 ∧ v12 = .int .i64 x12_5 ∧ Qz (laws_FnMerged.l2 kq t102 t105 0 x9_2 x10_5 x11_3 x12_5 = some r) ∧ Qz (kq ≤ kj24) ∧ Qz (Kd.N k62 62 w' w.heap.size (fun k_ => some k_ ≠ ((.slice Ao24 t105.length co24) : Value).ownBlock) (.slice Ao9 t102.length co9) t102) ∧ Qz (Kd.R k64 64 w' w.heap.size (fun _ => True) (.slice Ao24 t105.length co24) t105) ∧ Qz (Below w.heap.size w w'))
              case atStart => exact ⟨(x10_3), (0), yq122, yq122, H', ⟨Nat.le_refl _⟩, ⟨by (with_reducible repeat (first | apply Kd.N_alloc | apply Kd.N_drewN | apply Kd.N_drew)); exact HO_3.out⟩, ⟨by (with_reducible repeat (first | apply Kd.R_alloc | apply Kd.R_drewN | apply Kd.R_drew)); exact HO_4.out⟩, ⟨by repeat (first | (with_reducible first | exact HB.out | apply qc | apply qa | apply qb) | exact HB.out)⟩⟩
              case round =>
               clear H'
               try clear c1
               try clear c2
               try clear p2
               try clear c3
               try clear c10
               try clear c12
               try clear c12b0
               try clear c12b1
               try clear c12b2
               try clear c14
               try clear c21
               try clear c22
               try clear c23
               try clear c23b0
               try clear c26
               try clear c26b0
               try clear c27
               try clear p2
               obtain ⟨x10_5, x12_5, rfl, rfl, HA, HK5, HO_3, HO_4, HB⟩ := hrel
               cases gk with
               | zero => exact absurd HA.out (by simp [laws_FnMerged.l2])
               | succ k5 =>
                have H := HA.out
                clear HA
                simp only [laws_FnMerged.l2] at H
                by_cases c28 : 0 ≤ x11_3
                ·rw [if_pos c28] at H
                 have c28b0 : decide (0 ≤ x11_3) = true := decide_eq_true c28
                 clear c28
                 by_cases c29 : x11_3 < (t102.length : Int)
                 ·rw [if_pos c29] at H
                  have c29b0 : decide (x11_3 < (t102.length : Int)) = true := decide_eq_true c29
                  clear c29
                  by_cases c30 : x12_5 < (((qv t102 x11_3).f0).length : Int)
                  ·rw [if_pos c30] at H
                   have c30b0 : decide (x12_5 < (((qv t102 x11_3).f0).length : Int)) = true := decide_eq_true c30
                   clear c30
                   by_cases c31 : 0 ≤ x12_5
                   ·rw [if_pos c31] at H
                    have c31b0 : decide (0 ≤ x12_5) = true := decide_eq_true c31
                    clear c31
                    by_cases c32 : 0 ≤ x9_2
                    ·rw [if_pos c32] at H
                     have c32b0 : decide (0 ≤ x9_2) = true := decide_eq_true c32
                     clear c32
                     by_cases c33 : x9_2 < (t105.length : Int)
                     ·rw [if_pos c33] at H
                      have c33b0 : decide (x9_2 < (t105.length : Int)) = true := decide_eq_true c33
                      clear c33
                      by_cases c34 : ((((qd ((qv t102 x11_3).f0) x12_5).f0.f0).toList) == (((qd t105 x9_2).f0.f0).toList) && (((qd ((qv t102 x11_3).f0) x12_5).f0.f1) == ((qd t105 x9_2).f0.f1) && (((qd ((qv t102 x11_3).f0) x12_5).f0.f2) == ((qd t105 x9_2).f0.f2)))) = true
                      ·rw [if_pos c34] at H
                       have c34b0 : ((((qd ((qv t102 x11_3).f0) x12_5).f0.f0).toList) == (((qd t105 x9_2).f0.f0).toList) && (((qd ((qv t102 x11_3).f0) x12_5).f0.f1) == ((qd t105 x9_2).f0.f1) && (((qd ((qv t102 x11_3).f0) x12_5).f0.f2) == ((qd t105 x9_2).f0.f2)))) = true := c34
                       (try (have c34b1 : decide ((((qd ((qv t102 x11_3).f0) x12_5).f0.f0).toList) = (((qd t105 x9_2).f0.f0).toList) && (((qd ((qv t102 x11_3).f0) x12_5).f0.f1) == ((qd t105 x9_2).f0.f1) && (((qd ((qv t102 x11_3).f0) x12_5).f0.f2) == ((qd t105 x9_2).f0.f2)))) = true := by simpa using c34))
                       (try (have c34b2 : ((((qd ((qv t102 x11_3).f0) x12_5).f0.f0).toList) == (((qd t105 x9_2).f0.f0).toList) && (((qd ((qv t102 x11_3).f0) x12_5).f0.f1) == ((qd t105 x9_2).f0.f1) && (((qd ((qv t102 x11_3).f0) x12_5).f0.f2) == ((qd t105 x9_2).f0.f2)))) = true := by simpa using c34))
                       clear c34
                       by_cases c35 : ((!((((qd ((qv t102 x11_3).f0) x12_5).f0.f0).toList) == (((qd t105 x9_2).f0.f0).toList)) || (!(((qd ((qv t102 x11_3).f0) x12_5).f0.f1) == ((qd t105 x9_2).f0.f1)) || (!(((qd ((qv t102 x11_3).f0) x12_5).f0.f2) == ((qd t105 x9_2).f0.f2))))) || (!((((qd ((qv t102 x11_3).f0) x12_5).f1).toList) == (((qd t105 x9_2).f1).toList)))) = true
                       ·rw [if_pos c35] at H
                        have c35b0 : ((!((((qd ((qv t102 x11_3).f0) x12_5).f0.f0).toList) == (((qd t105 x9_2).f0.f0).toList)) || (!(((qd ((qv t102 x11_3).f0) x12_5).f0.f1) == ((qd t105 x9_2).f0.f1)) || (!(((qd ((qv t102 x11_3).f0) x12_5).f0.f2) == ((qd t105 x9_2).f0.f2))))) || (!((((qd ((qv t102 x11_3).f0) x12_5).f1).toList) == (((qd t105 x9_2).f1).toList)))) = true := c35
                        have c35n_ : (!((((qd ((qv t102 x11_3).f0) x12_5).f1).toList) == (((qd t105 x9_2).f1).toList))) = true := by have h_ := c34b0; simp only [Bool.and_eq_true] at h_; have g_ := c35b0; simp only [h_.1, h_.2.1, h_.2.2, Bool.not_true, Bool.false_or] at g_; exact g_
                        clear c35
                        obtain rfl := Option.some.inj H
                        have p115 : 0 ≤ (x11_3 : Int) := of_decide_eq_true yq113
                        have q115 : x11_3 < (t102.length : Int) := of_decide_eq_true yq113
                        obtain ⟨ad115, A115_0, c115_0, e115, hx115_0, hl115_0, hi115_0⟩ := at_T62 (Kd.N_reads' HO_3.out).2.2 x11_3 p115 q115
                        cases e115
                        obtain ⟨ce115, hce115, hMe115, hcc115⟩ := Kd.N_get HO_3.out z62 x11_3 p115 yq135
                        obtain ⟨ua115_0, uc115_0, rfl, ul115_0, ge115_0⟩ := k62_openF hMe115
                        have hv115_0 := hcc115 0 _ rfl
                        rw [Nat.add_zero, show (k62).sz = 1 from rfl, Nat.mul_one] at hv115_0
                        replace hv115_0 := Option.some.inj (hv115_0.symm.trans hx115_0)
                        injection hv115_0 with hva_ hvn_ hvc_
                        rw [hva_] at ge115_0
                        rw [hvc_] at ul115_0
                        have HL115_0 := Qz.mk (show Kd.V k64 64 _ w.heap.size _ _ ((qv t102 x11_3).f0) from Kd.V_mk ul115_0 ge115_0)
                        clear hva_ hvn_ hvc_ ge115_0 ul115_0
                        clear hcc115 hce115
                        have HR115_0 := Qz.mk hi115_0
                        have HC115_0 := Qz.mk hl115_0
                        clear hi115_0 hl115_0
                        replace p115 := eq_true p115
                        replace q115 := eq_true q115
                        have p116 : 0 ≤ (x11_3 : Int) := of_decide_eq_true yq113
                        have q116 : x11_3 < (t102.length : Int) := of_decide_eq_true yq113
                        obtain ⟨ad116, A116_0, c116_0, e116, hx116_0, hl116_0, hi116_0⟩ := at_T62 (Kd.N_reads' HO_3.out).2.2 x11_3 p116 q116
                        obtain rfl : ad115 = ad116 := (by injection e116)
                        obtain ⟨ce116, hce116, hMe116, hcc116⟩ := Kd.N_get HO_3.out z62 x11_3 p116 (by first | exact q116 | exact of_decide_eq_true yq113 | (have e_ := (Kd.N_reads' HO_3.out).1; omega))
                        obtain ⟨ua116_0, uc116_0, rfl, ul116_0, ge116_0⟩ := k62_openF hMe116
                        have hv116_0 := hcc116 0 _ rfl
                        rw [Nat.add_zero, show (k62).sz = 1 from rfl, Nat.mul_one] at hv116_0
                        replace hv116_0 := Option.some.inj (hv116_0.symm.trans hx116_0)
                        injection hv116_0 with hva_ hvn_ hvc_
                        rw [hva_] at ge116_0
                        rw [hvc_] at ul116_0
                        have HL116_0 := Qz.mk (show Kd.V k64 64 _ w.heap.size _ _ ((qv t102 x11_3).f0) from Kd.V_mk ul116_0 ge116_0)
                        clear hva_ hvn_ hvc_ ge116_0 ul116_0
                        clear hcc116 hce116
                        have HR116_0 := Qz.mk hi116_0
                        have HC116_0 := Qz.mk hl116_0
                        clear hi116_0 hl116_0
                        replace p116 := eq_true p116
                        replace q116 := eq_true q116
                        have ea_ := Option.some.inj (hx115_0.symm.trans hx116_0)
                        injection ea_ with ea_ en_ ec_
                        subst ea_
                        subst ec_
                        clear en_
                        have p117 : 0 ≤ (x12_5 : Int) := of_decide_eq_true yq113
                        have q117 : x12_5 < (((qv t102 x11_3).f0).length : Int) := of_decide_eq_true yq113
                        obtain ⟨ad117, e117, hx117_0, hx117_1, hx117_2, hx117_3⟩ := at_T64 yq132 x12_5 p117 q117
                        cases e117
                        replace p117 := eq_true p117
                        replace q117 := eq_true q117
                        have p118 : 0 ≤ (x9_2 : Int) := of_decide_eq_true yq113
                        have q118 : x9_2 < (t105.length : Int) := of_decide_eq_true yq113
                        obtain ⟨ad118, e118, hx118_0, hx118_1, hx118_2, hx118_3⟩ := at_T64 (Kd.R_reads' HO_4.out).2.2 x9_2 p118 q118
                        cases e118
                        replace p118 := eq_true p118
                        replace q118 := eq_true q118
                        have p119 : 0 ≤ (x11_3 : Int) := of_decide_eq_true yq113
                        have q119 : x11_3 < (t102.length : Int) := of_decide_eq_true yq113
                        obtain ⟨ad119, A119_0, c119_0, e119, hx119_0, hl119_0, hi119_0⟩ := at_T62 (Kd.N_reads' HO_3.out).2.2 x11_3 p119 q119
                        obtain rfl : ad115 = ad119 := (by injection e119)
                        obtain ⟨ce119, hce119, hMe119, hcc119⟩ := Kd.N_get HO_3.out z62 x11_3 p119 (by first | exact q119 | exact of_decide_eq_true yq113 | (have e_ := (Kd.N_reads' HO_3.out).1; omega))
                        obtain ⟨ua119_0, uc119_0, rfl, ul119_0, ge119_0⟩ := k62_openF hMe119
                        have hv119_0 := hcc119 0 _ rfl
                        rw [Nat.add_zero, show (k62).sz = 1 from rfl, Nat.mul_one] at hv119_0
                        replace hv119_0 := Option.some.inj (hv119_0.symm.trans hx119_0)
                        injection hv119_0 with hva_ hvn_ hvc_
                        rw [hva_] at ge119_0
                        rw [hvc_] at ul119_0
                        have HL119_0 := Qz.mk (show Kd.V k64 64 _ w.heap.size _ _ ((qv t102 x11_3).f0) from Kd.V_mk ul119_0 ge119_0)
                        clear hva_ hvn_ hvc_ ge119_0 ul119_0
                        clear hcc119 hce119
                        have HR119_0 := Qz.mk hi119_0
                        have HC119_0 := Qz.mk hl119_0
                        clear hi119_0 hl119_0
                        replace p119 := eq_true p119
                        replace q119 := eq_true q119
                        have ea_ := Option.some.inj (hx115_0.symm.trans hx119_0)
                        injection ea_ with ea_ en_ ec_
                        subst ea_
                        subst ec_
                        clear en_
                        have p120 : 0 ≤ (x12_5 : Int) := of_decide_eq_true yq113
                        have q120 : x12_5 < (((qv t102 x11_3).f0).length : Int) := of_decide_eq_true yq113
                        obtain ⟨ad120, e120, hx120_0, hx120_1, hx120_2, hx120_3⟩ := at_T64 (by repeat (first | (with_reducible exact HR119_0.out) | (with_reducible refine Kd.C_alloc ?_ _) | (with_reducible refine Kd.C_drewN ?_ _) | (with_reducible refine Kd.C_drew ?_) | exact HR119_0.out)) x12_5 p120 q120
                        cases e120
                        replace p120 := eq_true p120
                        replace q120 := eq_true q120
                        have p121 : 0 ≤ (x9_2 : Int) := of_decide_eq_true yq113
                        have q121 : x9_2 < (t105.length : Int) := of_decide_eq_true yq113
                        obtain ⟨ad121, e121, hx121_0, hx121_1, hx121_2, hx121_3⟩ := at_T64 (Kd.R_reads' HO_4.out).2.2 x9_2 p121 q121
                        obtain rfl : ad118 = ad121 := (by injection e121)
                        replace p121 := eq_true p121
                        replace q121 := eq_true q121
                        go_wp2
                        repeat (go_quiet (fail); try go_wp2)
                        go_ret
                        exact ⟨by first | rfl | (simp [qq, qo] <;> rfl) | (simp [*, qq, qo] <;> rfl), by repeat (first | (with_reducible first | exact HB.out | apply qc | apply qa | apply qb) | exact HB.out)⟩
                       ·rw [if_neg c35] at H
                        have c35b0 : ((!((((qd ((qv t102 x11_3).f0) x12_5).f0.f0).toList) == (((qd t105 x9_2).f0.f0).toList)) || (!(((qd ((qv t102 x11_3).f0) x12_5).f0.f1) == ((qd t105 x9_2).f0.f1)) || (!(((qd ((qv t102 x11_3).f0) x12_5).f0.f2) == ((qd t105 x9_2).f0.f2))))) || (!((((qd ((qv t102 x11_3).f0) x12_5).f1).toList) == (((qd t105 x9_2).f1).toList)))) = false := by simpa using c35
                        have c35n_ : (!((((qd ((qv t102 x11_3).f0) x12_5).f1).toList) == (((qd t105 x9_2).f1).toList))) = false := by have h_ := c34b0; simp only [Bool.and_eq_true] at h_; have g_ := c35b0; simp only [h_.1, h_.2.1, h_.2.2, Bool.not_true, Bool.false_or] at g_; exact g_
                        clear c35
                        have H' := Qz.mk H
                        clear H
                        have p115 : 0 ≤ (x11_3 : Int) := of_decide_eq_true yq113
                        have q115 : x11_3 < (t102.length : Int) := of_decide_eq_true yq113
                        obtain ⟨ad115, A115_0, c115_0, e115, hx115_0, hl115_0, hi115_0⟩ := at_T62 (Kd.N_reads' HO_3.out).2.2 x11_3 p115 q115
                        cases e115
                        obtain ⟨ce115, hce115, hMe115, hcc115⟩ := Kd.N_get HO_3.out z62 x11_3 p115 yq135
                        obtain ⟨ua115_0, uc115_0, rfl, ul115_0, ge115_0⟩ := k62_openF hMe115
                        have hv115_0 := hcc115 0 _ rfl
                        rw [Nat.add_zero, show (k62).sz = 1 from rfl, Nat.mul_one] at hv115_0
                        replace hv115_0 := Option.some.inj (hv115_0.symm.trans hx115_0)
                        injection hv115_0 with hva_ hvn_ hvc_
                        rw [hva_] at ge115_0
                        rw [hvc_] at ul115_0
                        have HL115_0 := Qz.mk (show Kd.V k64 64 _ w.heap.size _ _ ((qv t102 x11_3).f0) from Kd.V_mk ul115_0 ge115_0)
                        clear hva_ hvn_ hvc_ ge115_0 ul115_0
                        clear hcc115 hce115
                        have HR115_0 := Qz.mk hi115_0
                        have HC115_0 := Qz.mk hl115_0
                        clear hi115_0 hl115_0
                        replace p115 := eq_true p115
                        replace q115 := eq_true q115
                        have p116 : 0 ≤ (x11_3 : Int) := of_decide_eq_true yq113
                        have q116 : x11_3 < (t102.length : Int) := of_decide_eq_true yq113
                        obtain ⟨ad116, A116_0, c116_0, e116, hx116_0, hl116_0, hi116_0⟩ := at_T62 (Kd.N_reads' HO_3.out).2.2 x11_3 p116 q116
                        obtain rfl : ad115 = ad116 := (by injection e116)
                        obtain ⟨ce116, hce116, hMe116, hcc116⟩ := Kd.N_get HO_3.out z62 x11_3 p116 (by first | exact q116 | exact of_decide_eq_true yq113 | (have e_ := (Kd.N_reads' HO_3.out).1; omega))
                        obtain ⟨ua116_0, uc116_0, rfl, ul116_0, ge116_0⟩ := k62_openF hMe116
                        have hv116_0 := hcc116 0 _ rfl
                        rw [Nat.add_zero, show (k62).sz = 1 from rfl, Nat.mul_one] at hv116_0
                        replace hv116_0 := Option.some.inj (hv116_0.symm.trans hx116_0)
                        injection hv116_0 with hva_ hvn_ hvc_
                        rw [hva_] at ge116_0
                        rw [hvc_] at ul116_0
                        have HL116_0 := Qz.mk (show Kd.V k64 64 _ w.heap.size _ _ ((qv t102 x11_3).f0) from Kd.V_mk ul116_0 ge116_0)
                        clear hva_ hvn_ hvc_ ge116_0 ul116_0
                        clear hcc116 hce116
                        have HR116_0 := Qz.mk hi116_0
                        have HC116_0 := Qz.mk hl116_0
                        clear hi116_0 hl116_0
                        replace p116 := eq_true p116
                        replace q116 := eq_true q116
                        have ea_ := Option.some.inj (hx115_0.symm.trans hx116_0)
                        injection ea_ with ea_ en_ ec_
                        subst ea_
                        subst ec_
                        clear en_
                        have p117 : 0 ≤ (x12_5 : Int) := of_decide_eq_true yq113
                        have q117 : x12_5 < (((qv t102 x11_3).f0).length : Int) := of_decide_eq_true yq113
                        obtain ⟨ad117, e117, hx117_0, hx117_1, hx117_2, hx117_3⟩ := at_T64 yq132 x12_5 p117 q117
                        cases e117
                        replace p117 := eq_true p117
                        replace q117 := eq_true q117
                        have p118 : 0 ≤ (x9_2 : Int) := of_decide_eq_true yq113
                        have q118 : x9_2 < (t105.length : Int) := of_decide_eq_true yq113
                        obtain ⟨ad118, e118, hx118_0, hx118_1, hx118_2, hx118_3⟩ := at_T64 (Kd.R_reads' HO_4.out).2.2 x9_2 p118 q118
                        cases e118
                        replace p118 := eq_true p118
                        replace q118 := eq_true q118
                        have p119 : 0 ≤ (x11_3 : Int) := of_decide_eq_true yq113
                        have q119 : x11_3 < (t102.length : Int) := of_decide_eq_true yq113
                        obtain ⟨ad119, A119_0, c119_0, e119, hx119_0, hl119_0, hi119_0⟩ := at_T62 (Kd.N_reads' HO_3.out).2.2 x11_3 p119 q119
                        obtain rfl : ad115 = ad119 := (by injection e119)
                        obtain ⟨ce119, hce119, hMe119, hcc119⟩ := Kd.N_get HO_3.out z62 x11_3 p119 (by first | exact q119 | exact of_decide_eq_true yq113 | (have e_ := (Kd.N_reads' HO_3.out).1; omega))
                        obtain ⟨ua119_0, uc119_0, rfl, ul119_0, ge119_0⟩ := k62_openF hMe119
                        have hv119_0 := hcc119 0 _ rfl
                        rw [Nat.add_zero, show (k62).sz = 1 from rfl, Nat.mul_one] at hv119_0
                        replace hv119_0 := Option.some.inj (hv119_0.symm.trans hx119_0)
                        injection hv119_0 with hva_ hvn_ hvc_
                        rw [hva_] at ge119_0
                        rw [hvc_] at ul119_0
                        have HL119_0 := Qz.mk (show Kd.V k64 64 _ w.heap.size _ _ ((qv t102 x11_3).f0) from Kd.V_mk ul119_0 ge119_0)
                        clear hva_ hvn_ hvc_ ge119_0 ul119_0
                        clear hcc119 hce119
                        have HR119_0 := Qz.mk hi119_0
                        have HC119_0 := Qz.mk hl119_0
                        clear hi119_0 hl119_0
                        replace p119 := eq_true p119
                        replace q119 := eq_true q119
                        have ea_ := Option.some.inj (hx115_0.symm.trans hx119_0)
                        injection ea_ with ea_ en_ ec_
                        subst ea_
                        subst ec_
                        clear en_
                        have p120 : 0 ≤ (x12_5 : Int) := of_decide_eq_true yq113
                        have q120 : x12_5 < (((qv t102 x11_3).f0).length : Int) := of_decide_eq_true yq113
                        obtain ⟨ad120, e120, hx120_0, hx120_1, hx120_2, hx120_3⟩ := at_T64 (by repeat (first | (with_reducible exact HR119_0.out) | (with_reducible refine Kd.C_alloc ?_ _) | (with_reducible refine Kd.C_drewN ?_ _) | (with_reducible refine Kd.C_drew ?_) | exact HR119_0.out)) x12_5 p120 q120
                        cases e120
                        replace p120 := eq_true p120
                        replace q120 := eq_true q120
                        have p121 : 0 ≤ (x9_2 : Int) := of_decide_eq_true yq113
                        have q121 : x9_2 < (t105.length : Int) := of_decide_eq_true yq113
                        obtain ⟨ad121, e121, hx121_0, hx121_1, hx121_2, hx121_3⟩ := at_T64 (Kd.R_reads' HO_4.out).2.2 x9_2 p121 q121
                        obtain rfl : ad118 = ad121 := (by injection e121)
                        replace p121 := eq_true p121
                        replace q121 := eq_true q121
                        go_wp2
                        repeat (go_quiet (fail); try go_wp2)
                        go_roundg k5
                        case measure => have := HJ6.out; have := HK2.out; have := HK3.out; have := HJ24.out; have := HK5.out; omega
                        case rel => exact ⟨(true), (wrap64 (x12_5 + 1)), yq122, yq122, H', ⟨by have := HJ6.out; have := HK2.out; have := HK3.out; have := HJ24.out; have := HK5.out; omega⟩, ⟨by (with_reducible repeat (first | apply Kd.N_alloc | apply Kd.N_drewN | apply Kd.N_drew)); exact HO_3.out⟩, ⟨by (with_reducible repeat (first | apply Kd.R_alloc | apply Kd.R_drewN | apply Kd.R_drew)); exact HO_4.out⟩, ⟨by repeat (first | (with_reducible first | exact HB.out | apply qc | apply qa | apply qb) | exact HB.out)⟩⟩
                      ·rw [if_neg c34] at H
                       have c34b0 : ((((qd ((qv t102 x11_3).f0) x12_5).f0.f0).toList) == (((qd t105 x9_2).f0.f0).toList) && (((qd ((qv t102 x11_3).f0) x12_5).f0.f1) == ((qd t105 x9_2).f0.f1) && (((qd ((qv t102 x11_3).f0) x12_5).f0.f2) == ((qd t105 x9_2).f0.f2)))) = false := by simpa using c34
                       (try (have c34b1 : decide ((((qd ((qv t102 x11_3).f0) x12_5).f0.f0).toList) = (((qd t105 x9_2).f0.f0).toList) && (((qd ((qv t102 x11_3).f0) x12_5).f0.f1) == ((qd t105 x9_2).f0.f1) && (((qd ((qv t102 x11_3).f0) x12_5).f0.f2) == ((qd t105 x9_2).f0.f2)))) = false := by simpa using c34))
                       (try (have c34b2 : ((((qd ((qv t102 x11_3).f0) x12_5).f0.f0).toList) == (((qd t105 x9_2).f0.f0).toList) && (((qd ((qv t102 x11_3).f0) x12_5).f0.f1) == ((qd t105 x9_2).f0.f1) && (((qd ((qv t102 x11_3).f0) x12_5).f0.f2) == ((qd t105 x9_2).f0.f2)))) = false := by simpa using c34))
                       (try (have c34b3 : ¬ ((((qd ((qv t102 x11_3).f0) x12_5).f0.f0).toList) = (((qd t105 x9_2).f0.f0).toList) && (((qd ((qv t102 x11_3).f0) x12_5).f0.f1) == ((qd t105 x9_2).f0.f1) && (((qd ((qv t102 x11_3).f0) x12_5).f0.f2) == ((qd t105 x9_2).f0.f2)))) := by simpa using c34))
                       clear c34
                       have H' := Qz.mk H
                       clear H
                       have p115 : 0 ≤ (x11_3 : Int) := of_decide_eq_true yq113
                       have q115 : x11_3 < (t102.length : Int) := of_decide_eq_true yq113
                       obtain ⟨ad115, A115_0, c115_0, e115, hx115_0, hl115_0, hi115_0⟩ := at_T62 (Kd.N_reads' HO_3.out).2.2 x11_3 p115 q115
                       cases e115
                       obtain ⟨ce115, hce115, hMe115, hcc115⟩ := Kd.N_get HO_3.out z62 x11_3 p115 yq135
                       obtain ⟨ua115_0, uc115_0, rfl, ul115_0, ge115_0⟩ := k62_openF hMe115
                       have hv115_0 := hcc115 0 _ rfl
                       rw [Nat.add_zero, show (k62).sz = 1 from rfl, Nat.mul_one] at hv115_0
                       replace hv115_0 := Option.some.inj (hv115_0.symm.trans hx115_0)
                       injection hv115_0 with hva_ hvn_ hvc_
                       rw [hva_] at ge115_0
                       rw [hvc_] at ul115_0
                       have HL115_0 := Qz.mk (show Kd.V k64 64 _ w.heap.size _ _ ((qv t102 x11_3).f0) from Kd.V_mk ul115_0 ge115_0)
                       clear hva_ hvn_ hvc_ ge115_0 ul115_0
                       clear hcc115 hce115
                       have HR115_0 := Qz.mk hi115_0
                       have HC115_0 := Qz.mk hl115_0
                       clear hi115_0 hl115_0
                       replace p115 := eq_true p115
                       replace q115 := eq_true q115
                       have p116 : 0 ≤ (x11_3 : Int) := of_decide_eq_true yq113
                       have q116 : x11_3 < (t102.length : Int) := of_decide_eq_true yq113
                       obtain ⟨ad116, A116_0, c116_0, e116, hx116_0, hl116_0, hi116_0⟩ := at_T62 (Kd.N_reads' HO_3.out).2.2 x11_3 p116 q116
                       obtain rfl : ad115 = ad116 := (by injection e116)
                       obtain ⟨ce116, hce116, hMe116, hcc116⟩ := Kd.N_get HO_3.out z62 x11_3 p116 (by first | exact q116 | exact of_decide_eq_true yq113 | (have e_ := (Kd.N_reads' HO_3.out).1; omega))
                       obtain ⟨ua116_0, uc116_0, rfl, ul116_0, ge116_0⟩ := k62_openF hMe116
                       have hv116_0 := hcc116 0 _ rfl
                       rw [Nat.add_zero, show (k62).sz = 1 from rfl, Nat.mul_one] at hv116_0
                       replace hv116_0 := Option.some.inj (hv116_0.symm.trans hx116_0)
                       injection hv116_0 with hva_ hvn_ hvc_
                       rw [hva_] at ge116_0
                       rw [hvc_] at ul116_0
                       have HL116_0 := Qz.mk (show Kd.V k64 64 _ w.heap.size _ _ ((qv t102 x11_3).f0) from Kd.V_mk ul116_0 ge116_0)
                       clear hva_ hvn_ hvc_ ge116_0 ul116_0
                       clear hcc116 hce116
                       have HR116_0 := Qz.mk hi116_0
                       have HC116_0 := Qz.mk hl116_0
                       clear hi116_0 hl116_0
                       replace p116 := eq_true p116
                       replace q116 := eq_true q116
                       have ea_ := Option.some.inj (hx115_0.symm.trans hx116_0)
                       injection ea_ with ea_ en_ ec_
                       subst ea_
                       subst ec_
                       clear en_
                       have p117 : 0 ≤ (x12_5 : Int) := of_decide_eq_true yq113
                       have q117 : x12_5 < (((qv t102 x11_3).f0).length : Int) := of_decide_eq_true yq113
                       obtain ⟨ad117, e117, hx117_0, hx117_1, hx117_2, hx117_3⟩ := at_T64 yq132 x12_5 p117 q117
                       cases e117
                       replace p117 := eq_true p117
                       replace q117 := eq_true q117
                       have p118 : 0 ≤ (x9_2 : Int) := of_decide_eq_true yq113
                       have q118 : x9_2 < (t105.length : Int) := of_decide_eq_true yq113
                       obtain ⟨ad118, e118, hx118_0, hx118_1, hx118_2, hx118_3⟩ := at_T64 (Kd.R_reads' HO_4.out).2.2 x9_2 p118 q118
                       cases e118
                       replace p118 := eq_true p118
                       replace q118 := eq_true q118
                       go_wp2
                       repeat (go_quiet (fail); try go_wp2)
                       go_roundg k5
                       case measure => have := HJ6.out; have := HK2.out; have := HK3.out; have := HJ24.out; have := HK5.out; omega
                       case rel => exact ⟨(x10_5), (wrap64 (x12_5 + 1)), yq122, yq122, H', ⟨by have := HJ6.out; have := HK2.out; have := HK3.out; have := HJ24.out; have := HK5.out; omega⟩, ⟨by (with_reducible repeat (first | apply Kd.N_alloc | apply Kd.N_drewN | apply Kd.N_drew)); exact HO_3.out⟩, ⟨by (with_reducible repeat (first | apply Kd.R_alloc | apply Kd.R_drewN | apply Kd.R_drew)); exact HO_4.out⟩, ⟨by repeat (first | (with_reducible first | exact HB.out | apply qc | apply qa | apply qb) | exact HB.out)⟩⟩
                     ·rw [if_neg c33] at H
                      exact absurd H (by simp)
                    ·rw [if_neg c32] at H
                     exact absurd H (by simp)
                   ·rw [if_neg c31] at H
                    exact absurd H (by simp)
                  ·rw [if_neg c30] at H
                   have c30b0 : decide (x12_5 < (((qv t102 x11_3).f0).length : Int)) = false := decide_eq_false c30
                   clear c30
                   have H' := Qz.mk H
                   clear H
                   have p115 : 0 ≤ (x11_3 : Int) := of_decide_eq_true yq113
                   have q115 : x11_3 < (t102.length : Int) := of_decide_eq_true yq113
                   obtain ⟨ad115, A115_0, c115_0, e115, hx115_0, hl115_0, hi115_0⟩ := at_T62 (Kd.N_reads' HO_3.out).2.2 x11_3 p115 q115
                   cases e115
                   obtain ⟨ce115, hce115, hMe115, hcc115⟩ := Kd.N_get HO_3.out z62 x11_3 p115 yq135
                   obtain ⟨ua115_0, uc115_0, rfl, ul115_0, ge115_0⟩ := k62_openF hMe115
                   have hv115_0 := hcc115 0 _ rfl
                   rw [Nat.add_zero, show (k62).sz = 1 from rfl, Nat.mul_one] at hv115_0
                   replace hv115_0 := Option.some.inj (hv115_0.symm.trans hx115_0)
                   injection hv115_0 with hva_ hvn_ hvc_
                   rw [hva_] at ge115_0
                   rw [hvc_] at ul115_0
                   have HL115_0 := Qz.mk (show Kd.V k64 64 _ w.heap.size _ _ ((qv t102 x11_3).f0) from Kd.V_mk ul115_0 ge115_0)
                   clear hva_ hvn_ hvc_ ge115_0 ul115_0
                   clear hcc115 hce115
                   have HR115_0 := Qz.mk hi115_0
                   have HC115_0 := Qz.mk hl115_0
                   clear hi115_0 hl115_0
                   replace p115 := eq_true p115
                   replace q115 := eq_true q115
                   go_wp2
                   repeat (go_quiet (fail); try go_wp2)
                   go_roundg k5
                   case measure => have := HJ6.out; have := HK2.out; have := HK3.out; have := HJ24.out; have := HK5.out; omega
                   case rel => exact ⟨(x10_5), (wrap64 (x11_3 + 1)), yq122, yq122, H', ⟨by have := HJ6.out; have := HK2.out; have := HK3.out; have := HJ24.out; have := HK5.out; omega⟩, ⟨by (with_reducible repeat (first | apply Kd.N_alloc | apply Kd.N_drewN | apply Kd.N_drew)); exact HO_3.out⟩, ⟨by (with_reducible repeat (first | apply Kd.R_alloc | apply Kd.R_drewN | apply Kd.R_drew)); exact HO_4.out⟩, ⟨by repeat (first | (with_reducible first | exact HB.out | apply qc | apply qa | apply qb) | exact HB.out)⟩⟩
                 ·rw [if_neg c29] at H
                  exact absurd H (by simp)
                ·rw [if_neg c28] at H
                 exact absurd H (by simp)
             ·replace c27 := Bool.eq_false_iff.mpr c27
              subst c27
              have H1 : (if x10_3 = true then (laws_FnMerged.l0 kj24 t102 t105 0 (wrap64 (x9_2 + 1))) else (some false)) = some r := by rw [if_neg (show ¬ (false = true) by decide)] at H; exact H
              clear H
              have H := H1
              clear H1
              by_cases c36 : x10_3 = true
              ·subst c36
               have H1 : (laws_FnMerged.l0 kj24 t102 t105 0 (wrap64 (x9_2 + 1))) = some r := by rw [if_pos rfl] at H; exact H
               clear H
               have H := H1
               clear H1
               have H' := Qz.mk H
               clear H
               go_wp2
               repeat (go_quiet (fail); try go_wp2)
               go_roundg kj24
               case measure => have := HJ6.out; have := HK2.out; have := HK3.out; have := HJ24.out; omega
               case rel => exact ⟨(wrap64 (x9_2 + 1)), yq122, H', ⟨by have := HJ6.out; have := HK2.out; have := HK3.out; have := HJ24.out; omega⟩, ⟨by (with_reducible repeat (first | apply Kd.N_alloc | apply Kd.N_drewN | apply Kd.N_drew)); exact HO_3.out⟩, ⟨by (with_reducible repeat (first | apply Kd.R_alloc | apply Kd.R_drewN | apply Kd.R_drew)); exact HO_4.out⟩, ⟨by repeat (first | (with_reducible first | exact HB.out | apply qc | apply qa | apply qb) | exact HB.out)⟩⟩
              ·replace c36 := Bool.eq_false_iff.mpr c36
               subst c36
               have H1 : (some false) = some r := by rw [if_neg (show ¬ (false = true) by decide)] at H; exact H
               clear H
               have H := H1
               clear H1
               obtain rfl := Option.some.inj H
               go_wp2
               repeat (go_quiet (fail); try go_wp2)
               go_ret
               exact ⟨by first | rfl | (simp [qq, qo] <;> rfl) | (simp [*, qq, qo] <;> rfl), by repeat (first | (with_reducible first | exact HB.out | apply qc | apply qa | apply qb) | exact HB.out)⟩
        ·rw [if_neg c23] at H
         have c23b0 : decide (x9_2 < (t105.length : Int)) = false := decide_eq_false c23
         clear c23
         have H' := Qz.mk H
         clear H
         obtain ⟨Ao37, co37, eo37⟩ := Kd.R_slice HO_4.out
         subst eo37
         go_wp2
         repeat (go_quiet (fail); try go_wp2)
         go_loopg [8, 13] k2 (fun kq v8 v13 w' => ∃ (x8_3 : Int) (x13_3 : Int), v8 = .int .i64 x8_3 ∧ v13 = .int .i64 x13_3 ∧ Qz (laws_FnMerged.l3 kq t102 t105 x8_3 x13_3 = some r) ∧ Qz (kq ≤ k2) ∧ Qz (Kd.N k62 62 w' w.heap.size (fun k_ => some k_ ≠ ((.slice Ao37 t105.length co37) : Value).ownBlock) (.slice Ao9 t102.length co9) t102) ∧ Qz (Kd.R k64 64 w' w.heap.size (fun _ => True) (.slice Ao37 t105.length co37) t105) ∧ Qz (Below w.heap.size w w'))
         case atStart => exact ⟨(0), (0), yq122, yq122, H', ⟨Nat.le_refl _⟩, ⟨by (with_reducible repeat (first | apply Kd.N_alloc | apply Kd.N_drewN | apply Kd.N_drew)); exact HO_3.out⟩, ⟨by (with_reducible repeat (first | apply Kd.R_alloc | apply Kd.R_drewN | apply Kd.R_drew)); exact HO_4.out⟩, ⟨by repeat (first | (with_reducible first | exact HB.out | apply qc | apply qa | apply qb) | exact HB.out)⟩⟩
         case round =>
          clear H'
          try clear c1
          try clear p1
          try clear q1
          try clear hx1
          try clear c2
          try clear p2
          try clear c3
          try clear p6
          try clear c10
          try clear c11
          try clear p11
          try clear q11
          try clear hx11
          try clear c12
          try clear c12b0
          try clear c12b1
          try clear c12b2
          try clear p12
          try clear q12
          try clear hx12
          try clear c14
          try clear c21
          try clear c22
          try clear c23
          try clear c23b0
          try clear c26
          try clear c26b0
          try clear c27
          try clear c28
          try clear c28b0
          try clear c29
          try clear c29b0
          try clear c30
          try clear c30b0
          try clear c31
          try clear c31b0
          try clear c32
          try clear c32b0
          try clear c33
          try clear c33b0
          try clear c34
          try clear c34b0
          try clear c34b1
          try clear c34b2
          try clear c35
          try clear c35b0
          try clear c36
          try clear hx115_0
          try clear hx116_0
          try clear hx117_0
          try clear hx117_1
          try clear hx117_2
          try clear hx117_3
          try clear hx118_0
          try clear hx118_1
          try clear hx118_2
          try clear hx118_3
          try clear hx119_0
          try clear hx120_0
          try clear hx120_1
          try clear hx120_2
          try clear hx120_3
          try clear hx121_0
          try clear hx121_1
          try clear hx121_2
          try clear hx121_3
          try clear p115
          try clear p116
          try clear p117
          try clear p118
          try clear p119
          try clear p120
          try clear p121
          try clear p2
          try clear q115
          try clear q116
          try clear q117
          try clear q118
          try clear q119
          try clear q120
          try clear q121
          obtain ⟨x8_3, x13_3, rfl, rfl, HA, HK3, HO_3, HO_4, HB⟩ := hrel
          cases gk with
          | zero => exact absurd HA.out (by simp [laws_FnMerged.l3])
          | succ k3 =>
           have H := HA.out
           clear HA
           simp only [laws_FnMerged.l3] at H
           by_cases c38 : x13_3 < (t102.length : Int)
           ·rw [if_pos c38] at H
            have c38b0 : decide (x13_3 < (t102.length : Int)) = true := decide_eq_true c38
            clear c38
            have H' := Qz.mk H
            clear H
            go_wp2
            repeat (go_quiet (fail); try go_wp2)
            go_loopg [8, 14] k3 (fun kq v8 v14 w' => ∃ (x8_4 : Int) (x14_4 : Int), v8 = .int .i64 x8_4 ∧ v14 = .int .i64 x14_4 ∧ Qz (laws_FnMerged.l4 kq t102 t105 x8_4 x13_3 x14_4 = some r) ∧ Qz (kq ≤ k3) ∧ Qz (Kd.N k62 62 w' w.heap.size (fun k_ => some k_ ≠ ((.slice Ao37 t105.length co37) : Value).ownBlock) (.slice Ao9 t102.length co9) t102) ∧ Qz (Kd.R k64 64 w' w.heap.size (fun _ => True) (.slice Ao37 t105.length co37) t105) ∧ Qz (Below w.heap.size w w'))
            case atStart => exact ⟨(x8_3), (0), yq122, yq122, H', ⟨Nat.le_refl _⟩, ⟨by (with_reducible repeat (first | apply Kd.N_alloc | apply Kd.N_drewN | apply Kd.N_drew)); exact HO_3.out⟩, ⟨by (with_reducible repeat (first | apply Kd.R_alloc | apply Kd.R_drewN | apply Kd.R_drew)); exact HO_4.out⟩, ⟨by repeat (first | (with_reducible first | exact HB.out | apply qc | apply qa | apply qb) | exact HB.out)⟩⟩
            case round =>
             clear H'
             try clear c1
             try clear p1
             try clear q1
             try clear hx1
             try clear c2
             try clear p2
             try clear c3
             try clear p6
             try clear c10
             try clear c11
             try clear p11
             try clear q11
             try clear hx11
             try clear c12
             try clear c12b0
             try clear c12b1
             try clear c12b2
             try clear p12
             try clear q12
             try clear hx12
             try clear c14
             try clear c21
             try clear c22
             try clear c23
             try clear c23b0
             try clear c26
             try clear c26b0
             try clear c27
             try clear c28
             try clear c28b0
             try clear c29
             try clear c29b0
             try clear c30
             try clear c30b0
             try clear c31
             try clear c31b0
             try clear c32
             try clear c32b0
             try clear c33
             try clear c33b0
             try clear c34
             try clear c34b0
             try clear c34b1
             try clear c34b2
             try clear c35
             try clear c35b0
             try clear c36
             try clear c38
             try clear c38b0
             try clear hx115_0
             try clear hx116_0
             try clear hx117_0
             try clear hx117_1
             try clear hx117_2
             try clear hx117_3
             try clear hx118_0
             try clear hx118_1
             try clear hx118_2
             try clear hx118_3
             try clear hx119_0
             try clear hx120_0
             try clear hx120_1
             try clear hx120_2
             try clear hx120_3
             try clear hx121_0
             try clear hx121_1
             try clear hx121_2
             try clear hx121_3
             try clear p1
             try clear p11
             try clear p115
             try clear p116
             try clear p117
             try clear p118
             try clear p119
             try clear p12
             try clear p120
             try clear p121
             try clear p2
             try clear p6
             try clear q1
             try clear q11
             try clear q115
             try clear q116
             try clear q117
             try clear q118
             try clear q119
             try clear q12
             try clear q120
             try clear q121
             obtain ⟨x8_4, x14_4, rfl, rfl, HA, HK4, HO_3, HO_4, HB⟩ := hrel
             cases gk with
             | zero => exact absurd HA.out (by simp [laws_FnMerged.l4])
             | succ k4 =>
              have H := HA.out
              clear HA
              simp only [laws_FnMerged.l4] at H
              by_cases c39 : 0 ≤ x13_3
              ·rw [if_pos c39] at H
               have c39b0 : decide (0 ≤ x13_3) = true := decide_eq_true c39
               clear c39
               by_cases c40 : x13_3 < (t102.length : Int)
               ·rw [if_pos c40] at H
                have c40b0 : decide (x13_3 < (t102.length : Int)) = true := decide_eq_true c40
                clear c40
                by_cases c41 : x14_4 < (((qv t102 x13_3).f0).length : Int)
                ·rw [if_pos c41] at H
                 have c41b0 : decide (x14_4 < (((qv t102 x13_3).f0).length : Int)) = true := decide_eq_true c41
                 clear c41
                 by_cases c42 : 0 ≤ x14_4
                 ·rw [if_pos c42] at H
                  have c42b0 : decide (0 ≤ x14_4) = true := decide_eq_true c42
                  clear c42
                  replace H := Option.bind_eq_some_iff.mp H
                  obtain ⟨t134, A430, H⟩ := H
                  replace H : (if t134 ≥ (t105.length : Int) then (some false) else (if 0 ≤ t134 then (if t134 < (t105.length : Int) then (if (!((((qd t105 t134).f0.f0).toList) == (((qd ((qv t102 x13_3).f0) x14_4).f0.f0).toList)) || (!(((qd t105 t134).f0.f1) == ((qd ((qv t102 x13_3).f0) x14_4).f0.f1)) || (!(((qd t105 t134).f0.f2) == ((qd ((qv t102 x13_3).f0) x14_4).f0.f2))))) = true then (some false) else (laws_FnMerged.l4 k4 t102 t105 (wrap64 (x8_4 + 1)) x13_3 (wrap64 (x14_4 + 1)))) else (none)) else (none))) = some r := H
                  have A43 := Qz.mk A430
                  clear A430
                  by_cases c44 : t134 ≥ (t105.length : Int)
                  ·rw [if_pos c44] at H
                   have c44b0 : decide ((t105.length : Int) ≤ t134) = true := decide_eq_true c44
                   clear c44
                   obtain rfl := Option.some.inj H
                   have p131 : 0 ≤ (x13_3 : Int) := of_decide_eq_true yq113
                   have q131 : x13_3 < (t102.length : Int) := of_decide_eq_true yq113
                   obtain ⟨ad131, A131_0, c131_0, e131, hx131_0, hl131_0, hi131_0⟩ := at_T62 (Kd.N_reads' HO_3.out).2.2 x13_3 p131 q131
                   cases e131
                   obtain ⟨ce131, hce131, hMe131, hcc131⟩ := Kd.N_get HO_3.out z62 x13_3 p131 yq134
                   obtain ⟨ua131_0, uc131_0, rfl, ul131_0, ge131_0⟩ := k62_openF hMe131
                   have hv131_0 := hcc131 0 _ rfl
                   rw [Nat.add_zero, show (k62).sz = 1 from rfl, Nat.mul_one] at hv131_0
                   replace hv131_0 := Option.some.inj (hv131_0.symm.trans hx131_0)
                   injection hv131_0 with hva_ hvn_ hvc_
                   rw [hva_] at ge131_0
                   rw [hvc_] at ul131_0
                   have HL131_0 := Qz.mk (show Kd.V k64 64 _ w.heap.size _ _ ((qv t102 x13_3).f0) from Kd.V_mk ul131_0 ge131_0)
                   clear hva_ hvn_ hvc_ ge131_0 ul131_0
                   clear hcc131 hce131
                   have HR131_0 := Qz.mk hi131_0
                   have HC131_0 := Qz.mk hl131_0
                   clear hi131_0 hl131_0
                   replace p131 := eq_true p131
                   replace q131 := eq_true q131
                   have p132 : 0 ≤ (x13_3 : Int) := of_decide_eq_true yq113
                   have q132 : x13_3 < (t102.length : Int) := of_decide_eq_true yq113
                   obtain ⟨ad132, A132_0, c132_0, e132, hx132_0, hl132_0, hi132_0⟩ := at_T62 (Kd.N_reads' HO_3.out).2.2 x13_3 p132 q132
                   obtain rfl : ad131 = ad132 := (by injection e132)
                   obtain ⟨ce132, hce132, hMe132, hcc132⟩ := Kd.N_get HO_3.out z62 x13_3 p132 (by first | exact q132 | exact of_decide_eq_true yq113 | (have e_ := (Kd.N_reads' HO_3.out).1; omega))
                   obtain ⟨ua132_0, uc132_0, rfl, ul132_0, ge132_0⟩ := k62_openF hMe132
                   have hv132_0 := hcc132 0 _ rfl
                   rw [Nat.add_zero, show (k62).sz = 1 from rfl, Nat.mul_one] at hv132_0
                   replace hv132_0 := Option.some.inj (hv132_0.symm.trans hx132_0)
                   injection hv132_0 with hva_ hvn_ hvc_
                   rw [hva_] at ge132_0
                   rw [hvc_] at ul132_0
                   have HL132_0 := Qz.mk (show Kd.V k64 64 _ w.heap.size _ _ ((qv t102 x13_3).f0) from Kd.V_mk ul132_0 ge132_0)
                   clear hva_ hvn_ hvc_ ge132_0 ul132_0
                   clear hcc132 hce132
                   have HR132_0 := Qz.mk hi132_0
                   have HC132_0 := Qz.mk hl132_0
                   clear hi132_0 hl132_0
                   replace p132 := eq_true p132
                   replace q132 := eq_true q132
                   have ea_ := Option.some.inj (hx131_0.symm.trans hx132_0)
                   injection ea_ with ea_ en_ ec_
                   subst ea_
                   subst ec_
                   clear en_
                   have p133 : 0 ≤ (x14_4 : Int) := of_decide_eq_true yq113
                   have q133 : x14_4 < (((qv t102 x13_3).f0).length : Int) := of_decide_eq_true yq113
                   obtain ⟨ad133, e133, hx133_0, hx133_1, hx133_2, hx133_3⟩ := at_T64 yq117 x14_4 p133 q133
                   cases e133
                   replace p133 := eq_true p133
                   replace q133 := eq_true q133
                   go_wp2_with (first | (go_at_call 34; (with_reducible refine (impl_SeekEntry.calls k4 _ _ t105 ((qd ((qv t102 x13_3).f0) x14_4).f0.f0) ((qd ((qv t102 x13_3).f0) x14_4).f0.f1) ((qd ((qv t102 x13_3).f0) x14_4).f0.f2) t134 _ ?side1 ?side2 A43.out).mono ?_); (case side1 => exact yq114); (case side2 => exact (Kd.R_reads' HO_4.out).2.1); rintro e w45 ⟨rfl, hb⟩; replace HO_3 := Qz.mk (Kd.N_below yq111 hb); replace HO_4 := Qz.mk (Kd.R_below yq112 hb); replace HL131_0 := Qz.mk (Kd.V_below yq127 hb); replace HL132_0 := Qz.mk (Kd.V_below yq126 hb); replace HR131_0 := Qz.mk (Kd.C_below yq118 hb); replace HR132_0 := Qz.mk (Kd.C_below yq117 hb); replace HB := Qz.mk (qm yq110 hb); (try clear hb); (try clear hk)))
                   repeat (go_quiet (first | (go_at_call 34; (with_reducible refine (impl_SeekEntry.calls k4 _ _ t105 ((qd ((qv t102 x13_3).f0) x14_4).f0.f0) ((qd ((qv t102 x13_3).f0) x14_4).f0.f1) ((qd ((qv t102 x13_3).f0) x14_4).f0.f2) t134 _ ?side1 ?side2 A43.out).mono ?_); (case side1 => exact yq114); (case side2 => exact (Kd.R_reads' HO_4.out).2.1); rintro e w45 ⟨rfl, hb⟩; replace HO_3 := Qz.mk (Kd.N_below yq111 hb); replace HO_4 := Qz.mk (Kd.R_below yq112 hb); replace HL131_0 := Qz.mk (Kd.V_below yq127 hb); replace HL132_0 := Qz.mk (Kd.V_below yq126 hb); replace HR131_0 := Qz.mk (Kd.C_below yq118 hb); replace HR132_0 := Qz.mk (Kd.C_below yq117 hb); replace HB := Qz.mk (qm yq110 hb); (try clear hb); (try clear hk))); try go_wp2_with (first | (go_at_call 34; (with_reducible refine (impl_SeekEntry.calls k4 _ _ t105 ((qd ((qv t102 x13_3).f0) x14_4).f0.f0) ((qd ((qv t102 x13_3).f0) x14_4).f0.f1) ((qd ((qv t102 x13_3).f0) x14_4).f0.f2) t134 _ ?side1 ?side2 A43.out).mono ?_); (case side1 => exact yq114); (case side2 => exact (Kd.R_reads' HO_4.out).2.1); rintro e w45 ⟨rfl, hb⟩; replace HO_3 := Qz.mk (Kd.N_below yq111 hb); replace HO_4 := Qz.mk (Kd.R_below yq112 hb); replace HL131_0 := Qz.mk (Kd.V_below yq127 hb); replace HL132_0 := Qz.mk (Kd.V_below yq126 hb); replace HR131_0 := Qz.mk (Kd.C_below yq118 hb); replace HR132_0 := Qz.mk (Kd.C_below yq117 hb); replace HB := Qz.mk (qm yq110 hb); (try clear hb); (try clear hk))))
                   go_ret
                   exact ⟨by first | rfl | (simp [qq, qo] <;> rfl) | (simp [*, qq, qo] <;> rfl), by repeat (first | (with_reducible first | exact HB.out | apply qc | apply qa | apply qb) | exact HB.out)⟩
                  ·rw [if_neg c44] at H
                   have c44b0 : decide ((t105.length : Int) ≤ t134) = false := decide_eq_false c44
                   clear c44
                   by_cases c46 : 0 ≤ t134
                   ·rw [if_pos c46] at H
                    have c46b0 : decide (0 ≤ t134) = true := decide_eq_true c46
                    clear c46
                    by_cases c47 : t134 < (t105.length : Int)
                    ·rw [if_pos c47] at H
                     have c47b0 : decide (t134 < (t105.length : Int)) = true := decide_eq_true c47
                     clear c47
                     by_cases c48 : (!((((qd t105 t134).f0.f0).toList) == (((qd ((qv t102 x13_3).f0) x14_4).f0.f0).toList)) || (!(((qd t105 t134).f0.f1) == ((qd ((qv t102 x13_3).f0) x14_4).f0.f1)) || (!(((qd t105 t134).f0.f2) == ((qd ((qv t102 x13_3).f0) x14_4).f0.f2))))) = true
                     ·rw [if_pos c48] at H
                      have c48b0 : (!((((qd t105 t134).f0.f0).toList) == (((qd ((qv t102 x13_3).f0) x14_4).f0.f0).toList)) || (!(((qd t105 t134).f0.f1) == ((qd ((qv t102 x13_3).f0) x14_4).f0.f1)) || (!(((qd t105 t134).f0.f2) == ((qd ((qv t102 x13_3).f0) x14_4).f0.f2))))) = true := c48
                      clear c48
                      obtain rfl := Option.some.inj H
                      have p131 : 0 ≤ (x13_3 : Int) := of_decide_eq_true yq113
                      have q131 : x13_3 < (t102.length : Int) := of_decide_eq_true yq113
                      obtain ⟨ad131, A131_0, c131_0, e131, hx131_0, hl131_0, hi131_0⟩ := at_T62 (Kd.N_reads' HO_3.out).2.2 x13_3 p131 q131
                      cases e131
                      obtain ⟨ce131, hce131, hMe131, hcc131⟩ := Kd.N_get HO_3.out z62 x13_3 p131 yq134
                      obtain ⟨ua131_0, uc131_0, rfl, ul131_0, ge131_0⟩ := k62_openF hMe131
                      have hv131_0 := hcc131 0 _ rfl
                      rw [Nat.add_zero, show (k62).sz = 1 from rfl, Nat.mul_one] at hv131_0
                      replace hv131_0 := Option.some.inj (hv131_0.symm.trans hx131_0)
                      injection hv131_0 with hva_ hvn_ hvc_
                      rw [hva_] at ge131_0
                      rw [hvc_] at ul131_0
                      have HL131_0 := Qz.mk (show Kd.V k64 64 _ w.heap.size _ _ ((qv t102 x13_3).f0) from Kd.V_mk ul131_0 ge131_0)
                      clear hva_ hvn_ hvc_ ge131_0 ul131_0
                      clear hcc131 hce131
                      have HR131_0 := Qz.mk hi131_0
                      have HC131_0 := Qz.mk hl131_0
                      clear hi131_0 hl131_0
                      replace p131 := eq_true p131
                      replace q131 := eq_true q131
                      have p132 : 0 ≤ (x13_3 : Int) := of_decide_eq_true yq113
                      have q132 : x13_3 < (t102.length : Int) := of_decide_eq_true yq113
                      obtain ⟨ad132, A132_0, c132_0, e132, hx132_0, hl132_0, hi132_0⟩ := at_T62 (Kd.N_reads' HO_3.out).2.2 x13_3 p132 q132
                      obtain rfl : ad131 = ad132 := (by injection e132)
                      obtain ⟨ce132, hce132, hMe132, hcc132⟩ := Kd.N_get HO_3.out z62 x13_3 p132 (by first | exact q132 | exact of_decide_eq_true yq113 | (have e_ := (Kd.N_reads' HO_3.out).1; omega))
                      obtain ⟨ua132_0, uc132_0, rfl, ul132_0, ge132_0⟩ := k62_openF hMe132
                      have hv132_0 := hcc132 0 _ rfl
                      rw [Nat.add_zero, show (k62).sz = 1 from rfl, Nat.mul_one] at hv132_0
                      replace hv132_0 := Option.some.inj (hv132_0.symm.trans hx132_0)
                      injection hv132_0 with hva_ hvn_ hvc_
                      rw [hva_] at ge132_0
                      rw [hvc_] at ul132_0
                      have HL132_0 := Qz.mk (show Kd.V k64 64 _ w.heap.size _ _ ((qv t102 x13_3).f0) from Kd.V_mk ul132_0 ge132_0)
                      clear hva_ hvn_ hvc_ ge132_0 ul132_0
                      clear hcc132 hce132
                      have HR132_0 := Qz.mk hi132_0
                      have HC132_0 := Qz.mk hl132_0
                      clear hi132_0 hl132_0
                      replace p132 := eq_true p132
                      replace q132 := eq_true q132
                      have ea_ := Option.some.inj (hx131_0.symm.trans hx132_0)
                      injection ea_ with ea_ en_ ec_
                      subst ea_
                      subst ec_
                      clear en_
                      have p133 : 0 ≤ (x14_4 : Int) := of_decide_eq_true yq113
                      have q133 : x14_4 < (((qv t102 x13_3).f0).length : Int) := of_decide_eq_true yq113
                      obtain ⟨ad133, e133, hx133_0, hx133_1, hx133_2, hx133_3⟩ := at_T64 yq117 x14_4 p133 q133
                      cases e133
                      replace p133 := eq_true p133
                      replace q133 := eq_true q133
                      go_wp2_with (first | (go_at_call 34; (with_reducible refine (impl_SeekEntry.calls k4 _ _ t105 ((qd ((qv t102 x13_3).f0) x14_4).f0.f0) ((qd ((qv t102 x13_3).f0) x14_4).f0.f1) ((qd ((qv t102 x13_3).f0) x14_4).f0.f2) t134 _ ?side1 ?side2 A43.out).mono ?_); (case side1 => exact yq114); (case side2 => exact (Kd.R_reads' HO_4.out).2.1); rintro e w49 ⟨rfl, hb⟩; replace HO_3 := Qz.mk (Kd.N_below yq111 hb); replace HO_4 := Qz.mk (Kd.R_below yq112 hb); replace HL131_0 := Qz.mk (Kd.V_below yq127 hb); replace HL132_0 := Qz.mk (Kd.V_below yq126 hb); replace HR131_0 := Qz.mk (Kd.C_below yq118 hb); replace HR132_0 := Qz.mk (Kd.C_below yq117 hb); replace HB := Qz.mk (qm yq110 hb); (try clear hb); (try clear hk); have p135 : 0 ≤ (t134 : Int) := of_decide_eq_true yq113; have q135 : t134 < (t105.length : Int) := of_decide_eq_true yq113; obtain ⟨ad135, e135, hx135_0, hx135_1, hx135_2, hx135_3⟩ := at_T64 (Kd.R_reads' HO_4.out).2.2 t134 p135 q135; cases e135; replace p135 := eq_true p135; replace q135 := eq_true q135; have p136 : 0 ≤ (x13_3 : Int) := of_decide_eq_true yq113; have q136 : x13_3 < (t102.length : Int) := of_decide_eq_true yq113; obtain ⟨ad136, A136_0, c136_0, e136, hx136_0, hl136_0, hi136_0⟩ := at_T62 (Kd.N_reads' HO_3.out).2.2 x13_3 p136 q136; obtain rfl : ad131 = ad136 := (by injection e136); obtain ⟨ce136, hce136, hMe136, hcc136⟩ := Kd.N_get HO_3.out z62 x13_3 p136 yq131; obtain ⟨ua136_0, uc136_0, rfl, ul136_0, ge136_0⟩ := k62_openF hMe136; have hv136_0 := hcc136 0 _ rfl; rw [Nat.add_zero, show (k62).sz = 1 from rfl, Nat.mul_one] at hv136_0; replace hv136_0 := Option.some.inj (hv136_0.symm.trans hx136_0); injection hv136_0 with hva_ hvn_ hvc_; rw [hva_] at ge136_0; rw [hvc_] at ul136_0; have HL136_0 := Qz.mk (show Kd.V k64 64 _ w.heap.size _ _ ((qv t102 x13_3).f0) from Kd.V_mk ul136_0 ge136_0); clear hva_ hvn_ hvc_ ge136_0 ul136_0; clear hcc136 hce136; have HR136_0 := Qz.mk hi136_0; have HC136_0 := Qz.mk hl136_0; clear hi136_0 hl136_0; replace p136 := eq_true p136; replace q136 := eq_true q136; have p137 : 0 ≤ (x14_4 : Int) := of_decide_eq_true yq113; have q137 : x14_4 < (((qv t102 x13_3).f0).length : Int) := of_decide_eq_true yq113; obtain ⟨ad137, e137, hx137_0, hx137_1, hx137_2, hx137_3⟩ := at_T64 yq123 x14_4 p137 q137; cases e137; replace p137 := eq_true p137; replace q137 := eq_true q137))
                      repeat (go_quiet (first | (go_at_call 34; (with_reducible refine (impl_SeekEntry.calls k4 _ _ t105 ((qd ((qv t102 x13_3).f0) x14_4).f0.f0) ((qd ((qv t102 x13_3).f0) x14_4).f0.f1) ((qd ((qv t102 x13_3).f0) x14_4).f0.f2) t134 _ ?side1 ?side2 A43.out).mono ?_); (case side1 => exact yq114); (case side2 => exact (Kd.R_reads' HO_4.out).2.1); rintro e w49 ⟨rfl, hb⟩; replace HO_3 := Qz.mk (Kd.N_below yq111 hb); replace HO_4 := Qz.mk (Kd.R_below yq112 hb); replace HL131_0 := Qz.mk (Kd.V_below yq127 hb); replace HL132_0 := Qz.mk (Kd.V_below yq126 hb); replace HR131_0 := Qz.mk (Kd.C_below yq118 hb); replace HR132_0 := Qz.mk (Kd.C_below yq117 hb); replace HB := Qz.mk (qm yq110 hb); (try clear hb); (try clear hk); have p135 : 0 ≤ (t134 : Int) := of_decide_eq_true yq113; have q135 : t134 < (t105.length : Int) := of_decide_eq_true yq113; obtain ⟨ad135, e135, hx135_0, hx135_1, hx135_2, hx135_3⟩ := at_T64 (Kd.R_reads' HO_4.out).2.2 t134 p135 q135; cases e135; replace p135 := eq_true p135; replace q135 := eq_true q135; have p136 : 0 ≤ (x13_3 : Int) := of_decide_eq_true yq113; have q136 : x13_3 < (t102.length : Int) := of_decide_eq_true yq113; obtain ⟨ad136, A136_0, c136_0, e136, hx136_0, hl136_0, hi136_0⟩ := at_T62 (Kd.N_reads' HO_3.out).2.2 x13_3 p136 q136; obtain rfl : ad131 = ad136 := (by injection e136); obtain ⟨ce136, hce136, hMe136, hcc136⟩ := Kd.N_get HO_3.out z62 x13_3 p136 yq131; obtain ⟨ua136_0, uc136_0, rfl, ul136_0, ge136_0⟩ := k62_openF hMe136; have hv136_0 := hcc136 0 _ rfl; rw [Nat.add_zero, show (k62).sz = 1 from rfl, Nat.mul_one] at hv136_0; replace hv136_0 := Option.some.inj (hv136_0.symm.trans hx136_0); injection hv136_0 with hva_ hvn_ hvc_; rw [hva_] at ge136_0; rw [hvc_] at ul136_0; have HL136_0 := Qz.mk (show Kd.V k64 64 _ w.heap.size _ _ ((qv t102 x13_3).f0) from Kd.V_mk ul136_0 ge136_0); clear hva_ hvn_ hvc_ ge136_0 ul136_0; clear hcc136 hce136; have HR136_0 := Qz.mk hi136_0; have HC136_0 := Qz.mk hl136_0; clear hi136_0 hl136_0; replace p136 := eq_true p136; replace q136 := eq_true q136; have p137 : 0 ≤ (x14_4 : Int) := of_decide_eq_true yq113; have q137 : x14_4 < (((qv t102 x13_3).f0).length : Int) := of_decide_eq_true yq113; obtain ⟨ad137, e137, hx137_0, hx137_1, hx137_2, hx137_3⟩ := at_T64 yq123 x14_4 p137 q137; cases e137; replace p137 := eq_true p137; replace q137 := eq_true q137)); try go_wp2_with (first | (go_at_call 34; (with_reducible refine (impl_SeekEntry.calls k4 _ _ t105 ((qd ((qv t102 x13_3).f0) x14_4).f0.f0) ((qd ((qv t102 x13_3).f0) x14_4).f0.f1) ((qd ((qv t102 x13_3).f0) x14_4).f0.f2) t134 _ ?side1 ?side2 A43.out).mono ?_); (case side1 => exact yq114); (case side2 => exact (Kd.R_reads' HO_4.out).2.1); rintro e w49 ⟨rfl, hb⟩; replace HO_3 := Qz.mk (Kd.N_below yq111 hb); replace HO_4 := Qz.mk (Kd.R_below yq112 hb); replace HL131_0 := Qz.mk (Kd.V_below yq127 hb); replace HL132_0 := Qz.mk (Kd.V_below yq126 hb); replace HR131_0 := Qz.mk (Kd.C_below yq118 hb); replace HR132_0 := Qz.mk (Kd.C_below yq117 hb); replace HB := Qz.mk (qm yq110 hb); (try clear hb); (try clear hk); have p135 : 0 ≤ (t134 : Int) := of_decide_eq_true yq113; have q135 : t134 < (t105.length : Int) := of_decide_eq_true yq113; obtain ⟨ad135, e135, hx135_0, hx135_1, hx135_2, hx135_3⟩ := at_T64 (Kd.R_reads' HO_4.out).2.2 t134 p135 q135; cases e135; replace p135 := eq_true p135; replace q135 := eq_true q135; have p136 : 0 ≤ (x13_3 : Int) := of_decide_eq_true yq113; have q136 : x13_3 < (t102.length : Int) := of_decide_eq_true yq113; obtain ⟨ad136, A136_0, c136_0, e136, hx136_0, hl136_0, hi136_0⟩ := at_T62 (Kd.N_reads' HO_3.out).2.2 x13_3 p136 q136; obtain rfl : ad131 = ad136 := (by injection e136); obtain ⟨ce136, hce136, hMe136, hcc136⟩ := Kd.N_get HO_3.out z62 x13_3 p136 yq131; obtain ⟨ua136_0, uc136_0, rfl, ul136_0, ge136_0⟩ := k62_openF hMe136; have hv136_0 := hcc136 0 _ rfl; rw [Nat.add_zero, show (k62).sz = 1 from rfl, Nat.mul_one] at hv136_0; replace hv136_0 := Option.some.inj (hv136_0.symm.trans hx136_0); injection hv136_0 with hva_ hvn_ hvc_; rw [hva_] at ge136_0; rw [hvc_] at ul136_0; have HL136_0 := Qz.mk (show Kd.V k64 64 _ w.heap.size _ _ ((qv t102 x13_3).f0) from Kd.V_mk ul136_0 ge136_0); clear hva_ hvn_ hvc_ ge136_0 ul136_0; clear hcc136 hce136; have HR136_0 := Qz.mk hi136_0; have HC136_0 := Qz.mk hl136_0; clear hi136_0 hl136_0; replace p136 := eq_true p136; replace q136 := eq_true q136; have p137 : 0 ≤ (x14_4 : Int) := of_decide_eq_true yq113; have q137 : x14_4 < (((qv t102 x13_3).f0).length : Int) := of_decide_eq_true yq113; obtain ⟨ad137, e137, hx137_0, hx137_1, hx137_2, hx137_3⟩ := at_T64 yq123 x14_4 p137 q137; cases e137; replace p137 := eq_true p137; replace q137 := eq_true q137)))
                      go_ret
                      exact ⟨by first | rfl | (simp [qq, qo] <;> rfl) | (simp [*, qq, qo] <;> rfl), by repeat (first | (with_reducible first | exact HB.out | apply qc | apply qa | apply qb) | exact HB.out)⟩
                     ·rw [if_neg c48] at H
                      have c48b0 : (!((((qd t105 t134).f0.f0).toList) == (((qd ((qv t102 x13_3).f0) x14_4).f0.f0).toList)) || (!(((qd t105 t134).f0.f1) == ((qd ((qv t102 x13_3).f0) x14_4).f0.f1)) || (!(((qd t105 t134).f0.f2) == ((qd ((qv t102 x13_3).f0) x14_4).f0.f2))))) = false := by simpa using c48
                      clear c48
                      have H' := Qz.mk H
                      clear H
                      have p131 : 0 ≤ (x13_3 : Int) := of_decide_eq_true yq113
                      have q131 : x13_3 < (t102.length : Int) := of_decide_eq_true yq113
                      obtain ⟨ad131, A131_0, c131_0, e131, hx131_0, hl131_0, hi131_0⟩ := at_T62 (Kd.N_reads' HO_3.out).2.2 x13_3 p131 q131
                      cases e131
                      obtain ⟨ce131, hce131, hMe131, hcc131⟩ := Kd.N_get HO_3.out z62 x13_3 p131 yq134
                      obtain ⟨ua131_0, uc131_0, rfl, ul131_0, ge131_0⟩ := k62_openF hMe131
                      have hv131_0 := hcc131 0 _ rfl
                      rw [Nat.add_zero, show (k62).sz = 1 from rfl, Nat.mul_one] at hv131_0
                      replace hv131_0 := Option.some.inj (hv131_0.symm.trans hx131_0)
                      injection hv131_0 with hva_ hvn_ hvc_
                      rw [hva_] at ge131_0
                      rw [hvc_] at ul131_0
                      have HL131_0 := Qz.mk (show Kd.V k64 64 _ w.heap.size _ _ ((qv t102 x13_3).f0) from Kd.V_mk ul131_0 ge131_0)
                      clear hva_ hvn_ hvc_ ge131_0 ul131_0
                      clear hcc131 hce131
                      have HR131_0 := Qz.mk hi131_0
                      have HC131_0 := Qz.mk hl131_0
                      clear hi131_0 hl131_0
                      replace p131 := eq_true p131
                      replace q131 := eq_true q131
                      have p132 : 0 ≤ (x13_3 : Int) := of_decide_eq_true yq113
                      have q132 : x13_3 < (t102.length : Int) := of_decide_eq_true yq113
                      obtain ⟨ad132, A132_0, c132_0, e132, hx132_0, hl132_0, hi132_0⟩ := at_T62 (Kd.N_reads' HO_3.out).2.2 x13_3 p132 q132
                      obtain rfl : ad131 = ad132 := (by injection e132)
                      obtain ⟨ce132, hce132, hMe132, hcc132⟩ := Kd.N_get HO_3.out z62 x13_3 p132 (by first | exact q132 | exact of_decide_eq_true yq113 | (have e_ := (Kd.N_reads' HO_3.out).1; omega))
                      obtain ⟨ua132_0, uc132_0, rfl, ul132_0, ge132_0⟩ := k62_openF hMe132
                      have hv132_0 := hcc132 0 _ rfl
                      rw [Nat.add_zero, show (k62).sz = 1 from rfl, Nat.mul_one] at hv132_0
                      replace hv132_0 := Option.some.inj (hv132_0.symm.trans hx132_0)
                      injection hv132_0 with hva_ hvn_ hvc_
                      rw [hva_] at ge132_0
                      rw [hvc_] at ul132_0
                      have HL132_0 := Qz.mk (show Kd.V k64 64 _ w.heap.size _ _ ((qv t102 x13_3).f0) from Kd.V_mk ul132_0 ge132_0)
                      clear hva_ hvn_ hvc_ ge132_0 ul132_0
                      clear hcc132 hce132
                      have HR132_0 := Qz.mk hi132_0
                      have HC132_0 := Qz.mk hl132_0
                      clear hi132_0 hl132_0
                      replace p132 := eq_true p132
                      replace q132 := eq_true q132
                      have ea_ := Option.some.inj (hx131_0.symm.trans hx132_0)
                      injection ea_ with ea_ en_ ec_
                      subst ea_
                      subst ec_
                      clear en_
                      have p133 : 0 ≤ (x14_4 : Int) := of_decide_eq_true yq113
                      have q133 : x14_4 < (((qv t102 x13_3).f0).length : Int) := of_decide_eq_true yq113
                      obtain ⟨ad133, e133, hx133_0, hx133_1, hx133_2, hx133_3⟩ := at_T64 yq117 x14_4 p133 q133
                      cases e133
                      replace p133 := eq_true p133
                      replace q133 := eq_true q133
                      go_wp2_with (first | (go_at_call 34; (with_reducible refine (impl_SeekEntry.calls k4 _ _ t105 ((qd ((qv t102 x13_3).f0) x14_4).f0.f0) ((qd ((qv t102 x13_3).f0) x14_4).f0.f1) ((qd ((qv t102 x13_3).f0) x14_4).f0.f2) t134 _ ?side1 ?side2 A43.out).mono ?_); (case side1 => exact yq114); (case side2 => exact (Kd.R_reads' HO_4.out).2.1); rintro e w50 ⟨rfl, hb⟩; replace HO_3 := Qz.mk (Kd.N_below yq111 hb); replace HO_4 := Qz.mk (Kd.R_below yq112 hb); replace HL131_0 := Qz.mk (Kd.V_below yq127 hb); replace HL132_0 := Qz.mk (Kd.V_below yq126 hb); replace HR131_0 := Qz.mk (Kd.C_below yq118 hb); replace HR132_0 := Qz.mk (Kd.C_below yq117 hb); replace HB := Qz.mk (qm yq110 hb); (try clear hb); (try clear hk); have p135 : 0 ≤ (t134 : Int) := of_decide_eq_true yq113; have q135 : t134 < (t105.length : Int) := of_decide_eq_true yq113; obtain ⟨ad135, e135, hx135_0, hx135_1, hx135_2, hx135_3⟩ := at_T64 (Kd.R_reads' HO_4.out).2.2 t134 p135 q135; cases e135; replace p135 := eq_true p135; replace q135 := eq_true q135; have p136 : 0 ≤ (x13_3 : Int) := of_decide_eq_true yq113; have q136 : x13_3 < (t102.length : Int) := of_decide_eq_true yq113; obtain ⟨ad136, A136_0, c136_0, e136, hx136_0, hl136_0, hi136_0⟩ := at_T62 (Kd.N_reads' HO_3.out).2.2 x13_3 p136 q136; obtain rfl : ad131 = ad136 := (by injection e136); obtain ⟨ce136, hce136, hMe136, hcc136⟩ := Kd.N_get HO_3.out z62 x13_3 p136 yq131; obtain ⟨ua136_0, uc136_0, rfl, ul136_0, ge136_0⟩ := k62_openF hMe136; have hv136_0 := hcc136 0 _ rfl; rw [Nat.add_zero, show (k62).sz = 1 from rfl, Nat.mul_one] at hv136_0; replace hv136_0 := Option.some.inj (hv136_0.symm.trans hx136_0); injection hv136_0 with hva_ hvn_ hvc_; rw [hva_] at ge136_0; rw [hvc_] at ul136_0; have HL136_0 := Qz.mk (show Kd.V k64 64 _ w.heap.size _ _ ((qv t102 x13_3).f0) from Kd.V_mk ul136_0 ge136_0); clear hva_ hvn_ hvc_ ge136_0 ul136_0; clear hcc136 hce136; have HR136_0 := Qz.mk hi136_0; have HC136_0 := Qz.mk hl136_0; clear hi136_0 hl136_0; replace p136 := eq_true p136; replace q136 := eq_true q136; have p137 : 0 ≤ (x14_4 : Int) := of_decide_eq_true yq113; have q137 : x14_4 < (((qv t102 x13_3).f0).length : Int) := of_decide_eq_true yq113; obtain ⟨ad137, e137, hx137_0, hx137_1, hx137_2, hx137_3⟩ := at_T64 yq123 x14_4 p137 q137; cases e137; replace p137 := eq_true p137; replace q137 := eq_true q137))
                      repeat (go_quiet (first | (go_at_call 34; (with_reducible refine (impl_SeekEntry.calls k4 _ _ t105 ((qd ((qv t102 x13_3).f0) x14_4).f0.f0) ((qd ((qv t102 x13_3).f0) x14_4).f0.f1) ((qd ((qv t102 x13_3).f0) x14_4).f0.f2) t134 _ ?side1 ?side2 A43.out).mono ?_); (case side1 => exact yq114); (case side2 => exact (Kd.R_reads' HO_4.out).2.1); rintro e w50 ⟨rfl, hb⟩; replace HO_3 := Qz.mk (Kd.N_below yq111 hb); replace HO_4 := Qz.mk (Kd.R_below yq112 hb); replace HL131_0 := Qz.mk (Kd.V_below yq127 hb); replace HL132_0 := Qz.mk (Kd.V_below yq126 hb); replace HR131_0 := Qz.mk (Kd.C_below yq118 hb); replace HR132_0 := Qz.mk (Kd.C_below yq117 hb); replace HB := Qz.mk (qm yq110 hb); (try clear hb); (try clear hk); have p135 : 0 ≤ (t134 : Int) := of_decide_eq_true yq113; have q135 : t134 < (t105.length : Int) := of_decide_eq_true yq113; obtain ⟨ad135, e135, hx135_0, hx135_1, hx135_2, hx135_3⟩ := at_T64 (Kd.R_reads' HO_4.out).2.2 t134 p135 q135; cases e135; replace p135 := eq_true p135; replace q135 := eq_true q135; have p136 : 0 ≤ (x13_3 : Int) := of_decide_eq_true yq113; have q136 : x13_3 < (t102.length : Int) := of_decide_eq_true yq113; obtain ⟨ad136, A136_0, c136_0, e136, hx136_0, hl136_0, hi136_0⟩ := at_T62 (Kd.N_reads' HO_3.out).2.2 x13_3 p136 q136; obtain rfl : ad131 = ad136 := (by injection e136); obtain ⟨ce136, hce136, hMe136, hcc136⟩ := Kd.N_get HO_3.out z62 x13_3 p136 yq131; obtain ⟨ua136_0, uc136_0, rfl, ul136_0, ge136_0⟩ := k62_openF hMe136; have hv136_0 := hcc136 0 _ rfl; rw [Nat.add_zero, show (k62).sz = 1 from rfl, Nat.mul_one] at hv136_0; replace hv136_0 := Option.some.inj (hv136_0.symm.trans hx136_0); injection hv136_0 with hva_ hvn_ hvc_; rw [hva_] at ge136_0; rw [hvc_] at ul136_0; have HL136_0 := Qz.mk (show Kd.V k64 64 _ w.heap.size _ _ ((qv t102 x13_3).f0) from Kd.V_mk ul136_0 ge136_0); clear hva_ hvn_ hvc_ ge136_0 ul136_0; clear hcc136 hce136; have HR136_0 := Qz.mk hi136_0; have HC136_0 := Qz.mk hl136_0; clear hi136_0 hl136_0; replace p136 := eq_true p136; replace q136 := eq_true q136; have p137 : 0 ≤ (x14_4 : Int) := of_decide_eq_true yq113; have q137 : x14_4 < (((qv t102 x13_3).f0).length : Int) := of_decide_eq_true yq113; obtain ⟨ad137, e137, hx137_0, hx137_1, hx137_2, hx137_3⟩ := at_T64 yq123 x14_4 p137 q137; cases e137; replace p137 := eq_true p137; replace q137 := eq_true q137)); try go_wp2_with (first | (go_at_call 34; (with_reducible refine (impl_SeekEntry.calls k4 _ _ t105 ((qd ((qv t102 x13_3).f0) x14_4).f0.f0) ((qd ((qv t102 x13_3).f0) x14_4).f0.f1) ((qd ((qv t102 x13_3).f0) x14_4).f0.f2) t134 _ ?side1 ?side2 A43.out).mono ?_); (case side1 => exact yq114); (case side2 => exact (Kd.R_reads' HO_4.out).2.1); rintro e w50 ⟨rfl, hb⟩; replace HO_3 := Qz.mk (Kd.N_below yq111 hb); replace HO_4 := Qz.mk (Kd.R_below yq112 hb); replace HL131_0 := Qz.mk (Kd.V_below yq127 hb); replace HL132_0 := Qz.mk (Kd.V_below yq126 hb); replace HR131_0 := Qz.mk (Kd.C_below yq118 hb); replace HR132_0 := Qz.mk (Kd.C_below yq117 hb); replace HB := Qz.mk (qm yq110 hb); (try clear hb); (try clear hk); have p135 : 0 ≤ (t134 : Int) := of_decide_eq_true yq113; have q135 : t134 < (t105.length : Int) := of_decide_eq_true yq113; obtain ⟨ad135, e135, hx135_0, hx135_1, hx135_2, hx135_3⟩ := at_T64 (Kd.R_reads' HO_4.out).2.2 t134 p135 q135; cases e135; replace p135 := eq_true p135; replace q135 := eq_true q135; have p136 : 0 ≤ (x13_3 : Int) := of_decide_eq_true yq113; have q136 : x13_3 < (t102.length : Int) := of_decide_eq_true yq113; obtain ⟨ad136, A136_0, c136_0, e136, hx136_0, hl136_0, hi136_0⟩ := at_T62 (Kd.N_reads' HO_3.out).2.2 x13_3 p136 q136; obtain rfl : ad131 = ad136 := (by injection e136); obtain ⟨ce136, hce136, hMe136, hcc136⟩ := Kd.N_get HO_3.out z62 x13_3 p136 yq131; obtain ⟨ua136_0, uc136_0, rfl, ul136_0, ge136_0⟩ := k62_openF hMe136; have hv136_0 := hcc136 0 _ rfl; rw [Nat.add_zero, show (k62).sz = 1 from rfl, Nat.mul_one] at hv136_0; replace hv136_0 := Option.some.inj (hv136_0.symm.trans hx136_0); injection hv136_0 with hva_ hvn_ hvc_; rw [hva_] at ge136_0; rw [hvc_] at ul136_0; have HL136_0 := Qz.mk (show Kd.V k64 64 _ w.heap.size _ _ ((qv t102 x13_3).f0) from Kd.V_mk ul136_0 ge136_0); clear hva_ hvn_ hvc_ ge136_0 ul136_0; clear hcc136 hce136; have HR136_0 := Qz.mk hi136_0; have HC136_0 := Qz.mk hl136_0; clear hi136_0 hl136_0; replace p136 := eq_true p136; replace q136 := eq_true q136; have p137 : 0 ≤ (x14_4 : Int) := of_decide_eq_true yq113; have q137 : x14_4 < (((qv t102 x13_3).f0).length : Int) := of_decide_eq_true yq113; obtain ⟨ad137, e137, hx137_0, hx137_1, hx137_2, hx137_3⟩ := at_T64 yq123 x14_4 p137 q137; cases e137; replace p137 := eq_true p137; replace q137 := eq_true q137)))
                      go_roundg k4
                      case measure => have := HJ6.out; have := HK2.out; have := HK3.out; have := HK4.out; omega
                      case rel => exact ⟨(wrap64 (x8_4 + 1)), (wrap64 (x14_4 + 1)), yq122, yq122, H', ⟨by have := HJ6.out; have := HK2.out; have := HK3.out; have := HK4.out; omega⟩, ⟨by (with_reducible repeat (first | apply Kd.N_alloc | apply Kd.N_drewN | apply Kd.N_drew)); exact HO_3.out⟩, ⟨by (with_reducible repeat (first | apply Kd.R_alloc | apply Kd.R_drewN | apply Kd.R_drew)); exact HO_4.out⟩, ⟨by repeat (first | (with_reducible first | exact HB.out | apply qc | apply qa | apply qb) | exact HB.out)⟩⟩
                    ·rw [if_neg c47] at H
                     exact absurd H (by simp)
                   ·rw [if_neg c46] at H
                    exact absurd H (by simp)
                 ·rw [if_neg c42] at H
                  exact absurd H (by simp)
                ·rw [if_neg c41] at H
                 have c41b0 : decide (x14_4 < (((qv t102 x13_3).f0).length : Int)) = false := decide_eq_false c41
                 clear c41
                 have H' := Qz.mk H
                 clear H
                 have p131 : 0 ≤ (x13_3 : Int) := of_decide_eq_true yq113
                 have q131 : x13_3 < (t102.length : Int) := of_decide_eq_true yq113
                 obtain ⟨ad131, A131_0, c131_0, e131, hx131_0, hl131_0, hi131_0⟩ := at_T62 (Kd.N_reads' HO_3.out).2.2 x13_3 p131 q131
                 cases e131
                 obtain ⟨ce131, hce131, hMe131, hcc131⟩ := Kd.N_get HO_3.out z62 x13_3 p131 yq134
                 obtain ⟨ua131_0, uc131_0, rfl, ul131_0, ge131_0⟩ := k62_openF hMe131
                 have hv131_0 := hcc131 0 _ rfl
                 rw [Nat.add_zero, show (k62).sz = 1 from rfl, Nat.mul_one] at hv131_0
                 replace hv131_0 := Option.some.inj (hv131_0.symm.trans hx131_0)
                 injection hv131_0 with hva_ hvn_ hvc_
                 rw [hva_] at ge131_0
                 rw [hvc_] at ul131_0
                 have HL131_0 := Qz.mk (show Kd.V k64 64 _ w.heap.size _ _ ((qv t102 x13_3).f0) from Kd.V_mk ul131_0 ge131_0)
                 clear hva_ hvn_ hvc_ ge131_0 ul131_0
                 clear hcc131 hce131
                 have HR131_0 := Qz.mk hi131_0
                 have HC131_0 := Qz.mk hl131_0
                 clear hi131_0 hl131_0
                 replace p131 := eq_true p131
                 replace q131 := eq_true q131
                 go_wp2
                 repeat (go_quiet (fail); try go_wp2)
                 go_roundg k4
                 case measure => have := HJ6.out; have := HK2.out; have := HK3.out; have := HK4.out; omega
                 case rel => exact ⟨(x8_4), (wrap64 (x13_3 + 1)), yq122, yq122, H', ⟨by have := HJ6.out; have := HK2.out; have := HK3.out; have := HK4.out; omega⟩, ⟨by (with_reducible repeat (first | apply Kd.N_alloc | apply Kd.N_drewN | apply Kd.N_drew)); exact HO_3.out⟩, ⟨by (with_reducible repeat (first | apply Kd.R_alloc | apply Kd.R_drewN | apply Kd.R_drew)); exact HO_4.out⟩, ⟨by repeat (first | (with_reducible first | exact HB.out | apply qc | apply qa | apply qb) | exact HB.out)⟩⟩
               ·rw [if_neg c40] at H
                exact absurd H (by simp)
              ·rw [if_neg c39] at H
               exact absurd H (by simp)
           ·rw [if_neg c38] at H
            have c38b0 : decide (x13_3 < (t102.length : Int)) = false := decide_eq_false c38
            clear c38
            obtain ⟨y122, hy122⟩ : ∃ y_ : List (S62), y_ = (([(⟨t105⟩ : S62), (⟨t105⟩ : S62)] : List (S62))) := ⟨_, rfl⟩
            replace H : ((impl_MergeRuns.f k3 y122).bind fun bt125 => ((impl_EntriesOk.f k3 t105).bind fun t129 => (if t129 = true then (if x8_3 ≥ (t105.length : Int) then (if bt125.2 = true then ((laws_sameEntries.f k3 bt125.1 t105).bind fun t130 => (some t130)) else (if (wrap64 (2 * (t105.length : Int))) > 400 then (some true) else (some false))) else (some false)) else (some false)))) = some r := by first | (rw [hy122]; with_reducible exact H) | (have H2_ := (Option.bind_some _ _).symm.trans H; rw [hy122]; with_reducible exact H2_) | (have H2_ := (Option.bind_some _ _).symm.trans H; with_reducible exact H2_) | with_reducible exact H | (rw [hy122]; exact H) | exact H
            have Ny122 := Qz.mk hy122
            clear hy122
            replace H := Option.bind_eq_some_iff.mp H
            obtain ⟨⟨t125, t126⟩, A510, H⟩ := H
            replace H : ((impl_EntriesOk.f k3 t105).bind fun t129 => (if t129 = true then (if x8_3 ≥ (t105.length : Int) then (if t126 = true then ((laws_sameEntries.f k3 t125 t105).bind fun t130 => (some t130)) else (if (wrap64 (2 * (t105.length : Int))) > 400 then (some true) else (some false))) else (some false)) else (some false))) = some r := H
            have A51 := Qz.mk A510
            clear A510
            replace H := Option.bind_eq_some_iff.mp H
            obtain ⟨t129, A520, H⟩ := H
            replace H : (if t129 = true then (if x8_3 ≥ (t105.length : Int) then (if t126 = true then ((laws_sameEntries.f k3 t125 t105).bind fun t130 => (some t130)) else (if (wrap64 (2 * (t105.length : Int))) > 400 then (some true) else (some false))) else (some false)) else (some false)) = some r := H
            have A52 := Qz.mk A520
            clear A520
            by_cases c53 : t129 = true
            ·subst c53
             have H1 : (if x8_3 ≥ (t105.length : Int) then (if t126 = true then ((laws_sameEntries.f k3 t125 t105).bind fun t130 => (some t130)) else (if (wrap64 (2 * (t105.length : Int))) > 400 then (some true) else (some false))) else (some false)) = some r := by rw [if_pos rfl] at H; exact H
             clear H
             have H := H1
             clear H1
             by_cases c54 : x8_3 ≥ (t105.length : Int)
             ·rw [if_pos c54] at H
              have c54b0 : decide ((t105.length : Int) ≤ x8_3) = true := decide_eq_true c54
              clear c54
              by_cases c55 : t126 = true
              ·subst c55
               have H1 : ((laws_sameEntries.f k3 t125 t105).bind fun t130 => (some t130)) = some r := by rw [if_pos rfl] at H; exact H
               clear H
               have H := H1
               clear H1
               replace H := Option.bind_eq_some_iff.mp H
               obtain ⟨t130, A560, H⟩ := H
               replace H : (some t130) = some r := H
               have A56 := Qz.mk A560
               clear A560
               obtain rfl := Option.some.inj H
               go_wp2_with (first | ((with_reducible refine qz (N := 160) rfl ?_); (try (refine gate_guard (by rfl) ?_; dsimp only)); refine Kd.N_lit k62 _ 62 ?hg (N' := 160) ?hd (xs := ([(⟨t105⟩ : S62), (⟨t105⟩ : S62)] : List (S62))) (inner := [.slice Ao37 t105.length co37, .slice Ao37 t105.length co37]) (ok := (fun k_ => some k_ ≠ (.slice Ao9 t102.length co9 : Value).ownBlock)) (okp := (fun k_ => some k_ ≠ (.slice Ao9 t102.length co9 : Value).ownBlock)) ?hr ?hp (fun _ hk => hk) ((show ∀ k_, wr.heap.size ≤ k_ → (fun k_ => some k_ ≠ (.slice Ao9 t102.length co9 : Value).ownBlock) k_ from fun k_ hk => Kd.fresh' (Kd.N_lt yq111) k_ hk) _ (Nat.le_refl _)) (Below.refl _ _) (Nat.le_refl _) (by simp) ?_; (case hd => rfl); (case hg => rfl); (case hr => exact yq130); (case hp => exact (Reps.one (show Kd.FK k62 _ _ (⟨t105⟩ : S62) [.slice Ao37 t105.length co37] from (k62_mkF _ _ (⟨t105⟩ : S62) (Kd.R_reads' (Kd.R_mono (ok' := (fun k_ => some k_ ≠ (.slice Ao9 t102.length co9 : Value).ownBlock)) (Kd.R_apart' (HO_4.out) (Kd.N_typed HO_3.out) (by decide)) (fun k_ hk => hk.2))).2.1 (Kd.R_F (Kd.R_mono (ok' := (fun k_ => some k_ ≠ (.slice Ao9 t102.length co9 : Value).ownBlock)) (Kd.R_apart' (HO_4.out) (Kd.N_typed HO_3.out) (by decide)) (fun k_ hk => hk.2))))) (Reps.one (show Kd.FK k62 _ _ (⟨t105⟩ : S62) [.slice Ao37 t105.length co37] from (k62_mkF _ _ (⟨t105⟩ : S62) (Kd.R_reads' (Kd.R_mono (ok' := (fun k_ => some k_ ≠ (.slice Ao9 t102.length co9 : Value).ownBlock)) (Kd.R_apart' (HO_4.out) (Kd.N_typed HO_3.out) (by decide)) (fun k_ hk => hk.2))).2.1 (Kd.R_F (Kd.R_mono (ok' := (fun k_ => some k_ ≠ (.slice Ao9 t102.length co9 : Value).ownBlock)) (Kd.R_apart' (HO_4.out) (Kd.N_typed HO_3.out) (by decide)) (fun k_ hk => hk.2))))) (Reps.none _ _)))); intro v123 w57 ho58 hb hg_ hnew_; clear hg_ hnew_; (first | rw [← Ny122.out] at ho58 | (simp only [Int.reduceToNat] at ho58; rw [← Ny122.out] at ho58)); replace HO_3 := Qz.mk (Kd.N_elder' yq111 (Kd.N_base ho58) hb); have HO124 := Qz.mk (Kd.N_lower ho58 (qu yq110)); replace HB := Qz.mk (qm yq110 hb); have n9_ := Qz.mk (Kd.R_below yq112 hb); clear HO_4; have HO_4 := n9_; clear n9_; clear hb ho58; obtain ⟨Ao59, co59, eo59⟩ := Kd.N_slice HO124.out; subst eo59) | (go_at_call 38; (with_reducible refine (impl_MergeRuns.calls k3 _ _ y122 t125 true _ ?side1 ?side2 A51.out).mono ?_); (case side1 => exact yq116); (case side2 => exact (Kd.N_reads' HO124.out).2.1); rintro e w60 ⟨v127, rfl, ho0, hb⟩; replace HO_3 := Qz.mk (Kd.N_elder' yq111 (Kd.R_base ho0) hb); replace HO124 := Qz.mk (Kd.N_elder' yq115 (Kd.R_base ho0) hb); have HO128 := Qz.mk (Kd.R_lower ho0 (qu yq110)); replace HB := Qz.mk (qm yq110 hb); have n9_ := Qz.mk (Kd.R_below yq112 hb); clear HO_4; have HO_4 := n9_; clear n9_; (try clear hb); (try clear hk); (try clear ho0)) | (go_at_call 43; (with_reducible refine (impl_EntriesOk.calls k3 _ _ t105 true _ ?side1 ?side2 A52.out).mono ?_); (case side1 => exact yq114); (case side2 => exact (Kd.R_reads' HO_4.out).2.1); rintro e w61 ⟨rfl, hb⟩; replace HO_3 := Qz.mk (Kd.N_below yq111 hb); replace HO124 := Qz.mk (Kd.N_below yq115 hb); replace HO128 := Qz.mk (Kd.R_below yq119 hb); replace HB := Qz.mk (qm yq110 hb); have n9_ := Qz.mk (Kd.R_below yq112 hb); clear HO_4; have HO_4 := n9_; clear n9_; (try clear hb); (try clear hk); obtain ⟨Ao62, co62, eo62⟩ := Kd.R_slice HO128.out; subst eo62) | (go_at_call 30; (with_reducible refine (laws_sameEntries.calls k3 _ _ t125 _ _ t105 t130 _ ?side1 ?side2 ?side3 ?side4 A56.out).mono ?_); (case side1 => exact yq133); (case side2 => exact (Kd.R_reads' HO128.out).2.1); (case side3 => exact yq114); (case side4 => exact (Kd.R_reads' HO_4.out).2.1); rintro e w' ⟨rfl, ⟨nd, rfl⟩⟩; (try first | exact ⟨rfl, _, World.drewN_drewN _ _ _⟩ | exact ⟨rfl, _, Eq.trans (World.drewN_drewN _ _ _) (congrArg (World.drewN _) (Nat.add_assoc _ _ _))⟩)))
               repeat (go_quiet (first | ((with_reducible refine qz (N := 160) rfl ?_); (try (refine gate_guard (by rfl) ?_; dsimp only)); refine Kd.N_lit k62 _ 62 ?hg (N' := 160) ?hd (xs := ([(⟨t105⟩ : S62), (⟨t105⟩ : S62)] : List (S62))) (inner := [.slice Ao37 t105.length co37, .slice Ao37 t105.length co37]) (ok := (fun k_ => some k_ ≠ (.slice Ao9 t102.length co9 : Value).ownBlock)) (okp := (fun k_ => some k_ ≠ (.slice Ao9 t102.length co9 : Value).ownBlock)) ?hr ?hp (fun _ hk => hk) ((show ∀ k_, wr.heap.size ≤ k_ → (fun k_ => some k_ ≠ (.slice Ao9 t102.length co9 : Value).ownBlock) k_ from fun k_ hk => Kd.fresh' (Kd.N_lt yq111) k_ hk) _ (Nat.le_refl _)) (Below.refl _ _) (Nat.le_refl _) (by simp) ?_; (case hd => rfl); (case hg => rfl); (case hr => exact yq130); (case hp => exact (Reps.one (show Kd.FK k62 _ _ (⟨t105⟩ : S62) [.slice Ao37 t105.length co37] from (k62_mkF _ _ (⟨t105⟩ : S62) (Kd.R_reads' (Kd.R_mono (ok' := (fun k_ => some k_ ≠ (.slice Ao9 t102.length co9 : Value).ownBlock)) (Kd.R_apart' (HO_4.out) (Kd.N_typed HO_3.out) (by decide)) (fun k_ hk => hk.2))).2.1 (Kd.R_F (Kd.R_mono (ok' := (fun k_ => some k_ ≠ (.slice Ao9 t102.length co9 : Value).ownBlock)) (Kd.R_apart' (HO_4.out) (Kd.N_typed HO_3.out) (by decide)) (fun k_ hk => hk.2))))) (Reps.one (show Kd.FK k62 _ _ (⟨t105⟩ : S62) [.slice Ao37 t105.length co37] from (k62_mkF _ _ (⟨t105⟩ : S62) (Kd.R_reads' (Kd.R_mono (ok' := (fun k_ => some k_ ≠ (.slice Ao9 t102.length co9 : Value).ownBlock)) (Kd.R_apart' (HO_4.out) (Kd.N_typed HO_3.out) (by decide)) (fun k_ hk => hk.2))).2.1 (Kd.R_F (Kd.R_mono (ok' := (fun k_ => some k_ ≠ (.slice Ao9 t102.length co9 : Value).ownBlock)) (Kd.R_apart' (HO_4.out) (Kd.N_typed HO_3.out) (by decide)) (fun k_ hk => hk.2))))) (Reps.none _ _)))); intro v123 w57 ho58 hb hg_ hnew_; clear hg_ hnew_; (first | rw [← Ny122.out] at ho58 | (simp only [Int.reduceToNat] at ho58; rw [← Ny122.out] at ho58)); replace HO_3 := Qz.mk (Kd.N_elder' yq111 (Kd.N_base ho58) hb); have HO124 := Qz.mk (Kd.N_lower ho58 (qu yq110)); replace HB := Qz.mk (qm yq110 hb); have n9_ := Qz.mk (Kd.R_below yq112 hb); clear HO_4; have HO_4 := n9_; clear n9_; clear hb ho58; obtain ⟨Ao59, co59, eo59⟩ := Kd.N_slice HO124.out; subst eo59) | (go_at_call 38; (with_reducible refine (impl_MergeRuns.calls k3 _ _ y122 t125 true _ ?side1 ?side2 A51.out).mono ?_); (case side1 => exact yq116); (case side2 => exact (Kd.N_reads' HO124.out).2.1); rintro e w60 ⟨v127, rfl, ho0, hb⟩; replace HO_3 := Qz.mk (Kd.N_elder' yq111 (Kd.R_base ho0) hb); replace HO124 := Qz.mk (Kd.N_elder' yq115 (Kd.R_base ho0) hb); have HO128 := Qz.mk (Kd.R_lower ho0 (qu yq110)); replace HB := Qz.mk (qm yq110 hb); have n9_ := Qz.mk (Kd.R_below yq112 hb); clear HO_4; have HO_4 := n9_; clear n9_; (try clear hb); (try clear hk); (try clear ho0)) | (go_at_call 43; (with_reducible refine (impl_EntriesOk.calls k3 _ _ t105 true _ ?side1 ?side2 A52.out).mono ?_); (case side1 => exact yq114); (case side2 => exact (Kd.R_reads' HO_4.out).2.1); rintro e w61 ⟨rfl, hb⟩; replace HO_3 := Qz.mk (Kd.N_below yq111 hb); replace HO124 := Qz.mk (Kd.N_below yq115 hb); replace HO128 := Qz.mk (Kd.R_below yq119 hb); replace HB := Qz.mk (qm yq110 hb); have n9_ := Qz.mk (Kd.R_below yq112 hb); clear HO_4; have HO_4 := n9_; clear n9_; (try clear hb); (try clear hk); obtain ⟨Ao62, co62, eo62⟩ := Kd.R_slice HO128.out; subst eo62) | (go_at_call 30; (with_reducible refine (laws_sameEntries.calls k3 _ _ t125 _ _ t105 t130 _ ?side1 ?side2 ?side3 ?side4 A56.out).mono ?_); (case side1 => exact yq133); (case side2 => exact (Kd.R_reads' HO128.out).2.1); (case side3 => exact yq114); (case side4 => exact (Kd.R_reads' HO_4.out).2.1); rintro e w' ⟨rfl, ⟨nd, rfl⟩⟩; (try first | exact ⟨rfl, _, World.drewN_drewN _ _ _⟩ | exact ⟨rfl, _, Eq.trans (World.drewN_drewN _ _ _) (congrArg (World.drewN _) (Nat.add_assoc _ _ _))⟩))); try go_wp2_with (first | ((with_reducible refine qz (N := 160) rfl ?_); (try (refine gate_guard (by rfl) ?_; dsimp only)); refine Kd.N_lit k62 _ 62 ?hg (N' := 160) ?hd (xs := ([(⟨t105⟩ : S62), (⟨t105⟩ : S62)] : List (S62))) (inner := [.slice Ao37 t105.length co37, .slice Ao37 t105.length co37]) (ok := (fun k_ => some k_ ≠ (.slice Ao9 t102.length co9 : Value).ownBlock)) (okp := (fun k_ => some k_ ≠ (.slice Ao9 t102.length co9 : Value).ownBlock)) ?hr ?hp (fun _ hk => hk) ((show ∀ k_, wr.heap.size ≤ k_ → (fun k_ => some k_ ≠ (.slice Ao9 t102.length co9 : Value).ownBlock) k_ from fun k_ hk => Kd.fresh' (Kd.N_lt yq111) k_ hk) _ (Nat.le_refl _)) (Below.refl _ _) (Nat.le_refl _) (by simp) ?_; (case hd => rfl); (case hg => rfl); (case hr => exact yq130); (case hp => exact (Reps.one (show Kd.FK k62 _ _ (⟨t105⟩ : S62) [.slice Ao37 t105.length co37] from (k62_mkF _ _ (⟨t105⟩ : S62) (Kd.R_reads' (Kd.R_mono (ok' := (fun k_ => some k_ ≠ (.slice Ao9 t102.length co9 : Value).ownBlock)) (Kd.R_apart' (HO_4.out) (Kd.N_typed HO_3.out) (by decide)) (fun k_ hk => hk.2))).2.1 (Kd.R_F (Kd.R_mono (ok' := (fun k_ => some k_ ≠ (.slice Ao9 t102.length co9 : Value).ownBlock)) (Kd.R_apart' (HO_4.out) (Kd.N_typed HO_3.out) (by decide)) (fun k_ hk => hk.2))))) (Reps.one (show Kd.FK k62 _ _ (⟨t105⟩ : S62) [.slice Ao37 t105.length co37] from (k62_mkF _ _ (⟨t105⟩ : S62) (Kd.R_reads' (Kd.R_mono (ok' := (fun k_ => some k_ ≠ (.slice Ao9 t102.length co9 : Value).ownBlock)) (Kd.R_apart' (HO_4.out) (Kd.N_typed HO_3.out) (by decide)) (fun k_ hk => hk.2))).2.1 (Kd.R_F (Kd.R_mono (ok' := (fun k_ => some k_ ≠ (.slice Ao9 t102.length co9 : Value).ownBlock)) (Kd.R_apart' (HO_4.out) (Kd.N_typed HO_3.out) (by decide)) (fun k_ hk => hk.2))))) (Reps.none _ _)))); intro v123 w57 ho58 hb hg_ hnew_; clear hg_ hnew_; (first | rw [← Ny122.out] at ho58 | (simp only [Int.reduceToNat] at ho58; rw [← Ny122.out] at ho58)); replace HO_3 := Qz.mk (Kd.N_elder' yq111 (Kd.N_base ho58) hb); have HO124 := Qz.mk (Kd.N_lower ho58 (qu yq110)); replace HB := Qz.mk (qm yq110 hb); have n9_ := Qz.mk (Kd.R_below yq112 hb); clear HO_4; have HO_4 := n9_; clear n9_; clear hb ho58; obtain ⟨Ao59, co59, eo59⟩ := Kd.N_slice HO124.out; subst eo59) | (go_at_call 38; (with_reducible refine (impl_MergeRuns.calls k3 _ _ y122 t125 true _ ?side1 ?side2 A51.out).mono ?_); (case side1 => exact yq116); (case side2 => exact (Kd.N_reads' HO124.out).2.1); rintro e w60 ⟨v127, rfl, ho0, hb⟩; replace HO_3 := Qz.mk (Kd.N_elder' yq111 (Kd.R_base ho0) hb); replace HO124 := Qz.mk (Kd.N_elder' yq115 (Kd.R_base ho0) hb); have HO128 := Qz.mk (Kd.R_lower ho0 (qu yq110)); replace HB := Qz.mk (qm yq110 hb); have n9_ := Qz.mk (Kd.R_below yq112 hb); clear HO_4; have HO_4 := n9_; clear n9_; (try clear hb); (try clear hk); (try clear ho0)) | (go_at_call 43; (with_reducible refine (impl_EntriesOk.calls k3 _ _ t105 true _ ?side1 ?side2 A52.out).mono ?_); (case side1 => exact yq114); (case side2 => exact (Kd.R_reads' HO_4.out).2.1); rintro e w61 ⟨rfl, hb⟩; replace HO_3 := Qz.mk (Kd.N_below yq111 hb); replace HO124 := Qz.mk (Kd.N_below yq115 hb); replace HO128 := Qz.mk (Kd.R_below yq119 hb); replace HB := Qz.mk (qm yq110 hb); have n9_ := Qz.mk (Kd.R_below yq112 hb); clear HO_4; have HO_4 := n9_; clear n9_; (try clear hb); (try clear hk); obtain ⟨Ao62, co62, eo62⟩ := Kd.R_slice HO128.out; subst eo62) | (go_at_call 30; (with_reducible refine (laws_sameEntries.calls k3 _ _ t125 _ _ t105 t130 _ ?side1 ?side2 ?side3 ?side4 A56.out).mono ?_); (case side1 => exact yq133); (case side2 => exact (Kd.R_reads' HO128.out).2.1); (case side3 => exact yq114); (case side4 => exact (Kd.R_reads' HO_4.out).2.1); rintro e w' ⟨rfl, ⟨nd, rfl⟩⟩; (try first | exact ⟨rfl, _, World.drewN_drewN _ _ _⟩ | exact ⟨rfl, _, Eq.trans (World.drewN_drewN _ _ _) (congrArg (World.drewN _) (Nat.add_assoc _ _ _))⟩))))
               go_ret
               exact ⟨by first | rfl | (simp [qq, qo] <;> rfl) | (simp [*, qq, qo] <;> rfl), by repeat (first | (with_reducible first | exact HB.out | apply qc | apply qa | apply qb) | exact HB.out)⟩
              ·replace c55 := Bool.eq_false_iff.mpr c55
               subst c55
               have H1 : (if (wrap64 (2 * (t105.length : Int))) > 400 then (some true) else (some false)) = some r := by rw [if_neg (show ¬ (false = true) by decide)] at H; exact H
               clear H
               have H := H1
               clear H1
               by_cases c63 : (wrap64 (2 * (t105.length : Int))) > 400
               ·rw [if_pos c63] at H
                have c63b0 : decide (400 < (wrap64 (2 * (t105.length : Int)))) = true := decide_eq_true c63
                clear c63
                obtain rfl := Option.some.inj H
                go_wp2_with (first | ((with_reducible refine qz (N := 160) rfl ?_); (try (refine gate_guard (by rfl) ?_; dsimp only)); refine Kd.N_lit k62 _ 62 ?hg (N' := 160) ?hd (xs := ([(⟨t105⟩ : S62), (⟨t105⟩ : S62)] : List (S62))) (inner := [.slice Ao37 t105.length co37, .slice Ao37 t105.length co37]) (ok := (fun k_ => some k_ ≠ (.slice Ao9 t102.length co9 : Value).ownBlock)) (okp := (fun k_ => some k_ ≠ (.slice Ao9 t102.length co9 : Value).ownBlock)) ?hr ?hp (fun _ hk => hk) ((show ∀ k_, wr.heap.size ≤ k_ → (fun k_ => some k_ ≠ (.slice Ao9 t102.length co9 : Value).ownBlock) k_ from fun k_ hk => Kd.fresh' (Kd.N_lt yq111) k_ hk) _ (Nat.le_refl _)) (Below.refl _ _) (Nat.le_refl _) (by simp) ?_; (case hd => rfl); (case hg => rfl); (case hr => exact yq130); (case hp => exact (Reps.one (show Kd.FK k62 _ _ (⟨t105⟩ : S62) [.slice Ao37 t105.length co37] from (k62_mkF _ _ (⟨t105⟩ : S62) (Kd.R_reads' (Kd.R_mono (ok' := (fun k_ => some k_ ≠ (.slice Ao9 t102.length co9 : Value).ownBlock)) (Kd.R_apart' (HO_4.out) (Kd.N_typed HO_3.out) (by decide)) (fun k_ hk => hk.2))).2.1 (Kd.R_F (Kd.R_mono (ok' := (fun k_ => some k_ ≠ (.slice Ao9 t102.length co9 : Value).ownBlock)) (Kd.R_apart' (HO_4.out) (Kd.N_typed HO_3.out) (by decide)) (fun k_ hk => hk.2))))) (Reps.one (show Kd.FK k62 _ _ (⟨t105⟩ : S62) [.slice Ao37 t105.length co37] from (k62_mkF _ _ (⟨t105⟩ : S62) (Kd.R_reads' (Kd.R_mono (ok' := (fun k_ => some k_ ≠ (.slice Ao9 t102.length co9 : Value).ownBlock)) (Kd.R_apart' (HO_4.out) (Kd.N_typed HO_3.out) (by decide)) (fun k_ hk => hk.2))).2.1 (Kd.R_F (Kd.R_mono (ok' := (fun k_ => some k_ ≠ (.slice Ao9 t102.length co9 : Value).ownBlock)) (Kd.R_apart' (HO_4.out) (Kd.N_typed HO_3.out) (by decide)) (fun k_ hk => hk.2))))) (Reps.none _ _)))); intro v123 w64 ho65 hb hg_ hnew_; clear hg_ hnew_; (first | rw [← Ny122.out] at ho65 | (simp only [Int.reduceToNat] at ho65; rw [← Ny122.out] at ho65)); replace HO_3 := Qz.mk (Kd.N_elder' yq111 (Kd.N_base ho65) hb); have HO124 := Qz.mk (Kd.N_lower ho65 (qu yq110)); replace HB := Qz.mk (qm yq110 hb); have n9_ := Qz.mk (Kd.R_below yq112 hb); clear HO_4; have HO_4 := n9_; clear n9_; clear hb ho65; obtain ⟨Ao66, co66, eo66⟩ := Kd.N_slice HO124.out; subst eo66) | (go_at_call 38; (with_reducible refine (impl_MergeRuns.calls k3 _ _ y122 t125 false _ ?side1 ?side2 A51.out).mono ?_); (case side1 => exact yq116); (case side2 => exact (Kd.N_reads' HO124.out).2.1); rintro e w67 ⟨v127, rfl, ho0, hb⟩; replace HO_3 := Qz.mk (Kd.N_elder' yq111 (Kd.R_base ho0) hb); replace HO124 := Qz.mk (Kd.N_elder' yq115 (Kd.R_base ho0) hb); have HO128 := Qz.mk (Kd.R_lower ho0 (qu yq110)); replace HB := Qz.mk (qm yq110 hb); have n9_ := Qz.mk (Kd.R_below yq112 hb); clear HO_4; have HO_4 := n9_; clear n9_; (try clear hb); (try clear hk); (try clear ho0)) | (go_at_call 43; (with_reducible refine (impl_EntriesOk.calls k3 _ _ t105 true _ ?side1 ?side2 A52.out).mono ?_); (case side1 => exact yq114); (case side2 => exact (Kd.R_reads' HO_4.out).2.1); rintro e w68 ⟨rfl, hb⟩; replace HO_3 := Qz.mk (Kd.N_below yq111 hb); replace HO124 := Qz.mk (Kd.N_below yq115 hb); replace HO128 := Qz.mk (Kd.R_below yq119 hb); replace HB := Qz.mk (qm yq110 hb); have n9_ := Qz.mk (Kd.R_below yq112 hb); clear HO_4; have HO_4 := n9_; clear n9_; (try clear hb); (try clear hk)))
                repeat (go_quiet (first | ((with_reducible refine qz (N := 160) rfl ?_); (try (refine gate_guard (by rfl) ?_; dsimp only)); refine Kd.N_lit k62 _ 62 ?hg (N' := 160) ?hd (xs := ([(⟨t105⟩ : S62), (⟨t105⟩ : S62)] : List (S62))) (inner := [.slice Ao37 t105.length co37, .slice Ao37 t105.length co37]) (ok := (fun k_ => some k_ ≠ (.slice Ao9 t102.length co9 : Value).ownBlock)) (okp := (fun k_ => some k_ ≠ (.slice Ao9 t102.length co9 : Value).ownBlock)) ?hr ?hp (fun _ hk => hk) ((show ∀ k_, wr.heap.size ≤ k_ → (fun k_ => some k_ ≠ (.slice Ao9 t102.length co9 : Value).ownBlock) k_ from fun k_ hk => Kd.fresh' (Kd.N_lt yq111) k_ hk) _ (Nat.le_refl _)) (Below.refl _ _) (Nat.le_refl _) (by simp) ?_; (case hd => rfl); (case hg => rfl); (case hr => exact yq130); (case hp => exact (Reps.one (show Kd.FK k62 _ _ (⟨t105⟩ : S62) [.slice Ao37 t105.length co37] from (k62_mkF _ _ (⟨t105⟩ : S62) (Kd.R_reads' (Kd.R_mono (ok' := (fun k_ => some k_ ≠ (.slice Ao9 t102.length co9 : Value).ownBlock)) (Kd.R_apart' (HO_4.out) (Kd.N_typed HO_3.out) (by decide)) (fun k_ hk => hk.2))).2.1 (Kd.R_F (Kd.R_mono (ok' := (fun k_ => some k_ ≠ (.slice Ao9 t102.length co9 : Value).ownBlock)) (Kd.R_apart' (HO_4.out) (Kd.N_typed HO_3.out) (by decide)) (fun k_ hk => hk.2))))) (Reps.one (show Kd.FK k62 _ _ (⟨t105⟩ : S62) [.slice Ao37 t105.length co37] from (k62_mkF _ _ (⟨t105⟩ : S62) (Kd.R_reads' (Kd.R_mono (ok' := (fun k_ => some k_ ≠ (.slice Ao9 t102.length co9 : Value).ownBlock)) (Kd.R_apart' (HO_4.out) (Kd.N_typed HO_3.out) (by decide)) (fun k_ hk => hk.2))).2.1 (Kd.R_F (Kd.R_mono (ok' := (fun k_ => some k_ ≠ (.slice Ao9 t102.length co9 : Value).ownBlock)) (Kd.R_apart' (HO_4.out) (Kd.N_typed HO_3.out) (by decide)) (fun k_ hk => hk.2))))) (Reps.none _ _)))); intro v123 w64 ho65 hb hg_ hnew_; clear hg_ hnew_; (first | rw [← Ny122.out] at ho65 | (simp only [Int.reduceToNat] at ho65; rw [← Ny122.out] at ho65)); replace HO_3 := Qz.mk (Kd.N_elder' yq111 (Kd.N_base ho65) hb); have HO124 := Qz.mk (Kd.N_lower ho65 (qu yq110)); replace HB := Qz.mk (qm yq110 hb); have n9_ := Qz.mk (Kd.R_below yq112 hb); clear HO_4; have HO_4 := n9_; clear n9_; clear hb ho65; obtain ⟨Ao66, co66, eo66⟩ := Kd.N_slice HO124.out; subst eo66) | (go_at_call 38; (with_reducible refine (impl_MergeRuns.calls k3 _ _ y122 t125 false _ ?side1 ?side2 A51.out).mono ?_); (case side1 => exact yq116); (case side2 => exact (Kd.N_reads' HO124.out).2.1); rintro e w67 ⟨v127, rfl, ho0, hb⟩; replace HO_3 := Qz.mk (Kd.N_elder' yq111 (Kd.R_base ho0) hb); replace HO124 := Qz.mk (Kd.N_elder' yq115 (Kd.R_base ho0) hb); have HO128 := Qz.mk (Kd.R_lower ho0 (qu yq110)); replace HB := Qz.mk (qm yq110 hb); have n9_ := Qz.mk (Kd.R_below yq112 hb); clear HO_4; have HO_4 := n9_; clear n9_; (try clear hb); (try clear hk); (try clear ho0)) | (go_at_call 43; (with_reducible refine (impl_EntriesOk.calls k3 _ _ t105 true _ ?side1 ?side2 A52.out).mono ?_); (case side1 => exact yq114); (case side2 => exact (Kd.R_reads' HO_4.out).2.1); rintro e w68 ⟨rfl, hb⟩; replace HO_3 := Qz.mk (Kd.N_below yq111 hb); replace HO124 := Qz.mk (Kd.N_below yq115 hb); replace HO128 := Qz.mk (Kd.R_below yq119 hb); replace HB := Qz.mk (qm yq110 hb); have n9_ := Qz.mk (Kd.R_below yq112 hb); clear HO_4; have HO_4 := n9_; clear n9_; (try clear hb); (try clear hk))); try go_wp2_with (first | ((with_reducible refine qz (N := 160) rfl ?_); (try (refine gate_guard (by rfl) ?_; dsimp only)); refine Kd.N_lit k62 _ 62 ?hg (N' := 160) ?hd (xs := ([(⟨t105⟩ : S62), (⟨t105⟩ : S62)] : List (S62))) (inner := [.slice Ao37 t105.length co37, .slice Ao37 t105.length co37]) (ok := (fun k_ => some k_ ≠ (.slice Ao9 t102.length co9 : Value).ownBlock)) (okp := (fun k_ => some k_ ≠ (.slice Ao9 t102.length co9 : Value).ownBlock)) ?hr ?hp (fun _ hk => hk) ((show ∀ k_, wr.heap.size ≤ k_ → (fun k_ => some k_ ≠ (.slice Ao9 t102.length co9 : Value).ownBlock) k_ from fun k_ hk => Kd.fresh' (Kd.N_lt yq111) k_ hk) _ (Nat.le_refl _)) (Below.refl _ _) (Nat.le_refl _) (by simp) ?_; (case hd => rfl); (case hg => rfl); (case hr => exact yq130); (case hp => exact (Reps.one (show Kd.FK k62 _ _ (⟨t105⟩ : S62) [.slice Ao37 t105.length co37] from (k62_mkF _ _ (⟨t105⟩ : S62) (Kd.R_reads' (Kd.R_mono (ok' := (fun k_ => some k_ ≠ (.slice Ao9 t102.length co9 : Value).ownBlock)) (Kd.R_apart' (HO_4.out) (Kd.N_typed HO_3.out) (by decide)) (fun k_ hk => hk.2))).2.1 (Kd.R_F (Kd.R_mono (ok' := (fun k_ => some k_ ≠ (.slice Ao9 t102.length co9 : Value).ownBlock)) (Kd.R_apart' (HO_4.out) (Kd.N_typed HO_3.out) (by decide)) (fun k_ hk => hk.2))))) (Reps.one (show Kd.FK k62 _ _ (⟨t105⟩ : S62) [.slice Ao37 t105.length co37] from (k62_mkF _ _ (⟨t105⟩ : S62) (Kd.R_reads' (Kd.R_mono (ok' := (fun k_ => some k_ ≠ (.slice Ao9 t102.length co9 : Value).ownBlock)) (Kd.R_apart' (HO_4.out) (Kd.N_typed HO_3.out) (by decide)) (fun k_ hk => hk.2))).2.1 (Kd.R_F (Kd.R_mono (ok' := (fun k_ => some k_ ≠ (.slice Ao9 t102.length co9 : Value).ownBlock)) (Kd.R_apart' (HO_4.out) (Kd.N_typed HO_3.out) (by decide)) (fun k_ hk => hk.2))))) (Reps.none _ _)))); intro v123 w64 ho65 hb hg_ hnew_; clear hg_ hnew_; (first | rw [← Ny122.out] at ho65 | (simp only [Int.reduceToNat] at ho65; rw [← Ny122.out] at ho65)); replace HO_3 := Qz.mk (Kd.N_elder' yq111 (Kd.N_base ho65) hb); have HO124 := Qz.mk (Kd.N_lower ho65 (qu yq110)); replace HB := Qz.mk (qm yq110 hb); have n9_ := Qz.mk (Kd.R_below yq112 hb); clear HO_4; have HO_4 := n9_; clear n9_; clear hb ho65; obtain ⟨Ao66, co66, eo66⟩ := Kd.N_slice HO124.out; subst eo66) | (go_at_call 38; (with_reducible refine (impl_MergeRuns.calls k3 _ _ y122 t125 false _ ?side1 ?side2 A51.out).mono ?_); (case side1 => exact yq116); (case side2 => exact (Kd.N_reads' HO124.out).2.1); rintro e w67 ⟨v127, rfl, ho0, hb⟩; replace HO_3 := Qz.mk (Kd.N_elder' yq111 (Kd.R_base ho0) hb); replace HO124 := Qz.mk (Kd.N_elder' yq115 (Kd.R_base ho0) hb); have HO128 := Qz.mk (Kd.R_lower ho0 (qu yq110)); replace HB := Qz.mk (qm yq110 hb); have n9_ := Qz.mk (Kd.R_below yq112 hb); clear HO_4; have HO_4 := n9_; clear n9_; (try clear hb); (try clear hk); (try clear ho0)) | (go_at_call 43; (with_reducible refine (impl_EntriesOk.calls k3 _ _ t105 true _ ?side1 ?side2 A52.out).mono ?_); (case side1 => exact yq114); (case side2 => exact (Kd.R_reads' HO_4.out).2.1); rintro e w68 ⟨rfl, hb⟩; replace HO_3 := Qz.mk (Kd.N_below yq111 hb); replace HO124 := Qz.mk (Kd.N_below yq115 hb); replace HO128 := Qz.mk (Kd.R_below yq119 hb); replace HB := Qz.mk (qm yq110 hb); have n9_ := Qz.mk (Kd.R_below yq112 hb); clear HO_4; have HO_4 := n9_; clear n9_; (try clear hb); (try clear hk))))
                go_ret
                exact ⟨by first | rfl | (simp [qq, qo] <;> rfl) | (simp [*, qq, qo] <;> rfl), by repeat (first | (with_reducible first | exact HB.out | apply qc | apply qa | apply qb) | exact HB.out)⟩
               ·rw [if_neg c63] at H
                have c63b0 : decide (400 < (wrap64 (2 * (t105.length : Int)))) = false := decide_eq_false c63
                clear c63
                obtain rfl := Option.some.inj H
                go_wp2_with (first | ((with_reducible refine qz (N := 160) rfl ?_); (try (refine gate_guard (by rfl) ?_; dsimp only)); refine Kd.N_lit k62 _ 62 ?hg (N' := 160) ?hd (xs := ([(⟨t105⟩ : S62), (⟨t105⟩ : S62)] : List (S62))) (inner := [.slice Ao37 t105.length co37, .slice Ao37 t105.length co37]) (ok := (fun k_ => some k_ ≠ (.slice Ao9 t102.length co9 : Value).ownBlock)) (okp := (fun k_ => some k_ ≠ (.slice Ao9 t102.length co9 : Value).ownBlock)) ?hr ?hp (fun _ hk => hk) ((show ∀ k_, wr.heap.size ≤ k_ → (fun k_ => some k_ ≠ (.slice Ao9 t102.length co9 : Value).ownBlock) k_ from fun k_ hk => Kd.fresh' (Kd.N_lt yq111) k_ hk) _ (Nat.le_refl _)) (Below.refl _ _) (Nat.le_refl _) (by simp) ?_; (case hd => rfl); (case hg => rfl); (case hr => exact yq130); (case hp => exact (Reps.one (show Kd.FK k62 _ _ (⟨t105⟩ : S62) [.slice Ao37 t105.length co37] from (k62_mkF _ _ (⟨t105⟩ : S62) (Kd.R_reads' (Kd.R_mono (ok' := (fun k_ => some k_ ≠ (.slice Ao9 t102.length co9 : Value).ownBlock)) (Kd.R_apart' (HO_4.out) (Kd.N_typed HO_3.out) (by decide)) (fun k_ hk => hk.2))).2.1 (Kd.R_F (Kd.R_mono (ok' := (fun k_ => some k_ ≠ (.slice Ao9 t102.length co9 : Value).ownBlock)) (Kd.R_apart' (HO_4.out) (Kd.N_typed HO_3.out) (by decide)) (fun k_ hk => hk.2))))) (Reps.one (show Kd.FK k62 _ _ (⟨t105⟩ : S62) [.slice Ao37 t105.length co37] from (k62_mkF _ _ (⟨t105⟩ : S62) (Kd.R_reads' (Kd.R_mono (ok' := (fun k_ => some k_ ≠ (.slice Ao9 t102.length co9 : Value).ownBlock)) (Kd.R_apart' (HO_4.out) (Kd.N_typed HO_3.out) (by decide)) (fun k_ hk => hk.2))).2.1 (Kd.R_F (Kd.R_mono (ok' := (fun k_ => some k_ ≠ (.slice Ao9 t102.length co9 : Value).ownBlock)) (Kd.R_apart' (HO_4.out) (Kd.N_typed HO_3.out) (by decide)) (fun k_ hk => hk.2))))) (Reps.none _ _)))); intro v123 w69 ho70 hb hg_ hnew_; clear hg_ hnew_; (first | rw [← Ny122.out] at ho70 | (simp only [Int.reduceToNat] at ho70; rw [← Ny122.out] at ho70)); replace HO_3 := Qz.mk (Kd.N_elder' yq111 (Kd.N_base ho70) hb); have HO124 := Qz.mk (Kd.N_lower ho70 (qu yq110)); replace HB := Qz.mk (qm yq110 hb); have n9_ := Qz.mk (Kd.R_below yq112 hb); clear HO_4; have HO_4 := n9_; clear n9_; clear hb ho70; obtain ⟨Ao71, co71, eo71⟩ := Kd.N_slice HO124.out; subst eo71) | (go_at_call 38; (with_reducible refine (impl_MergeRuns.calls k3 _ _ y122 t125 false _ ?side1 ?side2 A51.out).mono ?_); (case side1 => exact yq116); (case side2 => exact (Kd.N_reads' HO124.out).2.1); rintro e w72 ⟨v127, rfl, ho0, hb⟩; replace HO_3 := Qz.mk (Kd.N_elder' yq111 (Kd.R_base ho0) hb); replace HO124 := Qz.mk (Kd.N_elder' yq115 (Kd.R_base ho0) hb); have HO128 := Qz.mk (Kd.R_lower ho0 (qu yq110)); replace HB := Qz.mk (qm yq110 hb); have n9_ := Qz.mk (Kd.R_below yq112 hb); clear HO_4; have HO_4 := n9_; clear n9_; (try clear hb); (try clear hk); (try clear ho0)) | (go_at_call 43; (with_reducible refine (impl_EntriesOk.calls k3 _ _ t105 true _ ?side1 ?side2 A52.out).mono ?_); (case side1 => exact yq114); (case side2 => exact (Kd.R_reads' HO_4.out).2.1); rintro e w73 ⟨rfl, hb⟩; replace HO_3 := Qz.mk (Kd.N_below yq111 hb); replace HO124 := Qz.mk (Kd.N_below yq115 hb); replace HO128 := Qz.mk (Kd.R_below yq119 hb); replace HB := Qz.mk (qm yq110 hb); have n9_ := Qz.mk (Kd.R_below yq112 hb); clear HO_4; have HO_4 := n9_; clear n9_; (try clear hb); (try clear hk)))
                repeat (go_quiet (first | ((with_reducible refine qz (N := 160) rfl ?_); (try (refine gate_guard (by rfl) ?_; dsimp only)); refine Kd.N_lit k62 _ 62 ?hg (N' := 160) ?hd (xs := ([(⟨t105⟩ : S62), (⟨t105⟩ : S62)] : List (S62))) (inner := [.slice Ao37 t105.length co37, .slice Ao37 t105.length co37]) (ok := (fun k_ => some k_ ≠ (.slice Ao9 t102.length co9 : Value).ownBlock)) (okp := (fun k_ => some k_ ≠ (.slice Ao9 t102.length co9 : Value).ownBlock)) ?hr ?hp (fun _ hk => hk) ((show ∀ k_, wr.heap.size ≤ k_ → (fun k_ => some k_ ≠ (.slice Ao9 t102.length co9 : Value).ownBlock) k_ from fun k_ hk => Kd.fresh' (Kd.N_lt yq111) k_ hk) _ (Nat.le_refl _)) (Below.refl _ _) (Nat.le_refl _) (by simp) ?_; (case hd => rfl); (case hg => rfl); (case hr => exact yq130); (case hp => exact (Reps.one (show Kd.FK k62 _ _ (⟨t105⟩ : S62) [.slice Ao37 t105.length co37] from (k62_mkF _ _ (⟨t105⟩ : S62) (Kd.R_reads' (Kd.R_mono (ok' := (fun k_ => some k_ ≠ (.slice Ao9 t102.length co9 : Value).ownBlock)) (Kd.R_apart' (HO_4.out) (Kd.N_typed HO_3.out) (by decide)) (fun k_ hk => hk.2))).2.1 (Kd.R_F (Kd.R_mono (ok' := (fun k_ => some k_ ≠ (.slice Ao9 t102.length co9 : Value).ownBlock)) (Kd.R_apart' (HO_4.out) (Kd.N_typed HO_3.out) (by decide)) (fun k_ hk => hk.2))))) (Reps.one (show Kd.FK k62 _ _ (⟨t105⟩ : S62) [.slice Ao37 t105.length co37] from (k62_mkF _ _ (⟨t105⟩ : S62) (Kd.R_reads' (Kd.R_mono (ok' := (fun k_ => some k_ ≠ (.slice Ao9 t102.length co9 : Value).ownBlock)) (Kd.R_apart' (HO_4.out) (Kd.N_typed HO_3.out) (by decide)) (fun k_ hk => hk.2))).2.1 (Kd.R_F (Kd.R_mono (ok' := (fun k_ => some k_ ≠ (.slice Ao9 t102.length co9 : Value).ownBlock)) (Kd.R_apart' (HO_4.out) (Kd.N_typed HO_3.out) (by decide)) (fun k_ hk => hk.2))))) (Reps.none _ _)))); intro v123 w69 ho70 hb hg_ hnew_; clear hg_ hnew_; (first | rw [← Ny122.out] at ho70 | (simp only [Int.reduceToNat] at ho70; rw [← Ny122.out] at ho70)); replace HO_3 := Qz.mk (Kd.N_elder' yq111 (Kd.N_base ho70) hb); have HO124 := Qz.mk (Kd.N_lower ho70 (qu yq110)); replace HB := Qz.mk (qm yq110 hb); have n9_ := Qz.mk (Kd.R_below yq112 hb); clear HO_4; have HO_4 := n9_; clear n9_; clear hb ho70; obtain ⟨Ao71, co71, eo71⟩ := Kd.N_slice HO124.out; subst eo71) | (go_at_call 38; (with_reducible refine (impl_MergeRuns.calls k3 _ _ y122 t125 false _ ?side1 ?side2 A51.out).mono ?_); (case side1 => exact yq116); (case side2 => exact (Kd.N_reads' HO124.out).2.1); rintro e w72 ⟨v127, rfl, ho0, hb⟩; replace HO_3 := Qz.mk (Kd.N_elder' yq111 (Kd.R_base ho0) hb); replace HO124 := Qz.mk (Kd.N_elder' yq115 (Kd.R_base ho0) hb); have HO128 := Qz.mk (Kd.R_lower ho0 (qu yq110)); replace HB := Qz.mk (qm yq110 hb); have n9_ := Qz.mk (Kd.R_below yq112 hb); clear HO_4; have HO_4 := n9_; clear n9_; (try clear hb); (try clear hk); (try clear ho0)) | (go_at_call 43; (with_reducible refine (impl_EntriesOk.calls k3 _ _ t105 true _ ?side1 ?side2 A52.out).mono ?_); (case side1 => exact yq114); (case side2 => exact (Kd.R_reads' HO_4.out).2.1); rintro e w73 ⟨rfl, hb⟩; replace HO_3 := Qz.mk (Kd.N_below yq111 hb); replace HO124 := Qz.mk (Kd.N_below yq115 hb); replace HO128 := Qz.mk (Kd.R_below yq119 hb); replace HB := Qz.mk (qm yq110 hb); have n9_ := Qz.mk (Kd.R_below yq112 hb); clear HO_4; have HO_4 := n9_; clear n9_; (try clear hb); (try clear hk))); try go_wp2_with (first | ((with_reducible refine qz (N := 160) rfl ?_); (try (refine gate_guard (by rfl) ?_; dsimp only)); refine Kd.N_lit k62 _ 62 ?hg (N' := 160) ?hd (xs := ([(⟨t105⟩ : S62), (⟨t105⟩ : S62)] : List (S62))) (inner := [.slice Ao37 t105.length co37, .slice Ao37 t105.length co37]) (ok := (fun k_ => some k_ ≠ (.slice Ao9 t102.length co9 : Value).ownBlock)) (okp := (fun k_ => some k_ ≠ (.slice Ao9 t102.length co9 : Value).ownBlock)) ?hr ?hp (fun _ hk => hk) ((show ∀ k_, wr.heap.size ≤ k_ → (fun k_ => some k_ ≠ (.slice Ao9 t102.length co9 : Value).ownBlock) k_ from fun k_ hk => Kd.fresh' (Kd.N_lt yq111) k_ hk) _ (Nat.le_refl _)) (Below.refl _ _) (Nat.le_refl _) (by simp) ?_; (case hd => rfl); (case hg => rfl); (case hr => exact yq130); (case hp => exact (Reps.one (show Kd.FK k62 _ _ (⟨t105⟩ : S62) [.slice Ao37 t105.length co37] from (k62_mkF _ _ (⟨t105⟩ : S62) (Kd.R_reads' (Kd.R_mono (ok' := (fun k_ => some k_ ≠ (.slice Ao9 t102.length co9 : Value).ownBlock)) (Kd.R_apart' (HO_4.out) (Kd.N_typed HO_3.out) (by decide)) (fun k_ hk => hk.2))).2.1 (Kd.R_F (Kd.R_mono (ok' := (fun k_ => some k_ ≠ (.slice Ao9 t102.length co9 : Value).ownBlock)) (Kd.R_apart' (HO_4.out) (Kd.N_typed HO_3.out) (by decide)) (fun k_ hk => hk.2))))) (Reps.one (show Kd.FK k62 _ _ (⟨t105⟩ : S62) [.slice Ao37 t105.length co37] from (k62_mkF _ _ (⟨t105⟩ : S62) (Kd.R_reads' (Kd.R_mono (ok' := (fun k_ => some k_ ≠ (.slice Ao9 t102.length co9 : Value).ownBlock)) (Kd.R_apart' (HO_4.out) (Kd.N_typed HO_3.out) (by decide)) (fun k_ hk => hk.2))).2.1 (Kd.R_F (Kd.R_mono (ok' := (fun k_ => some k_ ≠ (.slice Ao9 t102.length co9 : Value).ownBlock)) (Kd.R_apart' (HO_4.out) (Kd.N_typed HO_3.out) (by decide)) (fun k_ hk => hk.2))))) (Reps.none _ _)))); intro v123 w69 ho70 hb hg_ hnew_; clear hg_ hnew_; (first | rw [← Ny122.out] at ho70 | (simp only [Int.reduceToNat] at ho70; rw [← Ny122.out] at ho70)); replace HO_3 := Qz.mk (Kd.N_elder' yq111 (Kd.N_base ho70) hb); have HO124 := Qz.mk (Kd.N_lower ho70 (qu yq110)); replace HB := Qz.mk (qm yq110 hb); have n9_ := Qz.mk (Kd.R_below yq112 hb); clear HO_4; have HO_4 := n9_; clear n9_; clear hb ho70; obtain ⟨Ao71, co71, eo71⟩ := Kd.N_slice HO124.out; subst eo71) | (go_at_call 38; (with_reducible refine (impl_MergeRuns.calls k3 _ _ y122 t125 false _ ?side1 ?side2 A51.out).mono ?_); (case side1 => exact yq116); (case side2 => exact (Kd.N_reads' HO124.out).2.1); rintro e w72 ⟨v127, rfl, ho0, hb⟩; replace HO_3 := Qz.mk (Kd.N_elder' yq111 (Kd.R_base ho0) hb); replace HO124 := Qz.mk (Kd.N_elder' yq115 (Kd.R_base ho0) hb); have HO128 := Qz.mk (Kd.R_lower ho0 (qu yq110)); replace HB := Qz.mk (qm yq110 hb); have n9_ := Qz.mk (Kd.R_below yq112 hb); clear HO_4; have HO_4 := n9_; clear n9_; (try clear hb); (try clear hk); (try clear ho0)) | (go_at_call 43; (with_reducible refine (impl_EntriesOk.calls k3 _ _ t105 true _ ?side1 ?side2 A52.out).mono ?_); (case side1 => exact yq114); (case side2 => exact (Kd.R_reads' HO_4.out).2.1); rintro e w73 ⟨rfl, hb⟩; replace HO_3 := Qz.mk (Kd.N_below yq111 hb); replace HO124 := Qz.mk (Kd.N_below yq115 hb); replace HO128 := Qz.mk (Kd.R_below yq119 hb); replace HB := Qz.mk (qm yq110 hb); have n9_ := Qz.mk (Kd.R_below yq112 hb); clear HO_4; have HO_4 := n9_; clear n9_; (try clear hb); (try clear hk))))
                go_ret
                exact ⟨by first | rfl | (simp [qq, qo] <;> rfl) | (simp [*, qq, qo] <;> rfl), by repeat (first | (with_reducible first | exact HB.out | apply qc | apply qa | apply qb) | exact HB.out)⟩
             ·rw [if_neg c54] at H
              have c54b0 : decide ((t105.length : Int) ≤ x8_3) = false := decide_eq_false c54
              clear c54
              obtain rfl := Option.some.inj H
              go_wp2_with (first | ((with_reducible refine qz (N := 160) rfl ?_); (try (refine gate_guard (by rfl) ?_; dsimp only)); refine Kd.N_lit k62 _ 62 ?hg (N' := 160) ?hd (xs := ([(⟨t105⟩ : S62), (⟨t105⟩ : S62)] : List (S62))) (inner := [.slice Ao37 t105.length co37, .slice Ao37 t105.length co37]) (ok := (fun k_ => some k_ ≠ (.slice Ao9 t102.length co9 : Value).ownBlock)) (okp := (fun k_ => some k_ ≠ (.slice Ao9 t102.length co9 : Value).ownBlock)) ?hr ?hp (fun _ hk => hk) ((show ∀ k_, wr.heap.size ≤ k_ → (fun k_ => some k_ ≠ (.slice Ao9 t102.length co9 : Value).ownBlock) k_ from fun k_ hk => Kd.fresh' (Kd.N_lt yq111) k_ hk) _ (Nat.le_refl _)) (Below.refl _ _) (Nat.le_refl _) (by simp) ?_; (case hd => rfl); (case hg => rfl); (case hr => exact yq130); (case hp => exact (Reps.one (show Kd.FK k62 _ _ (⟨t105⟩ : S62) [.slice Ao37 t105.length co37] from (k62_mkF _ _ (⟨t105⟩ : S62) (Kd.R_reads' (Kd.R_mono (ok' := (fun k_ => some k_ ≠ (.slice Ao9 t102.length co9 : Value).ownBlock)) (Kd.R_apart' (HO_4.out) (Kd.N_typed HO_3.out) (by decide)) (fun k_ hk => hk.2))).2.1 (Kd.R_F (Kd.R_mono (ok' := (fun k_ => some k_ ≠ (.slice Ao9 t102.length co9 : Value).ownBlock)) (Kd.R_apart' (HO_4.out) (Kd.N_typed HO_3.out) (by decide)) (fun k_ hk => hk.2))))) (Reps.one (show Kd.FK k62 _ _ (⟨t105⟩ : S62) [.slice Ao37 t105.length co37] from (k62_mkF _ _ (⟨t105⟩ : S62) (Kd.R_reads' (Kd.R_mono (ok' := (fun k_ => some k_ ≠ (.slice Ao9 t102.length co9 : Value).ownBlock)) (Kd.R_apart' (HO_4.out) (Kd.N_typed HO_3.out) (by decide)) (fun k_ hk => hk.2))).2.1 (Kd.R_F (Kd.R_mono (ok' := (fun k_ => some k_ ≠ (.slice Ao9 t102.length co9 : Value).ownBlock)) (Kd.R_apart' (HO_4.out) (Kd.N_typed HO_3.out) (by decide)) (fun k_ hk => hk.2))))) (Reps.none _ _)))); intro v123 w74 ho75 hb hg_ hnew_; clear hg_ hnew_; (first | rw [← Ny122.out] at ho75 | (simp only [Int.reduceToNat] at ho75; rw [← Ny122.out] at ho75)); replace HO_3 := Qz.mk (Kd.N_elder' yq111 (Kd.N_base ho75) hb); have HO124 := Qz.mk (Kd.N_lower ho75 (qu yq110)); replace HB := Qz.mk (qm yq110 hb); have n9_ := Qz.mk (Kd.R_below yq112 hb); clear HO_4; have HO_4 := n9_; clear n9_; clear hb ho75; obtain ⟨Ao76, co76, eo76⟩ := Kd.N_slice HO124.out; subst eo76) | (go_at_call 38; (with_reducible refine (impl_MergeRuns.calls k3 _ _ y122 t125 t126 _ ?side1 ?side2 A51.out).mono ?_); (case side1 => exact yq116); (case side2 => exact (Kd.N_reads' HO124.out).2.1); rintro e w77 ⟨v127, rfl, ho0, hb⟩; replace HO_3 := Qz.mk (Kd.N_elder' yq111 (Kd.R_base ho0) hb); replace HO124 := Qz.mk (Kd.N_elder' yq115 (Kd.R_base ho0) hb); have HO128 := Qz.mk (Kd.R_lower ho0 (qu yq110)); replace HB := Qz.mk (qm yq110 hb); have n9_ := Qz.mk (Kd.R_below yq112 hb); clear HO_4; have HO_4 := n9_; clear n9_; (try clear hb); (try clear hk); (try clear ho0)) | (go_at_call 43; (with_reducible refine (impl_EntriesOk.calls k3 _ _ t105 true _ ?side1 ?side2 A52.out).mono ?_); (case side1 => exact yq114); (case side2 => exact (Kd.R_reads' HO_4.out).2.1); rintro e w78 ⟨rfl, hb⟩; replace HO_3 := Qz.mk (Kd.N_below yq111 hb); replace HO124 := Qz.mk (Kd.N_below yq115 hb); replace HO128 := Qz.mk (Kd.R_below yq119 hb); replace HB := Qz.mk (qm yq110 hb); have n9_ := Qz.mk (Kd.R_below yq112 hb); clear HO_4; have HO_4 := n9_; clear n9_; (try clear hb); (try clear hk)))
              repeat (go_quiet (first | ((with_reducible refine qz (N := 160) rfl ?_); (try (refine gate_guard (by rfl) ?_; dsimp only)); refine Kd.N_lit k62 _ 62 ?hg (N' := 160) ?hd (xs := ([(⟨t105⟩ : S62), (⟨t105⟩ : S62)] : List (S62))) (inner := [.slice Ao37 t105.length co37, .slice Ao37 t105.length co37]) (ok := (fun k_ => some k_ ≠ (.slice Ao9 t102.length co9 : Value).ownBlock)) (okp := (fun k_ => some k_ ≠ (.slice Ao9 t102.length co9 : Value).ownBlock)) ?hr ?hp (fun _ hk => hk) ((show ∀ k_, wr.heap.size ≤ k_ → (fun k_ => some k_ ≠ (.slice Ao9 t102.length co9 : Value).ownBlock) k_ from fun k_ hk => Kd.fresh' (Kd.N_lt yq111) k_ hk) _ (Nat.le_refl _)) (Below.refl _ _) (Nat.le_refl _) (by simp) ?_; (case hd => rfl); (case hg => rfl); (case hr => exact yq130); (case hp => exact (Reps.one (show Kd.FK k62 _ _ (⟨t105⟩ : S62) [.slice Ao37 t105.length co37] from (k62_mkF _ _ (⟨t105⟩ : S62) (Kd.R_reads' (Kd.R_mono (ok' := (fun k_ => some k_ ≠ (.slice Ao9 t102.length co9 : Value).ownBlock)) (Kd.R_apart' (HO_4.out) (Kd.N_typed HO_3.out) (by decide)) (fun k_ hk => hk.2))).2.1 (Kd.R_F (Kd.R_mono (ok' := (fun k_ => some k_ ≠ (.slice Ao9 t102.length co9 : Value).ownBlock)) (Kd.R_apart' (HO_4.out) (Kd.N_typed HO_3.out) (by decide)) (fun k_ hk => hk.2))))) (Reps.one (show Kd.FK k62 _ _ (⟨t105⟩ : S62) [.slice Ao37 t105.length co37] from (k62_mkF _ _ (⟨t105⟩ : S62) (Kd.R_reads' (Kd.R_mono (ok' := (fun k_ => some k_ ≠ (.slice Ao9 t102.length co9 : Value).ownBlock)) (Kd.R_apart' (HO_4.out) (Kd.N_typed HO_3.out) (by decide)) (fun k_ hk => hk.2))).2.1 (Kd.R_F (Kd.R_mono (ok' := (fun k_ => some k_ ≠ (.slice Ao9 t102.length co9 : Value).ownBlock)) (Kd.R_apart' (HO_4.out) (Kd.N_typed HO_3.out) (by decide)) (fun k_ hk => hk.2))))) (Reps.none _ _)))); intro v123 w74 ho75 hb hg_ hnew_; clear hg_ hnew_; (first | rw [← Ny122.out] at ho75 | (simp only [Int.reduceToNat] at ho75; rw [← Ny122.out] at ho75)); replace HO_3 := Qz.mk (Kd.N_elder' yq111 (Kd.N_base ho75) hb); have HO124 := Qz.mk (Kd.N_lower ho75 (qu yq110)); replace HB := Qz.mk (qm yq110 hb); have n9_ := Qz.mk (Kd.R_below yq112 hb); clear HO_4; have HO_4 := n9_; clear n9_; clear hb ho75; obtain ⟨Ao76, co76, eo76⟩ := Kd.N_slice HO124.out; subst eo76) | (go_at_call 38; (with_reducible refine (impl_MergeRuns.calls k3 _ _ y122 t125 t126 _ ?side1 ?side2 A51.out).mono ?_); (case side1 => exact yq116); (case side2 => exact (Kd.N_reads' HO124.out).2.1); rintro e w77 ⟨v127, rfl, ho0, hb⟩; replace HO_3 := Qz.mk (Kd.N_elder' yq111 (Kd.R_base ho0) hb); replace HO124 := Qz.mk (Kd.N_elder' yq115 (Kd.R_base ho0) hb); have HO128 := Qz.mk (Kd.R_lower ho0 (qu yq110)); replace HB := Qz.mk (qm yq110 hb); have n9_ := Qz.mk (Kd.R_below yq112 hb); clear HO_4; have HO_4 := n9_; clear n9_; (try clear hb); (try clear hk); (try clear ho0)) | (go_at_call 43; (with_reducible refine (impl_EntriesOk.calls k3 _ _ t105 true _ ?side1 ?side2 A52.out).mono ?_); (case side1 => exact yq114); (case side2 => exact (Kd.R_reads' HO_4.out).2.1); rintro e w78 ⟨rfl, hb⟩; replace HO_3 := Qz.mk (Kd.N_below yq111 hb); replace HO124 := Qz.mk (Kd.N_below yq115 hb); replace HO128 := Qz.mk (Kd.R_below yq119 hb); replace HB := Qz.mk (qm yq110 hb); have n9_ := Qz.mk (Kd.R_below yq112 hb); clear HO_4; have HO_4 := n9_; clear n9_; (try clear hb); (try clear hk))); try go_wp2_with (first | ((with_reducible refine qz (N := 160) rfl ?_); (try (refine gate_guard (by rfl) ?_; dsimp only)); refine Kd.N_lit k62 _ 62 ?hg (N' := 160) ?hd (xs := ([(⟨t105⟩ : S62), (⟨t105⟩ : S62)] : List (S62))) (inner := [.slice Ao37 t105.length co37, .slice Ao37 t105.length co37]) (ok := (fun k_ => some k_ ≠ (.slice Ao9 t102.length co9 : Value).ownBlock)) (okp := (fun k_ => some k_ ≠ (.slice Ao9 t102.length co9 : Value).ownBlock)) ?hr ?hp (fun _ hk => hk) ((show ∀ k_, wr.heap.size ≤ k_ → (fun k_ => some k_ ≠ (.slice Ao9 t102.length co9 : Value).ownBlock) k_ from fun k_ hk => Kd.fresh' (Kd.N_lt yq111) k_ hk) _ (Nat.le_refl _)) (Below.refl _ _) (Nat.le_refl _) (by simp) ?_; (case hd => rfl); (case hg => rfl); (case hr => exact yq130); (case hp => exact (Reps.one (show Kd.FK k62 _ _ (⟨t105⟩ : S62) [.slice Ao37 t105.length co37] from (k62_mkF _ _ (⟨t105⟩ : S62) (Kd.R_reads' (Kd.R_mono (ok' := (fun k_ => some k_ ≠ (.slice Ao9 t102.length co9 : Value).ownBlock)) (Kd.R_apart' (HO_4.out) (Kd.N_typed HO_3.out) (by decide)) (fun k_ hk => hk.2))).2.1 (Kd.R_F (Kd.R_mono (ok' := (fun k_ => some k_ ≠ (.slice Ao9 t102.length co9 : Value).ownBlock)) (Kd.R_apart' (HO_4.out) (Kd.N_typed HO_3.out) (by decide)) (fun k_ hk => hk.2))))) (Reps.one (show Kd.FK k62 _ _ (⟨t105⟩ : S62) [.slice Ao37 t105.length co37] from (k62_mkF _ _ (⟨t105⟩ : S62) (Kd.R_reads' (Kd.R_mono (ok' := (fun k_ => some k_ ≠ (.slice Ao9 t102.length co9 : Value).ownBlock)) (Kd.R_apart' (HO_4.out) (Kd.N_typed HO_3.out) (by decide)) (fun k_ hk => hk.2))).2.1 (Kd.R_F (Kd.R_mono (ok' := (fun k_ => some k_ ≠ (.slice Ao9 t102.length co9 : Value).ownBlock)) (Kd.R_apart' (HO_4.out) (Kd.N_typed HO_3.out) (by decide)) (fun k_ hk => hk.2))))) (Reps.none _ _)))); intro v123 w74 ho75 hb hg_ hnew_; clear hg_ hnew_; (first | rw [← Ny122.out] at ho75 | (simp only [Int.reduceToNat] at ho75; rw [← Ny122.out] at ho75)); replace HO_3 := Qz.mk (Kd.N_elder' yq111 (Kd.N_base ho75) hb); have HO124 := Qz.mk (Kd.N_lower ho75 (qu yq110)); replace HB := Qz.mk (qm yq110 hb); have n9_ := Qz.mk (Kd.R_below yq112 hb); clear HO_4; have HO_4 := n9_; clear n9_; clear hb ho75; obtain ⟨Ao76, co76, eo76⟩ := Kd.N_slice HO124.out; subst eo76) | (go_at_call 38; (with_reducible refine (impl_MergeRuns.calls k3 _ _ y122 t125 t126 _ ?side1 ?side2 A51.out).mono ?_); (case side1 => exact yq116); (case side2 => exact (Kd.N_reads' HO124.out).2.1); rintro e w77 ⟨v127, rfl, ho0, hb⟩; replace HO_3 := Qz.mk (Kd.N_elder' yq111 (Kd.R_base ho0) hb); replace HO124 := Qz.mk (Kd.N_elder' yq115 (Kd.R_base ho0) hb); have HO128 := Qz.mk (Kd.R_lower ho0 (qu yq110)); replace HB := Qz.mk (qm yq110 hb); have n9_ := Qz.mk (Kd.R_below yq112 hb); clear HO_4; have HO_4 := n9_; clear n9_; (try clear hb); (try clear hk); (try clear ho0)) | (go_at_call 43; (with_reducible refine (impl_EntriesOk.calls k3 _ _ t105 true _ ?side1 ?side2 A52.out).mono ?_); (case side1 => exact yq114); (case side2 => exact (Kd.R_reads' HO_4.out).2.1); rintro e w78 ⟨rfl, hb⟩; replace HO_3 := Qz.mk (Kd.N_below yq111 hb); replace HO124 := Qz.mk (Kd.N_below yq115 hb); replace HO128 := Qz.mk (Kd.R_below yq119 hb); replace HB := Qz.mk (qm yq110 hb); have n9_ := Qz.mk (Kd.R_below yq112 hb); clear HO_4; have HO_4 := n9_; clear n9_; (try clear hb); (try clear hk))))
              go_ret
              exact ⟨by first | rfl | (simp [qq, qo] <;> rfl) | (simp [*, qq, qo] <;> rfl), by repeat (first | (with_reducible first | exact HB.out | apply qc | apply qa | apply qb) | exact HB.out)⟩
            ·replace c53 := Bool.eq_false_iff.mpr c53
             subst c53
             have H1 : (some false) = some r := by rw [if_neg (show ¬ (false = true) by decide)] at H; exact H
             clear H
             have H := H1
             clear H1
             obtain rfl := Option.some.inj H
             go_wp2_with (first | ((with_reducible refine qz (N := 160) rfl ?_); (try (refine gate_guard (by rfl) ?_; dsimp only)); refine Kd.N_lit k62 _ 62 ?hg (N' := 160) ?hd (xs := ([(⟨t105⟩ : S62), (⟨t105⟩ : S62)] : List (S62))) (inner := [.slice Ao37 t105.length co37, .slice Ao37 t105.length co37]) (ok := (fun k_ => some k_ ≠ (.slice Ao9 t102.length co9 : Value).ownBlock)) (okp := (fun k_ => some k_ ≠ (.slice Ao9 t102.length co9 : Value).ownBlock)) ?hr ?hp (fun _ hk => hk) ((show ∀ k_, wr.heap.size ≤ k_ → (fun k_ => some k_ ≠ (.slice Ao9 t102.length co9 : Value).ownBlock) k_ from fun k_ hk => Kd.fresh' (Kd.N_lt yq111) k_ hk) _ (Nat.le_refl _)) (Below.refl _ _) (Nat.le_refl _) (by simp) ?_; (case hd => rfl); (case hg => rfl); (case hr => exact yq130); (case hp => exact (Reps.one (show Kd.FK k62 _ _ (⟨t105⟩ : S62) [.slice Ao37 t105.length co37] from (k62_mkF _ _ (⟨t105⟩ : S62) (Kd.R_reads' (Kd.R_mono (ok' := (fun k_ => some k_ ≠ (.slice Ao9 t102.length co9 : Value).ownBlock)) (Kd.R_apart' (HO_4.out) (Kd.N_typed HO_3.out) (by decide)) (fun k_ hk => hk.2))).2.1 (Kd.R_F (Kd.R_mono (ok' := (fun k_ => some k_ ≠ (.slice Ao9 t102.length co9 : Value).ownBlock)) (Kd.R_apart' (HO_4.out) (Kd.N_typed HO_3.out) (by decide)) (fun k_ hk => hk.2))))) (Reps.one (show Kd.FK k62 _ _ (⟨t105⟩ : S62) [.slice Ao37 t105.length co37] from (k62_mkF _ _ (⟨t105⟩ : S62) (Kd.R_reads' (Kd.R_mono (ok' := (fun k_ => some k_ ≠ (.slice Ao9 t102.length co9 : Value).ownBlock)) (Kd.R_apart' (HO_4.out) (Kd.N_typed HO_3.out) (by decide)) (fun k_ hk => hk.2))).2.1 (Kd.R_F (Kd.R_mono (ok' := (fun k_ => some k_ ≠ (.slice Ao9 t102.length co9 : Value).ownBlock)) (Kd.R_apart' (HO_4.out) (Kd.N_typed HO_3.out) (by decide)) (fun k_ hk => hk.2))))) (Reps.none _ _)))); intro v123 w79 ho80 hb hg_ hnew_; clear hg_ hnew_; (first | rw [← Ny122.out] at ho80 | (simp only [Int.reduceToNat] at ho80; rw [← Ny122.out] at ho80)); replace HO_3 := Qz.mk (Kd.N_elder' yq111 (Kd.N_base ho80) hb); have HO124 := Qz.mk (Kd.N_lower ho80 (qu yq110)); replace HB := Qz.mk (qm yq110 hb); have n9_ := Qz.mk (Kd.R_below yq112 hb); clear HO_4; have HO_4 := n9_; clear n9_; clear hb ho80; obtain ⟨Ao81, co81, eo81⟩ := Kd.N_slice HO124.out; subst eo81) | (go_at_call 38; (with_reducible refine (impl_MergeRuns.calls k3 _ _ y122 t125 t126 _ ?side1 ?side2 A51.out).mono ?_); (case side1 => exact yq116); (case side2 => exact (Kd.N_reads' HO124.out).2.1); rintro e w82 ⟨v127, rfl, ho0, hb⟩; replace HO_3 := Qz.mk (Kd.N_elder' yq111 (Kd.R_base ho0) hb); replace HO124 := Qz.mk (Kd.N_elder' yq115 (Kd.R_base ho0) hb); have HO128 := Qz.mk (Kd.R_lower ho0 (qu yq110)); replace HB := Qz.mk (qm yq110 hb); have n9_ := Qz.mk (Kd.R_below yq112 hb); clear HO_4; have HO_4 := n9_; clear n9_; (try clear hb); (try clear hk); (try clear ho0)) | (go_at_call 43; (with_reducible refine (impl_EntriesOk.calls k3 _ _ t105 false _ ?side1 ?side2 A52.out).mono ?_); (case side1 => exact yq114); (case side2 => exact (Kd.R_reads' HO_4.out).2.1); rintro e w83 ⟨rfl, hb⟩; replace HO_3 := Qz.mk (Kd.N_below yq111 hb); replace HO124 := Qz.mk (Kd.N_below yq115 hb); replace HO128 := Qz.mk (Kd.R_below yq119 hb); replace HB := Qz.mk (qm yq110 hb); have n9_ := Qz.mk (Kd.R_below yq112 hb); clear HO_4; have HO_4 := n9_; clear n9_; (try clear hb); (try clear hk)))
             repeat (go_quiet (first | ((with_reducible refine qz (N := 160) rfl ?_); (try (refine gate_guard (by rfl) ?_; dsimp only)); refine Kd.N_lit k62 _ 62 ?hg (N' := 160) ?hd (xs := ([(⟨t105⟩ : S62), (⟨t105⟩ : S62)] : List (S62))) (inner := [.slice Ao37 t105.length co37, .slice Ao37 t105.length co37]) (ok := (fun k_ => some k_ ≠ (.slice Ao9 t102.length co9 : Value).ownBlock)) (okp := (fun k_ => some k_ ≠ (.slice Ao9 t102.length co9 : Value).ownBlock)) ?hr ?hp (fun _ hk => hk) ((show ∀ k_, wr.heap.size ≤ k_ → (fun k_ => some k_ ≠ (.slice Ao9 t102.length co9 : Value).ownBlock) k_ from fun k_ hk => Kd.fresh' (Kd.N_lt yq111) k_ hk) _ (Nat.le_refl _)) (Below.refl _ _) (Nat.le_refl _) (by simp) ?_; (case hd => rfl); (case hg => rfl); (case hr => exact yq130); (case hp => exact (Reps.one (show Kd.FK k62 _ _ (⟨t105⟩ : S62) [.slice Ao37 t105.length co37] from (k62_mkF _ _ (⟨t105⟩ : S62) (Kd.R_reads' (Kd.R_mono (ok' := (fun k_ => some k_ ≠ (.slice Ao9 t102.length co9 : Value).ownBlock)) (Kd.R_apart' (HO_4.out) (Kd.N_typed HO_3.out) (by decide)) (fun k_ hk => hk.2))).2.1 (Kd.R_F (Kd.R_mono (ok' := (fun k_ => some k_ ≠ (.slice Ao9 t102.length co9 : Value).ownBlock)) (Kd.R_apart' (HO_4.out) (Kd.N_typed HO_3.out) (by decide)) (fun k_ hk => hk.2))))) (Reps.one (show Kd.FK k62 _ _ (⟨t105⟩ : S62) [.slice Ao37 t105.length co37] from (k62_mkF _ _ (⟨t105⟩ : S62) (Kd.R_reads' (Kd.R_mono (ok' := (fun k_ => some k_ ≠ (.slice Ao9 t102.length co9 : Value).ownBlock)) (Kd.R_apart' (HO_4.out) (Kd.N_typed HO_3.out) (by decide)) (fun k_ hk => hk.2))).2.1 (Kd.R_F (Kd.R_mono (ok' := (fun k_ => some k_ ≠ (.slice Ao9 t102.length co9 : Value).ownBlock)) (Kd.R_apart' (HO_4.out) (Kd.N_typed HO_3.out) (by decide)) (fun k_ hk => hk.2))))) (Reps.none _ _)))); intro v123 w79 ho80 hb hg_ hnew_; clear hg_ hnew_; (first | rw [← Ny122.out] at ho80 | (simp only [Int.reduceToNat] at ho80; rw [← Ny122.out] at ho80)); replace HO_3 := Qz.mk (Kd.N_elder' yq111 (Kd.N_base ho80) hb); have HO124 := Qz.mk (Kd.N_lower ho80 (qu yq110)); replace HB := Qz.mk (qm yq110 hb); have n9_ := Qz.mk (Kd.R_below yq112 hb); clear HO_4; have HO_4 := n9_; clear n9_; clear hb ho80; obtain ⟨Ao81, co81, eo81⟩ := Kd.N_slice HO124.out; subst eo81) | (go_at_call 38; (with_reducible refine (impl_MergeRuns.calls k3 _ _ y122 t125 t126 _ ?side1 ?side2 A51.out).mono ?_); (case side1 => exact yq116); (case side2 => exact (Kd.N_reads' HO124.out).2.1); rintro e w82 ⟨v127, rfl, ho0, hb⟩; replace HO_3 := Qz.mk (Kd.N_elder' yq111 (Kd.R_base ho0) hb); replace HO124 := Qz.mk (Kd.N_elder' yq115 (Kd.R_base ho0) hb); have HO128 := Qz.mk (Kd.R_lower ho0 (qu yq110)); replace HB := Qz.mk (qm yq110 hb); have n9_ := Qz.mk (Kd.R_below yq112 hb); clear HO_4; have HO_4 := n9_; clear n9_; (try clear hb); (try clear hk); (try clear ho0)) | (go_at_call 43; (with_reducible refine (impl_EntriesOk.calls k3 _ _ t105 false _ ?side1 ?side2 A52.out).mono ?_); (case side1 => exact yq114); (case side2 => exact (Kd.R_reads' HO_4.out).2.1); rintro e w83 ⟨rfl, hb⟩; replace HO_3 := Qz.mk (Kd.N_below yq111 hb); replace HO124 := Qz.mk (Kd.N_below yq115 hb); replace HO128 := Qz.mk (Kd.R_below yq119 hb); replace HB := Qz.mk (qm yq110 hb); have n9_ := Qz.mk (Kd.R_below yq112 hb); clear HO_4; have HO_4 := n9_; clear n9_; (try clear hb); (try clear hk))); try go_wp2_with (first | ((with_reducible refine qz (N := 160) rfl ?_); (try (refine gate_guard (by rfl) ?_; dsimp only)); refine Kd.N_lit k62 _ 62 ?hg (N' := 160) ?hd (xs := ([(⟨t105⟩ : S62), (⟨t105⟩ : S62)] : List (S62))) (inner := [.slice Ao37 t105.length co37, .slice Ao37 t105.length co37]) (ok := (fun k_ => some k_ ≠ (.slice Ao9 t102.length co9 : Value).ownBlock)) (okp := (fun k_ => some k_ ≠ (.slice Ao9 t102.length co9 : Value).ownBlock)) ?hr ?hp (fun _ hk => hk) ((show ∀ k_, wr.heap.size ≤ k_ → (fun k_ => some k_ ≠ (.slice Ao9 t102.length co9 : Value).ownBlock) k_ from fun k_ hk => Kd.fresh' (Kd.N_lt yq111) k_ hk) _ (Nat.le_refl _)) (Below.refl _ _) (Nat.le_refl _) (by simp) ?_; (case hd => rfl); (case hg => rfl); (case hr => exact yq130); (case hp => exact (Reps.one (show Kd.FK k62 _ _ (⟨t105⟩ : S62) [.slice Ao37 t105.length co37] from (k62_mkF _ _ (⟨t105⟩ : S62) (Kd.R_reads' (Kd.R_mono (ok' := (fun k_ => some k_ ≠ (.slice Ao9 t102.length co9 : Value).ownBlock)) (Kd.R_apart' (HO_4.out) (Kd.N_typed HO_3.out) (by decide)) (fun k_ hk => hk.2))).2.1 (Kd.R_F (Kd.R_mono (ok' := (fun k_ => some k_ ≠ (.slice Ao9 t102.length co9 : Value).ownBlock)) (Kd.R_apart' (HO_4.out) (Kd.N_typed HO_3.out) (by decide)) (fun k_ hk => hk.2))))) (Reps.one (show Kd.FK k62 _ _ (⟨t105⟩ : S62) [.slice Ao37 t105.length co37] from (k62_mkF _ _ (⟨t105⟩ : S62) (Kd.R_reads' (Kd.R_mono (ok' := (fun k_ => some k_ ≠ (.slice Ao9 t102.length co9 : Value).ownBlock)) (Kd.R_apart' (HO_4.out) (Kd.N_typed HO_3.out) (by decide)) (fun k_ hk => hk.2))).2.1 (Kd.R_F (Kd.R_mono (ok' := (fun k_ => some k_ ≠ (.slice Ao9 t102.length co9 : Value).ownBlock)) (Kd.R_apart' (HO_4.out) (Kd.N_typed HO_3.out) (by decide)) (fun k_ hk => hk.2))))) (Reps.none _ _)))); intro v123 w79 ho80 hb hg_ hnew_; clear hg_ hnew_; (first | rw [← Ny122.out] at ho80 | (simp only [Int.reduceToNat] at ho80; rw [← Ny122.out] at ho80)); replace HO_3 := Qz.mk (Kd.N_elder' yq111 (Kd.N_base ho80) hb); have HO124 := Qz.mk (Kd.N_lower ho80 (qu yq110)); replace HB := Qz.mk (qm yq110 hb); have n9_ := Qz.mk (Kd.R_below yq112 hb); clear HO_4; have HO_4 := n9_; clear n9_; clear hb ho80; obtain ⟨Ao81, co81, eo81⟩ := Kd.N_slice HO124.out; subst eo81) | (go_at_call 38; (with_reducible refine (impl_MergeRuns.calls k3 _ _ y122 t125 t126 _ ?side1 ?side2 A51.out).mono ?_); (case side1 => exact yq116); (case side2 => exact (Kd.N_reads' HO124.out).2.1); rintro e w82 ⟨v127, rfl, ho0, hb⟩; replace HO_3 := Qz.mk (Kd.N_elder' yq111 (Kd.R_base ho0) hb); replace HO124 := Qz.mk (Kd.N_elder' yq115 (Kd.R_base ho0) hb); have HO128 := Qz.mk (Kd.R_lower ho0 (qu yq110)); replace HB := Qz.mk (qm yq110 hb); have n9_ := Qz.mk (Kd.R_below yq112 hb); clear HO_4; have HO_4 := n9_; clear n9_; (try clear hb); (try clear hk); (try clear ho0)) | (go_at_call 43; (with_reducible refine (impl_EntriesOk.calls k3 _ _ t105 false _ ?side1 ?side2 A52.out).mono ?_); (case side1 => exact yq114); (case side2 => exact (Kd.R_reads' HO_4.out).2.1); rintro e w83 ⟨rfl, hb⟩; replace HO_3 := Qz.mk (Kd.N_below yq111 hb); replace HO124 := Qz.mk (Kd.N_below yq115 hb); replace HO128 := Qz.mk (Kd.R_below yq119 hb); replace HB := Qz.mk (qm yq110 hb); have n9_ := Qz.mk (Kd.R_below yq112 hb); clear HO_4; have HO_4 := n9_; clear n9_; (try clear hb); (try clear hk))))
             go_ret
             exact ⟨by first | rfl | (simp [qq, qo] <;> rfl) | (simp [*, qq, qo] <;> rfl), by repeat (first | (with_reducible first | exact HB.out | apply qc | apply qa | apply qb) | exact HB.out)⟩
     ·replace c22 := Bool.eq_false_iff.mpr c22
      subst c22
      have H1 : (some true) = some r := by rw [if_neg (show ¬ (false = true) by decide)] at H; exact H
      clear H
      have H := H1
      clear H1
      obtain rfl := Option.some.inj H
      go_wp2
      repeat (go_quiet (fail); try go_wp2)
      go_ret
      exact ⟨by first | rfl | (simp [qq, qo] <;> rfl) | (simp [*, qq, qo] <;> rfl), by repeat (first | (with_reducible first | exact HB.out | apply qc | apply qa | apply qb) | exact HB.out)⟩
def laws_FnMerged.Pure : Prop := ∀ (l0 : List Int), l0.length ≤ maxLen → l0.length * 1 ≤ 140737488351232 → (∀ x ∈ l0, (Lit.int .u8 x).wf = true) → ∃ k, laws_FnMerged.f k l0 = some true
theorem laws_FnMerged.walk (P : laws_FnMerged.Pure) (a0 : Option Addr) (len0 cap0 : Nat) (z0 : List Int) (w : World) (w0 : (a0 = none ∧ len0 = 0 ∧ cap0 = 0 ∧ z0 = []) ∨ ∃ x, a0 = some x ∧ len0 ≤ cap0 ∧ cap0 ≤ maxLen ∧ z0.length = cap0 ∧ (∀ i, i < z0.length → w.cell? (x.add i) = some (.int .u8 (z0.getD i 0))) ∧ ∀ n ∈ z0, (Lit.int .u8 n).wf = true) (y0 : len0 * 1 ≤ 140737488351232) :
  Calls Try.prog 10 #[.slice a0 len0 cap0] w fun e w' => e = .returned (.bool true) ∧ Below w.heap.size w w' := by
 obtain ⟨l0, rfl, hr0, hm0, hw0, hc0⟩ := ReadsInt.ofRowC w0
 obtain ⟨k, h⟩ := P l0 hm0 y0 hw0
 refine (laws_FnMerged.calls k _ _ l0 true w (Kd.C_of_reads (d := (0 : Int)) (h1 := fun _ => rfl) hr0) hc0 h).mono ?_
 rintro e w' ⟨rfl, hd⟩
 exact ⟨rfl, hd⟩
end Go.Proofs.Ytidjdkodgddfcaa.P
end
