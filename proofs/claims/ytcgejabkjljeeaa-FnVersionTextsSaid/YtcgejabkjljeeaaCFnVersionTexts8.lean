/- Proved: the law FnVersionTexts of the given program returns true for every input of its Go types and leaves each argument as it was; no condition. (Part 9 of 15.) -/
import Derived.Test.YtcgejabkjljeeaaCFnVersionTexts4
import Derived.Test.YtcgejabkjljeeaaCFnVersionTexts7
import Derived.Test.YtcgejabkjljeeaaCFnVersionTexts6
section
namespace Go.Proofs.Ytcgejabkjljeeaa.P
open Go.RowKit Go.Proofs.YtcgejabkjljeeaaW.PrintWords Go.Proofs.YtcgejabkjljeeaaW.PrintLast Go.Proofs.YtcgejabkjljeeaaW.PrintMore
attribute [local go_sem] qk1 qj1 ql1 qf1 qd1 qn1 qm1 qa1 qz qe1 qc1
set_option linter.unusedVariables false
set_option linter.unusedSimpArgs false
theorem yq36 {P : Prop} (h : P := by (with_reducible repeat (first | refine qc ?_ _ | refine qf ?_ | refine qa ?_ _)); refine qw (cs := #[.slice none 0 0, .int .i64 0, .int .i64 0, .int .i64 x102003_3]) ?_ 3 _ rfl; (with_reducible repeat (first | refine qc ?_ _ | refine qf ?_ | refine qa ?_ _)); refine qw (cs := #[.slice none 0 0, .int .i64 0, .int .i64 x102002_3, .int .i64 x102003_3]) ?_ 2 _ rfl; (with_reducible repeat (first | refine qc ?_ _ | refine qf ?_ | refine qa ?_ _)); refine qw (cs := #[.slice none 0 0, .int .i64 x102001_3, .int .i64 x102002_3, .int .i64 x102003_3]) ?_ 1 _ rfl; (with_reducible repeat (first | refine qc ?_ _ | refine qf ?_ | refine qa ?_ _)); refine qw (cs := #[.slice none 0 0, .int .i64 x102001_3, .int .i64 x102002_3, .int .i64 x102003_3]) ?_ 0 _ rfl; (with_reducible repeat (first | refine qc ?_ _ | refine qf ?_ | refine qa ?_ _)); exact BK101.out) : P := h
theorem yq37 {P : Prop} (h : P := by repeat (first | (with_reducible first | exact HB.out | apply qi | apply qd | apply qh | refine qe ?_ GE101.out | refine qe ?_ GE117.out) | exact HB.out)) : P := h
theorem yq38 {P : Prop} (h : P := by (with_reducible repeat (first | refine qc ?_ _ | refine qf ?_ | refine qa ?_ _)); exact BK101.out) : P := h
theorem yq39 {P : Prop} (h : P := by (with_reducible repeat (first | apply Kd.R_alloc | apply Kd.R_drewN | apply Kd.R_drew)); exact HO_118000.out) : P := h
theorem yq40 {P : Prop} (h : P := by (with_reducible repeat (first | refine qc ?_ _ | refine qf ?_ | refine qa ?_ _)); exact BK117.out) : P := h
theorem yq41 {P : Prop} (h : P := by (try simp only [List.map_toArray, List.map_cons, List.map_nil]); first | done | rfl) : P := h
theorem yq42 {P : Prop} (h : P := by (with_reducible repeat (first | refine qc ?_ _ | refine qf ?_ | refine qa ?_ _)); refine qw (cs := #[.slice none 0 0, .int .i64 0, .int .i64 0, .int .i64 0]) ?_ 3 _ rfl; (with_reducible repeat (first | refine qc ?_ _ | refine qf ?_ | refine qa ?_ _)); refine qw (cs := #[.slice none 0 0, .int .i64 0, .int .i64 0, .int .i64 0]) ?_ 2 _ rfl; (with_reducible repeat (first | refine qc ?_ _ | refine qf ?_ | refine qa ?_ _)); refine qw (cs := #[.slice none 0 0, .int .i64 0, .int .i64 0, .int .i64 0]) ?_ 1 _ rfl; (with_reducible repeat (first | refine qc ?_ _ | refine qf ?_ | refine qa ?_ _)); refine qw (cs := #[.slice none 0 0, .int .i64 0, .int .i64 0, .int .i64 0]) ?_ 0 _ rfl; (with_reducible repeat (first | refine qc ?_ _ | refine qf ?_ | refine qa ?_ _)); exact BK101.out) : P := h
theorem yq43 {P : Prop} (h : P := by first | rfl | (simp; done) | (simp [*]; done)) : P := h
theorem yq44 {P : Prop} (h : P := by repeat (first | (with_reducible first | exact HB.out | apply qi | apply qd | apply qh | refine qe ?_ GE101.out) | exact HB.out)) : P := h
mutual
def spec_ReadVersion.j0 : Nat → ByteArray → Bool → Option ((List (S66)) × Int × Int × Int × Bool)
 | 0, _, _ => none
 | k + 1, x4, x47 => if x47 = true then (some (([] : List (S66)), 0, 0, 0, false)) else ((spec_l12Int.f k x4).bind fun bt105 => ((spec_l12Int.f k bt105.2.1).bind fun bt108 => ((spec_l12Int.f k bt108.2.1).bind fun bt111 => ((spec_l12Int.f k bt111.2.1).bind fun bt114 => (if bt105.2.2 = true then (if bt108.2.2 = true then (if bt111.2.2 = true then (if bt114.2.2 = true then (spec_ReadVersion.j1 k bt105.1 bt108.1 bt111.1 bt114.1 bt114.2.1 (decide (bt114.1 > 30))) else (spec_ReadVersion.j1 k bt105.1 bt108.1 bt111.1 bt114.1 bt114.2.1 true)) else (spec_ReadVersion.j1 k bt105.1 bt108.1 bt111.1 bt114.1 bt114.2.1 true)) else (spec_ReadVersion.j1 k bt105.1 bt108.1 bt111.1 bt114.1 bt114.2.1 true)) else (spec_ReadVersion.j1 k bt105.1 bt108.1 bt111.1 bt114.1 bt114.2.1 true))))))
def spec_ReadVersion.j1 : Nat → Int → Int → Int → Int → ByteArray → Bool → Option ((List (S66)) × Int × Int × Int × Bool)
 | 0, _, _, _, _, _, _ => none
 | k + 1, x6, x9, x12, x15, x16, x90 => if x90 = true then (some (([] : List (S66)), 0, 0, 0, false)) else (spec_ReadVersion.l0 k x15 x16 0 ([] : List (S66)) x6 x9 x12)
def spec_ReadVersion.l0 : Nat → Int → ByteArray → Int → List (S66) → Int → Int → Int → Option ((List (S66)) × Int × Int × Int × Bool)
 | 0, _, _, _, _, _, _, _ => none
 | k + 1, x15, x16, x19, x118000, x118001, x118002, x118003 => if x19 < x15 then ((spec_l12Int.f k x16).bind fun bt119 => ((spec_l12Int.f k bt119.2.1).bind fun bt122 => ((spec_TakeText.f k bt122.2.1).bind fun bt125 => ((spec_TakeText.f k bt125.2.1).bind fun bt128 => ((spec_l12Int.f k bt128.2.1).bind fun bt131 => (if bt119.2.2 = true then (if bt122.2.2 = true then (if bt125.2.2 = true then (if bt128.2.2 = true then (if bt131.2.2 = true then (if x118000.length < 2513169434916 then (spec_ReadVersion.l0 k x15 bt131.2.1 (wrap64 (x19 + 1)) (x118000 ++ [(⟨bt119.1, bt122.1, bt125.1, bt128.1, bt131.1⟩ : S66)]) x118001 x118002 x118003) else (none)) else (some (([] : List (S66)), 0, 0, 0, false))) else (some (([] : List (S66)), 0, 0, 0, false))) else (some (([] : List (S66)), 0, 0, 0, false))) else (some (([] : List (S66)), 0, 0, 0, false))) else (some (([] : List (S66)), 0, 0, 0, false)))))))) else (if x16.toList = ([] : List UInt8) then ((spec_VersionOk.f k x118000 x118001 x118002 x118003).bind fun t118 => (if t118 = true then (some (x118000, x118001, x118002, x118003, true)) else (some (([] : List (S66)), 0, 0, 0, false)))) else (some (([] : List (S66)), 0, 0, 0, false)))
end
def spec_ReadVersion.f (k : Nat) (a0 : ByteArray) : Option ((List (S66)) × Int × Int × Int × Bool) := (spec_l10Take.f k a0 0).bind fun bt102 => (if bt102.2 = true then ((spec_l10Section.f k bt102.1).bind fun t104 => (spec_ReadVersion.j0 k bt102.1 (t104.toList != a0.toList))) else (spec_ReadVersion.j0 k bt102.1 true))
set_option maxHeartbeats 8000000 in
set_option maxRecDepth 100000 in
theorem spec_ReadVersion.calls (k : Nat) (a0 : ByteArray) (r1 : List (S66)) (r2 : Int) (r3 : Int) (r4 : Int) (r5 : Bool) (w : World) (h : spec_ReadVersion.f k a0 = some (r1, r2, r3, r4, r5)) :
  Calls Try.prog 47 #[.string a0] w fun e w' => ∃ v0_ : Value, e = .returned (.tuple #[.agg #[v0_, .int .i64 r2, .int .i64 r3, .int .i64 r4], .bool r5]) ∧ Kd.R k66 66 w' w.heap.size (fun _ => True) v0_ r1 ∧ Below w.heap.size w w' := by
 have hu32 := Try.underlying32
 have hu66 := Try.underlying66
 have HB := Qz.mk (Below.refl w.heap.size w)
 have H : ((spec_l10Take.f k a0 0).bind fun bt102 => (if bt102.2 = true then ((spec_l10Section.f k bt102.1).bind fun t104 => (spec_ReadVersion.j0 k bt102.1 (t104.toList != a0.toList))) else (spec_ReadVersion.j0 k bt102.1 true))) = some (r1, r2, r3, r4, r5) := h
 clear h
 replace H := Option.bind_eq_some_iff.mp H
 obtain ⟨⟨t102, t103⟩, A20, H⟩ := H
 replace H : (if t103 = true then ((spec_l10Section.f k t102).bind fun t104 => (spec_ReadVersion.j0 k t102 (t104.toList != a0.toList))) else (spec_ReadVersion.j0 k t102 true)) = some (r1, r2, r3, r4, r5) := H
 have A2 := Qz.mk A20
 clear A20
 have HC3 := Qz.mk H
 clear H
 go_enter Try.func47, Try.ntmps47
 go_upto_region 2 with (first | ((with_reducible refine gate_dst (N := 2) rfl ?_); refine box_event ?hg (N := 2) ?hd (cs := #[.slice none 0 0, .int .i64 0, .int .i64 0, .int .i64 0]) (t := 32) ?hr ?_; (case hd => rfl); (case hg => rfl); (case hr => first | (go_simp; done) | (go_simp; rfl)); intro gb101 hg w4 hbox hb; have BK101 := Qz.mk (hbox); have GW101 := Qz.mk ((by rw [hg]; exact (qb1 (by repeat (first | (with_reducible first | exact HB.out | apply qi | apply qd | apply qh) | exact HB.out))) : w.heap.size ≤ gb101)); have GE101 := GW101; replace HB := Qz.mk (qq (by repeat (first | (with_reducible first | exact HB.out | apply qi | apply qd | apply qh) | exact HB.out)) hb); clear hb hbox hg) | ((with_reducible refine qm (f := 81) rfl ?_); refine qy (some 37) rfl rfl Try.func81 (by kernel_rfl) rfl #[.string a0, .int .i64 0] rfl yq41 ?_; (with_reducible refine (spec_l10Take.calls k a0 0 t102 t103 _ A2.out).mono ?_); rintro e w' ⟨rfl, ⟨nd, rfl⟩⟩; refine ⟨_, rfl, ?_⟩))
 (try simp only [Act.put, sq1, sq2, sq3])
 go_cut [47] (fun v47 wc => ∃ (kq : Nat) (x47_2 : Bool), v47 = .bool x47_2 ∧ Qz (spec_ReadVersion.j0 kq t102 x47_2 = some (r1, r2, r3, r4, r5)) ∧ Qz (kq ≤ k) ∧ Qz (wc.heap[gb101]? = some (.cells #[(.slice none 0 0), .int .i64 0, .int .i64 0, .int .i64 0] 32 (0, 0))) ∧ Qz (Below w.heap.size w wc))
 case first =>
  have H := HC3.out
  clear HC3
  by_cases c5 : t103 = true
  ·subst c5
   have H1 : ((spec_l10Section.f k t102).bind fun t104 => (spec_ReadVersion.j0 k t102 (t104.toList != a0.toList))) = some (r1, r2, r3, r4, r5) := by rw [if_pos rfl] at H; exact H
   clear H
   have H := H1
   clear H1
   replace H := Option.bind_eq_some_iff.mp H
   obtain ⟨t104, A60, H⟩ := H
   replace H : (spec_ReadVersion.j0 k t102 (t104.toList != a0.toList)) = some (r1, r2, r3, r4, r5) := H
   have A6 := Qz.mk A60
   clear A60
   have H' := Qz.mk H
   clear H
   go_wp2_with (first | (go_at_call 78; (with_reducible refine (spec_l10Section.calls k t102 t104 _ A6.out).mono ?_); rintro e w7 ⟨rfl, hb⟩; replace BK101 := Qz.mk (qu (g := gb101) (o := .cells #[.slice none 0 0, .int .i64 0, .int .i64 0, .int .i64 0] 32 (0, 0)) yq38 hb); replace HB := Qz.mk (qq yq44 hb); (try clear hb); (try clear hk)))
   go_meet
   case rel => exact ⟨_, ((t104.toList != a0.toList)), yq43, H', ⟨by first | omega | exact Nat.le_refl _⟩, ⟨by (with_reducible repeat (first | refine qc ?_ _ | refine qf ?_ | refine qa ?_ _)); exact BK101.out⟩, ⟨by repeat (first | (with_reducible first | exact HB.out | apply qi | apply qd | apply qh | refine qe ?_ GE101.out) | exact HB.out)⟩⟩
  ·replace c5 := Bool.eq_false_iff.mpr c5
   subst c5
   have H1 : (spec_ReadVersion.j0 k t102 true) = some (r1, r2, r3, r4, r5) := by rw [if_neg (show ¬ (false = true) by decide)] at H; exact H
   clear H
   have H := H1
   clear H1
   have H' := Qz.mk H
   clear H
   go_wp2
   go_meet
   case rel => exact ⟨_, (true), yq43, H', ⟨by first | omega | exact Nat.le_refl _⟩, ⟨by (with_reducible repeat (first | refine qc ?_ _ | refine qf ?_ | refine qa ?_ _)); exact BK101.out⟩, ⟨by repeat (first | (with_reducible first | exact HB.out | apply qi | apply qd | apply qh | refine qe ?_ GE101.out) | exact HB.out)⟩⟩
 case rest =>
  clear HC3
  (try clear p2);(try clear c4);(try clear c5)
  obtain ⟨kq, x47_2, rfl, HA, HJ2, BK101, HB⟩ := hcut
  cases kq with
  | zero => exact absurd HA.out (by simp [spec_ReadVersion.j0])
  | succ kj2 =>
   have H := HA.out
   clear HA
   simp only [spec_ReadVersion.j0] at H
   by_cases c8 : x47_2 = true
   ·subst c8
    have H1 : (some (([] : List (S66)), 0, 0, 0, false)) = some (r1, r2, r3, r4, r5) := by rw [if_pos rfl] at H; exact H
    clear H
    have H := H1
    clear H1
    simp only [Option.some.injEq, Prod.mk.injEq] at H
    obtain ⟨rfl, rfl, rfl, rfl, rfl⟩ := H
    have hcz9_0 := (qg BK101.out 0).trans rfl
    have hcz9_1 := (qg BK101.out 1).trans rfl
    have hcz9_2 := (qg BK101.out 2).trans rfl
    have hcz9_3 := (qg BK101.out 3).trans rfl
    have hfz9_0 := qj BK101.out 0
    have hfz9_1 := qj BK101.out 1
    have hfz9_2 := qj BK101.out 2
    have hfz9_3 := qj BK101.out 3
    go_wp2
    refine bodyPost_ret (results_ct rfl _ _ gb101 32 #[.slice none 0 0, .int .i64 0, .int .i64 0, .int .i64 0] (0, 0) _ rfl yq42 Try.underlying32 rfl (by kernel_rfl)) rfl ?_
    exact ⟨_, by first | rfl | (simp [qt, qr] <;> rfl) | (simp [*, qt, qr] <;> rfl), by first | exact Kd.R_nil _ _ _ _ _ | exact Kd.N_nil _ _ _ _ _ | exact Kd.V_nil _ _ _ _ _ | exact Kd.Q_nil _ _ _ _ _ | exact Kd.S_nil _ _ _ _ _, by repeat (first | (with_reducible first | exact HB.out | apply qi | apply qd | apply qh | refine qe ?_ GE101.out) | exact HB.out)⟩
   ·replace c8 := Bool.eq_false_iff.mpr c8
    subst c8
    have H1 : ((spec_l12Int.f kj2 t102).bind fun bt105 => ((spec_l12Int.f kj2 bt105.2.1).bind fun bt108 => ((spec_l12Int.f kj2 bt108.2.1).bind fun bt111 => ((spec_l12Int.f kj2 bt111.2.1).bind fun bt114 => (if bt105.2.2 = true then (if bt108.2.2 = true then (if bt111.2.2 = true then (if bt114.2.2 = true then (spec_ReadVersion.j1 kj2 bt105.1 bt108.1 bt111.1 bt114.1 bt114.2.1 (decide (bt114.1 > 30))) else (spec_ReadVersion.j1 kj2 bt105.1 bt108.1 bt111.1 bt114.1 bt114.2.1 true)) else (spec_ReadVersion.j1 kj2 bt105.1 bt108.1 bt111.1 bt114.1 bt114.2.1 true)) else (spec_ReadVersion.j1 kj2 bt105.1 bt108.1 bt111.1 bt114.1 bt114.2.1 true)) else (spec_ReadVersion.j1 kj2 bt105.1 bt108.1 bt111.1 bt114.1 bt114.2.1 true)))))) = some (r1, r2, r3, r4, r5) := by rw [if_neg (show ¬ (false = true) by decide)] at H; exact H
    clear H
    have H := H1
    clear H1
    replace H := Option.bind_eq_some_iff.mp H
    obtain ⟨⟨t105, t106, t107⟩, A100, H⟩ := H
    replace H : ((spec_l12Int.f kj2 t106).bind fun bt108 => ((spec_l12Int.f kj2 bt108.2.1).bind fun bt111 => ((spec_l12Int.f kj2 bt111.2.1).bind fun bt114 => (if t107 = true then (if bt108.2.2 = true then (if bt111.2.2 = true then (if bt114.2.2 = true then (spec_ReadVersion.j1 kj2 t105 bt108.1 bt111.1 bt114.1 bt114.2.1 (decide (bt114.1 > 30))) else (spec_ReadVersion.j1 kj2 t105 bt108.1 bt111.1 bt114.1 bt114.2.1 true)) else (spec_ReadVersion.j1 kj2 t105 bt108.1 bt111.1 bt114.1 bt114.2.1 true)) else (spec_ReadVersion.j1 kj2 t105 bt108.1 bt111.1 bt114.1 bt114.2.1 true)) else (spec_ReadVersion.j1 kj2 t105 bt108.1 bt111.1 bt114.1 bt114.2.1 true))))) = some (r1, r2, r3, r4, r5) := H
    have A10 := Qz.mk A100
    clear A100
    replace H := Option.bind_eq_some_iff.mp H
    obtain ⟨⟨t108, t109, t110⟩, A110, H⟩ := H
    replace H : ((spec_l12Int.f kj2 t109).bind fun bt111 => ((spec_l12Int.f kj2 bt111.2.1).bind fun bt114 => (if t107 = true then (if t110 = true then (if bt111.2.2 = true then (if bt114.2.2 = true then (spec_ReadVersion.j1 kj2 t105 t108 bt111.1 bt114.1 bt114.2.1 (decide (bt114.1 > 30))) else (spec_ReadVersion.j1 kj2 t105 t108 bt111.1 bt114.1 bt114.2.1 true)) else (spec_ReadVersion.j1 kj2 t105 t108 bt111.1 bt114.1 bt114.2.1 true)) else (spec_ReadVersion.j1 kj2 t105 t108 bt111.1 bt114.1 bt114.2.1 true)) else (spec_ReadVersion.j1 kj2 t105 t108 bt111.1 bt114.1 bt114.2.1 true)))) = some (r1, r2, r3, r4, r5) := H
    have A11 := Qz.mk A110
    clear A110
    replace H := Option.bind_eq_some_iff.mp H
    obtain ⟨⟨t111, t112, t113⟩, A120, H⟩ := H
    replace H : ((spec_l12Int.f kj2 t112).bind fun bt114 => (if t107 = true then (if t110 = true then (if t113 = true then (if bt114.2.2 = true then (spec_ReadVersion.j1 kj2 t105 t108 t111 bt114.1 bt114.2.1 (decide (bt114.1 > 30))) else (spec_ReadVersion.j1 kj2 t105 t108 t111 bt114.1 bt114.2.1 true)) else (spec_ReadVersion.j1 kj2 t105 t108 t111 bt114.1 bt114.2.1 true)) else (spec_ReadVersion.j1 kj2 t105 t108 t111 bt114.1 bt114.2.1 true)) else (spec_ReadVersion.j1 kj2 t105 t108 t111 bt114.1 bt114.2.1 true))) = some (r1, r2, r3, r4, r5) := H
    have A12 := Qz.mk A120
    clear A120
    replace H := Option.bind_eq_some_iff.mp H
    obtain ⟨⟨t114, t115, t116⟩, A130, H⟩ := H
    replace H : (if t107 = true then (if t110 = true then (if t113 = true then (if t116 = true then (spec_ReadVersion.j1 kj2 t105 t108 t111 t114 t115 (decide (t114 > 30))) else (spec_ReadVersion.j1 kj2 t105 t108 t111 t114 t115 true)) else (spec_ReadVersion.j1 kj2 t105 t108 t111 t114 t115 true)) else (spec_ReadVersion.j1 kj2 t105 t108 t111 t114 t115 true)) else (spec_ReadVersion.j1 kj2 t105 t108 t111 t114 t115 true)) = some (r1, r2, r3, r4, r5) := H
    have A13 := Qz.mk A130
    clear A130
    have HC14 := Qz.mk H
    clear H
    go_upto_region 8 with (first | ((with_reducible refine qm (f := 82) rfl ?_); refine qy (some 51) rfl rfl Try.func82 (by kernel_rfl) rfl #[.string t102] rfl yq41 ?_; (with_reducible refine (spec_l12Int.calls kj2 t102 t105 t106 t107 _ A10.out).mono ?_); rintro e w' ⟨rfl, ⟨nd, rfl⟩⟩; refine ⟨_, rfl, ?_⟩) | ((with_reducible refine qm (f := 82) rfl ?_); refine qy (some 57) rfl rfl Try.func82 (by kernel_rfl) rfl #[.string t106] rfl yq41 ?_; (with_reducible refine (spec_l12Int.calls kj2 t106 t108 t109 t110 _ A11.out).mono ?_); rintro e w' ⟨rfl, ⟨nd, rfl⟩⟩; refine ⟨_, rfl, ?_⟩) | ((with_reducible refine qm (f := 82) rfl ?_); refine qy (some 63) rfl rfl Try.func82 (by kernel_rfl) rfl #[.string t109] rfl yq41 ?_; (with_reducible refine (spec_l12Int.calls kj2 t109 t111 t112 t113 _ A12.out).mono ?_); rintro e w' ⟨rfl, ⟨nd, rfl⟩⟩; refine ⟨_, rfl, ?_⟩) | ((with_reducible refine qm (f := 82) rfl ?_); refine qy (some 69) rfl rfl Try.func82 (by kernel_rfl) rfl #[.string t112] rfl yq41 ?_; (with_reducible refine (spec_l12Int.calls kj2 t112 t114 t115 t116 _ A13.out).mono ?_); rintro e w' ⟨rfl, ⟨nd, rfl⟩⟩; refine ⟨_, rfl, ?_⟩))
    (try simp only [Act.put, sq1, sq2, sq3])
    go_cut [90] (fun v90 wc => ∃ (kq : Nat) (x90_13 : Bool), v90 = .bool x90_13 ∧ Qz (spec_ReadVersion.j1 kq t105 t108 t111 t114 t115 x90_13 = some (r1, r2, r3, r4, r5)) ∧ Qz (kq ≤ kj2) ∧ Qz (wc.heap[gb101]? = some (.cells #[(.slice none 0 0), .int .i64 0, .int .i64 0, .int .i64 0] 32 (0, 0))) ∧ Qz (Below w.heap.size w wc))
    case first =>
     have H := HC14.out
     clear HC14
     by_cases c15 : t107 = true
     ·subst c15
      have H1 : (if t110 = true then (if t113 = true then (if t116 = true then (spec_ReadVersion.j1 kj2 t105 t108 t111 t114 t115 (decide (t114 > 30))) else (spec_ReadVersion.j1 kj2 t105 t108 t111 t114 t115 true)) else (spec_ReadVersion.j1 kj2 t105 t108 t111 t114 t115 true)) else (spec_ReadVersion.j1 kj2 t105 t108 t111 t114 t115 true)) = some (r1, r2, r3, r4, r5) := by rw [if_pos rfl] at H; exact H
      clear H
      have H := H1
      clear H1
      by_cases c16 : t110 = true
      ·subst c16
       have H1 : (if t113 = true then (if t116 = true then (spec_ReadVersion.j1 kj2 t105 t108 t111 t114 t115 (decide (t114 > 30))) else (spec_ReadVersion.j1 kj2 t105 t108 t111 t114 t115 true)) else (spec_ReadVersion.j1 kj2 t105 t108 t111 t114 t115 true)) = some (r1, r2, r3, r4, r5) := by rw [if_pos rfl] at H; exact H
       clear H
       have H := H1
       clear H1
       by_cases c17 : t113 = true
       ·subst c17
        have H1 : (if t116 = true then (spec_ReadVersion.j1 kj2 t105 t108 t111 t114 t115 (decide (t114 > 30))) else (spec_ReadVersion.j1 kj2 t105 t108 t111 t114 t115 true)) = some (r1, r2, r3, r4, r5) := by rw [if_pos rfl] at H; exact H
        clear H
        have H := H1
        clear H1
        by_cases c18 : t116 = true
        ·subst c18
         have H1 : (spec_ReadVersion.j1 kj2 t105 t108 t111 t114 t115 (decide (t114 > 30))) = some (r1, r2, r3, r4, r5) := by rw [if_pos rfl] at H; exact H
         clear H
         have H := H1
         clear H1
         have H' := Qz.mk H
         clear H
         go_wp2
         go_meet
         case rel => exact ⟨_, (decide (t114 > 30)), yq43, H', ⟨by have := HJ2.out; first | omega | exact Nat.le_refl _⟩, ⟨by (with_reducible repeat (first | refine qc ?_ _ | refine qf ?_ | refine qa ?_ _)); exact BK101.out⟩, ⟨by repeat (first | (with_reducible first | exact HB.out | apply qi | apply qd | apply qh | refine qe ?_ GE101.out) | exact HB.out)⟩⟩
        ·replace c18 := Bool.eq_false_iff.mpr c18
         subst c18
         have H1 : (spec_ReadVersion.j1 kj2 t105 t108 t111 t114 t115 true) = some (r1, r2, r3, r4, r5) := by rw [if_neg (show ¬ (false = true) by decide)] at H; exact H
         clear H
         have H := H1
         clear H1
         have H' := Qz.mk H
         clear H
         go_wp2
         go_meet
         case rel => exact ⟨_, (true), yq43, H', ⟨by have := HJ2.out; first | omega | exact Nat.le_refl _⟩, ⟨by (with_reducible repeat (first | refine qc ?_ _ | refine qf ?_ | refine qa ?_ _)); exact BK101.out⟩, ⟨by repeat (first | (with_reducible first | exact HB.out | apply qi | apply qd | apply qh | refine qe ?_ GE101.out) | exact HB.out)⟩⟩
       ·replace c17 := Bool.eq_false_iff.mpr c17
        subst c17
        have H1 : (spec_ReadVersion.j1 kj2 t105 t108 t111 t114 t115 true) = some (r1, r2, r3, r4, r5) := by rw [if_neg (show ¬ (false = true) by decide)] at H; exact H
        clear H
        have H := H1
        clear H1
        have H' := Qz.mk H
        clear H
        go_wp2
        go_meet
        case rel => exact ⟨_, (true), yq43, H', ⟨by have := HJ2.out; first | omega | exact Nat.le_refl _⟩, ⟨by (with_reducible repeat (first | refine qc ?_ _ | refine qf ?_ | refine qa ?_ _)); exact BK101.out⟩, ⟨by repeat (first | (with_reducible first | exact HB.out | apply qi | apply qd | apply qh | refine qe ?_ GE101.out) | exact HB.out)⟩⟩
      ·replace c16 := Bool.eq_false_iff.mpr c16
       subst c16
       have H1 : (spec_ReadVersion.j1 kj2 t105 t108 t111 t114 t115 true) = some (r1, r2, r3, r4, r5) := by rw [if_neg (show ¬ (false = true) by decide)] at H; exact H
       clear H
       have H := H1
       clear H1
       have H' := Qz.mk H
       clear H
       go_wp2
       go_meet
       case rel => exact ⟨_, (true), yq43, H', ⟨by have := HJ2.out; first | omega | exact Nat.le_refl _⟩, ⟨by (with_reducible repeat (first | refine qc ?_ _ | refine qf ?_ | refine qa ?_ _)); exact BK101.out⟩, ⟨by repeat (first | (with_reducible first | exact HB.out | apply qi | apply qd | apply qh | refine qe ?_ GE101.out) | exact HB.out)⟩⟩
     ·replace c15 := Bool.eq_false_iff.mpr c15
      subst c15
      have H1 : (spec_ReadVersion.j1 kj2 t105 t108 t111 t114 t115 true) = some (r1, r2, r3, r4, r5) := by rw [if_neg (show ¬ (false = true) by decide)] at H; exact H
      clear H
      have H := H1
      clear H1
      have H' := Qz.mk H
      clear H
      go_wp2
      go_meet
      case rel => exact ⟨_, (true), yq43, H', ⟨by have := HJ2.out; first | omega | exact Nat.le_refl _⟩, ⟨by (with_reducible repeat (first | refine qc ?_ _ | refine qf ?_ | refine qa ?_ _)); exact BK101.out⟩, ⟨by repeat (first | (with_reducible first | exact HB.out | apply qi | apply qd | apply qh | refine qe ?_ GE101.out) | exact HB.out)⟩⟩
    case rest =>
     clear HC14
     (try clear c1);(try clear p2);(try clear c4);(try clear c5);(try clear c8);(try clear c15);(try clear c16);(try clear c17);(try clear c18);(try clear hcz9_0);(try clear hcz9_1);(try clear hcz9_2);(try clear hcz9_3);(try clear hfz9_0);(try clear hfz9_1);(try clear hfz9_2);(try clear hfz9_3);(try clear p2)
     obtain ⟨kq, x90_13, rfl, HA, HJ13, BK101, HB⟩ := hcut
     cases kq with
     | zero => exact absurd HA.out (by simp [spec_ReadVersion.j1])
     | succ kj13 =>
      have H := HA.out
      clear HA
      simp only [spec_ReadVersion.j1] at H
      by_cases c19 : x90_13 = true
      ·subst c19
       have H1 : (some (([] : List (S66)), 0, 0, 0, false)) = some (r1, r2, r3, r4, r5) := by rw [if_pos rfl] at H; exact H
       clear H
       have H := H1
       clear H1
       simp only [Option.some.injEq, Prod.mk.injEq] at H
       obtain ⟨rfl, rfl, rfl, rfl, rfl⟩ := H
       have hcz20_0 := (qg BK101.out 0).trans rfl
       have hcz20_1 := (qg BK101.out 1).trans rfl
       have hcz20_2 := (qg BK101.out 2).trans rfl
       have hcz20_3 := (qg BK101.out 3).trans rfl
       have hfz20_0 := qj BK101.out 0
       have hfz20_1 := qj BK101.out 1
       have hfz20_2 := qj BK101.out 2
       have hfz20_3 := qj BK101.out 3
       go_wp2
       refine bodyPost_ret (results_ct rfl _ _ gb101 32 #[.slice none 0 0, .int .i64 0, .int .i64 0, .int .i64 0] (0, 0) _ rfl yq42 Try.underlying32 rfl (by kernel_rfl)) rfl ?_
       exact ⟨_, by first | rfl | (simp [qt, qr] <;> rfl) | (simp [*, qt, qr] <;> rfl), by first | exact Kd.R_nil _ _ _ _ _ | exact Kd.N_nil _ _ _ _ _ | exact Kd.V_nil _ _ _ _ _ | exact Kd.Q_nil _ _ _ _ _ | exact Kd.S_nil _ _ _ _ _, by repeat (first | (with_reducible first | exact HB.out | apply qi | apply qd | apply qh | refine qe ?_ GE101.out) | exact HB.out)⟩
      ·replace c19 := Bool.eq_false_iff.mpr c19
       subst c19
       have H1 : (spec_ReadVersion.l0 kj13 t114 t115 0 ([] : List (S66)) t105 t108 t111) = some (r1, r2, r3, r4, r5) := by rw [if_neg (show ¬ (false = true) by decide)] at H; exact H
       clear H
       have H := H1
       clear H1
       have H' := Qz.mk H
       clear H
       go_wp2_with (first | ((with_reducible refine gate_dst (N := 18) rfl ?_); refine box_event ?hg (N := 18) ?hd (cs := #[.slice none 0 0, .int .i64 0, .int .i64 0, .int .i64 0]) (t := 32) ?hr ?_; (case hd => rfl); (case hg => rfl); (case hr => first | (go_simp; done) | (go_simp; rfl)); intro gb117 hg w21 hbox hb; have BK117 := Qz.mk (hbox); have GW117 := Qz.mk ((by rw [hg]; exact (qb1 yq44) : w.heap.size ≤ gb117)); have GE117 := GW117; replace HB := Qz.mk (qq yq44 hb); have NB101_117 := Qz.mk ((by rw [hg]; exact Nat.ne_of_lt (qh1 (g := gb101) (o := .cells #[.slice none 0 0, .int .i64 0, .int .i64 0, .int .i64 0] 32 (0, 0)) yq38) : gb101 ≠ gb117)); have NB117_101 := Qz.mk ((by rw [hg]; exact Nat.ne_of_gt (qh1 (g := gb101) (o := .cells #[.slice none 0 0, .int .i64 0, .int .i64 0, .int .i64 0] 32 (0, 0)) yq38) : gb117 ≠ gb101)); replace BK101 := Qz.mk (qu (g := gb101) (o := .cells #[.slice none 0 0, .int .i64 0, .int .i64 0, .int .i64 0] 32 (0, 0)) yq38 hb); clear hb hbox hg; have hnb22 := NB117_101.out; have hnc22 := NB101_117.out; have hcz23_0 := (qg BK117.out 0).trans rfl; have hcz23_1 := (qg BK117.out 1).trans rfl; have hcz23_2 := (qg BK117.out 2).trans rfl; have hcz23_3 := (qg BK117.out 3).trans rfl; have hfz23_0 := qj BK117.out 0; have hfz23_1 := qj BK117.out 1; have hfz23_2 := qj BK117.out 2; have hfz23_3 := qj BK117.out 3))
       go_loopg [16, 19] kj13 (fun kq v16 v19 w' => ∃ (x16_3 : ByteArray) (x19_3 : Int) (x102001_3 : Int) (x102002_3 : Int) (x102003_3 : Int) (x118000_3 : List (S66)) (u118000 : Value), v16 = .string x16_3 ∧ v19 = .int .i64 x19_3 ∧ Qz (spec_ReadVersion.l0 kq t114 x16_3 x19_3 x118000_3 t105 t108 t111 = some (r1, r2, r3, r4, r5)) ∧ Qz (kq ≤ kj13) ∧ Qz (Kd.R k66 66 w' w.heap.size (fun _ => True) u118000 x118000_3) ∧ Qz (w'.heap[gb101]? = some (.cells #[(.slice none 0 0), .int .i64 x102001_3, .int .i64 x102002_3, .int .i64 x102003_3] 32 (0, 0))) ∧ Qz (w'.heap[gb117]? = some (.cells #[u118000, .int .i64 t105, .int .i64 t108, .int .i64 t111] 32 (0, 0))) ∧ Qz (Below w.heap.size w w'))
       case atStart => exact ⟨(t115), (0), (0), (0), (0), (([] : List (S66))), (.slice none 0 0), yq43, yq43, H', ⟨Nat.le_refl _⟩, ⟨by first | exact Kd.R_nil _ _ _ _ _ | exact Kd.N_nil _ _ _ _ _ | exact Kd.V_nil _ _ _ _ _ | exact Kd.Q_nil _ _ _ _ _ | exact Kd.S_nil _ _ _ _ _⟩, ⟨by (with_reducible repeat (first | refine qc ?_ _ | refine qf ?_ | refine qa ?_ _)); refine qx ?_ NB101_117.out _; (with_reducible repeat (first | refine qc ?_ _ | refine qf ?_ | refine qa ?_ _)); refine qx ?_ NB101_117.out _; (with_reducible repeat (first | refine qc ?_ _ | refine qf ?_ | refine qa ?_ _)); refine qx ?_ NB101_117.out _; (with_reducible repeat (first | refine qc ?_ _ | refine qf ?_ | refine qa ?_ _)); refine qx ?_ NB101_117.out _; (with_reducible repeat (first | refine qc ?_ _ | refine qf ?_ | refine qa ?_ _)); exact BK101.out⟩, ⟨by (with_reducible repeat (first | refine qc ?_ _ | refine qf ?_ | refine qa ?_ _)); refine qw (cs := #[.slice none 0 0, .int .i64 t105, .int .i64 t108, .int .i64 0]) ?_ 3 _ rfl; (with_reducible repeat (first | refine qc ?_ _ | refine qf ?_ | refine qa ?_ _)); refine qw (cs := #[.slice none 0 0, .int .i64 t105, .int .i64 0, .int .i64 0]) ?_ 2 _ rfl; (with_reducible repeat (first | refine qc ?_ _ | refine qf ?_ | refine qa ?_ _)); refine qw (cs := #[.slice none 0 0, .int .i64 0, .int .i64 0, .int .i64 0]) ?_ 1 _ rfl; (with_reducible repeat (first | refine qc ?_ _ | refine qf ?_ | refine qa ?_ _)); refine qw (cs := #[.slice none 0 0, .int .i64 0, .int .i64 0, .int .i64 0]) ?_ 0 _ rfl; (with_reducible repeat (first | refine qc ?_ _ | refine qf ?_ | refine qa ?_ _)); exact BK117.out⟩, ⟨by repeat (first | (with_reducible first | exact HB.out | apply qi | apply qd | apply qh | refine qe ?_ GE101.out | refine qe ?_ GE117.out) | exact HB.out)⟩⟩
       case round =>
        clear H'
        (try clear c1);(try clear c2);(try clear p2);(try clear c4);(try clear c5);(try clear c8);(try clear c15);(try clear c16);(try clear c17);(try clear c18);(try clear c19);(try clear c22);(try clear hcz20_0);(try clear hcz20_1);(try clear hcz20_2);(try clear hcz20_3);(try clear hcz23_0);(try clear hcz23_1);(try clear hcz23_2);(try clear hcz23_3);(try clear hcz9_0);(try clear hcz9_1);(try clear hcz9_2);(try clear hcz9_3);(try clear hfz20_0);(try clear hfz20_1);(try clear hfz20_2);(try clear hfz20_3);(try clear hfz23_0);(try clear hfz23_1);(try clear hfz23_2);(try clear hfz23_3);(try clear hfz9_0);(try clear hfz9_1);(try clear hfz9_2);(try clear hfz9_3);(try clear p2)
        obtain ⟨x16_3, x19_3, x102001_3, x102002_3, x102003_3, x118000_3, u118000, rfl, rfl, HA, HK3, HO_118000, BK101, BK117, HB⟩ := hrel
        cases gk with
        | zero => exact absurd HA.out (by simp [spec_ReadVersion.l0])
        | succ k3 =>
         have H := HA.out
         clear HA
         simp only [spec_ReadVersion.l0] at H
         by_cases c24 : x19_3 < t114
         ·rw [if_pos c24] at H
          have c24b0 : decide (x19_3 < t114) = true := decide_eq_true c24
          clear c24
          replace H := Option.bind_eq_some_iff.mp H
          obtain ⟨⟨t119, t120, t121⟩, A250, H⟩ := H
          replace H : ((spec_l12Int.f k3 t120).bind fun bt122 => ((spec_TakeText.f k3 bt122.2.1).bind fun bt125 => ((spec_TakeText.f k3 bt125.2.1).bind fun bt128 => ((spec_l12Int.f k3 bt128.2.1).bind fun bt131 => (if t121 = true then (if bt122.2.2 = true then (if bt125.2.2 = true then (if bt128.2.2 = true then (if bt131.2.2 = true then (if x118000_3.length < 2513169434916 then (spec_ReadVersion.l0 k3 t114 bt131.2.1 (wrap64 (x19_3 + 1)) (x118000_3 ++ [(⟨t119, bt122.1, bt125.1, bt128.1, bt131.1⟩ : S66)]) t105 t108 t111) else (none)) else (some (([] : List (S66)), 0, 0, 0, false))) else (some (([] : List (S66)), 0, 0, 0, false))) else (some (([] : List (S66)), 0, 0, 0, false))) else (some (([] : List (S66)), 0, 0, 0, false))) else (some (([] : List (S66)), 0, 0, 0, false))))))) = some (r1, r2, r3, r4, r5) := H
          have A25 := Qz.mk A250
          clear A250
          replace H := Option.bind_eq_some_iff.mp H
          obtain ⟨⟨t122, t123, t124⟩, A260, H⟩ := H
          replace H : ((spec_TakeText.f k3 t123).bind fun bt125 => ((spec_TakeText.f k3 bt125.2.1).bind fun bt128 => ((spec_l12Int.f k3 bt128.2.1).bind fun bt131 => (if t121 = true then (if t124 = true then (if bt125.2.2 = true then (if bt128.2.2 = true then (if bt131.2.2 = true then (if x118000_3.length < 2513169434916 then (spec_ReadVersion.l0 k3 t114 bt131.2.1 (wrap64 (x19_3 + 1)) (x118000_3 ++ [(⟨t119, t122, bt125.1, bt128.1, bt131.1⟩ : S66)]) t105 t108 t111) else (none)) else (some (([] : List (S66)), 0, 0, 0, false))) else (some (([] : List (S66)), 0, 0, 0, false))) else (some (([] : List (S66)), 0, 0, 0, false))) else (some (([] : List (S66)), 0, 0, 0, false))) else (some (([] : List (S66)), 0, 0, 0, false)))))) = some (r1, r2, r3, r4, r5) := H
          have A26 := Qz.mk A260
          clear A260
          replace H := Option.bind_eq_some_iff.mp H
          obtain ⟨⟨t125, t126, t127⟩, A270, H⟩ := H
          replace H : ((spec_TakeText.f k3 t126).bind fun bt128 => ((spec_l12Int.f k3 bt128.2.1).bind fun bt131 => (if t121 = true then (if t124 = true then (if t127 = true then (if bt128.2.2 = true then (if bt131.2.2 = true then (if x118000_3.length < 2513169434916 then (spec_ReadVersion.l0 k3 t114 bt131.2.1 (wrap64 (x19_3 + 1)) (x118000_3 ++ [(⟨t119, t122, t125, bt128.1, bt131.1⟩ : S66)]) t105 t108 t111) else (none)) else (some (([] : List (S66)), 0, 0, 0, false))) else (some (([] : List (S66)), 0, 0, 0, false))) else (some (([] : List (S66)), 0, 0, 0, false))) else (some (([] : List (S66)), 0, 0, 0, false))) else (some (([] : List (S66)), 0, 0, 0, false))))) = some (r1, r2, r3, r4, r5) := H
          have A27 := Qz.mk A270
          clear A270
          replace H := Option.bind_eq_some_iff.mp H
          obtain ⟨⟨t128, t129, t130⟩, A280, H⟩ := H
          replace H : ((spec_l12Int.f k3 t129).bind fun bt131 => (if t121 = true then (if t124 = true then (if t127 = true then (if t130 = true then (if bt131.2.2 = true then (if x118000_3.length < 2513169434916 then (spec_ReadVersion.l0 k3 t114 bt131.2.1 (wrap64 (x19_3 + 1)) (x118000_3 ++ [(⟨t119, t122, t125, t128, bt131.1⟩ : S66)]) t105 t108 t111) else (none)) else (some (([] : List (S66)), 0, 0, 0, false))) else (some (([] : List (S66)), 0, 0, 0, false))) else (some (([] : List (S66)), 0, 0, 0, false))) else (some (([] : List (S66)), 0, 0, 0, false))) else (some (([] : List (S66)), 0, 0, 0, false)))) = some (r1, r2, r3, r4, r5) := H
          have A28 := Qz.mk A280
          clear A280
          replace H := Option.bind_eq_some_iff.mp H
          obtain ⟨⟨t131, t132, t133⟩, A290, H⟩ := H
          replace H : (if t121 = true then (if t124 = true then (if t127 = true then (if t130 = true then (if t133 = true then (if x118000_3.length < 2513169434916 then (spec_ReadVersion.l0 k3 t114 t132 (wrap64 (x19_3 + 1)) (x118000_3 ++ [(⟨t119, t122, t125, t128, t131⟩ : S66)]) t105 t108 t111) else (none)) else (some (([] : List (S66)), 0, 0, 0, false))) else (some (([] : List (S66)), 0, 0, 0, false))) else (some (([] : List (S66)), 0, 0, 0, false))) else (some (([] : List (S66)), 0, 0, 0, false))) else (some (([] : List (S66)), 0, 0, 0, false))) = some (r1, r2, r3, r4, r5) := H
          have A29 := Qz.mk A290
          clear A290
          by_cases c30 : t121 = true
          ·subst c30
           have H1 : (if t124 = true then (if t127 = true then (if t130 = true then (if t133 = true then (if x118000_3.length < 2513169434916 then (spec_ReadVersion.l0 k3 t114 t132 (wrap64 (x19_3 + 1)) (x118000_3 ++ [(⟨t119, t122, t125, t128, t131⟩ : S66)]) t105 t108 t111) else (none)) else (some (([] : List (S66)), 0, 0, 0, false))) else (some (([] : List (S66)), 0, 0, 0, false))) else (some (([] : List (S66)), 0, 0, 0, false))) else (some (([] : List (S66)), 0, 0, 0, false))) = some (r1, r2, r3, r4, r5) := by rw [if_pos rfl] at H; exact H
           clear H
           have H := H1
           clear H1
           by_cases c31 : t124 = true
           ·subst c31
            have H1 : (if t127 = true then (if t130 = true then (if t133 = true then (if x118000_3.length < 2513169434916 then (spec_ReadVersion.l0 k3 t114 t132 (wrap64 (x19_3 + 1)) (x118000_3 ++ [(⟨t119, t122, t125, t128, t131⟩ : S66)]) t105 t108 t111) else (none)) else (some (([] : List (S66)), 0, 0, 0, false))) else (some (([] : List (S66)), 0, 0, 0, false))) else (some (([] : List (S66)), 0, 0, 0, false))) = some (r1, r2, r3, r4, r5) := by rw [if_pos rfl] at H; exact H
            clear H
            have H := H1
            clear H1
            by_cases c32 : t127 = true
            ·subst c32
             have H1 : (if t130 = true then (if t133 = true then (if x118000_3.length < 2513169434916 then (spec_ReadVersion.l0 k3 t114 t132 (wrap64 (x19_3 + 1)) (x118000_3 ++ [(⟨t119, t122, t125, t128, t131⟩ : S66)]) t105 t108 t111) else (none)) else (some (([] : List (S66)), 0, 0, 0, false))) else (some (([] : List (S66)), 0, 0, 0, false))) = some (r1, r2, r3, r4, r5) := by rw [if_pos rfl] at H; exact H
             clear H
             have H := H1
             clear H1
             by_cases c33 : t130 = true
             ·subst c33
              have H1 : (if t133 = true then (if x118000_3.length < 2513169434916 then (spec_ReadVersion.l0 k3 t114 t132 (wrap64 (x19_3 + 1)) (x118000_3 ++ [(⟨t119, t122, t125, t128, t131⟩ : S66)]) t105 t108 t111) else (none)) else (some (([] : List (S66)), 0, 0, 0, false))) = some (r1, r2, r3, r4, r5) := by rw [if_pos rfl] at H; exact H
              clear H
              have H := H1
              clear H1
              by_cases c34 : t133 = true
              ·subst c34
               have H1 : (if x118000_3.length < 2513169434916 then (spec_ReadVersion.l0 k3 t114 t132 (wrap64 (x19_3 + 1)) (x118000_3 ++ [(⟨t119, t122, t125, t128, t131⟩ : S66)]) t105 t108 t111) else (none)) = some (r1, r2, r3, r4, r5) := by rw [if_pos rfl] at H; exact H
               clear H
               have H := H1
               clear H1
               by_cases c35 : x118000_3.length < 2513169434916
               ·rw [if_pos c35] at H
                have LMc35 := Qz.mk c35
                clear c35
                obtain ⟨y134, hy134⟩ : ∃ y_ : List (S66), y_ = (x118000_3 ++ [(⟨t119, t122, t125, t128, t131⟩ : S66)]) := ⟨_, rfl⟩
                replace H : (spec_ReadVersion.l0 k3 t114 t132 (wrap64 (x19_3 + 1)) y134 t105 t108 t111) = some (r1, r2, r3, r4, r5) := by first | (rw [hy134]; with_reducible exact H) | (have H2_ := (Option.bind_some _ _).symm.trans H; rw [hy134]; with_reducible exact H2_) | (have H2_ := (Option.bind_some _ _).symm.trans H; with_reducible exact H2_) | with_reducible exact H | (rw [hy134]; exact H) | exact H
                have Ny134 := Qz.mk hy134
                clear hy134
                have H' := Qz.mk H
                clear H
                go_wp2_with (first | ((with_reducible refine qm (f := 82) rfl ?_); refine qy (some 103) rfl rfl Try.func82 (by kernel_rfl) rfl #[.string x16_3] rfl yq41 ?_; (with_reducible refine (spec_l12Int.calls k3 x16_3 t119 t120 true _ A25.out).mono ?_); rintro e w' ⟨rfl, ⟨nd, rfl⟩⟩; refine ⟨_, rfl, ?_⟩; (try (rw [drewN_self wr]; generalize hq_ : World.drewN wr _ = wr; have n0_ : Qz (Kd.R k66 66 wr w.heap.size (fun _ => True) u118000 x118000_3) := ⟨by rw [← hq_]; exact yq39⟩; have n1_ : Qz (wr.heap[gb101]? = some (.cells #[.slice none 0 0, .int .i64 x102001_3, .int .i64 x102002_3, .int .i64 x102003_3] 32 (0, 0))) := ⟨by rw [← hq_]; exact yq38⟩; have n2_ : Qz (wr.heap[gb117]? = some (.cells #[u118000, .int .i64 t105, .int .i64 t108, .int .i64 t111] 32 (0, 0))) := ⟨by rw [← hq_]; exact yq40⟩; have n3_ : Qz (Below w.heap.size w wr) := ⟨by rw [← hq_]; exact yq37⟩; clear HO_118000 BK101 BK117 HB hq_; have HO_118000 := n0_; have BK101 := n1_; have BK117 := n2_; have HB := n3_; clear n0_ n1_ n2_ n3_))) | ((with_reducible refine qm (f := 82) rfl ?_); refine qy (some 109) rfl rfl Try.func82 (by kernel_rfl) rfl #[.string t120] rfl yq41 ?_; (with_reducible refine (spec_l12Int.calls k3 t120 t122 t123 true _ A26.out).mono ?_); rintro e w' ⟨rfl, ⟨nd, rfl⟩⟩; refine ⟨_, rfl, ?_⟩; (try (rw [drewN_self wr]; generalize hq_ : World.drewN wr _ = wr; have n0_ : Qz (Kd.R k66 66 wr w.heap.size (fun _ => True) u118000 x118000_3) := ⟨by rw [← hq_]; exact yq39⟩; have n1_ : Qz (wr.heap[gb101]? = some (.cells #[.slice none 0 0, .int .i64 x102001_3, .int .i64 x102002_3, .int .i64 x102003_3] 32 (0, 0))) := ⟨by rw [← hq_]; exact yq38⟩; have n2_ : Qz (wr.heap[gb117]? = some (.cells #[u118000, .int .i64 t105, .int .i64 t108, .int .i64 t111] 32 (0, 0))) := ⟨by rw [← hq_]; exact yq40⟩; have n3_ : Qz (Below w.heap.size w wr) := ⟨by rw [← hq_]; exact yq37⟩; clear HO_118000 BK101 BK117 HB hq_; have HO_118000 := n0_; have BK101 := n1_; have BK117 := n2_; have HB := n3_; clear n0_ n1_ n2_ n3_))) | ((with_reducible refine qm (f := 83) rfl ?_); refine qy (some 115) rfl rfl Try.func83 (by kernel_rfl) rfl #[.string t123] rfl yq41 ?_; (with_reducible refine (spec_TakeText.calls k3 t123 t125 t126 true _ A27.out).mono ?_); rintro e w' ⟨rfl, ⟨nd, rfl⟩⟩; refine ⟨_, rfl, ?_⟩; (try (rw [drewN_self wr]; generalize hq_ : World.drewN wr _ = wr; have n0_ : Qz (Kd.R k66 66 wr w.heap.size (fun _ => True) u118000 x118000_3) := ⟨by rw [← hq_]; exact yq39⟩; have n1_ : Qz (wr.heap[gb101]? = some (.cells #[.slice none 0 0, .int .i64 x102001_3, .int .i64 x102002_3, .int .i64 x102003_3] 32 (0, 0))) := ⟨by rw [← hq_]; exact yq38⟩; have n2_ : Qz (wr.heap[gb117]? = some (.cells #[u118000, .int .i64 t105, .int .i64 t108, .int .i64 t111] 32 (0, 0))) := ⟨by rw [← hq_]; exact yq40⟩; have n3_ : Qz (Below w.heap.size w wr) := ⟨by rw [← hq_]; exact yq37⟩; clear HO_118000 BK101 BK117 HB hq_; have HO_118000 := n0_; have BK101 := n1_; have BK117 := n2_; have HB := n3_; clear n0_ n1_ n2_ n3_))) | ((with_reducible refine qm (f := 83) rfl ?_); refine qy (some 121) rfl rfl Try.func83 (by kernel_rfl) rfl #[.string t126] rfl yq41 ?_; (with_reducible refine (spec_TakeText.calls k3 t126 t128 t129 true _ A28.out).mono ?_); rintro e w' ⟨rfl, ⟨nd, rfl⟩⟩; refine ⟨_, rfl, ?_⟩; (try (rw [drewN_self wr]; generalize hq_ : World.drewN wr _ = wr; have n0_ : Qz (Kd.R k66 66 wr w.heap.size (fun _ => True) u118000 x118000_3) := ⟨by rw [← hq_]; exact yq39⟩; have n1_ : Qz (wr.heap[gb101]? = some (.cells #[.slice none 0 0, .int .i64 x102001_3, .int .i64 x102002_3, .int .i64 x102003_3] 32 (0, 0))) := ⟨by rw [← hq_]; exact yq38⟩; have n2_ : Qz (wr.heap[gb117]? = some (.cells #[u118000, .int .i64 t105, .int .i64 t108, .int .i64 t111] 32 (0, 0))) := ⟨by rw [← hq_]; exact yq40⟩; have n3_ : Qz (Below w.heap.size w wr) := ⟨by rw [← hq_]; exact yq37⟩; clear HO_118000 BK101 BK117 HB hq_; have HO_118000 := n0_; have BK101 := n1_; have BK117 := n2_; have HB := n3_; clear n0_ n1_ n2_ n3_))) | ((with_reducible refine qm (f := 82) rfl ?_); refine qy (some 127) rfl rfl Try.func82 (by kernel_rfl) rfl #[.string t129] rfl yq41 ?_; (with_reducible refine (spec_l12Int.calls k3 t129 t131 t132 true _ A29.out).mono ?_); rintro e w' ⟨rfl, ⟨nd, rfl⟩⟩; refine ⟨_, rfl, ?_⟩; (try (rw [drewN_self wr]; generalize hq_ : World.drewN wr _ = wr; have n0_ : Qz (Kd.R k66 66 wr w.heap.size (fun _ => True) u118000 x118000_3) := ⟨by rw [← hq_]; exact yq39⟩; have n1_ : Qz (wr.heap[gb101]? = some (.cells #[.slice none 0 0, .int .i64 x102001_3, .int .i64 x102002_3, .int .i64 x102003_3] 32 (0, 0))) := ⟨by rw [← hq_]; exact yq38⟩; have n2_ : Qz (wr.heap[gb117]? = some (.cells #[u118000, .int .i64 t105, .int .i64 t108, .int .i64 t111] 32 (0, 0))) := ⟨by rw [← hq_]; exact yq40⟩; have n3_ : Qz (Below w.heap.size w wr) := ⟨by rw [← hq_]; exact yq37⟩; clear HO_118000 BK101 BK117 HB hq_; have HO_118000 := n0_; have BK101 := n1_; have BK117 := n2_; have HB := n3_; clear n0_ n1_ n2_ n3_)); have hnb36 := NB117_101.out; have hnc36 := NB101_117.out; have hcz37_0 := (qg BK117.out 0).trans rfl; have hcz37_1 := (qg BK117.out 1).trans rfl; have hcz37_2 := (qg BK117.out 2).trans rfl; have hcz37_3 := (qg BK117.out 3).trans rfl; have hfz37_0 := qj BK117.out 0; have hfz37_1 := qj BK117.out 1; have hfz37_2 := qj BK117.out 2; have hfz37_3 := qj BK117.out 3) | ((with_reducible refine gate_builtin (b := .append) (xs := #[.tmp 151, .tmp 158]) rfl ?_); at_builtin; refine Kd.R_append k66 (w0 := w) w.heap.size rfl (.tmp 151) (.tmp 158) 30 66 (.agg #[(.int .i64 0), (.int .i64 0), (.string ⟨#[]⟩), (.string ⟨#[]⟩), (.int .i64 0)]) 56 rfl Try.underlying30 info66 rfl (by decide) (by omega) u118000 x118000_3 (⟨t119, t122, t125, t128, t131⟩ : S66) [.int .i64 t119, .int .i64 t122, .string t125, .string t128, .int .i64 t131] (fun _ => True) (fun _ => False) rfl rfl ?aP (fun _ hk => hk.elim) ?aF ?aO ?aB ?aS ?aL ?_; (case aP => exact k66_mkM _ _ _ (⟨t119, t122, t125, t128, t131⟩ : S66)); (case aB => exact yq37); (case aF => exact (fun _ _ => trivial)); (case aO => exact yq39); (case aS => exact (qb1 yq37)); (case aL => have := LMc35.out; omega); intro v135 w38 ho hb hg hat; rw [← Ny134.out] at ho; have n0_ := Qz.mk (blk_grown (g := gb101) (o := .cells #[.slice none 0 0, .int .i64 x102001_3, .int .i64 x102002_3, .int .i64 x102003_3] 32 (0, 0)) yq38 hg (Kd.R_ne HO_118000.out BK101.out (by decide))); have n1_ := Qz.mk (blk_grown (g := gb117) (o := .cells #[u118000, .int .i64 t105, .int .i64 t108, .int .i64 t111] 32 (0, 0)) yq40 hg (Kd.R_ne HO_118000.out BK117.out (by decide))); have n2_ := Qz.mk (hb); have n3_ := Qz.mk (ho); clear BK101; clear BK117; clear HB; clear HO_118000; have BK101 := n0_; have BK117 := n1_; have HB := n2_; have HO136 := n3_; clear n0_ n1_ n2_ n3_; clear ho hb hg hat; obtain ⟨Ao39, co39, eo39⟩ := Kd.R_slice HO136.out; subst eo39; have hcz40_0 := (qg BK117.out 0).trans rfl; have hcz40_1 := (qg BK117.out 1).trans rfl; have hcz40_2 := (qg BK117.out 2).trans rfl; have hcz40_3 := (qg BK117.out 3).trans rfl; have hfz40_0 := qj BK117.out 0; have hfz40_1 := qj BK117.out 1; have hfz40_2 := qj BK117.out 2; have hfz40_3 := qj BK117.out 3))
                go_roundg k3
                case measure => have := HJ2.out; have := HJ13.out; have := HK3.out; omega
                case rel => exact ⟨(t132), (wrap64 (x19_3 + 1)), (x102001_3), (x102002_3), (x102003_3), (y134), (.slice Ao39 y134.length co39), yq43, yq43, H', ⟨by have := HJ2.out; have := HJ13.out; have := HK3.out; omega⟩, ⟨by (with_reducible repeat (first | apply Kd.R_alloc | apply Kd.R_drewN | apply Kd.R_drew)); exact Kd.R_mono (Kd.R_far (p := ⟨gb117, 0, none⟩) (Kd.R_types HO136.out BK117.out (by decide)) (fun _ hk => hk.2) (.slice Ao39 y134.length co39)) (fun _ hk => trivial)⟩, ⟨by (with_reducible repeat (first | refine qc ?_ _ | refine qf ?_ | refine qa ?_ _)); refine qx ?_ NB101_117.out _; (with_reducible repeat (first | refine qc ?_ _ | refine qf ?_ | refine qa ?_ _)); exact BK101.out⟩, ⟨by (with_reducible repeat (first | refine qc ?_ _ | refine qf ?_ | refine qa ?_ _)); refine qw (cs := #[u118000, .int .i64 t105, .int .i64 t108, .int .i64 t111]) ?_ 0 _ rfl; (with_reducible repeat (first | refine qc ?_ _ | refine qf ?_ | refine qa ?_ _)); exact BK117.out⟩, ⟨by repeat (first | (with_reducible first | exact HB.out | apply qi | apply qd | apply qh | refine qe ?_ GE101.out | refine qe ?_ GE117.out) | exact HB.out)⟩⟩
               ·rw [if_neg c35] at H
                exact absurd H (by simp)
              ·replace c34 := Bool.eq_false_iff.mpr c34
               subst c34
               have H1 : (some (([] : List (S66)), 0, 0, 0, false)) = some (r1, r2, r3, r4, r5) := by rw [if_neg (show ¬ (false = true) by decide)] at H; exact H
               clear H
               have H := H1
               clear H1
               simp only [Option.some.injEq, Prod.mk.injEq] at H
               obtain ⟨rfl, rfl, rfl, rfl, rfl⟩ := H
               go_wp2_with (first | ((with_reducible refine qm (f := 82) rfl ?_); refine qy (some 103) rfl rfl Try.func82 (by kernel_rfl) rfl #[.string x16_3] rfl yq41 ?_; (with_reducible refine (spec_l12Int.calls k3 x16_3 t119 t120 true _ A25.out).mono ?_); rintro e w' ⟨rfl, ⟨nd, rfl⟩⟩; refine ⟨_, rfl, ?_⟩; (try (rw [drewN_self wr]; generalize hq_ : World.drewN wr _ = wr; have n0_ : Qz (Kd.R k66 66 wr w.heap.size (fun _ => True) u118000 x118000_3) := ⟨by rw [← hq_]; exact yq39⟩; have n1_ : Qz (wr.heap[gb101]? = some (.cells #[.slice none 0 0, .int .i64 x102001_3, .int .i64 x102002_3, .int .i64 x102003_3] 32 (0, 0))) := ⟨by rw [← hq_]; exact yq38⟩; have n2_ : Qz (wr.heap[gb117]? = some (.cells #[u118000, .int .i64 t105, .int .i64 t108, .int .i64 t111] 32 (0, 0))) := ⟨by rw [← hq_]; exact yq40⟩; have n3_ : Qz (Below w.heap.size w wr) := ⟨by rw [← hq_]; exact yq37⟩; clear HO_118000 BK101 BK117 HB hq_; have HO_118000 := n0_; have BK101 := n1_; have BK117 := n2_; have HB := n3_; clear n0_ n1_ n2_ n3_))) | ((with_reducible refine qm (f := 82) rfl ?_); refine qy (some 109) rfl rfl Try.func82 (by kernel_rfl) rfl #[.string t120] rfl yq41 ?_; (with_reducible refine (spec_l12Int.calls k3 t120 t122 t123 true _ A26.out).mono ?_); rintro e w' ⟨rfl, ⟨nd, rfl⟩⟩; refine ⟨_, rfl, ?_⟩; (try (rw [drewN_self wr]; generalize hq_ : World.drewN wr _ = wr; have n0_ : Qz (Kd.R k66 66 wr w.heap.size (fun _ => True) u118000 x118000_3) := ⟨by rw [← hq_]; exact yq39⟩; have n1_ : Qz (wr.heap[gb101]? = some (.cells #[.slice none 0 0, .int .i64 x102001_3, .int .i64 x102002_3, .int .i64 x102003_3] 32 (0, 0))) := ⟨by rw [← hq_]; exact yq38⟩; have n2_ : Qz (wr.heap[gb117]? = some (.cells #[u118000, .int .i64 t105, .int .i64 t108, .int .i64 t111] 32 (0, 0))) := ⟨by rw [← hq_]; exact yq40⟩; have n3_ : Qz (Below w.heap.size w wr) := ⟨by rw [← hq_]; exact yq37⟩; clear HO_118000 BK101 BK117 HB hq_; have HO_118000 := n0_; have BK101 := n1_; have BK117 := n2_; have HB := n3_; clear n0_ n1_ n2_ n3_))) | ((with_reducible refine qm (f := 83) rfl ?_); refine qy (some 115) rfl rfl Try.func83 (by kernel_rfl) rfl #[.string t123] rfl yq41 ?_; (with_reducible refine (spec_TakeText.calls k3 t123 t125 t126 true _ A27.out).mono ?_); rintro e w' ⟨rfl, ⟨nd, rfl⟩⟩; refine ⟨_, rfl, ?_⟩; (try (rw [drewN_self wr]; generalize hq_ : World.drewN wr _ = wr; have n0_ : Qz (Kd.R k66 66 wr w.heap.size (fun _ => True) u118000 x118000_3) := ⟨by rw [← hq_]; exact yq39⟩; have n1_ : Qz (wr.heap[gb101]? = some (.cells #[.slice none 0 0, .int .i64 x102001_3, .int .i64 x102002_3, .int .i64 x102003_3] 32 (0, 0))) := ⟨by rw [← hq_]; exact yq38⟩; have n2_ : Qz (wr.heap[gb117]? = some (.cells #[u118000, .int .i64 t105, .int .i64 t108, .int .i64 t111] 32 (0, 0))) := ⟨by rw [← hq_]; exact yq40⟩; have n3_ : Qz (Below w.heap.size w wr) := ⟨by rw [← hq_]; exact yq37⟩; clear HO_118000 BK101 BK117 HB hq_; have HO_118000 := n0_; have BK101 := n1_; have BK117 := n2_; have HB := n3_; clear n0_ n1_ n2_ n3_))) | ((with_reducible refine qm (f := 83) rfl ?_); refine qy (some 121) rfl rfl Try.func83 (by kernel_rfl) rfl #[.string t126] rfl yq41 ?_; (with_reducible refine (spec_TakeText.calls k3 t126 t128 t129 true _ A28.out).mono ?_); rintro e w' ⟨rfl, ⟨nd, rfl⟩⟩; refine ⟨_, rfl, ?_⟩; (try (rw [drewN_self wr]; generalize hq_ : World.drewN wr _ = wr; have n0_ : Qz (Kd.R k66 66 wr w.heap.size (fun _ => True) u118000 x118000_3) := ⟨by rw [← hq_]; exact yq39⟩; have n1_ : Qz (wr.heap[gb101]? = some (.cells #[.slice none 0 0, .int .i64 x102001_3, .int .i64 x102002_3, .int .i64 x102003_3] 32 (0, 0))) := ⟨by rw [← hq_]; exact yq38⟩; have n2_ : Qz (wr.heap[gb117]? = some (.cells #[u118000, .int .i64 t105, .int .i64 t108, .int .i64 t111] 32 (0, 0))) := ⟨by rw [← hq_]; exact yq40⟩; have n3_ : Qz (Below w.heap.size w wr) := ⟨by rw [← hq_]; exact yq37⟩; clear HO_118000 BK101 BK117 HB hq_; have HO_118000 := n0_; have BK101 := n1_; have BK117 := n2_; have HB := n3_; clear n0_ n1_ n2_ n3_))) | ((with_reducible refine qm (f := 82) rfl ?_); refine qy (some 127) rfl rfl Try.func82 (by kernel_rfl) rfl #[.string t129] rfl yq41 ?_; (with_reducible refine (spec_l12Int.calls k3 t129 t131 t132 false _ A29.out).mono ?_); rintro e w' ⟨rfl, ⟨nd, rfl⟩⟩; refine ⟨_, rfl, ?_⟩; (try (rw [drewN_self wr]; generalize hq_ : World.drewN wr _ = wr; have n0_ : Qz (Kd.R k66 66 wr w.heap.size (fun _ => True) u118000 x118000_3) := ⟨by rw [← hq_]; exact yq39⟩; have n1_ : Qz (wr.heap[gb101]? = some (.cells #[.slice none 0 0, .int .i64 x102001_3, .int .i64 x102002_3, .int .i64 x102003_3] 32 (0, 0))) := ⟨by rw [← hq_]; exact yq38⟩; have n2_ : Qz (wr.heap[gb117]? = some (.cells #[u118000, .int .i64 t105, .int .i64 t108, .int .i64 t111] 32 (0, 0))) := ⟨by rw [← hq_]; exact yq40⟩; have n3_ : Qz (Below w.heap.size w wr) := ⟨by rw [← hq_]; exact yq37⟩; clear HO_118000 BK101 BK117 HB hq_; have HO_118000 := n0_; have BK101 := n1_; have BK117 := n2_; have HB := n3_; clear n0_ n1_ n2_ n3_)); have hnb41 := NB101_117.out; have hnc41 := NB117_101.out; have hcz42_0 := (qg BK101.out 0).trans rfl; have hcz42_1 := (qg BK101.out 1).trans rfl; have hcz42_2 := (qg BK101.out 2).trans rfl; have hcz42_3 := (qg BK101.out 3).trans rfl; have hfz42_0 := qj BK101.out 0; have hfz42_1 := qj BK101.out 1; have hfz42_2 := qj BK101.out 2; have hfz42_3 := qj BK101.out 3))
               refine bodyPost_ret (results_ct rfl _ _ gb101 32 #[.slice none 0 0, .int .i64 0, .int .i64 0, .int .i64 0] (0, 0) _ rfl yq36 Try.underlying32 rfl (by kernel_rfl)) rfl ?_
               exact ⟨_, by first | rfl | (simp [qt, qr] <;> rfl) | (simp [*, qt, qr] <;> rfl), by first | exact Kd.R_nil _ _ _ _ _ | exact Kd.N_nil _ _ _ _ _ | exact Kd.V_nil _ _ _ _ _ | exact Kd.Q_nil _ _ _ _ _ | exact Kd.S_nil _ _ _ _ _, by repeat (first | (with_reducible first | exact HB.out | apply qi | apply qd | apply qh | refine qe ?_ GE101.out | refine qe ?_ GE117.out) | exact HB.out)⟩
             ·replace c33 := Bool.eq_false_iff.mpr c33
              subst c33
              have H1 : (some (([] : List (S66)), 0, 0, 0, false)) = some (r1, r2, r3, r4, r5) := by rw [if_neg (show ¬ (false = true) by decide)] at H; exact H
              clear H
              have H := H1
              clear H1
              simp only [Option.some.injEq, Prod.mk.injEq] at H
              obtain ⟨rfl, rfl, rfl, rfl, rfl⟩ := H
              go_wp2_with (first | ((with_reducible refine qm (f := 82) rfl ?_); refine qy (some 103) rfl rfl Try.func82 (by kernel_rfl) rfl #[.string x16_3] rfl yq41 ?_; (with_reducible refine (spec_l12Int.calls k3 x16_3 t119 t120 true _ A25.out).mono ?_); rintro e w' ⟨rfl, ⟨nd, rfl⟩⟩; refine ⟨_, rfl, ?_⟩; (try (rw [drewN_self wr]; generalize hq_ : World.drewN wr _ = wr; have n0_ : Qz (Kd.R k66 66 wr w.heap.size (fun _ => True) u118000 x118000_3) := ⟨by rw [← hq_]; exact yq39⟩; have n1_ : Qz (wr.heap[gb101]? = some (.cells #[.slice none 0 0, .int .i64 x102001_3, .int .i64 x102002_3, .int .i64 x102003_3] 32 (0, 0))) := ⟨by rw [← hq_]; exact yq38⟩; have n2_ : Qz (wr.heap[gb117]? = some (.cells #[u118000, .int .i64 t105, .int .i64 t108, .int .i64 t111] 32 (0, 0))) := ⟨by rw [← hq_]; exact yq40⟩; have n3_ : Qz (Below w.heap.size w wr) := ⟨by rw [← hq_]; exact yq37⟩; clear HO_118000 BK101 BK117 HB hq_; have HO_118000 := n0_; have BK101 := n1_; have BK117 := n2_; have HB := n3_; clear n0_ n1_ n2_ n3_))) | ((with_reducible refine qm (f := 82) rfl ?_); refine qy (some 109) rfl rfl Try.func82 (by kernel_rfl) rfl #[.string t120] rfl yq41 ?_; (with_reducible refine (spec_l12Int.calls k3 t120 t122 t123 true _ A26.out).mono ?_); rintro e w' ⟨rfl, ⟨nd, rfl⟩⟩; refine ⟨_, rfl, ?_⟩; (try (rw [drewN_self wr]; generalize hq_ : World.drewN wr _ = wr; have n0_ : Qz (Kd.R k66 66 wr w.heap.size (fun _ => True) u118000 x118000_3) := ⟨by rw [← hq_]; exact yq39⟩; have n1_ : Qz (wr.heap[gb101]? = some (.cells #[.slice none 0 0, .int .i64 x102001_3, .int .i64 x102002_3, .int .i64 x102003_3] 32 (0, 0))) := ⟨by rw [← hq_]; exact yq38⟩; have n2_ : Qz (wr.heap[gb117]? = some (.cells #[u118000, .int .i64 t105, .int .i64 t108, .int .i64 t111] 32 (0, 0))) := ⟨by rw [← hq_]; exact yq40⟩; have n3_ : Qz (Below w.heap.size w wr) := ⟨by rw [← hq_]; exact yq37⟩; clear HO_118000 BK101 BK117 HB hq_; have HO_118000 := n0_; have BK101 := n1_; have BK117 := n2_; have HB := n3_; clear n0_ n1_ n2_ n3_))) | ((with_reducible refine qm (f := 83) rfl ?_); refine qy (some 115) rfl rfl Try.func83 (by kernel_rfl) rfl #[.string t123] rfl yq41 ?_; (with_reducible refine (spec_TakeText.calls k3 t123 t125 t126 true _ A27.out).mono ?_); rintro e w' ⟨rfl, ⟨nd, rfl⟩⟩; refine ⟨_, rfl, ?_⟩; (try (rw [drewN_self wr]; generalize hq_ : World.drewN wr _ = wr; have n0_ : Qz (Kd.R k66 66 wr w.heap.size (fun _ => True) u118000 x118000_3) := ⟨by rw [← hq_]; exact yq39⟩; have n1_ : Qz (wr.heap[gb101]? = some (.cells #[.slice none 0 0, .int .i64 x102001_3, .int .i64 x102002_3, .int .i64 x102003_3] 32 (0, 0))) := ⟨by rw [← hq_]; exact yq38⟩; have n2_ : Qz (wr.heap[gb117]? = some (.cells #[u118000, .int .i64 t105, .int .i64 t108, .int .i64 t111] 32 (0, 0))) := ⟨by rw [← hq_]; exact yq40⟩; have n3_ : Qz (Below w.heap.size w wr) := ⟨by rw [← hq_]; exact yq37⟩; clear HO_118000 BK101 BK117 HB hq_; have HO_118000 := n0_; have BK101 := n1_; have BK117 := n2_; have HB := n3_; clear n0_ n1_ n2_ n3_))) | ((with_reducible refine qm (f := 83) rfl ?_); refine qy (some 121) rfl rfl Try.func83 (by kernel_rfl) rfl #[.string t126] rfl yq41 ?_; (with_reducible refine (spec_TakeText.calls k3 t126 t128 t129 false _ A28.out).mono ?_); rintro e w' ⟨rfl, ⟨nd, rfl⟩⟩; refine ⟨_, rfl, ?_⟩; (try (rw [drewN_self wr]; generalize hq_ : World.drewN wr _ = wr; have n0_ : Qz (Kd.R k66 66 wr w.heap.size (fun _ => True) u118000 x118000_3) := ⟨by rw [← hq_]; exact yq39⟩; have n1_ : Qz (wr.heap[gb101]? = some (.cells #[.slice none 0 0, .int .i64 x102001_3, .int .i64 x102002_3, .int .i64 x102003_3] 32 (0, 0))) := ⟨by rw [← hq_]; exact yq38⟩; have n2_ : Qz (wr.heap[gb117]? = some (.cells #[u118000, .int .i64 t105, .int .i64 t108, .int .i64 t111] 32 (0, 0))) := ⟨by rw [← hq_]; exact yq40⟩; have n3_ : Qz (Below w.heap.size w wr) := ⟨by rw [← hq_]; exact yq37⟩; clear HO_118000 BK101 BK117 HB hq_; have HO_118000 := n0_; have BK101 := n1_; have BK117 := n2_; have HB := n3_; clear n0_ n1_ n2_ n3_))) | ((with_reducible refine qm (f := 82) rfl ?_); refine qy (some 127) rfl rfl Try.func82 (by kernel_rfl) rfl #[.string t129] rfl yq41 ?_; (with_reducible refine (spec_l12Int.calls k3 t129 t131 t132 t133 _ A29.out).mono ?_); rintro e w' ⟨rfl, ⟨nd, rfl⟩⟩; refine ⟨_, rfl, ?_⟩; (try (rw [drewN_self wr]; generalize hq_ : World.drewN wr _ = wr; have n0_ : Qz (Kd.R k66 66 wr w.heap.size (fun _ => True) u118000 x118000_3) := ⟨by rw [← hq_]; exact yq39⟩; have n1_ : Qz (wr.heap[gb101]? = some (.cells #[.slice none 0 0, .int .i64 x102001_3, .int .i64 x102002_3, .int .i64 x102003_3] 32 (0, 0))) := ⟨by rw [← hq_]; exact yq38⟩; have n2_ : Qz (wr.heap[gb117]? = some (.cells #[u118000, .int .i64 t105, .int .i64 t108, .int .i64 t111] 32 (0, 0))) := ⟨by rw [← hq_]; exact yq40⟩; have n3_ : Qz (Below w.heap.size w wr) := ⟨by rw [← hq_]; exact yq37⟩; clear HO_118000 BK101 BK117 HB hq_; have HO_118000 := n0_; have BK101 := n1_; have BK117 := n2_; have HB := n3_; clear n0_ n1_ n2_ n3_)); have hnb43 := NB101_117.out; have hnc43 := NB117_101.out; have hcz44_0 := (qg BK101.out 0).trans rfl; have hcz44_1 := (qg BK101.out 1).trans rfl; have hcz44_2 := (qg BK101.out 2).trans rfl; have hcz44_3 := (qg BK101.out 3).trans rfl; have hfz44_0 := qj BK101.out 0; have hfz44_1 := qj BK101.out 1; have hfz44_2 := qj BK101.out 2; have hfz44_3 := qj BK101.out 3))
              refine bodyPost_ret (results_ct rfl _ _ gb101 32 #[.slice none 0 0, .int .i64 0, .int .i64 0, .int .i64 0] (0, 0) _ rfl yq36 Try.underlying32 rfl (by kernel_rfl)) rfl ?_
              exact ⟨_, by first | rfl | (simp [qt, qr] <;> rfl) | (simp [*, qt, qr] <;> rfl), by first | exact Kd.R_nil _ _ _ _ _ | exact Kd.N_nil _ _ _ _ _ | exact Kd.V_nil _ _ _ _ _ | exact Kd.Q_nil _ _ _ _ _ | exact Kd.S_nil _ _ _ _ _, by repeat (first | (with_reducible first | exact HB.out | apply qi | apply qd | apply qh | refine qe ?_ GE101.out | refine qe ?_ GE117.out) | exact HB.out)⟩
            ·replace c32 := Bool.eq_false_iff.mpr c32
             subst c32
             have H1 : (some (([] : List (S66)), 0, 0, 0, false)) = some (r1, r2, r3, r4, r5) := by rw [if_neg (show ¬ (false = true) by decide)] at H; exact H
             clear H
             have H := H1
             clear H1
             simp only [Option.some.injEq, Prod.mk.injEq] at H
             obtain ⟨rfl, rfl, rfl, rfl, rfl⟩ := H
             go_wp2_with (first | ((with_reducible refine qm (f := 82) rfl ?_); refine qy (some 103) rfl rfl Try.func82 (by kernel_rfl) rfl #[.string x16_3] rfl yq41 ?_; (with_reducible refine (spec_l12Int.calls k3 x16_3 t119 t120 true _ A25.out).mono ?_); rintro e w' ⟨rfl, ⟨nd, rfl⟩⟩; refine ⟨_, rfl, ?_⟩; (try (rw [drewN_self wr]; generalize hq_ : World.drewN wr _ = wr; have n0_ : Qz (Kd.R k66 66 wr w.heap.size (fun _ => True) u118000 x118000_3) := ⟨by rw [← hq_]; exact yq39⟩; have n1_ : Qz (wr.heap[gb101]? = some (.cells #[.slice none 0 0, .int .i64 x102001_3, .int .i64 x102002_3, .int .i64 x102003_3] 32 (0, 0))) := ⟨by rw [← hq_]; exact yq38⟩; have n2_ : Qz (wr.heap[gb117]? = some (.cells #[u118000, .int .i64 t105, .int .i64 t108, .int .i64 t111] 32 (0, 0))) := ⟨by rw [← hq_]; exact yq40⟩; have n3_ : Qz (Below w.heap.size w wr) := ⟨by rw [← hq_]; exact yq37⟩; clear HO_118000 BK101 BK117 HB hq_; have HO_118000 := n0_; have BK101 := n1_; have BK117 := n2_; have HB := n3_; clear n0_ n1_ n2_ n3_))) | ((with_reducible refine qm (f := 82) rfl ?_); refine qy (some 109) rfl rfl Try.func82 (by kernel_rfl) rfl #[.string t120] rfl yq41 ?_; (with_reducible refine (spec_l12Int.calls k3 t120 t122 t123 true _ A26.out).mono ?_); rintro e w' ⟨rfl, ⟨nd, rfl⟩⟩; refine ⟨_, rfl, ?_⟩; (try (rw [drewN_self wr]; generalize hq_ : World.drewN wr _ = wr; have n0_ : Qz (Kd.R k66 66 wr w.heap.size (fun _ => True) u118000 x118000_3) := ⟨by rw [← hq_]; exact yq39⟩; have n1_ : Qz (wr.heap[gb101]? = some (.cells #[.slice none 0 0, .int .i64 x102001_3, .int .i64 x102002_3, .int .i64 x102003_3] 32 (0, 0))) := ⟨by rw [← hq_]; exact yq38⟩; have n2_ : Qz (wr.heap[gb117]? = some (.cells #[u118000, .int .i64 t105, .int .i64 t108, .int .i64 t111] 32 (0, 0))) := ⟨by rw [← hq_]; exact yq40⟩; have n3_ : Qz (Below w.heap.size w wr) := ⟨by rw [← hq_]; exact yq37⟩; clear HO_118000 BK101 BK117 HB hq_; have HO_118000 := n0_; have BK101 := n1_; have BK117 := n2_; have HB := n3_; clear n0_ n1_ n2_ n3_))) | ((with_reducible refine qm (f := 83) rfl ?_); refine qy (some 115) rfl rfl Try.func83 (by kernel_rfl) rfl #[.string t123] rfl yq41 ?_; (with_reducible refine (spec_TakeText.calls k3 t123 t125 t126 false _ A27.out).mono ?_); rintro e w' ⟨rfl, ⟨nd, rfl⟩⟩; refine ⟨_, rfl, ?_⟩; (try (rw [drewN_self wr]; generalize hq_ : World.drewN wr _ = wr; have n0_ : Qz (Kd.R k66 66 wr w.heap.size (fun _ => True) u118000 x118000_3) := ⟨by rw [← hq_]; exact yq39⟩; have n1_ : Qz (wr.heap[gb101]? = some (.cells #[.slice none 0 0, .int .i64 x102001_3, .int .i64 x102002_3, .int .i64 x102003_3] 32 (0, 0))) := ⟨by rw [← hq_]; exact yq38⟩; have n2_ : Qz (wr.heap[gb117]? = some (.cells #[u118000, .int .i64 t105, .int .i64 t108, .int .i64 t111] 32 (0, 0))) := ⟨by rw [← hq_]; exact yq40⟩; have n3_ : Qz (Below w.heap.size w wr) := ⟨by rw [← hq_]; exact yq37⟩; clear HO_118000 BK101 BK117 HB hq_; have HO_118000 := n0_; have BK101 := n1_; have BK117 := n2_; have HB := n3_; clear n0_ n1_ n2_ n3_))) | ((with_reducible refine qm (f := 83) rfl ?_); refine qy (some 121) rfl rfl Try.func83 (by kernel_rfl) rfl #[.string t126] rfl yq41 ?_; (with_reducible refine (spec_TakeText.calls k3 t126 t128 t129 t130 _ A28.out).mono ?_); rintro e w' ⟨rfl, ⟨nd, rfl⟩⟩; refine ⟨_, rfl, ?_⟩; (try (rw [drewN_self wr]; generalize hq_ : World.drewN wr _ = wr; have n0_ : Qz (Kd.R k66 66 wr w.heap.size (fun _ => True) u118000 x118000_3) := ⟨by rw [← hq_]; exact yq39⟩; have n1_ : Qz (wr.heap[gb101]? = some (.cells #[.slice none 0 0, .int .i64 x102001_3, .int .i64 x102002_3, .int .i64 x102003_3] 32 (0, 0))) := ⟨by rw [← hq_]; exact yq38⟩; have n2_ : Qz (wr.heap[gb117]? = some (.cells #[u118000, .int .i64 t105, .int .i64 t108, .int .i64 t111] 32 (0, 0))) := ⟨by rw [← hq_]; exact yq40⟩; have n3_ : Qz (Below w.heap.size w wr) := ⟨by rw [← hq_]; exact yq37⟩; clear HO_118000 BK101 BK117 HB hq_; have HO_118000 := n0_; have BK101 := n1_; have BK117 := n2_; have HB := n3_; clear n0_ n1_ n2_ n3_))) | ((with_reducible refine qm (f := 82) rfl ?_); refine qy (some 127) rfl rfl Try.func82 (by kernel_rfl) rfl #[.string t129] rfl yq41 ?_; (with_reducible refine (spec_l12Int.calls k3 t129 t131 t132 t133 _ A29.out).mono ?_); rintro e w' ⟨rfl, ⟨nd, rfl⟩⟩; refine ⟨_, rfl, ?_⟩; (try (rw [drewN_self wr]; generalize hq_ : World.drewN wr _ = wr; have n0_ : Qz (Kd.R k66 66 wr w.heap.size (fun _ => True) u118000 x118000_3) := ⟨by rw [← hq_]; exact yq39⟩; have n1_ : Qz (wr.heap[gb101]? = some (.cells #[.slice none 0 0, .int .i64 x102001_3, .int .i64 x102002_3, .int .i64 x102003_3] 32 (0, 0))) := ⟨by rw [← hq_]; exact yq38⟩; have n2_ : Qz (wr.heap[gb117]? = some (.cells #[u118000, .int .i64 t105, .int .i64 t108, .int .i64 t111] 32 (0, 0))) := ⟨by rw [← hq_]; exact yq40⟩; have n3_ : Qz (Below w.heap.size w wr) := ⟨by rw [← hq_]; exact yq37⟩; clear HO_118000 BK101 BK117 HB hq_; have HO_118000 := n0_; have BK101 := n1_; have BK117 := n2_; have HB := n3_; clear n0_ n1_ n2_ n3_)); have hnb45 := NB101_117.out; have hnc45 := NB117_101.out; have hcz46_0 := (qg BK101.out 0).trans rfl; have hcz46_1 := (qg BK101.out 1).trans rfl; have hcz46_2 := (qg BK101.out 2).trans rfl; have hcz46_3 := (qg BK101.out 3).trans rfl; have hfz46_0 := qj BK101.out 0; have hfz46_1 := qj BK101.out 1; have hfz46_2 := qj BK101.out 2; have hfz46_3 := qj BK101.out 3))
             refine bodyPost_ret (results_ct rfl _ _ gb101 32 #[.slice none 0 0, .int .i64 0, .int .i64 0, .int .i64 0] (0, 0) _ rfl yq36 Try.underlying32 rfl (by kernel_rfl)) rfl ?_
             exact ⟨_, by first | rfl | (simp [qt, qr] <;> rfl) | (simp [*, qt, qr] <;> rfl), by first | exact Kd.R_nil _ _ _ _ _ | exact Kd.N_nil _ _ _ _ _ | exact Kd.V_nil _ _ _ _ _ | exact Kd.Q_nil _ _ _ _ _ | exact Kd.S_nil _ _ _ _ _, by repeat (first | (with_reducible first | exact HB.out | apply qi | apply qd | apply qh | refine qe ?_ GE101.out | refine qe ?_ GE117.out) | exact HB.out)⟩
           ·replace c31 := Bool.eq_false_iff.mpr c31
            subst c31
            have H1 : (some (([] : List (S66)), 0, 0, 0, false)) = some (r1, r2, r3, r4, r5) := by rw [if_neg (show ¬ (false = true) by decide)] at H; exact H
            clear H
            have H := H1
            clear H1
            simp only [Option.some.injEq, Prod.mk.injEq] at H
            obtain ⟨rfl, rfl, rfl, rfl, rfl⟩ := H
            go_wp2_with (first | ((with_reducible refine qm (f := 82) rfl ?_); refine qy (some 103) rfl rfl Try.func82 (by kernel_rfl) rfl #[.string x16_3] rfl yq41 ?_; (with_reducible refine (spec_l12Int.calls k3 x16_3 t119 t120 true _ A25.out).mono ?_); rintro e w' ⟨rfl, ⟨nd, rfl⟩⟩; refine ⟨_, rfl, ?_⟩; (try (rw [drewN_self wr]; generalize hq_ : World.drewN wr _ = wr; have n0_ : Qz (Kd.R k66 66 wr w.heap.size (fun _ => True) u118000 x118000_3) := ⟨by rw [← hq_]; exact yq39⟩; have n1_ : Qz (wr.heap[gb101]? = some (.cells #[.slice none 0 0, .int .i64 x102001_3, .int .i64 x102002_3, .int .i64 x102003_3] 32 (0, 0))) := ⟨by rw [← hq_]; exact yq38⟩; have n2_ : Qz (wr.heap[gb117]? = some (.cells #[u118000, .int .i64 t105, .int .i64 t108, .int .i64 t111] 32 (0, 0))) := ⟨by rw [← hq_]; exact yq40⟩; have n3_ : Qz (Below w.heap.size w wr) := ⟨by rw [← hq_]; exact yq37⟩; clear HO_118000 BK101 BK117 HB hq_; have HO_118000 := n0_; have BK101 := n1_; have BK117 := n2_; have HB := n3_; clear n0_ n1_ n2_ n3_))) | ((with_reducible refine qm (f := 82) rfl ?_); refine qy (some 109) rfl rfl Try.func82 (by kernel_rfl) rfl #[.string t120] rfl yq41 ?_; (with_reducible refine (spec_l12Int.calls k3 t120 t122 t123 false _ A26.out).mono ?_); rintro e w' ⟨rfl, ⟨nd, rfl⟩⟩; refine ⟨_, rfl, ?_⟩; (try (rw [drewN_self wr]; generalize hq_ : World.drewN wr _ = wr; have n0_ : Qz (Kd.R k66 66 wr w.heap.size (fun _ => True) u118000 x118000_3) := ⟨by rw [← hq_]; exact yq39⟩; have n1_ : Qz (wr.heap[gb101]? = some (.cells #[.slice none 0 0, .int .i64 x102001_3, .int .i64 x102002_3, .int .i64 x102003_3] 32 (0, 0))) := ⟨by rw [← hq_]; exact yq38⟩; have n2_ : Qz (wr.heap[gb117]? = some (.cells #[u118000, .int .i64 t105, .int .i64 t108, .int .i64 t111] 32 (0, 0))) := ⟨by rw [← hq_]; exact yq40⟩; have n3_ : Qz (Below w.heap.size w wr) := ⟨by rw [← hq_]; exact yq37⟩; clear HO_118000 BK101 BK117 HB hq_; have HO_118000 := n0_; have BK101 := n1_; have BK117 := n2_; have HB := n3_; clear n0_ n1_ n2_ n3_))) | ((with_reducible refine qm (f := 83) rfl ?_); refine qy (some 115) rfl rfl Try.func83 (by kernel_rfl) rfl #[.string t123] rfl yq41 ?_; (with_reducible refine (spec_TakeText.calls k3 t123 t125 t126 t127 _ A27.out).mono ?_); rintro e w' ⟨rfl, ⟨nd, rfl⟩⟩; refine ⟨_, rfl, ?_⟩; (try (rw [drewN_self wr]; generalize hq_ : World.drewN wr _ = wr; have n0_ : Qz (Kd.R k66 66 wr w.heap.size (fun _ => True) u118000 x118000_3) := ⟨by rw [← hq_]; exact yq39⟩; have n1_ : Qz (wr.heap[gb101]? = some (.cells #[.slice none 0 0, .int .i64 x102001_3, .int .i64 x102002_3, .int .i64 x102003_3] 32 (0, 0))) := ⟨by rw [← hq_]; exact yq38⟩; have n2_ : Qz (wr.heap[gb117]? = some (.cells #[u118000, .int .i64 t105, .int .i64 t108, .int .i64 t111] 32 (0, 0))) := ⟨by rw [← hq_]; exact yq40⟩; have n3_ : Qz (Below w.heap.size w wr) := ⟨by rw [← hq_]; exact yq37⟩; clear HO_118000 BK101 BK117 HB hq_; have HO_118000 := n0_; have BK101 := n1_; have BK117 := n2_; have HB := n3_; clear n0_ n1_ n2_ n3_))) | ((with_reducible refine qm (f := 83) rfl ?_); refine qy (some 121) rfl rfl Try.func83 (by kernel_rfl) rfl #[.string t126] rfl yq41 ?_; (with_reducible refine (spec_TakeText.calls k3 t126 t128 t129 t130 _ A28.out).mono ?_); rintro e w' ⟨rfl, ⟨nd, rfl⟩⟩; refine ⟨_, rfl, ?_⟩; (try (rw [drewN_self wr]; generalize hq_ : World.drewN wr _ = wr; have n0_ : Qz (Kd.R k66 66 wr w.heap.size (fun _ => True) u118000 x118000_3) := ⟨by rw [← hq_]; exact yq39⟩; have n1_ : Qz (wr.heap[gb101]? = some (.cells #[.slice none 0 0, .int .i64 x102001_3, .int .i64 x102002_3, .int .i64 x102003_3] 32 (0, 0))) := ⟨by rw [← hq_]; exact yq38⟩; have n2_ : Qz (wr.heap[gb117]? = some (.cells #[u118000, .int .i64 t105, .int .i64 t108, .int .i64 t111] 32 (0, 0))) := ⟨by rw [← hq_]; exact yq40⟩; have n3_ : Qz (Below w.heap.size w wr) := ⟨by rw [← hq_]; exact yq37⟩; clear HO_118000 BK101 BK117 HB hq_; have HO_118000 := n0_; have BK101 := n1_; have BK117 := n2_; have HB := n3_; clear n0_ n1_ n2_ n3_))) | ((with_reducible refine qm (f := 82) rfl ?_); refine qy (some 127) rfl rfl Try.func82 (by kernel_rfl) rfl #[.string t129] rfl yq41 ?_; (with_reducible refine (spec_l12Int.calls k3 t129 t131 t132 t133 _ A29.out).mono ?_); rintro e w' ⟨rfl, ⟨nd, rfl⟩⟩; refine ⟨_, rfl, ?_⟩; (try (rw [drewN_self wr]; generalize hq_ : World.drewN wr _ = wr; have n0_ : Qz (Kd.R k66 66 wr w.heap.size (fun _ => True) u118000 x118000_3) := ⟨by rw [← hq_]; exact yq39⟩; have n1_ : Qz (wr.heap[gb101]? = some (.cells #[.slice none 0 0, .int .i64 x102001_3, .int .i64 x102002_3, .int .i64 x102003_3] 32 (0, 0))) := ⟨by rw [← hq_]; exact yq38⟩; have n2_ : Qz (wr.heap[gb117]? = some (.cells #[u118000, .int .i64 t105, .int .i64 t108, .int .i64 t111] 32 (0, 0))) := ⟨by rw [← hq_]; exact yq40⟩; have n3_ : Qz (Below w.heap.size w wr) := ⟨by rw [← hq_]; exact yq37⟩; clear HO_118000 BK101 BK117 HB hq_; have HO_118000 := n0_; have BK101 := n1_; have BK117 := n2_; have HB := n3_; clear n0_ n1_ n2_ n3_)); have hnb47 := NB101_117.out; have hnc47 := NB117_101.out; have hcz48_0 := (qg BK101.out 0).trans rfl; have hcz48_1 := (qg BK101.out 1).trans rfl; have hcz48_2 := (qg BK101.out 2).trans rfl; have hcz48_3 := (qg BK101.out 3).trans rfl; have hfz48_0 := qj BK101.out 0; have hfz48_1 := qj BK101.out 1; have hfz48_2 := qj BK101.out 2; have hfz48_3 := qj BK101.out 3))
            refine bodyPost_ret (results_ct rfl _ _ gb101 32 #[.slice none 0 0, .int .i64 0, .int .i64 0, .int .i64 0] (0, 0) _ rfl yq36 Try.underlying32 rfl (by kernel_rfl)) rfl ?_
            exact ⟨_, by first | rfl | (simp [qt, qr] <;> rfl) | (simp [*, qt, qr] <;> rfl), by first | exact Kd.R_nil _ _ _ _ _ | exact Kd.N_nil _ _ _ _ _ | exact Kd.V_nil _ _ _ _ _ | exact Kd.Q_nil _ _ _ _ _ | exact Kd.S_nil _ _ _ _ _, by repeat (first | (with_reducible first | exact HB.out | apply qi | apply qd | apply qh | refine qe ?_ GE101.out | refine qe ?_ GE117.out) | exact HB.out)⟩
          ·replace c30 := Bool.eq_false_iff.mpr c30
           subst c30
           have H1 : (some (([] : List (S66)), 0, 0, 0, false)) = some (r1, r2, r3, r4, r5) := by rw [if_neg (show ¬ (false = true) by decide)] at H; exact H
           clear H
           have H := H1
           clear H1
           simp only [Option.some.injEq, Prod.mk.injEq] at H
           obtain ⟨rfl, rfl, rfl, rfl, rfl⟩ := H
           go_wp2_with (first | ((with_reducible refine qm (f := 82) rfl ?_); refine qy (some 103) rfl rfl Try.func82 (by kernel_rfl) rfl #[.string x16_3] rfl yq41 ?_; (with_reducible refine (spec_l12Int.calls k3 x16_3 t119 t120 false _ A25.out).mono ?_); rintro e w' ⟨rfl, ⟨nd, rfl⟩⟩; refine ⟨_, rfl, ?_⟩; (try (rw [drewN_self wr]; generalize hq_ : World.drewN wr _ = wr; have n0_ : Qz (Kd.R k66 66 wr w.heap.size (fun _ => True) u118000 x118000_3) := ⟨by rw [← hq_]; exact yq39⟩; have n1_ : Qz (wr.heap[gb101]? = some (.cells #[.slice none 0 0, .int .i64 x102001_3, .int .i64 x102002_3, .int .i64 x102003_3] 32 (0, 0))) := ⟨by rw [← hq_]; exact yq38⟩; have n2_ : Qz (wr.heap[gb117]? = some (.cells #[u118000, .int .i64 t105, .int .i64 t108, .int .i64 t111] 32 (0, 0))) := ⟨by rw [← hq_]; exact yq40⟩; have n3_ : Qz (Below w.heap.size w wr) := ⟨by rw [← hq_]; exact yq37⟩; clear HO_118000 BK101 BK117 HB hq_; have HO_118000 := n0_; have BK101 := n1_; have BK117 := n2_; have HB := n3_; clear n0_ n1_ n2_ n3_))) | ((with_reducible refine qm (f := 82) rfl ?_); refine qy (some 109) rfl rfl Try.func82 (by kernel_rfl) rfl #[.string t120] rfl yq41 ?_; (with_reducible refine (spec_l12Int.calls k3 t120 t122 t123 t124 _ A26.out).mono ?_); rintro e w' ⟨rfl, ⟨nd, rfl⟩⟩; refine ⟨_, rfl, ?_⟩; (try (rw [drewN_self wr]; generalize hq_ : World.drewN wr _ = wr; have n0_ : Qz (Kd.R k66 66 wr w.heap.size (fun _ => True) u118000 x118000_3) := ⟨by rw [← hq_]; exact yq39⟩; have n1_ : Qz (wr.heap[gb101]? = some (.cells #[.slice none 0 0, .int .i64 x102001_3, .int .i64 x102002_3, .int .i64 x102003_3] 32 (0, 0))) := ⟨by rw [← hq_]; exact yq38⟩; have n2_ : Qz (wr.heap[gb117]? = some (.cells #[u118000, .int .i64 t105, .int .i64 t108, .int .i64 t111] 32 (0, 0))) := ⟨by rw [← hq_]; exact yq40⟩; have n3_ : Qz (Below w.heap.size w wr) := ⟨by rw [← hq_]; exact yq37⟩; clear HO_118000 BK101 BK117 HB hq_; have HO_118000 := n0_; have BK101 := n1_; have BK117 := n2_; have HB := n3_; clear n0_ n1_ n2_ n3_))) | ((with_reducible refine qm (f := 83) rfl ?_); refine qy (some 115) rfl rfl Try.func83 (by kernel_rfl) rfl #[.string t123] rfl yq41 ?_; (with_reducible refine (spec_TakeText.calls k3 t123 t125 t126 t127 _ A27.out).mono ?_); rintro e w' ⟨rfl, ⟨nd, rfl⟩⟩; refine ⟨_, rfl, ?_⟩; (try (rw [drewN_self wr]; generalize hq_ : World.drewN wr _ = wr; have n0_ : Qz (Kd.R k66 66 wr w.heap.size (fun _ => True) u118000 x118000_3) := ⟨by rw [← hq_]; exact yq39⟩; have n1_ : Qz (wr.heap[gb101]? = some (.cells #[.slice none 0 0, .int .i64 x102001_3, .int .i64 x102002_3, .int .i64 x102003_3] 32 (0, 0))) := ⟨by rw [← hq_]; exact yq38⟩; have n2_ : Qz (wr.heap[gb117]? = some (.cells #[u118000, .int .i64 t105, .int .i64 t108, .int .i64 t111] 32 (0, 0))) := ⟨by rw [← hq_]; exact yq40⟩; have n3_ : Qz (Below w.heap.size w wr) := ⟨by rw [← hq_]; exact yq37⟩; clear HO_118000 BK101 BK117 HB hq_; have HO_118000 := n0_; have BK101 := n1_; have BK117 := n2_; have HB := n3_; clear n0_ n1_ n2_ n3_))) | ((with_reducible refine qm (f := 83) rfl ?_); refine qy (some 121) rfl rfl Try.func83 (by kernel_rfl) rfl #[.string t126] rfl yq41 ?_; (with_reducible refine (spec_TakeText.calls k3 t126 t128 t129 t130 _ A28.out).mono ?_); rintro e w' ⟨rfl, ⟨nd, rfl⟩⟩; refine ⟨_, rfl, ?_⟩; (try (rw [drewN_self wr]; generalize hq_ : World.drewN wr _ = wr; have n0_ : Qz (Kd.R k66 66 wr w.heap.size (fun _ => True) u118000 x118000_3) := ⟨by rw [← hq_]; exact yq39⟩; have n1_ : Qz (wr.heap[gb101]? = some (.cells #[.slice none 0 0, .int .i64 x102001_3, .int .i64 x102002_3, .int .i64 x102003_3] 32 (0, 0))) := ⟨by rw [← hq_]; exact yq38⟩; have n2_ : Qz (wr.heap[gb117]? = some (.cells #[u118000, .int .i64 t105, .int .i64 t108, .int .i64 t111] 32 (0, 0))) := ⟨by rw [← hq_]; exact yq40⟩; have n3_ : Qz (Below w.heap.size w wr) := ⟨by rw [← hq_]; exact yq37⟩; clear HO_118000 BK101 BK117 HB hq_; have HO_118000 := n0_; have BK101 := n1_; have BK117 := n2_; have HB := n3_; clear n0_ n1_ n2_ n3_))) | ((with_reducible refine qm (f := 82) rfl ?_); refine qy (some 127) rfl rfl Try.func82 (by kernel_rfl) rfl #[.string t129] rfl yq41 ?_; (with_reducible refine (spec_l12Int.calls k3 t129 t131 t132 t133 _ A29.out).mono ?_); rintro e w' ⟨rfl, ⟨nd, rfl⟩⟩; refine ⟨_, rfl, ?_⟩; (try (rw [drewN_self wr]; generalize hq_ : World.drewN wr _ = wr; have n0_ : Qz (Kd.R k66 66 wr w.heap.size (fun _ => True) u118000 x118000_3) := ⟨by rw [← hq_]; exact yq39⟩; have n1_ : Qz (wr.heap[gb101]? = some (.cells #[.slice none 0 0, .int .i64 x102001_3, .int .i64 x102002_3, .int .i64 x102003_3] 32 (0, 0))) := ⟨by rw [← hq_]; exact yq38⟩; have n2_ : Qz (wr.heap[gb117]? = some (.cells #[u118000, .int .i64 t105, .int .i64 t108, .int .i64 t111] 32 (0, 0))) := ⟨by rw [← hq_]; exact yq40⟩; have n3_ : Qz (Below w.heap.size w wr) := ⟨by rw [← hq_]; exact yq37⟩; clear HO_118000 BK101 BK117 HB hq_; have HO_118000 := n0_; have BK101 := n1_; have BK117 := n2_; have HB := n3_; clear n0_ n1_ n2_ n3_)); have hnb49 := NB101_117.out; have hnc49 := NB117_101.out; have hcz50_0 := (qg BK101.out 0).trans rfl; have hcz50_1 := (qg BK101.out 1).trans rfl; have hcz50_2 := (qg BK101.out 2).trans rfl; have hcz50_3 := (qg BK101.out 3).trans rfl; have hfz50_0 := qj BK101.out 0; have hfz50_1 := qj BK101.out 1; have hfz50_2 := qj BK101.out 2; have hfz50_3 := qj BK101.out 3))
           refine bodyPost_ret (results_ct rfl _ _ gb101 32 #[.slice none 0 0, .int .i64 0, .int .i64 0, .int .i64 0] (0, 0) _ rfl yq36 Try.underlying32 rfl (by kernel_rfl)) rfl ?_
           exact ⟨_, by first | rfl | (simp [qt, qr] <;> rfl) | (simp [*, qt, qr] <;> rfl), by first | exact Kd.R_nil _ _ _ _ _ | exact Kd.N_nil _ _ _ _ _ | exact Kd.V_nil _ _ _ _ _ | exact Kd.Q_nil _ _ _ _ _ | exact Kd.S_nil _ _ _ _ _, by repeat (first | (with_reducible first | exact HB.out | apply qi | apply qd | apply qh | refine qe ?_ GE101.out | refine qe ?_ GE117.out) | exact HB.out)⟩
         ·rw [if_neg c24] at H
          have c24b0 : decide (x19_3 < t114) = false := decide_eq_false c24
          clear c24
          by_cases c51 : x16_3.toList = ([] : List UInt8)
          ·rw [if_pos c51] at H
           have c51b0 : (x16_3.toList == ([] : List UInt8)) = true := beq_iff_eq.mpr c51
           have c51b1 : (x16_3.toList != ([] : List UInt8)) = false := bne_eq_false_iff_eq.mpr c51
           clear c51
           replace H := Option.bind_eq_some_iff.mp H
           obtain ⟨t118, A520, H⟩ := H
           replace H : (if t118 = true then (some (x118000_3, t105, t108, t111, true)) else (some (([] : List (S66)), 0, 0, 0, false))) = some (r1, r2, r3, r4, r5) := H
           have A52 := Qz.mk A520
           clear A520
           by_cases c53 : t118 = true
           ·subst c53
            have H1 : (some (x118000_3, t105, t108, t111, true)) = some (r1, r2, r3, r4, r5) := by rw [if_pos rfl] at H; exact H
            clear H
            have H := H1
            clear H1
            simp only [Option.some.injEq, Prod.mk.injEq] at H
            obtain ⟨rfl, rfl, rfl, rfl, rfl⟩ := H
            have hnb54 := NB117_101.out
            have hnc54 := NB101_117.out
            have hcz55_0 := (qg BK117.out 0).trans rfl
            have hcz55_1 := (qg BK117.out 1).trans rfl
            have hcz55_2 := (qg BK117.out 2).trans rfl
            have hcz55_3 := (qg BK117.out 3).trans rfl
            have hfz55_0 := qj BK117.out 0
            have hfz55_1 := qj BK117.out 1
            have hfz55_2 := qj BK117.out 2
            have hfz55_3 := qj BK117.out 3
            obtain ⟨Ao56, co56, eo56⟩ := Kd.R_slice HO_118000.out
            subst eo56
            go_wp2_with (first | (go_at_call 26; (with_reducible refine (spec_VersionOk.calls k3 _ _ x118000_3 t105 t108 t111 true _ ?side1 ?side2 A52.out).mono ?_); (case side1 => repeat (first | exact (Kd.R_reads' HO_118000.out).2.2 | (with_reducible refine Kd.C_alloc ?_ _) | (with_reducible refine Kd.C_drewN ?_ _) | (with_reducible refine Kd.C_drew ?_))); (case side2 => exact (Kd.R_reads' HO_118000.out).2.1); rintro e w57 ⟨rfl, hb⟩; replace HO_118000 := Qz.mk (Kd.R_below yq39 hb); replace BK101 := Qz.mk (qu (g := gb101) (o := .cells #[.slice none 0 0, .int .i64 x102001_3, .int .i64 x102002_3, .int .i64 x102003_3] 32 (0, 0)) yq38 hb); replace BK117 := Qz.mk (qu (g := gb117) (o := .cells #[.slice Ao56 x118000_3.length co56, .int .i64 t105, .int .i64 t108, .int .i64 t111] 32 (0, 0)) yq40 hb); replace HB := Qz.mk (qq yq37 hb); (try clear hb); (try clear hk); have hcz58_0 := (qg BK117.out 0).trans rfl; have hcz58_1 := (qg BK117.out 1).trans rfl; have hcz58_2 := (qg BK117.out 2).trans rfl; have hcz58_3 := (qg BK117.out 3).trans rfl; have hfz58_0 := qj BK117.out 0; have hfz58_1 := qj BK117.out 1; have hfz58_2 := qj BK117.out 2; have hfz58_3 := qj BK117.out 3; have hcz59_0 := (qg BK101.out 0).trans rfl; have hcz59_1 := (qg BK101.out 1).trans rfl; have hcz59_2 := (qg BK101.out 2).trans rfl; have hcz59_3 := (qg BK101.out 3).trans rfl; have hfz59_0 := qj BK101.out 0; have hfz59_1 := qj BK101.out 1; have hfz59_2 := qj BK101.out 2; have hfz59_3 := qj BK101.out 3))
            refine bodyPost_ret (results_ct rfl _ _ gb101 32 #[.slice Ao56 x118000_3.length co56, .int .i64 t105, .int .i64 t108, .int .i64 t111] (0, 0) _ rfl (by (with_reducible repeat (first | refine qc ?_ _ | refine qf ?_ | refine qa ?_ _)); refine qw (cs := #[.slice Ao56 x118000_3.length co56, .int .i64 t105, .int .i64 t108, .int .i64 x102003_3]) ?_ 3 _ rfl; (with_reducible repeat (first | refine qc ?_ _ | refine qf ?_ | refine qa ?_ _)); refine qw (cs := #[.slice Ao56 x118000_3.length co56, .int .i64 t105, .int .i64 x102002_3, .int .i64 x102003_3]) ?_ 2 _ rfl; (with_reducible repeat (first | refine qc ?_ _ | refine qf ?_ | refine qa ?_ _)); refine qw (cs := #[.slice Ao56 x118000_3.length co56, .int .i64 x102001_3, .int .i64 x102002_3, .int .i64 x102003_3]) ?_ 1 _ rfl; (with_reducible repeat (first | refine qc ?_ _ | refine qf ?_ | refine qa ?_ _)); refine qw (cs := #[.slice none 0 0, .int .i64 x102001_3, .int .i64 x102002_3, .int .i64 x102003_3]) ?_ 0 _ rfl; (with_reducible repeat (first | refine qc ?_ _ | refine qf ?_ | refine qa ?_ _)); exact BK101.out) Try.underlying32 rfl (by kernel_rfl)) rfl ?_
            exact ⟨_, by first | rfl | (simp [qt, qr] <;> rfl) | (simp [*, qt, qr] <;> rfl), by (with_reducible repeat (first | apply Kd.R_alloc | apply Kd.R_drewN | apply Kd.R_drew)); exact Kd.R_mono (Kd.R_far (p := ⟨gb101, 3, none⟩) (Kd.R_far (p := ⟨gb101, 2, none⟩) (Kd.R_far (p := ⟨gb101, 1, none⟩) (Kd.R_far (p := ⟨gb101, 0, none⟩) (Kd.R_types HO_118000.out BK101.out (by decide)) (fun _ hk => hk.2) (.slice Ao56 x118000_3.length co56)) (fun _ hk => hk.2) (.int .i64 t105)) (fun _ hk => hk.2) (.int .i64 t108)) (fun _ hk => hk.2) (.int .i64 t111)) (fun _ hk => trivial), by repeat (first | (with_reducible first | exact HB.out | apply qi | apply qd | apply qh | refine qe ?_ GE101.out | refine qe ?_ GE117.out) | exact HB.out)⟩
           ·replace c53 := Bool.eq_false_iff.mpr c53
            subst c53
            have H1 : (some (([] : List (S66)), 0, 0, 0, false)) = some (r1, r2, r3, r4, r5) := by rw [if_neg (show ¬ (false = true) by decide)] at H; exact H
            clear H
            have H := H1
            clear H1
            simp only [Option.some.injEq, Prod.mk.injEq] at H
            obtain ⟨rfl, rfl, rfl, rfl, rfl⟩ := H
            have hnb60 := NB117_101.out
            have hnc60 := NB101_117.out
            have hcz61_0 := (qg BK117.out 0).trans rfl
            have hcz61_1 := (qg BK117.out 1).trans rfl
            have hcz61_2 := (qg BK117.out 2).trans rfl
            have hcz61_3 := (qg BK117.out 3).trans rfl
            have hfz61_0 := qj BK117.out 0
            have hfz61_1 := qj BK117.out 1
            have hfz61_2 := qj BK117.out 2
            have hfz61_3 := qj BK117.out 3
            obtain ⟨Ao62, co62, eo62⟩ := Kd.R_slice HO_118000.out
            subst eo62
            go_wp2_with (first | (go_at_call 26; (with_reducible refine (spec_VersionOk.calls k3 _ _ x118000_3 t105 t108 t111 false _ ?side1 ?side2 A52.out).mono ?_); (case side1 => repeat (first | exact (Kd.R_reads' HO_118000.out).2.2 | (with_reducible refine Kd.C_alloc ?_ _) | (with_reducible refine Kd.C_drewN ?_ _) | (with_reducible refine Kd.C_drew ?_))); (case side2 => exact (Kd.R_reads' HO_118000.out).2.1); rintro e w63 ⟨rfl, hb⟩; replace HO_118000 := Qz.mk (Kd.R_below yq39 hb); replace BK101 := Qz.mk (qu (g := gb101) (o := .cells #[.slice none 0 0, .int .i64 x102001_3, .int .i64 x102002_3, .int .i64 x102003_3] 32 (0, 0)) yq38 hb); replace BK117 := Qz.mk (qu (g := gb117) (o := .cells #[.slice Ao62 x118000_3.length co62, .int .i64 t105, .int .i64 t108, .int .i64 t111] 32 (0, 0)) yq40 hb); replace HB := Qz.mk (qq yq37 hb); (try clear hb); (try clear hk); have hcz64_0 := (qg BK101.out 0).trans rfl; have hcz64_1 := (qg BK101.out 1).trans rfl; have hcz64_2 := (qg BK101.out 2).trans rfl; have hcz64_3 := (qg BK101.out 3).trans rfl; have hfz64_0 := qj BK101.out 0; have hfz64_1 := qj BK101.out 1; have hfz64_2 := qj BK101.out 2; have hfz64_3 := qj BK101.out 3))
            refine bodyPost_ret (results_ct rfl _ _ gb101 32 #[.slice none 0 0, .int .i64 0, .int .i64 0, .int .i64 0] (0, 0) _ rfl yq36 Try.underlying32 rfl (by kernel_rfl)) rfl ?_
            exact ⟨_, by first | rfl | (simp [qt, qr] <;> rfl) | (simp [*, qt, qr] <;> rfl), by first | exact Kd.R_nil _ _ _ _ _ | exact Kd.N_nil _ _ _ _ _ | exact Kd.V_nil _ _ _ _ _ | exact Kd.Q_nil _ _ _ _ _ | exact Kd.S_nil _ _ _ _ _, by repeat (first | (with_reducible first | exact HB.out | apply qi | apply qd | apply qh | refine qe ?_ GE101.out | refine qe ?_ GE117.out) | exact HB.out)⟩
          ·rw [if_neg c51] at H
           have c51b0 : (x16_3.toList == ([] : List UInt8)) = false := beq_eq_false_iff_ne.mpr c51
           have c51b1 : (x16_3.toList != ([] : List UInt8)) = true := bne_iff_ne.mpr c51
           simp only [Option.some.injEq, Prod.mk.injEq] at H
           obtain ⟨rfl, rfl, rfl, rfl, rfl⟩ := H
           have hnb65 := NB101_117.out
           have hnc65 := NB117_101.out
           have hcz66_0 := (qg BK101.out 0).trans rfl
           have hcz66_1 := (qg BK101.out 1).trans rfl
           have hcz66_2 := (qg BK101.out 2).trans rfl
           have hcz66_3 := (qg BK101.out 3).trans rfl
           have hfz66_0 := qj BK101.out 0
           have hfz66_1 := qj BK101.out 1
           have hfz66_2 := qj BK101.out 2
           have hfz66_3 := qj BK101.out 3
           go_wp2
           refine bodyPost_ret (results_ct rfl _ _ gb101 32 #[.slice none 0 0, .int .i64 0, .int .i64 0, .int .i64 0] (0, 0) _ rfl yq36 Try.underlying32 rfl (by kernel_rfl)) rfl ?_
           exact ⟨_, by first | rfl | (simp [qt, qr] <;> rfl) | (simp [*, qt, qr] <;> rfl), by first | exact Kd.R_nil _ _ _ _ _ | exact Kd.N_nil _ _ _ _ _ | exact Kd.V_nil _ _ _ _ _ | exact Kd.Q_nil _ _ _ _ _ | exact Kd.S_nil _ _ _ _ _, by repeat (first | (with_reducible first | exact HB.out | apply qi | apply qd | apply qh | refine qe ?_ GE101.out | refine qe ?_ GE117.out) | exact HB.out)⟩
theorem yq45 {P : Prop} (h : P := by first | (with_reducible assumption) | assumption) : P := h
def impl_TakeFixed.f (a0 : ByteArray) : Option (Int × ByteArray × Bool) := if (a0.size : Int) < 4 then (some (0, (⟨#[]⟩ : ByteArray), false)) else (if 0 < (a0.size : Int) then (if 1 < (a0.size : Int) then (if 2 < (a0.size : Int) then (if 3 < (a0.size : Int) then (if 4 ≤ (a0.size : Int) then (some (Go.bits .or .u32 (Go.bits .or .u32 (Go.bits .or .u32 ((bt a0 0) % 4294967296) ((((bt a0 1) % 4294967296) * 256) % 4294967296)) ((((bt a0 2) % 4294967296) * 65536) % 4294967296)) ((((bt a0 3) % 4294967296) * 16777216) % 4294967296), a0.extract 4 a0.size, true)) else (none)) else (none)) else (none)) else (none)) else (none))
set_option maxHeartbeats 8000000 in
set_option maxRecDepth 100000 in
theorem impl_TakeFixed.calls (a0 : ByteArray) (r1 : Int) (r2 : ByteArray) (r3 : Bool) (w : World) (h : impl_TakeFixed.f a0 = some (r1, r2, r3)) :
  Calls Try.prog 122 #[.string a0] w fun e w' => e = .returned (.tuple #[.int .u32 r1, .string r2, .bool r3]) ∧ Drawn0 w w' := by
 have H : (if (a0.size : Int) < 4 then (some (0, (⟨#[]⟩ : ByteArray), false)) else (if 0 < (a0.size : Int) then (if 1 < (a0.size : Int) then (if 2 < (a0.size : Int) then (if 3 < (a0.size : Int) then (if 4 ≤ (a0.size : Int) then (some (Go.bits .or .u32 (Go.bits .or .u32 (Go.bits .or .u32 ((bt a0 0) % 4294967296) ((((bt a0 1) % 4294967296) * 256) % 4294967296)) ((((bt a0 2) % 4294967296) * 65536) % 4294967296)) ((((bt a0 3) % 4294967296) * 16777216) % 4294967296), a0.extract 4 a0.size, true)) else (none)) else (none)) else (none)) else (none)) else (none))) = some (r1, r2, r3) := h
 clear h
 by_cases c2 : (a0.size : Int) < 4
 ·rw [if_pos c2] at H
  have c2b0 : decide ((a0.size : Int) < 4) = true := decide_eq_true c2
  have c2b1 : decide (a0.size < 4) = true := decide_eq_true (by omega)
  clear c2
  simp only [Option.some.injEq, Prod.mk.injEq] at H
  obtain ⟨rfl, rfl, rfl⟩ := H
  go_enter Try.func122, Try.ntmps122
  go_wp2
  repeat (go_quiet (fail); try go_wp2)
  go_ret3
  exact ⟨by first | rfl | (simp; done) | (simp [*]; done), by repeat (first | exact Drawn0.refl _ | apply Drawn0.step)⟩
 ·rw [if_neg c2] at H
  have c2b0 : decide ((a0.size : Int) < 4) = false := decide_eq_false c2
  have c2b1 : decide (a0.size < 4) = false := decide_eq_false (by omega)
  clear c2
  by_cases c3 : 0 < (a0.size : Int)
  ·rw [if_pos c3] at H
   have c3b0 : decide (0 < (a0.size : Int)) = true := decide_eq_true c3
   have c3b1 : decide (0 < a0.size) = true := decide_eq_true (by omega)
   clear c3
   by_cases c5 : 1 < (a0.size : Int)
   ·rw [if_pos c5] at H
    have c5b0 : decide (1 < (a0.size : Int)) = true := decide_eq_true c5
    have c5b1 : decide (1 < a0.size) = true := decide_eq_true (by omega)
    clear c5
    by_cases c7 : 2 < (a0.size : Int)
    ·rw [if_pos c7] at H
     have c7b0 : decide (2 < (a0.size : Int)) = true := decide_eq_true c7
     have c7b1 : decide (2 < a0.size) = true := decide_eq_true (by omega)
     clear c7
     by_cases c9 : 3 < (a0.size : Int)
     ·rw [if_pos c9] at H
      have c9b0 : decide (3 < (a0.size : Int)) = true := decide_eq_true c9
      have c9b1 : decide (3 < a0.size) = true := decide_eq_true (by omega)
      clear c9
      by_cases c11 : 4 ≤ (a0.size : Int)
      ·rw [if_pos c11] at H
       have c11b0 := eq_true c11
       have c11b1 : decide (4 ≤ (a0.size : Int)) = true := decide_eq_true c11
       clear c11
       simp only [Option.some.injEq, Prod.mk.injEq] at H
       obtain ⟨rfl, rfl, rfl⟩ := H
       have p4 : 0 ≤ (0 : Int) := (by omega)
       have q4 : 0 < a0.size := (by have : (0 : Int) < (a0.size : Int) := of_decide_eq_true yq45; omega)
       have hx4 : ∀ h : 0 < a0.size, ((a0[0]'h).toNat : Int) = bt a0 0 := bt_at a0 0
       clear p4
       have qi4 : (0 < (a0.size : Int)) = True := eq_true (of_decide_eq_true yq45)
       replace q4 := eq_true q4
       have p6 : 0 ≤ (1 : Int) := (by omega)
       have q6 : 1 < a0.size := (by have : (1 : Int) < (a0.size : Int) := of_decide_eq_true yq45; omega)
       have hx6 : ∀ h : 1 < a0.size, ((a0[1]'h).toNat : Int) = bt a0 1 := bt_at a0 1
       clear p6
       have qi6 : (1 < (a0.size : Int)) = True := eq_true (of_decide_eq_true yq45)
       replace q6 := eq_true q6
       have p8 : 0 ≤ (2 : Int) := (by omega)
       have q8 : 2 < a0.size := (by have : (2 : Int) < (a0.size : Int) := of_decide_eq_true yq45; omega)
       have hx8 : ∀ h : 2 < a0.size, ((a0[2]'h).toNat : Int) = bt a0 2 := bt_at a0 2
       clear p8
       have qi8 : (2 < (a0.size : Int)) = True := eq_true (of_decide_eq_true yq45)
       replace q8 := eq_true q8
       have p10 : 0 ≤ (3 : Int) := (by omega)
       have q10 : 3 < a0.size := (by have : (3 : Int) < (a0.size : Int) := of_decide_eq_true yq45; omega)
       have hx10 : ∀ h : 3 < a0.size, ((a0[3]'h).toNat : Int) = bt a0 3 := bt_at a0 3
       clear p10
       have qi10 : (3 < (a0.size : Int)) = True := eq_true (of_decide_eq_true yq45)
       replace q10 := eq_true q10
       go_enter Try.func122, Try.ntmps122
       go_wp2
       repeat (go_quiet (fail); try go_wp2)
       go_ret3
       exact ⟨by first | rfl | (simp; done) | (simp [*]; done), by repeat (first | exact Drawn0.refl _ | apply Drawn0.step)⟩
      ·rw [if_neg c11] at H
       exact absurd H (by simp)
     ·rw [if_neg c9] at H
      exact absurd H (by simp)
    ·rw [if_neg c7] at H
     exact absurd H (by simp)
   ·rw [if_neg c5] at H
    exact absurd H (by simp)
  ·rw [if_neg c3] at H
   exact absurd H (by simp)
theorem yq46 {P : Prop} (h : P := by first | (with_reducible assumption) | assumption) : P := h
theorem yq47 {P : Prop} (h : P := by first | rfl | (simp; done) | (simp [*]; done)) : P := h
mutual
def impl_TakeVar.l0 : Nat → ByteArray → Int → Int → Option (Int × ByteArray × Bool)
 | 0, _, _, _ => none
 | k + 1, x0, x5, x6 => if x6 < (x0.size : Int) then (impl_TakeVar.j1 k x0 x5 x6 (decide (x6 < 10))) else (impl_TakeVar.j1 k x0 x5 x6 false)
def impl_TakeVar.j1 : Nat → ByteArray → Int → Int → Bool → Option (Int × ByteArray × Bool)
 | 0, _, _, _, _ => none
 | k + 1, x0, x5, x6, x15 => if x15 = true then (if 0 ≤ x6 then (if x6 < (x0.size : Int) then (if x6 = 9 then (impl_TakeVar.j2 k x0 x5 x6 (IntKind.u64.wrap (Go.bits .and .u8 (bt x0 x6) 127)) (decide ((IntKind.u64.wrap (Go.bits .and .u8 (bt x0 x6) 127)) > 1))) else (impl_TakeVar.j2 k x0 x5 x6 (IntKind.u64.wrap (Go.bits .and .u8 (bt x0 x6) 127)) false)) else (none)) else (none)) else (some (0, (⟨#[]⟩ : ByteArray), false))
def impl_TakeVar.j2 : Nat → ByteArray → Int → Int → Int → Bool → Option (Int × ByteArray × Bool)
 | 0, _, _, _, _, _ => none
 | k + 1, x0, x5, x6, x7, x28 => if x28 = true then (some (0, (⟨#[]⟩ : ByteArray), false)) else (if 0 ≤ (wrap64 (7 * x6)) then (if 0 ≤ x6 then (if x6 < (x0.size : Int) then (if (bt x0 x6) ≥ 128 then (impl_TakeVar.l0 k x0 (Go.bits .or .u64 x5 (shl .u64 x7 (wrap64 (7 * x6)))) (wrap64 (x6 + 1))) else (if x7 = 0 then (if x6 > 0 then (some (0, (⟨#[]⟩ : ByteArray), false)) else (if 0 ≤ (wrap64 (x6 + 1)) then (if (wrap64 (x6 + 1)) ≤ (x0.size : Int) then (some (Go.bits .or .u64 x5 (shl .u64 x7 (wrap64 (7 * x6))), x0.extract ((wrap64 (x6 + 1)) : Int).toNat x0.size, true)) else (none)) else (none))) else (if 0 ≤ (wrap64 (x6 + 1)) then (if (wrap64 (x6 + 1)) ≤ (x0.size : Int) then (some (Go.bits .or .u64 x5 (shl .u64 x7 (wrap64 (7 * x6))), x0.extract ((wrap64 (x6 + 1)) : Int).toNat x0.size, true)) else (none)) else (none)))) else (none)) else (none)) else (none))
end
def impl_TakeVar.f (k : Nat) (a0 : ByteArray) : Option (Int × ByteArray × Bool) := impl_TakeVar.l0 k a0 0 0
set_option maxHeartbeats 8000000 in
set_option maxRecDepth 100000 in
theorem impl_TakeVar.calls (k : Nat) (a0 : ByteArray) (r1 : Int) (r2 : ByteArray) (r3 : Bool) (w : World) (h : impl_TakeVar.f k a0 = some (r1, r2, r3)) :
  Calls Try.prog 114 #[.string a0] w fun e w' => e = .returned (.tuple #[.int .u64 r1, .string r2, .bool r3]) ∧ Drawn0 w w' := by
 have H : (impl_TakeVar.l0 k a0 0 0) = some (r1, r2, r3) := h
 clear h
 have H' := Qz.mk H
 clear H
 go_enter Try.func114, Try.ntmps114
 go_wp2
 repeat (go_quiet (fail); try go_wp2)
 go_loopg [5, 6] k (fun kq v5 v6 w' => ∃ (x5_1 : Int) (x6_1 : Int), v5 = .int .u64 x5_1 ∧ v6 = .int .i64 x6_1 ∧ Qz (impl_TakeVar.l0 kq a0 x5_1 x6_1 = some (r1, r2, r3)) ∧ Qz (kq ≤ k) ∧ Drawn0 w w')
 case atStart => exact ⟨(0), (0), yq47, yq47, H', ⟨Nat.le_refl _⟩, by repeat (first | exact Drawn0.refl _ | apply Drawn0.step)⟩
 case round =>
  clear H'
  try clear c1
  obtain ⟨x5_1, x6_1, rfl, rfl, HA, HK1, ⟨m1, rfl⟩⟩ := hrel
  cases gk with
  | zero => exact absurd HA.out (by simp [impl_TakeVar.l0])
  | succ k1 =>
   have H := HA.out
   clear HA
   simp only [impl_TakeVar.l0] at H
   have HC2 := Qz.mk H
   clear H
   go_upto_region 3 with (fail)
   repeat (go_quiet (fail); go_upto_region 3 with (fail))
   go_cut [15] (fun v15 wc => ∃ (kq : Nat) (x15_1 : Bool), v15 = .bool x15_1 ∧ Qz (impl_TakeVar.j1 kq a0 x5_1 x6_1 x15_1 = some (r1, r2, r3)) ∧ Qz (kq ≤ k1) ∧ Drawn0 w wc)
   case first =>
    have H := HC2.out
    clear HC2
    by_cases c3 : x6_1 < (a0.size : Int)
    ·rw [if_pos c3] at H
     have c3b0 : decide (x6_1 < (a0.size : Int)) = true := decide_eq_true c3
     clear c3
     (first | rw [c3b0] | (simp only [i64_w, i32_w]; rw [c3b0]) | skip)
     have H' := Qz.mk H
     clear H
     go_wp2
     repeat (go_quiet (fail); try go_wp2)
     go_meet
     case rel => exact ⟨_, (decide (x6_1 < 10)), yq47, H', ⟨by have := HK1.out; first | omega | exact Nat.le_refl _⟩, by repeat (first | exact Drawn0.refl _ | apply Drawn0.step)⟩
    ·rw [if_neg c3] at H
     have c3b0 : decide (x6_1 < (a0.size : Int)) = false := decide_eq_false c3
     clear c3
     (first | rw [c3b0] | (simp only [i64_w, i32_w]; rw [c3b0]) | skip)
     have H' := Qz.mk H
     clear H
     go_wp2
     repeat (go_quiet (fail); try go_wp2)
     go_meet
     case rel => exact ⟨_, (false), yq47, H', ⟨by have := HK1.out; first | omega | exact Nat.le_refl _⟩, by repeat (first | exact Drawn0.refl _ | apply Drawn0.step)⟩
   case rest =>
    clear HC2
    (try clear c1);(try clear p2);(try clear c3);(try clear c3b0)
    obtain ⟨kq, x15_1, rfl, HA, HJ1, ⟨mc1, rfl⟩⟩ := hcut
    cases kq with
    | zero => exact absurd HA.out (by simp [impl_TakeVar.j1])
    | succ kj1 =>
     have H := HA.out
     clear HA
     simp only [impl_TakeVar.j1] at H
     by_cases c4 : x15_1 = true
     ·subst c4
      have H1 : (if 0 ≤ x6_1 then (if x6_1 < (a0.size : Int) then (if x6_1 = 9 then (impl_TakeVar.j2 kj1 a0 x5_1 x6_1 (IntKind.u64.wrap (Go.bits .and .u8 (bt a0 x6_1) 127)) (decide ((IntKind.u64.wrap (Go.bits .and .u8 (bt a0 x6_1) 127)) > 1))) else (impl_TakeVar.j2 kj1 a0 x5_1 x6_1 (IntKind.u64.wrap (Go.bits .and .u8 (bt a0 x6_1) 127)) false)) else (none)) else (none)) = some (r1, r2, r3) := by rw [if_pos rfl] at H; exact H
      clear H
      have H := H1
      clear H1
      by_cases c5 : 0 ≤ x6_1
      ·rw [if_pos c5] at H
       have c5b0 : decide (0 ≤ x6_1) = true := decide_eq_true c5
       clear c5
       by_cases c6 : x6_1 < (a0.size : Int)
       ·rw [if_pos c6] at H
        have c6b0 : decide (x6_1 < (a0.size : Int)) = true := decide_eq_true c6
        clear c6
        have HC8 := Qz.mk H
        clear H
        have p7 : 0 ≤ (x6_1 : Int) := of_decide_eq_true yq46
        have q7 : x6_1 < (a0.size : Int) := of_decide_eq_true yq46
        have hx7 := bt_at a0 x6_1
        replace p7 := eq_true p7
        replace q7 := eq_true q7
        go_upto_region 6 with (fail)
        repeat (go_quiet (fail); go_upto_region 6 with (fail))
        go_cut [28] (fun v28 wc => ∃ (kq : Nat) (x28_7 : Bool), v28 = .bool x28_7 ∧ Qz (impl_TakeVar.j2 kq a0 x5_1 x6_1 (IntKind.u64.wrap (Go.bits .and .u8 (bt a0 x6_1) 127)) x28_7 = some (r1, r2, r3)) ∧ Qz (kq ≤ kj1) ∧ Drawn0 w wc)
        case first =>
         have H := HC8.out
         clear HC8
         by_cases c9 : x6_1 = 9
         ·rw [if_pos c9] at H
          have c9b0 : (x6_1 == 9) = true := beq_iff_eq.mpr c9
          have c9b1 : (x6_1 != 9) = false := bne_eq_false_iff_eq.mpr c9
          clear c9
          (first | rw [c9b0] | (simp only [i64_w, i32_w]; rw [c9b0]) | skip)
          have H' := Qz.mk H
          clear H
          go_wp2
          repeat (go_quiet (fail); try go_wp2)
          go_meet
          case rel => exact ⟨_, (decide ((IntKind.u64.wrap (Go.bits .and .u8 (bt a0 x6_1) 127)) > 1)), yq47, H', ⟨by have := HK1.out; have := HJ1.out; first | omega | exact Nat.le_refl _⟩, by repeat (first | exact Drawn0.refl _ | apply Drawn0.step)⟩
         ·rw [if_neg c9] at H
          have c9b0 : (x6_1 == 9) = false := beq_eq_false_iff_ne.mpr c9
          have c9b1 : (x6_1 != 9) = true := bne_iff_ne.mpr c9
          (first | rw [c9b0] | (simp only [i64_w, i32_w]; rw [c9b0]) | skip)
          have H' := Qz.mk H
          clear H
          go_wp2
          repeat (go_quiet (fail); try go_wp2)
          go_meet
          case rel => exact ⟨_, (false), yq47, H', ⟨by have := HK1.out; have := HJ1.out; first | omega | exact Nat.le_refl _⟩, by repeat (first | exact Drawn0.refl _ | apply Drawn0.step)⟩
        case rest =>
         clear HC8
         (try clear c1);(try clear p2);(try clear c3);(try clear c3b0);(try clear c4);(try clear c5);(try clear c5b0);(try clear c6);(try clear c6b0);(try clear p7);(try clear q7);(try clear hx7);(try clear c9);(try clear c9b0);(try clear c9b1);(try clear p2);(try clear p7);(try clear q7)
         obtain ⟨kq, x28_7, rfl, HA, HJ7, ⟨mc7, rfl⟩⟩ := hcut
         cases kq with
         | zero => exact absurd HA.out (by simp [impl_TakeVar.j2])
         | succ kj7 =>
          have H := HA.out
          clear HA
          simp only [impl_TakeVar.j2] at H
          by_cases c10 : x28_7 = true
          ·subst c10
           have H1 : (some (0, (⟨#[]⟩ : ByteArray), false)) = some (r1, r2, r3) := by rw [if_pos rfl] at H; exact H
           clear H
           have H := H1
           clear H1
           simp only [Option.some.injEq, Prod.mk.injEq] at H
           obtain ⟨rfl, rfl, rfl⟩ := H
           go_wp2
           repeat (go_quiet (fail); try go_wp2)
           go_ret3
           exact ⟨by first | rfl | (simp; done) | (simp [*]; done), by repeat (first | exact Drawn0.refl _ | apply Drawn0.step)⟩
          ·replace c10 := Bool.eq_false_iff.mpr c10
           subst c10
           have H1 : (if 0 ≤ (wrap64 (7 * x6_1)) then (if 0 ≤ x6_1 then (if x6_1 < (a0.size : Int) then (if (bt a0 x6_1) ≥ 128 then (impl_TakeVar.l0 kj7 a0 (Go.bits .or .u64 x5_1 (shl .u64 (IntKind.u64.wrap (Go.bits .and .u8 (bt a0 x6_1) 127)) (wrap64 (7 * x6_1)))) (wrap64 (x6_1 + 1))) else (if (IntKind.u64.wrap (Go.bits .and .u8 (bt a0 x6_1) 127)) = 0 then (if x6_1 > 0 then (some (0, (⟨#[]⟩ : ByteArray), false)) else (if 0 ≤ (wrap64 (x6_1 + 1)) then (if (wrap64 (x6_1 + 1)) ≤ (a0.size : Int) then (some (Go.bits .or .u64 x5_1 (shl .u64 (IntKind.u64.wrap (Go.bits .and .u8 (bt a0 x6_1) 127)) (wrap64 (7 * x6_1))), a0.extract ((wrap64 (x6_1 + 1)) : Int).toNat a0.size, true)) else (none)) else (none))) else (if 0 ≤ (wrap64 (x6_1 + 1)) then (if (wrap64 (x6_1 + 1)) ≤ (a0.size : Int) then (some (Go.bits .or .u64 x5_1 (shl .u64 (IntKind.u64.wrap (Go.bits .and .u8 (bt a0 x6_1) 127)) (wrap64 (7 * x6_1))), a0.extract ((wrap64 (x6_1 + 1)) : Int).toNat a0.size, true)) else (none)) else (none)))) else (none)) else (none)) else (none)) = some (r1, r2, r3) := by rw [if_neg (show ¬ (false = true) by decide)] at H; exact H
           clear H
           have H := H1
           clear H1
           obtain ⟨ji11, hji11⟩ : ∃ j_ : Int, (wrap64 (7 * x6_1)) = j_ := ⟨_, rfl⟩
           replace H : (if 0 ≤ (ji11) then (if 0 ≤ x6_1 then (if x6_1 < (a0.size : Int) then (if (bt a0 x6_1) ≥ 128 then (impl_TakeVar.l0 kj7 a0 (Go.bits .or .u64 x5_1 (shl .u64 (IntKind.u64.wrap (Go.bits .and .u8 (bt a0 x6_1) 127)) (ji11))) (wrap64 (x6_1 + 1))) else (if (IntKind.u64.wrap (Go.bits .and .u8 (bt a0 x6_1) 127)) = 0 then (if x6_1 > 0 then (some (0, (⟨#[]⟩ : ByteArray), false)) else (if 0 ≤ (wrap64 (x6_1 + 1)) then (if (wrap64 (x6_1 + 1)) ≤ (a0.size : Int) then (some (Go.bits .or .u64 x5_1 (shl .u64 (IntKind.u64.wrap (Go.bits .and .u8 (bt a0 x6_1) 127)) (ji11)), a0.extract ((wrap64 (x6_1 + 1)) : Int).toNat a0.size, true)) else (none)) else (none))) else (if 0 ≤ (wrap64 (x6_1 + 1)) then (if (wrap64 (x6_1 + 1)) ≤ (a0.size : Int) then (some (Go.bits .or .u64 x5_1 (shl .u64 (IntKind.u64.wrap (Go.bits .and .u8 (bt a0 x6_1) 127)) (ji11)), a0.extract ((wrap64 (x6_1 + 1)) : Int).toNat a0.size, true)) else (none)) else (none)))) else (none)) else (none)) else (none)) = some (r1, r2, r3) := by first | (rw [hji11] at H; exact H) | (simp only [hji11] at H ⊢; exact H)
           have hji11w : (IntKind.i64.wrap (7 * x6_1)) = ji11 := (i64_w _).trans hji11
           by_cases c12 : 0 ≤ (ji11)
           ·rw [if_pos c12] at H
            have c12b0 := eq_true c12
            have c12b1 : decide (0 ≤ (ji11)) = true := decide_eq_true c12
            clear c12
            obtain ⟨ji13, hji13⟩ : ∃ j_ : Int, (shl .u64 (IntKind.u64.wrap (Go.bits .and .u8 (bt a0 x6_1) 127)) (ji11)) = j_ := ⟨_, rfl⟩
            replace H : (if 0 ≤ x6_1 then (if x6_1 < (a0.size : Int) then (if (bt a0 x6_1) ≥ 128 then (impl_TakeVar.l0 kj7 a0 (Go.bits .or .u64 x5_1 (ji13)) (wrap64 (x6_1 + 1))) else (if (IntKind.u64.wrap (Go.bits .and .u8 (bt a0 x6_1) 127)) = 0 then (if x6_1 > 0 then (some (0, (⟨#[]⟩ : ByteArray), false)) else (if 0 ≤ (wrap64 (x6_1 + 1)) then (if (wrap64 (x6_1 + 1)) ≤ (a0.size : Int) then (some (Go.bits .or .u64 x5_1 (ji13), a0.extract ((wrap64 (x6_1 + 1)) : Int).toNat a0.size, true)) else (none)) else (none))) else (if 0 ≤ (wrap64 (x6_1 + 1)) then (if (wrap64 (x6_1 + 1)) ≤ (a0.size : Int) then (some (Go.bits .or .u64 x5_1 (ji13), a0.extract ((wrap64 (x6_1 + 1)) : Int).toNat a0.size, true)) else (none)) else (none)))) else (none)) else (none)) = some (r1, r2, r3) := by first | (rw [hji13] at H; exact H) | (simp only [hji13] at H ⊢; exact H)
            have hji13_ : (IntKind.u64.wrap ((IntKind.u64.wrap (Go.bits .and .u8 (bt a0 x6_1) 127)) * 2 ^ min (ji11).toNat 64)) = ji13 := hji13
            have hji13z : (ji11) ≤ 64 → (IntKind.u64.wrap ((IntKind.u64.wrap (Go.bits .and .u8 (bt a0 x6_1) 127)) * 2 ^ (ji11).toNat)) = ji13 := shl_small hji13
            by_cases c14 : 0 ≤ x6_1
            ·rw [if_pos c14] at H
             have c14b0 : decide (0 ≤ x6_1) = true := decide_eq_true c14
             clear c14
             by_cases c15 : x6_1 < (a0.size : Int)
             ·rw [if_pos c15] at H
              have c15b0 : decide (x6_1 < (a0.size : Int)) = true := decide_eq_true c15
              clear c15
              by_cases c17 : (bt a0 x6_1) ≥ 128
              ·rw [if_pos c17] at H
               have c17b0 : decide (128 ≤ (bt a0 x6_1)) = true := decide_eq_true c17
               clear c17
               have H' := Qz.mk H
               clear H
               have p16 : 0 ≤ (x6_1 : Int) := of_decide_eq_true yq46
               have q16 : x6_1 < (a0.size : Int) := of_decide_eq_true yq46
               have hx16 := bt_at a0 x6_1
               replace p16 := eq_true p16
               replace q16 := eq_true q16
               go_wp2
               repeat (go_quiet (fail); try go_wp2)
               go_roundg kj7
               case measure => have := HK1.out; have := HJ1.out; have := HJ7.out; omega
               case rel => exact ⟨(Go.bits .or .u64 x5_1 (ji13)), (wrap64 (x6_1 + 1)), (by first | rfl | (simp; done) | (simp only [← hji13] <;> (first | rfl | simp)) | (simp [*]; done)), yq47, H', ⟨by have := HK1.out; have := HJ1.out; have := HJ7.out; omega⟩, by repeat (first | exact Drawn0.refl _ | apply Drawn0.step)⟩
              ·rw [if_neg c17] at H
               have c17b0 : decide (128 ≤ (bt a0 x6_1)) = false := decide_eq_false c17
               clear c17
               by_cases c18 : (IntKind.u64.wrap (Go.bits .and .u8 (bt a0 x6_1) 127)) = 0
               ·rw [if_pos c18] at H
                have c18b0 : ((IntKind.u64.wrap (Go.bits .and .u8 (bt a0 x6_1) 127)) == 0) = true := beq_iff_eq.mpr c18
                have c18b1 : ((IntKind.u64.wrap (Go.bits .and .u8 (bt a0 x6_1) 127)) != 0) = false := bne_eq_false_iff_eq.mpr c18
                clear c18
                by_cases c19 : x6_1 > 0
                ·rw [if_pos c19] at H
                 have c19b0 : decide (0 < x6_1) = true := decide_eq_true c19
                 clear c19
                 simp only [Option.some.injEq, Prod.mk.injEq] at H
                 obtain ⟨rfl, rfl, rfl⟩ := H
                 have p16 : 0 ≤ (x6_1 : Int) := of_decide_eq_true yq46
                 have q16 : x6_1 < (a0.size : Int) := of_decide_eq_true yq46
                 have hx16 := bt_at a0 x6_1
                 replace p16 := eq_true p16
                 replace q16 := eq_true q16
                 go_wp2
                 repeat (go_quiet (fail); try go_wp2)
                 go_ret3
                 exact ⟨by first | rfl | (simp; done) | (simp only [← hji11, ← hji13] <;> (first | rfl | simp)) | (simp [*]; done), by repeat (first | exact Drawn0.refl _ | apply Drawn0.step)⟩
                ·rw [if_neg c19] at H
                 have c19b0 : decide (0 < x6_1) = false := decide_eq_false c19
                 clear c19
                 obtain ⟨ji20, hji20⟩ : ∃ j_ : Int, (wrap64 (x6_1 + 1)) = j_ := ⟨_, rfl⟩
                 replace H : (if 0 ≤ (ji20) then (if (ji20) ≤ (a0.size : Int) then (some (Go.bits .or .u64 x5_1 (ji13), a0.extract ((ji20) : Int).toNat a0.size, true)) else (none)) else (none)) = some (r1, r2, r3) := by first | (rw [hji20] at H; exact H) | (simp only [hji20] at H ⊢; exact H)
                 have hji20w : (IntKind.i64.wrap (x6_1 + 1)) = ji20 := (i64_w _).trans hji20
                 by_cases c21 : 0 ≤ (ji20)
                 ·rw [if_pos c21] at H
                  have c21b0 := eq_true c21
                  have c21b1 : decide (0 ≤ (ji20)) = true := decide_eq_true c21
                  clear c21
                  by_cases c22 : (ji20) ≤ (a0.size : Int)
                  ·rw [if_pos c22] at H
                   have c22b0 := eq_true c22
                   have c22b1 : decide ((ji20) ≤ (a0.size : Int)) = true := decide_eq_true c22
                   clear c22
                   simp only [Option.some.injEq, Prod.mk.injEq] at H
                   obtain ⟨rfl, rfl, rfl⟩ := H
                   have p16 : 0 ≤ (x6_1 : Int) := of_decide_eq_true yq46
                   have q16 : x6_1 < (a0.size : Int) := of_decide_eq_true yq46
                   have hx16 := bt_at a0 x6_1
                   replace p16 := eq_true p16
                   replace q16 := eq_true q16
                   go_wp2
                   repeat (go_quiet (fail); try go_wp2)
                   go_ret3
                   exact ⟨by first | rfl | (simp; done) | (simp only [← hji11, ← hji13, ← hji20] <;> (first | rfl | simp)) | (simp [*]; done), by repeat (first | exact Drawn0.refl _ | apply Drawn0.step)⟩
                  ·rw [if_neg c22] at H
                   exact absurd H (by simp)
                 ·rw [if_neg c21] at H
                  exact absurd H (by simp)
               ·rw [if_neg c18] at H
                have c18b0 : ((IntKind.u64.wrap (Go.bits .and .u8 (bt a0 x6_1) 127)) == 0) = false := beq_eq_false_iff_ne.mpr c18
                have c18b1 : ((IntKind.u64.wrap (Go.bits .and .u8 (bt a0 x6_1) 127)) != 0) = true := bne_iff_ne.mpr c18
                obtain ⟨ji23, hji23⟩ : ∃ j_ : Int, (wrap64 (x6_1 + 1)) = j_ := ⟨_, rfl⟩
                replace H : (if 0 ≤ (ji23) then (if (ji23) ≤ (a0.size : Int) then (some (Go.bits .or .u64 x5_1 (ji13), a0.extract ((ji23) : Int).toNat a0.size, true)) else (none)) else (none)) = some (r1, r2, r3) := by first | (rw [hji23] at H; exact H) | (simp only [hji23] at H ⊢; exact H)
                have hji23w : (IntKind.i64.wrap (x6_1 + 1)) = ji23 := (i64_w _).trans hji23
                by_cases c24 : 0 ≤ (ji23)
                ·rw [if_pos c24] at H
                 have c24b0 := eq_true c24
                 have c24b1 : decide (0 ≤ (ji23)) = true := decide_eq_true c24
                 clear c24
                 by_cases c25 : (ji23) ≤ (a0.size : Int)
                 ·rw [if_pos c25] at H
                  have c25b0 := eq_true c25
                  have c25b1 : decide ((ji23) ≤ (a0.size : Int)) = true := decide_eq_true c25
                  clear c25
                  simp only [Option.some.injEq, Prod.mk.injEq] at H
                  obtain ⟨rfl, rfl, rfl⟩ := H
                  have p16 : 0 ≤ (x6_1 : Int) := of_decide_eq_true yq46
                  have q16 : x6_1 < (a0.size : Int) := of_decide_eq_true yq46
                  have hx16 := bt_at a0 x6_1
                  replace p16 := eq_true p16
                  replace q16 := eq_true q16
                  go_wp2
                  repeat (go_quiet (fail); try go_wp2)
                  go_ret3
                  exact ⟨by first | rfl | (simp; done) | (simp only [← hji11, ← hji13, ← hji23] <;> (first | rfl | simp)) | (simp [*]; done), by repeat (first | exact Drawn0.refl _ | apply Drawn0.step)⟩
                 ·rw [if_neg c25] at H
                  exact absurd H (by simp)
                ·rw [if_neg c24] at H
                 exact absurd H (by simp)
             ·rw [if_neg c15] at H
              exact absurd H (by simp)
            ·rw [if_neg c14] at H
             exact absurd H (by simp)
           ·rw [if_neg c12] at H
            exact absurd H (by simp)
       ·rw [if_neg c6] at H
        exact absurd H (by simp)
      ·rw [if_neg c5] at H
       exact absurd H (by simp)
     ·replace c4 := Bool.eq_false_iff.mpr c4
      subst c4
      have H1 : (some (0, (⟨#[]⟩ : ByteArray), false)) = some (r1, r2, r3) := by rw [if_neg (show ¬ (false = true) by decide)] at H; exact H
      clear H
      have H := H1
      clear H1
      simp only [Option.some.injEq, Prod.mk.injEq] at H
      obtain ⟨rfl, rfl, rfl⟩ := H
      go_wp2
      repeat (go_quiet (fail); try go_wp2)
      go_ret3
      exact ⟨by first | rfl | (simp; done) | (simp [*]; done), by repeat (first | exact Drawn0.refl _ | apply Drawn0.step)⟩
def impl_TakeText.f (k : Nat) (a0 : ByteArray) : Option (ByteArray × ByteArray × Bool) := (impl_TakeVar.f k a0).bind fun bt101 => (if bt101.2.2 = true then (if bt101.1 > 60000 then (some ((⟨#[]⟩ : ByteArray), (⟨#[]⟩ : ByteArray), false)) else (if bt101.1 > (IntKind.u64.wrap ((bt101.2.1.size : Int))) then (some ((⟨#[]⟩ : ByteArray), (⟨#[]⟩ : ByteArray), false)) else (if 0 ≤ bt101.1 then (if bt101.1 ≤ (bt101.2.1.size : Int) then (some (bt101.2.1.extract 0 (bt101.1 : Int).toNat, bt101.2.1.extract (bt101.1 : Int).toNat bt101.2.1.size, true)) else (none)) else (none)))) else (some ((⟨#[]⟩ : ByteArray), (⟨#[]⟩ : ByteArray), false)))
set_option maxHeartbeats 8000000 in
set_option maxRecDepth 100000 in
theorem impl_TakeText.calls (k : Nat) (a0 : ByteArray) (r1 : ByteArray) (r2 : ByteArray) (r3 : Bool) (w : World) (h : impl_TakeText.f k a0 = some (r1, r2, r3)) :
  Calls Try.prog 115 #[.string a0] w fun e w' => e = .returned (.tuple #[.string r1, .string r2, .bool r3]) ∧ Drawn0 w w' := by
 have H : ((impl_TakeVar.f k a0).bind fun bt101 => (if bt101.2.2 = true then (if bt101.1 > 60000 then (some ((⟨#[]⟩ : ByteArray), (⟨#[]⟩ : ByteArray), false)) else (if bt101.1 > (IntKind.u64.wrap ((bt101.2.1.size : Int))) then (some ((⟨#[]⟩ : ByteArray), (⟨#[]⟩ : ByteArray), false)) else (if 0 ≤ bt101.1 then (if bt101.1 ≤ (bt101.2.1.size : Int) then (some (bt101.2.1.extract 0 (bt101.1 : Int).toNat, bt101.2.1.extract (bt101.1 : Int).toNat bt101.2.1.size, true)) else (none)) else (none)))) else (some ((⟨#[]⟩ : ByteArray), (⟨#[]⟩ : ByteArray), false)))) = some (r1, r2, r3) := h
 clear h
 replace H := Option.bind_eq_some_iff.mp H
 obtain ⟨⟨t101, t102, t103⟩, A20, H⟩ := H
 replace H : (if t103 = true then (if t101 > 60000 then (some ((⟨#[]⟩ : ByteArray), (⟨#[]⟩ : ByteArray), false)) else (if t101 > (IntKind.u64.wrap ((t102.size : Int))) then (some ((⟨#[]⟩ : ByteArray), (⟨#[]⟩ : ByteArray), false)) else (if 0 ≤ t101 then (if t101 ≤ (t102.size : Int) then (some (t102.extract 0 (t101 : Int).toNat, t102.extract (t101 : Int).toNat t102.size, true)) else (none)) else (none)))) else (some ((⟨#[]⟩ : ByteArray), (⟨#[]⟩ : ByteArray), false))) = some (r1, r2, r3) := H
 have A2 := Qz.mk A20
 clear A20
 by_cases c3 : t103 = true
 ·subst c3
  have H1 : (if t101 > 60000 then (some ((⟨#[]⟩ : ByteArray), (⟨#[]⟩ : ByteArray), false)) else (if t101 > (IntKind.u64.wrap ((t102.size : Int))) then (some ((⟨#[]⟩ : ByteArray), (⟨#[]⟩ : ByteArray), false)) else (if 0 ≤ t101 then (if t101 ≤ (t102.size : Int) then (some (t102.extract 0 (t101 : Int).toNat, t102.extract (t101 : Int).toNat t102.size, true)) else (none)) else (none)))) = some (r1, r2, r3) := by rw [if_pos rfl] at H; exact H
  clear H
  have H := H1
  clear H1
  by_cases c4 : t101 > 60000
  ·rw [if_pos c4] at H
   have c4b0 : decide (60000 < t101) = true := decide_eq_true c4
   clear c4
   simp only [Option.some.injEq, Prod.mk.injEq] at H
   obtain ⟨rfl, rfl, rfl⟩ := H
   go_enter Try.func115, Try.ntmps115
   go_wp2_with (first | (go_at_call 114; (with_reducible refine (impl_TakeVar.calls k a0 t101 t102 true _ A2.out).mono ?_); rintro e w' ⟨rfl, ⟨nd, rfl⟩⟩; (try first | exact ⟨rfl, _, World.drewN_drewN _ _ _⟩ | exact ⟨rfl, _, Eq.trans (World.drewN_drewN _ _ _) (congrArg (World.drewN _) (Nat.add_assoc _ _ _))⟩)))
   repeat (go_quiet (first | (go_at_call 114; (with_reducible refine (impl_TakeVar.calls k a0 t101 t102 true _ A2.out).mono ?_); rintro e w' ⟨rfl, ⟨nd, rfl⟩⟩; (try first | exact ⟨rfl, _, World.drewN_drewN _ _ _⟩ | exact ⟨rfl, _, Eq.trans (World.drewN_drewN _ _ _) (congrArg (World.drewN _) (Nat.add_assoc _ _ _))⟩))); try go_wp2_with (first | (go_at_call 114; (with_reducible refine (impl_TakeVar.calls k a0 t101 t102 true _ A2.out).mono ?_); rintro e w' ⟨rfl, ⟨nd, rfl⟩⟩; (try first | exact ⟨rfl, _, World.drewN_drewN _ _ _⟩ | exact ⟨rfl, _, Eq.trans (World.drewN_drewN _ _ _) (congrArg (World.drewN _) (Nat.add_assoc _ _ _))⟩))))
   go_ret3
   exact ⟨by first | rfl | (simp; done) | (simp [*]; done), by repeat (first | exact Drawn0.refl _ | apply Drawn0.step)⟩
  ·rw [if_neg c4] at H
   have c4b0 : decide (60000 < t101) = false := decide_eq_false c4
   clear c4
   by_cases c5 : t101 > (IntKind.u64.wrap ((t102.size : Int)))
   ·rw [if_pos c5] at H
    have c5b0 : decide ((IntKind.u64.wrap ((t102.size : Int))) < t101) = true := decide_eq_true c5
    clear c5
    simp only [Option.some.injEq, Prod.mk.injEq] at H
    obtain ⟨rfl, rfl, rfl⟩ := H
    go_enter Try.func115, Try.ntmps115
    go_wp2_with (first | (go_at_call 114; (with_reducible refine (impl_TakeVar.calls k a0 t101 t102 true _ A2.out).mono ?_); rintro e w' ⟨rfl, ⟨nd, rfl⟩⟩; (try first | exact ⟨rfl, _, World.drewN_drewN _ _ _⟩ | exact ⟨rfl, _, Eq.trans (World.drewN_drewN _ _ _) (congrArg (World.drewN _) (Nat.add_assoc _ _ _))⟩)))
    repeat (go_quiet (first | (go_at_call 114; (with_reducible refine (impl_TakeVar.calls k a0 t101 t102 true _ A2.out).mono ?_); rintro e w' ⟨rfl, ⟨nd, rfl⟩⟩; (try first | exact ⟨rfl, _, World.drewN_drewN _ _ _⟩ | exact ⟨rfl, _, Eq.trans (World.drewN_drewN _ _ _) (congrArg (World.drewN _) (Nat.add_assoc _ _ _))⟩))); try go_wp2_with (first | (go_at_call 114; (with_reducible refine (impl_TakeVar.calls k a0 t101 t102 true _ A2.out).mono ?_); rintro e w' ⟨rfl, ⟨nd, rfl⟩⟩; (try first | exact ⟨rfl, _, World.drewN_drewN _ _ _⟩ | exact ⟨rfl, _, Eq.trans (World.drewN_drewN _ _ _) (congrArg (World.drewN _) (Nat.add_assoc _ _ _))⟩))))
    go_ret3
    exact ⟨by first | rfl | (simp; done) | (simp [*]; done), by repeat (first | exact Drawn0.refl _ | apply Drawn0.step)⟩
   ·rw [if_neg c5] at H
    have c5b0 : decide ((IntKind.u64.wrap ((t102.size : Int))) < t101) = false := decide_eq_false c5
    clear c5
    by_cases c6 : 0 ≤ t101
    ·rw [if_pos c6] at H
     have c6b0 := eq_true c6
     have c6b1 : decide (0 ≤ t101) = true := decide_eq_true c6
     clear c6
     by_cases c7 : t101 ≤ (t102.size : Int)
     ·rw [if_pos c7] at H
      have c7b0 := eq_true c7
      have c7b1 : decide (t101 ≤ (t102.size : Int)) = true := decide_eq_true c7
      clear c7
      have c8b0 := eq_true (of_decide_eq_true (by first | (with_reducible assumption) | assumption) : 0 ≤ t101)
      have c9b0 := eq_true (of_decide_eq_true (by first | (with_reducible assumption) | assumption) : t101 ≤ (t102.size : Int))
      simp only [Option.some.injEq, Prod.mk.injEq] at H
      obtain ⟨rfl, rfl, rfl⟩ := H
      go_enter Try.func115, Try.ntmps115
      go_wp2_with (first | (go_at_call 114; (with_reducible refine (impl_TakeVar.calls k a0 t101 t102 true _ A2.out).mono ?_); rintro e w' ⟨rfl, ⟨nd, rfl⟩⟩; (try first | exact ⟨rfl, _, World.drewN_drewN _ _ _⟩ | exact ⟨rfl, _, Eq.trans (World.drewN_drewN _ _ _) (congrArg (World.drewN _) (Nat.add_assoc _ _ _))⟩)))
      repeat (go_quiet (first | (go_at_call 114; (with_reducible refine (impl_TakeVar.calls k a0 t101 t102 true _ A2.out).mono ?_); rintro e w' ⟨rfl, ⟨nd, rfl⟩⟩; (try first | exact ⟨rfl, _, World.drewN_drewN _ _ _⟩ | exact ⟨rfl, _, Eq.trans (World.drewN_drewN _ _ _) (congrArg (World.drewN _) (Nat.add_assoc _ _ _))⟩))); try go_wp2_with (first | (go_at_call 114; (with_reducible refine (impl_TakeVar.calls k a0 t101 t102 true _ A2.out).mono ?_); rintro e w' ⟨rfl, ⟨nd, rfl⟩⟩; (try first | exact ⟨rfl, _, World.drewN_drewN _ _ _⟩ | exact ⟨rfl, _, Eq.trans (World.drewN_drewN _ _ _) (congrArg (World.drewN _) (Nat.add_assoc _ _ _))⟩))))
      go_ret3
      exact ⟨by first | rfl | (simp; done) | (simp [*]; done), by repeat (first | exact Drawn0.refl _ | apply Drawn0.step)⟩
     ·rw [if_neg c7] at H
      exact absurd H (by simp)
    ·rw [if_neg c6] at H
     exact absurd H (by simp)
 ·replace c3 := Bool.eq_false_iff.mpr c3
  subst c3
  have H1 : (some ((⟨#[]⟩ : ByteArray), (⟨#[]⟩ : ByteArray), false)) = some (r1, r2, r3) := by rw [if_neg (show ¬ (false = true) by decide)] at H; exact H
  clear H
  have H := H1
  clear H1
  simp only [Option.some.injEq, Prod.mk.injEq] at H
  obtain ⟨rfl, rfl, rfl⟩ := H
  go_enter Try.func115, Try.ntmps115
  go_wp2_with (first | (go_at_call 114; (with_reducible refine (impl_TakeVar.calls k a0 t101 t102 false _ A2.out).mono ?_); rintro e w' ⟨rfl, ⟨nd, rfl⟩⟩; (try first | exact ⟨rfl, _, World.drewN_drewN _ _ _⟩ | exact ⟨rfl, _, Eq.trans (World.drewN_drewN _ _ _) (congrArg (World.drewN _) (Nat.add_assoc _ _ _))⟩)))
  repeat (go_quiet (first | (go_at_call 114; (with_reducible refine (impl_TakeVar.calls k a0 t101 t102 false _ A2.out).mono ?_); rintro e w' ⟨rfl, ⟨nd, rfl⟩⟩; (try first | exact ⟨rfl, _, World.drewN_drewN _ _ _⟩ | exact ⟨rfl, _, Eq.trans (World.drewN_drewN _ _ _) (congrArg (World.drewN _) (Nat.add_assoc _ _ _))⟩))); try go_wp2_with (first | (go_at_call 114; (with_reducible refine (impl_TakeVar.calls k a0 t101 t102 false _ A2.out).mono ?_); rintro e w' ⟨rfl, ⟨nd, rfl⟩⟩; (try first | exact ⟨rfl, _, World.drewN_drewN _ _ _⟩ | exact ⟨rfl, _, Eq.trans (World.drewN_drewN _ _ _) (congrArg (World.drewN _) (Nat.add_assoc _ _ _))⟩))))
  go_ret3
  exact ⟨by first | rfl | (simp; done) | (simp [*]; done), by repeat (first | exact Drawn0.refl _ | apply Drawn0.step)⟩
def IsS108 (w0 W : World) (g : Nat) (f0 : ByteArray) (f1 : Bool) : Prop := W.heap[g]? = some (.cells #[.string f0, .bool f1] 108 (0, 0)) ∧ w0.heap.size ≤ g
theorem IsS108.grown {w0 W : World} {g : Nat} {f0 : ByteArray} {f1 : Bool} {W1 : World} {row : Option Nat} (h : IsS108 w0 W g f0 f1) (hw : W.grownBy W1 row) (hne : some g ≠ row) : IsS108 w0 W1 g f0 f1 := by
 obtain ⟨hb, hg⟩ := h
 exact ⟨blk_grown hb hw hne, hg⟩
theorem IsS108.kept {w0 W : World} {g : Nat} {f0 : ByteArray} {f1 : Bool} {W1 : World} {S : Nat → Prop} (h : IsS108 w0 W g f0 f1) (hk : Kept W W1 S) (hne : ¬ S g) : IsS108 w0 W1 g f0 f1 := by
 obtain ⟨hb, hg⟩ := h
 exact ⟨blk_kept hb hk hne, hg⟩
theorem IsS108.below {w0 W : World} {g : Nat} {f0 : ByteArray} {f1 : Bool} {W1 : World} (h : IsS108 w0 W g f0 f1) (hw : Below W.heap.size W W1) : IsS108 w0 W1 g f0 f1 := h.grown (grown_of_below hw none) (by simp)
theorem IsS108.alloc {w0 W : World} {g : Nat} {f0 : ByteArray} {f1 : Bool} (h : IsS108 w0 W g f0 f1) (o : Obj) : IsS108 w0 (W.alloc o) g f0 f1 := h.below (qi (Below.refl _ _) o)
theorem IsS108.drewN {w0 W : World} {g : Nat} {f0 : ByteArray} {f1 : Bool} (h : IsS108 w0 W g f0 f1) (m : Nat) : IsS108 w0 (W.drewN m) g f0 f1 := h
theorem IsS108.drew {w0 W : World} {g : Nat} {f0 : ByteArray} {f1 : Bool} (h : IsS108 w0 W g f0 f1) : IsS108 w0 W.drew g f0 f1 := h
theorem IsS108.at_ {w0 W : World} {g : Nat} {f0 : ByteArray} {f1 : Bool} {w' : World} {m : Nat} (hq : W.drewN m = w') (h : IsS108 w0 W g f0 f1) : IsS108 w0 w' g f0 f1 := by subst hq; exact IsS108.drewN h m
theorem IsS108.apart {w0 W : World} {g : Nat} {f0 : ByteArray} {f1 : Bool} {α : Type} {d : Kd α} {e : Nat} {base : Nat} {ok : Nat → Prop} {v : Value} {xs : List α} (h : IsS108 w0 W g f0 f1) (ho : d.R e W base ok v xs) (ht : ∀ q, q ∈ e :: d.E → q ≠ 108) : d.R e W base (fun k => ok k ∧ k ≠ g) v xs := by
 obtain ⟨hb, hg⟩ := h
 exact Kd.R_types ho hb ht
theorem IsS108.own_ne {w0 W : World} {g : Nat} {f0 : ByteArray} {f1 : Bool} {α : Type} {d : Kd α} {e : Nat} {base : Nat} {ok : Nat → Prop} {v : Value} {xs : List α} (h : IsS108 w0 W g f0 f1) (ho : d.R e W base ok v xs) (ht : e ≠ 108) : some g ≠ v.ownBlock := by
 obtain ⟨hb, hg⟩ := h
 exact Kd.R_ne ho hb ht
theorem IsS108.lt {w0 W : World} {g : Nat} {f0 : ByteArray} {f1 : Bool} (h : IsS108 w0 W g f0 f1) : g < W.heap.size := by
 obtain ⟨hb, hg⟩ := h
 exact qh1 hb
theorem IsS108.ge {w0 W : World} {g : Nat} {f0 : ByteArray} {f1 : Bool} (h : IsS108 w0 W g f0 f1) : w0.heap.size ≤ g := by
 obtain ⟨hb, hg⟩ := h
 exact hg
theorem IsS108.ne_blk {w0 W : World} {g : Nat} {f0 : ByteArray} {f1 : Bool} {a : Nat} {cs : Array Value} {t : TypeId} {fr : Nat × Nat} (h : IsS108 w0 W g f0 f1) (hb2 : W.heap[a]? = some (.cells cs t fr)) (ht : t ≠ 108) : g ≠ a := by
 obtain ⟨hb, hg⟩ := h
 rintro rfl
 rw [hb] at hb2
 injection hb2 with hb2
 injection hb2 with _ ht2
 exact ht ht2.symm
theorem IsS108.far {w0 W : World} {g : Nat} {f0 : ByteArray} {f1 : Bool} {p : Addr} (h : IsS108 w0 W g f0 f1) (hne : g ≠ p.block) (u : Value) : IsS108 w0 (W.setCell p u) g f0 f1 := by
 obtain ⟨hb, hg⟩ := h
 exact ⟨qx hb hne u, hg⟩
theorem cellS108_0 {W : World} {g : Nat} {f0 : ByteArray} {f1 : Bool} (h : W.heap[g]? = some (.cells #[.string f0, .bool f1] 108 (0, 0))) : W.cell? ⟨g, 0, none⟩ = some (.string f0) := (qg h 0).trans rfl
theorem IsS108.set_0 {w0 W : World} {g : Nat} {f0 : ByteArray} {f1 : Bool} (h : IsS108 w0 W g f0 f1) (x : ByteArray) : IsS108 w0 (W.setCell ⟨g, 0, none⟩ (.string x)) g x f1 := by
 obtain ⟨hb, hg⟩ := h
 exact ⟨by simpa using blk_set hb 0 (.string x), hg⟩
theorem cellS108_1 {W : World} {g : Nat} {f0 : ByteArray} {f1 : Bool} (h : W.heap[g]? = some (.cells #[.string f0, .bool f1] 108 (0, 0))) : W.cell? ⟨g, 1, none⟩ = some (.bool f1) := (qg h 1).trans rfl
theorem IsS108.set_1 {w0 W : World} {g : Nat} {f0 : ByteArray} {f1 : Bool} (h : IsS108 w0 W g f0 f1) (x : Bool) : IsS108 w0 (W.setCell ⟨g, 1, none⟩ (.bool x)) g f0 x := by
 obtain ⟨hb, hg⟩ := h
 exact ⟨by simpa using blk_set hb 1 (.bool x), hg⟩
def impl_taker_text.f (k : Nat) (s0_0 : ByteArray) (s0_1 : Bool) : Option (ByteArray × ByteArray × Bool) := (impl_TakeText.f k s0_0).bind fun bt101 => (if bt101.2.2 = true then (some (bt101.1, bt101.2.1, s0_1)) else (some ((⟨#[]⟩ : ByteArray), s0_0, true)))
set_option maxHeartbeats 8000000 in
set_option maxRecDepth 100000 in
theorem impl_taker_text.calls (k : Nat) (g : Nat) (s0_0 : ByteArray) (s0_1 : Bool) (r1 : ByteArray) (r2 : ByteArray) (r3 : Bool) (w0 w : World) (hI : IsS108 w0 w g s0_0 s0_1) (hB : Below w0.heap.size w0 w) (h : impl_taker_text.f k s0_0 s0_1 = some (r1, r2, r3)) :
  Calls Try.prog 87 #[.pointer (some ⟨g, 0, none⟩)] w fun e w' => e = .returned (.string r1) ∧ IsS108 w0 w' g r2 r3 ∧ Below w0.heap.size w0 w' ∧ KeepBut w w' g none := by
 have HI0 := Qz.mk hI
 have HK := Qz.mk (KeepBut.refl w g none)
 have HL := Qz.mk hB.size
 clear hI
 have HW0 := Qz.mk hB.size
 have HB := Qz.mk hB
 clear hB
 have H : ((impl_TakeText.f k s0_0).bind fun bt101 => (if bt101.2.2 = true then (some (bt101.1, bt101.2.1, s0_1)) else (some ((⟨#[]⟩ : ByteArray), s0_0, true)))) = some (r1, r2, r3) := h
 clear h
 replace H := Option.bind_eq_some_iff.mp H
 obtain ⟨⟨t101, t102, t103⟩, A20, H⟩ := H
 replace H : (if t103 = true then (some (t101, t102, s0_1)) else (some ((⟨#[]⟩ : ByteArray), s0_0, true))) = some (r1, r2, r3) := H
 have A2 := Qz.mk A20
 clear A20
 by_cases c3 : t103 = true
 ·subst c3
  have H1 : (some (t101, t102, s0_1)) = some (r1, r2, r3) := by rw [if_pos rfl] at H; exact H
  clear H
  have H := H1
  clear H1
  simp only [Option.some.injEq, Prod.mk.injEq] at H
  obtain ⟨rfl, rfl, rfl⟩ := H
  obtain ⟨HGz4, hgz4⟩ := HI0.out
  have hcz4_0 := cellS108_0 HGz4
  have hcz4_1 := cellS108_1 HGz4
  have hfz4_0 := qj HGz4 0
  have hfz4_1 := qj HGz4 1
  clear HGz4 hgz4
  go_enter Try.func87, Try.ntmps87
  go_wp2_with (first | ((with_reducible refine qm (f := 115) rfl ?_); refine qy (some 11) rfl rfl Try.func115 (by kernel_rfl) rfl #[.string s0_0] rfl (by (try simp only [List.map_toArray, List.map_cons, List.map_nil]); first | done | rfl) ?_; (with_reducible refine (impl_TakeText.calls k s0_0 t101 t102 true _ A2.out).mono ?_); rintro e w' ⟨rfl, ⟨nd, rfl⟩⟩; refine ⟨_, rfl, ?_⟩))
  go_ret
  exact ⟨by first | rfl | (simp [qt, qr] <;> rfl) | (simp [*, qt, qr] <;> rfl), by repeat (first | (with_reducible first | exact HI0.out | apply IsS108.alloc | apply IsS108.drewN | apply IsS108.drew | apply IsS108.set_0 | apply IsS108.set_1) | exact HI0.out), by repeat (first | (with_reducible first | exact HB.out | apply qi | apply qd | apply qh | refine qe ?_ (IsS108.ge HI0.out)) | exact HB.out), by repeat (first | (with_reducible first | exact HK.out | apply KeepBut.set_ | apply qn | apply qp | apply qo) | exact HK.out)⟩
 ·replace c3 := Bool.eq_false_iff.mpr c3
  subst c3
  have H1 : (some ((⟨#[]⟩ : ByteArray), s0_0, true)) = some (r1, r2, r3) := by rw [if_neg (show ¬ (false = true) by decide)] at H; exact H
  clear H
  have H := H1
  clear H1
  simp only [Option.some.injEq, Prod.mk.injEq] at H
  obtain ⟨rfl, rfl, rfl⟩ := H
  obtain ⟨HGz5, hgz5⟩ := HI0.out
  have hcz5_0 := cellS108_0 HGz5
  have hcz5_1 := cellS108_1 HGz5
  have hfz5_0 := qj HGz5 0
  have hfz5_1 := qj HGz5 1
  clear HGz5 hgz5
  go_enter Try.func87, Try.ntmps87
  go_wp2_with (first | ((with_reducible refine qm (f := 115) rfl ?_); refine qy (some 11) rfl rfl Try.func115 (by kernel_rfl) rfl #[.string s0_0] rfl (by (try simp only [List.map_toArray, List.map_cons, List.map_nil]); first | done | rfl) ?_; (with_reducible refine (impl_TakeText.calls k s0_0 t101 t102 false _ A2.out).mono ?_); rintro e w' ⟨rfl, ⟨nd, rfl⟩⟩; refine ⟨_, rfl, ?_⟩))
  go_ret
  exact ⟨by first | rfl | (simp [qt, qr] <;> rfl) | (simp [*, qt, qr] <;> rfl), by repeat (first | (with_reducible first | exact HI0.out | apply IsS108.alloc | apply IsS108.drewN | apply IsS108.drew | apply IsS108.set_0 | apply IsS108.set_1) | exact HI0.out), by repeat (first | (with_reducible first | exact HB.out | apply qi | apply qd | apply qh | refine qe ?_ (IsS108.ge HI0.out)) | exact HB.out), by repeat (first | (with_reducible first | exact HK.out | apply KeepBut.set_ | apply qn | apply qp | apply qo) | exact HK.out)⟩
def impl_taker_fixed.f (s0_0 : ByteArray) (s0_1 : Bool) : Option (Int × ByteArray × Bool) := (impl_TakeFixed.f s0_0).bind fun bt101 => (if bt101.2.2 = true then (some (wrap64 (bt101.1), bt101.2.1, s0_1)) else (some (0, s0_0, true)))
set_option maxHeartbeats 8000000 in
set_option maxRecDepth 100000 in
theorem impl_taker_fixed.calls (g : Nat) (s0_0 : ByteArray) (s0_1 : Bool) (r1 : Int) (r2 : ByteArray) (r3 : Bool) (w0 w : World) (hI : IsS108 w0 w g s0_0 s0_1) (hB : Below w0.heap.size w0 w) (h : impl_taker_fixed.f s0_0 s0_1 = some (r1, r2, r3)) :
  Calls Try.prog 112 #[.pointer (some ⟨g, 0, none⟩)] w fun e w' => e = .returned (.int .i64 r1) ∧ IsS108 w0 w' g r2 r3 ∧ Below w0.heap.size w0 w' ∧ KeepBut w w' g none := by
 have HI0 := Qz.mk hI
 have HK := Qz.mk (KeepBut.refl w g none)
 have HL := Qz.mk hB.size
 clear hI
 have HW0 := Qz.mk hB.size
 have HB := Qz.mk hB
 clear hB
 have H : ((impl_TakeFixed.f s0_0).bind fun bt101 => (if bt101.2.2 = true then (some (wrap64 (bt101.1), bt101.2.1, s0_1)) else (some (0, s0_0, true)))) = some (r1, r2, r3) := h
 clear h
 replace H := Option.bind_eq_some_iff.mp H
 obtain ⟨⟨t101, t102, t103⟩, A20, H⟩ := H
 replace H : (if t103 = true then (some (wrap64 (t101), t102, s0_1)) else (some (0, s0_0, true))) = some (r1, r2, r3) := H
 have A2 := Qz.mk A20
 clear A20
 by_cases c3 : t103 = true
 ·subst c3
  have H1 : (some (wrap64 (t101), t102, s0_1)) = some (r1, r2, r3) := by rw [if_pos rfl] at H; exact H
  clear H
  have H := H1
  clear H1
  simp only [Option.some.injEq, Prod.mk.injEq] at H
  obtain ⟨rfl, rfl, rfl⟩ := H
  obtain ⟨HGz4, hgz4⟩ := HI0.out
  have hcz4_0 := cellS108_0 HGz4
  have hcz4_1 := cellS108_1 HGz4
  have hfz4_0 := qj HGz4 0
  have hfz4_1 := qj HGz4 1
  clear HGz4 hgz4
  go_enter Try.func112, Try.ntmps112
  go_wp2_with (first | ((with_reducible refine qm (f := 122) rfl ?_); refine qy (some 11) rfl rfl Try.func122 (by kernel_rfl) rfl #[.string s0_0] rfl (by (try simp only [List.map_toArray, List.map_cons, List.map_nil]); first | done | rfl) ?_; (with_reducible refine (impl_TakeFixed.calls s0_0 t101 t102 true _ A2.out).mono ?_); rintro e w' ⟨rfl, ⟨nd, rfl⟩⟩; refine ⟨_, rfl, ?_⟩))
  go_ret
  exact ⟨by first | rfl | (simp [qt, qr] <;> rfl) | (simp [*, qt, qr] <;> rfl), by repeat (first | (with_reducible first | exact HI0.out | apply IsS108.alloc | apply IsS108.drewN | apply IsS108.drew | apply IsS108.set_0 | apply IsS108.set_1) | exact HI0.out), by repeat (first | (with_reducible first | exact HB.out | apply qi | apply qd | apply qh | refine qe ?_ (IsS108.ge HI0.out)) | exact HB.out), by repeat (first | (with_reducible first | exact HK.out | apply KeepBut.set_ | apply qn | apply qp | apply qo) | exact HK.out)⟩
 ·replace c3 := Bool.eq_false_iff.mpr c3
  subst c3
  have H1 : (some (0, s0_0, true)) = some (r1, r2, r3) := by rw [if_neg (show ¬ (false = true) by decide)] at H; exact H
  clear H
  have H := H1
  clear H1
  simp only [Option.some.injEq, Prod.mk.injEq] at H
  obtain ⟨rfl, rfl, rfl⟩ := H
  obtain ⟨HGz5, hgz5⟩ := HI0.out
  have hcz5_0 := cellS108_0 HGz5
  have hcz5_1 := cellS108_1 HGz5
  have hfz5_0 := qj HGz5 0
  have hfz5_1 := qj HGz5 1
  clear HGz5 hgz5
  go_enter Try.func112, Try.ntmps112
  go_wp2_with (first | ((with_reducible refine qm (f := 122) rfl ?_); refine qy (some 11) rfl rfl Try.func122 (by kernel_rfl) rfl #[.string s0_0] rfl (by (try simp only [List.map_toArray, List.map_cons, List.map_nil]); first | done | rfl) ?_; (with_reducible refine (impl_TakeFixed.calls s0_0 t101 t102 false _ A2.out).mono ?_); rintro e w' ⟨rfl, ⟨nd, rfl⟩⟩; refine ⟨_, rfl, ?_⟩))
  go_ret
  exact ⟨by first | rfl | (simp [qt, qr] <;> rfl) | (simp [*, qt, qr] <;> rfl), by repeat (first | (with_reducible first | exact HI0.out | apply IsS108.alloc | apply IsS108.drewN | apply IsS108.drew | apply IsS108.set_0 | apply IsS108.set_1) | exact HI0.out), by repeat (first | (with_reducible first | exact HB.out | apply qi | apply qd | apply qh | refine qe ?_ (IsS108.ge HI0.out)) | exact HB.out), by repeat (first | (with_reducible first | exact HK.out | apply KeepBut.set_ | apply qn | apply qp | apply qo) | exact HK.out)⟩
theorem yq48 {P : Prop} (h : P := by repeat (first | (with_reducible first | exact HI0.out | apply IsS108.alloc | apply IsS108.drewN | apply IsS108.drew | apply IsS108.set_0 | apply IsS108.set_1) | exact HI0.out)) : P := h
theorem yq49 {P : Prop} (h : P := by repeat (first | (with_reducible first | exact HB.out | apply qi | apply qd | apply qh | refine qe ?_ (IsS108.ge HI0.out)) | exact HB.out)) : P := h
theorem yq50 {P : Prop} (h : P := by repeat (first | (with_reducible first | exact HK.out | apply KeepBut.set_ | apply qn | apply qp | apply qo) | exact HK.out)) : P := h
theorem yq51 {P : Prop} (h : P := by (try simp only [List.map_toArray, List.map_cons, List.map_nil]); first | done | rfl) : P := h
def impl_taker_section.f (k : Nat) (s0_0 : ByteArray) (s0_1 : Bool) : Option (ByteArray × ByteArray × Bool) := (impl_taker_text.f k s0_0 s0_1).bind fun bt101 => ((impl_taker_fixed.f bt101.2.1 bt101.2.2).bind fun bt104 => ((impl_Crc.f k bt101.1).bind fun t107 => (if bt104.1 = (wrap64 (t107)) then (some (bt101.1, bt104.2.1, bt104.2.2)) else (some (bt101.1, bt104.2.1, true)))))
set_option maxHeartbeats 8000000 in
set_option maxRecDepth 100000 in
theorem impl_taker_section.calls (k : Nat) (g : Nat) (s0_0 : ByteArray) (s0_1 : Bool) (r1 : ByteArray) (r2 : ByteArray) (r3 : Bool) (w0 w : World) (hI : IsS108 w0 w g s0_0 s0_1) (hB : Below w0.heap.size w0 w) (h : impl_taker_section.f k s0_0 s0_1 = some (r1, r2, r3)) :
  Calls Try.prog 84 #[.pointer (some ⟨g, 0, none⟩)] w fun e w' => e = .returned (.string r1) ∧ IsS108 w0 w' g r2 r3 ∧ Below w0.heap.size w0 w' ∧ KeepBut w w' g none := by
 have HI0 := Qz.mk hI
 have HK := Qz.mk (KeepBut.refl w g none)
 have HL := Qz.mk hB.size
 clear hI
 have HW0 := Qz.mk hB.size
 have HB := Qz.mk hB
 clear hB
 have H : ((impl_taker_text.f k s0_0 s0_1).bind fun bt101 => ((impl_taker_fixed.f bt101.2.1 bt101.2.2).bind fun bt104 => ((impl_Crc.f k bt101.1).bind fun t107 => (if bt104.1 = (wrap64 (t107)) then (some (bt101.1, bt104.2.1, bt104.2.2)) else (some (bt101.1, bt104.2.1, true)))))) = some (r1, r2, r3) := h
 clear h
 replace H := Option.bind_eq_some_iff.mp H
 obtain ⟨⟨t101, t102, t103⟩, A20, H⟩ := H
 replace H : ((impl_taker_fixed.f t102 t103).bind fun bt104 => ((impl_Crc.f k t101).bind fun t107 => (if bt104.1 = (wrap64 (t107)) then (some (t101, bt104.2.1, bt104.2.2)) else (some (t101, bt104.2.1, true))))) = some (r1, r2, r3) := H
 have A2 := Qz.mk A20
 clear A20
 replace H := Option.bind_eq_some_iff.mp H
 obtain ⟨⟨t104, t105, t106⟩, A30, H⟩ := H
 replace H : ((impl_Crc.f k t101).bind fun t107 => (if t104 = (wrap64 (t107)) then (some (t101, t105, t106)) else (some (t101, t105, true)))) = some (r1, r2, r3) := H
 have A3 := Qz.mk A30
 clear A30
 replace H := Option.bind_eq_some_iff.mp H
 obtain ⟨t107, A40, H⟩ := H
 replace H : (if t104 = (wrap64 (t107)) then (some (t101, t105, t106)) else (some (t101, t105, true))) = some (r1, r2, r3) := H
 have A4 := Qz.mk A40
 clear A40
 by_cases c5 : t104 = (wrap64 (t107))
 ·rw [if_pos c5] at H
  have c5b0 : (t104 == (wrap64 (t107))) = true := beq_iff_eq.mpr c5
  have c5b1 : (t104 != (wrap64 (t107))) = false := bne_eq_false_iff_eq.mpr c5
  clear c5
  simp only [Option.some.injEq, Prod.mk.injEq] at H
  obtain ⟨rfl, rfl, rfl⟩ := H
  go_enter Try.func84, Try.ntmps84
  go_wp2_with (first | ((with_reducible refine qm (f := 87) rfl ?_); refine qy (some 5) rfl rfl Try.func87 (by kernel_rfl) rfl #[.pointer (some ⟨g, 0, none⟩)] rfl yq51 ?_; (with_reducible refine (impl_taker_text.calls k g s0_0 s0_1 t101 t102 t103 w0 _ ?side1 ?side2 A2.out).mono ?_); (case side1 => exact yq48); (case side2 => exact yq49); rintro e w6 ⟨rfl, hi, hb, hk⟩; refine ⟨_, rfl, ?_⟩; replace HK := Qz.mk (KeepBut.trans yq50 hk (.inl rfl)); replace HB := Qz.mk (hb); replace HI0 := Qz.mk (hi); (try clear hb); (try clear hk); (try clear hi)) | ((with_reducible refine qm (f := 112) rfl ?_); refine qy (some 8) rfl rfl Try.func112 (by kernel_rfl) rfl #[.pointer (some ⟨g, 0, none⟩)] rfl yq51 ?_; (with_reducible refine (impl_taker_fixed.calls g t102 t103 t104 t105 t106 w0 _ ?side1 ?side2 A3.out).mono ?_); (case side1 => exact yq48); (case side2 => exact yq49); rintro e w7 ⟨rfl, hi, hb, hk⟩; refine ⟨_, rfl, ?_⟩; replace HK := Qz.mk (KeepBut.trans yq50 hk (.inl rfl)); replace HB := Qz.mk (hb); replace HI0 := Qz.mk (hi); (try clear hb); (try clear hk); (try clear hi)) | ((with_reducible refine qm (f := 113) rfl ?_); refine qy (some 10) rfl rfl Try.func113 (by kernel_rfl) rfl #[.string t101] rfl yq51 ?_; (with_reducible refine (impl_Crc.calls k t101 t107 _ A4.out).mono ?_); rintro e w' ⟨rfl, ⟨nd, rfl⟩⟩; refine ⟨_, rfl, ?_⟩; (try (rw [drewN_self w7]; generalize hq_ : World.drewN w7 _ = w7; have n0_ : Qz (IsS108 w0 w7 g t105 t106) := ⟨by rw [← hq_]; exact yq48⟩; have n1_ : Qz (KeepBut w w7 g none) := ⟨by rw [← hq_]; exact yq50⟩; have n2_ : Qz (Below w0.heap.size w0 w7) := ⟨by rw [← hq_]; exact yq49⟩; clear HI0 HK HB hq_; have HI0 := n0_; have HK := n1_; have HB := n2_; clear n0_ n1_ n2_)); obtain ⟨HGz8, hgz8⟩ := HI0.out; have hcz8_0 := cellS108_0 HGz8; have hcz8_1 := cellS108_1 HGz8; have hfz8_0 := qj HGz8 0; have hfz8_1 := qj HGz8 1; clear HGz8 hgz8))
  go_ret
  exact ⟨by first | rfl | (simp [qt, qr] <;> rfl) | (simp [*, qt, qr] <;> rfl), by repeat (first | (with_reducible first | exact HI0.out | apply IsS108.alloc | apply IsS108.drewN | apply IsS108.drew | apply IsS108.set_0 | apply IsS108.set_1) | exact HI0.out), by repeat (first | (with_reducible first | exact HB.out | apply qi | apply qd | apply qh | refine qe ?_ (IsS108.ge HI0.out)) | exact HB.out), by repeat (first | (with_reducible first | exact HK.out | apply KeepBut.set_ | apply qn | apply qp | apply qo) | exact HK.out)⟩
 ·rw [if_neg c5] at H
  have c5b0 : (t104 == (wrap64 (t107))) = false := beq_eq_false_iff_ne.mpr c5
  have c5b1 : (t104 != (wrap64 (t107))) = true := bne_iff_ne.mpr c5
  simp only [Option.some.injEq, Prod.mk.injEq] at H
  obtain ⟨rfl, rfl, rfl⟩ := H
  go_enter Try.func84, Try.ntmps84
  go_wp2_with (first | ((with_reducible refine qm (f := 87) rfl ?_); refine qy (some 5) rfl rfl Try.func87 (by kernel_rfl) rfl #[.pointer (some ⟨g, 0, none⟩)] rfl yq51 ?_; (with_reducible refine (impl_taker_text.calls k g s0_0 s0_1 t101 t102 t103 w0 _ ?side1 ?side2 A2.out).mono ?_); (case side1 => exact yq48); (case side2 => exact yq49); rintro e w9 ⟨rfl, hi, hb, hk⟩; refine ⟨_, rfl, ?_⟩; replace HK := Qz.mk (KeepBut.trans yq50 hk (.inl rfl)); replace HB := Qz.mk (hb); replace HI0 := Qz.mk (hi); (try clear hb); (try clear hk); (try clear hi)) | ((with_reducible refine qm (f := 112) rfl ?_); refine qy (some 8) rfl rfl Try.func112 (by kernel_rfl) rfl #[.pointer (some ⟨g, 0, none⟩)] rfl yq51 ?_; (with_reducible refine (impl_taker_fixed.calls g t102 t103 t104 t105 t106 w0 _ ?side1 ?side2 A3.out).mono ?_); (case side1 => exact yq48); (case side2 => exact yq49); rintro e w10 ⟨rfl, hi, hb, hk⟩; refine ⟨_, rfl, ?_⟩; replace HK := Qz.mk (KeepBut.trans yq50 hk (.inl rfl)); replace HB := Qz.mk (hb); replace HI0 := Qz.mk (hi); (try clear hb); (try clear hk); (try clear hi)) | ((with_reducible refine qm (f := 113) rfl ?_); refine qy (some 10) rfl rfl Try.func113 (by kernel_rfl) rfl #[.string t101] rfl yq51 ?_; (with_reducible refine (impl_Crc.calls k t101 t107 _ A4.out).mono ?_); rintro e w' ⟨rfl, ⟨nd, rfl⟩⟩; refine ⟨_, rfl, ?_⟩; (try (rw [drewN_self w10]; generalize hq_ : World.drewN w10 _ = w10; have n0_ : Qz (IsS108 w0 w10 g t105 t106) := ⟨by rw [← hq_]; exact yq48⟩; have n1_ : Qz (KeepBut w w10 g none) := ⟨by rw [← hq_]; exact yq50⟩; have n2_ : Qz (Below w0.heap.size w0 w10) := ⟨by rw [← hq_]; exact yq49⟩; clear HI0 HK HB hq_; have HI0 := n0_; have HK := n1_; have HB := n2_; clear n0_ n1_ n2_)); obtain ⟨HGz11, hgz11⟩ := HI0.out; have hcz11_0 := cellS108_0 HGz11; have hcz11_1 := cellS108_1 HGz11; have hfz11_0 := qj HGz11 0; have hfz11_1 := qj HGz11 1; clear HGz11 hgz11))
  go_ret
  exact ⟨by first | rfl | (simp [qt, qr] <;> rfl) | (simp [*, qt, qr] <;> rfl), by repeat (first | (with_reducible first | exact HI0.out | apply IsS108.alloc | apply IsS108.drewN | apply IsS108.drew | apply IsS108.set_0 | apply IsS108.set_1) | exact HI0.out), by repeat (first | (with_reducible first | exact HB.out | apply qi | apply qd | apply qh | refine qe ?_ (IsS108.ge HI0.out)) | exact HB.out), by repeat (first | (with_reducible first | exact HK.out | apply KeepBut.set_ | apply qn | apply qp | apply qo) | exact HK.out)⟩
def impl_taker_whole.f (s0_0 : ByteArray) (s0_1 : Bool) : Option (Bool × ByteArray × Bool) := if s0_1 = true then (some (false, s0_0, s0_1)) else (some ((s0_0.toList == ([] : List UInt8)), s0_0, s0_1))
set_option maxHeartbeats 8000000 in
set_option maxRecDepth 100000 in
theorem impl_taker_whole.calls (g : Nat) (s0_0 : ByteArray) (s0_1 : Bool) (r1 : Bool) (r2 : ByteArray) (r3 : Bool) (w0 w : World) (hI : IsS108 w0 w g s0_0 s0_1) (hB : Below w0.heap.size w0 w) (h : impl_taker_whole.f s0_0 s0_1 = some (r1, r2, r3)) :
  Calls Try.prog 85 #[.pointer (some ⟨g, 0, none⟩)] w fun e w' => e = .returned (.bool r1) ∧ IsS108 w0 w' g r2 r3 ∧ Below w0.heap.size w0 w' ∧ KeepBut w w' g none := by
 have HI0 := Qz.mk hI
 have HK := Qz.mk (KeepBut.refl w g none)
 have HL := Qz.mk hB.size
 clear hI
 have HW0 := Qz.mk hB.size
 have HB := Qz.mk hB
 clear hB
 have H : (if s0_1 = true then (some (false, s0_0, s0_1)) else (some ((s0_0.toList == ([] : List UInt8)), s0_0, s0_1))) = some (r1, r2, r3) := h
 clear h
 by_cases c2 : s0_1 = true
 ·subst c2
  have H1 : (some (false, s0_0, true)) = some (r1, r2, r3) := by rw [if_pos rfl] at H; exact H
  clear H
  have H := H1
  clear H1
  simp only [Option.some.injEq, Prod.mk.injEq] at H
  obtain ⟨rfl, rfl, rfl⟩ := H
  obtain ⟨HGz3, hgz3⟩ := HI0.out
  have hcz3_0 := cellS108_0 HGz3
  have hcz3_1 := cellS108_1 HGz3
  have hfz3_0 := qj HGz3 0
  have hfz3_1 := qj HGz3 1
  clear HGz3 hgz3
  go_enter Try.func85, Try.ntmps85
  go_wp2
  go_ret
  exact ⟨by first | rfl | (simp [qt, qr] <;> rfl) | (simp [*, qt, qr] <;> rfl), by repeat (first | (with_reducible first | exact HI0.out | apply IsS108.alloc | apply IsS108.drewN | apply IsS108.drew | apply IsS108.set_0 | apply IsS108.set_1) | exact HI0.out), by repeat (first | (with_reducible first | exact HB.out | apply qi | apply qd | apply qh | refine qe ?_ (IsS108.ge HI0.out)) | exact HB.out), by repeat (first | (with_reducible first | exact HK.out | apply KeepBut.set_ | apply qn | apply qp | apply qo) | exact HK.out)⟩
 ·replace c2 := Bool.eq_false_iff.mpr c2
  subst c2
  have H1 : (some ((s0_0.toList == ([] : List UInt8)), s0_0, false)) = some (r1, r2, r3) := by rw [if_neg (show ¬ (false = true) by decide)] at H; exact H
  clear H
  have H := H1
  clear H1
  simp only [Option.some.injEq, Prod.mk.injEq] at H
  obtain ⟨rfl, rfl, rfl⟩ := H
  obtain ⟨HGz4, hgz4⟩ := HI0.out
  have hcz4_0 := cellS108_0 HGz4
  have hcz4_1 := cellS108_1 HGz4
  have hfz4_0 := qj HGz4 0
  have hfz4_1 := qj HGz4 1
  clear HGz4 hgz4
  go_enter Try.func85, Try.ntmps85
  go_wp2
  go_ret
  exact ⟨by first | rfl | (simp [qt, qr] <;> rfl) | (simp [*, qt, qr] <;> rfl), by repeat (first | (with_reducible first | exact HI0.out | apply IsS108.alloc | apply IsS108.drewN | apply IsS108.drew | apply IsS108.set_0 | apply IsS108.set_1) | exact HI0.out), by repeat (first | (with_reducible first | exact HB.out | apply qi | apply qd | apply qh | refine qe ?_ (IsS108.ge HI0.out)) | exact HB.out), by repeat (first | (with_reducible first | exact HK.out | apply KeepBut.set_ | apply qn | apply qp | apply qo) | exact HK.out)⟩
def impl_taker_number.f (k : Nat) (s0_0 : ByteArray) (s0_1 : Bool) : Option (Int × ByteArray × Bool) := (impl_TakeVar.f k s0_0).bind fun bt101 => (if bt101.2.2 = true then (if bt101.1 > 4611686018427387904 then (some (0, s0_0, true)) else (some (wrap64 (bt101.1), bt101.2.1, s0_1))) else (some (0, s0_0, true)))
set_option maxHeartbeats 8000000 in
set_option maxRecDepth 100000 in
theorem impl_taker_number.calls (k : Nat) (g : Nat) (s0_0 : ByteArray) (s0_1 : Bool) (r1 : Int) (r2 : ByteArray) (r3 : Bool) (w0 w : World) (hI : IsS108 w0 w g s0_0 s0_1) (hB : Below w0.heap.size w0 w) (h : impl_taker_number.f k s0_0 s0_1 = some (r1, r2, r3)) :
  Calls Try.prog 86 #[.pointer (some ⟨g, 0, none⟩)] w fun e w' => e = .returned (.int .i64 r1) ∧ IsS108 w0 w' g r2 r3 ∧ Below w0.heap.size w0 w' ∧ KeepBut w w' g none := by
 have HI0 := Qz.mk hI
 have HK := Qz.mk (KeepBut.refl w g none)
 have HL := Qz.mk hB.size
 clear hI
 have HW0 := Qz.mk hB.size
 have HB := Qz.mk hB
 clear hB
 have H : ((impl_TakeVar.f k s0_0).bind fun bt101 => (if bt101.2.2 = true then (if bt101.1 > 4611686018427387904 then (some (0, s0_0, true)) else (some (wrap64 (bt101.1), bt101.2.1, s0_1))) else (some (0, s0_0, true)))) = some (r1, r2, r3) := h
 clear h
 replace H := Option.bind_eq_some_iff.mp H
 obtain ⟨⟨t101, t102, t103⟩, A20, H⟩ := H
 replace H : (if t103 = true then (if t101 > 4611686018427387904 then (some (0, s0_0, true)) else (some (wrap64 (t101), t102, s0_1))) else (some (0, s0_0, true))) = some (r1, r2, r3) := H
 have A2 := Qz.mk A20
 clear A20
 by_cases c3 : t103 = true
 ·subst c3
  have H1 : (if t101 > 4611686018427387904 then (some (0, s0_0, true)) else (some (wrap64 (t101), t102, s0_1))) = some (r1, r2, r3) := by rw [if_pos rfl] at H; exact H
  clear H
  have H := H1
  clear H1
  by_cases c4 : t101 > 4611686018427387904
  ·rw [if_pos c4] at H
   have c4b0 : decide (4611686018427387904 < t101) = true := decide_eq_true c4
   clear c4
   simp only [Option.some.injEq, Prod.mk.injEq] at H
   obtain ⟨rfl, rfl, rfl⟩ := H
   obtain ⟨HGz5, hgz5⟩ := HI0.out
   have hcz5_0 := cellS108_0 HGz5
   have hcz5_1 := cellS108_1 HGz5
   have hfz5_0 := qj HGz5 0
   have hfz5_1 := qj HGz5 1
   clear HGz5 hgz5
   go_enter Try.func86, Try.ntmps86
   go_wp2_with (first | ((with_reducible refine qm (f := 114) rfl ?_); refine qy (some 11) rfl rfl Try.func114 (by kernel_rfl) rfl #[.string s0_0] rfl (by (try simp only [List.map_toArray, List.map_cons, List.map_nil]); first | done | rfl) ?_; (with_reducible refine (impl_TakeVar.calls k s0_0 t101 t102 true _ A2.out).mono ?_); rintro e w' ⟨rfl, ⟨nd, rfl⟩⟩; refine ⟨_, rfl, ?_⟩))
   go_ret
   exact ⟨by first | rfl | (simp [qt, qr] <;> rfl) | (simp [*, qt, qr] <;> rfl), by repeat (first | (with_reducible first | exact HI0.out | apply IsS108.alloc | apply IsS108.drewN | apply IsS108.drew | apply IsS108.set_0 | apply IsS108.set_1) | exact HI0.out), by repeat (first | (with_reducible first | exact HB.out | apply qi | apply qd | apply qh | refine qe ?_ (IsS108.ge HI0.out)) | exact HB.out), by repeat (first | (with_reducible first | exact HK.out | apply KeepBut.set_ | apply qn | apply qp | apply qo) | exact HK.out)⟩
  ·rw [if_neg c4] at H
   have c4b0 : decide (4611686018427387904 < t101) = false := decide_eq_false c4
   clear c4
   simp only [Option.some.injEq, Prod.mk.injEq] at H
   obtain ⟨rfl, rfl, rfl⟩ := H
   obtain ⟨HGz6, hgz6⟩ := HI0.out
   have hcz6_0 := cellS108_0 HGz6
   have hcz6_1 := cellS108_1 HGz6
   have hfz6_0 := qj HGz6 0
   have hfz6_1 := qj HGz6 1
   clear HGz6 hgz6
   go_enter Try.func86, Try.ntmps86
   go_wp2_with (first | ((with_reducible refine qm (f := 114) rfl ?_); refine qy (some 11) rfl rfl Try.func114 (by kernel_rfl) rfl #[.string s0_0] rfl (by (try simp only [List.map_toArray, List.map_cons, List.map_nil]); first | done | rfl) ?_; (with_reducible refine (impl_TakeVar.calls k s0_0 t101 t102 true _ A2.out).mono ?_); rintro e w' ⟨rfl, ⟨nd, rfl⟩⟩; refine ⟨_, rfl, ?_⟩))
   go_ret
   exact ⟨by first | rfl | (simp [qt, qr] <;> rfl) | (simp [*, qt, qr] <;> rfl), by repeat (first | (with_reducible first | exact HI0.out | apply IsS108.alloc | apply IsS108.drewN | apply IsS108.drew | apply IsS108.set_0 | apply IsS108.set_1) | exact HI0.out), by repeat (first | (with_reducible first | exact HB.out | apply qi | apply qd | apply qh | refine qe ?_ (IsS108.ge HI0.out)) | exact HB.out), by repeat (first | (with_reducible first | exact HK.out | apply KeepBut.set_ | apply qn | apply qp | apply qo) | exact HK.out)⟩
 ·replace c3 := Bool.eq_false_iff.mpr c3
  subst c3
  have H1 : (some (0, s0_0, true)) = some (r1, r2, r3) := by rw [if_neg (show ¬ (false = true) by decide)] at H; exact H
  clear H
  have H := H1
  clear H1
  simp only [Option.some.injEq, Prod.mk.injEq] at H
  obtain ⟨rfl, rfl, rfl⟩ := H
  obtain ⟨HGz7, hgz7⟩ := HI0.out
  have hcz7_0 := cellS108_0 HGz7
  have hcz7_1 := cellS108_1 HGz7
  have hfz7_0 := qj HGz7 0
  have hfz7_1 := qj HGz7 1
  clear HGz7 hgz7
  go_enter Try.func86, Try.ntmps86
  go_wp2_with (first | ((with_reducible refine qm (f := 114) rfl ?_); refine qy (some 11) rfl rfl Try.func114 (by kernel_rfl) rfl #[.string s0_0] rfl (by (try simp only [List.map_toArray, List.map_cons, List.map_nil]); first | done | rfl) ?_; (with_reducible refine (impl_TakeVar.calls k s0_0 t101 t102 false _ A2.out).mono ?_); rintro e w' ⟨rfl, ⟨nd, rfl⟩⟩; refine ⟨_, rfl, ?_⟩))
  go_ret
  exact ⟨by first | rfl | (simp [qt, qr] <;> rfl) | (simp [*, qt, qr] <;> rfl), by repeat (first | (with_reducible first | exact HI0.out | apply IsS108.alloc | apply IsS108.drewN | apply IsS108.drew | apply IsS108.set_0 | apply IsS108.set_1) | exact HI0.out), by repeat (first | (with_reducible first | exact HB.out | apply qi | apply qd | apply qh | refine qe ?_ (IsS108.ge HI0.out)) | exact HB.out), by repeat (first | (with_reducible first | exact HK.out | apply KeepBut.set_ | apply qn | apply qp | apply qo) | exact HK.out)⟩
theorem yq52 {P : Prop} (h : P := by repeat (first | (with_reducible first | exact HI109.out | apply IsS108.alloc | apply IsS108.drewN | apply IsS108.drew | apply IsS108.set_0 | apply IsS108.set_1 | apply (fun h_ => IsS108.far h_ NB109_101.out _) | apply (fun h_ => IsS108.far h_ NB109_119.out _)) | exact HI109.out)) : P := h
theorem yq53 {P : Prop} (h : P := by (with_reducible repeat (first | refine qc ?_ _ | refine qf ?_ | refine qa ?_ _)); exact BK101.out) : P := h
theorem yq54 {P : Prop} (h : P := by (with_reducible repeat (first | refine qc ?_ _ | refine qf ?_ | refine qa ?_ _)); refine qw (cs := #[.slice none 0 0, .int .i64 0, .int .i64 0, .int .i64 0]) ?_ 3 _ rfl; (with_reducible repeat (first | refine qc ?_ _ | refine qf ?_ | refine qa ?_ _)); refine qw (cs := #[.slice none 0 0, .int .i64 0, .int .i64 0, .int .i64 0]) ?_ 2 _ rfl; (with_reducible repeat (first | refine qc ?_ _ | refine qf ?_ | refine qa ?_ _)); refine qw (cs := #[.slice none 0 0, .int .i64 0, .int .i64 0, .int .i64 0]) ?_ 1 _ rfl; (with_reducible repeat (first | refine qc ?_ _ | refine qf ?_ | refine qa ?_ _)); refine qw (cs := #[.slice none 0 0, .int .i64 0, .int .i64 0, .int .i64 0]) ?_ 0 _ rfl; (with_reducible repeat (first | refine qc ?_ _ | refine qf ?_ | refine qa ?_ _)); exact BK101.out) : P := h
theorem yq55 {P : Prop} (h : P := by repeat (first | (with_reducible first | exact HB.out | apply qi | apply qd | apply qh | refine qe ?_ (IsS108.ge HI109.out) | refine qe ?_ GE101.out | refine qe ?_ GE119.out) | exact HB.out)) : P := h
theorem yq56 {P : Prop} (h : P := by (try simp only [List.map_toArray, List.map_cons, List.map_nil]); first | done | rfl) : P := h
theorem yq57 {P : Prop} (h : P := by (with_reducible repeat (first | apply Kd.R_alloc | apply Kd.R_drewN | apply Kd.R_drew)); exact HO_120000.out) : P := h
theorem yq58 {P : Prop} (h : P := by (with_reducible repeat (first | refine qc ?_ _ | refine qf ?_ | refine qa ?_ _)); exact BK119.out) : P := h
theorem yq59 {P : Prop} (h : P := by repeat (first | (with_reducible first | exact HI109.out | apply IsS108.alloc | apply IsS108.drewN | apply IsS108.drew | apply IsS108.set_0 | apply IsS108.set_1 | apply (fun h_ => IsS108.far h_ NB109_101.out _)) | exact HI109.out)) : P := h
theorem yq60 {P : Prop} (h : P := by repeat (first | (with_reducible first | exact HI102.out | apply IsS108.alloc | apply IsS108.drewN | apply IsS108.drew | apply IsS108.set_0 | apply IsS108.set_1 | apply (fun h_ => IsS108.far h_ NB102_101.out _)) | exact HI102.out)) : P := h
theorem yq61 {P : Prop} (h : P := by repeat (first | (with_reducible first | exact HB.out | apply qi | apply qd | apply qh | refine qe ?_ (IsS108.ge HI109.out) | refine qe ?_ GE101.out) | exact HB.out)) : P := h
theorem yq62 {P : Prop} (h : P := by repeat (first | (with_reducible first | exact HB.out | apply qi | apply qd | apply qh | refine qe ?_ GE101.out) | exact HB.out)) : P := h
theorem yq63 {P : Prop} (h : P := by repeat (first | (with_reducible first | exact HB.out | apply qi | apply qd | apply qh | refine qe ?_ (IsS108.ge HI102.out) | refine qe ?_ GE101.out) | exact HB.out)) : P := h
theorem yq64 {P : Prop} (h : P := by rw [hg]; exact Nat.ne_of_lt (qh1 (g := gb101) (o := .cells #[.slice none 0 0, .int .i64 0, .int .i64 0, .int .i64 0] 32 (0, 0)) yq53)) : P := h
theorem yq65 {P : Prop} (h : P := by rw [hg]; exact Nat.ne_of_gt (qh1 (g := gb101) (o := .cells #[.slice none 0 0, .int .i64 0, .int .i64 0, .int .i64 0] 32 (0, 0)) yq53)) : P := h
theorem yq66 {P : Prop} (h : P := by repeat (first | (with_reducible first | exact HB.out | apply qi | apply qd | apply qh) | exact HB.out)) : P := h
mutual
def impl_ReadVersion.j0 : Nat → Int → Bool → ByteArray → Bool → Int → Int → Int → Option ((List (S66)) × Int × Int × Int × Bool)
 | 0, _, _, _, _, _, _, _ => none
 | k + 1, x7, x36, x110000, x110001, x120001, x120002, x120003 => if x36 = true then (some (([] : List (S66)), 0, 0, 0, false)) else (impl_ReadVersion.l0 k x7 0 x110000 x110001 ([] : List (S66)) x120001 x120002 x120003)
def impl_ReadVersion.l0 : Nat → Int → Int → ByteArray → Bool → List (S66) → Int → Int → Int → Option ((List (S66)) × Int × Int × Int × Bool)
 | 0, _, _, _, _, _, _, _, _ => none
 | k + 1, x38, x39, x110000, x110001, x120000, x120001, x120002, x120003 => if x39 < x38 then ((impl_taker_number.f k x110000 x110001).bind fun bt123 => ((impl_taker_number.f k bt123.2.1 bt123.2.2).bind fun bt126 => ((impl_taker_text.f k bt126.2.1 bt126.2.2).bind fun bt129 => ((impl_taker_text.f k bt129.2.1 bt129.2.2).bind fun bt132 => ((impl_taker_number.f k bt132.2.1 bt132.2.2).bind fun bt135 => (if x120000.length < 2513169434916 then (impl_ReadVersion.l0 k x38 (wrap64 (x39 + 1)) bt135.2.1 bt135.2.2 (x120000 ++ [(⟨bt123.1, bt126.1, bt129.1, bt132.1, bt135.1⟩ : S66)]) x120001 x120002 x120003) else (none))))))) else ((impl_taker_whole.f x110000 x110001).bind fun bt141 => (if bt141.1 = true then ((impl_VersionOk.f x120000 x120001 x120002 x120003).bind fun t144 => (if t144 = true then (some (x120000, x120001, x120002, x120003, true)) else (some (([] : List (S66)), 0, 0, 0, false)))) else (some (([] : List (S66)), 0, 0, 0, false))))
end
def impl_ReadVersion.f (k : Nat) (a0 : ByteArray) : Option ((List (S66)) × Int × Int × Int × Bool) := (impl_taker_section.f k a0 false).bind fun bt103 => ((impl_taker_whole.f bt103.2.1 bt103.2.2).bind fun bt106 => (if bt106.1 = true then ((impl_taker_number.f k bt103.1 false).bind fun bt110 => ((impl_taker_number.f k bt110.2.1 bt110.2.2).bind fun bt113 => ((impl_taker_number.f k bt113.2.1 bt113.2.2).bind fun bt116 => ((impl_taker_number.f k bt116.2.1 bt116.2.2).bind fun bt120 => (if bt120.2.2 = true then (impl_ReadVersion.j0 k bt120.1 true bt120.2.1 bt120.2.2 bt110.1 bt113.1 bt116.1) else (impl_ReadVersion.j0 k bt120.1 (decide (bt120.1 > 30)) bt120.2.1 bt120.2.2 bt110.1 bt113.1 bt116.1)))))) else (some (([] : List (S66)), 0, 0, 0, false))))
def impl_ReadVersion.T12 : Bool × List (List Nat × List Nat) := (true, [([], []), ([0], [0]), ([], []), ([2], [2]), ([], []), ([4, 3], [4]), ([], []), ([6, 5], [6]), ([], []), ([8, 7], [8]), ([], []), ([10, 9], [10]), ([3, 5, 7, 9, 11], [3, 5, 7, 9, 11]), ([12], [12]), ([1, 13, 11], [1, 13]), ([0, 1, 2, 3, 4, 5, 6, 7, 8, 9, 10, 11, 12, 13, 14], []), ([15, 14, 14, 0, 1, 2, 3, 4, 5, 6, 7, 8, 9, 10, 11, 12, 13, 14], [14, 15])])
def impl_ReadVersion.B12 : List Nat := [0, 1, 0, 4, 0, 28, 0, 124, 0, 508, 0, 2044, 4092, 8188, 16383, 32767, 65535]
theorem impl_ReadVersion.tab12 : rtab .any (opsOf Try.f48 12) = impl_ReadVersion.T12 := by kernel_rfl
theorem impl_ReadVersion.bits12 : waitsOk impl_ReadVersion.T12.2 impl_ReadVersion.B12 = true := by kernel_rfl
set_option maxHeartbeats 8000000 in
set_option maxRecDepth 100000 in
theorem impl_ReadVersion.calls (k : Nat) (a0 : ByteArray) (r1 : List (S66)) (r2 : Int) (r3 : Int) (r4 : Int) (r5 : Bool) (w : World) (h : impl_ReadVersion.f k a0 = some (r1, r2, r3, r4, r5)) :
  Calls Try.prog 48 #[.string a0] w fun e w' => ∃ v0_ : Value, e = .returned (.tuple #[.agg #[v0_, .int .i64 r2, .int .i64 r3, .int .i64 r4], .bool r5]) ∧ Kd.R k66 66 w' w.heap.size (fun _ => True) v0_ r1 ∧ Below w.heap.size w w' := by
 have hu32 := Try.underlying32
 have hu108 := Try.underlying108
 have hu66 := Try.underlying66
 have HB := Qz.mk (Below.refl w.heap.size w)
 have H : ((impl_taker_section.f k a0 false).bind fun bt103 => ((impl_taker_whole.f bt103.2.1 bt103.2.2).bind fun bt106 => (if bt106.1 = true then ((impl_taker_number.f k bt103.1 false).bind fun bt110 => ((impl_taker_number.f k bt110.2.1 bt110.2.2).bind fun bt113 => ((impl_taker_number.f k bt113.2.1 bt113.2.2).bind fun bt116 => ((impl_taker_number.f k bt116.2.1 bt116.2.2).bind fun bt120 => (if bt120.2.2 = true then (impl_ReadVersion.j0 k bt120.1 true bt120.2.1 bt120.2.2 bt110.1 bt113.1 bt116.1) else (impl_ReadVersion.j0 k bt120.1 (decide (bt120.1 > 30)) bt120.2.1 bt120.2.2 bt110.1 bt113.1 bt116.1)))))) else (some (([] : List (S66)), 0, 0, 0, false))))) = some (r1, r2, r3, r4, r5) := h
 clear h
 replace H := Option.bind_eq_some_iff.mp H
 obtain ⟨⟨t103, t104, t105⟩, A20, H⟩ := H
 replace H : ((impl_taker_whole.f t104 t105).bind fun bt106 => (if bt106.1 = true then ((impl_taker_number.f k t103 false).bind fun bt110 => ((impl_taker_number.f k bt110.2.1 bt110.2.2).bind fun bt113 => ((impl_taker_number.f k bt113.2.1 bt113.2.2).bind fun bt116 => ((impl_taker_number.f k bt116.2.1 bt116.2.2).bind fun bt120 => (if bt120.2.2 = true then (impl_ReadVersion.j0 k bt120.1 true bt120.2.1 bt120.2.2 bt110.1 bt113.1 bt116.1) else (impl_ReadVersion.j0 k bt120.1 (decide (bt120.1 > 30)) bt120.2.1 bt120.2.2 bt110.1 bt113.1 bt116.1)))))) else (some (([] : List (S66)), 0, 0, 0, false)))) = some (r1, r2, r3, r4, r5) := H
 have A2 := Qz.mk A20
 clear A20
 replace H := Option.bind_eq_some_iff.mp H
 obtain ⟨⟨t106, t107, t108⟩, A30, H⟩ := H
 replace H : (if t106 = true then ((impl_taker_number.f k t103 false).bind fun bt110 => ((impl_taker_number.f k bt110.2.1 bt110.2.2).bind fun bt113 => ((impl_taker_number.f k bt113.2.1 bt113.2.2).bind fun bt116 => ((impl_taker_number.f k bt116.2.1 bt116.2.2).bind fun bt120 => (if bt120.2.2 = true then (impl_ReadVersion.j0 k bt120.1 true bt120.2.1 bt120.2.2 bt110.1 bt113.1 bt116.1) else (impl_ReadVersion.j0 k bt120.1 (decide (bt120.1 > 30)) bt120.2.1 bt120.2.2 bt110.1 bt113.1 bt116.1)))))) else (some (([] : List (S66)), 0, 0, 0, false))) = some (r1, r2, r3, r4, r5) := H
 have A3 := Qz.mk A30
 clear A30
 by_cases c4 : t106 = true
 ·subst c4
  have H1 : ((impl_taker_number.f k t103 false).bind fun bt110 => ((impl_taker_number.f k bt110.2.1 bt110.2.2).bind fun bt113 => ((impl_taker_number.f k bt113.2.1 bt113.2.2).bind fun bt116 => ((impl_taker_number.f k bt116.2.1 bt116.2.2).bind fun bt120 => (if bt120.2.2 = true then (impl_ReadVersion.j0 k bt120.1 true bt120.2.1 bt120.2.2 bt110.1 bt113.1 bt116.1) else (impl_ReadVersion.j0 k bt120.1 (decide (bt120.1 > 30)) bt120.2.1 bt120.2.2 bt110.1 bt113.1 bt116.1)))))) = some (r1, r2, r3, r4, r5) := by rw [if_pos rfl] at H; exact H
  clear H
  have H := H1
  clear H1
  replace H := Option.bind_eq_some_iff.mp H
  obtain ⟨⟨t110, t111, t112⟩, A50, H⟩ := H
  replace H : ((impl_taker_number.f k t111 t112).bind fun bt113 => ((impl_taker_number.f k bt113.2.1 bt113.2.2).bind fun bt116 => ((impl_taker_number.f k bt116.2.1 bt116.2.2).bind fun bt120 => (if bt120.2.2 = true then (impl_ReadVersion.j0 k bt120.1 true bt120.2.1 bt120.2.2 t110 bt113.1 bt116.1) else (impl_ReadVersion.j0 k bt120.1 (decide (bt120.1 > 30)) bt120.2.1 bt120.2.2 t110 bt113.1 bt116.1))))) = some (r1, r2, r3, r4, r5) := H
  have A5 := Qz.mk A50
  clear A50
  replace H := Option.bind_eq_some_iff.mp H
  obtain ⟨⟨t113, t114, t115⟩, A60, H⟩ := H
  replace H : ((impl_taker_number.f k t114 t115).bind fun bt116 => ((impl_taker_number.f k bt116.2.1 bt116.2.2).bind fun bt120 => (if bt120.2.2 = true then (impl_ReadVersion.j0 k bt120.1 true bt120.2.1 bt120.2.2 t110 t113 bt116.1) else (impl_ReadVersion.j0 k bt120.1 (decide (bt120.1 > 30)) bt120.2.1 bt120.2.2 t110 t113 bt116.1)))) = some (r1, r2, r3, r4, r5) := H
  have A6 := Qz.mk A60
  clear A60
  replace H := Option.bind_eq_some_iff.mp H
  obtain ⟨⟨t116, t117, t118⟩, A70, H⟩ := H
  replace H : ((impl_taker_number.f k t117 t118).bind fun bt120 => (if bt120.2.2 = true then (impl_ReadVersion.j0 k bt120.1 true bt120.2.1 bt120.2.2 t110 t113 t116) else (impl_ReadVersion.j0 k bt120.1 (decide (bt120.1 > 30)) bt120.2.1 bt120.2.2 t110 t113 t116))) = some (r1, r2, r3, r4, r5) := H
  have A7 := Qz.mk A70
  clear A70
  replace H := Option.bind_eq_some_iff.mp H
  obtain ⟨⟨t120, t121, t122⟩, A80, H⟩ := H
  replace H : (if t122 = true then (impl_ReadVersion.j0 k t120 true t121 t122 t110 t113 t116) else (impl_ReadVersion.j0 k t120 (decide (t120 > 30)) t121 t122 t110 t113 t116)) = some (r1, r2, r3, r4, r5) := H
  have A8 := Qz.mk A80
  clear A80
  have HC9 := Qz.mk H
  clear H
  go_enter Try.func48, Try.ntmps48
  go_upto_region 8 with (first | ((with_reducible refine gate_dst (N := 2) rfl ?_); refine box_event ?hg (N := 2) ?hd (cs := #[.slice none 0 0, .int .i64 0, .int .i64 0, .int .i64 0]) (t := 32) ?hr ?_; (case hd => rfl); (case hg => rfl); (case hr => first | (go_simp; done) | (go_simp; rfl)); intro gb101 hg w10 hbox hb; have BK101 := Qz.mk (hbox); have GW101 := Qz.mk ((by rw [hg]; exact (qb1 yq66) : w.heap.size ≤ gb101)); have GE101 := GW101; replace HB := Qz.mk (qq yq66 hb); clear hb hbox hg) | ((with_reducible refine gate_dst (N := 10) rfl ?_); refine box_event ?hg (N := 10) ?hd (cs := #[.string a0, .bool false]) (t := 108) ?hr ?_; (case hd => rfl); (case hg => rfl); (case hr => first | (go_simp; done) | (go_simp; rfl)); intro gb102 hg w11 hbox hb; have HI102 := Qz.mk ((⟨hbox, (by rw [hg]; exact (qb1 yq62) : w.heap.size ≤ gb102)⟩ : IsS108 w w11 gb102 a0 false)); replace HB := Qz.mk (qq yq62 hb); have NB101_102 := Qz.mk ((yq64 : gb101 ≠ gb102)); have NB102_101 := Qz.mk ((yq65 : gb102 ≠ gb101)); replace BK101 := Qz.mk (qu (g := gb101) (o := .cells #[.slice none 0 0, .int .i64 0, .int .i64 0, .int .i64 0] 32 (0, 0)) yq53 hb); clear hb hbox hg) | ((with_reducible refine qm (f := 84) rfl ?_); refine qy (some 12) rfl rfl Try.func84 (by kernel_rfl) rfl #[.pointer (some ⟨gb102, 0, none⟩)] rfl yq56 ?_; (with_reducible refine (impl_taker_section.calls k gb102 a0 false t103 t104 t105 w _ ?side1 ?side2 A2.out).mono ?_); (case side1 => exact yq60); (case side2 => exact yq63); rintro e w12 ⟨rfl, hi, hb, hk⟩; refine ⟨_, rfl, ?_⟩; replace BK101 := Qz.mk (KeepBut.blk hk (g' := gb101) (o := .cells #[.slice none 0 0, .int .i64 0, .int .i64 0, .int .i64 0] 32 (0, 0)) yq53 NB101_102.out (by simp)); replace HB := Qz.mk (hb); replace HI102 := Qz.mk (hi); (try clear hb); (try clear hk); (try clear hi)) | ((with_reducible refine qm (f := 85) rfl ?_); refine qy (some 14) rfl rfl Try.func85 (by kernel_rfl) rfl #[.pointer (some ⟨gb102, 0, none⟩)] rfl yq56 ?_; (with_reducible refine (impl_taker_whole.calls gb102 t104 t105 true t107 t108 w _ ?side1 ?side2 A3.out).mono ?_); (case side1 => exact yq60); (case side2 => exact yq63); rintro e w13 ⟨rfl, hi, hb, hk⟩; refine ⟨_, rfl, ?_⟩; replace BK101 := Qz.mk (KeepBut.blk hk (g' := gb101) (o := .cells #[.slice none 0 0, .int .i64 0, .int .i64 0, .int .i64 0] 32 (0, 0)) yq53 NB101_102.out (by simp)); replace HB := Qz.mk (hb); replace HI102 := Qz.mk (hi); (try clear hb); (try clear hk); (try clear hi)) | ((with_reducible refine gate_dst (N := 19) rfl ?_); refine box_event ?hg (N := 19) ?hd (cs := #[.string t103, .bool false]) (t := 108) ?hr ?_; (case hd => rfl); (case hg => rfl); (case hr => first | (go_simp; done) | (go_simp; rfl)); intro gb109 hg w14 hbox hb; have HI109 := Qz.mk ((⟨hbox, (by rw [hg]; exact (qb1 yq62) : w.heap.size ≤ gb109)⟩ : IsS108 w w14 gb109 t103 false)); replace HB := Qz.mk (qq yq62 hb); have NB101_109 := Qz.mk ((yq64 : gb101 ≠ gb109)); have NB109_101 := Qz.mk ((yq65 : gb109 ≠ gb101)); replace BK101 := Qz.mk (qu (g := gb101) (o := .cells #[.slice none 0 0, .int .i64 0, .int .i64 0, .int .i64 0] 32 (0, 0)) yq53 hb); clear hb hbox hg) | ((with_reducible refine qm (f := 86) rfl ?_); refine qy (some 21) rfl rfl Try.func86 (by kernel_rfl) rfl #[.pointer (some ⟨gb109, 0, none⟩)] rfl yq56 ?_; (with_reducible refine (impl_taker_number.calls k gb109 t103 false t110 t111 t112 w _ ?side1 ?side2 A5.out).mono ?_); (case side1 => exact yq59); (case side2 => exact yq61); rintro e w15 ⟨rfl, hi, hb, hk⟩; refine ⟨_, rfl, ?_⟩; replace BK101 := Qz.mk (KeepBut.blk hk (g' := gb101) (o := .cells #[.slice none 0 0, .int .i64 0, .int .i64 0, .int .i64 0] 32 (0, 0)) yq53 NB101_109.out (by simp)); replace HB := Qz.mk (hb); replace HI109 := Qz.mk (hi); (try clear hb); (try clear hk); (try clear hi)) | ((with_reducible refine qm (f := 86) rfl ?_); refine qy (some 23) rfl rfl Try.func86 (by kernel_rfl) rfl #[.pointer (some ⟨gb109, 0, none⟩)] rfl yq56 ?_; (with_reducible refine (impl_taker_number.calls k gb109 t111 t112 t113 t114 t115 w _ ?side1 ?side2 A6.out).mono ?_); (case side1 => exact yq59); (case side2 => exact yq61); rintro e w16 ⟨rfl, hi, hb, hk⟩; refine ⟨_, rfl, ?_⟩; replace BK101 := Qz.mk (KeepBut.blk hk (g' := gb101) (o := .cells #[.slice none 0 0, .int .i64 0, .int .i64 0, .int .i64 0] 32 (0, 0)) yq53 NB101_109.out (by simp)); replace HB := Qz.mk (hb); replace HI109 := Qz.mk (hi); (try clear hb); (try clear hk); (try clear hi)) | ((with_reducible refine qm (f := 86) rfl ?_); refine qy (some 25) rfl rfl Try.func86 (by kernel_rfl) rfl #[.pointer (some ⟨gb109, 0, none⟩)] rfl yq56 ?_; (with_reducible refine (impl_taker_number.calls k gb109 t114 t115 t116 t117 t118 w _ ?side1 ?side2 A7.out).mono ?_); (case side1 => exact yq59); (case side2 => exact yq61); rintro e w17 ⟨rfl, hi, hb, hk⟩; refine ⟨_, rfl, ?_⟩; replace BK101 := Qz.mk (KeepBut.blk hk (g' := gb101) (o := .cells #[.slice none 0 0, .int .i64 0, .int .i64 0, .int .i64 0] 32 (0, 0)) yq53 NB101_109.out (by simp)); replace HB := Qz.mk (hb); replace HI109 := Qz.mk (hi); (try clear hb); (try clear hk); (try clear hi)) | ((with_reducible refine gate_dst (N := 6) rfl ?_); refine box_event ?hg (N := 6) ?hd (cs := #[.slice none 0 0, .int .i64 0, .int .i64 0, .int .i64 0]) (t := 32) ?hr ?_; (case hd => rfl); (case hg => rfl); (case hr => first | (go_simp; done) | (go_simp; rfl)); intro gb119 hg w18 hbox hb; have BK119 := Qz.mk (hbox); have GW119 := Qz.mk ((by rw [hg]; exact (qb1 yq61) : w.heap.size ≤ gb119)); have GE119 := GW119; replace HB := Qz.mk (qq yq61 hb); have NB101_119 := Qz.mk ((yq64 : gb101 ≠ gb119)); have NB119_101 := Qz.mk ((yq65 : gb119 ≠ gb101)); replace BK101 := Qz.mk (qu (g := gb101) (o := .cells #[.slice none 0 0, .int .i64 0, .int .i64 0, .int .i64 0] 32 (0, 0)) yq53 hb); have NB109_119 := Qz.mk ((by rw [hg]; exact Nat.ne_of_lt (IsS108.lt (show IsS108 w _ gb109 t117 t118 from by repeat (first | (with_reducible first | exact HI109.out | apply IsS108.alloc | apply IsS108.drewN | apply IsS108.drew | apply IsS108.set_0 | apply IsS108.set_1 | apply (fun h_ => IsS108.far h_ NB109_101.out _)) | exact HI109.out))) : gb109 ≠ gb119)); have NB119_109 := Qz.mk ((by rw [hg]; exact Nat.ne_of_gt (IsS108.lt (show IsS108 w _ gb109 t117 t118 from by repeat (first | (with_reducible first | exact HI109.out | apply IsS108.alloc | apply IsS108.drewN | apply IsS108.drew | apply IsS108.set_0 | apply IsS108.set_1 | apply (fun h_ => IsS108.far h_ NB109_101.out _)) | exact HI109.out))) : gb119 ≠ gb109)); replace HI109 := Qz.mk (IsS108.below yq59 hb); clear hb hbox hg; have hnb19 := NB119_101.out; have hnc19 := NB101_119.out; have hnb20 := NB119_109.out; have hnc20 := NB109_119.out; have hcz21_0 := (qg BK119.out 0).trans rfl; have hcz21_1 := (qg BK119.out 1).trans rfl; have hcz21_2 := (qg BK119.out 2).trans rfl; have hcz21_3 := (qg BK119.out 3).trans rfl; have hfz21_0 := qj BK119.out 0; have hfz21_1 := qj BK119.out 1; have hfz21_2 := qj BK119.out 2; have hfz21_3 := qj BK119.out 3) | ((with_reducible refine qm (f := 86) rfl ?_); refine qy (some 28) rfl rfl Try.func86 (by kernel_rfl) rfl #[.pointer (some ⟨gb109, 0, none⟩)] rfl yq56 ?_; (with_reducible refine (impl_taker_number.calls k gb109 t117 t118 t120 t121 t122 w _ ?side1 ?side2 A8.out).mono ?_); (case side1 => exact yq52); (case side2 => exact yq55); rintro e w22 ⟨rfl, hi, hb, hk⟩; refine ⟨_, rfl, ?_⟩; replace BK101 := Qz.mk (KeepBut.blk hk (g' := gb101) (o := .cells #[.slice none 0 0, .int .i64 0, .int .i64 0, .int .i64 0] 32 (0, 0)) (by (with_reducible repeat (first | refine qc ?_ _ | refine qf ?_ | refine qa ?_ _)); refine qx ?_ NB101_119.out _; (with_reducible repeat (first | refine qc ?_ _ | refine qf ?_ | refine qa ?_ _)); refine qx ?_ NB101_119.out _; (with_reducible repeat (first | refine qc ?_ _ | refine qf ?_ | refine qa ?_ _)); refine qx ?_ NB101_119.out _; (with_reducible repeat (first | refine qc ?_ _ | refine qf ?_ | refine qa ?_ _)); refine qx ?_ NB101_119.out _; (with_reducible repeat (first | refine qc ?_ _ | refine qf ?_ | refine qa ?_ _)); exact BK101.out) NB101_109.out (by simp)); replace BK119 := Qz.mk (KeepBut.blk hk (g' := gb119) (o := .cells #[.slice none 0 0, .int .i64 t110, .int .i64 t113, .int .i64 t116] 32 (0, 0)) (by (with_reducible repeat (first | refine qc ?_ _ | refine qf ?_ | refine qa ?_ _)); refine qw (cs := #[.slice none 0 0, .int .i64 t110, .int .i64 t113, .int .i64 0]) ?_ 3 _ rfl; (with_reducible repeat (first | refine qc ?_ _ | refine qf ?_ | refine qa ?_ _)); refine qw (cs := #[.slice none 0 0, .int .i64 t110, .int .i64 0, .int .i64 0]) ?_ 2 _ rfl; (with_reducible repeat (first | refine qc ?_ _ | refine qf ?_ | refine qa ?_ _)); refine qw (cs := #[.slice none 0 0, .int .i64 0, .int .i64 0, .int .i64 0]) ?_ 1 _ rfl; (with_reducible repeat (first | refine qc ?_ _ | refine qf ?_ | refine qa ?_ _)); refine qw (cs := #[.slice none 0 0, .int .i64 0, .int .i64 0, .int .i64 0]) ?_ 0 _ rfl; (with_reducible repeat (first | refine qc ?_ _ | refine qf ?_ | refine qa ?_ _)); exact BK119.out) NB119_109.out (by simp)); replace HB := Qz.mk (hb); replace HI109 := Qz.mk (hi); (try clear hb); (try clear hk); (try clear hi)))
  (try simp only [Act.put, sq1, sq2, sq3])
  go_cut [36] (fun v36 wc => ∃ (kq : Nat) (x36_8 : Bool), v36 = .bool x36_8 ∧ Qz (impl_ReadVersion.j0 kq t120 x36_8 t121 t122 t110 t113 t116 = some (r1, r2, r3, r4, r5)) ∧ Qz (kq ≤ k) ∧ Qz (wc.heap[gb101]? = some (.cells #[(.slice none 0 0), .int .i64 0, .int .i64 0, .int .i64 0] 32 (0, 0))) ∧ Qz (wc.heap[gb119]? = some (.cells #[(.slice none 0 0), .int .i64 t110, .int .i64 t113, .int .i64 t116] 32 (0, 0))) ∧ Qz (IsS108 w wc gb109 t121 t122) ∧ Qz (Below w.heap.size w wc))
  case first =>
   have H := HC9.out
   clear HC9
   by_cases c23 : t122 = true
   ·subst c23
    have H1 : (impl_ReadVersion.j0 k t120 true t121 true t110 t113 t116) = some (r1, r2, r3, r4, r5) := by rw [if_pos rfl] at H; exact H
    clear H
    have H := H1
    clear H1
    have H' := Qz.mk H
    clear H
    obtain ⟨HGz24, hgz24⟩ := HI109.out
    have hcz24_0 := cellS108_0 HGz24
    have hcz24_1 := cellS108_1 HGz24
    have hfz24_0 := qj HGz24 0
    have hfz24_1 := qj HGz24 1
    clear HGz24 hgz24
    go_wp2
    go_meet
    case rel => exact ⟨_, (true), (by first | rfl | (simp; done) | (simp [*]; done)), H', ⟨by first | omega | exact Nat.le_refl _⟩, ⟨by (with_reducible repeat (first | refine qc ?_ _ | refine qf ?_ | refine qa ?_ _)); exact BK101.out⟩, ⟨by (with_reducible repeat (first | refine qc ?_ _ | refine qf ?_ | refine qa ?_ _)); exact BK119.out⟩, ⟨by repeat (first | (with_reducible first | exact HI109.out | apply IsS108.alloc | apply IsS108.drewN | apply IsS108.drew | apply IsS108.set_0 | apply IsS108.set_1 | apply (fun h_ => IsS108.far h_ NB109_101.out _) | apply (fun h_ => IsS108.far h_ NB109_119.out _)) | exact HI109.out)⟩, ⟨by repeat (first | (with_reducible first | exact HB.out | apply qi | apply qd | apply qh | refine qe ?_ (IsS108.ge HI109.out) | refine qe ?_ GE101.out | refine qe ?_ GE119.out) | exact HB.out)⟩⟩
   ·replace c23 := Bool.eq_false_iff.mpr c23
    subst c23
    have H1 : (impl_ReadVersion.j0 k t120 (decide (t120 > 30)) t121 false t110 t113 t116) = some (r1, r2, r3, r4, r5) := by rw [if_neg (show ¬ (false = true) by decide)] at H; exact H
    clear H
    have H := H1
    clear H1
    have H' := Qz.mk H
    clear H
    obtain ⟨HGz25, hgz25⟩ := HI109.out
    have hcz25_0 := cellS108_0 HGz25
    have hcz25_1 := cellS108_1 HGz25
    have hfz25_0 := qj HGz25 0
    have hfz25_1 := qj HGz25 1
    clear HGz25 hgz25
    go_wp2
    go_meet
    case rel => exact ⟨_, (decide (t120 > 30)), (by first | rfl | (simp; done) | (simp [*]; done)), H', ⟨by first | omega | exact Nat.le_refl _⟩, ⟨by (with_reducible repeat (first | refine qc ?_ _ | refine qf ?_ | refine qa ?_ _)); exact BK101.out⟩, ⟨by (with_reducible repeat (first | refine qc ?_ _ | refine qf ?_ | refine qa ?_ _)); exact BK119.out⟩, ⟨by repeat (first | (with_reducible first | exact HI109.out | apply IsS108.alloc | apply IsS108.drewN | apply IsS108.drew | apply IsS108.set_0 | apply IsS108.set_1 | apply (fun h_ => IsS108.far h_ NB109_101.out _) | apply (fun h_ => IsS108.far h_ NB109_119.out _)) | exact HI109.out)⟩, ⟨by repeat (first | (with_reducible first | exact HB.out | apply qi | apply qd | apply qh | refine qe ?_ (IsS108.ge HI109.out) | refine qe ?_ GE101.out | refine qe ?_ GE119.out) | exact HB.out)⟩⟩
  case rest =>
   clear HC9
   (try clear c1);(try clear c2);(try clear p2);(try clear c4);(try clear c8);(try clear c19);(try clear c20);(try clear c23);(try clear hcz21_0);(try clear hcz21_1);(try clear hcz21_2);(try clear hcz21_3);(try clear hcz24_0);(try clear hcz24_1);(try clear hcz25_0);(try clear hcz25_1);(try clear hfz21_0);(try clear hfz21_1);(try clear hfz21_2);(try clear hfz21_3);(try clear hfz24_0);(try clear hfz24_1);(try clear hfz25_0);(try clear hfz25_1)
   obtain ⟨kq, x36_8, rfl, HA, HJ8, BK101, BK119, HI109, HB⟩ := hcut
   cases kq with
   | zero => exact absurd HA.out (by simp [impl_ReadVersion.j0])
   | succ kj8 =>
    have H := HA.out
    clear HA
    simp only [impl_ReadVersion.j0] at H
    by_cases c26 : x36_8 = true
    ·subst c26
     have H1 : (some (([] : List (S66)), 0, 0, 0, false)) = some (r1, r2, r3, r4, r5) := by rw [if_pos rfl] at H; exact H
     clear H
     have H := H1
     clear H1
     simp only [Option.some.injEq, Prod.mk.injEq] at H
     obtain ⟨rfl, rfl, rfl, rfl, rfl⟩ := H
     have hnb27 := NB101_119.out
     have hnc27 := NB119_101.out
     have hnb28 := NB101_109.out
     have hnc28 := NB109_101.out
     have hcz29_0 := (qg BK101.out 0).trans rfl
     have hcz29_1 := (qg BK101.out 1).trans rfl
     have hcz29_2 := (qg BK101.out 2).trans rfl
     have hcz29_3 := (qg BK101.out 3).trans rfl
     have hfz29_0 := qj BK101.out 0
     have hfz29_1 := qj BK101.out 1
     have hfz29_2 := qj BK101.out 2
     have hfz29_3 := qj BK101.out 3
     go_wp2
     refine bodyPost_ret (results_ct rfl _ _ gb101 32 #[.slice none 0 0, .int .i64 0, .int .i64 0, .int .i64 0] (0, 0) _ rfl yq54 Try.underlying32 rfl (by kernel_rfl)) rfl ?_
     exact ⟨_, by first | rfl | (simp [qt, qr] <;> rfl) | (simp [*, qt, qr] <;> rfl), by first | exact Kd.R_nil _ _ _ _ _ | exact Kd.N_nil _ _ _ _ _ | exact Kd.V_nil _ _ _ _ _ | exact Kd.Q_nil _ _ _ _ _ | exact Kd.S_nil _ _ _ _ _, by repeat (first | (with_reducible first | exact HB.out | apply qi | apply qd | apply qh | refine qe ?_ (IsS108.ge HI109.out) | refine qe ?_ GE101.out | refine qe ?_ GE119.out) | exact HB.out)⟩
    ·replace c26 := Bool.eq_false_iff.mpr c26
     subst c26
     have H1 : (impl_ReadVersion.l0 kj8 t120 0 t121 t122 ([] : List (S66)) t110 t113 t116) = some (r1, r2, r3, r4, r5) := by rw [if_neg (show ¬ (false = true) by decide)] at H; exact H
     clear H
     have H := H1
     clear H1
     have H' := Qz.mk H
     clear H
     go_wp2
     go_loopg [39] kj8 (fun kq v39 w' => ∃ (x39_2 : Int) (x110000_2 : ByteArray) (x110001_2 : Bool) (x120000_2 : List (S66)) (u120000 : Value), v39 = .int .i64 x39_2 ∧ Qz (impl_ReadVersion.l0 kq t120 x39_2 x110000_2 x110001_2 x120000_2 t110 t113 t116 = some (r1, r2, r3, r4, r5)) ∧ Qz (kq ≤ kj8) ∧ Qz (Kd.R k66 66 w' w.heap.size (fun _ => True) u120000 x120000_2) ∧ Qz (w'.heap[gb101]? = some (.cells #[(.slice none 0 0), .int .i64 0, .int .i64 0, .int .i64 0] 32 (0, 0))) ∧ Qz (w'.heap[gb119]? = some (.cells #[u120000, .int .i64 t110, .int .i64 t113, .int .i64 t116] 32 (0, 0))) ∧ Qz (IsS108 w w' gb109 x110000_2 x110001_2) ∧ Qz (Below w.heap.size w w'))
     case atStart => exact ⟨(0), (t121), (t122), (([] : List (S66))), (.slice none 0 0), (by first | rfl | (simp; done) | (simp [*]; done)), H', ⟨Nat.le_refl _⟩, ⟨by first | exact Kd.R_nil _ _ _ _ _ | exact Kd.N_nil _ _ _ _ _ | exact Kd.V_nil _ _ _ _ _ | exact Kd.Q_nil _ _ _ _ _ | exact Kd.S_nil _ _ _ _ _⟩, ⟨by (with_reducible repeat (first | refine qc ?_ _ | refine qf ?_ | refine qa ?_ _)); exact BK101.out⟩, ⟨by (with_reducible repeat (first | refine qc ?_ _ | refine qf ?_ | refine qa ?_ _)); exact BK119.out⟩, ⟨by repeat (first | (with_reducible first | exact HI109.out | apply IsS108.alloc | apply IsS108.drewN | apply IsS108.drew | apply IsS108.set_0 | apply IsS108.set_1 | apply (fun h_ => IsS108.far h_ NB109_101.out _) | apply (fun h_ => IsS108.far h_ NB109_119.out _)) | exact HI109.out)⟩, ⟨by repeat (first | (with_reducible first | exact HB.out | apply qi | apply qd | apply qh | refine qe ?_ (IsS108.ge HI109.out) | refine qe ?_ GE101.out | refine qe ?_ GE119.out) | exact HB.out)⟩⟩
     case round =>
      clear H'
      (try clear c1);(try clear c2);(try clear p2);(try clear c4);(try clear c8);(try clear c19);(try clear c20);(try clear c23);(try clear c26);(try clear c27);(try clear c28);(try clear hcz21_0);(try clear hcz21_1);(try clear hcz21_2);(try clear hcz21_3);(try clear hcz24_0);(try clear hcz24_1);(try clear hcz25_0);(try clear hcz25_1);(try clear hcz29_0);(try clear hcz29_1);(try clear hcz29_2);(try clear hcz29_3);(try clear hfz21_0);(try clear hfz21_1);(try clear hfz21_2);(try clear hfz21_3);(try clear hfz24_0);(try clear hfz24_1);(try clear hfz25_0);(try clear hfz25_1);(try clear hfz29_0);(try clear hfz29_1);(try clear hfz29_2);(try clear hfz29_3);(try clear p2)
      obtain ⟨x39_2, x110000_2, x110001_2, x120000_2, u120000, rfl, HA, HK2, HO_120000, BK101, BK119, HI109, HB⟩ := hrel
      cases gk with
      | zero => exact absurd HA.out (by simp [impl_ReadVersion.l0])
      | succ k2 =>
       have H := HA.out
       clear HA
       simp only [impl_ReadVersion.l0] at H
       by_cases c30 : x39_2 < t120
       ·rw [if_pos c30] at H
        have c30b0 : decide (x39_2 < t120) = true := decide_eq_true c30
        clear c30
        replace H := Option.bind_eq_some_iff.mp H
        obtain ⟨⟨t123, t124, t125⟩, A310, H⟩ := H
        replace H : ((impl_taker_number.f k2 t124 t125).bind fun bt126 => ((impl_taker_text.f k2 bt126.2.1 bt126.2.2).bind fun bt129 => ((impl_taker_text.f k2 bt129.2.1 bt129.2.2).bind fun bt132 => ((impl_taker_number.f k2 bt132.2.1 bt132.2.2).bind fun bt135 => (if x120000_2.length < 2513169434916 then (impl_ReadVersion.l0 k2 t120 (wrap64 (x39_2 + 1)) bt135.2.1 bt135.2.2 (x120000_2 ++ [(⟨t123, bt126.1, bt129.1, bt132.1, bt135.1⟩ : S66)]) t110 t113 t116) else (none)))))) = some (r1, r2, r3, r4, r5) := H
        have A31 := Qz.mk A310
        clear A310
        replace H := Option.bind_eq_some_iff.mp H
        obtain ⟨⟨t126, t127, t128⟩, A320, H⟩ := H
        replace H : ((impl_taker_text.f k2 t127 t128).bind fun bt129 => ((impl_taker_text.f k2 bt129.2.1 bt129.2.2).bind fun bt132 => ((impl_taker_number.f k2 bt132.2.1 bt132.2.2).bind fun bt135 => (if x120000_2.length < 2513169434916 then (impl_ReadVersion.l0 k2 t120 (wrap64 (x39_2 + 1)) bt135.2.1 bt135.2.2 (x120000_2 ++ [(⟨t123, t126, bt129.1, bt132.1, bt135.1⟩ : S66)]) t110 t113 t116) else (none))))) = some (r1, r2, r3, r4, r5) := H
        have A32 := Qz.mk A320
        clear A320
        replace H := Option.bind_eq_some_iff.mp H
        obtain ⟨⟨t129, t130, t131⟩, A330, H⟩ := H
        replace H : ((impl_taker_text.f k2 t130 t131).bind fun bt132 => ((impl_taker_number.f k2 bt132.2.1 bt132.2.2).bind fun bt135 => (if x120000_2.length < 2513169434916 then (impl_ReadVersion.l0 k2 t120 (wrap64 (x39_2 + 1)) bt135.2.1 bt135.2.2 (x120000_2 ++ [(⟨t123, t126, t129, bt132.1, bt135.1⟩ : S66)]) t110 t113 t116) else (none)))) = some (r1, r2, r3, r4, r5) := H
        have A33 := Qz.mk A330
        clear A330
        replace H := Option.bind_eq_some_iff.mp H
        obtain ⟨⟨t132, t133, t134⟩, A340, H⟩ := H
        replace H : ((impl_taker_number.f k2 t133 t134).bind fun bt135 => (if x120000_2.length < 2513169434916 then (impl_ReadVersion.l0 k2 t120 (wrap64 (x39_2 + 1)) bt135.2.1 bt135.2.2 (x120000_2 ++ [(⟨t123, t126, t129, t132, bt135.1⟩ : S66)]) t110 t113 t116) else (none))) = some (r1, r2, r3, r4, r5) := H
        have A34 := Qz.mk A340
        clear A340
        replace H := Option.bind_eq_some_iff.mp H
        obtain ⟨⟨t135, t136, t137⟩, A350, H⟩ := H
        replace H : (if x120000_2.length < 2513169434916 then (impl_ReadVersion.l0 k2 t120 (wrap64 (x39_2 + 1)) t136 t137 (x120000_2 ++ [(⟨t123, t126, t129, t132, t135⟩ : S66)]) t110 t113 t116) else (none)) = some (r1, r2, r3, r4, r5) := H
        have A35 := Qz.mk A350
        clear A350
        by_cases c36 : x120000_2.length < 2513169434916
        ·rw [if_pos c36] at H
         have LMc36 := Qz.mk c36
         clear c36
         obtain ⟨y138, hy138⟩ : ∃ y_ : List (S66), y_ = (x120000_2 ++ [(⟨t123, t126, t129, t132, t135⟩ : S66)]) := ⟨_, rfl⟩
         replace H : (impl_ReadVersion.l0 k2 t120 (wrap64 (x39_2 + 1)) t136 t137 y138 t110 t113 t116) = some (r1, r2, r3, r4, r5) := by first | (rw [hy138]; with_reducible exact H) | (have H2_ := (Option.bind_some _ _).symm.trans H; rw [hy138]; with_reducible exact H2_) | (have H2_ := (Option.bind_some _ _).symm.trans H; with_reducible exact H2_) | with_reducible exact H | (rw [hy138]; exact H) | exact H
         have Ny138 := Qz.mk hy138
         clear hy138
         have H' := Qz.mk H
         clear H
         try go_wp2
         replace HO_120000 := Qz.mk (Kd.R_drew HO_120000.out)
         replace BK101 := Qz.mk (qf BK101.out)
         replace BK119 := Qz.mk (qf BK119.out)
         replace HI109 := Qz.mk (IsS108.drew HI109.out)
         replace HB := Qz.mk (qh HB.out)
         refine start_ (n := 17) (S := fun w' => w'.cell? ⟨gb119, 0, none⟩ = some (u120000) ∧ w'.cell? ⟨gb119, 1, none⟩ = some (.int .i64 t110) ∧ w'.cell? ⟨gb119, 2, none⟩ = some (.int .i64 t113) ∧ w'.cell? ⟨gb119, 3, none⟩ = some (.int .i64 t116)) (ds := [16]) bq0 (by kernel_rfl) rfl rfl ⟨(qg BK119.out 0).trans rfl, (qg BK119.out 1).trans rfl, (qg BK119.out 2).trans rfl, (qg BK119.out 3).trans rfl⟩ (fun hHeld => ?_); refine with_tabW impl_ReadVersion.tab12 impl_ReadVersion.bits12 (fun HT_ HW_ => ?_)
         generalize wr.drew = w37 at HO_120000 BK101 BK119 HI109 HB hHeld ⊢
         refine pure_ (i := 0) (N := some 41) (v := ?_) (a' := ?_) bq4 rfl rfl (qg1 HT_.out (by kernel_rfl)) (fun _ _ _ h => h) (Or.inl ⟨by rfl, ?_⟩) ?_ ?_
         rotate_left
         ·intro w'
          go_simp
          with_reducible rfl
         rotate_left
         ·simp only [Act.put, sq1, sq2, sq3, i64_w, i32_w]
          rfl
         refine pure_ (i := 2) (N := some 43) (v := ?_) (a' := ?_) #[true, false, true, false, false, false, false, false, false, false, false, false, false, false, false, false, false] rfl rfl (qg1 HT_.out (by kernel_rfl)) (fun _ _ _ h => h) (Or.inl ⟨by rfl, ?_⟩) ?_ ?_
         rotate_left
         ·intro w'
          go_simp
          with_reducible rfl
         rotate_left
         ·simp only [Act.put, sq1, sq2, sq3, i64_w, i32_w]
          rfl
         refine pure_ (i := 4) (N := some 45) (v := ?_) (a' := ?_) #[true, false, true, false, true, false, false, false, false, false, false, false, false, false, false, false, false] rfl rfl (qg1 HT_.out (by kernel_rfl)) (fun _ _ _ h => h) (Or.inl ⟨by rfl, ?_⟩) ?_ ?_
         rotate_left
         ·intro w'
          go_simp
          with_reducible rfl
         rotate_left
         ·simp only [Act.put, sq1, sq2, sq3, i64_w, i32_w]
          rfl
         refine pure_ (i := 6) (N := some 47) (v := ?_) (a' := ?_) #[true, false, true, false, true, false, true, false, false, false, false, false, false, false, false, false, false] rfl rfl (qg1 HT_.out (by kernel_rfl)) (fun _ _ _ h => h) (Or.inl ⟨by rfl, ?_⟩) ?_ ?_
         rotate_left
         ·intro w'
          go_simp
          with_reducible rfl
         rotate_left
         ·simp only [Act.put, sq1, sq2, sq3, i64_w, i32_w]
          rfl
         refine pure_ (i := 8) (N := some 49) (v := ?_) (a' := ?_) #[true, false, true, false, true, false, true, false, true, false, false, false, false, false, false, false, false] rfl rfl (qg1 HT_.out (by kernel_rfl)) (fun _ _ _ h => h) (Or.inl ⟨by rfl, ?_⟩) ?_ ?_
         rotate_left
         ·intro w'
          go_simp
          with_reducible rfl
         rotate_left
         ·simp only [Act.put, sq1, sq2, sq3, i64_w, i32_w]
          rfl
         refine pure_ (i := 10) (N := some 51) (v := ?_) (a' := ?_) #[true, false, true, false, true, false, true, false, true, false, true, false, false, false, false, false, false] rfl rfl (qg1 HT_.out (by kernel_rfl)) (fun _ _ _ h => h) (Or.inl ⟨by rfl, ?_⟩) ?_ ?_
         rotate_left
         ·intro w'
          go_simp
          with_reducible rfl
         rotate_left
         ·simp only [Act.put, sq1, sq2, sq3, i64_w, i32_w]
          rfl
         refine take_ (i := 1) (N := some 42) (v := ?_) (a' := ?_) #[true, true, true, false, true, false, true, false, true, false, true, false, false, false, false, false, false] rfl rfl (take_ofW HT_.out HW_.out (by kernel_rfl)) (fun _ _ _ h => h) (Or.inl ⟨by rfl, ?_⟩) hHeld ?_ ?_
         rotate_left
         ·rintro w' ⟨s0, s1, s2, s3⟩
          go_simp
          with_reducible rfl
         rotate_left
         ·simp only [Act.put, sq1, sq2, sq3, i64_w, i32_w]
          rfl
         refine one_ (i := 3) (N := some 44) #[true, true, true, true, true, false, true, false, true, false, true, false, false, false, false, false, false] rfl rfl (one_of HT_.out (by kernel_rfl)) (by decide) (fun K hK => ?_)
         refine goes_ Try.func86 (by kernel_rfl) rfl #[.pointer (some ⟨gb109, 0, none⟩)] (by rfl) rfl rfl yq56 ?_
         with_reducible refine (impl_taker_number.calls k2 gb109 x110000_2 x110001_2 t123 t124 t125 w _ ?side1 ?side2 A31.out).mono ?_
         (case side1 => exact yq52)
         (case side2 => exact yq55)
         rintro e w38 ⟨rfl, hi, hb, hk⟩
         refine ⟨_, rfl, ?_⟩
         replace HO_120000 := Qz.mk (Kd.R_mono (Kd.R_keep (IsS108.apart (show IsS108 w _ gb109 x110000_2 x110001_2 from by repeat (first | (with_reducible first | exact HI109.out | apply IsS108.alloc | apply IsS108.drewN | apply IsS108.drew | apply IsS108.set_0 | apply IsS108.set_1 | apply (fun h_ => IsS108.far h_ NB109_101.out _) | apply (fun h_ => IsS108.far h_ NB109_119.out _)) | exact HI109.out)) yq57 (by decide)) hk (fun _ h => h.2)) (fun _ h => h.1))
         replace BK101 := Qz.mk (KeepBut.blk hk (g' := gb101) (o := .cells #[.slice none 0 0, .int .i64 0, .int .i64 0, .int .i64 0] 32 (0, 0)) yq53 NB101_109.out (by simp))
         replace BK119 := Qz.mk (KeepBut.blk hk (g' := gb119) (o := .cells #[u120000, .int .i64 t110, .int .i64 t113, .int .i64 t116] 32 (0, 0)) yq58 NB119_109.out (by simp))
         replace HB := Qz.mk (hb)
         replace HI109 := Qz.mk (hi)
         (try clear hb)
         (try clear hk)
         (try clear hi)
         refine hK.out _ _ ⟨(qg BK119.out 0).trans rfl, (qg BK119.out 1).trans rfl, (qg BK119.out 2).trans rfl, (qg BK119.out 3).trans rfl⟩ (fun hHeld => ?_)
         clear hK K
         refine norm_ (a' := ?_) ?_ ?_
         rotate_left
         ·show Act.put _ (some 44) _ = _
          simp only [Act.put, sq1, sq2, sq3, i64_w, i32_w]
          rfl
         refine one_ (i := 5) (N := some 46) #[true, true, true, true, true, true, true, false, true, false, true, false, false, false, false, false, false] rfl rfl (one_of HT_.out (by kernel_rfl)) (by decide) (fun K hK => ?_)
         refine goes_ Try.func86 (by kernel_rfl) rfl #[.pointer (some ⟨gb109, 0, none⟩)] (by rfl) rfl rfl yq56 ?_
         with_reducible refine (impl_taker_number.calls k2 gb109 t124 t125 t126 t127 t128 w _ ?side1 ?side2 A32.out).mono ?_
         (case side1 => exact yq52)
         (case side2 => exact yq55)
         rintro e w39 ⟨rfl, hi, hb, hk⟩
         refine ⟨_, rfl, ?_⟩
         replace HO_120000 := Qz.mk (Kd.R_mono (Kd.R_keep (IsS108.apart (show IsS108 w _ gb109 t124 t125 from by repeat (first | (with_reducible first | exact HI109.out | apply IsS108.alloc | apply IsS108.drewN | apply IsS108.drew | apply IsS108.set_0 | apply IsS108.set_1 | apply (fun h_ => IsS108.far h_ NB109_101.out _) | apply (fun h_ => IsS108.far h_ NB109_119.out _)) | exact HI109.out)) yq57 (by decide)) hk (fun _ h => h.2)) (fun _ h => h.1))
         replace BK101 := Qz.mk (KeepBut.blk hk (g' := gb101) (o := .cells #[.slice none 0 0, .int .i64 0, .int .i64 0, .int .i64 0] 32 (0, 0)) yq53 NB101_109.out (by simp))
         replace BK119 := Qz.mk (KeepBut.blk hk (g' := gb119) (o := .cells #[u120000, .int .i64 t110, .int .i64 t113, .int .i64 t116] 32 (0, 0)) yq58 NB119_109.out (by simp))
         replace HB := Qz.mk (hb)
         replace HI109 := Qz.mk (hi)
         (try clear hb)
         (try clear hk)
         (try clear hi)
         refine hK.out _ _ ⟨(qg BK119.out 0).trans rfl, (qg BK119.out 1).trans rfl, (qg BK119.out 2).trans rfl, (qg BK119.out 3).trans rfl⟩ (fun hHeld => ?_)
         clear hK K
         refine norm_ (a' := ?_) ?_ ?_
         rotate_left
         ·show Act.put _ (some 46) _ = _
          simp only [Act.put, sq1, sq2, sq3, i64_w, i32_w]
          rfl
         refine one_ (i := 7) (N := some 48) #[true, true, true, true, true, true, true, true, true, false, true, false, false, false, false, false, false] rfl rfl (one_of HT_.out (by kernel_rfl)) (by decide) (fun K hK => ?_)
         refine goes_ Try.func87 (by kernel_rfl) rfl #[.pointer (some ⟨gb109, 0, none⟩)] (by rfl) rfl rfl yq56 ?_
         with_reducible refine (impl_taker_text.calls k2 gb109 t127 t128 t129 t130 t131 w _ ?side1 ?side2 A33.out).mono ?_
         (case side1 => exact yq52)
         (case side2 => exact yq55)
         rintro e w40 ⟨rfl, hi, hb, hk⟩
         refine ⟨_, rfl, ?_⟩
         replace HO_120000 := Qz.mk (Kd.R_mono (Kd.R_keep (IsS108.apart (show IsS108 w _ gb109 t127 t128 from by repeat (first | (with_reducible first | exact HI109.out | apply IsS108.alloc | apply IsS108.drewN | apply IsS108.drew | apply IsS108.set_0 | apply IsS108.set_1 | apply (fun h_ => IsS108.far h_ NB109_101.out _) | apply (fun h_ => IsS108.far h_ NB109_119.out _)) | exact HI109.out)) yq57 (by decide)) hk (fun _ h => h.2)) (fun _ h => h.1))
         replace BK101 := Qz.mk (KeepBut.blk hk (g' := gb101) (o := .cells #[.slice none 0 0, .int .i64 0, .int .i64 0, .int .i64 0] 32 (0, 0)) yq53 NB101_109.out (by simp))
         replace BK119 := Qz.mk (KeepBut.blk hk (g' := gb119) (o := .cells #[u120000, .int .i64 t110, .int .i64 t113, .int .i64 t116] 32 (0, 0)) yq58 NB119_109.out (by simp))
         replace HB := Qz.mk (hb)
         replace HI109 := Qz.mk (hi)
         (try clear hb)
         (try clear hk)
         (try clear hi)
         refine hK.out _ _ ⟨(qg BK119.out 0).trans rfl, (qg BK119.out 1).trans rfl, (qg BK119.out 2).trans rfl, (qg BK119.out 3).trans rfl⟩ (fun hHeld => ?_)
         clear hK K
         refine norm_ (a' := ?_) ?_ ?_
         rotate_left
         ·show Act.put _ (some 48) _ = _
          simp only [Act.put, sq1, sq2, sq3, i64_w, i32_w]
          rfl
         refine one_ (i := 9) (N := some 50) #[true, true, true, true, true, true, true, true, true, true, true, false, false, false, false, false, false] rfl rfl (one_of HT_.out (by kernel_rfl)) (by decide) (fun K hK => ?_)
         refine goes_ Try.func87 (by kernel_rfl) rfl #[.pointer (some ⟨gb109, 0, none⟩)] (by rfl) rfl rfl yq56 ?_
         with_reducible refine (impl_taker_text.calls k2 gb109 t130 t131 t132 t133 t134 w _ ?side1 ?side2 A34.out).mono ?_
         (case side1 => exact yq52)
         (case side2 => exact yq55)
         rintro e w41 ⟨rfl, hi, hb, hk⟩
         refine ⟨_, rfl, ?_⟩
         replace HO_120000 := Qz.mk (Kd.R_mono (Kd.R_keep (IsS108.apart (show IsS108 w _ gb109 t130 t131 from by repeat (first | (with_reducible first | exact HI109.out | apply IsS108.alloc | apply IsS108.drewN | apply IsS108.drew | apply IsS108.set_0 | apply IsS108.set_1 | apply (fun h_ => IsS108.far h_ NB109_101.out _) | apply (fun h_ => IsS108.far h_ NB109_119.out _)) | exact HI109.out)) yq57 (by decide)) hk (fun _ h => h.2)) (fun _ h => h.1))
         replace BK101 := Qz.mk (KeepBut.blk hk (g' := gb101) (o := .cells #[.slice none 0 0, .int .i64 0, .int .i64 0, .int .i64 0] 32 (0, 0)) yq53 NB101_109.out (by simp))
         replace BK119 := Qz.mk (KeepBut.blk hk (g' := gb119) (o := .cells #[u120000, .int .i64 t110, .int .i64 t113, .int .i64 t116] 32 (0, 0)) yq58 NB119_109.out (by simp))
         replace HB := Qz.mk (hb)
         replace HI109 := Qz.mk (hi)
         (try clear hb)
         (try clear hk)
         (try clear hi)
         refine hK.out _ _ ⟨(qg BK119.out 0).trans rfl, (qg BK119.out 1).trans rfl, (qg BK119.out 2).trans rfl, (qg BK119.out 3).trans rfl⟩ (fun hHeld => ?_)
         clear hK K
         refine norm_ (a' := ?_) ?_ ?_
         rotate_left
         ·show Act.put _ (some 50) _ = _
          simp only [Act.put, sq1, sq2, sq3, i64_w, i32_w]
          rfl
         refine one_ (i := 11) (N := some 52) #[true, true, true, true, true, true, true, true, true, true, true, true, false, false, false, false, false] rfl rfl (one_of HT_.out (by kernel_rfl)) (by decide) (fun K hK => ?_)
         refine goes_ Try.func86 (by kernel_rfl) rfl #[.pointer (some ⟨gb109, 0, none⟩)] (by rfl) rfl rfl yq56 ?_
         with_reducible refine (impl_taker_number.calls k2 gb109 t133 t134 t135 t136 t137 w _ ?side1 ?side2 A35.out).mono ?_
         (case side1 => exact yq52)
         (case side2 => exact yq55)
         rintro e w42 ⟨rfl, hi, hb, hk⟩
         refine ⟨_, rfl, ?_⟩
         replace HO_120000 := Qz.mk (Kd.R_mono (Kd.R_keep (IsS108.apart (show IsS108 w _ gb109 t133 t134 from by repeat (first | (with_reducible first | exact HI109.out | apply IsS108.alloc | apply IsS108.drewN | apply IsS108.drew | apply IsS108.set_0 | apply IsS108.set_1 | apply (fun h_ => IsS108.far h_ NB109_101.out _) | apply (fun h_ => IsS108.far h_ NB109_119.out _)) | exact HI109.out)) yq57 (by decide)) hk (fun _ h => h.2)) (fun _ h => h.1))
         replace BK101 := Qz.mk (KeepBut.blk hk (g' := gb101) (o := .cells #[.slice none 0 0, .int .i64 0, .int .i64 0, .int .i64 0] 32 (0, 0)) yq53 NB101_109.out (by simp))
         replace BK119 := Qz.mk (KeepBut.blk hk (g' := gb119) (o := .cells #[u120000, .int .i64 t110, .int .i64 t113, .int .i64 t116] 32 (0, 0)) yq58 NB119_109.out (by simp))
         replace HB := Qz.mk (hb)
         replace HI109 := Qz.mk (hi)
         (try clear hb)
         (try clear hk)
         (try clear hi)
         refine hK.out _ _ ⟨(qg BK119.out 0).trans rfl, (qg BK119.out 1).trans rfl, (qg BK119.out 2).trans rfl, (qg BK119.out 3).trans rfl⟩ (fun hHeld => ?_)
         clear hK K
         refine norm_ (a' := ?_) ?_ ?_
         rotate_left
         ·show Act.put _ (some 52) _ = _
          simp only [Act.put, sq1, sq2, sq3, i64_w, i32_w]
          rfl
         refine pure_ (i := 12) (N := some 53) (v := ?_) (a' := ?_) #[true, true, true, true, true, true, true, true, true, true, true, true, true, false, false, false, false] rfl rfl (qg1 HT_.out (by kernel_rfl)) (fun _ _ _ h => h) (Or.inl ⟨by rfl, ?_⟩) ?_ ?_
         rotate_left
         ·intro w'
          go_simp
          with_reducible rfl
         rotate_left
         ·simp only [Act.put, sq1, sq2, sq3, i64_w, i32_w]
          rfl
         refine one_ (i := 13) (N := some 54) bq29 rfl rfl (one_of HT_.out (by kernel_rfl)) (by decide) (fun K hK => ?_)
         refine value_ (w1 := ?_) (v := ?_) (by rfl) rfl ?_ ?_
         rotate_left 2
         ·go_simp
          constructor
          ·rfl
          ·rfl
         refine hK.out _ _ ⟨(qg (qa BK119.out _) 0).trans rfl, (qg (qa BK119.out _) 1).trans rfl, (qg (qa BK119.out _) 2).trans rfl, (qg (qa BK119.out _) 3).trans rfl⟩ (fun hHeld => ?_)
         clear hK K
         refine norm_ (a' := ?_) ?_ ?_
         rotate_left
         ·show Act.put _ (some 54) _ = _
          simp only [Act.put, sq1, sq2, sq3, i64_w, i32_w]
          rfl
         refine one_ (i := 14) (N := some 55) bq31 rfl rfl (one_of HT_.out (by kernel_rfl)) (by decide) (fun K hK => ?_)
         refine Kd.R_append_step k66 (w0 := w) w.heap.size (by rfl) (.tmp 42) (.tmp 54) 30 66 (.agg #[(.int .i64 0), (.int .i64 0), (.string ⟨#[]⟩), (.string ⟨#[]⟩), (.int .i64 0)]) 56 rfl Try.underlying30 info66 rfl (by decide) (by omega) u120000 x120000_2 (⟨t123, t126, t129, t132, t135⟩ : S66) [.int .i64 t123, .int .i64 t126, .string t129, .string t132, .int .i64 t135] (fun _ => True) (fun _ => False) rfl rfl ?aP (fun _ hk => hk.elim) ?aF ?aO ?aB ?aS ?aL ?_
         (case aP => exact k66_mkM _ _ _ (⟨t123, t126, t129, t132, t135⟩ : S66))
         (case aB => exact yq55)
         (case aF => exact (fun _ _ => trivial))
         (case aO => exact yq57)
         (case aS => exact (qb1 yq55))
         (case aL => have := LMc36.out; omega)
         intro v139 w43 ho hb hg hat
         rw [← Ny138.out] at ho
         have n0_ := Qz.mk (blk_grown (g := gb101) (o := .cells #[.slice none 0 0, .int .i64 0, .int .i64 0, .int .i64 0] 32 (0, 0)) yq53 hg (Kd.R_ne HO_120000.out BK101.out (by decide)))
         have n1_ := Qz.mk (blk_grown (g := gb119) (o := .cells #[u120000, .int .i64 t110, .int .i64 t113, .int .i64 t116] 32 (0, 0)) yq58 hg (Kd.R_ne HO_120000.out BK119.out (by decide)))
         have n2_ := Qz.mk (IsS108.grown yq52 hg (IsS108.own_ne HI109.out HO_120000.out (by decide)))
         have n3_ := Qz.mk (hb)
         have n4_ := Qz.mk (ho)
         clear BK101
         clear BK119
         clear HI109
         clear HB
         clear HO_120000
         have BK101 := n0_
         have BK119 := n1_
         have HI109 := n2_
         have HB := n3_
         have HO140 := n4_
         clear n0_ n1_ n2_ n3_ n4_
         clear ho hb hg hat
         obtain ⟨Ao44, co44, eo44⟩ := Kd.R_slice HO140.out
         (first | subst eo44 | (injection eo44 with f1_ f2_ f3_; have f4_ := f1_.symm; have f5_ := f3_.symm; clear f1_ f2_ f3_; subst f4_; subst f5_))
         refine hK.out _ _ ⟨(qg BK119.out 0).trans rfl, (qg BK119.out 1).trans rfl, (qg BK119.out 2).trans rfl, (qg BK119.out 3).trans rfl⟩ (fun hHeld => ?_)
         clear hK K
         refine norm_ (a' := ?_) ?_ ?_
         rotate_left
         ·show Act.put _ (some 55) _ = _
          simp only [Act.put, sq1, sq2, sq3, i64_w, i32_w]
          rfl
         refine pure_ (i := 15) (N := some 56) (v := ?_) (a' := ?_) bq32 rfl rfl (qg1 HT_.out (by kernel_rfl)) (fun _ _ _ h => h) (Or.inl ⟨by rfl, ?_⟩) ?_ ?_
         rotate_left
         ·intro w'
          go_simp
          with_reducible rfl
         rotate_left
         ·simp only [Act.put, sq1, sq2, sq3, i64_w, i32_w]
          rfl
         refine last_ (i := 16) (N := none) bq33 rfl rfl (one_of HT_.out (by kernel_rfl)) (by decide) (fun K hK => ?_)
         have hs45 : w43.cell? ⟨gb119, 0, none⟩ = some (u120000) := (qg BK119.out 0).trans rfl
         have hfs45 := qj BK119.out 0
         have hns45_0 := NB101_119.out
         have hms45_0 := NB119_101.out
         refine skip_ (w1 := ?_) (by rfl) rfl ?_ ?_
         rotate_left
         ·go_simp
          rfl
         refine hK.out _ _ ?_
         clear hK K
         refine done_ (done_of HT_.out (by kernel_rfl)) ?_
         try go_wp2
         go_roundg k2
         case measure => have := HJ8.out; have := HK2.out; omega
         case rel => exact ⟨(wrap64 (x39_2 + 1)), (t136), (t137), (y138), (.slice Ao44 y138.length co44), (by first | rfl | (simp; done) | (simp [*]; done)), H', ⟨by have := HJ8.out; have := HK2.out; omega⟩, ⟨by (with_reducible repeat (first | apply Kd.R_alloc | apply Kd.R_drewN | apply Kd.R_drew)); exact Kd.R_mono (Kd.R_far (p := ⟨gb119, 0, none⟩) (Kd.R_types HO140.out BK119.out (by decide)) (fun _ hk => hk.2) (.slice Ao44 y138.length co44)) (fun _ hk => trivial)⟩, ⟨by (with_reducible repeat (first | refine qc ?_ _ | refine qf ?_ | refine qa ?_ _)); refine qx ?_ NB101_119.out _; (with_reducible repeat (first | refine qc ?_ _ | refine qf ?_ | refine qa ?_ _)); exact BK101.out⟩, ⟨by (with_reducible repeat (first | refine qc ?_ _ | refine qf ?_ | refine qa ?_ _)); refine qw (cs := #[u120000, .int .i64 t110, .int .i64 t113, .int .i64 t116]) ?_ 0 _ rfl; (with_reducible repeat (first | refine qc ?_ _ | refine qf ?_ | refine qa ?_ _)); exact BK119.out⟩, ⟨by repeat (first | (with_reducible first | exact HI109.out | apply IsS108.alloc | apply IsS108.drewN | apply IsS108.drew | apply IsS108.set_0 | apply IsS108.set_1 | apply (fun h_ => IsS108.far h_ NB109_101.out _) | apply (fun h_ => IsS108.far h_ NB109_119.out _)) | exact HI109.out)⟩, ⟨by repeat (first | (with_reducible first | exact HB.out | apply qi | apply qd | apply qh | refine qe ?_ (IsS108.ge HI109.out) | refine qe ?_ GE101.out | refine qe ?_ GE119.out) | exact HB.out)⟩⟩
        ·rw [if_neg c36] at H
         exact absurd H (by simp)
       ·rw [if_neg c30] at H
        have c30b0 : decide (x39_2 < t120) = false := decide_eq_false c30
        clear c30
        replace H := Option.bind_eq_some_iff.mp H
        obtain ⟨⟨t141, t142, t143⟩, A460, H⟩ := H
        replace H : (if t141 = true then ((impl_VersionOk.f x120000_2 t110 t113 t116).bind fun t144 => (if t144 = true then (some (x120000_2, t110, t113, t116, true)) else (some (([] : List (S66)), 0, 0, 0, false)))) else (some (([] : List (S66)), 0, 0, 0, false))) = some (r1, r2, r3, r4, r5) := H
        have A46 := Qz.mk A460
        clear A460
        by_cases c47 : t141 = true
        ·subst c47
         have H1 : ((impl_VersionOk.f x120000_2 t110 t113 t116).bind fun t144 => (if t144 = true then (some (x120000_2, t110, t113, t116, true)) else (some (([] : List (S66)), 0, 0, 0, false)))) = some (r1, r2, r3, r4, r5) := by rw [if_pos rfl] at H; exact H
         clear H
         have H := H1
         clear H1
         replace H := Option.bind_eq_some_iff.mp H
         obtain ⟨t144, A480, H⟩ := H
         replace H : (if t144 = true then (some (x120000_2, t110, t113, t116, true)) else (some (([] : List (S66)), 0, 0, 0, false))) = some (r1, r2, r3, r4, r5) := H
         have A48 := Qz.mk A480
         clear A480
         by_cases c49 : t144 = true
         ·subst c49
          have H1 : (some (x120000_2, t110, t113, t116, true)) = some (r1, r2, r3, r4, r5) := by rw [if_pos rfl] at H; exact H
          clear H
          have H := H1
          clear H1
          simp only [Option.some.injEq, Prod.mk.injEq] at H
          obtain ⟨rfl, rfl, rfl, rfl, rfl⟩ := H
          go_wp2_with (first | ((with_reducible refine qm (f := 85) rfl ?_); refine qy (some 59) rfl rfl Try.func85 (by kernel_rfl) rfl #[.pointer (some ⟨gb109, 0, none⟩)] rfl yq56 ?_; (with_reducible refine (impl_taker_whole.calls gb109 x110000_2 x110001_2 true t142 t143 w _ ?side1 ?side2 A46.out).mono ?_); (case side1 => exact yq52); (case side2 => exact yq55); rintro e w50 ⟨rfl, hi, hb, hk⟩; refine ⟨_, rfl, ?_⟩; replace HO_120000 := Qz.mk (Kd.R_mono (Kd.R_keep (IsS108.apart (show IsS108 w _ gb109 x110000_2 x110001_2 from by repeat (first | (with_reducible first | exact HI109.out | apply IsS108.alloc | apply IsS108.drewN | apply IsS108.drew | apply IsS108.set_0 | apply IsS108.set_1 | apply (fun h_ => IsS108.far h_ NB109_101.out _) | apply (fun h_ => IsS108.far h_ NB109_119.out _)) | exact HI109.out)) yq57 (by decide)) hk (fun _ h => h.2)) (fun _ h => h.1)); replace BK101 := Qz.mk (KeepBut.blk hk (g' := gb101) (o := .cells #[.slice none 0 0, .int .i64 0, .int .i64 0, .int .i64 0] 32 (0, 0)) yq53 NB101_109.out (by simp)); replace BK119 := Qz.mk (KeepBut.blk hk (g' := gb119) (o := .cells #[u120000, .int .i64 t110, .int .i64 t113, .int .i64 t116] 32 (0, 0)) yq58 NB119_109.out (by simp)); replace HB := Qz.mk (hb); replace HI109 := Qz.mk (hi); (try clear hb); (try clear hk); (try clear hi); have hnb51 := NB119_101.out; have hnc51 := NB101_119.out; have hnb52 := NB119_109.out; have hnc52 := NB109_119.out; have hcz53_0 := (qg BK119.out 0).trans rfl; have hcz53_1 := (qg BK119.out 1).trans rfl; have hcz53_2 := (qg BK119.out 2).trans rfl; have hcz53_3 := (qg BK119.out 3).trans rfl; have hfz53_0 := qj BK119.out 0; have hfz53_1 := qj BK119.out 1; have hfz53_2 := qj BK119.out 2; have hfz53_3 := qj BK119.out 3; obtain ⟨Ao54, co54, eo54⟩ := Kd.R_slice HO_120000.out; subst eo54) | (go_at_call 27; (with_reducible refine (impl_VersionOk.calls _ _ x120000_2 t110 t113 t116 true _ ?side1 ?side2 A48.out).mono ?_); (case side1 => repeat (first | exact (Kd.R_reads' HO_120000.out).2.2 | (with_reducible refine Kd.C_alloc ?_ _) | (with_reducible refine Kd.C_drewN ?_ _) | (with_reducible refine Kd.C_drew ?_))); (case side2 => exact (Kd.R_reads' HO_120000.out).2.1); rintro e w55 ⟨rfl, hb⟩; replace HO_120000 := Qz.mk (Kd.R_below yq57 hb); replace BK101 := Qz.mk (qu (g := gb101) (o := .cells #[.slice none 0 0, .int .i64 0, .int .i64 0, .int .i64 0] 32 (0, 0)) yq53 hb); replace BK119 := Qz.mk (qu (g := gb119) (o := .cells #[.slice Ao54 x120000_2.length co54, .int .i64 t110, .int .i64 t113, .int .i64 t116] 32 (0, 0)) yq58 hb); replace HB := Qz.mk (qq yq55 hb); replace HI109 := Qz.mk (IsS108.below yq52 hb); (try clear hb); (try clear hk); (try clear hi); have hcz56_0 := (qg BK119.out 0).trans rfl; have hcz56_1 := (qg BK119.out 1).trans rfl; have hcz56_2 := (qg BK119.out 2).trans rfl; have hcz56_3 := (qg BK119.out 3).trans rfl; have hfz56_0 := qj BK119.out 0; have hfz56_1 := qj BK119.out 1; have hfz56_2 := qj BK119.out 2; have hfz56_3 := qj BK119.out 3; have hnb57 := NB101_109.out; have hnc57 := NB109_101.out; have hcz58_0 := (qg BK101.out 0).trans rfl; have hcz58_1 := (qg BK101.out 1).trans rfl; have hcz58_2 := (qg BK101.out 2).trans rfl; have hcz58_3 := (qg BK101.out 3).trans rfl; have hfz58_0 := qj BK101.out 0; have hfz58_1 := qj BK101.out 1; have hfz58_2 := qj BK101.out 2; have hfz58_3 := qj BK101.out 3))
          refine bodyPost_ret (results_ct rfl _ _ gb101 32 #[.slice Ao54 x120000_2.length co54, .int .i64 t110, .int .i64 t113, .int .i64 t116] (0, 0) _ rfl (by (with_reducible repeat (first | refine qc ?_ _ | refine qf ?_ | refine qa ?_ _)); refine qw (cs := #[.slice Ao54 x120000_2.length co54, .int .i64 t110, .int .i64 t113, .int .i64 0]) ?_ 3 _ rfl; (with_reducible repeat (first | refine qc ?_ _ | refine qf ?_ | refine qa ?_ _)); refine qw (cs := #[.slice Ao54 x120000_2.length co54, .int .i64 t110, .int .i64 0, .int .i64 0]) ?_ 2 _ rfl; (with_reducible repeat (first | refine qc ?_ _ | refine qf ?_ | refine qa ?_ _)); refine qw (cs := #[.slice Ao54 x120000_2.length co54, .int .i64 0, .int .i64 0, .int .i64 0]) ?_ 1 _ rfl; (with_reducible repeat (first | refine qc ?_ _ | refine qf ?_ | refine qa ?_ _)); refine qw (cs := #[.slice none 0 0, .int .i64 0, .int .i64 0, .int .i64 0]) ?_ 0 _ rfl; (with_reducible repeat (first | refine qc ?_ _ | refine qf ?_ | refine qa ?_ _)); exact BK101.out) Try.underlying32 rfl (by kernel_rfl)) rfl ?_
          exact ⟨_, by first | rfl | (simp [qt, qr] <;> rfl) | (simp [*, qt, qr] <;> rfl), by (with_reducible repeat (first | apply Kd.R_alloc | apply Kd.R_drewN | apply Kd.R_drew)); exact Kd.R_mono (Kd.R_far (p := ⟨gb101, 3, none⟩) (Kd.R_far (p := ⟨gb101, 2, none⟩) (Kd.R_far (p := ⟨gb101, 1, none⟩) (Kd.R_far (p := ⟨gb101, 0, none⟩) (Kd.R_types HO_120000.out BK101.out (by decide)) (fun _ hk => hk.2) (.slice Ao54 x120000_2.length co54)) (fun _ hk => hk.2) (.int .i64 t110)) (fun _ hk => hk.2) (.int .i64 t113)) (fun _ hk => hk.2) (.int .i64 t116)) (fun _ hk => trivial), by repeat (first | (with_reducible first | exact HB.out | apply qi | apply qd | apply qh | refine qe ?_ (IsS108.ge HI109.out) | refine qe ?_ GE101.out | refine qe ?_ GE119.out) | exact HB.out)⟩
         ·replace c49 := Bool.eq_false_iff.mpr c49
          subst c49
          have H1 : (some (([] : List (S66)), 0, 0, 0, false)) = some (r1, r2, r3, r4, r5) := by rw [if_neg (show ¬ (false = true) by decide)] at H; exact H
          clear H
          have H := H1
          clear H1
          simp only [Option.some.injEq, Prod.mk.injEq] at H
          obtain ⟨rfl, rfl, rfl, rfl, rfl⟩ := H
          go_wp2_with (first | ((with_reducible refine qm (f := 85) rfl ?_); refine qy (some 59) rfl rfl Try.func85 (by kernel_rfl) rfl #[.pointer (some ⟨gb109, 0, none⟩)] rfl yq56 ?_; (with_reducible refine (impl_taker_whole.calls gb109 x110000_2 x110001_2 true t142 t143 w _ ?side1 ?side2 A46.out).mono ?_); (case side1 => exact yq52); (case side2 => exact yq55); rintro e w59 ⟨rfl, hi, hb, hk⟩; refine ⟨_, rfl, ?_⟩; replace HO_120000 := Qz.mk (Kd.R_mono (Kd.R_keep (IsS108.apart (show IsS108 w _ gb109 x110000_2 x110001_2 from by repeat (first | (with_reducible first | exact HI109.out | apply IsS108.alloc | apply IsS108.drewN | apply IsS108.drew | apply IsS108.set_0 | apply IsS108.set_1 | apply (fun h_ => IsS108.far h_ NB109_101.out _) | apply (fun h_ => IsS108.far h_ NB109_119.out _)) | exact HI109.out)) yq57 (by decide)) hk (fun _ h => h.2)) (fun _ h => h.1)); replace BK101 := Qz.mk (KeepBut.blk hk (g' := gb101) (o := .cells #[.slice none 0 0, .int .i64 0, .int .i64 0, .int .i64 0] 32 (0, 0)) yq53 NB101_109.out (by simp)); replace BK119 := Qz.mk (KeepBut.blk hk (g' := gb119) (o := .cells #[u120000, .int .i64 t110, .int .i64 t113, .int .i64 t116] 32 (0, 0)) yq58 NB119_109.out (by simp)); replace HB := Qz.mk (hb); replace HI109 := Qz.mk (hi); (try clear hb); (try clear hk); (try clear hi); have hnb60 := NB119_101.out; have hnc60 := NB101_119.out; have hnb61 := NB119_109.out; have hnc61 := NB109_119.out; have hcz62_0 := (qg BK119.out 0).trans rfl; have hcz62_1 := (qg BK119.out 1).trans rfl; have hcz62_2 := (qg BK119.out 2).trans rfl; have hcz62_3 := (qg BK119.out 3).trans rfl; have hfz62_0 := qj BK119.out 0; have hfz62_1 := qj BK119.out 1; have hfz62_2 := qj BK119.out 2; have hfz62_3 := qj BK119.out 3; obtain ⟨Ao63, co63, eo63⟩ := Kd.R_slice HO_120000.out; subst eo63) | (go_at_call 27; (with_reducible refine (impl_VersionOk.calls _ _ x120000_2 t110 t113 t116 false _ ?side1 ?side2 A48.out).mono ?_); (case side1 => repeat (first | exact (Kd.R_reads' HO_120000.out).2.2 | (with_reducible refine Kd.C_alloc ?_ _) | (with_reducible refine Kd.C_drewN ?_ _) | (with_reducible refine Kd.C_drew ?_))); (case side2 => exact (Kd.R_reads' HO_120000.out).2.1); rintro e w64 ⟨rfl, hb⟩; replace HO_120000 := Qz.mk (Kd.R_below yq57 hb); replace BK101 := Qz.mk (qu (g := gb101) (o := .cells #[.slice none 0 0, .int .i64 0, .int .i64 0, .int .i64 0] 32 (0, 0)) yq53 hb); replace BK119 := Qz.mk (qu (g := gb119) (o := .cells #[.slice Ao63 x120000_2.length co63, .int .i64 t110, .int .i64 t113, .int .i64 t116] 32 (0, 0)) yq58 hb); replace HB := Qz.mk (qq yq55 hb); replace HI109 := Qz.mk (IsS108.below yq52 hb); (try clear hb); (try clear hk); (try clear hi); have hnb65 := NB101_109.out; have hnc65 := NB109_101.out; have hcz66_0 := (qg BK101.out 0).trans rfl; have hcz66_1 := (qg BK101.out 1).trans rfl; have hcz66_2 := (qg BK101.out 2).trans rfl; have hcz66_3 := (qg BK101.out 3).trans rfl; have hfz66_0 := qj BK101.out 0; have hfz66_1 := qj BK101.out 1; have hfz66_2 := qj BK101.out 2; have hfz66_3 := qj BK101.out 3))
          refine bodyPost_ret (results_ct rfl _ _ gb101 32 #[.slice none 0 0, .int .i64 0, .int .i64 0, .int .i64 0] (0, 0) _ rfl yq54 Try.underlying32 rfl (by kernel_rfl)) rfl ?_
          exact ⟨_, by first | rfl | (simp [qt, qr] <;> rfl) | (simp [*, qt, qr] <;> rfl), by first | exact Kd.R_nil _ _ _ _ _ | exact Kd.N_nil _ _ _ _ _ | exact Kd.V_nil _ _ _ _ _ | exact Kd.Q_nil _ _ _ _ _ | exact Kd.S_nil _ _ _ _ _, by repeat (first | (with_reducible first | exact HB.out | apply qi | apply qd | apply qh | refine qe ?_ (IsS108.ge HI109.out) | refine qe ?_ GE101.out | refine qe ?_ GE119.out) | exact HB.out)⟩
        ·replace c47 := Bool.eq_false_iff.mpr c47
         subst c47
         have H1 : (some (([] : List (S66)), 0, 0, 0, false)) = some (r1, r2, r3, r4, r5) := by rw [if_neg (show ¬ (false = true) by decide)] at H; exact H
         clear H
         have H := H1
         clear H1
         simp only [Option.some.injEq, Prod.mk.injEq] at H
         obtain ⟨rfl, rfl, rfl, rfl, rfl⟩ := H
         go_wp2_with (first | ((with_reducible refine qm (f := 85) rfl ?_); refine qy (some 59) rfl rfl Try.func85 (by kernel_rfl) rfl #[.pointer (some ⟨gb109, 0, none⟩)] rfl yq56 ?_; (with_reducible refine (impl_taker_whole.calls gb109 x110000_2 x110001_2 false t142 t143 w _ ?side1 ?side2 A46.out).mono ?_); (case side1 => exact yq52); (case side2 => exact yq55); rintro e w67 ⟨rfl, hi, hb, hk⟩; refine ⟨_, rfl, ?_⟩; replace HO_120000 := Qz.mk (Kd.R_mono (Kd.R_keep (IsS108.apart (show IsS108 w _ gb109 x110000_2 x110001_2 from by repeat (first | (with_reducible first | exact HI109.out | apply IsS108.alloc | apply IsS108.drewN | apply IsS108.drew | apply IsS108.set_0 | apply IsS108.set_1 | apply (fun h_ => IsS108.far h_ NB109_101.out _) | apply (fun h_ => IsS108.far h_ NB109_119.out _)) | exact HI109.out)) yq57 (by decide)) hk (fun _ h => h.2)) (fun _ h => h.1)); replace BK101 := Qz.mk (KeepBut.blk hk (g' := gb101) (o := .cells #[.slice none 0 0, .int .i64 0, .int .i64 0, .int .i64 0] 32 (0, 0)) yq53 NB101_109.out (by simp)); replace BK119 := Qz.mk (KeepBut.blk hk (g' := gb119) (o := .cells #[u120000, .int .i64 t110, .int .i64 t113, .int .i64 t116] 32 (0, 0)) yq58 NB119_109.out (by simp)); replace HB := Qz.mk (hb); replace HI109 := Qz.mk (hi); (try clear hb); (try clear hk); (try clear hi); have hnb68 := NB101_119.out; have hnc68 := NB119_101.out; have hnb69 := NB101_109.out; have hnc69 := NB109_101.out; have hcz70_0 := (qg BK101.out 0).trans rfl; have hcz70_1 := (qg BK101.out 1).trans rfl; have hcz70_2 := (qg BK101.out 2).trans rfl; have hcz70_3 := (qg BK101.out 3).trans rfl; have hfz70_0 := qj BK101.out 0; have hfz70_1 := qj BK101.out 1; have hfz70_2 := qj BK101.out 2; have hfz70_3 := qj BK101.out 3))
         refine bodyPost_ret (results_ct rfl _ _ gb101 32 #[.slice none 0 0, .int .i64 0, .int .i64 0, .int .i64 0] (0, 0) _ rfl yq54 Try.underlying32 rfl (by kernel_rfl)) rfl ?_
         exact ⟨_, by first | rfl | (simp [qt, qr] <;> rfl) | (simp [*, qt, qr] <;> rfl), by first | exact Kd.R_nil _ _ _ _ _ | exact Kd.N_nil _ _ _ _ _ | exact Kd.V_nil _ _ _ _ _ | exact Kd.Q_nil _ _ _ _ _ | exact Kd.S_nil _ _ _ _ _, by repeat (first | (with_reducible first | exact HB.out | apply qi | apply qd | apply qh | refine qe ?_ (IsS108.ge HI109.out) | refine qe ?_ GE101.out | refine qe ?_ GE119.out) | exact HB.out)⟩
 ·replace c4 := Bool.eq_false_iff.mpr c4
  subst c4
  have H1 : (some (([] : List (S66)), 0, 0, 0, false)) = some (r1, r2, r3, r4, r5) := by rw [if_neg (show ¬ (false = true) by decide)] at H; exact H
  clear H
  have H := H1
  clear H1
  simp only [Option.some.injEq, Prod.mk.injEq] at H
  obtain ⟨rfl, rfl, rfl, rfl, rfl⟩ := H
  go_enter Try.func48, Try.ntmps48
  go_wp2_with (first | ((with_reducible refine gate_dst (N := 2) rfl ?_); refine box_event ?hg (N := 2) ?hd (cs := #[.slice none 0 0, .int .i64 0, .int .i64 0, .int .i64 0]) (t := 32) ?hr ?_; (case hd => rfl); (case hg => rfl); (case hr => first | (go_simp; done) | (go_simp; rfl)); intro gb101 hg w71 hbox hb; have BK101 := Qz.mk (hbox); have GW101 := Qz.mk ((by rw [hg]; exact (qb1 yq66) : w.heap.size ≤ gb101)); have GE101 := GW101; replace HB := Qz.mk (qq yq66 hb); clear hb hbox hg) | ((with_reducible refine gate_dst (N := 10) rfl ?_); refine box_event ?hg (N := 10) ?hd (cs := #[.string a0, .bool false]) (t := 108) ?hr ?_; (case hd => rfl); (case hg => rfl); (case hr => first | (go_simp; done) | (go_simp; rfl)); intro gb102 hg w72 hbox hb; have HI102 := Qz.mk ((⟨hbox, (by rw [hg]; exact (qb1 yq62) : w.heap.size ≤ gb102)⟩ : IsS108 w w72 gb102 a0 false)); replace HB := Qz.mk (qq yq62 hb); have NB101_102 := Qz.mk ((yq64 : gb101 ≠ gb102)); have NB102_101 := Qz.mk ((yq65 : gb102 ≠ gb101)); replace BK101 := Qz.mk (qu (g := gb101) (o := .cells #[.slice none 0 0, .int .i64 0, .int .i64 0, .int .i64 0] 32 (0, 0)) yq53 hb); clear hb hbox hg) | ((with_reducible refine qm (f := 84) rfl ?_); refine qy (some 12) rfl rfl Try.func84 (by kernel_rfl) rfl #[.pointer (some ⟨gb102, 0, none⟩)] rfl yq56 ?_; (with_reducible refine (impl_taker_section.calls k gb102 a0 false t103 t104 t105 w _ ?side1 ?side2 A2.out).mono ?_); (case side1 => exact yq60); (case side2 => exact yq63); rintro e w73 ⟨rfl, hi, hb, hk⟩; refine ⟨_, rfl, ?_⟩; replace BK101 := Qz.mk (KeepBut.blk hk (g' := gb101) (o := .cells #[.slice none 0 0, .int .i64 0, .int .i64 0, .int .i64 0] 32 (0, 0)) yq53 NB101_102.out (by simp)); replace HB := Qz.mk (hb); replace HI102 := Qz.mk (hi); (try clear hb); (try clear hk); (try clear hi)) | ((with_reducible refine qm (f := 85) rfl ?_); refine qy (some 14) rfl rfl Try.func85 (by kernel_rfl) rfl #[.pointer (some ⟨gb102, 0, none⟩)] rfl yq56 ?_; (with_reducible refine (impl_taker_whole.calls gb102 t104 t105 false t107 t108 w _ ?side1 ?side2 A3.out).mono ?_); (case side1 => exact yq60); (case side2 => exact yq63); rintro e w74 ⟨rfl, hi, hb, hk⟩; refine ⟨_, rfl, ?_⟩; replace BK101 := Qz.mk (KeepBut.blk hk (g' := gb101) (o := .cells #[.slice none 0 0, .int .i64 0, .int .i64 0, .int .i64 0] 32 (0, 0)) yq53 NB101_102.out (by simp)); replace HB := Qz.mk (hb); replace HI102 := Qz.mk (hi); (try clear hb); (try clear hk); (try clear hi); have hnb75 := NB101_102.out; have hnc75 := NB102_101.out; have hcz76_0 := (qg BK101.out 0).trans rfl; have hcz76_1 := (qg BK101.out 1).trans rfl; have hcz76_2 := (qg BK101.out 2).trans rfl; have hcz76_3 := (qg BK101.out 3).trans rfl; have hfz76_0 := qj BK101.out 0; have hfz76_1 := qj BK101.out 1; have hfz76_2 := qj BK101.out 2; have hfz76_3 := qj BK101.out 3))
  refine bodyPost_ret (results_ct rfl _ _ gb101 32 #[.slice none 0 0, .int .i64 0, .int .i64 0, .int .i64 0] (0, 0) _ rfl yq54 Try.underlying32 rfl (by kernel_rfl)) rfl ?_
  exact ⟨_, by first | rfl | (simp [qt, qr] <;> rfl) | (simp [*, qt, qr] <;> rfl), by first | exact Kd.R_nil _ _ _ _ _ | exact Kd.N_nil _ _ _ _ _ | exact Kd.V_nil _ _ _ _ _ | exact Kd.Q_nil _ _ _ _ _ | exact Kd.S_nil _ _ _ _ _, by repeat (first | (with_reducible first | exact HB.out | apply qi | apply qd | apply qh | refine qe ?_ (IsS108.ge HI102.out) | refine qe ?_ GE101.out) | exact HB.out)⟩
theorem eqA66 (d : Nat) (w : World) (x0 y0 : Int) (x1 y1 : Int) (x2 y2 : ByteArray) (x3 y3 : ByteArray) (x4 y4 : Int) :
  (Op.equalIn (d + 2) 66 (.agg #[.int .i64 x0, .int .i64 x1, .string x2, .string x3, .int .i64 x4]) (.agg #[.int .i64 y0, .int .i64 y1, .string y2, .string y3, .int .i64 y4])).run Try.prog w = .ok (x0 == y0 && (x1 == y1 && (x2.toList == y2.toList && (x3.toList == y3.toList && (x4 == y4))))) w := by
 refine eqA_of Try.underlying66 (by kernel_rfl) ?_
 refine eqf_cons (by rfl) (by go_simp; rfl) (by go_simp; rfl) (by go_simp) ?_
 refine eqf_cons (by rfl) (by go_simp; rfl) (by go_simp; rfl) (by go_simp) ?_
 refine eqf_cons (by rfl) (by go_simp; rfl) (by go_simp; rfl) (by go_simp) ?_
 refine eqf_cons (by rfl) (by go_simp; rfl) (by go_simp; rfl) (by go_simp) ?_
 exact eqf_last (by rfl) (by go_simp; rfl) (by go_simp; rfl) (by go_simp)
end Go.Proofs.Ytcgejabkjljeeaa.P
end

section
namespace Go.Proofs.Ytcgejabkjljeeaa.P
open Go.RowKit Go.Proofs.YtcgejabkjljeeaaW.PrintWords Go.Proofs.YtcgejabkjljeeaaW.PrintLast Go.Proofs.YtcgejabkjljeeaaW.PrintMore
attribute [local go_sem] qk1 qj1 ql1 qf1 qd1 qn1 qm1 qa1 qz qe1 qc1
set_option linter.unusedVariables false
set_option linter.unusedSimpArgs false
attribute [local go_sem high] eqA66
theorem yq67 {P : Prop} (h : P := by first | (with_reducible assumption) | assumption) : P := h
def laws_sameMetas.l0 : Nat → List (S66) → List (S66) → Int → Option (Bool)
 | 0, _, _, _ => none
 | k + 1, x0, x1, x5 => if x5 < (x0.length : Int) then (if 0 ≤ x5 then (if x5 < (x1.length : Int) then (if (!(((qv x0 x5).f0) == ((qv x1 x5).f0)) || (!(((qv x0 x5).f1) == ((qv x1 x5).f1)) || (!((((qv x0 x5).f2).toList) == (((qv x1 x5).f2).toList)) || (!((((qv x0 x5).f3).toList) == (((qv x1 x5).f3).toList)) || (!(((qv x0 x5).f4) == ((qv x1 x5).f4))))))) = true then (some false) else (laws_sameMetas.l0 k x0 x1 (wrap64 (x5 + 1)))) else (none)) else (none)) else (some true)
def laws_sameMetas.f (k : Nat) (l0 : List (S66)) (l1 : List (S66)) : Option (Bool) := if (l0.length : Int) = (l1.length : Int) then (laws_sameMetas.l0 k l0 l1 0) else (some false)
set_option maxHeartbeats 8000000 in
set_option maxRecDepth 100000 in
theorem laws_sameMetas.calls (k : Nat) (A0 : Option Addr) (c0 : Nat) (l0 : List (S66)) (A1 : Option Addr) (c1 : Nat) (l1 : List (S66)) (r : Bool) (w : World) (hr0 : Kd.C k66 w A0 l0.length l0) (hc0 : l0.length ≤ c0) (hr1 : Kd.C k66 w A1 l1.length l1) (hc1 : l1.length ≤ c1) (h : laws_sameMetas.f k l0 l1 = some r) :
  Calls Try.prog 50 #[.slice A0 l0.length c0, .slice A1 l1.length c1] w fun e w' => e = .returned (.bool r) ∧ Drawn0 w w' := by
 have hu66 := Try.underlying66
 have HR0 := Qz.mk hr0
 have HC0 := Qz.mk hc0
 clear hr0 hc0
 have HR1 := Qz.mk hr1
 have HC1 := Qz.mk hc1
 clear hr1 hc1
 have H : (if (l0.length : Int) = (l1.length : Int) then (laws_sameMetas.l0 k l0 l1 0) else (some false)) = some r := h
 clear h
 by_cases c3 : (l0.length : Int) = (l1.length : Int)
 ·rw [if_pos c3] at H
  have c3b0 : ((l0.length : Int) == (l1.length : Int)) = true := beq_iff_eq.mpr c3
  have c3b1 : ((l0.length : Int) != (l1.length : Int)) = false := bne_eq_false_iff_eq.mpr c3
  have c3b2 : (l0.length == l1.length) = true := by first | simpa using c3 | (simp at c3 ⊢; omega)
  clear c3
  have H' := Qz.mk H
  clear H
  go_enter Try.func50, Try.ntmps50
  go_wp2
  repeat (go_quiet (fail); try go_wp2)
  go_loopg [5] k (fun kq v5 w' => ∃ (x5_1 : Int), v5 = .int .i64 x5_1 ∧ Qz (laws_sameMetas.l0 kq l0 l1 x5_1 = some r) ∧ Qz (kq ≤ k) ∧ Drawn0 w w')
  case atStart => exact ⟨(0), (by first | rfl | (simp; done) | (simp [*]; done)), H', ⟨Nat.le_refl _⟩, by repeat (first | exact Drawn0.refl _ | apply Drawn0.step)⟩
  case round =>
   clear H'
   (try clear c1);(try clear p2);(try clear c3);(try clear c3b0);(try clear c3b1);(try clear c3b2)
   obtain ⟨x5_1, rfl, HA, HK1, ⟨m1, rfl⟩⟩ := hrel
   cases gk with
   | zero => exact absurd HA.out (by simp [laws_sameMetas.l0])
   | succ k1 =>
    have H := HA.out
    clear HA
    simp only [laws_sameMetas.l0] at H
    by_cases c4 : x5_1 < (l0.length : Int)
    ·rw [if_pos c4] at H
     have c4b0 : decide (x5_1 < (l0.length : Int)) = true := decide_eq_true c4
     clear c4
     by_cases c5 : 0 ≤ x5_1
     ·rw [if_pos c5] at H
      have c5b0 : decide (0 ≤ x5_1) = true := decide_eq_true c5
      clear c5
      by_cases c6 : x5_1 < (l1.length : Int)
      ·rw [if_pos c6] at H
       have c6b0 : decide (x5_1 < (l1.length : Int)) = true := decide_eq_true c6
       clear c6
       by_cases c7 : (!(((qv l0 x5_1).f0) == ((qv l1 x5_1).f0)) || (!(((qv l0 x5_1).f1) == ((qv l1 x5_1).f1)) || (!((((qv l0 x5_1).f2).toList) == (((qv l1 x5_1).f2).toList)) || (!((((qv l0 x5_1).f3).toList) == (((qv l1 x5_1).f3).toList)) || (!(((qv l0 x5_1).f4) == ((qv l1 x5_1).f4))))))) = true
       ·rw [if_pos c7] at H
        have c7b0 : (!(((qv l0 x5_1).f0) == ((qv l1 x5_1).f0)) || (!(((qv l0 x5_1).f1) == ((qv l1 x5_1).f1)) || (!((((qv l0 x5_1).f2).toList) == (((qv l1 x5_1).f2).toList)) || (!((((qv l0 x5_1).f3).toList) == (((qv l1 x5_1).f3).toList)) || (!(((qv l0 x5_1).f4) == ((qv l1 x5_1).f4))))))) = true := c7
        clear c7
        obtain rfl := Option.some.inj H
        have p101 : 0 ≤ (x5_1 : Int) := of_decide_eq_true yq67
        have q101 : x5_1 < (l0.length : Int) := of_decide_eq_true yq67
        obtain ⟨ad101, e101, hx101_0, hx101_1, hx101_2, hx101_3, hx101_4⟩ := at_T66 HR0.out x5_1 p101 q101
        cases e101
        replace p101 := eq_true p101
        replace q101 := eq_true q101
        have p102 : 0 ≤ (x5_1 : Int) := of_decide_eq_true yq67
        have q102 : x5_1 < (l1.length : Int) := of_decide_eq_true yq67
        obtain ⟨ad102, e102, hx102_0, hx102_1, hx102_2, hx102_3, hx102_4⟩ := at_T66 HR1.out x5_1 p102 q102
        cases e102
        replace p102 := eq_true p102
        replace q102 := eq_true q102
        go_wp2
        repeat (go_quiet (fail); try go_wp2)
        go_ret
        exact ⟨by first | rfl | (simp; done) | (simp [*]; done), by repeat (first | exact Drawn0.refl _ | apply Drawn0.step)⟩
       ·rw [if_neg c7] at H
        have c7b0 : (!(((qv l0 x5_1).f0) == ((qv l1 x5_1).f0)) || (!(((qv l0 x5_1).f1) == ((qv l1 x5_1).f1)) || (!((((qv l0 x5_1).f2).toList) == (((qv l1 x5_1).f2).toList)) || (!((((qv l0 x5_1).f3).toList) == (((qv l1 x5_1).f3).toList)) || (!(((qv l0 x5_1).f4) == ((qv l1 x5_1).f4))))))) = false := by simpa using c7
        clear c7
        have H' := Qz.mk H
        clear H
        have p101 : 0 ≤ (x5_1 : Int) := of_decide_eq_true yq67
        have q101 : x5_1 < (l0.length : Int) := of_decide_eq_true yq67
        obtain ⟨ad101, e101, hx101_0, hx101_1, hx101_2, hx101_3, hx101_4⟩ := at_T66 HR0.out x5_1 p101 q101
        cases e101
        replace p101 := eq_true p101
        replace q101 := eq_true q101
        have p102 : 0 ≤ (x5_1 : Int) := of_decide_eq_true yq67
        have q102 : x5_1 < (l1.length : Int) := of_decide_eq_true yq67
        obtain ⟨ad102, e102, hx102_0, hx102_1, hx102_2, hx102_3, hx102_4⟩ := at_T66 HR1.out x5_1 p102 q102
        cases e102
        replace p102 := eq_true p102
        replace q102 := eq_true q102
        go_wp2
        repeat (go_quiet (fail); try go_wp2)
        go_roundg k1
        case measure => have := HK1.out; omega
        case rel => exact ⟨(wrap64 (x5_1 + 1)), (by first | rfl | (simp; done) | (simp [*]; done)), H', ⟨by have := HK1.out; omega⟩, by repeat (first | exact Drawn0.refl _ | apply Drawn0.step)⟩
      ·rw [if_neg c6] at H
       exact absurd H (by simp)
     ·rw [if_neg c5] at H
      exact absurd H (by simp)
    ·rw [if_neg c4] at H
     have c4b0 : decide (x5_1 < (l0.length : Int)) = false := decide_eq_false c4
     clear c4
     obtain rfl := Option.some.inj H
     go_wp2
     repeat (go_quiet (fail); try go_wp2)
     go_ret
     exact ⟨by first | rfl | (simp; done) | (simp [*]; done), by repeat (first | exact Drawn0.refl _ | apply Drawn0.step)⟩
 ·rw [if_neg c3] at H
  have c3b0 : ((l0.length : Int) == (l1.length : Int)) = false := beq_eq_false_iff_ne.mpr c3
  have c3b1 : ((l0.length : Int) != (l1.length : Int)) = true := bne_iff_ne.mpr c3
  have c3b2 : (l0.length == l1.length) = false := by first | simpa using c3 | (simp at c3 ⊢; omega)
  obtain rfl := Option.some.inj H
  go_enter Try.func50, Try.ntmps50
  go_wp2
  repeat (go_quiet (fail); try go_wp2)
  go_ret
  exact ⟨by first | rfl | (simp; done) | (simp [*]; done), by repeat (first | exact Drawn0.refl _ | apply Drawn0.step)⟩
def IsS123 (w0 W : World) (g : Nat) (f0 : List Int) (f1 : Int) : Prop := ∃ A0 c0, W.heap[g]? = some (.cells #[.slice A0 f0.length c0, .int .i64 f1] 123 (0, 0)) ∧ w0.heap.size ≤ g ∧ Kd.C (Kd.int .u8) w0 A0 f0.length f0
theorem IsS123.grown {w0 W : World} {g : Nat} {f0 : List Int} {f1 : Int} {W1 : World} {row : Option Nat} (h : IsS123 w0 W g f0 f1) (hw : W.grownBy W1 row) (hne : some g ≠ row) : IsS123 w0 W1 g f0 f1 := by
 obtain ⟨A0, c0, hb, hg, hr0⟩ := h
 exact ⟨A0, c0, blk_grown hb hw hne, hg, hr0⟩
theorem IsS123.kept {w0 W : World} {g : Nat} {f0 : List Int} {f1 : Int} {W1 : World} {S : Nat → Prop} (h : IsS123 w0 W g f0 f1) (hk : Kept W W1 S) (hne : ¬ S g) : IsS123 w0 W1 g f0 f1 := by
 obtain ⟨A0, c0, hb, hg, hr0⟩ := h
 exact ⟨A0, c0, blk_kept hb hk hne, hg, hr0⟩
theorem IsS123.below {w0 W : World} {g : Nat} {f0 : List Int} {f1 : Int} {W1 : World} (h : IsS123 w0 W g f0 f1) (hw : Below W.heap.size W W1) : IsS123 w0 W1 g f0 f1 := h.grown (grown_of_below hw none) (by simp)
theorem IsS123.alloc {w0 W : World} {g : Nat} {f0 : List Int} {f1 : Int} (h : IsS123 w0 W g f0 f1) (o : Obj) : IsS123 w0 (W.alloc o) g f0 f1 := h.below (qi (Below.refl _ _) o)
theorem IsS123.drewN {w0 W : World} {g : Nat} {f0 : List Int} {f1 : Int} (h : IsS123 w0 W g f0 f1) (m : Nat) : IsS123 w0 (W.drewN m) g f0 f1 := h
theorem IsS123.drew {w0 W : World} {g : Nat} {f0 : List Int} {f1 : Int} (h : IsS123 w0 W g f0 f1) : IsS123 w0 W.drew g f0 f1 := h
theorem IsS123.at_ {w0 W : World} {g : Nat} {f0 : List Int} {f1 : Int} {w' : World} {m : Nat} (hq : W.drewN m = w') (h : IsS123 w0 W g f0 f1) : IsS123 w0 w' g f0 f1 := by subst hq; exact IsS123.drewN h m
theorem IsS123.apart {w0 W : World} {g : Nat} {f0 : List Int} {f1 : Int} {α : Type} {d : Kd α} {e : Nat} {base : Nat} {ok : Nat → Prop} {v : Value} {xs : List α} (h : IsS123 w0 W g f0 f1) (ho : d.R e W base ok v xs) (ht : ∀ q, q ∈ e :: d.E → q ≠ 123) : d.R e W base (fun k => ok k ∧ k ≠ g) v xs := by
 obtain ⟨A0, c0, hb, hg, hr0⟩ := h
 exact Kd.R_types ho hb ht
theorem IsS123.own_ne {w0 W : World} {g : Nat} {f0 : List Int} {f1 : Int} {α : Type} {d : Kd α} {e : Nat} {base : Nat} {ok : Nat → Prop} {v : Value} {xs : List α} (h : IsS123 w0 W g f0 f1) (ho : d.R e W base ok v xs) (ht : e ≠ 123) : some g ≠ v.ownBlock := by
 obtain ⟨A0, c0, hb, hg, hr0⟩ := h
 exact Kd.R_ne ho hb ht
theorem IsS123.lt {w0 W : World} {g : Nat} {f0 : List Int} {f1 : Int} (h : IsS123 w0 W g f0 f1) : g < W.heap.size := by
 obtain ⟨A0, c0, hb, hg, hr0⟩ := h
 exact qh1 hb
theorem IsS123.ge {w0 W : World} {g : Nat} {f0 : List Int} {f1 : Int} (h : IsS123 w0 W g f0 f1) : w0.heap.size ≤ g := by
 obtain ⟨A0, c0, hb, hg, hr0⟩ := h
 exact hg
theorem IsS123.ne_blk {w0 W : World} {g : Nat} {f0 : List Int} {f1 : Int} {a : Nat} {cs : Array Value} {t : TypeId} {fr : Nat × Nat} (h : IsS123 w0 W g f0 f1) (hb2 : W.heap[a]? = some (.cells cs t fr)) (ht : t ≠ 123) : g ≠ a := by
 obtain ⟨A0, c0, hb, hg, hr0⟩ := h
 rintro rfl
 rw [hb] at hb2
 injection hb2 with hb2
 injection hb2 with _ ht2
 exact ht ht2.symm
theorem IsS123.far {w0 W : World} {g : Nat} {f0 : List Int} {f1 : Int} {p : Addr} (h : IsS123 w0 W g f0 f1) (hne : g ≠ p.block) (u : Value) : IsS123 w0 (W.setCell p u) g f0 f1 := by
 obtain ⟨A0, c0, hb, hg, hr0⟩ := h
 exact ⟨A0, c0, qx hb hne u, hg, hr0⟩
theorem cellS123_0 {W : World} {g : Nat} {A0 : Option Addr} {c0 : Nat} {f0 : List Int} {f1 : Int} (h : W.heap[g]? = some (.cells #[.slice A0 f0.length c0, .int .i64 f1] 123 (0, 0))) : W.cell? ⟨g, 0, none⟩ = some (.slice A0 f0.length c0) := (qg h 0).trans rfl
theorem cellS123_1 {W : World} {g : Nat} {A0 : Option Addr} {c0 : Nat} {f0 : List Int} {f1 : Int} (h : W.heap[g]? = some (.cells #[.slice A0 f0.length c0, .int .i64 f1] 123 (0, 0))) : W.cell? ⟨g, 1, none⟩ = some (.int .i64 f1) := (qg h 1).trans rfl
theorem IsS123.set_1 {w0 W : World} {g : Nat} {f0 : List Int} {f1 : Int} (h : IsS123 w0 W g f0 f1) (x : Int) : IsS123 w0 (W.setCell ⟨g, 1, none⟩ (.int .i64 x)) g f0 x := by
 obtain ⟨A0, c0, hb, hg, hr0⟩ := h
 exact ⟨A0, c0, by simpa using blk_set hb 1 (.int .i64 x), hg, hr0⟩
def spec_l1Open.f (l0 : List Int) : Option (List Int × Int) := some (l0, 0)
set_option maxHeartbeats 8000000 in
set_option maxRecDepth 100000 in
theorem spec_l1Open.calls (A0 : Option Addr) (c0 : Nat) (l0 : List Int) (r1 : List Int) (r2 : Int) (w0 w : World) (hB : Below w0.heap.size w0 w) (hr0 : Kd.C (Kd.int .u8) w0 A0 l0.length l0) (hc0 : l0.length ≤ c0) (h : spec_l1Open.f l0 = some (r1, r2)) :
  Calls Try.prog 70 #[.slice A0 l0.length c0] w fun e w' => ∃ g_ : Nat, e = .returned (.pointer (some ⟨g_, 0, none⟩)) ∧ IsS123 w0 w' g_ r1 r2 ∧ Below w0.heap.size w0 w' ∧ Below w.heap.size w w' := by
 have hu123 := Try.underlying123
 have HR0 := Qz.mk hr0
 have HC0 := Qz.mk hc0
 clear hr0 hc0
 have HBW := Qz.mk (Below.refl w.heap.size w)
 have HW0 := Qz.mk hB.size
 have HB := Qz.mk hB
 clear hB
 have H : (some (l0, 0)) = some (r1, r2) := h
 clear h
 simp only [Option.some.injEq, Prod.mk.injEq] at H
 obtain ⟨rfl, rfl⟩ := H
 go_enter Try.func70, Try.ntmps70
 go_wp2_with (first | ((with_reducible refine gate_dst (N := 5) rfl ?_); refine box_event ?hg (N := 5) ?hd (cs := #[.slice A0 l0.length c0, .int .i64 0]) (t := 123) ?hr ?_; (case hd => rfl); (case hg => rfl); (case hr => first | (go_simp; done) | (go_simp; rfl)); intro gb101 hg w2 hbox hb; replace HB := Qz.mk (qq (by repeat (first | (with_reducible first | exact HB.out | apply qi | apply qd | apply qh) | exact HB.out)) hb); have BK101 := Qz.mk (hbox); have GW101 := Qz.mk ((by rw [hg]; exact (qb1 (by repeat (first | (with_reducible first | exact HBW.out | apply qi | apply qd | apply qh) | exact HBW.out))) : w.heap.size ≤ gb101)); have GE101 := Qz.mk ((Nat.le_trans HW0.out (by rw [hg]; exact (qb1 (by repeat (first | (with_reducible first | exact HBW.out | apply qi | apply qd | apply qh) | exact HBW.out))) : w.heap.size ≤ gb101) : w0.heap.size ≤ gb101)); replace HBW := Qz.mk (qq HBW.out hb); clear hb hbox hg))
 go_ret
 exact ⟨_, rfl, (show IsS123 w0 _ gb101 l0 0 from ⟨_, _, by (with_reducible repeat (first | refine qc ?_ _ | refine qf ?_ | refine qa ?_ _)); exact BK101.out, GE101.out, HR0.out⟩), by repeat (first | (with_reducible first | exact HB.out | apply qi | apply qd | apply qh | refine qe ?_ GE101.out) | exact HB.out), by repeat (first | (with_reducible first | exact HBW.out | apply qi | apply qd | apply qh | refine qe ?_ GW101.out) | exact HBW.out)⟩
def spec_l1Rd_next.f (s0_0 : List Int) (s0_1 : Int) : Option (Int × Int) := if s0_1 ≥ (s0_0.length : Int) then (some (0, s0_1)) else (if 0 ≤ (wrap64 ((wrap64 (s0_1 + 1)) - 1)) then (if (wrap64 ((wrap64 (s0_1 + 1)) - 1)) < (s0_0.length : Int) then (some (wrap64 (rd s0_0 (wrap64 ((wrap64 (s0_1 + 1)) - 1))), wrap64 (s0_1 + 1))) else (none)) else (none))
set_option maxHeartbeats 8000000 in
set_option maxRecDepth 100000 in
theorem spec_l1Rd_next.calls (g : Nat) (s0_0 : List Int) (s0_1 : Int) (r1 : Int) (r2 : Int) (w0 w : World) (hI : IsS123 w0 w g s0_0 s0_1) (hB : Below w0.heap.size w0 w) (h : spec_l1Rd_next.f s0_0 s0_1 = some (r1, r2)) :
  Calls Try.prog 109 #[.pointer (some ⟨g, 0, none⟩)] w fun e w' => e = .returned (.int .i64 r1) ∧ IsS123 w0 w' g s0_0 r2 ∧ Below w0.heap.size w0 w' ∧ KeepBut w w' g none := by
 have HI0 := Qz.mk hI
 have HK := Qz.mk (KeepBut.refl w g none)
 have HL := Qz.mk hB.size
 clear hI
 have HW0 := Qz.mk hB.size
 have HB := Qz.mk hB
 clear hB
 have H : (if s0_1 ≥ (s0_0.length : Int) then (some (0, s0_1)) else (if 0 ≤ (wrap64 ((wrap64 (s0_1 + 1)) - 1)) then (if (wrap64 ((wrap64 (s0_1 + 1)) - 1)) < (s0_0.length : Int) then (some (wrap64 (rd s0_0 (wrap64 ((wrap64 (s0_1 + 1)) - 1))), wrap64 (s0_1 + 1))) else (none)) else (none))) = some (r1, r2) := h
 clear h
 by_cases c2 : s0_1 ≥ (s0_0.length : Int)
 ·rw [if_pos c2] at H
  have c2b0 : decide ((s0_0.length : Int) ≤ s0_1) = true := decide_eq_true c2
  clear c2
  simp only [Option.some.injEq, Prod.mk.injEq] at H
  obtain ⟨rfl, rfl⟩ := H
  obtain ⟨ASz3_0, cSz3_0, HGz3, hgz3, HSz3_0⟩ := HI0.out
  have hcz3_0 := cellS123_0 HGz3
  have hcz3_1 := cellS123_1 HGz3
  have hfz3_1 := qj HGz3 1
  clear HGz3 hgz3
  go_enter Try.func109, Try.ntmps109
  go_wp2
  repeat (go_quiet (fail); try go_wp2)
  go_ret
  exact ⟨by first | rfl | (simp [qt, qr] <;> rfl) | (simp [*, qt, qr] <;> rfl), by repeat (first | (with_reducible first | exact HI0.out | apply IsS123.alloc | apply IsS123.drewN | apply IsS123.drew | apply IsS123.set_1) | exact HI0.out), by repeat (first | (with_reducible first | exact HB.out | apply qi | apply qd | apply qh | refine qe ?_ (IsS123.ge HI0.out)) | exact HB.out), by repeat (first | (with_reducible first | exact HK.out | apply KeepBut.set_ | apply qn | apply qp | apply qo) | exact HK.out)⟩
 ·rw [if_neg c2] at H
  have c2b0 : decide ((s0_0.length : Int) ≤ s0_1) = false := decide_eq_false c2
  clear c2
  obtain ⟨ji4, hji4⟩ : ∃ j_ : Int, (wrap64 ((wrap64 (s0_1 + 1)) - 1)) = j_ := ⟨_, rfl⟩
  replace H : (if 0 ≤ (ji4) then (if (ji4) < (s0_0.length : Int) then (some (wrap64 (rd s0_0 (ji4)), wrap64 (s0_1 + 1))) else (none)) else (none)) = some (r1, r2) := by first | (rw [hji4] at H; exact H) | (simp only [hji4] at H ⊢; exact H)
  have hji4w : (IntKind.i64.wrap ((wrap64 (s0_1 + 1)) - 1)) = ji4 := (i64_w _).trans hji4
  by_cases c5 : 0 ≤ (ji4)
  ·rw [if_pos c5] at H
   have c5b0 : decide (0 ≤ (ji4)) = true := decide_eq_true c5
   clear c5
   by_cases c6 : (ji4) < (s0_0.length : Int)
   ·rw [if_pos c6] at H
    have c6b0 : decide ((ji4) < (s0_0.length : Int)) = true := decide_eq_true c6
    clear c6
    simp only [Option.some.injEq, Prod.mk.injEq] at H
    obtain ⟨rfl, rfl⟩ := H
    obtain ⟨ASz7_0, cSz7_0, HGz7, hgz7, HSz7_0⟩ := HI0.out
    have hcz7_0 := cellS123_0 HGz7
    have hcz7_1 := cellS123_1 HGz7
    have hfz7_1 := qj HGz7 1
    clear HGz7 hgz7
    have p101 : 0 ≤ ((ji4) : Int) := of_decide_eq_true (by first | (with_reducible assumption) | assumption)
    have q101 : (ji4) < (s0_0.length : Int) := of_decide_eq_true (by first | (with_reducible assumption) | assumption)
    obtain ⟨ad101, e101, hx101_0⟩ := Kd.at_int HSz7_0 (ji4) p101 q101
    cases e101
    have hn101_0 : ad101.block ≠ g := Nat.ne_of_lt (Nat.lt_of_lt_of_le (by have := World.block_lt_of_cell? _ _ hx101_0; first | rwa [add_block] at this | exact this) (IsS123.ge HI0.out))
    replace hx101_0 := pw_cell_below HB.out hx101_0
    replace hx101_0 := (cell_far (p := ⟨g, 1, none⟩) (by first | (rw [add_block]; exact hn101_0) | (show (Addr.add _ _).block ≠ _; rw [add_block]; exact hn101_0) | exact hn101_0) (.int .i64 (wrap64 (s0_1 + 1)))).trans hx101_0
    (try have hy101_0 := fun (n_ : Nat) => (show (((w.drewN n_).setCell ⟨g, 1, none⟩ (.int .i64 (wrap64 (s0_1 + 1))))).cell? _ = some _ from hx101_0))
    clear hn101_0
    replace p101 := eq_true p101
    replace q101 := eq_true q101
    go_enter Try.func109, Try.ntmps109
    go_wp2
    repeat (go_quiet (fail); try go_wp2)
    go_ret
    exact ⟨by first | rfl | (simp [qt, qr] <;> rfl) | (simp only [← hji4]; first | rfl | (simp [qt, qr] <;> rfl)) | (simp [*, qt, qr] <;> rfl), by repeat (first | (with_reducible first | exact HI0.out | apply IsS123.alloc | apply IsS123.drewN | apply IsS123.drew | apply IsS123.set_1) | exact HI0.out), by repeat (first | (with_reducible first | exact HB.out | apply qi | apply qd | apply qh | refine qe ?_ (IsS123.ge HI0.out)) | exact HB.out), by repeat (first | (with_reducible first | exact HK.out | apply KeepBut.set_ | apply qn | apply qp | apply qo) | exact HK.out)⟩
   ·rw [if_neg c6] at H
    exact absurd H (by simp)
  ·rw [if_neg c5] at H
   exact absurd H (by simp)
def spec_l1Rd_word.l0 : Nat → Int → Int → List Int → Int → Option (Int × Int)
 | 0, _, _, _, _ => none
 | k + 1, x3, x4, x1000, x1001 => if x4 < 8 then ((spec_l1Rd_next.f x1000 x1001).bind fun bt101 => (spec_l1Rd_word.l0 k (Go.bits .or .u64 (IntKind.u64.wrap (x3 * 256)) (IntKind.u64.wrap (bt101.1))) (wrap64 (x4 + 1)) x1000 bt101.2)) else (some (x3, x1001))
def spec_l1Rd_word.f (k : Nat) (s0_0 : List Int) (s0_1 : Int) : Option (Int × Int) := spec_l1Rd_word.l0 k 0 0 s0_0 s0_1
set_option maxHeartbeats 8000000 in
set_option maxRecDepth 100000 in
theorem spec_l1Rd_word.calls (k : Nat) (g : Nat) (s0_0 : List Int) (s0_1 : Int) (r1 : Int) (r2 : Int) (w0 w : World) (hI : IsS123 w0 w g s0_0 s0_1) (hB : Below w0.heap.size w0 w) (h : spec_l1Rd_word.f k s0_0 s0_1 = some (r1, r2)) :
  Calls Try.prog 119 #[.pointer (some ⟨g, 0, none⟩)] w fun e w' => e = .returned (.int .u64 r1) ∧ IsS123 w0 w' g s0_0 r2 ∧ Below w0.heap.size w0 w' ∧ KeepBut w w' g none := by
 have HI0 := Qz.mk hI
 have HK := Qz.mk (KeepBut.refl w g none)
 have HL := Qz.mk hB.size
 clear hI
 have HW0 := Qz.mk hB.size
 have HB := Qz.mk hB
 clear hB
 have H : (spec_l1Rd_word.l0 k 0 0 s0_0 s0_1) = some (r1, r2) := h
 clear h
 have H' := Qz.mk H
 clear H
 go_enter Try.func119, Try.ntmps119
 go_wp2
 go_loopg [3, 4] k (fun kq v3 v4 w' => ∃ (x3_1 : Int) (x4_1 : Int) (x1001_1 : Int), v3 = .int .u64 x3_1 ∧ v4 = .int .i64 x4_1 ∧ Qz (spec_l1Rd_word.l0 kq x3_1 x4_1 s0_0 x1001_1 = some (r1, r2)) ∧ Qz (kq ≤ k) ∧ Qz (IsS123 w0 w' g s0_0 x1001_1) ∧ Qz (KeepBut w w' g none) ∧ Qz (Below w0.heap.size w0 w'))
 case atStart => exact ⟨(0), (0), (s0_1), (by first | rfl | (simp; done) | (simp [*]; done)), (by first | rfl | (simp; done) | (simp [*]; done)), H', ⟨Nat.le_refl _⟩, ⟨by repeat (first | (with_reducible first | exact HI0.out | apply IsS123.alloc | apply IsS123.drewN | apply IsS123.drew | apply IsS123.set_1) | exact HI0.out)⟩, ⟨by repeat (first | (with_reducible first | exact HK.out | apply KeepBut.set_ | apply qn | apply qp | apply qo) | exact HK.out)⟩, ⟨by repeat (first | (with_reducible first | exact HB.out | apply qi | apply qd | apply qh | refine qe ?_ (IsS123.ge HI0.out)) | exact HB.out)⟩⟩
 case round =>
  clear H'
  try clear c1
  obtain ⟨x3_1, x4_1, x1001_1, rfl, rfl, HA, HK1, HI0, HK, HB⟩ := hrel
  cases gk with
  | zero => exact absurd HA.out (by simp [spec_l1Rd_word.l0])
  | succ k1 =>
   have H := HA.out
   clear HA
   simp only [spec_l1Rd_word.l0] at H
   by_cases c2 : x4_1 < 8
   ·rw [if_pos c2] at H
    have c2b0 : decide (x4_1 < 8) = true := decide_eq_true c2
    clear c2
    replace H := Option.bind_eq_some_iff.mp H
    obtain ⟨⟨t101, t102⟩, A30, H⟩ := H
    replace H : (spec_l1Rd_word.l0 k1 (Go.bits .or .u64 (IntKind.u64.wrap (x3_1 * 256)) (IntKind.u64.wrap (t101))) (wrap64 (x4_1 + 1)) s0_0 t102) = some (r1, r2) := H
    have A3 := Qz.mk A30
    clear A30
    have H' := Qz.mk H
    clear H
    go_wp2_with (first | ((with_reducible refine qm (f := 109) rfl ?_); refine qy (some 12) rfl rfl Try.func109 (by kernel_rfl) rfl #[.pointer (some ⟨g, 0, none⟩)] rfl (by (try simp only [List.map_toArray, List.map_cons, List.map_nil]); first | done | rfl) ?_; (with_reducible refine (spec_l1Rd_next.calls g s0_0 x1001_1 t101 t102 w0 _ ?side1 ?side2 A3.out).mono ?_); (case side1 => repeat (first | (with_reducible first | exact HI0.out | apply IsS123.alloc | apply IsS123.drewN | apply IsS123.drew | apply IsS123.set_1) | exact HI0.out)); (case side2 => repeat (first | (with_reducible first | exact HB.out | apply qi | apply qd | apply qh | refine qe ?_ (IsS123.ge HI0.out)) | exact HB.out)); rintro e w4 ⟨rfl, hi, hb, hk⟩; refine ⟨_, rfl, ?_⟩; replace HK := Qz.mk (KeepBut.trans (by repeat (first | (with_reducible first | exact HK.out | apply KeepBut.set_ | apply qn | apply qp | apply qo) | exact HK.out)) hk (.inl rfl)); replace HB := Qz.mk (hb); replace HI0 := Qz.mk (hi); (try clear hb); (try clear hk); (try clear hi)))
    go_roundg k1
    case measure => have := HK1.out; omega
    case rel => exact ⟨(Go.bits .or .u64 (IntKind.u64.wrap (x3_1 * 256)) (IntKind.u64.wrap (t101))), (wrap64 (x4_1 + 1)), (t102), (by first | rfl | (simp; done) | (simp [*]; done)), (by first | rfl | (simp; done) | (simp [*]; done)), H', ⟨by have := HK1.out; omega⟩, ⟨by repeat (first | (with_reducible first | exact HI0.out | apply IsS123.alloc | apply IsS123.drewN | apply IsS123.drew | apply IsS123.set_1) | exact HI0.out)⟩, ⟨by repeat (first | (with_reducible first | exact HK.out | apply KeepBut.set_ | apply qn | apply qp | apply qo) | exact HK.out)⟩, ⟨by repeat (first | (with_reducible first | exact HB.out | apply qi | apply qd | apply qh | refine qe ?_ (IsS123.ge HI0.out)) | exact HB.out)⟩⟩
   ·rw [if_neg c2] at H
    have c2b0 : decide (x4_1 < 8) = false := decide_eq_false c2
    clear c2
    simp only [Option.some.injEq, Prod.mk.injEq] at H
    obtain ⟨rfl, rfl⟩ := H
    go_wp2
    go_ret
    exact ⟨by first | rfl | (simp [qt, qr] <;> rfl) | (simp [*, qt, qr] <;> rfl), by repeat (first | (with_reducible first | exact HI0.out | apply IsS123.alloc | apply IsS123.drewN | apply IsS123.drew | apply IsS123.set_1) | exact HI0.out), by repeat (first | (with_reducible first | exact HB.out | apply qi | apply qd | apply qh | refine qe ?_ (IsS123.ge HI0.out)) | exact HB.out), by repeat (first | (with_reducible first | exact HK.out | apply KeepBut.set_ | apply qn | apply qp | apply qo) | exact HK.out)⟩
theorem yq68 {P : Prop} (h : P := by repeat (first | (with_reducible first | exact HI0.out | apply IsS123.alloc | apply IsS123.drewN | apply IsS123.drew | apply IsS123.set_1) | exact HI0.out)) : P := h
theorem yq69 {P : Prop} (h : P := by repeat (first | (with_reducible first | exact HB.out | apply qi | apply qd | apply qh | refine qe ?_ (IsS123.ge HI0.out)) | exact HB.out)) : P := h
theorem yq70 {P : Prop} (h : P := by repeat (first | (with_reducible first | exact HK.out | apply KeepBut.set_ | apply qn | apply qp | apply qo) | exact HK.out)) : P := h
def spec_l1Rd_below.f (s0_0 : List Int) (s0_1 : Int) (a1 : Int) : Option (Int × Int) := if a1 ≤ 1 then (some (0, s0_1)) else (if a1 ≤ 256 then ((spec_l1Rd_next.f s0_0 s0_1).bind fun bt101 => (if a1 = 0 then (none) else (some (Int.tmod bt101.1 a1, bt101.2)))) else ((spec_l1Rd_next.f s0_0 s0_1).bind fun bt103 => ((spec_l1Rd_next.f s0_0 bt103.2).bind fun bt105 => (if a1 = 0 then (none) else (some (Int.tmod (wrap64 ((wrap64 (bt103.1 * 256)) + bt105.1)) a1, bt105.2))))))
set_option maxHeartbeats 8000000 in
set_option maxRecDepth 100000 in
theorem spec_l1Rd_below.calls (g : Nat) (s0_0 : List Int) (s0_1 : Int) (a1 : Int) (r1 : Int) (r2 : Int) (w0 w : World) (hI : IsS123 w0 w g s0_0 s0_1) (hB : Below w0.heap.size w0 w) (h : spec_l1Rd_below.f s0_0 s0_1 a1 = some (r1, r2)) :
  Calls Try.prog 80 #[.pointer (some ⟨g, 0, none⟩), .int .i64 a1] w fun e w' => e = .returned (.int .i64 r1) ∧ IsS123 w0 w' g s0_0 r2 ∧ Below w0.heap.size w0 w' ∧ KeepBut w w' g none := by
 have HI0 := Qz.mk hI
 have HK := Qz.mk (KeepBut.refl w g none)
 have HL := Qz.mk hB.size
 clear hI
 have HW0 := Qz.mk hB.size
 have HB := Qz.mk hB
 clear hB
 have H : (if a1 ≤ 1 then (some (0, s0_1)) else (if a1 ≤ 256 then ((spec_l1Rd_next.f s0_0 s0_1).bind fun bt101 => (if a1 = 0 then (none) else (some (Int.tmod bt101.1 a1, bt101.2)))) else ((spec_l1Rd_next.f s0_0 s0_1).bind fun bt103 => ((spec_l1Rd_next.f s0_0 bt103.2).bind fun bt105 => (if a1 = 0 then (none) else (some (Int.tmod (wrap64 ((wrap64 (bt103.1 * 256)) + bt105.1)) a1, bt105.2))))))) = some (r1, r2) := h
 clear h
 by_cases c3 : a1 ≤ 1
 ·rw [if_pos c3] at H
  have c3b0 : decide (a1 ≤ 1) = true := decide_eq_true c3
  clear c3
  simp only [Option.some.injEq, Prod.mk.injEq] at H
  obtain ⟨rfl, rfl⟩ := H
  go_enter Try.func80, Try.ntmps80
  go_wp2
  go_ret
  exact ⟨by first | rfl | (simp [qt, qr] <;> rfl) | (simp [*, qt, qr] <;> rfl), by repeat (first | (with_reducible first | exact HI0.out | apply IsS123.alloc | apply IsS123.drewN | apply IsS123.drew | apply IsS123.set_1) | exact HI0.out), by repeat (first | (with_reducible first | exact HB.out | apply qi | apply qd | apply qh | refine qe ?_ (IsS123.ge HI0.out)) | exact HB.out), by repeat (first | (with_reducible first | exact HK.out | apply KeepBut.set_ | apply qn | apply qp | apply qo) | exact HK.out)⟩
 ·rw [if_neg c3] at H
  have c3b0 : decide (a1 ≤ 1) = false := decide_eq_false c3
  clear c3
  by_cases c4 : a1 ≤ 256
  ·rw [if_pos c4] at H
   have c4b0 : decide (a1 ≤ 256) = true := decide_eq_true c4
   clear c4
   replace H := Option.bind_eq_some_iff.mp H
   obtain ⟨⟨t101, t102⟩, A50, H⟩ := H
   replace H : (if a1 = 0 then (none) else (some (Int.tmod t101 a1, t102))) = some (r1, r2) := H
   have A5 := Qz.mk A50
   clear A50
   by_cases c6 : a1 = 0
   ·rw [if_pos c6] at H
    exact absurd H (by simp)
   ·rw [if_neg c6] at H
    have c6b0 : (a1 == 0) = false := beq_eq_false_iff_ne.mpr c6
    have c6b1 : (a1 != 0) = true := bne_iff_ne.mpr c6
    simp only [Option.some.injEq, Prod.mk.injEq] at H
    obtain ⟨rfl, rfl⟩ := H
    go_enter Try.func80, Try.ntmps80
    go_wp2_with (first | ((with_reducible refine qm (f := 109) rfl ?_); refine qy (some 11) rfl rfl Try.func109 (by kernel_rfl) rfl #[.pointer (some ⟨g, 0, none⟩)] rfl (by (try simp only [List.map_toArray, List.map_cons, List.map_nil]); first | done | rfl) ?_; (with_reducible refine (spec_l1Rd_next.calls g s0_0 s0_1 t101 t102 w0 _ ?side1 ?side2 A5.out).mono ?_); (case side1 => exact yq68); (case side2 => exact yq69); rintro e w7 ⟨rfl, hi, hb, hk⟩; refine ⟨_, rfl, ?_⟩; replace HK := Qz.mk (KeepBut.trans yq70 hk (.inl rfl)); replace HB := Qz.mk (hb); replace HI0 := Qz.mk (hi); (try clear hb); (try clear hk); (try clear hi)))
    go_ret
    exact ⟨by first | rfl | (simp [qt, qr] <;> rfl) | (simp [*, qt, qr] <;> rfl), by repeat (first | (with_reducible first | exact HI0.out | apply IsS123.alloc | apply IsS123.drewN | apply IsS123.drew | apply IsS123.set_1) | exact HI0.out), by repeat (first | (with_reducible first | exact HB.out | apply qi | apply qd | apply qh | refine qe ?_ (IsS123.ge HI0.out)) | exact HB.out), by repeat (first | (with_reducible first | exact HK.out | apply KeepBut.set_ | apply qn | apply qp | apply qo) | exact HK.out)⟩
  ·rw [if_neg c4] at H
   have c4b0 : decide (a1 ≤ 256) = false := decide_eq_false c4
   clear c4
   replace H := Option.bind_eq_some_iff.mp H
   obtain ⟨⟨t103, t104⟩, A80, H⟩ := H
   replace H : ((spec_l1Rd_next.f s0_0 t104).bind fun bt105 => (if a1 = 0 then (none) else (some (Int.tmod (wrap64 ((wrap64 (t103 * 256)) + bt105.1)) a1, bt105.2)))) = some (r1, r2) := H
   have A8 := Qz.mk A80
   clear A80
   replace H := Option.bind_eq_some_iff.mp H
   obtain ⟨⟨t105, t106⟩, A90, H⟩ := H
   replace H : (if a1 = 0 then (none) else (some (Int.tmod (wrap64 ((wrap64 (t103 * 256)) + t105)) a1, t106))) = some (r1, r2) := H
   have A9 := Qz.mk A90
   clear A90
   by_cases c10 : a1 = 0
   ·rw [if_pos c10] at H
    exact absurd H (by simp)
   ·rw [if_neg c10] at H
    have c10b0 : (a1 == 0) = false := beq_eq_false_iff_ne.mpr c10
    have c10b1 : (a1 != 0) = true := bne_iff_ne.mpr c10
    simp only [Option.some.injEq, Prod.mk.injEq] at H
    obtain ⟨rfl, rfl⟩ := H
    go_enter Try.func80, Try.ntmps80
    go_wp2_with (first | ((with_reducible refine qm (f := 109) rfl ?_); refine qy (some 15) rfl rfl Try.func109 (by kernel_rfl) rfl #[.pointer (some ⟨g, 0, none⟩)] rfl (by (try simp only [List.map_toArray, List.map_cons, List.map_nil]); first | done | rfl) ?_; (with_reducible refine (spec_l1Rd_next.calls g s0_0 s0_1 t103 t104 w0 _ ?side1 ?side2 A8.out).mono ?_); (case side1 => exact yq68); (case side2 => exact yq69); rintro e w11 ⟨rfl, hi, hb, hk⟩; refine ⟨_, rfl, ?_⟩; replace HK := Qz.mk (KeepBut.trans yq70 hk (.inl rfl)); replace HB := Qz.mk (hb); replace HI0 := Qz.mk (hi); (try clear hb); (try clear hk); (try clear hi)) | ((with_reducible refine qm (f := 109) rfl ?_); refine qy (some 19) rfl rfl Try.func109 (by kernel_rfl) rfl #[.pointer (some ⟨g, 0, none⟩)] rfl (by (try simp only [List.map_toArray, List.map_cons, List.map_nil]); first | done | rfl) ?_; (with_reducible refine (spec_l1Rd_next.calls g s0_0 t104 t105 t106 w0 _ ?side1 ?side2 A9.out).mono ?_); (case side1 => exact yq68); (case side2 => exact yq69); rintro e w12 ⟨rfl, hi, hb, hk⟩; refine ⟨_, rfl, ?_⟩; replace HK := Qz.mk (KeepBut.trans yq70 hk (.inl rfl)); replace HB := Qz.mk (hb); replace HI0 := Qz.mk (hi); (try clear hb); (try clear hk); (try clear hi)))
    go_ret
    exact ⟨by first | rfl | (simp [qt, qr] <;> rfl) | (simp [*, qt, qr] <;> rfl), by repeat (first | (with_reducible first | exact HI0.out | apply IsS123.alloc | apply IsS123.drewN | apply IsS123.drew | apply IsS123.set_1) | exact HI0.out), by repeat (first | (with_reducible first | exact HB.out | apply qi | apply qd | apply qh | refine qe ?_ (IsS123.ge HI0.out)) | exact HB.out), by repeat (first | (with_reducible first | exact HK.out | apply KeepBut.set_ | apply qn | apply qp | apply qo) | exact HK.out)⟩
theorem yq71 {P : Prop} (h : P := by repeat (first | (with_reducible first | exact HI0.out | apply IsS123.alloc | apply IsS123.drewN | apply IsS123.drew | apply IsS123.set_1) | exact HI0.out)) : P := h
theorem yq72 {P : Prop} (h : P := by repeat (first | (with_reducible first | exact HB.out | apply qi | apply qd | apply qh | refine qe ?_ (IsS123.ge HI0.out)) | exact HB.out)) : P := h
theorem yq73 {P : Prop} (h : P := by repeat (first | (with_reducible first | exact HK.out | apply KeepBut.set_ | apply qn | apply qp | apply qo) | exact HK.out)) : P := h
theorem yq74 {P : Prop} (h : P := by (try simp only [List.map_toArray, List.map_cons, List.map_nil]); first | done | rfl) : P := h
def spec_l1Rd_near.f (k : Nat) (s0_0 : List Int) (s0_1 : Int) (a1 : Int) (a2 : Int) : Option (Int × Int) := (spec_l1Rd_below.f s0_0 s0_1 8).bind fun bt101 => (if bt101.1 = 0 then (some (a1, bt101.2)) else (if bt101.1 = 1 then (some (a2, bt101.2)) else (if a2 < a1 then (some (a1, bt101.2)) else ((spec_l1Rd_word.f k s0_0 bt101.2).bind fun bt103 => (if (IntKind.u64.wrap (wrap64 ((wrap64 (a2 - a1)) + 1))) = 0 then (none) else (some (wrap64 (a1 + (wrap64 (Int.tmod (bt103.1 / 2) (IntKind.u64.wrap (wrap64 ((wrap64 (a2 - a1)) + 1)))))), bt103.2)))))))
set_option maxHeartbeats 8000000 in
set_option maxRecDepth 100000 in
theorem spec_l1Rd_near.calls (k : Nat) (g : Nat) (s0_0 : List Int) (s0_1 : Int) (a1 : Int) (a2 : Int) (r1 : Int) (r2 : Int) (w0 w : World) (hI : IsS123 w0 w g s0_0 s0_1) (hB : Below w0.heap.size w0 w) (h : spec_l1Rd_near.f k s0_0 s0_1 a1 a2 = some (r1, r2)) :
  Calls Try.prog 102 #[.pointer (some ⟨g, 0, none⟩), .int .i64 a1, .int .i64 a2] w fun e w' => e = .returned (.int .i64 r1) ∧ IsS123 w0 w' g s0_0 r2 ∧ Below w0.heap.size w0 w' ∧ KeepBut w w' g none := by
 have HI0 := Qz.mk hI
 have HK := Qz.mk (KeepBut.refl w g none)
 have HL := Qz.mk hB.size
 clear hI
 have HW0 := Qz.mk hB.size
 have HB := Qz.mk hB
 clear hB
 have H : ((spec_l1Rd_below.f s0_0 s0_1 8).bind fun bt101 => (if bt101.1 = 0 then (some (a1, bt101.2)) else (if bt101.1 = 1 then (some (a2, bt101.2)) else (if a2 < a1 then (some (a1, bt101.2)) else ((spec_l1Rd_word.f k s0_0 bt101.2).bind fun bt103 => (if (IntKind.u64.wrap (wrap64 ((wrap64 (a2 - a1)) + 1))) = 0 then (none) else (some (wrap64 (a1 + (wrap64 (Int.tmod (bt103.1 / 2) (IntKind.u64.wrap (wrap64 ((wrap64 (a2 - a1)) + 1)))))), bt103.2)))))))) = some (r1, r2) := h
 clear h
 replace H := Option.bind_eq_some_iff.mp H
 obtain ⟨⟨t101, t102⟩, A40, H⟩ := H
 replace H : (if t101 = 0 then (some (a1, t102)) else (if t101 = 1 then (some (a2, t102)) else (if a2 < a1 then (some (a1, t102)) else ((spec_l1Rd_word.f k s0_0 t102).bind fun bt103 => (if (IntKind.u64.wrap (wrap64 ((wrap64 (a2 - a1)) + 1))) = 0 then (none) else (some (wrap64 (a1 + (wrap64 (Int.tmod (bt103.1 / 2) (IntKind.u64.wrap (wrap64 ((wrap64 (a2 - a1)) + 1)))))), bt103.2))))))) = some (r1, r2) := H
 have A4 := Qz.mk A40
 clear A40
 by_cases c5 : t101 = 0
 ·rw [if_pos c5] at H
  have c5b0 : (t101 == 0) = true := beq_iff_eq.mpr c5
  have c5b1 : (t101 != 0) = false := bne_eq_false_iff_eq.mpr c5
  clear c5
  simp only [Option.some.injEq, Prod.mk.injEq] at H
  obtain ⟨rfl, rfl⟩ := H
  go_enter Try.func102, Try.ntmps102
  go_wp2_with (first | ((with_reducible refine qm (f := 80) rfl ?_); refine qy (some 8) rfl rfl Try.func80 (by kernel_rfl) rfl #[.pointer (some ⟨g, 0, none⟩), .int .i64 8] rfl yq74 ?_; (with_reducible refine (spec_l1Rd_below.calls g s0_0 s0_1 8 t101 t102 w0 _ ?side1 ?side2 A4.out).mono ?_); (case side1 => exact yq71); (case side2 => exact yq72); rintro e w6 ⟨rfl, hi, hb, hk⟩; refine ⟨_, rfl, ?_⟩; replace HK := Qz.mk (KeepBut.trans yq73 hk (.inl rfl)); replace HB := Qz.mk (hb); replace HI0 := Qz.mk (hi); (try clear hb); (try clear hk); (try clear hi)))
  go_ret
  exact ⟨by first | rfl | (simp [qt, qr] <;> rfl) | (simp [*, qt, qr] <;> rfl), by repeat (first | (with_reducible first | exact HI0.out | apply IsS123.alloc | apply IsS123.drewN | apply IsS123.drew | apply IsS123.set_1) | exact HI0.out), by repeat (first | (with_reducible first | exact HB.out | apply qi | apply qd | apply qh | refine qe ?_ (IsS123.ge HI0.out)) | exact HB.out), by repeat (first | (with_reducible first | exact HK.out | apply KeepBut.set_ | apply qn | apply qp | apply qo) | exact HK.out)⟩
 ·rw [if_neg c5] at H
  have c5b0 : (t101 == 0) = false := beq_eq_false_iff_ne.mpr c5
  have c5b1 : (t101 != 0) = true := bne_iff_ne.mpr c5
  by_cases c7 : t101 = 1
  ·rw [if_pos c7] at H
   have c7b0 : (t101 == 1) = true := beq_iff_eq.mpr c7
   have c7b1 : (t101 != 1) = false := bne_eq_false_iff_eq.mpr c7
   clear c7
   simp only [Option.some.injEq, Prod.mk.injEq] at H
   obtain ⟨rfl, rfl⟩ := H
   go_enter Try.func102, Try.ntmps102
   go_wp2_with (first | ((with_reducible refine qm (f := 80) rfl ?_); refine qy (some 8) rfl rfl Try.func80 (by kernel_rfl) rfl #[.pointer (some ⟨g, 0, none⟩), .int .i64 8] rfl yq74 ?_; (with_reducible refine (spec_l1Rd_below.calls g s0_0 s0_1 8 t101 t102 w0 _ ?side1 ?side2 A4.out).mono ?_); (case side1 => exact yq71); (case side2 => exact yq72); rintro e w8 ⟨rfl, hi, hb, hk⟩; refine ⟨_, rfl, ?_⟩; replace HK := Qz.mk (KeepBut.trans yq73 hk (.inl rfl)); replace HB := Qz.mk (hb); replace HI0 := Qz.mk (hi); (try clear hb); (try clear hk); (try clear hi)))
   go_ret
   exact ⟨by first | rfl | (simp [qt, qr] <;> rfl) | (simp [*, qt, qr] <;> rfl), by repeat (first | (with_reducible first | exact HI0.out | apply IsS123.alloc | apply IsS123.drewN | apply IsS123.drew | apply IsS123.set_1) | exact HI0.out), by repeat (first | (with_reducible first | exact HB.out | apply qi | apply qd | apply qh | refine qe ?_ (IsS123.ge HI0.out)) | exact HB.out), by repeat (first | (with_reducible first | exact HK.out | apply KeepBut.set_ | apply qn | apply qp | apply qo) | exact HK.out)⟩
  ·rw [if_neg c7] at H
   have c7b0 : (t101 == 1) = false := beq_eq_false_iff_ne.mpr c7
   have c7b1 : (t101 != 1) = true := bne_iff_ne.mpr c7
   by_cases c9 : a2 < a1
   ·rw [if_pos c9] at H
    have c9b0 : decide (a2 < a1) = true := decide_eq_true c9
    clear c9
    simp only [Option.some.injEq, Prod.mk.injEq] at H
    obtain ⟨rfl, rfl⟩ := H
    go_enter Try.func102, Try.ntmps102
    go_wp2_with (first | ((with_reducible refine qm (f := 80) rfl ?_); refine qy (some 8) rfl rfl Try.func80 (by kernel_rfl) rfl #[.pointer (some ⟨g, 0, none⟩), .int .i64 8] rfl yq74 ?_; (with_reducible refine (spec_l1Rd_below.calls g s0_0 s0_1 8 t101 t102 w0 _ ?side1 ?side2 A4.out).mono ?_); (case side1 => exact yq71); (case side2 => exact yq72); rintro e w10 ⟨rfl, hi, hb, hk⟩; refine ⟨_, rfl, ?_⟩; replace HK := Qz.mk (KeepBut.trans yq73 hk (.inl rfl)); replace HB := Qz.mk (hb); replace HI0 := Qz.mk (hi); (try clear hb); (try clear hk); (try clear hi)))
    go_ret
    exact ⟨by first | rfl | (simp [qt, qr] <;> rfl) | (simp [*, qt, qr] <;> rfl), by repeat (first | (with_reducible first | exact HI0.out | apply IsS123.alloc | apply IsS123.drewN | apply IsS123.drew | apply IsS123.set_1) | exact HI0.out), by repeat (first | (with_reducible first | exact HB.out | apply qi | apply qd | apply qh | refine qe ?_ (IsS123.ge HI0.out)) | exact HB.out), by repeat (first | (with_reducible first | exact HK.out | apply KeepBut.set_ | apply qn | apply qp | apply qo) | exact HK.out)⟩
   ·rw [if_neg c9] at H
    have c9b0 : decide (a2 < a1) = false := decide_eq_false c9
    clear c9
    replace H := Option.bind_eq_some_iff.mp H
    obtain ⟨⟨t103, t104⟩, A110, H⟩ := H
    replace H : (if (IntKind.u64.wrap (wrap64 ((wrap64 (a2 - a1)) + 1))) = 0 then (none) else (some (wrap64 (a1 + (wrap64 (Int.tmod (t103 / 2) (IntKind.u64.wrap (wrap64 ((wrap64 (a2 - a1)) + 1)))))), t104))) = some (r1, r2) := H
    have A11 := Qz.mk A110
    clear A110
    by_cases c12 : (IntKind.u64.wrap (wrap64 ((wrap64 (a2 - a1)) + 1))) = 0
    ·rw [if_pos c12] at H
     exact absurd H (by simp)
    ·rw [if_neg c12] at H
     have c12b0 : ((IntKind.u64.wrap (wrap64 ((wrap64 (a2 - a1)) + 1))) == 0) = false := beq_eq_false_iff_ne.mpr c12
     have c12b1 : ((IntKind.u64.wrap (wrap64 ((wrap64 (a2 - a1)) + 1))) != 0) = true := bne_iff_ne.mpr c12
     simp only [Option.some.injEq, Prod.mk.injEq] at H
     obtain ⟨rfl, rfl⟩ := H
     go_enter Try.func102, Try.ntmps102
     go_wp2_with (first | ((with_reducible refine qm (f := 80) rfl ?_); refine qy (some 8) rfl rfl Try.func80 (by kernel_rfl) rfl #[.pointer (some ⟨g, 0, none⟩), .int .i64 8] rfl yq74 ?_; (with_reducible refine (spec_l1Rd_below.calls g s0_0 s0_1 8 t101 t102 w0 _ ?side1 ?side2 A4.out).mono ?_); (case side1 => exact yq71); (case side2 => exact yq72); rintro e w13 ⟨rfl, hi, hb, hk⟩; refine ⟨_, rfl, ?_⟩; replace HK := Qz.mk (KeepBut.trans yq73 hk (.inl rfl)); replace HB := Qz.mk (hb); replace HI0 := Qz.mk (hi); (try clear hb); (try clear hk); (try clear hi)) | ((with_reducible refine qm (f := 119) rfl ?_); refine qy (some 21) rfl rfl Try.func119 (by kernel_rfl) rfl #[.pointer (some ⟨g, 0, none⟩)] rfl yq74 ?_; (with_reducible refine (spec_l1Rd_word.calls k g s0_0 t102 t103 t104 w0 _ ?side1 ?side2 A11.out).mono ?_); (case side1 => exact yq71); (case side2 => exact yq72); rintro e w14 ⟨rfl, hi, hb, hk⟩; refine ⟨_, rfl, ?_⟩; replace HK := Qz.mk (KeepBut.trans yq73 hk (.inl rfl)); replace HB := Qz.mk (hb); replace HI0 := Qz.mk (hi); (try clear hb); (try clear hk); (try clear hi)))
     go_ret
     exact ⟨by first | rfl | (simp [qt, qr] <;> rfl) | (simp [*, qt, qr] <;> rfl), by repeat (first | (with_reducible first | exact HI0.out | apply IsS123.alloc | apply IsS123.drewN | apply IsS123.drew | apply IsS123.set_1) | exact HI0.out), by repeat (first | (with_reducible first | exact HB.out | apply qi | apply qd | apply qh | refine qe ?_ (IsS123.ge HI0.out)) | exact HB.out), by repeat (first | (with_reducible first | exact HK.out | apply KeepBut.set_ | apply qn | apply qp | apply qo) | exact HK.out)⟩
def spec_l1Rd_once.f (s0_0 : List Int) (s0_1 : Int) (a1 : Int) : Option (Bool × Int) := (spec_l1Rd_below.f s0_0 s0_1 a1).bind fun bt101 => (some ((bt101.1 == (wrap64 (a1 - 1))), bt101.2))
set_option maxHeartbeats 8000000 in
set_option maxRecDepth 100000 in
theorem spec_l1Rd_once.calls (g : Nat) (s0_0 : List Int) (s0_1 : Int) (a1 : Int) (r1 : Bool) (r2 : Int) (w0 w : World) (hI : IsS123 w0 w g s0_0 s0_1) (hB : Below w0.heap.size w0 w) (h : spec_l1Rd_once.f s0_0 s0_1 a1 = some (r1, r2)) :
  Calls Try.prog 73 #[.pointer (some ⟨g, 0, none⟩), .int .i64 a1] w fun e w' => e = .returned (.bool r1) ∧ IsS123 w0 w' g s0_0 r2 ∧ Below w0.heap.size w0 w' ∧ KeepBut w w' g none := by
 have HI0 := Qz.mk hI
 have HK := Qz.mk (KeepBut.refl w g none)
 have HL := Qz.mk hB.size
 clear hI
 have HW0 := Qz.mk hB.size
 have HB := Qz.mk hB
 clear hB
 have H : ((spec_l1Rd_below.f s0_0 s0_1 a1).bind fun bt101 => (some ((bt101.1 == (wrap64 (a1 - 1))), bt101.2))) = some (r1, r2) := h
 clear h
 replace H := Option.bind_eq_some_iff.mp H
 obtain ⟨⟨t101, t102⟩, A30, H⟩ := H
 replace H : (some ((t101 == (wrap64 (a1 - 1))), t102)) = some (r1, r2) := H
 have A3 := Qz.mk A30
 clear A30
 simp only [Option.some.injEq, Prod.mk.injEq] at H
 obtain ⟨rfl, rfl⟩ := H
 go_enter Try.func73, Try.ntmps73
 go_wp2_with (first | ((with_reducible refine qm (f := 80) rfl ?_); refine qy (some 7) rfl rfl Try.func80 (by kernel_rfl) rfl #[.pointer (some ⟨g, 0, none⟩), .int .i64 a1] rfl (by (try simp only [List.map_toArray, List.map_cons, List.map_nil]); first | done | rfl) ?_; (with_reducible refine (spec_l1Rd_below.calls g s0_0 s0_1 a1 t101 t102 w0 _ ?side1 ?side2 A3.out).mono ?_); (case side1 => repeat (first | (with_reducible first | exact HI0.out | apply IsS123.alloc | apply IsS123.drewN | apply IsS123.drew | apply IsS123.set_1) | exact HI0.out)); (case side2 => repeat (first | (with_reducible first | exact HB.out | apply qi | apply qd | apply qh | refine qe ?_ (IsS123.ge HI0.out)) | exact HB.out)); rintro e w4 ⟨rfl, hi, hb, hk⟩; refine ⟨_, rfl, ?_⟩; replace HK := Qz.mk (KeepBut.trans (by repeat (first | (with_reducible first | exact HK.out | apply KeepBut.set_ | apply qn | apply qp | apply qo) | exact HK.out)) hk (.inl rfl)); replace HB := Qz.mk (hb); replace HI0 := Qz.mk (hi); (try clear hb); (try clear hk); (try clear hi)))
 go_ret
 exact ⟨by first | rfl | (simp [qt, qr] <;> rfl) | (simp [*, qt, qr] <;> rfl), by repeat (first | (with_reducible first | exact HI0.out | apply IsS123.alloc | apply IsS123.drewN | apply IsS123.drew | apply IsS123.set_1) | exact HI0.out), by repeat (first | (with_reducible first | exact HB.out | apply qi | apply qd | apply qh | refine qe ?_ (IsS123.ge HI0.out)) | exact HB.out), by repeat (first | (with_reducible first | exact HK.out | apply KeepBut.set_ | apply qn | apply qp | apply qo) | exact HK.out)⟩
end Go.Proofs.Ytcgejabkjljeeaa.P
end
