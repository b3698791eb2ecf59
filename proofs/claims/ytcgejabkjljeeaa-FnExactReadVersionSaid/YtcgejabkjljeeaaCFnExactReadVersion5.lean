/- Proved: the law FnExactReadVersion of the given program returns true for every input of its Go types and leaves each argument as it was; no condition. (Part 6 of 12.) -/
import Derived.Test.YtcgejabkjljeeaaCFnExactReadVersion3
import Derived.Test.YtcgejabkjljeeaaCFnExactReadVersion4
import Derived.Test.YtcgejabkjljeeaaCFnExactReadVersion0
section
namespace Go.Proofs.Ytcgejabkjljeeaa.P
open Go.RowKit Go.Proofs.YtcgejabkjljeeaaW.PrintWords Go.Proofs.YtcgejabkjljeeaaW.PrintLast Go.Proofs.YtcgejabkjljeeaaW.PrintMore
attribute [local go_sem] str_gtr str_leq str_geq max2_int min2_int max_two min_two qw qv max_four min_four
set_option linter.unusedVariables false
set_option linter.unusedSimpArgs false
mutual
def spec_ReadVersion.j0 : Nat → ByteArray → Bool → Option ((List (S66)) × Int × Int × Int × Bool)
 | 0, _, _ => none
 | k + 1, x4, x47 => if x47 = true then (some (([] : List (S66)), 0, 0, 0, false)) else ((spec_l12Int.f k x4).bind fun bt105 => ((spec_l12Int.f k bt105.2.1).bind fun bt108 => ((spec_l12Int.f k bt108.2.1).bind fun bt111 => ((spec_l12Int.f k bt111.2.1).bind fun bt114 => (if bt105.2.2 = true then (if bt108.2.2 = true then (if bt111.2.2 = true then (if bt114.2.2 = true then (spec_ReadVersion.j1 k bt105.1 bt108.1 bt111.1 bt114.1 bt114.2.1 (decide (bt114.1 > 30))) else (spec_ReadVersion.j1 k bt105.1 bt108.1 bt111.1 bt114.1 bt114.2.1 true)) else (spec_ReadVersion.j1 k bt105.1 bt108.1 bt111.1 bt114.1 bt114.2.1 true)) else (spec_ReadVersion.j1 k bt105.1 bt108.1 bt111.1 bt114.1 bt114.2.1 true)) else (spec_ReadVersion.j1 k bt105.1 bt108.1 bt111.1 bt114.1 bt114.2.1 true))))))
def spec_ReadVersion.j1 : Nat → Int → Int → Int → Int → ByteArray → Bool → Option ((List (S66)) × Int × Int × Int × Bool)
 | 0, _, _, _, _, _, _ => none
 | k + 1, x6, x9, x12, x15, x16, x90 => if x90 = true then (some (([] : List (S66)), 0, 0, 0, false)) else (spec_ReadVersion.l0 k x15 x16 0 ([] : List (S66)) x6 x9 x12)
def spec_ReadVersion.l0 : Nat → Int → ByteArray → Int → List (S66) → Int → Int → Int → Option ((List (S66)) × Int × Int × Int × Bool)
 | 0, _, _, _, _, _, _, _ => none
 | k + 1, x15, x16, x19, x118000, x118001, x118002, x118003 => if x19 < x15 then ((spec_l12Int.f k x16).bind fun bt119 => ((spec_l12Int.f k bt119.2.1).bind fun bt122 => ((spec_TakeText.f k bt122.2.1).bind fun bt125 => ((spec_TakeText.f k bt125.2.1).bind fun bt128 => ((spec_l12Int.f k bt128.2.1).bind fun bt131 => (if bt119.2.2 = true then (if bt122.2.2 = true then (if bt125.2.2 = true then (if bt128.2.2 = true then (if bt131.2.2 = true then (if x118000.length < 2513169434916 then (spec_ReadVersion.l0 k x15 bt131.2.1 (wrap64 (x19 + 1)) (x118000 ++ [(⟨bt119.1, bt122.1, bt125.1, bt128.1, bt131.1⟩ : S66)]) x118001 x118002 x118003) else (none)) else (some (([] : List (S66)), 0, 0, 0, false))) else (some (([] : List (S66)), 0, 0, 0, false))) else (some (([] : List (S66)), 0, 0, 0, false))) else (some (([] : List (S66)), 0, 0, 0, false))) else (some (([] : List (S66)), 0, 0, 0, false)))))))) else (if x16.toList = ([] : List UInt8) then ((spec_VersionOk.f k x118000 x118001 x118002 x118003).bind fun t118 => (if t118 = true then (some (x118000, x118001, x118002, x118003, true)) else (some (([] : List (S66)), 0, 0, 0, false)))) else (some (([] : List (S66)), 0, 0, 0, false)))
end
def spec_ReadVersion.f (k : Nat) (a0 : ByteArray) : Option ((List (S66)) × Int × Int × Int × Bool) := (spec_l10Take.f k a0 0).bind fun bt102 => (if bt102.2 = true then ((spec_l10Section.f k bt102.1).bind fun t104 => (spec_ReadVersion.j0 k bt102.1 (t104.toList != a0.toList))) else (spec_ReadVersion.j0 k bt102.1 true))
set_option maxHeartbeats 8000000 in
set_option maxRecDepth 100000 in
theorem spec_ReadVersion.calls (k : Nat) (a0 : ByteArray) (r1 : List (S66)) (r2 : Int) (r3 : Int) (r4 : Int) (r5 : Bool) (w : World) (h : spec_ReadVersion.f k a0 = some (r1, r2, r3, r4, r5)) :
  Calls Try.prog 47 #[.string a0] w fun e w' => ∃ v0_ : Value, e = .returned (.tuple #[.agg #[v0_, .int .i64 r2, .int .i64 r3, .int .i64 r4], .bool r5]) ∧ Kd.R k66 66 w' w.heap.size (fun _ => True) v0_ r1 ∧ Below w.heap.size w w' := by
 have hu32 := Try.underlying32
 have hu66 := Try.underlying66
 have HB := Qz.mk (Below.refl w.heap.size w)
 have H : ((spec_l10Take.f k a0 0).bind fun bt102 => (if bt102.2 = true then ((spec_l10Section.f k bt102.1).bind fun t104 => (spec_ReadVersion.j0 k bt102.1 (t104.toList != a0.toList))) else (spec_ReadVersion.j0 k bt102.1 true))) = some (r1, r2, r3, r4, r5) := h
 clear h
 replace H := Option.bind_eq_some_iff.mp H
 obtain ⟨⟨t102, t103⟩, A20, H⟩ := H
 replace H : (if t103 = true then ((spec_l10Section.f k t102).bind fun t104 => (spec_ReadVersion.j0 k t102 (t104.toList != a0.toList))) else (spec_ReadVersion.j0 k t102 true)) = some (r1, r2, r3, r4, r5) := H
 have A2 := Qz.mk A20
 clear A20
 have HC3 := Qz.mk H
 clear H
 go_enter Try.func47, Try.ntmps47
 go_upto_region 2 with (first | ((with_reducible refine gate_dst (N := 2) rfl ?_); refine qx ?hg (N := 2) ?hd (cs := #[.slice none 0 0, .int .i64 0, .int .i64 0, .int .i64 0]) (t := 32) ?hr ?_; (case hd => rfl); (case hg => rfl); (case hr => first | (go_simp; done) | (go_simp; rfl)); intro gb101 hg w4 hbox hb; have BK101 := Qz.mk (hbox); have GW101 := Qz.mk ((by rw [hg]; exact (qs (by repeat (first | (with_reducible first | exact HB.out | apply qf | apply qa | apply qd) | exact HB.out))) : w.heap.size ≤ gb101)); have GE101 := GW101; replace HB := Qz.mk (qp (by repeat (first | (with_reducible first | exact HB.out | apply qf | apply qa | apply qd) | exact HB.out)) hb); clear hb hbox hg) | ((with_reducible refine qm (f := 81) rfl ?_); refine qt (some 37) rfl rfl Try.func81 (by kernel_rfl) rfl #[.string a0, .int .i64 0] rfl (by (try simp only [List.map_toArray, List.map_cons, List.map_nil]); first | done | rfl) ?_; (with_reducible refine (spec_l10Take.calls k a0 0 t102 t103 _ A2.out).mono ?_); rintro e w' ⟨rfl, ⟨nd, rfl⟩⟩; refine ⟨_, rfl, ?_⟩))
 (try simp only [Act.put, sq1, sq2, sq3])
 go_cut [47] (fun v47 wc => ∃ (kq : Nat) (x47_2 : Bool), v47 = .bool x47_2 ∧ Qz (spec_ReadVersion.j0 kq t102 x47_2 = some (r1, r2, r3, r4, r5)) ∧ Qz (kq ≤ k) ∧ Qz (wc.heap[gb101]? = some (.cells #[(.slice none 0 0), .int .i64 0, .int .i64 0, .int .i64 0] 32 (0, 0))) ∧ Qz (Below w.heap.size w wc))
 case first =>
  have H := HC3.out
  clear HC3
  by_cases c5 : t103 = true
  ·subst c5
   have H1 : ((spec_l10Section.f k t102).bind fun t104 => (spec_ReadVersion.j0 k t102 (t104.toList != a0.toList))) = some (r1, r2, r3, r4, r5) := by rw [if_pos rfl] at H; exact H
   clear H
   have H := H1
   clear H1
   replace H := Option.bind_eq_some_iff.mp H
   obtain ⟨t104, A60, H⟩ := H
   replace H : (spec_ReadVersion.j0 k t102 (t104.toList != a0.toList)) = some (r1, r2, r3, r4, r5) := H
   have A6 := Qz.mk A60
   clear A60
   have H' := Qz.mk H
   clear H
   go_wp2_with (first | (go_at_call 78; (with_reducible refine (spec_l10Section.calls k t102 t104 _ A6.out).mono ?_); rintro e w7 ⟨rfl, hb⟩; replace BK101 := Qz.mk (qr (g := gb101) (o := .cells #[.slice none 0 0, .int .i64 0, .int .i64 0, .int .i64 0] 32 (0, 0)) (by (with_reducible repeat (first | refine qh ?_ _ | refine qj ?_ | refine qg ?_ _)); exact BK101.out) hb); replace HB := Qz.mk (qp (by repeat (first | (with_reducible first | exact HB.out | apply qf | apply qa | apply qd | refine qi ?_ GE101.out) | exact HB.out)) hb); (try clear hb); (try clear hk)))
   go_meet
   case rel => exact ⟨_, ((t104.toList != a0.toList)), (by first | rfl | (simp; done) | (simp [*]; done)), H', ⟨by first | omega | exact Nat.le_refl _⟩, ⟨by (with_reducible repeat (first | refine qh ?_ _ | refine qj ?_ | refine qg ?_ _)); exact BK101.out⟩, ⟨by repeat (first | (with_reducible first | exact HB.out | apply qf | apply qa | apply qd | refine qi ?_ GE101.out) | exact HB.out)⟩⟩
  ·replace c5 := Bool.eq_false_iff.mpr c5
   subst c5
   have H1 : (spec_ReadVersion.j0 k t102 true) = some (r1, r2, r3, r4, r5) := by rw [if_neg (show ¬ (false = true) by decide)] at H; exact H
   clear H
   have H := H1
   clear H1
   have H' := Qz.mk H
   clear H
   go_wp2
   go_meet
   case rel => exact ⟨_, (true), (by first | rfl | (simp; done) | (simp [*]; done)), H', ⟨by first | omega | exact Nat.le_refl _⟩, ⟨by (with_reducible repeat (first | refine qh ?_ _ | refine qj ?_ | refine qg ?_ _)); exact BK101.out⟩, ⟨by repeat (first | (with_reducible first | exact HB.out | apply qf | apply qa | apply qd | refine qi ?_ GE101.out) | exact HB.out)⟩⟩
 case rest =>
  clear HC3
  try clear p2
  try clear c4
  try clear c5
  obtain ⟨kq, x47_2, rfl, HA, HJ2, BK101, HB⟩ := hcut
  cases kq with
  | zero => exact absurd HA.out (by simp [spec_ReadVersion.j0])
  | succ kj2 =>
   have H := HA.out
   clear HA
   simp only [spec_ReadVersion.j0] at H
   by_cases c8 : x47_2 = true
   ·subst c8
    have H1 : (some (([] : List (S66)), 0, 0, 0, false)) = some (r1, r2, r3, r4, r5) := by rw [if_pos rfl] at H; exact H
    clear H
    have H := H1
    clear H1
    simp only [Option.some.injEq, Prod.mk.injEq] at H
    obtain ⟨rfl, rfl, rfl, rfl, rfl⟩ := H
    have hcz9_0 : wc.cell? ⟨gb101, 0, none⟩ = some (.slice none 0 0) := (qe BK101.out 0).trans rfl
    have hcz9_1 : wc.cell? ⟨gb101, 1, none⟩ = some (.int .i64 0) := (qe BK101.out 1).trans rfl
    have hcz9_2 : wc.cell? ⟨gb101, 2, none⟩ = some (.int .i64 0) := (qe BK101.out 2).trans rfl
    have hcz9_3 : wc.cell? ⟨gb101, 3, none⟩ = some (.int .i64 0) := (qe BK101.out 3).trans rfl
    have hfz9_0 := qc BK101.out 0
    have hfz9_1 := qc BK101.out 1
    have hfz9_2 := qc BK101.out 2
    have hfz9_3 := qc BK101.out 3
    go_wp2
    refine bodyPost_ret (results_ct rfl _ _ gb101 32 #[.slice none 0 0, .int .i64 0, .int .i64 0, .int .i64 0] (0, 0) _ rfl (by (with_reducible repeat (first | refine qh ?_ _ | refine qj ?_ | refine qg ?_ _)); refine qu (cs := #[.slice none 0 0, .int .i64 0, .int .i64 0, .int .i64 0]) ?_ 3 _ rfl; (with_reducible repeat (first | refine qh ?_ _ | refine qj ?_ | refine qg ?_ _)); refine qu (cs := #[.slice none 0 0, .int .i64 0, .int .i64 0, .int .i64 0]) ?_ 2 _ rfl; (with_reducible repeat (first | refine qh ?_ _ | refine qj ?_ | refine qg ?_ _)); refine qu (cs := #[.slice none 0 0, .int .i64 0, .int .i64 0, .int .i64 0]) ?_ 1 _ rfl; (with_reducible repeat (first | refine qh ?_ _ | refine qj ?_ | refine qg ?_ _)); refine qu (cs := #[.slice none 0 0, .int .i64 0, .int .i64 0, .int .i64 0]) ?_ 0 _ rfl; (with_reducible repeat (first | refine qh ?_ _ | refine qj ?_ | refine qg ?_ _)); exact BK101.out) Try.underlying32 rfl (by kernel_rfl)) rfl ?_
    exact ⟨_, by first | rfl | (simp [qo, qn] <;> rfl) | (simp [*, qo, qn] <;> rfl), by first | exact Kd.R_nil _ _ _ _ _ | exact Kd.N_nil _ _ _ _ _ | exact Kd.V_nil _ _ _ _ _ | exact Kd.Q_nil _ _ _ _ _ | exact Kd.S_nil _ _ _ _ _, by repeat (first | (with_reducible first | exact HB.out | apply qf | apply qa | apply qd | refine qi ?_ GE101.out) | exact HB.out)⟩
   ·replace c8 := Bool.eq_false_iff.mpr c8
    subst c8
    have H1 : ((spec_l12Int.f kj2 t102).bind fun bt105 => ((spec_l12Int.f kj2 bt105.2.1).bind fun bt108 => ((spec_l12Int.f kj2 bt108.2.1).bind fun bt111 => ((spec_l12Int.f kj2 bt111.2.1).bind fun bt114 => (if bt105.2.2 = true then (if bt108.2.2 = true then (if bt111.2.2 = true then (if bt114.2.2 = true then (spec_ReadVersion.j1 kj2 bt105.1 bt108.1 bt111.1 bt114.1 bt114.2.1 (decide (bt114.1 > 30))) else (spec_ReadVersion.j1 kj2 bt105.1 bt108.1 bt111.1 bt114.1 bt114.2.1 true)) else (spec_ReadVersion.j1 kj2 bt105.1 bt108.1 bt111.1 bt114.1 bt114.2.1 true)) else (spec_ReadVersion.j1 kj2 bt105.1 bt108.1 bt111.1 bt114.1 bt114.2.1 true)) else (spec_ReadVersion.j1 kj2 bt105.1 bt108.1 bt111.1 bt114.1 bt114.2.1 true)))))) = some (r1, r2, r3, r4, r5) := by rw [if_neg (show ¬ (false = true) by decide)] at H; exact H
    clear H
    have H := H1
    clear H1
    replace H := Option.bind_eq_some_iff.mp H
    obtain ⟨⟨t105, t106, t107⟩, A100, H⟩ := H
    replace H : ((spec_l12Int.f kj2 t106).bind fun bt108 => ((spec_l12Int.f kj2 bt108.2.1).bind fun bt111 => ((spec_l12Int.f kj2 bt111.2.1).bind fun bt114 => (if t107 = true then (if bt108.2.2 = true then (if bt111.2.2 = true then (if bt114.2.2 = true then (spec_ReadVersion.j1 kj2 t105 bt108.1 bt111.1 bt114.1 bt114.2.1 (decide (bt114.1 > 30))) else (spec_ReadVersion.j1 kj2 t105 bt108.1 bt111.1 bt114.1 bt114.2.1 true)) else (spec_ReadVersion.j1 kj2 t105 bt108.1 bt111.1 bt114.1 bt114.2.1 true)) else (spec_ReadVersion.j1 kj2 t105 bt108.1 bt111.1 bt114.1 bt114.2.1 true)) else (spec_ReadVersion.j1 kj2 t105 bt108.1 bt111.1 bt114.1 bt114.2.1 true))))) = some (r1, r2, r3, r4, r5) := H
    have A10 := Qz.mk A100
    clear A100
    replace H := Option.bind_eq_some_iff.mp H
    obtain ⟨⟨t108, t109, t110⟩, A110, H⟩ := H
    replace H : ((spec_l12Int.f kj2 t109).bind fun bt111 => ((spec_l12Int.f kj2 bt111.2.1).bind fun bt114 => (if t107 = true then (if t110 = true then (if bt111.2.2 = true then (if bt114.2.2 = true then (spec_ReadVersion.j1 kj2 t105 t108 bt111.1 bt114.1 bt114.2.1 (decide (bt114.1 > 30))) else (spec_ReadVersion.j1 kj2 t105 t108 bt111.1 bt114.1 bt114.2.1 true)) else (spec_ReadVersion.j1 kj2 t105 t108 bt111.1 bt114.1 bt114.2.1 true)) else (spec_ReadVersion.j1 kj2 t105 t108 bt111.1 bt114.1 bt114.2.1 true)) else (spec_ReadVersion.j1 kj2 t105 t108 bt111.1 bt114.1 bt114.2.1 true)))) = some (r1, r2, r3, r4, r5) := H
    have A11 := Qz.mk A110
    clear A110
    replace H := Option.bind_eq_some_iff.mp H
    obtain ⟨⟨t111, t112, t113⟩, A120, H⟩ := H
    replace H : ((spec_l12Int.f kj2 t112).bind fun bt114 => (if t107 = true then (if t110 = true then (if t113 = true then (if bt114.2.2 = true then (spec_ReadVersion.j1 kj2 t105 t108 t111 bt114.1 bt114.2.1 (decide (bt114.1 > 30))) else (spec_ReadVersion.j1 kj2 t105 t108 t111 bt114.1 bt114.2.1 true)) else (spec_ReadVersion.j1 kj2 t105 t108 t111 bt114.1 bt114.2.1 true)) else (spec_ReadVersion.j1 kj2 t105 t108 t111 bt114.1 bt114.2.1 true)) else (spec_ReadVersion.j1 kj2 t105 t108 t111 bt114.1 bt114.2.1 true))) = some (r1, r2, r3, r4, r5) := H
    have A12 := Qz.mk A120
    clear A120
    replace H := Option.bind_eq_some_iff.mp H
    obtain ⟨⟨t114, t115, t116⟩, A130, H⟩ := H
    replace H : (if t107 = true then (if t110 = true then (if t113 = true then (if t116 = true then (spec_ReadVersion.j1 kj2 t105 t108 t111 t114 t115 (decide (t114 > 30))) else (spec_ReadVersion.j1 kj2 t105 t108 t111 t114 t115 true)) else (spec_ReadVersion.j1 kj2 t105 t108 t111 t114 t115 true)) else (spec_ReadVersion.j1 kj2 t105 t108 t111 t114 t115 true)) else (spec_ReadVersion.j1 kj2 t105 t108 t111 t114 t115 true)) = some (r1, r2, r3, r4, r5) := H
    have A13 := Qz.mk A130
    clear A130
    have HC14 := Qz.mk H
    clear H
    go_upto_region 8 with (first | ((with_reducible refine qm (f := 82) rfl ?_); refine qt (some 51) rfl rfl Try.func82 (by kernel_rfl) rfl #[.string t102] rfl (by (try simp only [List.map_toArray, List.map_cons, List.map_nil]); first | done | rfl) ?_; (with_reducible refine (spec_l12Int.calls kj2 t102 t105 t106 t107 _ A10.out).mono ?_); rintro e w' ⟨rfl, ⟨nd, rfl⟩⟩; refine ⟨_, rfl, ?_⟩) | ((with_reducible refine qm (f := 82) rfl ?_); refine qt (some 57) rfl rfl Try.func82 (by kernel_rfl) rfl #[.string t106] rfl (by (try simp only [List.map_toArray, List.map_cons, List.map_nil]); first | done | rfl) ?_; (with_reducible refine (spec_l12Int.calls kj2 t106 t108 t109 t110 _ A11.out).mono ?_); rintro e w' ⟨rfl, ⟨nd, rfl⟩⟩; refine ⟨_, rfl, ?_⟩) | ((with_reducible refine qm (f := 82) rfl ?_); refine qt (some 63) rfl rfl Try.func82 (by kernel_rfl) rfl #[.string t109] rfl (by (try simp only [List.map_toArray, List.map_cons, List.map_nil]); first | done | rfl) ?_; (with_reducible refine (spec_l12Int.calls kj2 t109 t111 t112 t113 _ A12.out).mono ?_); rintro e w' ⟨rfl, ⟨nd, rfl⟩⟩; refine ⟨_, rfl, ?_⟩) | ((with_reducible refine qm (f := 82) rfl ?_); refine qt (some 69) rfl rfl Try.func82 (by kernel_rfl) rfl #[.string t112] rfl (by (try simp only [List.map_toArray, List.map_cons, List.map_nil]); first | done | rfl) ?_; (with_reducible refine (spec_l12Int.calls kj2 t112 t114 t115 t116 _ A13.out).mono ?_); rintro e w' ⟨rfl, ⟨nd, rfl⟩⟩; refine ⟨_, rfl, ?_⟩))
    (try simp only [Act.put, sq1, sq2, sq3])
    go_cut [90] (fun v90 wc => ∃ (kq : Nat) (x90_13 : Bool), v90 = .bool x90_13 ∧ Qz (spec_ReadVersion.j1 kq t105 t108 t111 t114 t115 x90_13 = some (r1, r2, r3, r4, r5)) ∧ Qz (kq ≤ kj2) ∧ Qz (wc.heap[gb101]? = some (.cells #[(.slice none 0 0), .int .i64 0, .int .i64 0, .int .i64 0] 32 (0, 0))) ∧ Qz (Below w.heap.size w wc))
    case first =>
     have H := HC14.out
     clear HC14
     by_cases c15 : t107 = true
     ·subst c15
      have H1 : (if t110 = true then (if t113 = true then (if t116 = true then (spec_ReadVersion.j1 kj2 t105 t108 t111 t114 t115 (decide (t114 > 30))) else (spec_ReadVersion.j1 kj2 t105 t108 t111 t114 t115 true)) else (spec_ReadVersion.j1 kj2 t105 t108 t111 t114 t115 true)) else (spec_ReadVersion.j1 kj2 t105 t108 t111 t114 t115 true)) = some (r1, r2, r3, r4, r5) := by rw [if_pos rfl] at H; exact H
      clear H
      have H := H1
      clear H1
      by_cases c16 : t110 = true
      ·subst c16
       have H1 : (if t113 = true then (if t116 = true then (spec_ReadVersion.j1 kj2 t105 t108 t111 t114 t115 (decide (t114 > 30))) else (spec_ReadVersion.j1 kj2 t105 t108 t111 t114 t115 true)) else (spec_ReadVersion.j1 kj2 t105 t108 t111 t114 t115 true)) = some (r1, r2, r3, r4, r5) := by rw [if_pos rfl] at H; exact H
       clear H
       have H := H1
       clear H1
       by_cases c17 : t113 = true
       ·subst c17
        have H1 : (if t116 = true then (spec_ReadVersion.j1 kj2 t105 t108 t111 t114 t115 (decide (t114 > 30))) else (spec_ReadVersion.j1 kj2 t105 t108 t111 t114 t115 true)) = some (r1, r2, r3, r4, r5) := by rw [if_pos rfl] at H; exact H
        clear H
        have H := H1
        clear H1
        by_cases c18 : t116 = true
        ·subst c18
         have H1 : (spec_ReadVersion.j1 kj2 t105 t108 t111 t114 t115 (decide (t114 > 30))) = some (r1, r2, r3, r4, r5) := by rw [if_pos rfl] at H; exact H
         clear H
         have H := H1
         clear H1
         have H' := Qz.mk H
         clear H
         go_wp2
         go_meet
         case rel => exact ⟨_, (decide (t114 > 30)), (by first | rfl | (simp; done) | (simp [*]; done)), H', ⟨by have := HJ2.out; first | omega | exact Nat.le_refl _⟩, ⟨by (with_reducible repeat (first | refine qh ?_ _ | refine qj ?_ | refine qg ?_ _)); exact BK101.out⟩, ⟨by repeat (first | (with_reducible first | exact HB.out | apply qf | apply qa | apply qd | refine qi ?_ GE101.out) | exact HB.out)⟩⟩
        ·replace c18 := Bool.eq_false_iff.mpr c18
         subst c18
         have H1 : (spec_ReadVersion.j1 kj2 t105 t108 t111 t114 t115 true) = some (r1, r2, r3, r4, r5) := by rw [if_neg (show ¬ (false = true) by decide)] at H; exact H
         clear H
         have H := H1
         clear H1
         have H' := Qz.mk H
         clear H
         go_wp2
         go_meet
         case rel => exact ⟨_, (true), (by first | rfl | (simp; done) | (simp [*]; done)), H', ⟨by have := HJ2.out; first | omega | exact Nat.le_refl _⟩, ⟨by (with_reducible repeat (first | refine qh ?_ _ | refine qj ?_ | refine qg ?_ _)); exact BK101.out⟩, ⟨by repeat (first | (with_reducible first | exact HB.out | apply qf | apply qa | apply qd | refine qi ?_ GE101.out) | exact HB.out)⟩⟩
       ·replace c17 := Bool.eq_false_iff.mpr c17
        subst c17
        have H1 : (spec_ReadVersion.j1 kj2 t105 t108 t111 t114 t115 true) = some (r1, r2, r3, r4, r5) := by rw [if_neg (show ¬ (false = true) by decide)] at H; exact H
        clear H
        have H := H1
        clear H1
        have H' := Qz.mk H
        clear H
        go_wp2
        go_meet
        case rel => exact ⟨_, (true), (by first | rfl | (simp; done) | (simp [*]; done)), H', ⟨by have := HJ2.out; first | omega | exact Nat.le_refl _⟩, ⟨by (with_reducible repeat (first | refine qh ?_ _ | refine qj ?_ | refine qg ?_ _)); exact BK101.out⟩, ⟨by repeat (first | (with_reducible first | exact HB.out | apply qf | apply qa | apply qd | refine qi ?_ GE101.out) | exact HB.out)⟩⟩
      ·replace c16 := Bool.eq_false_iff.mpr c16
       subst c16
       have H1 : (spec_ReadVersion.j1 kj2 t105 t108 t111 t114 t115 true) = some (r1, r2, r3, r4, r5) := by rw [if_neg (show ¬ (false = true) by decide)] at H; exact H
       clear H
       have H := H1
       clear H1
       have H' := Qz.mk H
       clear H
       go_wp2
       go_meet
       case rel => exact ⟨_, (true), (by first | rfl | (simp; done) | (simp [*]; done)), H', ⟨by have := HJ2.out; first | omega | exact Nat.le_refl _⟩, ⟨by (with_reducible repeat (first | refine qh ?_ _ | refine qj ?_ | refine qg ?_ _)); exact BK101.out⟩, ⟨by repeat (first | (with_reducible first | exact HB.out | apply qf | apply qa | apply qd | refine qi ?_ GE101.out) | exact HB.out)⟩⟩
     ·replace c15 := Bool.eq_false_iff.mpr c15
      subst c15
      have H1 : (spec_ReadVersion.j1 kj2 t105 t108 t111 t114 t115 true) = some (r1, r2, r3, r4, r5) := by rw [if_neg (show ¬ (false = true) by decide)] at H; exact H
      clear H
      have H := H1
      clear H1
      have H' := Qz.mk H
      clear H
      go_wp2
      go_meet
      case rel => exact ⟨_, (true), (by first | rfl | (simp; done) | (simp [*]; done)), H', ⟨by have := HJ2.out; first | omega | exact Nat.le_refl _⟩, ⟨by (with_reducible repeat (first | refine qh ?_ _ | refine qj ?_ | refine qg ?_ _)); exact BK101.out⟩, ⟨by repeat (first | (with_reducible first | exact HB.out | apply qf | apply qa | apply qd | refine qi ?_ GE101.out) | exact HB.out)⟩⟩
    case rest =>
     clear HC14
     try clear c1
     try clear p2
     try clear c4
     try clear c5
     try clear c8
     try clear c15
     try clear c16
     try clear c17
     try clear c18
     try clear hcz9_0
     try clear hcz9_1
     try clear hcz9_2
     try clear hcz9_3
     try clear hfz9_0
     try clear hfz9_1
     try clear hfz9_2
     try clear hfz9_3
     try clear p2
     obtain ⟨kq, x90_13, rfl, HA, HJ13, BK101, HB⟩ := hcut
     cases kq with
     | zero => exact absurd HA.out (by simp [spec_ReadVersion.j1])
     | succ kj13 =>
      have H := HA.out
      clear HA
      simp only [spec_ReadVersion.j1] at H
      by_cases c19 : x90_13 = true
      ·subst c19
       have H1 : (some (([] : List (S66)), 0, 0, 0, false)) = some (r1, r2, r3, r4, r5) := by rw [if_pos rfl] at H; exact H
       clear H
       have H := H1
       clear H1
       simp only [Option.some.injEq, Prod.mk.injEq] at H
       obtain ⟨rfl, rfl, rfl, rfl, rfl⟩ := H
       have hcz20_0 : wc.cell? ⟨gb101, 0, none⟩ = some (.slice none 0 0) := (qe BK101.out 0).trans rfl
       have hcz20_1 : wc.cell? ⟨gb101, 1, none⟩ = some (.int .i64 0) := (qe BK101.out 1).trans rfl
       have hcz20_2 : wc.cell? ⟨gb101, 2, none⟩ = some (.int .i64 0) := (qe BK101.out 2).trans rfl
       have hcz20_3 : wc.cell? ⟨gb101, 3, none⟩ = some (.int .i64 0) := (qe BK101.out 3).trans rfl
       have hfz20_0 := qc BK101.out 0
       have hfz20_1 := qc BK101.out 1
       have hfz20_2 := qc BK101.out 2
       have hfz20_3 := qc BK101.out 3
       go_wp2
       refine bodyPost_ret (results_ct rfl _ _ gb101 32 #[.slice none 0 0, .int .i64 0, .int .i64 0, .int .i64 0] (0, 0) _ rfl (by (with_reducible repeat (first | refine qh ?_ _ | refine qj ?_ | refine qg ?_ _)); refine qu (cs := #[.slice none 0 0, .int .i64 0, .int .i64 0, .int .i64 0]) ?_ 3 _ rfl; (with_reducible repeat (first | refine qh ?_ _ | refine qj ?_ | refine qg ?_ _)); refine qu (cs := #[.slice none 0 0, .int .i64 0, .int .i64 0, .int .i64 0]) ?_ 2 _ rfl; (with_reducible repeat (first | refine qh ?_ _ | refine qj ?_ | refine qg ?_ _)); refine qu (cs := #[.slice none 0 0, .int .i64 0, .int .i64 0, .int .i64 0]) ?_ 1 _ rfl; (with_reducible repeat (first | refine qh ?_ _ | refine qj ?_ | refine qg ?_ _)); refine qu (cs := #[.slice none 0 0, .int .i64 0, .int .i64 0, .int .i64 0]) ?_ 0 _ rfl; (with_reducible repeat (first | refine qh ?_ _ | refine qj ?_ | refine qg ?_ _)); exact BK101.out) Try.underlying32 rfl (by kernel_rfl)) rfl ?_
       exact ⟨_, by first | rfl | (simp [qo, qn] <;> rfl) | (simp [*, qo, qn] <;> rfl), by first | exact Kd.R_nil _ _ _ _ _ | exact Kd.N_nil _ _ _ _ _ | exact Kd.V_nil _ _ _ _ _ | exact Kd.Q_nil _ _ _ _ _ | exact Kd.S_nil _ _ _ _ _, by repeat (first | (with_reducible first | exact HB.out | apply qf | apply qa | apply qd | refine qi ?_ GE101.out) | exact HB.out)⟩
      ·replace c19 := Bool.eq_false_iff.mpr c19
       subst c19
       have H1 : (spec_ReadVersion.l0 kj13 t114 t115 0 ([] : List (S66)) t105 t108 t111) = some (r1, r2, r3, r4, r5) := by rw [if_neg (show ¬ (false = true) by decide)] at H; exact H
       clear H
       have H := H1
       clear H1
       have H' := Qz.mk H
       clear H
       go_wp2_with (first | ((with_reducible refine gate_dst (N := 18) rfl ?_); refine qx ?hg (N := 18) ?hd (cs := #[.slice none 0 0, .int .i64 0, .int .i64 0, .int .i64 0]) (t := 32) ?hr ?_; (case hd => rfl); (case hg => rfl); (case hr => first | (go_simp; done) | (go_simp; rfl)); intro gb117 hg w21 hbox hb; have BK117 := Qz.mk (hbox); have GW117 := Qz.mk ((by rw [hg]; exact (qs (by repeat (first | (with_reducible first | exact HB.out | apply qf | apply qa | apply qd | refine qi ?_ GE101.out) | exact HB.out))) : w.heap.size ≤ gb117)); have GE117 := GW117; replace HB := Qz.mk (qp (by repeat (first | (with_reducible first | exact HB.out | apply qf | apply qa | apply qd | refine qi ?_ GE101.out) | exact HB.out)) hb); have NB101_117 := Qz.mk ((by rw [hg]; exact Nat.ne_of_lt (blk_lt (g := gb101) (o := .cells #[.slice none 0 0, .int .i64 0, .int .i64 0, .int .i64 0] 32 (0, 0)) (by (with_reducible repeat (first | refine qh ?_ _ | refine qj ?_ | refine qg ?_ _)); exact BK101.out)) : gb101 ≠ gb117)); have NB117_101 := Qz.mk ((by rw [hg]; exact Nat.ne_of_gt (blk_lt (g := gb101) (o := .cells #[.slice none 0 0, .int .i64 0, .int .i64 0, .int .i64 0] 32 (0, 0)) (by (with_reducible repeat (first | refine qh ?_ _ | refine qj ?_ | refine qg ?_ _)); exact BK101.out)) : gb117 ≠ gb101)); replace BK101 := Qz.mk (qr (g := gb101) (o := .cells #[.slice none 0 0, .int .i64 0, .int .i64 0, .int .i64 0] 32 (0, 0)) (by (with_reducible repeat (first | refine qh ?_ _ | refine qj ?_ | refine qg ?_ _)); exact BK101.out) hb); clear hb hbox hg; have hnb22 := NB117_101.out; have hnc22 := NB101_117.out; have hcz23_0 : w21.cell? ⟨gb117, 0, none⟩ = some (.slice none 0 0) := (qe BK117.out 0).trans rfl; have hcz23_1 : w21.cell? ⟨gb117, 1, none⟩ = some (.int .i64 0) := (qe BK117.out 1).trans rfl; have hcz23_2 : w21.cell? ⟨gb117, 2, none⟩ = some (.int .i64 0) := (qe BK117.out 2).trans rfl; have hcz23_3 : w21.cell? ⟨gb117, 3, none⟩ = some (.int .i64 0) := (qe BK117.out 3).trans rfl; have hfz23_0 := qc BK117.out 0; have hfz23_1 := qc BK117.out 1; have hfz23_2 := qc BK117.out 2; have hfz23_3 := qc BK117.out 3))
       go_loopg [16, 19] kj13 (fun kq v16 v19 w' => ∃ (x16_3 : ByteArray) (x19_3 : Int) (x102001_3 : Int) (x102002_3 : Int) (x102003_3 : Int) (x118000_3 : List (S66)) (u118000 : Value), v16 = .string x16_3 ∧ v19 = .int .i64 x19_3 ∧ Qz (spec_ReadVersion.l0 kq t114 x16_3 x19_3 x118000_3 t105 t108 t111 = some (r1, r2, r3, r4, r5)) ∧ Qz (kq ≤ kj13) ∧ Qz (Kd.R k66 66 w' w.heap.size (fun _ => True) u118000 x118000_3) ∧ Qz (w'.heap[gb101]? = some (.cells #[(.slice none 0 0), .int .i64 x102001_3, .int .i64 x102002_3, .int .i64 x102003_3] 32 (0, 0))) ∧ Qz (w'.heap[gb117]? = some (.cells #[u118000, .int .i64 t105, .int .i64 t108, .int .i64 t111] 32 (0, 0))) ∧ Qz (Below w.heap.size w w'))
       case atStart => exact ⟨(t115), (0), (0), (0), (0), (([] : List (S66))), (.slice none 0 0), (by first | rfl | (simp; done) | (simp [*]; done)), (by first | rfl | (simp; done) | (simp [*]; done)), H', ⟨Nat.le_refl _⟩, ⟨by first | exact Kd.R_nil _ _ _ _ _ | exact Kd.N_nil _ _ _ _ _ | exact Kd.V_nil _ _ _ _ _ | exact Kd.Q_nil _ _ _ _ _ | exact Kd.S_nil _ _ _ _ _⟩, ⟨by (with_reducible repeat (first | refine qh ?_ _ | refine qj ?_ | refine qg ?_ _)); refine blk_far ?_ NB101_117.out _; (with_reducible repeat (first | refine qh ?_ _ | refine qj ?_ | refine qg ?_ _)); refine blk_far ?_ NB101_117.out _; (with_reducible repeat (first | refine qh ?_ _ | refine qj ?_ | refine qg ?_ _)); refine blk_far ?_ NB101_117.out _; (with_reducible repeat (first | refine qh ?_ _ | refine qj ?_ | refine qg ?_ _)); refine blk_far ?_ NB101_117.out _; (with_reducible repeat (first | refine qh ?_ _ | refine qj ?_ | refine qg ?_ _)); exact BK101.out⟩, ⟨by (with_reducible repeat (first | refine qh ?_ _ | refine qj ?_ | refine qg ?_ _)); refine qu (cs := #[.slice none 0 0, .int .i64 t105, .int .i64 t108, .int .i64 0]) ?_ 3 _ rfl; (with_reducible repeat (first | refine qh ?_ _ | refine qj ?_ | refine qg ?_ _)); refine qu (cs := #[.slice none 0 0, .int .i64 t105, .int .i64 0, .int .i64 0]) ?_ 2 _ rfl; (with_reducible repeat (first | refine qh ?_ _ | refine qj ?_ | refine qg ?_ _)); refine qu (cs := #[.slice none 0 0, .int .i64 0, .int .i64 0, .int .i64 0]) ?_ 1 _ rfl; (with_reducible repeat (first | refine qh ?_ _ | refine qj ?_ | refine qg ?_ _)); refine qu (cs := #[.slice none 0 0, .int .i64 0, .int .i64 0, .int .i64 0]) ?_ 0 _ rfl; (with_reducible repeat (first | refine qh ?_ _ | refine qj ?_ | refine qg ?_ _)); exact BK117.out⟩, ⟨by repeat (first | (with_reducible first | exact HB.out | apply qf | apply qa | apply qd | refine qi ?_ GE101.out | refine qi ?_ GE117.out) | exact HB.out)⟩⟩
       case round =>
        clear H'
        try clear c1
        try clear c2
        try clear p2
        try clear c4
        try clear c5
        try clear c8
        try clear c15
        try clear c16
        try clear c17
        try clear c18
        try clear c19
        try clear c22
        try clear hcz20_0
        try clear hcz20_1
        try clear hcz20_2
        try clear hcz20_3
        try clear hcz23_0
        try clear hcz23_1
        try clear hcz23_2
        try clear hcz23_3
        try clear hcz9_0
        try clear hcz9_1
        try clear hcz9_2
        try clear hcz9_3
        try clear hfz20_0
        try clear hfz20_1
        try clear hfz20_2
        try clear hfz20_3
        try clear hfz23_0
        try clear hfz23_1
        try clear hfz23_2
        try clear hfz23_3
        try clear hfz9_0
        try clear hfz9_1
        try clear hfz9_2
        try clear hfz9_3
        try clear p2
        obtain ⟨x16_3, x19_3, x102001_3, x102002_3, x102003_3, x118000_3, u118000, rfl, rfl, HA, HK3, HO_118000, BK101, BK117, HB⟩ := hrel
        cases gk with
        | zero => exact absurd HA.out (by simp [spec_ReadVersion.l0])
        | succ k3 =>
         have H := HA.out
         clear HA
         simp only [spec_ReadVersion.l0] at H
         by_cases c24 : x19_3 < t114
         ·rw [if_pos c24] at H
          have c24b0 : decide (x19_3 < t114) = true := decide_eq_true c24
          clear c24
          replace H := Option.bind_eq_some_iff.mp H
          obtain ⟨⟨t119, t120, t121⟩, A250, H⟩ := H
          replace H : ((spec_l12Int.f k3 t120).bind fun bt122 => ((spec_TakeText.f k3 bt122.2.1).bind fun bt125 => ((spec_TakeText.f k3 bt125.2.1).bind fun bt128 => ((spec_l12Int.f k3 bt128.2.1).bind fun bt131 => (if t121 = true then (if bt122.2.2 = true then (if bt125.2.2 = true then (if bt128.2.2 = true then (if bt131.2.2 = true then (if x118000_3.length < 2513169434916 then (spec_ReadVersion.l0 k3 t114 bt131.2.1 (wrap64 (x19_3 + 1)) (x118000_3 ++ [(⟨t119, bt122.1, bt125.1, bt128.1, bt131.1⟩ : S66)]) t105 t108 t111) else (none)) else (some (([] : List (S66)), 0, 0, 0, false))) else (some (([] : List (S66)), 0, 0, 0, false))) else (some (([] : List (S66)), 0, 0, 0, false))) else (some (([] : List (S66)), 0, 0, 0, false))) else (some (([] : List (S66)), 0, 0, 0, false))))))) = some (r1, r2, r3, r4, r5) := H
          have A25 := Qz.mk A250
          clear A250
          replace H := Option.bind_eq_some_iff.mp H
          obtain ⟨⟨t122, t123, t124⟩, A260, H⟩ := H
          replace H : ((spec_TakeText.f k3 t123).bind fun bt125 => ((spec_TakeText.f k3 bt125.2.1).bind fun bt128 => ((spec_l12Int.f k3 bt128.2.1).bind fun bt131 => (if t121 = true then (if t124 = true then (if bt125.2.2 = true then (if bt128.2.2 = true then (if bt131.2.2 = true then (if x118000_3.length < 2513169434916 then (spec_ReadVersion.l0 k3 t114 bt131.2.1 (wrap64 (x19_3 + 1)) (x118000_3 ++ [(⟨t119, t122, bt125.1, bt128.1, bt131.1⟩ : S66)]) t105 t108 t111) else (none)) else (some (([] : List (S66)), 0, 0, 0, false))) else (some (([] : List (S66)), 0, 0, 0, false))) else (some (([] : List (S66)), 0, 0, 0, false))) else (some (([] : List (S66)), 0, 0, 0, false))) else (some (([] : List (S66)), 0, 0, 0, false)))))) = some (r1, r2, r3, r4, r5) := H
          have A26 := Qz.mk A260
          clear A260
          replace H := Option.bind_eq_some_iff.mp H
          obtain ⟨⟨t125, t126, t127⟩, A270, H⟩ := H
          replace H : ((spec_TakeText.f k3 t126).bind fun bt128 => ((spec_l12Int.f k3 bt128.2.1).bind fun bt131 => (if t121 = true then (if t124 = true then (if t127 = true then (if bt128.2.2 = true then (if bt131.2.2 = true then (if x118000_3.length < 2513169434916 then (spec_ReadVersion.l0 k3 t114 bt131.2.1 (wrap64 (x19_3 + 1)) (x118000_3 ++ [(⟨t119, t122, t125, bt128.1, bt131.1⟩ : S66)]) t105 t108 t111) else (none)) else (some (([] : List (S66)), 0, 0, 0, false))) else (some (([] : List (S66)), 0, 0, 0, false))) else (some (([] : List (S66)), 0, 0, 0, false))) else (some (([] : List (S66)), 0, 0, 0, false))) else (some (([] : List (S66)), 0, 0, 0, false))))) = some (r1, r2, r3, r4, r5) := H
          have A27 := Qz.mk A270
          clear A270
          replace H := Option.bind_eq_some_iff.mp H
          obtain ⟨⟨t128, t129, t130⟩, A280, H⟩ := H
          replace H : ((spec_l12Int.f k3 t129).bind fun bt131 => (if t121 = true then (if t124 = true then (if t127 = true then (if t130 = true then (if bt131.2.2 = true then (if x118000_3.length < 2513169434916 then (spec_ReadVersion.l0 k3 t114 bt131.2.1 (wrap64 (x19_3 + 1)) (x118000_3 ++ [(⟨t119, t122, t125, t128, bt131.1⟩ : S66)]) t105 t108 t111) else (none)) else (some (([] : List (S66)), 0, 0, 0, false))) else (some (([] : List (S66)), 0, 0, 0, false))) else (some (([] : List (S66)), 0, 0, 0, false))) else (some (([] : List (S66)), 0, 0, 0, false))) else (some (([] : List (S66)), 0, 0, 0, false)))) = some (r1, r2, r3, r4, r5) := H
          have A28 := Qz.mk A280
          clear A280
          replace H := Option.bind_eq_some_iff.mp H
          obtain ⟨⟨t131, t132, t133⟩, A290, H⟩ := H
          replace H : (if t121 = true then (if t124 = true then (if t127 = true then (if t130 = true then (if t133 = true then (if x118000_3.length < 2513169434916 then (spec_ReadVersion.l0 k3 t114 t132 (wrap64 (x19_3 + 1)) (x118000_3 ++ [(⟨t119, t122, t125, t128, t131⟩ : S66)]) t105 t108 t111) else (none)) else (some (([] : List (S66)), 0, 0, 0, false))) else (some (([] : List (S66)), 0, 0, 0, false))) else (some (([] : List (S66)), 0, 0, 0, false))) else (some (([] : List (S66)), 0, 0, 0, false))) else (some (([] : List (S66)), 0, 0, 0, false))) = some (r1, r2, r3, r4, r5) := H
          have A29 := Qz.mk A290
          clear A290
          by_cases c30 : t121 = true
          ·subst c30
           have H1 : (if t124 = true then (if t127 = true then (if t130 = true then (if t133 = true then (if x118000_3.length < 2513169434916 then (spec_ReadVersion.l0 k3 t114 t132 (wrap64 (x19_3 + 1)) (x118000_3 ++ [(⟨t119, t122, t125, t128, t131⟩ : S66)]) t105 t108 t111) else (none)) else (some (([] : List (S66)), 0, 0, 0, false))) else (some (([] : List (S66)), 0, 0, 0, false))) else (some (([] : List (S66)), 0, 0, 0, false))) else (some (([] : List (S66)), 0, 0, 0, false))) = some (r1, r2, r3, r4, r5) := by rw [if_pos rfl] at H; exact H
           clear H
           have H := H1
           clear H1
           by_cases c31 : t124 = true
           ·subst c31
            have H1 : (if t127 = true then (if t130 = true then (if t133 = true then (if x118000_3.length < 2513169434916 then (spec_ReadVersion.l0 k3 t114 t132 (wrap64 (x19_3 + 1)) (x118000_3 ++ [(⟨t119, t122, t125, t128, t131⟩ : S66)]) t105 t108 t111) else (none)) else (some (([] : List (S66)), 0, 0, 0, false))) else (some (([] : List (S66)), 0, 0, 0, false))) else (some (([] : List (S66)), 0, 0, 0, false))) = some (r1, r2, r3, r4, r5) := by rw [if_pos rfl] at H; exact H
            clear H
            have H := H1
            clear H1
            by_cases c32 : t127 = true
            ·subst c32
             have H1 : (if t130 = true then (if t133 = true then (if x118000_3.length < 2513169434916 then (spec_ReadVersion.l0 k3 t114 t132 (wrap64 (x19_3 + 1)) (x118000_3 ++ [(⟨t119, t122, t125, t128, t131⟩ : S66)]) t105 t108 t111) else (none)) else (some (([] : List (S66)), 0, 0, 0, false))) else (some (([] : List (S66)), 0, 0, 0, false))) = some (r1, r2, r3, r4, r5) := by rw [if_pos rfl] at H; exact H
             clear H
             have H := H1
             clear H1
             by_cases c33 : t130 = true
             ·subst c33
              have H1 : (if t133 = true then (if x118000_3.length < 2513169434916 then (spec_ReadVersion.l0 k3 t114 t132 (wrap64 (x19_3 + 1)) (x118000_3 ++ [(⟨t119, t122, t125, t128, t131⟩ : S66)]) t105 t108 t111) else (none)) else (some (([] : List (S66)), 0, 0, 0, false))) = some (r1, r2, r3, r4, r5) := by rw [if_pos rfl] at H; exact H
              clear H
              have H := H1
              clear H1
              by_cases c34 : t133 = true
              ·subst c34
               have H1 : (if x118000_3.length < 2513169434916 then (spec_ReadVersion.l0 k3 t114 t132 (wrap64 (x19_3 + 1)) (x118000_3 ++ [(⟨t119, t122, t125, t128, t131⟩ : S66)]) t105 t108 t111) else (none)) = some (r1, r2, r3, r4, r5) := by rw [if_pos rfl] at H; exact H
               clear H
               have H := H1
               clear H1
               by_cases c35 : x118000_3.length < 2513169434916
               ·rw [if_pos c35] at H
                have LMc35 := Qz.mk c35
                clear c35
                obtain ⟨y134, hy134⟩ : ∃ y_ : List (S66), y_ = (x118000_3 ++ [(⟨t119, t122, t125, t128, t131⟩ : S66)]) := ⟨_, rfl⟩
                replace H : (spec_ReadVersion.l0 k3 t114 t132 (wrap64 (x19_3 + 1)) y134 t105 t108 t111) = some (r1, r2, r3, r4, r5) := by first | (rw [hy134]; with_reducible exact H) | (have H2_ := (Option.bind_some _ _).symm.trans H; rw [hy134]; with_reducible exact H2_) | (have H2_ := (Option.bind_some _ _).symm.trans H; with_reducible exact H2_) | with_reducible exact H | (rw [hy134]; exact H) | exact H
                have Ny134 := Qz.mk hy134
                clear hy134
                have H' := Qz.mk H
                clear H
                go_wp2_with (first | ((with_reducible refine qm (f := 82) rfl ?_); refine qt (some 103) rfl rfl Try.func82 (by kernel_rfl) rfl #[.string x16_3] rfl (by (try simp only [List.map_toArray, List.map_cons, List.map_nil]); first | done | rfl) ?_; (with_reducible refine (spec_l12Int.calls k3 x16_3 t119 t120 true _ A25.out).mono ?_); rintro e w' ⟨rfl, ⟨nd, rfl⟩⟩; refine ⟨_, rfl, ?_⟩; (try (rw [drewN_self wr]; generalize hq_ : World.drewN wr _ = wr; have n0_ : Qz (Kd.R k66 66 wr w.heap.size (fun _ => True) u118000 x118000_3) := ⟨by rw [← hq_]; exact (by (with_reducible repeat (first | apply Kd.R_alloc | apply Kd.R_drewN | apply Kd.R_drew)); exact HO_118000.out)⟩; have n1_ : Qz (wr.heap[gb101]? = some (.cells #[.slice none 0 0, .int .i64 x102001_3, .int .i64 x102002_3, .int .i64 x102003_3] 32 (0, 0))) := ⟨by rw [← hq_]; exact (by (with_reducible repeat (first | refine qh ?_ _ | refine qj ?_ | refine qg ?_ _)); exact BK101.out)⟩; have n2_ : Qz (wr.heap[gb117]? = some (.cells #[u118000, .int .i64 t105, .int .i64 t108, .int .i64 t111] 32 (0, 0))) := ⟨by rw [← hq_]; exact (by (with_reducible repeat (first | refine qh ?_ _ | refine qj ?_ | refine qg ?_ _)); exact BK117.out)⟩; have n3_ : Qz (Below w.heap.size w wr) := ⟨by rw [← hq_]; exact (by repeat (first | (with_reducible first | exact HB.out | apply qf | apply qa | apply qd | refine qi ?_ GE101.out | refine qi ?_ GE117.out) | exact HB.out))⟩; clear HO_118000 BK101 BK117 HB hq_; have HO_118000 := n0_; have BK101 := n1_; have BK117 := n2_; have HB := n3_; clear n0_ n1_ n2_ n3_))) | ((with_reducible refine qm (f := 82) rfl ?_); refine qt (some 109) rfl rfl Try.func82 (by kernel_rfl) rfl #[.string t120] rfl (by (try simp only [List.map_toArray, List.map_cons, List.map_nil]); first | done | rfl) ?_; (with_reducible refine (spec_l12Int.calls k3 t120 t122 t123 true _ A26.out).mono ?_); rintro e w' ⟨rfl, ⟨nd, rfl⟩⟩; refine ⟨_, rfl, ?_⟩; (try (rw [drewN_self wr]; generalize hq_ : World.drewN wr _ = wr; have n0_ : Qz (Kd.R k66 66 wr w.heap.size (fun _ => True) u118000 x118000_3) := ⟨by rw [← hq_]; exact (by (with_reducible repeat (first | apply Kd.R_alloc | apply Kd.R_drewN | apply Kd.R_drew)); exact HO_118000.out)⟩; have n1_ : Qz (wr.heap[gb101]? = some (.cells #[.slice none 0 0, .int .i64 x102001_3, .int .i64 x102002_3, .int .i64 x102003_3] 32 (0, 0))) := ⟨by rw [← hq_]; exact (by (with_reducible repeat (first | refine qh ?_ _ | refine qj ?_ | refine qg ?_ _)); exact BK101.out)⟩; have n2_ : Qz (wr.heap[gb117]? = some (.cells #[u118000, .int .i64 t105, .int .i64 t108, .int .i64 t111] 32 (0, 0))) := ⟨by rw [← hq_]; exact (by (with_reducible repeat (first | refine qh ?_ _ | refine qj ?_ | refine qg ?_ _)); exact BK117.out)⟩; have n3_ : Qz (Below w.heap.size w wr) := ⟨by rw [← hq_]; exact (by repeat (first | (with_reducible first | exact HB.out | apply qf | apply qa | apply qd | refine qi ?_ GE101.out | refine qi ?_ GE117.out) | exact HB.out))⟩; clear HO_118000 BK101 BK117 HB hq_; have HO_118000 := n0_; have BK101 := n1_; have BK117 := n2_; have HB := n3_; clear n0_ n1_ n2_ n3_))) | ((with_reducible refine qm (f := 83) rfl ?_); refine qt (some 115) rfl rfl Try.func83 (by kernel_rfl) rfl #[.string t123] rfl (by (try simp only [List.map_toArray, List.map_cons, List.map_nil]); first | done | rfl) ?_; (with_reducible refine (spec_TakeText.calls k3 t123 t125 t126 true _ A27.out).mono ?_); rintro e w' ⟨rfl, ⟨nd, rfl⟩⟩; refine ⟨_, rfl, ?_⟩; (try (rw [drewN_self wr]; generalize hq_ : World.drewN wr _ = wr; have n0_ : Qz (Kd.R k66 66 wr w.heap.size (fun _ => True) u118000 x118000_3) := ⟨by rw [← hq_]; exact (by (with_reducible repeat (first | apply Kd.R_alloc | apply Kd.R_drewN | apply Kd.R_drew)); exact HO_118000.out)⟩; have n1_ : Qz (wr.heap[gb101]? = some (.cells #[.slice none 0 0, .int .i64 x102001_3, .int .i64 x102002_3, .int .i64 x102003_3] 32 (0, 0))) := ⟨by rw [← hq_]; exact (by (with_reducible repeat (first | refine qh ?_ _ | refine qj ?_ | refine qg ?_ _)); exact BK101.out)⟩; have n2_ : Qz (wr.heap[gb117]? = some (.cells #[u118000, .int .i64 t105, .int .i64 t108, .int .i64 t111] 32 (0, 0))) := ⟨by rw [← hq_]; exact (by (with_reducible repeat (first | refine qh ?_ _ | refine qj ?_ | refine qg ?_ _)); exact BK117.out)⟩; have n3_ : Qz (Below w.heap.size w wr) := ⟨by rw [← hq_]; exact (by repeat (first | (with_reducible first | exact HB.out | apply qf | apply qa | apply qd | refine qi ?_ GE101.out | refine qi ?_ GE117.out) | exact HB.out))⟩; clear HO_118000 BK101 BK117 HB hq_; have HO_118000 := n0_; have BK101 := n1_; have BK117 := n2_; have HB := n3_; clear n0_ n1_ n2_ n3_))) | ((with_reducible refine qm (f := 83) rfl ?_); refine qt (some 121) rfl rfl Try.func83 (by kernel_rfl) rfl #[.string t126] rfl (by (try simp only [List.map_toArray, List.map_cons, List.map_nil]); first | done | rfl) ?_; (with_reducible refine (spec_TakeText.calls k3 t126 t128 t129 true _ A28.out).mono ?_); rintro e w' ⟨rfl, ⟨nd, rfl⟩⟩; refine ⟨_, rfl, ?_⟩; (try (rw [drewN_self wr]; generalize hq_ : World.drewN wr _ = wr; have n0_ : Qz (Kd.R k66 66 wr w.heap.size (fun _ => True) u118000 x118000_3) := ⟨by rw [← hq_]; exact (by (with_reducible repeat (first | apply Kd.R_alloc | apply Kd.R_drewN | apply Kd.R_drew)); exact HO_118000.out)⟩; have n1_ : Qz (wr.heap[gb101]? = some (.cells #[.slice none 0 0, .int .i64 x102001_3, .int .i64 x102002_3, .int .i64 x102003_3] 32 (0, 0))) := ⟨by rw [← hq_]; exact (by (with_reducible repeat (first | refine qh ?_ _ | refine qj ?_ | refine qg ?_ _)); exact BK101.out)⟩; have n2_ : Qz (wr.heap[gb117]? = some (.cells #[u118000, .int .i64 t105, .int .i64 t108, .int .i64 t111] 32 (0, 0))) := ⟨by rw [← hq_]; exact (by (with_reducible repeat (first | refine qh ?_ _ | refine qj ?_ | refine qg ?_ _)); exact BK117.out)⟩; have n3_ : Qz (Below w.heap.size w wr) := ⟨by rw [← hq_]; exact (by repeat (first | (with_reducible first | exact HB.out | apply qf | apply qa | apply qd | refine qi ?_ GE101.out | refine qi ?_ GE117.out) | exact HB.out))⟩; clear HO_118000 BK101 BK117 HB hq_; have HO_118000 := n0_; have BK101 := n1_; have BK117 := n2_; have HB := n3_; clear n0_ n1_ n2_ n3_))) | ((with_reducible refine qm (f := 82) rfl ?_); refine qt (some 127) rfl rfl Try.func82 (by kernel_rfl) rfl #[.string t129] rfl (by (try simp only [List.map_toArray, List.map_cons, List.map_nil]); first | done | rfl) ?_; (with_reducible refine (spec_l12Int.calls k3 t129 t131 t132 true _ A29.out).mono ?_); rintro e w' ⟨rfl, ⟨nd, rfl⟩⟩; refine ⟨_, rfl, ?_⟩; (try (rw [drewN_self wr]; generalize hq_ : World.drewN wr _ = wr; have n0_ : Qz (Kd.R k66 66 wr w.heap.size (fun _ => True) u118000 x118000_3) := ⟨by rw [← hq_]; exact (by (with_reducible repeat (first | apply Kd.R_alloc | apply Kd.R_drewN | apply Kd.R_drew)); exact HO_118000.out)⟩; have n1_ : Qz (wr.heap[gb101]? = some (.cells #[.slice none 0 0, .int .i64 x102001_3, .int .i64 x102002_3, .int .i64 x102003_3] 32 (0, 0))) := ⟨by rw [← hq_]; exact (by (with_reducible repeat (first | refine qh ?_ _ | refine qj ?_ | refine qg ?_ _)); exact BK101.out)⟩; have n2_ : Qz (wr.heap[gb117]? = some (.cells #[u118000, .int .i64 t105, .int .i64 t108, .int .i64 t111] 32 (0, 0))) := ⟨by rw [← hq_]; exact (by (with_reducible repeat (first | refine qh ?_ _ | refine qj ?_ | refine qg ?_ _)); exact BK117.out)⟩; have n3_ : Qz (Below w.heap.size w wr) := ⟨by rw [← hq_]; exact (by repeat (first | (with_reducible first | exact HB.out | apply qf | apply qa | apply qd | refine qi ?_ GE101.out | refine qi ?_ GE117.out) | exact HB.out))⟩; clear HO_118000 BK101 BK117 HB hq_; have HO_118000 := n0_; have BK101 := n1_; have BK117 := n2_; have HB := n3_; clear n0_ n1_ n2_ n3_)); have hnb36 := NB117_101.out; have hnc36 := NB101_117.out; have hcz37_0 : wr.cell? ⟨gb117, 0, none⟩ = some (u118000) := (qe BK117.out 0).trans rfl; have hcz37_1 : wr.cell? ⟨gb117, 1, none⟩ = some (.int .i64 t105) := (qe BK117.out 1).trans rfl; have hcz37_2 : wr.cell? ⟨gb117, 2, none⟩ = some (.int .i64 t108) := (qe BK117.out 2).trans rfl; have hcz37_3 : wr.cell? ⟨gb117, 3, none⟩ = some (.int .i64 t111) := (qe BK117.out 3).trans rfl; have hfz37_0 := qc BK117.out 0; have hfz37_1 := qc BK117.out 1; have hfz37_2 := qc BK117.out 2; have hfz37_3 := qc BK117.out 3) | ((with_reducible refine gate_builtin (b := .append) (xs := #[.tmp 151, .tmp 158]) rfl ?_); at_builtin; refine Kd.R_append k66 (w0 := w) w.heap.size rfl (.tmp 151) (.tmp 158) 30 66 (.agg #[(.int .i64 0), (.int .i64 0), (.string ⟨#[]⟩), (.string ⟨#[]⟩), (.int .i64 0)]) 56 rfl Try.underlying30 info66 rfl (by decide) (by omega) u118000 x118000_3 (⟨t119, t122, t125, t128, t131⟩ : S66) [.int .i64 t119, .int .i64 t122, .string t125, .string t128, .int .i64 t131] (fun _ => True) (fun _ => False) rfl rfl ?aP (fun _ hk => hk.elim) ?aF ?aO ?aB ?aS ?aL ?_; (case aP => exact k66_mkM _ _ _ (⟨t119, t122, t125, t128, t131⟩ : S66)); (case aB => exact (by repeat (first | (with_reducible first | exact HB.out | apply qf | apply qa | apply qd | refine qi ?_ GE101.out | refine qi ?_ GE117.out) | exact HB.out))); (case aF => exact (fun _ _ => trivial)); (case aO => exact (by (with_reducible repeat (first | apply Kd.R_alloc | apply Kd.R_drewN | apply Kd.R_drew)); exact HO_118000.out)); (case aS => exact (qs (by repeat (first | (with_reducible first | exact HB.out | apply qf | apply qa | apply qd | refine qi ?_ GE101.out | refine qi ?_ GE117.out) | exact HB.out)))); (case aL => have := LMc35.out; omega); intro v135 w38 ho hb hg hat; rw [← Ny134.out] at ho; have n0_ := Qz.mk (blk_grown (g := gb101) (o := .cells #[.slice none 0 0, .int .i64 x102001_3, .int .i64 x102002_3, .int .i64 x102003_3] 32 (0, 0)) (by (with_reducible repeat (first | refine qh ?_ _ | refine qj ?_ | refine qg ?_ _)); exact BK101.out) hg (Kd.R_ne HO_118000.out BK101.out (by decide))); have n1_ := Qz.mk (blk_grown (g := gb117) (o := .cells #[u118000, .int .i64 t105, .int .i64 t108, .int .i64 t111] 32 (0, 0)) (by (with_reducible repeat (first | refine qh ?_ _ | refine qj ?_ | refine qg ?_ _)); exact BK117.out) hg (Kd.R_ne HO_118000.out BK117.out (by decide))); have n2_ := Qz.mk (hb); have n3_ := Qz.mk (ho); clear BK101; clear BK117; clear HB; clear HO_118000; have BK101 := n0_; have BK117 := n1_; have HB := n2_; have HO136 := n3_; clear n0_ n1_ n2_ n3_; clear ho hb hg hat; obtain ⟨Ao39, co39, eo39⟩ := Kd.R_slice HO136.out; subst eo39; have hcz40_0 : w38.cell? ⟨gb117, 0, none⟩ = some (u118000) := (qe BK117.out 0).trans rfl; have hcz40_1 : w38.cell? ⟨gb117, 1, none⟩ = some (.int .i64 t105) := (qe BK117.out 1).trans rfl; have hcz40_2 : w38.cell? ⟨gb117, 2, none⟩ = some (.int .i64 t108) := (qe BK117.out 2).trans rfl; have hcz40_3 : w38.cell? ⟨gb117, 3, none⟩ = some (.int .i64 t111) := (qe BK117.out 3).trans rfl; have hfz40_0 := qc BK117.out 0; have hfz40_1 := qc BK117.out 1; have hfz40_2 := qc BK117.out 2; have hfz40_3 := qc BK117.out 3))
                go_roundg k3
                case measure => have := HJ2.out; have := HJ13.out; have := HK3.out; omega
                case rel => exact ⟨(t132), (wrap64 (x19_3 + 1)), (x102001_3), (x102002_3), (x102003_3), (y134), (.slice Ao39 y134.length co39), (by first | rfl | (simp; done) | (simp [*]; done)), (by first | rfl | (simp; done) | (simp [*]; done)), H', ⟨by have := HJ2.out; have := HJ13.out; have := HK3.out; omega⟩, ⟨by (with_reducible repeat (first | apply Kd.R_alloc | apply Kd.R_drewN | apply Kd.R_drew)); exact Kd.R_mono (Kd.R_far (p := ⟨gb117, 0, none⟩) (Kd.R_types HO136.out BK117.out (by decide)) (fun _ hk => hk.2) (.slice Ao39 y134.length co39)) (fun _ hk => trivial)⟩, ⟨by (with_reducible repeat (first | refine qh ?_ _ | refine qj ?_ | refine qg ?_ _)); refine blk_far ?_ NB101_117.out _; (with_reducible repeat (first | refine qh ?_ _ | refine qj ?_ | refine qg ?_ _)); exact BK101.out⟩, ⟨by (with_reducible repeat (first | refine qh ?_ _ | refine qj ?_ | refine qg ?_ _)); refine qu (cs := #[u118000, .int .i64 t105, .int .i64 t108, .int .i64 t111]) ?_ 0 _ rfl; (with_reducible repeat (first | refine qh ?_ _ | refine qj ?_ | refine qg ?_ _)); exact BK117.out⟩, ⟨by repeat (first | (with_reducible first | exact HB.out | apply qf | apply qa | apply qd | refine qi ?_ GE101.out | refine qi ?_ GE117.out) | exact HB.out)⟩⟩
               ·rw [if_neg c35] at H
                exact absurd H (by simp)
              ·replace c34 := Bool.eq_false_iff.mpr c34
               subst c34
               have H1 : (some (([] : List (S66)), 0, 0, 0, false)) = some (r1, r2, r3, r4, r5) := by rw [if_neg (show ¬ (false = true) by decide)] at H; exact H
               clear H
               have H := H1
               clear H1
               simp only [Option.some.injEq, Prod.mk.injEq] at H
               obtain ⟨rfl, rfl, rfl, rfl, rfl⟩ := H
               go_wp2_with (first | ((with_reducible refine qm (f := 82) rfl ?_); refine qt (some 103) rfl rfl Try.func82 (by kernel_rfl) rfl #[.string x16_3] rfl (by (try simp only [List.map_toArray, List.map_cons, List.map_nil]); first | done | rfl) ?_; (with_reducible refine (spec_l12Int.calls k3 x16_3 t119 t120 true _ A25.out).mono ?_); rintro e w' ⟨rfl, ⟨nd, rfl⟩⟩; refine ⟨_, rfl, ?_⟩; (try (rw [drewN_self wr]; generalize hq_ : World.drewN wr _ = wr; have n0_ : Qz (Kd.R k66 66 wr w.heap.size (fun _ => True) u118000 x118000_3) := ⟨by rw [← hq_]; exact (by (with_reducible repeat (first | apply Kd.R_alloc | apply Kd.R_drewN | apply Kd.R_drew)); exact HO_118000.out)⟩; have n1_ : Qz (wr.heap[gb101]? = some (.cells #[.slice none 0 0, .int .i64 x102001_3, .int .i64 x102002_3, .int .i64 x102003_3] 32 (0, 0))) := ⟨by rw [← hq_]; exact (by (with_reducible repeat (first | refine qh ?_ _ | refine qj ?_ | refine qg ?_ _)); exact BK101.out)⟩; have n2_ : Qz (wr.heap[gb117]? = some (.cells #[u118000, .int .i64 t105, .int .i64 t108, .int .i64 t111] 32 (0, 0))) := ⟨by rw [← hq_]; exact (by (with_reducible repeat (first | refine qh ?_ _ | refine qj ?_ | refine qg ?_ _)); exact BK117.out)⟩; have n3_ : Qz (Below w.heap.size w wr) := ⟨by rw [← hq_]; exact (by repeat (first | (with_reducible first | exact HB.out | apply qf | apply qa | apply qd | refine qi ?_ GE101.out | refine qi ?_ GE117.out) | exact HB.out))⟩; clear HO_118000 BK101 BK117 HB hq_; have HO_118000 := n0_; have BK101 := n1_; have BK117 := n2_; have HB := n3_; clear n0_ n1_ n2_ n3_))) | ((with_reducible refine qm (f := 82) rfl ?_); refine qt (some 109) rfl rfl Try.func82 (by kernel_rfl) rfl #[.string t120] rfl (by (try simp only [List.map_toArray, List.map_cons, List.map_nil]); first | done | rfl) ?_; (with_reducible refine (spec_l12Int.calls k3 t120 t122 t123 true _ A26.out).mono ?_); rintro e w' ⟨rfl, ⟨nd, rfl⟩⟩; refine ⟨_, rfl, ?_⟩; (try (rw [drewN_self wr]; generalize hq_ : World.drewN wr _ = wr; have n0_ : Qz (Kd.R k66 66 wr w.heap.size (fun _ => True) u118000 x118000_3) := ⟨by rw [← hq_]; exact (by (with_reducible repeat (first | apply Kd.R_alloc | apply Kd.R_drewN | apply Kd.R_drew)); exact HO_118000.out)⟩; have n1_ : Qz (wr.heap[gb101]? = some (.cells #[.slice none 0 0, .int .i64 x102001_3, .int .i64 x102002_3, .int .i64 x102003_3] 32 (0, 0))) := ⟨by rw [← hq_]; exact (by (with_reducible repeat (first | refine qh ?_ _ | refine qj ?_ | refine qg ?_ _)); exact BK101.out)⟩; have n2_ : Qz (wr.heap[gb117]? = some (.cells #[u118000, .int .i64 t105, .int .i64 t108, .int .i64 t111] 32 (0, 0))) := ⟨by rw [← hq_]; exact (by (with_reducible repeat (first | refine qh ?_ _ | refine qj ?_ | refine qg ?_ _)); exact BK117.out)⟩; have n3_ : Qz (Below w.heap.size w wr) := ⟨by rw [← hq_]; exact (by repeat (first | (with_reducible first | exact HB.out | apply qf | apply qa | apply qd | refine qi ?_ GE101.out | refine qi ?_ GE117.out) | exact HB.out))⟩; clear HO_118000 BK101 BK117 HB hq_; have HO_118000 := n0_; have BK101 := n1_; have BK117 := n2_; have HB := n3_; clear n0_ n1_ n2_ n3_))) | ((with_reducible refine qm (f := 83) rfl ?_); refine qt (some 115) rfl rfl Try.func83 (by kernel_rfl) rfl #[.string t123] rfl (by (try simp only [List.map_toArray, List.map_cons, List.map_nil]); first | done | rfl) ?_; (with_reducible refine (spec_TakeText.calls k3 t123 t125 t126 true _ A27.out).mono ?_); rintro e w' ⟨rfl, ⟨nd, rfl⟩⟩; refine ⟨_, rfl, ?_⟩; (try (rw [drewN_self wr]; generalize hq_ : World.drewN wr _ = wr; have n0_ : Qz (Kd.R k66 66 wr w.heap.size (fun _ => True) u118000 x118000_3) := ⟨by rw [← hq_]; exact (by (with_reducible repeat (first | apply Kd.R_alloc | apply Kd.R_drewN | apply Kd.R_drew)); exact HO_118000.out)⟩; have n1_ : Qz (wr.heap[gb101]? = some (.cells #[.slice none 0 0, .int .i64 x102001_3, .int .i64 x102002_3, .int .i64 x102003_3] 32 (0, 0))) := ⟨by rw [← hq_]; exact (by (with_reducible repeat (first | refine qh ?_ _ | refine qj ?_ | refine qg ?_ _)); exact BK101.out)⟩; have n2_ : Qz (wr.heap[gb117]? = some (.cells #[u118000, .int .i64 t105, .int .i64 t108, .int .i64 t111] 32 (0, 0))) := ⟨by rw [← hq_]; exact (by (with_reducible repeat (first | refine qh ?_ _ | refine qj ?_ | refine qg ?_ _)); exact BK117.out)⟩; have n3_ : Qz (Below w.heap.size w wr) := ⟨by rw [← hq_]; exact (by repeat (first | (with_reducible first | exact HB.out | apply qf | apply qa | apply qd | refine qi ?_ GE101.out | refine qi ?_ GE117.out) | exact HB.out))⟩; clear HO_118000 BK101 BK117 HB hq_; have HO_118000 := n0_; have BK101 := n1_; have BK117 := n2_; have HB := n3_; clear n0_ n1_ n2_ n3_))) | ((with_reducible refine qm (f := 83) rfl ?_); refine qt (some 121) rfl rfl Try.func83 (by kernel_rfl) rfl #[.string t126] rfl (by (try simp only [List.map_toArray, List.map_cons, List.map_nil]); first | done | rfl) ?_; (with_reducible refine (spec_TakeText.calls k3 t126 t128 t129 true _ A28.out).mono ?_); rintro e w' ⟨rfl, ⟨nd, rfl⟩⟩; refine ⟨_, rfl, ?_⟩; (try (rw [drewN_self wr]; generalize hq_ : World.drewN wr _ = wr; have n0_ : Qz (Kd.R k66 66 wr w.heap.size (fun _ => True) u118000 x118000_3) := ⟨by rw [← hq_]; exact (by (with_reducible repeat (first | apply Kd.R_alloc | apply Kd.R_drewN | apply Kd.R_drew)); exact HO_118000.out)⟩; have n1_ : Qz (wr.heap[gb101]? = some (.cells #[.slice none 0 0, .int .i64 x102001_3, .int .i64 x102002_3, .int .i64 x102003_3] 32 (0, 0))) := ⟨by rw [← hq_]; exact (by (with_reducible repeat (first | refine qh ?_ _ | refine qj ?_ | refine qg ?_ _)); exact BK101.out)⟩; have n2_ : Qz (wr.heap[gb117]? = some (.cells #[u118000, .int .i64 t105, .int .i64 t108, .int .i64 t111] 32 (0, 0))) := ⟨by rw [← hq_]; exact (by (with_reducible repeat (first | refine qh ?_ _ | refine qj ?_ | refine qg ?_ _)); exact BK117.out)⟩; have n3_ : Qz (Below w.heap.size w wr) := ⟨by rw [← hq_]; exact (by repeat (first | (with_reducible first | exact HB.out | apply qf | apply qa | apply qd | refine qi ?_ GE101.out | refine qi ?_ GE117.out) | exact HB.out))⟩; clear HO_118000 BK101 BK117 HB hq_; have HO_118000 := n0_; have BK101 := n1_; have BK117 := n2_; have HB := n3_; clear n0_ n1_ n2_ n3_))) | ((with_reducible refine qm (f := 82) rfl ?_); refine qt (some 127) rfl rfl Try.func82 (by kernel_rfl) rfl #[.string t129] rfl (by (try simp only [List.map_toArray, List.map_cons, List.map_nil]); first | done | rfl) ?_; (with_reducible refine (spec_l12Int.calls k3 t129 t131 t132 false _ A29.out).mono ?_); rintro e w' ⟨rfl, ⟨nd, rfl⟩⟩; refine ⟨_, rfl, ?_⟩; (try (rw [drewN_self wr]; generalize hq_ : World.drewN wr _ = wr; have n0_ : Qz (Kd.R k66 66 wr w.heap.size (fun _ => True) u118000 x118000_3) := ⟨by rw [← hq_]; exact (by (with_reducible repeat (first | apply Kd.R_alloc | apply Kd.R_drewN | apply Kd.R_drew)); exact HO_118000.out)⟩; have n1_ : Qz (wr.heap[gb101]? = some (.cells #[.slice none 0 0, .int .i64 x102001_3, .int .i64 x102002_3, .int .i64 x102003_3] 32 (0, 0))) := ⟨by rw [← hq_]; exact (by (with_reducible repeat (first | refine qh ?_ _ | refine qj ?_ | refine qg ?_ _)); exact BK101.out)⟩; have n2_ : Qz (wr.heap[gb117]? = some (.cells #[u118000, .int .i64 t105, .int .i64 t108, .int .i64 t111] 32 (0, 0))) := ⟨by rw [← hq_]; exact (by (with_reducible repeat (first | refine qh ?_ _ | refine qj ?_ | refine qg ?_ _)); exact BK117.out)⟩; have n3_ : Qz (Below w.heap.size w wr) := ⟨by rw [← hq_]; exact (by repeat (first | (with_reducible first | exact HB.out | apply qf | apply qa | apply qd | refine qi ?_ GE101.out | refine qi ?_ GE117.out) | exact HB.out))⟩; clear HO_118000 BK101 BK117 HB hq_; have HO_118000 := n0_; have BK101 := n1_; have BK117 := n2_; have HB := n3_; clear n0_ n1_ n2_ n3_)); have hnb41 := NB101_117.out; have hnc41 := NB117_101.out; have hcz42_0 : wr.cell? ⟨gb101, 0, none⟩ = some (.slice none 0 0) := (qe BK101.out 0).trans rfl; have hcz42_1 : wr.cell? ⟨gb101, 1, none⟩ = some (.int .i64 x102001_3) := (qe BK101.out 1).trans rfl; have hcz42_2 : wr.cell? ⟨gb101, 2, none⟩ = some (.int .i64 x102002_3) := (qe BK101.out 2).trans rfl; have hcz42_3 : wr.cell? ⟨gb101, 3, none⟩ = some (.int .i64 x102003_3) := (qe BK101.out 3).trans rfl; have hfz42_0 := qc BK101.out 0; have hfz42_1 := qc BK101.out 1; have hfz42_2 := qc BK101.out 2; have hfz42_3 := qc BK101.out 3))
               refine bodyPost_ret (results_ct rfl _ _ gb101 32 #[.slice none 0 0, .int .i64 0, .int .i64 0, .int .i64 0] (0, 0) _ rfl (by (with_reducible repeat (first | refine qh ?_ _ | refine qj ?_ | refine qg ?_ _)); refine qu (cs := #[.slice none 0 0, .int .i64 0, .int .i64 0, .int .i64 x102003_3]) ?_ 3 _ rfl; (with_reducible repeat (first | refine qh ?_ _ | refine qj ?_ | refine qg ?_ _)); refine qu (cs := #[.slice none 0 0, .int .i64 0, .int .i64 x102002_3, .int .i64 x102003_3]) ?_ 2 _ rfl; (with_reducible repeat (first | refine qh ?_ _ | refine qj ?_ | refine qg ?_ _)); refine qu (cs := #[.slice none 0 0, .int .i64 x102001_3, .int .i64 x102002_3, .int .i64 x102003_3]) ?_ 1 _ rfl; (with_reducible repeat (first | refine qh ?_ _ | refine qj ?_ | refine qg ?_ _)); refine qu (cs := #[.slice none 0 0, .int .i64 x102001_3, .int .i64 x102002_3, .int .i64 x102003_3]) ?_ 0 _ rfl; (with_reducible repeat (first | refine qh ?_ _ | refine qj ?_ | refine qg ?_ _)); exact BK101.out) Try.underlying32 rfl (by kernel_rfl)) rfl ?_
               exact ⟨_, by first | rfl | (simp [qo, qn] <;> rfl) | (simp [*, qo, qn] <;> rfl), by first | exact Kd.R_nil _ _ _ _ _ | exact Kd.N_nil _ _ _ _ _ | exact Kd.V_nil _ _ _ _ _ | exact Kd.Q_nil _ _ _ _ _ | exact Kd.S_nil _ _ _ _ _, by repeat (first | (with_reducible first | exact HB.out | apply qf | apply qa | apply qd | refine qi ?_ GE101.out | refine qi ?_ GE117.out) | exact HB.out)⟩
             ·replace c33 := Bool.eq_false_iff.mpr c33
              subst c33
              have H1 : (some (([] : List (S66)), 0, 0, 0, false)) = some (r1, r2, r3, r4, r5) := by rw [if_neg (show ¬ (false = true) by decide)] at H; exact H
              clear H
              have H := H1
              clear H1
              simp only [Option.some.injEq, Prod.mk.injEq] at H
              obtain ⟨rfl, rfl, rfl, rfl, rfl⟩ := H
              go_wp2_with (first | ((with_reducible refine qm (f := 82) rfl ?_); refine qt (some 103) rfl rfl Try.func82 (by kernel_rfl) rfl #[.string x16_3] rfl (by (try simp only [List.map_toArray, List.map_cons, List.map_nil]); first | done | rfl) ?_; (with_reducible refine (spec_l12Int.calls k3 x16_3 t119 t120 true _ A25.out).mono ?_); rintro e w' ⟨rfl, ⟨nd, rfl⟩⟩; refine ⟨_, rfl, ?_⟩; (try (rw [drewN_self wr]; generalize hq_ : World.drewN wr _ = wr; have n0_ : Qz (Kd.R k66 66 wr w.heap.size (fun _ => True) u118000 x118000_3) := ⟨by rw [← hq_]; exact (by (with_reducible repeat (first | apply Kd.R_alloc | apply Kd.R_drewN | apply Kd.R_drew)); exact HO_118000.out)⟩; have n1_ : Qz (wr.heap[gb101]? = some (.cells #[.slice none 0 0, .int .i64 x102001_3, .int .i64 x102002_3, .int .i64 x102003_3] 32 (0, 0))) := ⟨by rw [← hq_]; exact (by (with_reducible repeat (first | refine qh ?_ _ | refine qj ?_ | refine qg ?_ _)); exact BK101.out)⟩; have n2_ : Qz (wr.heap[gb117]? = some (.cells #[u118000, .int .i64 t105, .int .i64 t108, .int .i64 t111] 32 (0, 0))) := ⟨by rw [← hq_]; exact (by (with_reducible repeat (first | refine qh ?_ _ | refine qj ?_ | refine qg ?_ _)); exact BK117.out)⟩; have n3_ : Qz (Below w.heap.size w wr) := ⟨by rw [← hq_]; exact (by repeat (first | (with_reducible first | exact HB.out | apply qf | apply qa | apply qd | refine qi ?_ GE101.out | refine qi ?_ GE117.out) | exact HB.out))⟩; clear HO_118000 BK101 BK117 HB hq_; have HO_118000 := n0_; have BK101 := n1_; have BK117 := n2_; have HB := n3_; clear n0_ n1_ n2_ n3_))) | ((with_reducible refine qm (f := 82) rfl ?_); refine qt (some 109) rfl rfl Try.func82 (by kernel_rfl) rfl #[.string t120] rfl (by (try simp only [List.map_toArray, List.map_cons, List.map_nil]); first | done | rfl) ?_; (with_reducible refine (spec_l12Int.calls k3 t120 t122 t123 true _ A26.out).mono ?_); rintro e w' ⟨rfl, ⟨nd, rfl⟩⟩; refine ⟨_, rfl, ?_⟩; (try (rw [drewN_self wr]; generalize hq_ : World.drewN wr _ = wr; have n0_ : Qz (Kd.R k66 66 wr w.heap.size (fun _ => True) u118000 x118000_3) := ⟨by rw [← hq_]; exact (by (with_reducible repeat (first | apply Kd.R_alloc | apply Kd.R_drewN | apply Kd.R_drew)); exact HO_118000.out)⟩; have n1_ : Qz (wr.heap[gb101]? = some (.cells #[.slice none 0 0, .int .i64 x102001_3, .int .i64 x102002_3, .int .i64 x102003_3] 32 (0, 0))) := ⟨by rw [← hq_]; exact (by (with_reducible repeat (first | refine qh ?_ _ | refine qj ?_ | refine qg ?_ _)); exact BK101.out)⟩; have n2_ : Qz (wr.heap[gb117]? = some (.cells #[u118000, .int .i64 t105, .int .i64 t108, .int .i64 t111] 32 (0, 0))) := ⟨by rw [← hq_]; exact (by (with_reducible repeat (first | refine qh ?_ _ | refine qj ?_ | refine qg ?_ _)); exact BK117.out)⟩; have n3_ : Qz (Below w.heap.size w wr) := ⟨by rw [← hq_]; exact (by repeat (first | (with_reducible first | exact HB.out | apply qf | apply qa | apply qd | refine qi ?_ GE101.out | refine qi ?_ GE117.out) | exact HB.out))⟩; clear HO_118000 BK101 BK117 HB hq_; have HO_118000 := n0_; have BK101 := n1_; have BK117 := n2_; have HB := n3_; clear n0_ n1_ n2_ n3_))) | ((with_reducible refine qm (f := 83) rfl ?_); refine qt (some 115) rfl rfl Try.func83 (by kernel_rfl) rfl #[.string t123] rfl (by (try simp only [List.map_toArray, List.map_cons, List.map_nil]); first | done | rfl) ?_; (with_reducible refine (spec_TakeText.calls k3 t123 t125 t126 true _ A27.out).mono ?_); rintro e w' ⟨rfl, ⟨nd, rfl⟩⟩; refine ⟨_, rfl, ?_⟩; (try (rw [drewN_self wr]; generalize hq_ : World.drewN wr _ = wr; have n0_ : Qz (Kd.R k66 66 wr w.heap.size (fun _ => True) u118000 x118000_3) := ⟨by rw [← hq_]; exact (by (with_reducible repeat (first | apply Kd.R_alloc | apply Kd.R_drewN | apply Kd.R_drew)); exact HO_118000.out)⟩; have n1_ : Qz (wr.heap[gb101]? = some (.cells #[.slice none 0 0, .int .i64 x102001_3, .int .i64 x102002_3, .int .i64 x102003_3] 32 (0, 0))) := ⟨by rw [← hq_]; exact (by (with_reducible repeat (first | refine qh ?_ _ | refine qj ?_ | refine qg ?_ _)); exact BK101.out)⟩; have n2_ : Qz (wr.heap[gb117]? = some (.cells #[u118000, .int .i64 t105, .int .i64 t108, .int .i64 t111] 32 (0, 0))) := ⟨by rw [← hq_]; exact (by (with_reducible repeat (first | refine qh ?_ _ | refine qj ?_ | refine qg ?_ _)); exact BK117.out)⟩; have n3_ : Qz (Below w.heap.size w wr) := ⟨by rw [← hq_]; exact (by repeat (first | (with_reducible first | exact HB.out | apply qf | apply qa | apply qd | refine qi ?_ GE101.out | refine qi ?_ GE117.out) | exact HB.out))⟩; clear HO_118000 BK101 BK117 HB hq_; have HO_118000 := n0_; have BK101 := n1_; have BK117 := n2_; have HB := n3_; clear n0_ n1_ n2_ n3_))) | ((with_reducible refine qm (f := 83) rfl ?_); refine qt (some 121) rfl rfl Try.func83 (by kernel_rfl) rfl #[.string t126] rfl (by (try simp only [List.map_toArray, List.map_cons, List.map_nil]); first | done | rfl) ?_; (with_reducible refine (spec_TakeText.calls k3 t126 t128 t129 false _ A28.out).mono ?_); rintro e w' ⟨rfl, ⟨nd, rfl⟩⟩; refine ⟨_, rfl, ?_⟩; (try (rw [drewN_self wr]; generalize hq_ : World.drewN wr _ = wr; have n0_ : Qz (Kd.R k66 66 wr w.heap.size (fun _ => True) u118000 x118000_3) := ⟨by rw [← hq_]; exact (by (with_reducible repeat (first | apply Kd.R_alloc | apply Kd.R_drewN | apply Kd.R_drew)); exact HO_118000.out)⟩; have n1_ : Qz (wr.heap[gb101]? = some (.cells #[.slice none 0 0, .int .i64 x102001_3, .int .i64 x102002_3, .int .i64 x102003_3] 32 (0, 0))) := ⟨by rw [← hq_]; exact (by (with_reducible repeat (first | refine qh ?_ _ | refine qj ?_ | refine qg ?_ _)); exact BK101.out)⟩; have n2_ : Qz (wr.heap[gb117]? = some (.cells #[u118000, .int .i64 t105, .int .i64 t108, .int .i64 t111] 32 (0, 0))) := ⟨by rw [← hq_]; exact (by (with_reducible repeat (first | refine qh ?_ _ | refine qj ?_ | refine qg ?_ _)); exact BK117.out)⟩; have n3_ : Qz (Below w.heap.size w wr) := ⟨by rw [← hq_]; exact (by repeat (first | (with_reducible first | exact HB.out | apply qf | apply qa | apply qd | refine qi ?_ GE101.out | refine qi ?_ GE117.out) | exact HB.out))⟩; clear HO_118000 BK101 BK117 HB hq_; have HO_118000 := n0_; have BK101 := n1_; have BK117 := n2_; have HB := n3_; clear n0_ n1_ n2_ n3_))) | ((with_reducible refine qm (f := 82) rfl ?_); refine qt (some 127) rfl rfl Try.func82 (by kernel_rfl) rfl #[.string t129] rfl (by (try simp only [List.map_toArray, List.map_cons, List.map_nil]); first | done | rfl) ?_; (with_reducible refine (spec_l12Int.calls k3 t129 t131 t132 t133 _ A29.out).mono ?_); rintro e w' ⟨rfl, ⟨nd, rfl⟩⟩; refine ⟨_, rfl, ?_⟩; (try (rw [drewN_self wr]; generalize hq_ : World.drewN wr _ = wr; have n0_ : Qz (Kd.R k66 66 wr w.heap.size (fun _ => True) u118000 x118000_3) := ⟨by rw [← hq_]; exact (by (with_reducible repeat (first | apply Kd.R_alloc | apply Kd.R_drewN | apply Kd.R_drew)); exact HO_118000.out)⟩; have n1_ : Qz (wr.heap[gb101]? = some (.cells #[.slice none 0 0, .int .i64 x102001_3, .int .i64 x102002_3, .int .i64 x102003_3] 32 (0, 0))) := ⟨by rw [← hq_]; exact (by (with_reducible repeat (first | refine qh ?_ _ | refine qj ?_ | refine qg ?_ _)); exact BK101.out)⟩; have n2_ : Qz (wr.heap[gb117]? = some (.cells #[u118000, .int .i64 t105, .int .i64 t108, .int .i64 t111] 32 (0, 0))) := ⟨by rw [← hq_]; exact (by (with_reducible repeat (first | refine qh ?_ _ | refine qj ?_ | refine qg ?_ _)); exact BK117.out)⟩; have n3_ : Qz (Below w.heap.size w wr) := ⟨by rw [← hq_]; exact (by repeat (first | (with_reducible first | exact HB.out | apply qf | apply qa | apply qd | refine qi ?_ GE101.out | refine qi ?_ GE117.out) | exact HB.out))⟩; clear HO_118000 BK101 BK117 HB hq_; have HO_118000 := n0_; have BK101 := n1_; have BK117 := n2_; have HB := n3_; clear n0_ n1_ n2_ n3_)); have hnb43 := NB101_117.out; have hnc43 := NB117_101.out; have hcz44_0 : wr.cell? ⟨gb101, 0, none⟩ = some (.slice none 0 0) := (qe BK101.out 0).trans rfl; have hcz44_1 : wr.cell? ⟨gb101, 1, none⟩ = some (.int .i64 x102001_3) := (qe BK101.out 1).trans rfl; have hcz44_2 : wr.cell? ⟨gb101, 2, none⟩ = some (.int .i64 x102002_3) := (qe BK101.out 2).trans rfl; have hcz44_3 : wr.cell? ⟨gb101, 3, none⟩ = some (.int .i64 x102003_3) := (qe BK101.out 3).trans rfl; have hfz44_0 := qc BK101.out 0; have hfz44_1 := qc BK101.out 1; have hfz44_2 := qc BK101.out 2; have hfz44_3 := qc BK101.out 3))
              refine bodyPost_ret (results_ct rfl _ _ gb101 32 #[.slice none 0 0, .int .i64 0, .int .i64 0, .int .i64 0] (0, 0) _ rfl (by (with_reducible repeat (first | refine qh ?_ _ | refine qj ?_ | refine qg ?_ _)); refine qu (cs := #[.slice none 0 0, .int .i64 0, .int .i64 0, .int .i64 x102003_3]) ?_ 3 _ rfl; (with_reducible repeat (first | refine qh ?_ _ | refine qj ?_ | refine qg ?_ _)); refine qu (cs := #[.slice none 0 0, .int .i64 0, .int .i64 x102002_3, .int .i64 x102003_3]) ?_ 2 _ rfl; (with_reducible repeat (first | refine qh ?_ _ | refine qj ?_ | refine qg ?_ _)); refine qu (cs := #[.slice none 0 0, .int .i64 x102001_3, .int .i64 x102002_3, .int .i64 x102003_3]) ?_ 1 _ rfl; (with_reducible repeat (first | refine qh ?_ _ | refine qj ?_ | refine qg ?_ _)); refine qu (cs := #[.slice none 0 0, .int .i64 x102001_3, .int .i64 x102002_3, .int .i64 x102003_3]) ?_ 0 _ rfl; (with_reducible repeat (first | refine qh ?_ _ | refine qj ?_ | refine qg ?_ _)); exact BK101.out) Try.underlying32 rfl (by kernel_rfl)) rfl ?_
              exact ⟨_, by first | rfl | (simp [qo, qn] <;> rfl) | (simp [*, qo, qn] <;> rfl), by first | exact Kd.R_nil _ _ _ _ _ | exact Kd.N_nil _ _ _ _ _ | exact Kd.V_nil _ _ _ _ _ | exact Kd.Q_nil _ _ _ _ _ | exact Kd.S_nil _ _ _ _ _, by repeat (first | (with_reducible first | exact HB.out | apply qf | apply qa | apply qd | refine qi ?_ GE101.out | refine qi ?_ GE117.out) | exact HB.out)⟩
            ·replace c32 := Bool.eq_false_iff.mpr c32
             subst c32
             have H1 : (some (([] : List (S66)), 0, 0, 0, false)) = some (r1, r2, r3, r4, r5) := by rw [if_neg (show ¬ (false = true) by decide)] at H; exact H
             clear H
             have H := H1
             clear H1
             simp only [Option.some.injEq, Prod.mk.injEq] at H
             obtain ⟨rfl, rfl, rfl, rfl, rfl⟩ := H
             go_wp2_with (first | ((with_reducible refine qm (f := 82) rfl ?_); refine qt (some 103) rfl rfl Try.func82 (by kernel_rfl) rfl #[.string x16_3] rfl (by (try simp only [List.map_toArray, List.map_cons, List.map_nil]); first | done | rfl) ?_; (with_reducible refine (spec_l12Int.calls k3 x16_3 t119 t120 true _ A25.out).mono ?_); rintro e w' ⟨rfl, ⟨nd, rfl⟩⟩; refine ⟨_, rfl, ?_⟩; (try (rw [drewN_self wr]; generalize hq_ : World.drewN wr _ = wr; have n0_ : Qz (Kd.R k66 66 wr w.heap.size (fun _ => True) u118000 x118000_3) := ⟨by rw [← hq_]; exact (by (with_reducible repeat (first | apply Kd.R_alloc | apply Kd.R_drewN | apply Kd.R_drew)); exact HO_118000.out)⟩; have n1_ : Qz (wr.heap[gb101]? = some (.cells #[.slice none 0 0, .int .i64 x102001_3, .int .i64 x102002_3, .int .i64 x102003_3] 32 (0, 0))) := ⟨by rw [← hq_]; exact (by (with_reducible repeat (first | refine qh ?_ _ | refine qj ?_ | refine qg ?_ _)); exact BK101.out)⟩; have n2_ : Qz (wr.heap[gb117]? = some (.cells #[u118000, .int .i64 t105, .int .i64 t108, .int .i64 t111] 32 (0, 0))) := ⟨by rw [← hq_]; exact (by (with_reducible repeat (first | refine qh ?_ _ | refine qj ?_ | refine qg ?_ _)); exact BK117.out)⟩; have n3_ : Qz (Below w.heap.size w wr) := ⟨by rw [← hq_]; exact (by repeat (first | (with_reducible first | exact HB.out | apply qf | apply qa | apply qd | refine qi ?_ GE101.out | refine qi ?_ GE117.out) | exact HB.out))⟩; clear HO_118000 BK101 BK117 HB hq_; have HO_118000 := n0_; have BK101 := n1_; have BK117 := n2_; have HB := n3_; clear n0_ n1_ n2_ n3_))) | ((with_reducible refine qm (f := 82) rfl ?_); refine qt (some 109) rfl rfl Try.func82 (by kernel_rfl) rfl #[.string t120] rfl (by (try simp only [List.map_toArray, List.map_cons, List.map_nil]); first | done | rfl) ?_; (with_reducible refine (spec_l12Int.calls k3 t120 t122 t123 true _ A26.out).mono ?_); rintro e w' ⟨rfl, ⟨nd, rfl⟩⟩; refine ⟨_, rfl, ?_⟩; (try (rw [drewN_self wr]; generalize hq_ : World.drewN wr _ = wr; have n0_ : Qz (Kd.R k66 66 wr w.heap.size (fun _ => True) u118000 x118000_3) := ⟨by rw [← hq_]; exact (by (with_reducible repeat (first | apply Kd.R_alloc | apply Kd.R_drewN | apply Kd.R_drew)); exact HO_118000.out)⟩; have n1_ : Qz (wr.heap[gb101]? = some (.cells #[.slice none 0 0, .int .i64 x102001_3, .int .i64 x102002_3, .int .i64 x102003_3] 32 (0, 0))) := ⟨by rw [← hq_]; exact (by (with_reducible repeat (first | refine qh ?_ _ | refine qj ?_ | refine qg ?_ _)); exact BK101.out)⟩; have n2_ : Qz (wr.heap[gb117]? = some (.cells #[u118000, .int .i64 t105, .int .i64 t108, .int .i64 t111] 32 (0, 0))) := ⟨by rw [← hq_]; exact (by (with_reducible repeat (first | refine qh ?_ _ | refine qj ?_ | refine qg ?_ _)); exact BK117.out)⟩; have n3_ : Qz (Below w.heap.size w wr) := ⟨by rw [← hq_]; exact (by repeat (first | (with_reducible first | exact HB.out | apply qf | apply qa | apply qd | refine qi ?_ GE101.out | refine qi ?_ GE117.out) | exact HB.out))⟩; clear HO_118000 BK101 BK117 HB hq_; have HO_118000 := n0_; have BK101 := n1_; have BK117 := n2_; have HB := n3_; clear n0_ n1_ n2_ n3_))) | ((with_reducible refine qm (f := 83) rfl ?_); refine qt (some 115) rfl rfl Try.func83 (by kernel_rfl) rfl #[.string t123] rfl (by (try simp only [List.map_toArray, List.map_cons, List.map_nil]); first | done | rfl) ?_; (with_reducible refine (spec_TakeText.calls k3 t123 t125 t126 false _ A27.out).mono ?_); rintro e w' ⟨rfl, ⟨nd, rfl⟩⟩; refine ⟨_, rfl, ?_⟩; (try (rw [drewN_self wr]; generalize hq_ : World.drewN wr _ = wr; have n0_ : Qz (Kd.R k66 66 wr w.heap.size (fun _ => True) u118000 x118000_3) := ⟨by rw [← hq_]; exact (by (with_reducible repeat (first | apply Kd.R_alloc | apply Kd.R_drewN | apply Kd.R_drew)); exact HO_118000.out)⟩; have n1_ : Qz (wr.heap[gb101]? = some (.cells #[.slice none 0 0, .int .i64 x102001_3, .int .i64 x102002_3, .int .i64 x102003_3] 32 (0, 0))) := ⟨by rw [← hq_]; exact (by (with_reducible repeat (first | refine qh ?_ _ | refine qj ?_ | refine qg ?_ _)); exact BK101.out)⟩; have n2_ : Qz (wr.heap[gb117]? = some (.cells #[u118000, .int .i64 t105, .int .i64 t108, .int .i64 t111] 32 (0, 0))) := ⟨by rw [← hq_]; exact (by (with_reducible repeat (first | refine qh ?_ _ | refine qj ?_ | refine qg ?_ _)); exact BK117.out)⟩; have n3_ : Qz (Below w.heap.size w wr) := ⟨by rw [← hq_]; exact (by repeat (first | (with_reducible first | exact HB.out | apply qf | apply qa | apply qd | refine qi ?_ GE101.out | refine qi ?_ GE117.out) | exact HB.out))⟩; clear HO_118000 BK101 BK117 HB hq_; have HO_118000 := n0_; have BK101 := n1_; have BK117 := n2_; have HB := n3_; clear n0_ n1_ n2_ n3_))) | ((with_reducible refine qm (f := 83) rfl ?_); refine qt (some 121) rfl rfl Try.func83 (by kernel_rfl) rfl #[.string t126] rfl (by (try simp only [List.map_toArray, List.map_cons, List.map_nil]); first | done | rfl) ?_; (with_reducible refine (spec_TakeText.calls k3 t126 t128 t129 t130 _ A28.out).mono ?_); rintro e w' ⟨rfl, ⟨nd, rfl⟩⟩; refine ⟨_, rfl, ?_⟩; (try (rw [drewN_self wr]; generalize hq_ : World.drewN wr _ = wr; have n0_ : Qz (Kd.R k66 66 wr w.heap.size (fun _ => True) u118000 x118000_3) := ⟨by rw [← hq_]; exact (by (with_reducible repeat (first | apply Kd.R_alloc | apply Kd.R_drewN | apply Kd.R_drew)); exact HO_118000.out)⟩; have n1_ : Qz (wr.heap[gb101]? = some (.cells #[.slice none 0 0, .int .i64 x102001_3, .int .i64 x102002_3, .int .i64 x102003_3] 32 (0, 0))) := ⟨by rw [← hq_]; exact (by (with_reducible repeat (first | refine qh ?_ _ | refine qj ?_ | refine qg ?_ _)); exact BK101.out)⟩; have n2_ : Qz (wr.heap[gb117]? = some (.cells #[u118000, .int .i64 t105, .int .i64 t108, .int .i64 t111] 32 (0, 0))) := ⟨by rw [← hq_]; exact (by (with_reducible repeat (first | refine qh ?_ _ | refine qj ?_ | refine qg ?_ _)); exact BK117.out)⟩; have n3_ : Qz (Below w.heap.size w wr) := ⟨by rw [← hq_]; exact (by repeat (first | (with_reducible first | exact HB.out | apply qf | apply qa | apply qd | refine qi ?_ GE101.out | refine qi ?_ GE117.out) | exact HB.out))⟩; clear HO_118000 BK101 BK117 HB hq_; have HO_118000 := n0_; have BK101 := n1_; have BK117 := n2_; have HB := n3_; clear n0_ n1_ n2_ n3_))) | ((with_reducible refine qm (f := 82) rfl ?_); refine qt (some 127) rfl rfl Try.func82 (by kernel_rfl) rfl #[.string t129] rfl (by (try simp only [List.map_toArray, List.map_cons, List.map_nil]); first | done | rfl) ?_; (with_reducible refine (spec_l12Int.calls k3 t129 t131 t132 t133 _ A29.out).mono ?_); rintro e w' ⟨rfl, ⟨nd, rfl⟩⟩; refine ⟨_, rfl, ?_⟩; (try (rw [drewN_self wr]; generalize hq_ : World.drewN wr _ = wr; have n0_ : Qz (Kd.R k66 66 wr w.heap.size (fun _ => True) u118000 x118000_3) := ⟨by rw [← hq_]; exact (by (with_reducible repeat (first | apply Kd.R_alloc | apply Kd.R_drewN | apply Kd.R_drew)); exact HO_118000.out)⟩; have n1_ : Qz (wr.heap[gb101]? = some (.cells #[.slice none 0 0, .int .i64 x102001_3, .int .i64 x102002_3, .int .i64 x102003_3] 32 (0, 0))) := ⟨by rw [← hq_]; exact (by (with_reducible repeat (first | refine qh ?_ _ | refine qj ?_ | refine qg ?_ _)); exact BK101.out)⟩; have n2_ : Qz (wr.heap[gb117]? = some (.cells #[u118000, .int .i64 t105, .int .i64 t108, .int .i64 t111] 32 (0, 0))) := ⟨by rw [← hq_]; exact (by (with_reducible repeat (first | refine qh ?_ _ | refine qj ?_ | refine qg ?_ _)); exact BK117.out)⟩; have n3_ : Qz (Below w.heap.size w wr) := ⟨by rw [← hq_]; exact (by repeat (first | (with_reducible first | exact HB.out | apply qf | apply qa | apply qd | refine qi ?_ GE101.out | refine qi ?_ GE117.out) | exact HB.out))⟩; clear HO_118000 BK101 BK117 HB hq_; have HO_118000 := n0_; have BK101 := n1_; have BK117 := n2_; have HB := n3_; clear n0_ n1_ n2_ n3_)); have hnb45 := NB101_117.out; have hnc45 := NB117_101.out; have hcz46_0 : wr.cell? ⟨gb101, 0, none⟩ = some (.slice none 0 0) := (qe BK101.out 0).trans rfl; have hcz46_1 : wr.cell? ⟨gb101, 1, none⟩ = some (.int .i64 x102001_3) := (qe BK101.out 1).trans rfl; have hcz46_2 : wr.cell? ⟨gb101, 2, none⟩ = some (.int .i64 x102002_3) := (qe BK101.out 2).trans rfl; have hcz46_3 : wr.cell? ⟨gb101, 3, none⟩ = some (.int .i64 x102003_3) := (qe BK101.out 3).trans rfl; have hfz46_0 := qc BK101.out 0; have hfz46_1 := qc BK101.out 1; have hfz46_2 := qc BK101.out 2; have hfz46_3 := qc BK101.out 3))
             refine bodyPost_ret (results_ct rfl _ _ gb101 32 #[.slice none 0 0, .int .i64 0, .int .i64 0, .int .i64 0] (0, 0) _ rfl (by (with_reducible repeat (first | refine qh ?_ _ | refine qj ?_ | refine qg ?_ _)); refine qu (cs := #[.slice none 0 0, .int .i64 0, .int .i64 0, .int .i64 x102003_3]) ?_ 3 _ rfl; (with_reducible repeat (first | refine qh ?_ _ | refine qj ?_ | refine qg ?_ _)); refine qu (cs := #[.slice none 0 0, .int .i64 0, .int .i64 x102002_3, .int .i64 x102003_3]) ?_ 2 _ rfl; (with_reducible repeat (first | refine qh ?_ _ | refine qj ?_ | refine qg ?_ _)); refine qu (cs := #[.slice none 0 0, .int .i64 x102001_3, .int .i64 x102002_3, .int .i64 x102003_3]) ?_ 1 _ rfl; (with_reducible repeat (first | refine qh ?_ _ | refine qj ?_ | refine qg ?_ _)); refine qu (cs := #[.slice none 0 0, .int .i64 x102001_3, .int .i64 x102002_3, .int .i64 x102003_3]) ?_ 0 _ rfl; (with_reducible repeat (first | refine qh ?_ _ | refine qj ?_ | refine qg ?_ _)); exact BK101.out) Try.underlying32 rfl (by kernel_rfl)) rfl ?_
             exact ⟨_, by first | rfl | (simp [qo, qn] <;> rfl) | (simp [*, qo, qn] <;> rfl), by first | exact Kd.R_nil _ _ _ _ _ | exact Kd.N_nil _ _ _ _ _ | exact Kd.V_nil _ _ _ _ _ | exact Kd.Q_nil _ _ _ _ _ | exact Kd.S_nil _ _ _ _ _, by repeat (first | (with_reducible first | exact HB.out | apply qf | apply qa | apply qd | refine qi ?_ GE101.out | refine qi ?_ GE117.out) | exact HB.out)⟩
           ·replace c31 := Bool.eq_false_iff.mpr c31
            subst c31
            have H1 : (some (([] : List (S66)), 0, 0, 0, false)) = some (r1, r2, r3, r4, r5) := by rw [if_neg (show ¬ (false = true) by decide)] at H; exact H
            clear H
            have H := H1
            clear H1
            simp only [Option.some.injEq, Prod.mk.injEq] at H
            obtain ⟨rfl, rfl, rfl, rfl, rfl⟩ := H
            go_wp2_with (first | ((with_reducible refine qm (f := 82) rfl ?_); refine qt (some 103) rfl rfl Try.func82 (by kernel_rfl) rfl #[.string x16_3] rfl (by (try simp only [List.map_toArray, List.map_cons, List.map_nil]); first | done | rfl) ?_; (with_reducible refine (spec_l12Int.calls k3 x16_3 t119 t120 true _ A25.out).mono ?_); rintro e w' ⟨rfl, ⟨nd, rfl⟩⟩; refine ⟨_, rfl, ?_⟩; (try (rw [drewN_self wr]; generalize hq_ : World.drewN wr _ = wr; have n0_ : Qz (Kd.R k66 66 wr w.heap.size (fun _ => True) u118000 x118000_3) := ⟨by rw [← hq_]; exact (by (with_reducible repeat (first | apply Kd.R_alloc | apply Kd.R_drewN | apply Kd.R_drew)); exact HO_118000.out)⟩; have n1_ : Qz (wr.heap[gb101]? = some (.cells #[.slice none 0 0, .int .i64 x102001_3, .int .i64 x102002_3, .int .i64 x102003_3] 32 (0, 0))) := ⟨by rw [← hq_]; exact (by (with_reducible repeat (first | refine qh ?_ _ | refine qj ?_ | refine qg ?_ _)); exact BK101.out)⟩; have n2_ : Qz (wr.heap[gb117]? = some (.cells #[u118000, .int .i64 t105, .int .i64 t108, .int .i64 t111] 32 (0, 0))) := ⟨by rw [← hq_]; exact (by (with_reducible repeat (first | refine qh ?_ _ | refine qj ?_ | refine qg ?_ _)); exact BK117.out)⟩; have n3_ : Qz (Below w.heap.size w wr) := ⟨by rw [← hq_]; exact (by repeat (first | (with_reducible first | exact HB.out | apply qf | apply qa | apply qd | refine qi ?_ GE101.out | refine qi ?_ GE117.out) | exact HB.out))⟩; clear HO_118000 BK101 BK117 HB hq_; have HO_118000 := n0_; have BK101 := n1_; have BK117 := n2_; have HB := n3_; clear n0_ n1_ n2_ n3_))) | ((with_reducible refine qm (f := 82) rfl ?_); refine qt (some 109) rfl rfl Try.func82 (by kernel_rfl) rfl #[.string t120] rfl (by (try simp only [List.map_toArray, List.map_cons, List.map_nil]); first | done | rfl) ?_; (with_reducible refine (spec_l12Int.calls k3 t120 t122 t123 false _ A26.out).mono ?_); rintro e w' ⟨rfl, ⟨nd, rfl⟩⟩; refine ⟨_, rfl, ?_⟩; (try (rw [drewN_self wr]; generalize hq_ : World.drewN wr _ = wr; have n0_ : Qz (Kd.R k66 66 wr w.heap.size (fun _ => True) u118000 x118000_3) := ⟨by rw [← hq_]; exact (by (with_reducible repeat (first | apply Kd.R_alloc | apply Kd.R_drewN | apply Kd.R_drew)); exact HO_118000.out)⟩; have n1_ : Qz (wr.heap[gb101]? = some (.cells #[.slice none 0 0, .int .i64 x102001_3, .int .i64 x102002_3, .int .i64 x102003_3] 32 (0, 0))) := ⟨by rw [← hq_]; exact (by (with_reducible repeat (first | refine qh ?_ _ | refine qj ?_ | refine qg ?_ _)); exact BK101.out)⟩; have n2_ : Qz (wr.heap[gb117]? = some (.cells #[u118000, .int .i64 t105, .int .i64 t108, .int .i64 t111] 32 (0, 0))) := ⟨by rw [← hq_]; exact (by (with_reducible repeat (first | refine qh ?_ _ | refine qj ?_ | refine qg ?_ _)); exact BK117.out)⟩; have n3_ : Qz (Below w.heap.size w wr) := ⟨by rw [← hq_]; exact (by repeat (first | (with_reducible first | exact HB.out | apply qf | apply qa | apply qd | refine qi ?_ GE101.out | refine qi ?_ GE117.out) | exact HB.out))⟩; clear HO_118000 BK101 BK117 HB hq_; have HO_118000 := n0_; have BK101 := n1_; have BK117 := n2_; have HB := n3_; clear n0_ n1_ n2_ n3_))) | ((with_reducible refine qm (f := 83) rfl ?_); refine qt (some 115) rfl rfl Try.func83 (by kernel_rfl) rfl #[.string t123] rfl (by (try simp only [List.map_toArray, List.map_cons, List.map_nil]); first | done | rfl) ?_; (with_reducible refine (spec_TakeText.calls k3 t123 t125 t126 t127 _ A27.out).mono ?_); rintro e w' ⟨rfl, ⟨nd, rfl⟩⟩; refine ⟨_, rfl, ?_⟩; (try (rw [drewN_self wr]; generalize hq_ : World.drewN wr _ = wr; have n0_ : Qz (Kd.R k66 66 wr w.heap.size (fun _ => True) u118000 x118000_3) := ⟨by rw [← hq_]; exact (by (with_reducible repeat (first | apply Kd.R_alloc | apply Kd.R_drewN | apply Kd.R_drew)); exact HO_118000.out)⟩; have n1_ : Qz (wr.heap[gb101]? = some (.cells #[.slice none 0 0, .int .i64 x102001_3, .int .i64 x102002_3, .int .i64 x102003_3] 32 (0, 0))) := ⟨by rw [← hq_]; exact (by (with_reducible repeat (first | refine qh ?_ _ | refine qj ?_ | refine qg ?_ _)); exact BK101.out)⟩; have n2_ : Qz (wr.heap[gb117]? = some (.cells #[u118000, .int .i64 t105, .int .i64 t108, .int .i64 t111] 32 (0, 0))) := ⟨by rw [← hq_]; exact (by (with_reducible repeat (first | refine qh ?_ _ | refine qj ?_ | refine qg ?_ _)); exact BK117.out)⟩; have n3_ : Qz (Below w.heap.size w wr) := ⟨by rw [← hq_]; exact (by repeat (first | (with_reducible first | exact HB.out | apply qf | apply qa | apply qd | refine qi ?_ GE101.out | refine qi ?_ GE117.out) | exact HB.out))⟩; clear HO_118000 BK101 BK117 HB hq_; have HO_118000 := n0_; have BK101 := n1_; have BK117 := n2_; have HB := n3_; clear n0_ n1_ n2_ n3_))) | ((with_reducible refine qm (f := 83) rfl ?_); refine qt (some 121) rfl rfl Try.func83 (by kernel_rfl) rfl #[.string t126] rfl (by (try simp only [List.map_toArray, List.map_cons, List.map_nil]); first | done | rfl) ?_; (with_reducible refine (spec_TakeText.calls k3 t126 t128 t129 t130 _ A28.out).mono ?_); rintro e w' ⟨rfl, ⟨nd, rfl⟩⟩; refine ⟨_, rfl, ?_⟩; (try (rw [drewN_self wr]; generalize hq_ : World.drewN wr _ = wr; have n0_ : Qz (Kd.R k66 66 wr w.heap.size (fun _ => True) u118000 x118000_3) := ⟨by rw [← hq_]; exact (by (with_reducible repeat (first | apply Kd.R_alloc | apply Kd.R_drewN | apply Kd.R_drew)); exact HO_118000.out)⟩; have n1_ : Qz (wr.heap[gb101]? = some (.cells #[.slice none 0 0, .int .i64 x102001_3, .int .i64 x102002_3, .int .i64 x102003_3] 32 (0, 0))) := ⟨by rw [← hq_]; exact (by (with_reducible repeat (first | refine qh ?_ _ | refine qj ?_ | refine qg ?_ _)); exact BK101.out)⟩; have n2_ : Qz (wr.heap[gb117]? = some (.cells #[u118000, .int .i64 t105, .int .i64 t108, .int .i64 t111] 32 (0, 0))) := ⟨by rw [← hq_]; exact (by (with_reducible repeat (first | refine qh ?_ _ | refine qj ?_ | refine qg ?_ _)); exact BK117.out)⟩; have n3_ : Qz (Below w.heap.size w wr) := ⟨by rw [← hq_]; exact (by repeat (first | (with_reducible first | exact HB.out | apply qf | apply qa | apply qd | refine qi ?_ GE101.out | refine qi ?_ GE117.out) | exact HB.out))⟩; clear HO_118000 BK101 BK117 HB hq_; have HO_118000 := n0_; have BK101 := n1_; have BK117 := n2_; have HB := n3_; clear n0_ n1_ n2_ n3_))) | ((with_reducible refine qm (f := 82) rfl ?_); refine qt (some 127) rfl rfl Try.func82 (by kernel_rfl) rfl #[.string t129] rfl (by (try simp only [List.map_toArray, List.map_cons, List.map_nil]); first | done | rfl) ?_; (with_reducible refine (spec_l12Int.calls k3 t129 t131 t132 t133 _ A29.out).mono ?_); rintro e w' ⟨rfl, ⟨nd, rfl⟩⟩; refine ⟨_, rfl, ?_⟩; (try (rw [drewN_self wr]; generalize hq_ : World.drewN wr _ = wr; have n0_ : Qz (Kd.R k66 66 wr w.heap.size (fun _ => True) u118000 x118000_3) := ⟨by rw [← hq_]; exact (by (with_reducible repeat (first | apply Kd.R_alloc | apply Kd.R_drewN | apply Kd.R_drew)); exact HO_118000.out)⟩; have n1_ : Qz (wr.heap[gb101]? = some (.cells #[.slice none 0 0, .int .i64 x102001_3, .int .i64 x102002_3, .int .i64 x102003_3] 32 (0, 0))) := ⟨by rw [← hq_]; exact (by (with_reducible repeat (first | refine qh ?_ _ | refine qj ?_ | refine qg ?_ _)); exact BK101.out)⟩; have n2_ : Qz (wr.heap[gb117]? = some (.cells #[u118000, .int .i64 t105, .int .i64 t108, .int .i64 t111] 32 (0, 0))) := ⟨by rw [← hq_]; exact (by (with_reducible repeat (first | refine qh ?_ _ | refine qj ?_ | refine qg ?_ _)); exact BK117.out)⟩; have n3_ : Qz (Below w.heap.size w wr) := ⟨by rw [← hq_]; exact (by repeat (first | (with_reducible first | exact HB.out | apply qf | apply qa | apply qd | refine qi ?_ GE101.out | refine qi ?_ GE117.out) | exact HB.out))⟩; clear HO_118000 BK101 BK117 HB hq_; have HO_118000 := n0_; have BK101 := n1_; have BK117 := n2_; have HB := n3_; clear n0_ n1_ n2_ n3_)); have hnb47 := NB101_117.out; have hnc47 := NB117_101.out; have hcz48_0 : wr.cell? ⟨gb101, 0, none⟩ = some (.slice none 0 0) := (qe BK101.out 0).trans rfl; have hcz48_1 : wr.cell? ⟨gb101, 1, none⟩ = some (.int .i64 x102001_3) := (qe BK101.out 1).trans rfl; have hcz48_2 : wr.cell? ⟨gb101, 2, none⟩ = some (.int .i64 x102002_3) := (qe BK101.out 2).trans rfl; have hcz48_3 : wr.cell? ⟨gb101, 3, none⟩ = some (.int .i64 x102003_3) := (qe BK101.out 3).trans rfl; have hfz48_0 := qc BK101.out 0; have hfz48_1 := qc BK101.out 1; have hfz48_2 := qc BK101.out 2; have hfz48_3 := qc BK101.out 3))
            refine bodyPost_ret (results_ct rfl _ _ gb101 32 #[.slice none 0 0, .int .i64 0, .int .i64 0, .int .i64 0] (0, 0) _ rfl (by (with_reducible repeat (first | refine qh ?_ _ | refine qj ?_ | refine qg ?_ _)); refine qu (cs := #[.slice none 0 0, .int .i64 0, .int .i64 0, .int .i64 x102003_3]) ?_ 3 _ rfl; (with_reducible repeat (first | refine qh ?_ _ | refine qj ?_ | refine qg ?_ _)); refine qu (cs := #[.slice none 0 0, .int .i64 0, .int .i64 x102002_3, .int .i64 x102003_3]) ?_ 2 _ rfl; (with_reducible repeat (first | refine qh ?_ _ | refine qj ?_ | refine qg ?_ _)); refine qu (cs := #[.slice none 0 0, .int .i64 x102001_3, .int .i64 x102002_3, .int .i64 x102003_3]) ?_ 1 _ rfl; (with_reducible repeat (first | refine qh ?_ _ | refine qj ?_ | refine qg ?_ _)); refine qu (cs := #[.slice none 0 0, .int .i64 x102001_3, .int .i64 x102002_3, .int .i64 x102003_3]) ?_ 0 _ rfl; (with_reducible repeat (first | refine qh ?_ _ | refine qj ?_ | refine qg ?_ _)); exact BK101.out) Try.underlying32 rfl (by kernel_rfl)) rfl ?_
            exact ⟨_, by first | rfl | (simp [qo, qn] <;> rfl) | (simp [*, qo, qn] <;> rfl), by first | exact Kd.R_nil _ _ _ _ _ | exact Kd.N_nil _ _ _ _ _ | exact Kd.V_nil _ _ _ _ _ | exact Kd.Q_nil _ _ _ _ _ | exact Kd.S_nil _ _ _ _ _, by repeat (first | (with_reducible first | exact HB.out | apply qf | apply qa | apply qd | refine qi ?_ GE101.out | refine qi ?_ GE117.out) | exact HB.out)⟩
          ·replace c30 := Bool.eq_false_iff.mpr c30
           subst c30
           have H1 : (some (([] : List (S66)), 0, 0, 0, false)) = some (r1, r2, r3, r4, r5) := by rw [if_neg (show ¬ (false = true) by decide)] at H; exact H
           clear H
           have H := H1
           clear H1
           simp only [Option.some.injEq, Prod.mk.injEq] at H
           obtain ⟨rfl, rfl, rfl, rfl, rfl⟩ := H
           go_wp2_with (first | ((with_reducible refine qm (f := 82) rfl ?_); refine qt (some 103) rfl rfl Try.func82 (by kernel_rfl) rfl #[.string x16_3] rfl (by (try simp only [List.map_toArray, List.map_cons, List.map_nil]); first | done | rfl) ?_; (with_reducible refine (spec_l12Int.calls k3 x16_3 t119 t120 false _ A25.out).mono ?_); rintro e w' ⟨rfl, ⟨nd, rfl⟩⟩; refine ⟨_, rfl, ?_⟩; (try (rw [drewN_self wr]; generalize hq_ : World.drewN wr _ = wr; have n0_ : Qz (Kd.R k66 66 wr w.heap.size (fun _ => True) u118000 x118000_3) := ⟨by rw [← hq_]; exact (by (with_reducible repeat (first | apply Kd.R_alloc | apply Kd.R_drewN | apply Kd.R_drew)); exact HO_118000.out)⟩; have n1_ : Qz (wr.heap[gb101]? = some (.cells #[.slice none 0 0, .int .i64 x102001_3, .int .i64 x102002_3, .int .i64 x102003_3] 32 (0, 0))) := ⟨by rw [← hq_]; exact (by (with_reducible repeat (first | refine qh ?_ _ | refine qj ?_ | refine qg ?_ _)); exact BK101.out)⟩; have n2_ : Qz (wr.heap[gb117]? = some (.cells #[u118000, .int .i64 t105, .int .i64 t108, .int .i64 t111] 32 (0, 0))) := ⟨by rw [← hq_]; exact (by (with_reducible repeat (first | refine qh ?_ _ | refine qj ?_ | refine qg ?_ _)); exact BK117.out)⟩; have n3_ : Qz (Below w.heap.size w wr) := ⟨by rw [← hq_]; exact (by repeat (first | (with_reducible first | exact HB.out | apply qf | apply qa | apply qd | refine qi ?_ GE101.out | refine qi ?_ GE117.out) | exact HB.out))⟩; clear HO_118000 BK101 BK117 HB hq_; have HO_118000 := n0_; have BK101 := n1_; have BK117 := n2_; have HB := n3_; clear n0_ n1_ n2_ n3_))) | ((with_reducible refine qm (f := 82) rfl ?_); refine qt (some 109) rfl rfl Try.func82 (by kernel_rfl) rfl #[.string t120] rfl (by (try simp only [List.map_toArray, List.map_cons, List.map_nil]); first | done | rfl) ?_; (with_reducible refine (spec_l12Int.calls k3 t120 t122 t123 t124 _ A26.out).mono ?_); rintro e w' ⟨rfl, ⟨nd, rfl⟩⟩; refine ⟨_, rfl, ?_⟩; (try (rw [drewN_self wr]; generalize hq_ : World.drewN wr _ = wr; have n0_ : Qz (Kd.R k66 66 wr w.heap.size (fun _ => True) u118000 x118000_3) := ⟨by rw [← hq_]; exact (by (with_reducible repeat (first | apply Kd.R_alloc | apply Kd.R_drewN | apply Kd.R_drew)); exact HO_118000.out)⟩; have n1_ : Qz (wr.heap[gb101]? = some (.cells #[.slice none 0 0, .int .i64 x102001_3, .int .i64 x102002_3, .int .i64 x102003_3] 32 (0, 0))) := ⟨by rw [← hq_]; exact (by (with_reducible repeat (first | refine qh ?_ _ | refine qj ?_ | refine qg ?_ _)); exact BK101.out)⟩; have n2_ : Qz (wr.heap[gb117]? = some (.cells #[u118000, .int .i64 t105, .int .i64 t108, .int .i64 t111] 32 (0, 0))) := ⟨by rw [← hq_]; exact (by (with_reducible repeat (first | refine qh ?_ _ | refine qj ?_ | refine qg ?_ _)); exact BK117.out)⟩; have n3_ : Qz (Below w.heap.size w wr) := ⟨by rw [← hq_]; exact (by repeat (first | (with_reducible first | exact HB.out | apply qf | apply qa | apply qd | refine qi ?_ GE101.out | refine qi ?_ GE117.out) | exact HB.out))⟩; clear HO_118000 BK101 BK117 HB hq_; have HO_118000 := n0_; have BK101 := n1_; have BK117 := n2_; have HB := n3_; clear n0_ n1_ n2_ n3_))) | ((with_reducible refine qm (f := 83) rfl ?_); refine qt (some 115) rfl rfl Try.func83 (by kernel_rfl) rfl #[.string t123] rfl (by (try simp only [List.map_toArray, List.map_cons, List.map_nil]); first | done | rfl) ?_; (with_reducible refine (spec_TakeText.calls k3 t123 t125 t126 t127 _ A27.out).mono ?_); rintro e w' ⟨rfl, ⟨nd, rfl⟩⟩; refine ⟨_, rfl, ?_⟩; (try (rw [drewN_self wr]; generalize hq_ : World.drewN wr _ = wr; have n0_ : Qz (Kd.R k66 66 wr w.heap.size (fun _ => True) u118000 x118000_3) := ⟨by rw [← hq_]; exact (by (with_reducible repeat (first | apply Kd.R_alloc | apply Kd.R_drewN | apply Kd.R_drew)); exact HO_118000.out)⟩; have n1_ : Qz (wr.heap[gb101]? = some (.cells #[.slice none 0 0, .int .i64 x102001_3, .int .i64 x102002_3, .int .i64 x102003_3] 32 (0, 0))) := ⟨by rw [← hq_]; exact (by (with_reducible repeat (first | refine qh ?_ _ | refine qj ?_ | refine qg ?_ _)); exact BK101.out)⟩; have n2_ : Qz (wr.heap[gb117]? = some (.cells #[u118000, .int .i64 t105, .int .i64 t108, .int .i64 t111] 32 (0, 0))) := ⟨by rw [← hq_]; exact (by (with_reducible repeat (first | refine qh ?_ _ | refine qj ?_ | refine qg ?_ _)); exact BK117.out)⟩; have n3_ : Qz (Below w.heap.size w wr) := ⟨by rw [← hq_]; exact (by repeat (first | (with_reducible first | exact HB.out | apply qf | apply qa | apply qd | refine qi ?_ GE101.out | refine qi ?_ GE117.out) | exact HB.out))⟩; clear HO_118000 BK101 BK117 HB hq_; have HO_118000 := n0_; have BK101 := n1_; have BK117 := n2_; have HB := n3_; clear n0_ n1_ n2_ n3_))) | ((with_reducible refine qm (f := 83) rfl ?_); refine qt (some 121) rfl rfl Try.func83 (by kernel_rfl) rfl #[.string t126] rfl (by (try simp only [List.map_toArray, List.map_cons, List.map_nil]); first | done | rfl) ?_; (with_reducible refine (spec_TakeText.calls k3 t126 t128 t129 t130 _ A28.out).mono ?_); rintro e w' ⟨rfl, ⟨nd, rfl⟩⟩; refine ⟨_, rfl, ?_⟩; (try (rw [drewN_self wr]; generalize hq_ : World.drewN wr _ = wr; have n0_ : Qz (Kd.R k66 66 wr w.heap.size (fun _ => True) u118000 x118000_3) := ⟨by rw [← hq_]; exact (by (with_reducible repeat (first | apply Kd.R_alloc | apply Kd.R_drewN | apply Kd.R_drew)); exact HO_118000.out)⟩; have n1_ : Qz (wr.heap[gb101]? = some (.cells #[.slice none 0 0, .int .i64 x102001_3, .int .i64 x102002_3, .int .i64 x102003_3] 32 (0, 0))) := ⟨by rw [← hq_]; exact (by (with_reducible repeat (first | refine qh ?_ _ | refine qj ?_ | refine qg ?_ _)); exact BK101.out)⟩; have n2_ : Qz (wr.heap[gb117]? = some (.cells #[u118000, .int .i64 t105, .int .i64 t108, .int .i64 t111] 32 (0, 0))) := ⟨by rw [← hq_]; exact (by (with_reducible repeat (first | refine qh ?_ _ | refine qj ?_ | refine qg ?_ _)); exact BK117.out)⟩; have n3_ : Qz (Below w.heap.size w wr) := ⟨by rw [← hq_]; exact (by repeat (first | (with_reducible first | exact HB.out | apply qf | apply qa | apply qd | refine qi ?_ GE101.out | refine qi ?_ GE117.out) | exact HB.out))⟩; clear HO_118000 BK101 BK117 HB hq_; have HO_118000 := n0_; have BK101 := n1_; have BK117 := n2_; have HB := n3_; clear n0_ n1_ n2_ n3_))) | ((with_reducible refine qm (f := 82) rfl ?_); refine qt (some 127) rfl rfl Try.func82 (by kernel_rfl) rfl #[.string t129] rfl (by (try simp only [List.map_toArray, List.map_cons, List.map_nil]); first | done | rfl) ?_; (with_reducible refine (spec_l12Int.calls k3 t129 t131 t132 t133 _ A29.out).mono ?_); rintro e w' ⟨rfl, ⟨nd, rfl⟩⟩; refine ⟨_, rfl, ?_⟩; (try (rw [drewN_self wr]; generalize hq_ : World.drewN wr _ = wr; have n0_ : Qz (Kd.R k66 66 wr w.heap.size (fun _ => True) u118000 x118000_3) := ⟨by rw [← hq_]; exact (by (with_reducible repeat (first | apply Kd.R_alloc | apply Kd.R_drewN | apply Kd.R_drew)); exact HO_118000.out)⟩; have n1_ : Qz (wr.heap[gb101]? = some (.cells #[.slice none 0 0, .int .i64 x102001_3, .int .i64 x102002_3, .int .i64 x102003_3] 32 (0, 0))) := ⟨by rw [← hq_]; exact (by (with_reducible repeat (first | refine qh ?_ _ | refine qj ?_ | refine qg ?_ _)); exact BK101.out)⟩; have n2_ : Qz (wr.heap[gb117]? = some (.cells #[u118000, .int .i64 t105, .int .i64 t108, .int .i64 t111] 32 (0, 0))) := ⟨by rw [← hq_]; exact (by (with_reducible repeat (first | refine qh ?_ _ | refine qj ?_ | refine qg ?_ _)); exact BK117.out)⟩; have n3_ : Qz (Below w.heap.size w wr) := ⟨by rw [← hq_]; exact (by repeat (first | (with_reducible first | exact HB.out | apply qf | apply qa | apply qd | refine qi ?_ GE101.out | refine qi ?_ GE117.out) | exact HB.out))⟩; clear HO_118000 BK101 BK117 HB hq_; have HO_118000 := n0_; have BK101 := n1_; have BK117 := n2_; have HB := n3_; clear n0_ n1_ n2_ n3_)); have hnb49 := NB101_117.out; have hnc49 := NB117_101.out; have hcz50_0 : wr.cell? ⟨gb101, 0, none⟩ = some (.slice none 0 0) := (qe BK101.out 0).trans rfl; have hcz50_1 : wr.cell? ⟨gb101, 1, none⟩ = some (.int .i64 x102001_3) := (qe BK101.out 1).trans rfl; have hcz50_2 : wr.cell? ⟨gb101, 2, none⟩ = some (.int .i64 x102002_3) := (qe BK101.out 2).trans rfl; have hcz50_3 : wr.cell? ⟨gb101, 3, none⟩ = some (.int .i64 x102003_3) := (qe BK101.out 3).trans rfl; have hfz50_0 := qc BK101.out 0; have hfz50_1 := qc BK101.out 1; have hfz50_2 := qc BK101.out 2; have hfz50_3 := qc BK101.out 3))
           refine bodyPost_ret (results_ct rfl _ _ gb101 32 #[.slice none 0 0, .int .i64 0, .int .i64 0, .int .i64 0] (0, 0) _ rfl (by (with_reducible repeat (first | refine qh ?_ _ | refine qj ?_ | refine qg ?_ _)); refine qu (cs := #[.slice none 0 0, .int .i64 0, .int .i64 0, .int .i64 x102003_3]) ?_ 3 _ rfl; (with_reducible repeat (first | refine qh ?_ _ | refine qj ?_ | refine qg ?_ _)); refine qu (cs := #[.slice none 0 0, .int .i64 0, .int .i64 x102002_3, .int .i64 x102003_3]) ?_ 2 _ rfl; (with_reducible repeat (first | refine qh ?_ _ | refine qj ?_ | refine qg ?_ _)); refine qu (cs := #[.slice none 0 0, .int .i64 x102001_3, .int .i64 x102002_3, .int .i64 x102003_3]) ?_ 1 _ rfl; (with_reducible repeat (first | refine qh ?_ _ | refine qj ?_ | refine qg ?_ _)); refine qu (cs := #[.slice none 0 0, .int .i64 x102001_3, .int .i64 x102002_3, .int .i64 x102003_3]) ?_ 0 _ rfl; (with_reducible repeat (first | refine qh ?_ _ | refine qj ?_ | refine qg ?_ _)); exact BK101.out) Try.underlying32 rfl (by kernel_rfl)) rfl ?_
           exact ⟨_, by first | rfl | (simp [qo, qn] <;> rfl) | (simp [*, qo, qn] <;> rfl), by first | exact Kd.R_nil _ _ _ _ _ | exact Kd.N_nil _ _ _ _ _ | exact Kd.V_nil _ _ _ _ _ | exact Kd.Q_nil _ _ _ _ _ | exact Kd.S_nil _ _ _ _ _, by repeat (first | (with_reducible first | exact HB.out | apply qf | apply qa | apply qd | refine qi ?_ GE101.out | refine qi ?_ GE117.out) | exact HB.out)⟩
         ·rw [if_neg c24] at H
          have c24b0 : decide (x19_3 < t114) = false := decide_eq_false c24
          clear c24
          by_cases c51 : x16_3.toList = ([] : List UInt8)
          ·rw [if_pos c51] at H
           have c51b0 : (x16_3.toList == ([] : List UInt8)) = true := beq_iff_eq.mpr c51
           have c51b1 : (x16_3.toList != ([] : List UInt8)) = false := bne_eq_false_iff_eq.mpr c51
           clear c51
           replace H := Option.bind_eq_some_iff.mp H
           obtain ⟨t118, A520, H⟩ := H
           replace H : (if t118 = true then (some (x118000_3, t105, t108, t111, true)) else (some (([] : List (S66)), 0, 0, 0, false))) = some (r1, r2, r3, r4, r5) := H
           have A52 := Qz.mk A520
           clear A520
           by_cases c53 : t118 = true
           ·subst c53
            have H1 : (some (x118000_3, t105, t108, t111, true)) = some (r1, r2, r3, r4, r5) := by rw [if_pos rfl] at H; exact H
            clear H
            have H := H1
            clear H1
            simp only [Option.some.injEq, Prod.mk.injEq] at H
            obtain ⟨rfl, rfl, rfl, rfl, rfl⟩ := H
            have hnb54 := NB117_101.out
            have hnc54 := NB101_117.out
            have hcz55_0 : wr.cell? ⟨gb117, 0, none⟩ = some (u118000) := (qe BK117.out 0).trans rfl
            have hcz55_1 : wr.cell? ⟨gb117, 1, none⟩ = some (.int .i64 t105) := (qe BK117.out 1).trans rfl
            have hcz55_2 : wr.cell? ⟨gb117, 2, none⟩ = some (.int .i64 t108) := (qe BK117.out 2).trans rfl
            have hcz55_3 : wr.cell? ⟨gb117, 3, none⟩ = some (.int .i64 t111) := (qe BK117.out 3).trans rfl
            have hfz55_0 := qc BK117.out 0
            have hfz55_1 := qc BK117.out 1
            have hfz55_2 := qc BK117.out 2
            have hfz55_3 := qc BK117.out 3
            obtain ⟨Ao56, co56, eo56⟩ := Kd.R_slice HO_118000.out
            subst eo56
            go_wp2_with (first | (go_at_call 26; (with_reducible refine (spec_VersionOk.calls k3 _ _ x118000_3 t105 t108 t111 true _ ?side1 ?side2 A52.out).mono ?_); (case side1 => repeat (first | exact (Kd.R_reads' HO_118000.out).2.2 | (with_reducible refine Kd.C_alloc ?_ _) | (with_reducible refine Kd.C_drewN ?_ _) | (with_reducible refine Kd.C_drew ?_))); (case side2 => exact (Kd.R_reads' HO_118000.out).2.1); rintro e w57 ⟨rfl, hb⟩; replace HO_118000 := Qz.mk (Kd.R_below (by (with_reducible repeat (first | apply Kd.R_alloc | apply Kd.R_drewN | apply Kd.R_drew)); exact HO_118000.out) hb); replace BK101 := Qz.mk (qr (g := gb101) (o := .cells #[.slice none 0 0, .int .i64 x102001_3, .int .i64 x102002_3, .int .i64 x102003_3] 32 (0, 0)) (by (with_reducible repeat (first | refine qh ?_ _ | refine qj ?_ | refine qg ?_ _)); exact BK101.out) hb); replace BK117 := Qz.mk (qr (g := gb117) (o := .cells #[.slice Ao56 x118000_3.length co56, .int .i64 t105, .int .i64 t108, .int .i64 t111] 32 (0, 0)) (by (with_reducible repeat (first | refine qh ?_ _ | refine qj ?_ | refine qg ?_ _)); exact BK117.out) hb); replace HB := Qz.mk (qp (by repeat (first | (with_reducible first | exact HB.out | apply qf | apply qa | apply qd | refine qi ?_ GE101.out | refine qi ?_ GE117.out) | exact HB.out)) hb); (try clear hb); (try clear hk); have hcz58_0 : w57.cell? ⟨gb117, 0, none⟩ = some (.slice Ao56 x118000_3.length co56) := (qe BK117.out 0).trans rfl; have hcz58_1 : w57.cell? ⟨gb117, 1, none⟩ = some (.int .i64 t105) := (qe BK117.out 1).trans rfl; have hcz58_2 : w57.cell? ⟨gb117, 2, none⟩ = some (.int .i64 t108) := (qe BK117.out 2).trans rfl; have hcz58_3 : w57.cell? ⟨gb117, 3, none⟩ = some (.int .i64 t111) := (qe BK117.out 3).trans rfl; have hfz58_0 := qc BK117.out 0; have hfz58_1 := qc BK117.out 1; have hfz58_2 := qc BK117.out 2; have hfz58_3 := qc BK117.out 3; have hcz59_0 : w57.cell? ⟨gb101, 0, none⟩ = some (.slice none 0 0) := (qe BK101.out 0).trans rfl; have hcz59_1 : w57.cell? ⟨gb101, 1, none⟩ = some (.int .i64 x102001_3) := (qe BK101.out 1).trans rfl; have hcz59_2 : w57.cell? ⟨gb101, 2, none⟩ = some (.int .i64 x102002_3) := (qe BK101.out 2).trans rfl; have hcz59_3 : w57.cell? ⟨gb101, 3, none⟩ = some (.int .i64 x102003_3) := (qe BK101.out 3).trans rfl; have hfz59_0 := qc BK101.out 0; have hfz59_1 := qc BK101.out 1; have hfz59_2 := qc BK101.out 2; have hfz59_3 := qc BK101.out 3))
            refine bodyPost_ret (results_ct rfl _ _ gb101 32 #[.slice Ao56 x118000_3.length co56, .int .i64 t105, .int .i64 t108, .int .i64 t111] (0, 0) _ rfl (by (with_reducible repeat (first | refine qh ?_ _ | refine qj ?_ | refine qg ?_ _)); refine qu (cs := #[.slice Ao56 x118000_3.length co56, .int .i64 t105, .int .i64 t108, .int .i64 x102003_3]) ?_ 3 _ rfl; (with_reducible repeat (first | refine qh ?_ _ | refine qj ?_ | refine qg ?_ _)); refine qu (cs := #[.slice Ao56 x118000_3.length co56, .int .i64 t105, .int .i64 x102002_3, .int .i64 x102003_3]) ?_ 2 _ rfl; (with_reducible repeat (first | refine qh ?_ _ | refine qj ?_ | refine qg ?_ _)); refine qu (cs := #[.slice Ao56 x118000_3.length co56, .int .i64 x102001_3, .int .i64 x102002_3, .int .i64 x102003_3]) ?_ 1 _ rfl; (with_reducible repeat (first | refine qh ?_ _ | refine qj ?_ | refine qg ?_ _)); refine qu (cs := #[.slice none 0 0, .int .i64 x102001_3, .int .i64 x102002_3, .int .i64 x102003_3]) ?_ 0 _ rfl; (with_reducible repeat (first | refine qh ?_ _ | refine qj ?_ | refine qg ?_ _)); exact BK101.out) Try.underlying32 rfl (by kernel_rfl)) rfl ?_
            exact ⟨_, by first | rfl | (simp [qo, qn] <;> rfl) | (simp [*, qo, qn] <;> rfl), by (with_reducible repeat (first | apply Kd.R_alloc | apply Kd.R_drewN | apply Kd.R_drew)); exact Kd.R_mono (Kd.R_far (p := ⟨gb101, 3, none⟩) (Kd.R_far (p := ⟨gb101, 2, none⟩) (Kd.R_far (p := ⟨gb101, 1, none⟩) (Kd.R_far (p := ⟨gb101, 0, none⟩) (Kd.R_types HO_118000.out BK101.out (by decide)) (fun _ hk => hk.2) (.slice Ao56 x118000_3.length co56)) (fun _ hk => hk.2) (.int .i64 t105)) (fun _ hk => hk.2) (.int .i64 t108)) (fun _ hk => hk.2) (.int .i64 t111)) (fun _ hk => trivial), by repeat (first | (with_reducible first | exact HB.out | apply qf | apply qa | apply qd | refine qi ?_ GE101.out | refine qi ?_ GE117.out) | exact HB.out)⟩
           ·replace c53 := Bool.eq_false_iff.mpr c53
            subst c53
            have H1 : (some (([] : List (S66)), 0, 0, 0, false)) = some (r1, r2, r3, r4, r5) := by rw [if_neg (show ¬ (false = true) by decide)] at H; exact H
            clear H
            have H := H1
            clear H1
            simp only [Option.some.injEq, Prod.mk.injEq] at H
            obtain ⟨rfl, rfl, rfl, rfl, rfl⟩ := H
            have hnb60 := NB117_101.out
            have hnc60 := NB101_117.out
            have hcz61_0 : wr.cell? ⟨gb117, 0, none⟩ = some (u118000) := (qe BK117.out 0).trans rfl
            have hcz61_1 : wr.cell? ⟨gb117, 1, none⟩ = some (.int .i64 t105) := (qe BK117.out 1).trans rfl
            have hcz61_2 : wr.cell? ⟨gb117, 2, none⟩ = some (.int .i64 t108) := (qe BK117.out 2).trans rfl
            have hcz61_3 : wr.cell? ⟨gb117, 3, none⟩ = some (.int .i64 t111) := (qe BK117.out 3).trans rfl
            have hfz61_0 := qc BK117.out 0
            have hfz61_1 := qc BK117.out 1
            have hfz61_2 := qc BK117.out 2
            have hfz61_3 := qc BK117.out 3
            obtain ⟨Ao62, co62, eo62⟩ := Kd.R_slice HO_118000.out
            subst eo62
            go_wp2_with (first | (go_at_call 26; (with_reducible refine (spec_VersionOk.calls k3 _ _ x118000_3 t105 t108 t111 false _ ?side1 ?side2 A52.out).mono ?_); (case side1 => repeat (first | exact (Kd.R_reads' HO_118000.out).2.2 | (with_reducible refine Kd.C_alloc ?_ _) | (with_reducible refine Kd.C_drewN ?_ _) | (with_reducible refine Kd.C_drew ?_))); (case side2 => exact (Kd.R_reads' HO_118000.out).2.1); rintro e w63 ⟨rfl, hb⟩; replace HO_118000 := Qz.mk (Kd.R_below (by (with_reducible repeat (first | apply Kd.R_alloc | apply Kd.R_drewN | apply Kd.R_drew)); exact HO_118000.out) hb); replace BK101 := Qz.mk (qr (g := gb101) (o := .cells #[.slice none 0 0, .int .i64 x102001_3, .int .i64 x102002_3, .int .i64 x102003_3] 32 (0, 0)) (by (with_reducible repeat (first | refine qh ?_ _ | refine qj ?_ | refine qg ?_ _)); exact BK101.out) hb); replace BK117 := Qz.mk (qr (g := gb117) (o := .cells #[.slice Ao62 x118000_3.length co62, .int .i64 t105, .int .i64 t108, .int .i64 t111] 32 (0, 0)) (by (with_reducible repeat (first | refine qh ?_ _ | refine qj ?_ | refine qg ?_ _)); exact BK117.out) hb); replace HB := Qz.mk (qp (by repeat (first | (with_reducible first | exact HB.out | apply qf | apply qa | apply qd | refine qi ?_ GE101.out | refine qi ?_ GE117.out) | exact HB.out)) hb); (try clear hb); (try clear hk); have hcz64_0 : w63.cell? ⟨gb101, 0, none⟩ = some (.slice none 0 0) := (qe BK101.out 0).trans rfl; have hcz64_1 : w63.cell? ⟨gb101, 1, none⟩ = some (.int .i64 x102001_3) := (qe BK101.out 1).trans rfl; have hcz64_2 : w63.cell? ⟨gb101, 2, none⟩ = some (.int .i64 x102002_3) := (qe BK101.out 2).trans rfl; have hcz64_3 : w63.cell? ⟨gb101, 3, none⟩ = some (.int .i64 x102003_3) := (qe BK101.out 3).trans rfl; have hfz64_0 := qc BK101.out 0; have hfz64_1 := qc BK101.out 1; have hfz64_2 := qc BK101.out 2; have hfz64_3 := qc BK101.out 3))
            refine bodyPost_ret (results_ct rfl _ _ gb101 32 #[.slice none 0 0, .int .i64 0, .int .i64 0, .int .i64 0] (0, 0) _ rfl (by (with_reducible repeat (first | refine qh ?_ _ | refine qj ?_ | refine qg ?_ _)); refine qu (cs := #[.slice none 0 0, .int .i64 0, .int .i64 0, .int .i64 x102003_3]) ?_ 3 _ rfl; (with_reducible repeat (first | refine qh ?_ _ | refine qj ?_ | refine qg ?_ _)); refine qu (cs := #[.slice none 0 0, .int .i64 0, .int .i64 x102002_3, .int .i64 x102003_3]) ?_ 2 _ rfl; (with_reducible repeat (first | refine qh ?_ _ | refine qj ?_ | refine qg ?_ _)); refine qu (cs := #[.slice none 0 0, .int .i64 x102001_3, .int .i64 x102002_3, .int .i64 x102003_3]) ?_ 1 _ rfl; (with_reducible repeat (first | refine qh ?_ _ | refine qj ?_ | refine qg ?_ _)); refine qu (cs := #[.slice none 0 0, .int .i64 x102001_3, .int .i64 x102002_3, .int .i64 x102003_3]) ?_ 0 _ rfl; (with_reducible repeat (first | refine qh ?_ _ | refine qj ?_ | refine qg ?_ _)); exact BK101.out) Try.underlying32 rfl (by kernel_rfl)) rfl ?_
            exact ⟨_, by first | rfl | (simp [qo, qn] <;> rfl) | (simp [*, qo, qn] <;> rfl), by first | exact Kd.R_nil _ _ _ _ _ | exact Kd.N_nil _ _ _ _ _ | exact Kd.V_nil _ _ _ _ _ | exact Kd.Q_nil _ _ _ _ _ | exact Kd.S_nil _ _ _ _ _, by repeat (first | (with_reducible first | exact HB.out | apply qf | apply qa | apply qd | refine qi ?_ GE101.out | refine qi ?_ GE117.out) | exact HB.out)⟩
          ·rw [if_neg c51] at H
           have c51b0 : (x16_3.toList == ([] : List UInt8)) = false := beq_eq_false_iff_ne.mpr c51
           have c51b1 : (x16_3.toList != ([] : List UInt8)) = true := bne_iff_ne.mpr c51
           simp only [Option.some.injEq, Prod.mk.injEq] at H
           obtain ⟨rfl, rfl, rfl, rfl, rfl⟩ := H
           have hnb65 := NB101_117.out
           have hnc65 := NB117_101.out
           have hcz66_0 : wr.cell? ⟨gb101, 0, none⟩ = some (.slice none 0 0) := (qe BK101.out 0).trans rfl
           have hcz66_1 : wr.cell? ⟨gb101, 1, none⟩ = some (.int .i64 x102001_3) := (qe BK101.out 1).trans rfl
           have hcz66_2 : wr.cell? ⟨gb101, 2, none⟩ = some (.int .i64 x102002_3) := (qe BK101.out 2).trans rfl
           have hcz66_3 : wr.cell? ⟨gb101, 3, none⟩ = some (.int .i64 x102003_3) := (qe BK101.out 3).trans rfl
           have hfz66_0 := qc BK101.out 0
           have hfz66_1 := qc BK101.out 1
           have hfz66_2 := qc BK101.out 2
           have hfz66_3 := qc BK101.out 3
           go_wp2
           refine bodyPost_ret (results_ct rfl _ _ gb101 32 #[.slice none 0 0, .int .i64 0, .int .i64 0, .int .i64 0] (0, 0) _ rfl (by (with_reducible repeat (first | refine qh ?_ _ | refine qj ?_ | refine qg ?_ _)); refine qu (cs := #[.slice none 0 0, .int .i64 0, .int .i64 0, .int .i64 x102003_3]) ?_ 3 _ rfl; (with_reducible repeat (first | refine qh ?_ _ | refine qj ?_ | refine qg ?_ _)); refine qu (cs := #[.slice none 0 0, .int .i64 0, .int .i64 x102002_3, .int .i64 x102003_3]) ?_ 2 _ rfl; (with_reducible repeat (first | refine qh ?_ _ | refine qj ?_ | refine qg ?_ _)); refine qu (cs := #[.slice none 0 0, .int .i64 x102001_3, .int .i64 x102002_3, .int .i64 x102003_3]) ?_ 1 _ rfl; (with_reducible repeat (first | refine qh ?_ _ | refine qj ?_ | refine qg ?_ _)); refine qu (cs := #[.slice none 0 0, .int .i64 x102001_3, .int .i64 x102002_3, .int .i64 x102003_3]) ?_ 0 _ rfl; (with_reducible repeat (first | refine qh ?_ _ | refine qj ?_ | refine qg ?_ _)); exact BK101.out) Try.underlying32 rfl (by kernel_rfl)) rfl ?_
           exact ⟨_, by first | rfl | (simp [qo, qn] <;> rfl) | (simp [*, qo, qn] <;> rfl), by first | exact Kd.R_nil _ _ _ _ _ | exact Kd.N_nil _ _ _ _ _ | exact Kd.V_nil _ _ _ _ _ | exact Kd.Q_nil _ _ _ _ _ | exact Kd.S_nil _ _ _ _ _, by repeat (first | (with_reducible first | exact HB.out | apply qf | apply qa | apply qd | refine qi ?_ GE101.out | refine qi ?_ GE117.out) | exact HB.out)⟩
def impl_within.f (a0 : Int) (a1 : Int) (a2 : Int) : Option (Bool) := if a1 ≤ a0 then (some (decide (a0 ≤ a2))) else (some false)
set_option maxHeartbeats 8000000 in
set_option maxRecDepth 100000 in
theorem impl_within.calls (a0 : Int) (a1 : Int) (a2 : Int) (r : Bool) (w : World) (h : impl_within.f a0 a1 a2 = some r) :
  Calls Try.prog 65 #[.int .i64 a0, .int .i64 a1, .int .i64 a2] w fun e w' => e = .returned (.bool r) ∧ Drawn0 w w' := by
 have H : (if a1 ≤ a0 then (some (decide (a0 ≤ a2))) else (some false)) = some r := h
 clear h
 by_cases c4 : a1 ≤ a0
 ·rw [if_pos c4] at H
  have c4b0 : decide (a1 ≤ a0) = true := decide_eq_true c4
  clear c4
  obtain rfl := Option.some.inj H
  go_enter Try.func65, Try.ntmps65
  go_wp2
  go_ret
  exact ⟨by first | rfl | (simp; done) | (simp [*]; done), by repeat (first | exact Drawn0.refl _ | apply Drawn0.step)⟩
 ·rw [if_neg c4] at H
  have c4b0 : decide (a1 ≤ a0) = false := decide_eq_false c4
  clear c4
  obtain rfl := Option.some.inj H
  go_enter Try.func65, Try.ntmps65
  go_wp2
  go_ret
  exact ⟨by first | rfl | (simp; done) | (simp [*]; done), by repeat (first | exact Drawn0.refl _ | apply Drawn0.step)⟩
def impl_isUser.f (a0 : ByteArray) : Option (Bool) := if (a0.size : Int) ≥ 1 then (some (decide ((a0.size : Int) ≤ 40))) else (some false)
set_option maxHeartbeats 8000000 in
set_option maxRecDepth 100000 in
theorem impl_isUser.calls (a0 : ByteArray) (r : Bool) (w : World) (h : impl_isUser.f a0 = some r) :
  Calls Try.prog 66 #[.string a0] w fun e w' => e = .returned (.bool r) ∧ Drawn0 w w' := by
 have H : (if (a0.size : Int) ≥ 1 then (some (decide ((a0.size : Int) ≤ 40))) else (some false)) = some r := h
 clear h
 by_cases c2 : (a0.size : Int) ≥ 1
 ·rw [if_pos c2] at H
  have c2b0 : decide (1 ≤ (a0.size : Int)) = true := decide_eq_true c2
  have c2b1 : decide (1 ≤ a0.size) = true := decide_eq_true (by omega)
  clear c2
  obtain rfl := Option.some.inj H
  go_enter Try.func66, Try.ntmps66
  go_wp2
  go_ret
  exact ⟨by first | rfl | (simp; done) | (simp [*]; done), by repeat (first | exact Drawn0.refl _ | apply Drawn0.step)⟩
 ·rw [if_neg c2] at H
  have c2b0 : decide (1 ≤ (a0.size : Int)) = false := decide_eq_false c2
  have c2b1 : decide (1 ≤ a0.size) = false := decide_eq_false (by omega)
  clear c2
  obtain rfl := Option.some.inj H
  go_enter Try.func66, Try.ntmps66
  go_wp2
  go_ret
  exact ⟨by first | rfl | (simp; done) | (simp [*]; done), by repeat (first | exact Drawn0.refl _ | apply Drawn0.step)⟩
def cmp_Or_int.l0 : Nat → Int → List Int → Int → Int → Option (Int)
 | 0, _, _, _, _ => none
 | k + 1, x3, x6, x7, x8 => if x8 < x7 then (if 0 ≤ x8 then (if x8 < (x6.length : Int) then (if (rd x6 x8) = x3 then (cmp_Or_int.l0 k x3 x6 x7 (wrap64 (x8 + 1))) else (some (rd x6 x8))) else (none)) else (none)) else (some x3)
def cmp_Or_int.f (k : Nat) (l0 : List Int) : Option (Int) := cmp_Or_int.l0 k 0 l0 (l0.length : Int) 0
set_option maxHeartbeats 8000000 in
set_option maxRecDepth 100000 in
theorem cmp_Or_int.calls (k : Nat) (A0 : Option Addr) (c0 : Nat) (l0 : List Int) (r : Int) (w : World) (hr0 : Kd.C (Kd.int .i64) w A0 l0.length l0) (hc0 : l0.length ≤ c0) (h : cmp_Or_int.f k l0 = some r) :
  Calls Try.prog 100 #[.slice A0 l0.length c0] w fun e w' => e = .returned (.int .i64 r) ∧ Drawn0 w w' := by
 have HR0 := Qz.mk hr0
 have HC0 := Qz.mk hc0
 clear hr0 hc0
 have H : (cmp_Or_int.l0 k 0 l0 (l0.length : Int) 0) = some r := h
 clear h
 have H' := Qz.mk H
 clear H
 go_enter Try.func100, Try.ntmps100
 go_wp2
 go_loopg [8] k (fun kq v8 w' => ∃ (x8_1 : Int), v8 = .int .i64 x8_1 ∧ Qz (cmp_Or_int.l0 kq 0 l0 (l0.length : Int) x8_1 = some r) ∧ Qz (kq ≤ k) ∧ Drawn0 w w')
 case atStart => exact ⟨(0), (by first | rfl | (simp; done) | (simp [*]; done)), H', ⟨Nat.le_refl _⟩, by repeat (first | exact Drawn0.refl _ | apply Drawn0.step)⟩
 case round =>
  clear H'
  try clear c1
  obtain ⟨x8_1, rfl, HA, HK1, ⟨m1, rfl⟩⟩ := hrel
  cases gk with
  | zero => exact absurd HA.out (by simp [cmp_Or_int.l0])
  | succ k1 =>
   have H := HA.out
   clear HA
   simp only [cmp_Or_int.l0] at H
   by_cases c2 : x8_1 < (l0.length : Int)
   ·rw [if_pos c2] at H
    have c2b0 : decide (x8_1 < (l0.length : Int)) = true := decide_eq_true c2
    clear c2
    by_cases c3 : 0 ≤ x8_1
    ·rw [if_pos c3] at H
     have c3b0 : decide (0 ≤ x8_1) = true := decide_eq_true c3
     clear c3
     by_cases c4 : x8_1 < (l0.length : Int)
     ·rw [if_pos c4] at H
      have c4b0 : decide (x8_1 < (l0.length : Int)) = true := decide_eq_true c4
      clear c4
      by_cases c5 : (rd l0 x8_1) = 0
      ·rw [if_pos c5] at H
       have c5b0 : ((rd l0 x8_1) == 0) = true := beq_iff_eq.mpr c5
       have c5b1 : ((rd l0 x8_1) != 0) = false := bne_eq_false_iff_eq.mpr c5
       clear c5
       have H' := Qz.mk H
       clear H
       have p101 : 0 ≤ (x8_1 : Int) := of_decide_eq_true (by first | (with_reducible assumption) | assumption)
       have q101 : x8_1 < (l0.length : Int) := of_decide_eq_true (by first | (with_reducible assumption) | assumption)
       obtain ⟨ad101, e101, hx101_0⟩ := Kd.at_int HR0.out x8_1 p101 q101
       cases e101
       replace p101 := eq_true p101
       replace q101 := eq_true q101
       go_wp2
       go_roundg k1
       case measure => have := HK1.out; omega
       case rel => exact ⟨(wrap64 (x8_1 + 1)), (by first | rfl | (simp; done) | (simp [*]; done)), H', ⟨by have := HK1.out; omega⟩, by repeat (first | exact Drawn0.refl _ | apply Drawn0.step)⟩
      ·rw [if_neg c5] at H
       have c5b0 : ((rd l0 x8_1) == 0) = false := beq_eq_false_iff_ne.mpr c5
       have c5b1 : ((rd l0 x8_1) != 0) = true := bne_iff_ne.mpr c5
       obtain rfl := Option.some.inj H
       have p101 : 0 ≤ (x8_1 : Int) := of_decide_eq_true (by first | (with_reducible assumption) | assumption)
       have q101 : x8_1 < (l0.length : Int) := of_decide_eq_true (by first | (with_reducible assumption) | assumption)
       obtain ⟨ad101, e101, hx101_0⟩ := Kd.at_int HR0.out x8_1 p101 q101
       cases e101
       replace p101 := eq_true p101
       replace q101 := eq_true q101
       go_wp2
       go_ret
       exact ⟨by first | rfl | (simp; done) | (simp [*]; done), by repeat (first | exact Drawn0.refl _ | apply Drawn0.step)⟩
     ·rw [if_neg c4] at H
      exact absurd H (by simp)
    ·rw [if_neg c3] at H
     exact absurd H (by simp)
   ·rw [if_neg c2] at H
    have c2b0 : decide (x8_1 < (l0.length : Int)) = false := decide_eq_false c2
    clear c2
    obtain rfl := Option.some.inj H
    go_wp2
    go_ret
    exact ⟨by first | rfl | (simp; done) | (simp [*]; done), by repeat (first | exact Drawn0.refl _ | apply Drawn0.step)⟩
def cmp_isNaN_string.f (a0 : ByteArray) : Option (Bool) := some (a0.toList != a0.toList)
set_option maxHeartbeats 8000000 in
set_option maxRecDepth 100000 in
theorem cmp_isNaN_string.calls (a0 : ByteArray) (r : Bool) (w : World) (h : cmp_isNaN_string.f a0 = some r) :
  Calls Try.prog 118 #[.string a0] w fun e w' => e = .returned (.bool r) ∧ Drawn0 w w' := by
 have H : (some (a0.toList != a0.toList)) = some r := h
 clear h
 obtain rfl := Option.some.inj H
 go_enter Try.func118, Try.ntmps118
 go_wp2
 go_ret
 exact ⟨by first | rfl | (simp; done) | (simp [*]; done), by repeat (first | exact Drawn0.refl _ | apply Drawn0.step)⟩
def cmp_Compare_string.f (a0 : ByteArray) (a1 : ByteArray) : Option (Int) := (cmp_isNaN_string.f a0).bind fun t101 => ((cmp_isNaN_string.f a1).bind fun t102 => (if t101 = true then (if t102 = true then (some 0) else (some (-1))) else (if t102 = true then (some 1) else (if (Op.bytesLess a0.toList a1.toList) = true then (some (-1)) else (if (Op.bytesLess a1.toList a0.toList) = true then (some 1) else (some 0))))))
set_option maxHeartbeats 8000000 in
set_option maxRecDepth 100000 in
theorem cmp_Compare_string.calls (a0 : ByteArray) (a1 : ByteArray) (r : Int) (w : World) (h : cmp_Compare_string.f a0 a1 = some r) :
  Calls Try.prog 101 #[.string a0, .string a1] w fun e w' => e = .returned (.int .i64 r) ∧ Drawn0 w w' := by
 have H : ((cmp_isNaN_string.f a0).bind fun t101 => ((cmp_isNaN_string.f a1).bind fun t102 => (if t101 = true then (if t102 = true then (some 0) else (some (-1))) else (if t102 = true then (some 1) else (if (Op.bytesLess a0.toList a1.toList) = true then (some (-1)) else (if (Op.bytesLess a1.toList a0.toList) = true then (some 1) else (some 0))))))) = some r := h
 clear h
 replace H := Option.bind_eq_some_iff.mp H
 obtain ⟨t101, A30, H⟩ := H
 replace H : ((cmp_isNaN_string.f a1).bind fun t102 => (if t101 = true then (if t102 = true then (some 0) else (some (-1))) else (if t102 = true then (some 1) else (if (Op.bytesLess a0.toList a1.toList) = true then (some (-1)) else (if (Op.bytesLess a1.toList a0.toList) = true then (some 1) else (some 0)))))) = some r := H
 have A3 := Qz.mk A30
 clear A30
 replace H := Option.bind_eq_some_iff.mp H
 obtain ⟨t102, A40, H⟩ := H
 replace H : (if t101 = true then (if t102 = true then (some 0) else (some (-1))) else (if t102 = true then (some 1) else (if (Op.bytesLess a0.toList a1.toList) = true then (some (-1)) else (if (Op.bytesLess a1.toList a0.toList) = true then (some 1) else (some 0))))) = some r := H
 have A4 := Qz.mk A40
 clear A40
 by_cases c5 : t101 = true
 ·subst c5
  have H1 : (if t102 = true then (some 0) else (some (-1))) = some r := by rw [if_pos rfl] at H; exact H
  clear H
  have H := H1
  clear H1
  by_cases c6 : t102 = true
  ·subst c6
   have H1 : (some 0) = some r := by rw [if_pos rfl] at H; exact H
   clear H
   have H := H1
   clear H1
   obtain rfl := Option.some.inj H
   go_enter Try.func101, Try.ntmps101
   go_wp2_with (first | ((with_reducible refine qm (f := 118) rfl ?_); refine qt (some 8) rfl rfl Try.func118 (by kernel_rfl) rfl #[.string a0] rfl (by (try simp only [List.map_toArray, List.map_cons, List.map_nil]); first | done | rfl) ?_; (with_reducible refine (cmp_isNaN_string.calls a0 true _ A3.out).mono ?_); rintro e w' ⟨rfl, ⟨nd, rfl⟩⟩; refine ⟨_, rfl, ?_⟩) | ((with_reducible refine qm (f := 118) rfl ?_); refine qt (some 10) rfl rfl Try.func118 (by kernel_rfl) rfl #[.string a1] rfl (by (try simp only [List.map_toArray, List.map_cons, List.map_nil]); first | done | rfl) ?_; (with_reducible refine (cmp_isNaN_string.calls a1 true _ A4.out).mono ?_); rintro e w' ⟨rfl, ⟨nd, rfl⟩⟩; refine ⟨_, rfl, ?_⟩))
   go_ret
   exact ⟨by first | rfl | (simp; done) | (simp [*]; done), by repeat (first | exact Drawn0.refl _ | apply Drawn0.step)⟩
  ·replace c6 := Bool.eq_false_iff.mpr c6
   subst c6
   have H1 : (some (-1)) = some r := by rw [if_neg (show ¬ (false = true) by decide)] at H; exact H
   clear H
   have H := H1
   clear H1
   obtain rfl := Option.some.inj H
   go_enter Try.func101, Try.ntmps101
   go_wp2_with (first | ((with_reducible refine qm (f := 118) rfl ?_); refine qt (some 8) rfl rfl Try.func118 (by kernel_rfl) rfl #[.string a0] rfl (by (try simp only [List.map_toArray, List.map_cons, List.map_nil]); first | done | rfl) ?_; (with_reducible refine (cmp_isNaN_string.calls a0 true _ A3.out).mono ?_); rintro e w' ⟨rfl, ⟨nd, rfl⟩⟩; refine ⟨_, rfl, ?_⟩) | ((with_reducible refine qm (f := 118) rfl ?_); refine qt (some 10) rfl rfl Try.func118 (by kernel_rfl) rfl #[.string a1] rfl (by (try simp only [List.map_toArray, List.map_cons, List.map_nil]); first | done | rfl) ?_; (with_reducible refine (cmp_isNaN_string.calls a1 false _ A4.out).mono ?_); rintro e w' ⟨rfl, ⟨nd, rfl⟩⟩; refine ⟨_, rfl, ?_⟩))
   go_ret
   exact ⟨by first | rfl | (simp; done) | (simp [*]; done), by repeat (first | exact Drawn0.refl _ | apply Drawn0.step)⟩
 ·replace c5 := Bool.eq_false_iff.mpr c5
  subst c5
  have H1 : (if t102 = true then (some 1) else (if (Op.bytesLess a0.toList a1.toList) = true then (some (-1)) else (if (Op.bytesLess a1.toList a0.toList) = true then (some 1) else (some 0)))) = some r := by rw [if_neg (show ¬ (false = true) by decide)] at H; exact H
  clear H
  have H := H1
  clear H1
  by_cases c7 : t102 = true
  ·subst c7
   have H1 : (some 1) = some r := by rw [if_pos rfl] at H; exact H
   clear H
   have H := H1
   clear H1
   obtain rfl := Option.some.inj H
   go_enter Try.func101, Try.ntmps101
   go_wp2_with (first | ((with_reducible refine qm (f := 118) rfl ?_); refine qt (some 8) rfl rfl Try.func118 (by kernel_rfl) rfl #[.string a0] rfl (by (try simp only [List.map_toArray, List.map_cons, List.map_nil]); first | done | rfl) ?_; (with_reducible refine (cmp_isNaN_string.calls a0 false _ A3.out).mono ?_); rintro e w' ⟨rfl, ⟨nd, rfl⟩⟩; refine ⟨_, rfl, ?_⟩) | ((with_reducible refine qm (f := 118) rfl ?_); refine qt (some 10) rfl rfl Try.func118 (by kernel_rfl) rfl #[.string a1] rfl (by (try simp only [List.map_toArray, List.map_cons, List.map_nil]); first | done | rfl) ?_; (with_reducible refine (cmp_isNaN_string.calls a1 true _ A4.out).mono ?_); rintro e w' ⟨rfl, ⟨nd, rfl⟩⟩; refine ⟨_, rfl, ?_⟩))
   go_ret
   exact ⟨by first | rfl | (simp; done) | (simp [*]; done), by repeat (first | exact Drawn0.refl _ | apply Drawn0.step)⟩
  ·replace c7 := Bool.eq_false_iff.mpr c7
   subst c7
   have H1 : (if (Op.bytesLess a0.toList a1.toList) = true then (some (-1)) else (if (Op.bytesLess a1.toList a0.toList) = true then (some 1) else (some 0))) = some r := by rw [if_neg (show ¬ (false = true) by decide)] at H; exact H
   clear H
   have H := H1
   clear H1
   by_cases c8 : (Op.bytesLess a0.toList a1.toList) = true
   ·rw [if_pos c8] at H
    have c8b0 : (Op.bytesLess a0.toList a1.toList) = true := c8
    clear c8
    obtain rfl := Option.some.inj H
    go_enter Try.func101, Try.ntmps101
    go_wp2_with (first | ((with_reducible refine qm (f := 118) rfl ?_); refine qt (some 8) rfl rfl Try.func118 (by kernel_rfl) rfl #[.string a0] rfl (by (try simp only [List.map_toArray, List.map_cons, List.map_nil]); first | done | rfl) ?_; (with_reducible refine (cmp_isNaN_string.calls a0 false _ A3.out).mono ?_); rintro e w' ⟨rfl, ⟨nd, rfl⟩⟩; refine ⟨_, rfl, ?_⟩) | ((with_reducible refine qm (f := 118) rfl ?_); refine qt (some 10) rfl rfl Try.func118 (by kernel_rfl) rfl #[.string a1] rfl (by (try simp only [List.map_toArray, List.map_cons, List.map_nil]); first | done | rfl) ?_; (with_reducible refine (cmp_isNaN_string.calls a1 false _ A4.out).mono ?_); rintro e w' ⟨rfl, ⟨nd, rfl⟩⟩; refine ⟨_, rfl, ?_⟩))
    go_ret
    exact ⟨by first | rfl | (simp; done) | (simp [*]; done), by repeat (first | exact Drawn0.refl _ | apply Drawn0.step)⟩
   ·rw [if_neg c8] at H
    have c8b0 : (Op.bytesLess a0.toList a1.toList) = false := by simpa using c8
    clear c8
    by_cases c9 : (Op.bytesLess a1.toList a0.toList) = true
    ·rw [if_pos c9] at H
     have c9b0 : (Op.bytesLess a1.toList a0.toList) = true := c9
     clear c9
     obtain rfl := Option.some.inj H
     go_enter Try.func101, Try.ntmps101
     go_wp2_with (first | ((with_reducible refine qm (f := 118) rfl ?_); refine qt (some 8) rfl rfl Try.func118 (by kernel_rfl) rfl #[.string a0] rfl (by (try simp only [List.map_toArray, List.map_cons, List.map_nil]); first | done | rfl) ?_; (with_reducible refine (cmp_isNaN_string.calls a0 false _ A3.out).mono ?_); rintro e w' ⟨rfl, ⟨nd, rfl⟩⟩; refine ⟨_, rfl, ?_⟩) | ((with_reducible refine qm (f := 118) rfl ?_); refine qt (some 10) rfl rfl Try.func118 (by kernel_rfl) rfl #[.string a1] rfl (by (try simp only [List.map_toArray, List.map_cons, List.map_nil]); first | done | rfl) ?_; (with_reducible refine (cmp_isNaN_string.calls a1 false _ A4.out).mono ?_); rintro e w' ⟨rfl, ⟨nd, rfl⟩⟩; refine ⟨_, rfl, ?_⟩))
     go_ret
     exact ⟨by first | rfl | (simp; done) | (simp [*]; done), by repeat (first | exact Drawn0.refl _ | apply Drawn0.step)⟩
    ·rw [if_neg c9] at H
     have c9b0 : (Op.bytesLess a1.toList a0.toList) = false := by simpa using c9
     clear c9
     obtain rfl := Option.some.inj H
     go_enter Try.func101, Try.ntmps101
     go_wp2_with (first | ((with_reducible refine qm (f := 118) rfl ?_); refine qt (some 8) rfl rfl Try.func118 (by kernel_rfl) rfl #[.string a0] rfl (by (try simp only [List.map_toArray, List.map_cons, List.map_nil]); first | done | rfl) ?_; (with_reducible refine (cmp_isNaN_string.calls a0 false _ A3.out).mono ?_); rintro e w' ⟨rfl, ⟨nd, rfl⟩⟩; refine ⟨_, rfl, ?_⟩) | ((with_reducible refine qm (f := 118) rfl ?_); refine qt (some 10) rfl rfl Try.func118 (by kernel_rfl) rfl #[.string a1] rfl (by (try simp only [List.map_toArray, List.map_cons, List.map_nil]); first | done | rfl) ?_; (with_reducible refine (cmp_isNaN_string.calls a1 false _ A4.out).mono ?_); rintro e w' ⟨rfl, ⟨nd, rfl⟩⟩; refine ⟨_, rfl, ?_⟩))
     go_ret
     exact ⟨by first | rfl | (simp; done) | (simp [*]; done), by repeat (first | exact Drawn0.refl _ | apply Drawn0.step)⟩
def cmp_isNaN_int64.f (a0 : Int) : Option (Bool) := some (a0 != a0)
set_option maxHeartbeats 8000000 in
set_option maxRecDepth 100000 in
theorem cmp_isNaN_int64.calls (a0 : Int) (r : Bool) (w : World) (h : cmp_isNaN_int64.f a0 = some r) :
  Calls Try.prog 117 #[.int .i64 a0] w fun e w' => e = .returned (.bool r) ∧ Drawn0 w w' := by
 have H : (some (a0 != a0)) = some r := h
 clear h
 obtain rfl := Option.some.inj H
 go_enter Try.func117, Try.ntmps117
 go_wp2
 go_ret
 exact ⟨by first | rfl | (simp; done) | (simp [*]; done), by repeat (first | exact Drawn0.refl _ | apply Drawn0.step)⟩
def cmp_Compare_int64.f (a0 : Int) (a1 : Int) : Option (Int) := (cmp_isNaN_int64.f a0).bind fun t101 => ((cmp_isNaN_int64.f a1).bind fun t102 => (if t101 = true then (if t102 = true then (some 0) else (some (-1))) else (if t102 = true then (some 1) else (if a0 < a1 then (some (-1)) else (if a0 > a1 then (some 1) else (some 0))))))
set_option maxHeartbeats 8000000 in
set_option maxRecDepth 100000 in
theorem cmp_Compare_int64.calls (a0 : Int) (a1 : Int) (r : Int) (w : World) (h : cmp_Compare_int64.f a0 a1 = some r) :
  Calls Try.prog 99 #[.int .i64 a0, .int .i64 a1] w fun e w' => e = .returned (.int .i64 r) ∧ Drawn0 w w' := by
 have H : ((cmp_isNaN_int64.f a0).bind fun t101 => ((cmp_isNaN_int64.f a1).bind fun t102 => (if t101 = true then (if t102 = true then (some 0) else (some (-1))) else (if t102 = true then (some 1) else (if a0 < a1 then (some (-1)) else (if a0 > a1 then (some 1) else (some 0))))))) = some r := h
 clear h
 replace H := Option.bind_eq_some_iff.mp H
 obtain ⟨t101, A30, H⟩ := H
 replace H : ((cmp_isNaN_int64.f a1).bind fun t102 => (if t101 = true then (if t102 = true then (some 0) else (some (-1))) else (if t102 = true then (some 1) else (if a0 < a1 then (some (-1)) else (if a0 > a1 then (some 1) else (some 0)))))) = some r := H
 have A3 := Qz.mk A30
 clear A30
 replace H := Option.bind_eq_some_iff.mp H
 obtain ⟨t102, A40, H⟩ := H
 replace H : (if t101 = true then (if t102 = true then (some 0) else (some (-1))) else (if t102 = true then (some 1) else (if a0 < a1 then (some (-1)) else (if a0 > a1 then (some 1) else (some 0))))) = some r := H
 have A4 := Qz.mk A40
 clear A40
 by_cases c5 : t101 = true
 ·subst c5
  have H1 : (if t102 = true then (some 0) else (some (-1))) = some r := by rw [if_pos rfl] at H; exact H
  clear H
  have H := H1
  clear H1
  by_cases c6 : t102 = true
  ·subst c6
   have H1 : (some 0) = some r := by rw [if_pos rfl] at H; exact H
   clear H
   have H := H1
   clear H1
   obtain rfl := Option.some.inj H
   go_enter Try.func99, Try.ntmps99
   go_wp2_with (first | ((with_reducible refine qm (f := 117) rfl ?_); refine qt (some 8) rfl rfl Try.func117 (by kernel_rfl) rfl #[.int .i64 a0] rfl (by (try simp only [List.map_toArray, List.map_cons, List.map_nil]); first | done | rfl) ?_; (with_reducible refine (cmp_isNaN_int64.calls a0 true _ A3.out).mono ?_); rintro e w' ⟨rfl, ⟨nd, rfl⟩⟩; refine ⟨_, rfl, ?_⟩) | ((with_reducible refine qm (f := 117) rfl ?_); refine qt (some 10) rfl rfl Try.func117 (by kernel_rfl) rfl #[.int .i64 a1] rfl (by (try simp only [List.map_toArray, List.map_cons, List.map_nil]); first | done | rfl) ?_; (with_reducible refine (cmp_isNaN_int64.calls a1 true _ A4.out).mono ?_); rintro e w' ⟨rfl, ⟨nd, rfl⟩⟩; refine ⟨_, rfl, ?_⟩))
   go_ret
   exact ⟨by first | rfl | (simp; done) | (simp [*]; done), by repeat (first | exact Drawn0.refl _ | apply Drawn0.step)⟩
  ·replace c6 := Bool.eq_false_iff.mpr c6
   subst c6
   have H1 : (some (-1)) = some r := by rw [if_neg (show ¬ (false = true) by decide)] at H; exact H
   clear H
   have H := H1
   clear H1
   obtain rfl := Option.some.inj H
   go_enter Try.func99, Try.ntmps99
   go_wp2_with (first | ((with_reducible refine qm (f := 117) rfl ?_); refine qt (some 8) rfl rfl Try.func117 (by kernel_rfl) rfl #[.int .i64 a0] rfl (by (try simp only [List.map_toArray, List.map_cons, List.map_nil]); first | done | rfl) ?_; (with_reducible refine (cmp_isNaN_int64.calls a0 true _ A3.out).mono ?_); rintro e w' ⟨rfl, ⟨nd, rfl⟩⟩; refine ⟨_, rfl, ?_⟩) | ((with_reducible refine qm (f := 117) rfl ?_); refine qt (some 10) rfl rfl Try.func117 (by kernel_rfl) rfl #[.int .i64 a1] rfl (by (try simp only [List.map_toArray, List.map_cons, List.map_nil]); first | done | rfl) ?_; (with_reducible refine (cmp_isNaN_int64.calls a1 false _ A4.out).mono ?_); rintro e w' ⟨rfl, ⟨nd, rfl⟩⟩; refine ⟨_, rfl, ?_⟩))
   go_ret
   exact ⟨by first | rfl | (simp; done) | (simp [*]; done), by repeat (first | exact Drawn0.refl _ | apply Drawn0.step)⟩
 ·replace c5 := Bool.eq_false_iff.mpr c5
  subst c5
  have H1 : (if t102 = true then (some 1) else (if a0 < a1 then (some (-1)) else (if a0 > a1 then (some 1) else (some 0)))) = some r := by rw [if_neg (show ¬ (false = true) by decide)] at H; exact H
  clear H
  have H := H1
  clear H1
  by_cases c7 : t102 = true
  ·subst c7
   have H1 : (some 1) = some r := by rw [if_pos rfl] at H; exact H
   clear H
   have H := H1
   clear H1
   obtain rfl := Option.some.inj H
   go_enter Try.func99, Try.ntmps99
   go_wp2_with (first | ((with_reducible refine qm (f := 117) rfl ?_); refine qt (some 8) rfl rfl Try.func117 (by kernel_rfl) rfl #[.int .i64 a0] rfl (by (try simp only [List.map_toArray, List.map_cons, List.map_nil]); first | done | rfl) ?_; (with_reducible refine (cmp_isNaN_int64.calls a0 false _ A3.out).mono ?_); rintro e w' ⟨rfl, ⟨nd, rfl⟩⟩; refine ⟨_, rfl, ?_⟩) | ((with_reducible refine qm (f := 117) rfl ?_); refine qt (some 10) rfl rfl Try.func117 (by kernel_rfl) rfl #[.int .i64 a1] rfl (by (try simp only [List.map_toArray, List.map_cons, List.map_nil]); first | done | rfl) ?_; (with_reducible refine (cmp_isNaN_int64.calls a1 true _ A4.out).mono ?_); rintro e w' ⟨rfl, ⟨nd, rfl⟩⟩; refine ⟨_, rfl, ?_⟩))
   go_ret
   exact ⟨by first | rfl | (simp; done) | (simp [*]; done), by repeat (first | exact Drawn0.refl _ | apply Drawn0.step)⟩
  ·replace c7 := Bool.eq_false_iff.mpr c7
   subst c7
   have H1 : (if a0 < a1 then (some (-1)) else (if a0 > a1 then (some 1) else (some 0))) = some r := by rw [if_neg (show ¬ (false = true) by decide)] at H; exact H
   clear H
   have H := H1
   clear H1
   by_cases c8 : a0 < a1
   ·rw [if_pos c8] at H
    have c8b0 : decide (a0 < a1) = true := decide_eq_true c8
    clear c8
    obtain rfl := Option.some.inj H
    go_enter Try.func99, Try.ntmps99
    go_wp2_with (first | ((with_reducible refine qm (f := 117) rfl ?_); refine qt (some 8) rfl rfl Try.func117 (by kernel_rfl) rfl #[.int .i64 a0] rfl (by (try simp only [List.map_toArray, List.map_cons, List.map_nil]); first | done | rfl) ?_; (with_reducible refine (cmp_isNaN_int64.calls a0 false _ A3.out).mono ?_); rintro e w' ⟨rfl, ⟨nd, rfl⟩⟩; refine ⟨_, rfl, ?_⟩) | ((with_reducible refine qm (f := 117) rfl ?_); refine qt (some 10) rfl rfl Try.func117 (by kernel_rfl) rfl #[.int .i64 a1] rfl (by (try simp only [List.map_toArray, List.map_cons, List.map_nil]); first | done | rfl) ?_; (with_reducible refine (cmp_isNaN_int64.calls a1 false _ A4.out).mono ?_); rintro e w' ⟨rfl, ⟨nd, rfl⟩⟩; refine ⟨_, rfl, ?_⟩))
    go_ret
    exact ⟨by first | rfl | (simp; done) | (simp [*]; done), by repeat (first | exact Drawn0.refl _ | apply Drawn0.step)⟩
   ·rw [if_neg c8] at H
    have c8b0 : decide (a0 < a1) = false := decide_eq_false c8
    clear c8
    by_cases c9 : a0 > a1
    ·rw [if_pos c9] at H
     have c9b0 : decide (a1 < a0) = true := decide_eq_true c9
     clear c9
     obtain rfl := Option.some.inj H
     go_enter Try.func99, Try.ntmps99
     go_wp2_with (first | ((with_reducible refine qm (f := 117) rfl ?_); refine qt (some 8) rfl rfl Try.func117 (by kernel_rfl) rfl #[.int .i64 a0] rfl (by (try simp only [List.map_toArray, List.map_cons, List.map_nil]); first | done | rfl) ?_; (with_reducible refine (cmp_isNaN_int64.calls a0 false _ A3.out).mono ?_); rintro e w' ⟨rfl, ⟨nd, rfl⟩⟩; refine ⟨_, rfl, ?_⟩) | ((with_reducible refine qm (f := 117) rfl ?_); refine qt (some 10) rfl rfl Try.func117 (by kernel_rfl) rfl #[.int .i64 a1] rfl (by (try simp only [List.map_toArray, List.map_cons, List.map_nil]); first | done | rfl) ?_; (with_reducible refine (cmp_isNaN_int64.calls a1 false _ A4.out).mono ?_); rintro e w' ⟨rfl, ⟨nd, rfl⟩⟩; refine ⟨_, rfl, ?_⟩))
     go_ret
     exact ⟨by first | rfl | (simp; done) | (simp [*]; done), by repeat (first | exact Drawn0.refl _ | apply Drawn0.step)⟩
    ·rw [if_neg c9] at H
     have c9b0 : decide (a1 < a0) = false := decide_eq_false c9
     clear c9
     obtain rfl := Option.some.inj H
     go_enter Try.func99, Try.ntmps99
     go_wp2_with (first | ((with_reducible refine qm (f := 117) rfl ?_); refine qt (some 8) rfl rfl Try.func117 (by kernel_rfl) rfl #[.int .i64 a0] rfl (by (try simp only [List.map_toArray, List.map_cons, List.map_nil]); first | done | rfl) ?_; (with_reducible refine (cmp_isNaN_int64.calls a0 false _ A3.out).mono ?_); rintro e w' ⟨rfl, ⟨nd, rfl⟩⟩; refine ⟨_, rfl, ?_⟩) | ((with_reducible refine qm (f := 117) rfl ?_); refine qt (some 10) rfl rfl Try.func117 (by kernel_rfl) rfl #[.int .i64 a1] rfl (by (try simp only [List.map_toArray, List.map_cons, List.map_nil]); first | done | rfl) ?_; (with_reducible refine (cmp_isNaN_int64.calls a1 false _ A4.out).mono ?_); rintro e w' ⟨rfl, ⟨nd, rfl⟩⟩; refine ⟨_, rfl, ?_⟩))
     go_ret
     exact ⟨by first | rfl | (simp; done) | (simp [*]; done), by repeat (first | exact Drawn0.refl _ | apply Drawn0.step)⟩
def impl_cmpMetas.j0 : Nat → Bool → Int → Int → ByteArray → ByteArray → Int → Int → Int → ByteArray → ByteArray → Int → Option (Int)
 | 0, _, _, _, _, _, _, _, _, _, _, _ => none
 | k + 1, x14, x102000, x102001, x102002, x102003, x102004, x103000, x103001, x103002, x103003, x103004 => if x14 = true then ((cmp_Compare_int64.f x103000 x102000).bind fun t103 => (some t103)) else ((cmp_Compare_int64.f x102001 x103001).bind fun t104 => ((cmp_Compare_string.f x102002 x103002).bind fun t105 => ((cmp_Or_int.f k (([t104, t105] : List Int))).bind fun t109 => (some t109))))
def impl_cmpMetas.f (k : Nat) (a0_0 : Int) (a0_1 : Int) (a0_2 : ByteArray) (a0_3 : ByteArray) (a0_4 : Int) (a1_0 : Int) (a1_1 : Int) (a1_2 : ByteArray) (a1_3 : ByteArray) (a1_4 : Int) : Option (Int) := if a0_1 = a1_1 then (impl_cmpMetas.j0 k (a0_1 == 0) a0_0 a0_1 a0_2 a0_3 a0_4 a1_0 a1_1 a1_2 a1_3 a1_4) else (impl_cmpMetas.j0 k false a0_0 a0_1 a0_2 a0_3 a0_4 a1_0 a1_1 a1_2 a1_3 a1_4)
def impl_cmpMetas.T3 : Bool × List (List Nat × List Nat) := (true, [([], []), ([0], [0]), ([], []), ([2], [2]), ([1, 3], [1, 3]), ([], []), ([5], [5]), ([], []), ([7], [7]), ([6, 8, 4], [6, 8]), ([4, 9], [4, 9]), ([10, 9], [10]), ([11, 11, 0, 1, 2, 3, 4, 5, 6, 7, 8, 9, 10, 11], [11])])
def impl_cmpMetas.B3 : List Nat := [0, 1, 0, 4, 15, 0, 32, 0, 128, 511, 1023, 2047, 4095]
theorem impl_cmpMetas.tab3 : rtab .any (opsOf Try.f67 3) = impl_cmpMetas.T3 := by kernel_rfl
theorem impl_cmpMetas.bits3 : waitsOk impl_cmpMetas.T3.2 impl_cmpMetas.B3 = true := by kernel_rfl
set_option maxHeartbeats 8000000 in
set_option maxRecDepth 100000 in
theorem impl_cmpMetas.calls (k : Nat) (a0_0 : Int) (a0_1 : Int) (a0_2 : ByteArray) (a0_3 : ByteArray) (a0_4 : Int) (a1_0 : Int) (a1_1 : Int) (a1_2 : ByteArray) (a1_3 : ByteArray) (a1_4 : Int) (r : Int) (w : World) (h : impl_cmpMetas.f k a0_0 a0_1 a0_2 a0_3 a0_4 a1_0 a1_1 a1_2 a1_3 a1_4 = some r) :
  Calls Try.prog 67 #[.agg #[.int .i64 a0_0, .int .i64 a0_1, .string a0_2, .string a0_3, .int .i64 a0_4], .agg #[.int .i64 a1_0, .int .i64 a1_1, .string a1_2, .string a1_3, .int .i64 a1_4]] w fun e w' => e = .returned (.int .i64 r) ∧ Below w.heap.size w w' := by
 have hu66 := Try.underlying66
 have HB := Qz.mk (Below.refl w.heap.size w)
 have H : (if a0_1 = a1_1 then (impl_cmpMetas.j0 k (a0_1 == 0) a0_0 a0_1 a0_2 a0_3 a0_4 a1_0 a1_1 a1_2 a1_3 a1_4) else (impl_cmpMetas.j0 k false a0_0 a0_1 a0_2 a0_3 a0_4 a1_0 a1_1 a1_2 a1_3 a1_4)) = some r := h
 clear h
 have HC3 := Qz.mk H
 clear H
 go_enter Try.func67, Try.ntmps67
 go_upto_region 1 with (first | ((with_reducible refine gate_dst (N := 2) rfl ?_); refine qx ?hg (N := 2) ?hd (cs := #[.int .i64 a0_0, .int .i64 a0_1, .string a0_2, .string a0_3, .int .i64 a0_4]) (t := 66) ?hr ?_; (case hd => rfl); (case hg => rfl); (case hr => first | (go_simp; done) | (go_simp; rfl)); intro gb101 hg w4 hbox hb; have BK101 := Qz.mk (hbox); have GW101 := Qz.mk ((by rw [hg]; exact (qs (by repeat (first | (with_reducible first | exact HB.out | apply qf | apply qa | apply qd) | exact HB.out))) : w.heap.size ≤ gb101)); have GE101 := GW101; replace HB := Qz.mk (qp (by repeat (first | (with_reducible first | exact HB.out | apply qf | apply qa | apply qd) | exact HB.out)) hb); clear hb hbox hg) | ((with_reducible refine gate_dst (N := 3) rfl ?_); refine qx ?hg (N := 3) ?hd (cs := #[.int .i64 a1_0, .int .i64 a1_1, .string a1_2, .string a1_3, .int .i64 a1_4]) (t := 66) ?hr ?_; (case hd => rfl); (case hg => rfl); (case hr => first | (go_simp; done) | (go_simp; rfl)); intro gb102 hg w5 hbox hb; have BK102 := Qz.mk (hbox); have GW102 := Qz.mk ((by rw [hg]; exact (qs (by repeat (first | (with_reducible first | exact HB.out | apply qf | apply qa | apply qd | refine qi ?_ GE101.out) | exact HB.out))) : w.heap.size ≤ gb102)); have GE102 := GW102; replace HB := Qz.mk (qp (by repeat (first | (with_reducible first | exact HB.out | apply qf | apply qa | apply qd | refine qi ?_ GE101.out) | exact HB.out)) hb); have NB101_102 := Qz.mk ((by rw [hg]; exact Nat.ne_of_lt (blk_lt (g := gb101) (o := .cells #[.int .i64 a0_0, .int .i64 a0_1, .string a0_2, .string a0_3, .int .i64 a0_4] 66 (0, 0)) (by (with_reducible repeat (first | refine qh ?_ _ | refine qj ?_ | refine qg ?_ _)); exact BK101.out)) : gb101 ≠ gb102)); have NB102_101 := Qz.mk ((by rw [hg]; exact Nat.ne_of_gt (blk_lt (g := gb101) (o := .cells #[.int .i64 a0_0, .int .i64 a0_1, .string a0_2, .string a0_3, .int .i64 a0_4] 66 (0, 0)) (by (with_reducible repeat (first | refine qh ?_ _ | refine qj ?_ | refine qg ?_ _)); exact BK101.out)) : gb102 ≠ gb101)); replace BK101 := Qz.mk (qr (g := gb101) (o := .cells #[.int .i64 a0_0, .int .i64 a0_1, .string a0_2, .string a0_3, .int .i64 a0_4] 66 (0, 0)) (by (with_reducible repeat (first | refine qh ?_ _ | refine qj ?_ | refine qg ?_ _)); exact BK101.out) hb); clear hb hbox hg))
 (try simp only [Act.put, sq1, sq2, sq3])
 go_cut [14] (fun v14 wc => ∃ (kq : Nat) (x14_2 : Bool), v14 = .bool x14_2 ∧ Qz (impl_cmpMetas.j0 kq x14_2 a0_0 a0_1 a0_2 a0_3 a0_4 a1_0 a1_1 a1_2 a1_3 a1_4 = some r) ∧ Qz (kq ≤ k) ∧ Qz (wc.heap[gb101]? = some (.cells #[.int .i64 a0_0, .int .i64 a0_1, .string a0_2, .string a0_3, .int .i64 a0_4] 66 (0, 0))) ∧ Qz (wc.heap[gb102]? = some (.cells #[.int .i64 a1_0, .int .i64 a1_1, .string a1_2, .string a1_3, .int .i64 a1_4] 66 (0, 0))) ∧ Qz (Below w.heap.size w wc))
 case first =>
  have H := HC3.out
  clear HC3
  by_cases c6 : a0_1 = a1_1
  ·rw [if_pos c6] at H
   have c6b0 : (a0_1 == a1_1) = true := beq_iff_eq.mpr c6
   have c6b1 : (a0_1 != a1_1) = false := bne_eq_false_iff_eq.mpr c6
   clear c6
   (first | rw [c6b0] | (simp only [i64_w, i32_w]; rw [c6b0]) | skip)
   have H' := Qz.mk H
   clear H
   have hnb7 := NB101_102.out
   have hnc7 := NB102_101.out
   have hcz8_0 : w5.cell? ⟨gb101, 0, none⟩ = some (.int .i64 a0_0) := (qe BK101.out 0).trans rfl
   have hcz8_1 : w5.cell? ⟨gb101, 1, none⟩ = some (.int .i64 a0_1) := (qe BK101.out 1).trans rfl
   have hcz8_2 : w5.cell? ⟨gb101, 2, none⟩ = some (.string a0_2) := (qe BK101.out 2).trans rfl
   have hcz8_3 : w5.cell? ⟨gb101, 3, none⟩ = some (.string a0_3) := (qe BK101.out 3).trans rfl
   have hcz8_4 : w5.cell? ⟨gb101, 4, none⟩ = some (.int .i64 a0_4) := (qe BK101.out 4).trans rfl
   have hfz8_0 := qc BK101.out 0
   have hfz8_1 := qc BK101.out 1
   have hfz8_2 := qc BK101.out 2
   have hfz8_3 := qc BK101.out 3
   have hfz8_4 := qc BK101.out 4
   have hcz9_0 : w5.cell? ⟨gb102, 0, none⟩ = some (.int .i64 a1_0) := (qe BK102.out 0).trans rfl
   have hcz9_1 : w5.cell? ⟨gb102, 1, none⟩ = some (.int .i64 a1_1) := (qe BK102.out 1).trans rfl
   have hcz9_2 : w5.cell? ⟨gb102, 2, none⟩ = some (.string a1_2) := (qe BK102.out 2).trans rfl
   have hcz9_3 : w5.cell? ⟨gb102, 3, none⟩ = some (.string a1_3) := (qe BK102.out 3).trans rfl
   have hcz9_4 : w5.cell? ⟨gb102, 4, none⟩ = some (.int .i64 a1_4) := (qe BK102.out 4).trans rfl
   have hfz9_0 := qc BK102.out 0
   have hfz9_1 := qc BK102.out 1
   have hfz9_2 := qc BK102.out 2
   have hfz9_3 := qc BK102.out 3
   have hfz9_4 := qc BK102.out 4
   go_wp2
   go_meet
   case rel => exact ⟨_, ((a0_1 == 0)), (by first | rfl | (simp; done) | (simp [*]; done)), H', ⟨by first | omega | exact Nat.le_refl _⟩, ⟨by (with_reducible repeat (first | refine qh ?_ _ | refine qj ?_ | refine qg ?_ _)); exact BK101.out⟩, ⟨by (with_reducible repeat (first | refine qh ?_ _ | refine qj ?_ | refine qg ?_ _)); exact BK102.out⟩, ⟨by repeat (first | (with_reducible first | exact HB.out | apply qf | apply qa | apply qd | refine qi ?_ GE101.out | refine qi ?_ GE102.out) | exact HB.out)⟩⟩
  ·rw [if_neg c6] at H
   have c6b0 : (a0_1 == a1_1) = false := beq_eq_false_iff_ne.mpr c6
   have c6b1 : (a0_1 != a1_1) = true := bne_iff_ne.mpr c6
   (first | rw [c6b0] | (simp only [i64_w, i32_w]; rw [c6b0]) | skip)
   have H' := Qz.mk H
   clear H
   have hnb10 := NB101_102.out
   have hnc10 := NB102_101.out
   have hcz11_0 : w5.cell? ⟨gb101, 0, none⟩ = some (.int .i64 a0_0) := (qe BK101.out 0).trans rfl
   have hcz11_1 : w5.cell? ⟨gb101, 1, none⟩ = some (.int .i64 a0_1) := (qe BK101.out 1).trans rfl
   have hcz11_2 : w5.cell? ⟨gb101, 2, none⟩ = some (.string a0_2) := (qe BK101.out 2).trans rfl
   have hcz11_3 : w5.cell? ⟨gb101, 3, none⟩ = some (.string a0_3) := (qe BK101.out 3).trans rfl
   have hcz11_4 : w5.cell? ⟨gb101, 4, none⟩ = some (.int .i64 a0_4) := (qe BK101.out 4).trans rfl
   have hfz11_0 := qc BK101.out 0
   have hfz11_1 := qc BK101.out 1
   have hfz11_2 := qc BK101.out 2
   have hfz11_3 := qc BK101.out 3
   have hfz11_4 := qc BK101.out 4
   have hcz12_0 : w5.cell? ⟨gb102, 0, none⟩ = some (.int .i64 a1_0) := (qe BK102.out 0).trans rfl
   have hcz12_1 : w5.cell? ⟨gb102, 1, none⟩ = some (.int .i64 a1_1) := (qe BK102.out 1).trans rfl
   have hcz12_2 : w5.cell? ⟨gb102, 2, none⟩ = some (.string a1_2) := (qe BK102.out 2).trans rfl
   have hcz12_3 : w5.cell? ⟨gb102, 3, none⟩ = some (.string a1_3) := (qe BK102.out 3).trans rfl
   have hcz12_4 : w5.cell? ⟨gb102, 4, none⟩ = some (.int .i64 a1_4) := (qe BK102.out 4).trans rfl
   have hfz12_0 := qc BK102.out 0
   have hfz12_1 := qc BK102.out 1
   have hfz12_2 := qc BK102.out 2
   have hfz12_3 := qc BK102.out 3
   have hfz12_4 := qc BK102.out 4
   go_wp2
   go_meet
   case rel => exact ⟨_, (false), (by first | rfl | (simp; done) | (simp [*]; done)), H', ⟨by first | omega | exact Nat.le_refl _⟩, ⟨by (with_reducible repeat (first | refine qh ?_ _ | refine qj ?_ | refine qg ?_ _)); exact BK101.out⟩, ⟨by (with_reducible repeat (first | refine qh ?_ _ | refine qj ?_ | refine qg ?_ _)); exact BK102.out⟩, ⟨by repeat (first | (with_reducible first | exact HB.out | apply qf | apply qa | apply qd | refine qi ?_ GE101.out | refine qi ?_ GE102.out) | exact HB.out)⟩⟩
 case rest =>
  clear HC3
  try clear c1
  try clear p2
  try clear c6
  try clear c6b0
  try clear c6b1
  try clear c7
  try clear c10
  try clear hcz11_0
  try clear hcz11_1
  try clear hcz11_2
  try clear hcz11_3
  try clear hcz11_4
  try clear hcz12_0
  try clear hcz12_1
  try clear hcz12_2
  try clear hcz12_3
  try clear hcz12_4
  try clear hcz8_0
  try clear hcz8_1
  try clear hcz8_2
  try clear hcz8_3
  try clear hcz8_4
  try clear hcz9_0
  try clear hcz9_1
  try clear hcz9_2
  try clear hcz9_3
  try clear hcz9_4
  try clear hfz11_0
  try clear hfz11_1
  try clear hfz11_2
  try clear hfz11_3
  try clear hfz11_4
  try clear hfz12_0
  try clear hfz12_1
  try clear hfz12_2
  try clear hfz12_3
  try clear hfz12_4
  try clear hfz8_0
  try clear hfz8_1
  try clear hfz8_2
  try clear hfz8_3
  try clear hfz8_4
  try clear hfz9_0
  try clear hfz9_1
  try clear hfz9_2
  try clear hfz9_3
  try clear hfz9_4
  obtain ⟨kq, x14_2, rfl, HA, HJ2, BK101, BK102, HB⟩ := hcut
  cases kq with
  | zero => exact absurd HA.out (by simp [impl_cmpMetas.j0])
  | succ kj2 =>
   have H := HA.out
   clear HA
   simp only [impl_cmpMetas.j0] at H
   by_cases c13 : x14_2 = true
   ·subst c13
    have H1 : ((cmp_Compare_int64.f a1_0 a0_0).bind fun t103 => (some t103)) = some r := by rw [if_pos rfl] at H; exact H
    clear H
    have H := H1
    clear H1
    replace H := Option.bind_eq_some_iff.mp H
    obtain ⟨t103, A140, H⟩ := H
    replace H : (some t103) = some r := H
    have A14 := Qz.mk A140
    clear A140
    obtain rfl := Option.some.inj H
    have hnb15 := NB102_101.out
    have hnc15 := NB101_102.out
    have hcz16_0 : wc.cell? ⟨gb102, 0, none⟩ = some (.int .i64 a1_0) := (qe BK102.out 0).trans rfl
    have hcz16_1 : wc.cell? ⟨gb102, 1, none⟩ = some (.int .i64 a1_1) := (qe BK102.out 1).trans rfl
    have hcz16_2 : wc.cell? ⟨gb102, 2, none⟩ = some (.string a1_2) := (qe BK102.out 2).trans rfl
    have hcz16_3 : wc.cell? ⟨gb102, 3, none⟩ = some (.string a1_3) := (qe BK102.out 3).trans rfl
    have hcz16_4 : wc.cell? ⟨gb102, 4, none⟩ = some (.int .i64 a1_4) := (qe BK102.out 4).trans rfl
    have hfz16_0 := qc BK102.out 0
    have hfz16_1 := qc BK102.out 1
    have hfz16_2 := qc BK102.out 2
    have hfz16_3 := qc BK102.out 3
    have hfz16_4 := qc BK102.out 4
    have hcz17_0 : wc.cell? ⟨gb101, 0, none⟩ = some (.int .i64 a0_0) := (qe BK101.out 0).trans rfl
    have hcz17_1 : wc.cell? ⟨gb101, 1, none⟩ = some (.int .i64 a0_1) := (qe BK101.out 1).trans rfl
    have hcz17_2 : wc.cell? ⟨gb101, 2, none⟩ = some (.string a0_2) := (qe BK101.out 2).trans rfl
    have hcz17_3 : wc.cell? ⟨gb101, 3, none⟩ = some (.string a0_3) := (qe BK101.out 3).trans rfl
    have hcz17_4 : wc.cell? ⟨gb101, 4, none⟩ = some (.int .i64 a0_4) := (qe BK101.out 4).trans rfl
    have hfz17_0 := qc BK101.out 0
    have hfz17_1 := qc BK101.out 1
    have hfz17_2 := qc BK101.out 2
    have hfz17_3 := qc BK101.out 3
    have hfz17_4 := qc BK101.out 4
    go_wp2_with (first | ((with_reducible refine qm (f := 99) rfl ?_); refine qt (some 19) rfl rfl Try.func99 (by kernel_rfl) rfl #[.int .i64 a1_0, .int .i64 a0_0] rfl (by (try simp only [List.map_toArray, List.map_cons, List.map_nil]); first | done | rfl) ?_; (with_reducible refine (cmp_Compare_int64.calls a1_0 a0_0 t103 _ A14.out).mono ?_); rintro e w' ⟨rfl, ⟨nd, rfl⟩⟩; refine ⟨_, rfl, ?_⟩))
    go_ret
    exact ⟨by first | rfl | (simp [qo, qn] <;> rfl) | (simp [*, qo, qn] <;> rfl), by repeat (first | (with_reducible first | exact HB.out | apply qf | apply qa | apply qd | refine qi ?_ GE101.out | refine qi ?_ GE102.out) | exact HB.out)⟩
   ·replace c13 := Bool.eq_false_iff.mpr c13
    subst c13
    have H1 : ((cmp_Compare_int64.f a0_1 a1_1).bind fun t104 => ((cmp_Compare_string.f a0_2 a1_2).bind fun t105 => ((cmp_Or_int.f kj2 (([t104, t105] : List Int))).bind fun t109 => (some t109)))) = some r := by rw [if_neg (show ¬ (false = true) by decide)] at H; exact H
    clear H
    have H := H1
    clear H1
    replace H := Option.bind_eq_some_iff.mp H
    obtain ⟨t104, A180, H⟩ := H
    replace H : ((cmp_Compare_string.f a0_2 a1_2).bind fun t105 => ((cmp_Or_int.f kj2 (([t104, t105] : List Int))).bind fun t109 => (some t109))) = some r := H
    have A18 := Qz.mk A180
    clear A180
    replace H := Option.bind_eq_some_iff.mp H
    obtain ⟨t105, A190, H⟩ := H
    replace H : ((cmp_Or_int.f kj2 (([t104, t105] : List Int))).bind fun t109 => (some t109)) = some r := H
    have A19 := Qz.mk A190
    clear A190
    obtain ⟨y106, hy106⟩ : ∃ y_ : List Int, y_ = (([t104, t105] : List Int)) := ⟨_, rfl⟩
    replace H : ((cmp_Or_int.f kj2 y106).bind fun t109 => (some t109)) = some r := by first | (rw [hy106]; with_reducible exact H) | (have H2_ := (Option.bind_some _ _).symm.trans H; rw [hy106]; with_reducible exact H2_) | (have H2_ := (Option.bind_some _ _).symm.trans H; with_reducible exact H2_) | with_reducible exact H | (rw [hy106]; exact H) | exact H
    have Ny106 := Qz.mk hy106
    clear hy106
    replace H := Option.bind_eq_some_iff.mp H
    obtain ⟨t109, A200, H⟩ := H
    replace H : (some t109) = some r := H
    have A20 := Qz.mk A200
    clear A200
    obtain rfl := Option.some.inj H
    try go_wp2
    replace BK101 := Qz.mk (qj BK101.out)
    replace BK102 := Qz.mk (qj BK102.out)
    replace HB := Qz.mk (qd HB.out)
    refine start_ (n := 13) (S := fun w' => w'.cell? ⟨gb101, 0, none⟩ = some (.int .i64 a0_0) ∧ w'.cell? ⟨gb101, 1, none⟩ = some (.int .i64 a0_1) ∧ w'.cell? ⟨gb101, 2, none⟩ = some (.string a0_2) ∧ w'.cell? ⟨gb101, 3, none⟩ = some (.string a0_3) ∧ w'.cell? ⟨gb101, 4, none⟩ = some (.int .i64 a0_4) ∧ w'.cell? ⟨gb102, 0, none⟩ = some (.int .i64 a1_0) ∧ w'.cell? ⟨gb102, 1, none⟩ = some (.int .i64 a1_1) ∧ w'.cell? ⟨gb102, 2, none⟩ = some (.string a1_2) ∧ w'.cell? ⟨gb102, 3, none⟩ = some (.string a1_3) ∧ w'.cell? ⟨gb102, 4, none⟩ = some (.int .i64 a1_4)) (ds := []) bq1 (by kernel_rfl) rfl rfl ⟨(qe BK101.out 0).trans rfl, (qe BK101.out 1).trans rfl, (qe BK101.out 2).trans rfl, (qe BK101.out 3).trans rfl, (qe BK101.out 4).trans rfl, (qe BK102.out 0).trans rfl, (qe BK102.out 1).trans rfl, (qe BK102.out 2).trans rfl, (qe BK102.out 3).trans rfl, (qe BK102.out 4).trans rfl⟩ (fun hHeld => ?_); refine with_tabW impl_cmpMetas.tab3 impl_cmpMetas.bits3 (fun HT_ HW_ => ?_)
    generalize wc.drew = w21 at BK101 BK102 HB hHeld ⊢
    refine pure_ (i := 0) (N := some 20) (v := ?_) (a' := ?_) bq5 rfl rfl (qq HT_.out (by kernel_rfl)) (fun _ _ _ h => h) (Or.inl ⟨by rfl, ?_⟩) ?_ ?_
    rotate_left
    ·intro w'
     go_simp
     with_reducible rfl
    rotate_left
    ·simp only [Act.put, sq1, sq2, sq3, i64_w, i32_w]
     rfl
    refine pure_ (i := 2) (N := some 22) (v := ?_) (a' := ?_) bq9 rfl rfl (qq HT_.out (by kernel_rfl)) (fun _ _ _ h => h) (Or.inl ⟨by rfl, ?_⟩) ?_ ?_
    rotate_left
    ·intro w'
     go_simp
     with_reducible rfl
    rotate_left
    ·simp only [Act.put, sq1, sq2, sq3, i64_w, i32_w]
     rfl
    refine pure_ (i := 5) (N := some 25) (v := ?_) (a' := ?_) #[true, false, true, false, false, true, false, false, false, false, false, false, false] rfl rfl (qq HT_.out (by kernel_rfl)) (fun _ _ _ h => h) (Or.inl ⟨by rfl, ?_⟩) ?_ ?_
    rotate_left
    ·intro w'
     go_simp
     with_reducible rfl
    rotate_left
    ·simp only [Act.put, sq1, sq2, sq3, i64_w, i32_w]
     rfl
    refine pure_ (i := 7) (N := some 27) (v := ?_) (a' := ?_) #[true, false, true, false, false, true, false, true, false, false, false, false, false] rfl rfl (qq HT_.out (by kernel_rfl)) (fun _ _ _ h => h) (Or.inl ⟨by rfl, ?_⟩) ?_ ?_
    rotate_left
    ·intro w'
     go_simp
     with_reducible rfl
    rotate_left
    ·simp only [Act.put, sq1, sq2, sq3, i64_w, i32_w]
     rfl
    refine take_ (i := 1) (N := some 21) (v := ?_) (a' := ?_) #[true, true, true, false, false, true, false, true, false, false, false, false, false] rfl rfl (take_ofW HT_.out HW_.out (by kernel_rfl)) (fun _ _ _ h => h) (Or.inl ⟨by rfl, ?_⟩) hHeld ?_ ?_
    rotate_left
    ·rintro w' ⟨s0, s1, s2, s3, s4, s5, s6, s7, s8, s9⟩
     go_simp
     with_reducible rfl
    rotate_left
    ·simp only [Act.put, sq1, sq2, sq3, i64_w, i32_w]
     rfl
    refine take_ (i := 3) (N := some 23) (v := ?_) (a' := ?_) #[true, true, true, true, false, true, false, true, false, false, false, false, false] rfl rfl (take_ofW HT_.out HW_.out (by kernel_rfl)) (fun _ _ _ h => h) (Or.inl ⟨by rfl, ?_⟩) hHeld ?_ ?_
    rotate_left
    ·rintro w' ⟨s0, s1, s2, s3, s4, s5, s6, s7, s8, s9⟩
     go_simp
     with_reducible rfl
    rotate_left
    ·simp only [Act.put, sq1, sq2, sq3, i64_w, i32_w]
     rfl
    refine take_ (i := 6) (N := some 26) (v := ?_) (a' := ?_) #[true, true, true, true, false, true, true, true, false, false, false, false, false] rfl rfl (take_ofW HT_.out HW_.out (by kernel_rfl)) (fun _ _ _ h => h) (Or.inl ⟨by rfl, ?_⟩) hHeld ?_ ?_
    rotate_left
    ·rintro w' ⟨s0, s1, s2, s3, s4, s5, s6, s7, s8, s9⟩
     go_simp
     with_reducible rfl
    rotate_left
    ·simp only [Act.put, sq1, sq2, sq3, i64_w, i32_w]
     rfl
    refine take_ (i := 8) (N := some 28) (v := ?_) (a' := ?_) #[true, true, true, true, false, true, true, true, true, false, false, false, false] rfl rfl (take_ofW HT_.out HW_.out (by kernel_rfl)) (fun _ _ _ h => h) (Or.inl ⟨by rfl, ?_⟩) hHeld ?_ ?_
    rotate_left
    ·rintro w' ⟨s0, s1, s2, s3, s4, s5, s6, s7, s8, s9⟩
     go_simp
     with_reducible rfl
    rotate_left
    ·simp only [Act.put, sq1, sq2, sq3, i64_w, i32_w]
     rfl
    refine one_ (i := 4) (N := some 24) bq36 rfl rfl (one_of HT_.out (by kernel_rfl)) (by decide) (fun K hK => ?_)
    refine goes_ Try.func99 (by kernel_rfl) rfl #[.int .i64 a0_1, .int .i64 a1_1] (by rfl) rfl rfl (by (try simp only [List.map_toArray, List.map_cons, List.map_nil]); first | done | rfl) ?_
    with_reducible refine (cmp_Compare_int64.calls a0_1 a1_1 t104 _ A18.out).mono ?_
    rintro e w' ⟨rfl, ⟨nd, rfl⟩⟩
    refine ⟨_, rfl, ?_⟩
    refine hK.out _ _ ⟨(qe BK101.out 0).trans rfl, (qe BK101.out 1).trans rfl, (qe BK101.out 2).trans rfl, (qe BK101.out 3).trans rfl, (qe BK101.out 4).trans rfl, (qe BK102.out 0).trans rfl, (qe BK102.out 1).trans rfl, (qe BK102.out 2).trans rfl, (qe BK102.out 3).trans rfl, (qe BK102.out 4).trans rfl⟩ (fun hHeld => ?_)
    clear hK K
    refine norm_ (a' := ?_) ?_ ?_
    rotate_left
    ·show Act.put _ (some 24) _ = _
     simp only [Act.put, sq1, sq2, sq3, i64_w, i32_w]
     rfl
    refine one_ (i := 9) (N := some 29) bq40 rfl rfl (one_of HT_.out (by kernel_rfl)) (by decide) (fun K hK => ?_)
    refine goes_ Try.func101 (by kernel_rfl) rfl #[.string a0_2, .string a1_2] (by rfl) rfl rfl (by (try simp only [List.map_toArray, List.map_cons, List.map_nil]); first | done | rfl) ?_
    with_reducible refine (cmp_Compare_string.calls a0_2 a1_2 t105 _ A19.out).mono ?_
    rintro e w' ⟨rfl, ⟨nd, rfl⟩⟩
    refine ⟨_, rfl, ?_⟩
    refine hK.out _ _ ⟨(qe BK101.out 0).trans rfl, (qe BK101.out 1).trans rfl, (qe BK101.out 2).trans rfl, (qe BK101.out 3).trans rfl, (qe BK101.out 4).trans rfl, (qe BK102.out 0).trans rfl, (qe BK102.out 1).trans rfl, (qe BK102.out 2).trans rfl, (qe BK102.out 3).trans rfl, (qe BK102.out 4).trans rfl⟩ (fun hHeld => ?_)
    clear hK K
    refine norm_ (a' := ?_) ?_ ?_
    rotate_left
    ·show Act.put _ (some 29) _ = _
     simp only [Act.put, sq1, sq2, sq3, i64_w, i32_w]
     rfl
    refine one_ (i := 10) (N := some 30) bq42 rfl rfl (one_of HT_.out (by kernel_rfl)) (by decide) (fun K hK => ?_)
    refine Kd.R_lit_step (Kd.int .i64) _ 3 ?hg (N := 30) ?hd (xs := ([t104, t105] : List Int)) (inner := [.int .i64 t104, .int .i64 t105]) (ok := fun _ => True) (okp := fun _ => True) ?hr ?hp (fun _ hk => hk) trivial (Below.refl _ _) (Nat.le_refl _) (by simp) ?_; (case hd => rfl); (case hg => rfl); (case hr => first | (go_simp; done) | (go_simp; rfl)); (case hp => exact (Reps.one (show Kd.M (Kd.int .i64) _ _ _ t104 [.int .i64 t104] from rfl) (Reps.one (show Kd.M (Kd.int .i64) _ _ _ t105 [.int .i64 t105] from rfl) (Reps.none _ _))))
    intro v107 w22 ho23 hb hg_ hnew_
    clear hg_ hnew_
    (first | rw [← Ny106.out] at ho23 | (simp only [Int.reduceToNat] at ho23; rw [← Ny106.out] at ho23))
    have HO108 := Qz.mk (Kd.R_lower ho23 (qs (by repeat (first | (with_reducible first | exact HB.out | apply qf | apply qa | apply qd | refine qi ?_ GE101.out | refine qi ?_ GE102.out) | exact HB.out))))
    replace BK101 := Qz.mk (qr (g := gb101) (o := .cells #[.int .i64 a0_0, .int .i64 a0_1, .string a0_2, .string a0_3, .int .i64 a0_4] 66 (0, 0)) (by (with_reducible repeat (first | refine qh ?_ _ | refine qj ?_ | refine qg ?_ _)); exact BK101.out) hb)
    replace BK102 := Qz.mk (qr (g := gb102) (o := .cells #[.int .i64 a1_0, .int .i64 a1_1, .string a1_2, .string a1_3, .int .i64 a1_4] 66 (0, 0)) (by (with_reducible repeat (first | refine qh ?_ _ | refine qj ?_ | refine qg ?_ _)); exact BK102.out) hb)
    replace HB := Qz.mk (qp (by repeat (first | (with_reducible first | exact HB.out | apply qf | apply qa | apply qd | refine qi ?_ GE101.out | refine qi ?_ GE102.out) | exact HB.out)) hb)
    clear hb ho23
    obtain ⟨Ao24, co24, eo24⟩ := Kd.R_slice HO108.out
    (first | subst eo24 | (injection eo24 with f1_ f2_ f3_; have f4_ := f1_.symm; have f5_ := f3_.symm; clear f1_ f2_ f3_; subst f4_; subst f5_))
    refine hK.out _ _ ⟨(qe BK101.out 0).trans rfl, (qe BK101.out 1).trans rfl, (qe BK101.out 2).trans rfl, (qe BK101.out 3).trans rfl, (qe BK101.out 4).trans rfl, (qe BK102.out 0).trans rfl, (qe BK102.out 1).trans rfl, (qe BK102.out 2).trans rfl, (qe BK102.out 3).trans rfl, (qe BK102.out 4).trans rfl⟩ (fun hHeld => ?_)
    clear hK K
    refine norm_ (a' := ?_) ?_ ?_
    rotate_left
    ·show Act.put _ (some 30) _ = _
     simp only [Act.put, sq1, sq2, sq3, i64_w, i32_w]
     rfl
    refine one_ (i := 11) (N := some 31) bq44 rfl rfl (one_of HT_.out (by kernel_rfl)) (by decide) (fun K hK => ?_)
    refine goes_ Try.func100 (by kernel_rfl) rfl #[.slice Ao24 y106.length co24] (by rfl) rfl rfl (by (try simp only [List.map_toArray, List.map_cons, List.map_nil]); first | done | rfl | (simp only [List.length_drop, List.length_take]; rfl) | (rw [IntWalk.u64_in _ (by omega)] <;> rfl)) ?_
    with_reducible refine (cmp_Or_int.calls kj2 _ _ y106 t109 _ ?side1 ?side2 A20.out).mono ?_
    (case side1 => repeat (first | exact (Kd.R_reads' HO108.out).2.2 | (with_reducible refine Kd.C_alloc ?_ _) | (with_reducible refine Kd.C_drewN ?_ _) | (with_reducible refine Kd.C_drew ?_)))
    (case side2 => exact (Kd.R_reads' HO108.out).2.1)
    rintro e w' ⟨rfl, ⟨nd, rfl⟩⟩
    refine ⟨_, rfl, ?_⟩
    refine hK.out _ _ ⟨(qe BK101.out 0).trans rfl, (qe BK101.out 1).trans rfl, (qe BK101.out 2).trans rfl, (qe BK101.out 3).trans rfl, (qe BK101.out 4).trans rfl, (qe BK102.out 0).trans rfl, (qe BK102.out 1).trans rfl, (qe BK102.out 2).trans rfl, (qe BK102.out 3).trans rfl, (qe BK102.out 4).trans rfl⟩ (fun hHeld => ?_)
    clear hK K
    refine norm_ (a' := ?_) ?_ ?_
    rotate_left
    ·show Act.put _ (some 31) _ = _
     simp only [Act.put, sq1, sq2, sq3, i64_w, i32_w]
     rfl
    refine pure_ (i := 12) (N := some 4) (v := ?_) (a' := ?_) bq69 rfl rfl (qq HT_.out (by kernel_rfl)) (fun _ _ _ h => h) (Or.inl ⟨by rfl, ?_⟩) ?_ ?_
    rotate_left
    ·intro w'
     go_simp
     with_reducible rfl
    rotate_left
    ·simp only [Act.put, sq1, sq2, sq3, i64_w, i32_w]
     rfl
    refine done_ (done_of HT_.out (by kernel_rfl)) ?_
    try go_wp2
    go_ret
    exact ⟨by first | rfl | (simp [qo, qn] <;> rfl) | (simp [*, qo, qn] <;> rfl), by repeat (first | (with_reducible first | exact HB.out | apply qf | apply qa | apply qd | refine qi ?_ GE101.out | refine qi ?_ GE102.out) | exact HB.out)⟩
end Go.Proofs.Ytcgejabkjljeeaa.P
end

section
namespace Go.Proofs.Ytcgejabkjljeeaa.P
open Go.RowKit Go.Proofs.YtcgejabkjljeeaaW.PrintWords Go.Proofs.YtcgejabkjljeeaaW.PrintLast Go.Proofs.YtcgejabkjljeeaaW.PrintMore
attribute [local go_sem] str_gtr str_leq str_geq max2_int min2_int max_two min_two qw qv max_four min_four
set_option linter.unusedVariables false
set_option linter.unusedSimpArgs false
theorem wsucc {i : Nat} (h : i < 4611686018427387904) : wrap64 ((i : Int) + 1) = ((i + 1 : Nat) : Int) := by unfold wrap64; omega
theorem wid {x : Int} (h0 : -9223372036854775808 ≤ x) (h1 : x ≤ 9223372036854775807) : wrap64 x = x := by unfold wrap64; omega
theorem uid {x : Int} (h0 : 0 ≤ x) (h1 : x ≤ 18446744073709551615) : IntKind.u64.wrap x = x := IntWalk.u64_in x ⟨h0, h1⟩
theorem _root_.Go.Proofs.YtcgejabkjljeeaaW.PrintWords.Ev.pos {α : Type} {c : Prop} [Decidable c] {a b : Nat → Option α} {r : α} (hc : c) (h : Ev a r) : Ev (fun k => if c then a k else b k) r := Ev.congr (fun _ => if_pos hc) h
theorem _root_.Go.Proofs.YtcgejabkjljeeaaW.PrintWords.Ev.neg {α : Type} {c : Prop} [Decidable c] {a b : Nat → Option α} {r : α} (hc : ¬ c) (h : Ev b r) : Ev (fun k => if c then a k else b k) r := Ev.congr (fun _ => if_neg hc) h
theorem _root_.Go.Proofs.YtcgejabkjljeeaaW.PrintWords.Ev.bindS {α β : Type} {x : Option α} {a : α} {f : Nat → α → Option β} {r : β} (hx : x = some a) (h : Ev (fun k => f k a) r) : Ev (fun k => x.bind (f k)) r := Ev.congr (fun k => by rw [hx]; rfl) h
theorem _root_.Go.Proofs.YtcgejabkjljeeaaW.PrintWords.Ev.eqr {α : Type} {g : Nat → Option α} {r r' : α} (h : Ev g r) (e : r = r') : Ev g r' := e ▸ h
theorem set_take {α : Type} (ys : List α) (i : Nat) (v : α) (h : i < ys.length) : (ys.set i v).take (i + 1) = ys.take i ++ [v] := by
  rw [List.take_succ_eq_append_getElem (by simpa using h), List.take_set, List.getElem_set_self]
  rw [List.set_eq_of_length_le (by simp; omega)]
theorem downTo {P : Nat → Prop} (n : Nat) (hn : P n) (hs : ∀ i, i < n → P (i + 1) → P i) : ∀ i, i ≤ n → P i := by
  intro i hi
  obtain ⟨d, rfl⟩ := Nat.exists_eq_add_of_le hi
  clear hi
  induction d generalizing i with
  | zero => exact hn
  | succ d ih => exact hs i (by omega) (ih (i := i + 1) (by rwa [show i + 1 + d = i + (d + 1) from by omega]) (by rwa [show i + 1 + d = i + (d + 1) from by omega]))
end Go.Proofs.Ytcgejabkjljeeaa.P
end

section
namespace Go.Proofs.Ytcgejabkjljeeaa.P
open Go.RowKit Go.Proofs.YtcgejabkjljeeaaW.PrintWords Go.Proofs.YtcgejabkjljeeaaW.PrintLast Go.Proofs.YtcgejabkjljeeaaW.PrintMore
attribute [local go_sem] str_gtr str_leq str_geq max2_int min2_int max_two min_two qw qv max_four min_four
set_option linter.unusedVariables false
set_option linter.unusedSimpArgs false
theorem within_ev (a b c : Int) : impl_within.f a b c = some (decide (b ≤ a ∧ a ≤ c)) := by
  unfold impl_within.f
  by_cases h : b ≤ a <;> simp [h]
theorem in_ev (a b c : Int) : spec_l1In.f a b c = some (decide (b ≤ a ∧ a ≤ c)) := by
  unfold spec_l1In.f
  by_cases h : b ≤ a <;> simp [h]
def isU (s : ByteArray) : Prop := 1 ≤ s.size ∧ s.size ≤ 40
instance (s : ByteArray) : Decidable (isU s) := by unfold isU; infer_instance
theorem isUser_ev (a : ByteArray) : impl_isUser.f a = some (decide (isU a)) := by
  unfold impl_isUser.f isU
  by_cases h : (a.size : Int) ≥ 1
  · rw [if_pos h]
    congr 1
    exact decide_eq_decide.2 (by omega)
  · rw [if_neg h]
    congr 1
    exact (decide_eq_false (by omega)).symm
theorem l2User_ev (a : ByteArray) : spec_l2User.f a = some (decide (isU a)) := by
  unfold spec_l2User.f isU
  by_cases h : (a.size : Int) ≥ 1
  · rw [if_pos h]
    congr 1
    exact decide_eq_decide.2 (by omega)
  · rw [if_neg h]
    congr 1
    exact (decide_eq_false (by omega)).symm
end Go.Proofs.Ytcgejabkjljeeaa.P
end

section
namespace Go.Proofs.Ytcgejabkjljeeaa.P
open Go.RowKit Go.Proofs.YtcgejabkjljeeaaW.PrintWords Go.Proofs.YtcgejabkjljeeaaW.PrintLast Go.Proofs.YtcgejabkjljeeaaW.PrintMore
attribute [local go_sem] str_gtr str_leq str_geq max2_int min2_int max_two min_two qw qv max_four min_four
set_option linter.unusedVariables false
set_option linter.unusedSimpArgs false
def isK (u : ByteArray) (seq kind : Int) : Prop := isU u ∧ (0 ≤ seq ∧ seq ≤ 1000000000000) ∧ 0 ≤ kind ∧ kind ≤ 1
instance (u : ByteArray) (seq kind : Int) : Decidable (isK u seq kind) := by unfold isK; infer_instance
def isE (u : ByteArray) (seq kind : Int) (v : ByteArray) : Prop := isK u seq kind ∧ v.size ≤ 200 ∧ (kind = 1 ∨ v.toList = [])
instance (u : ByteArray) (seq kind : Int) (v : ByteArray) : Decidable (isE u seq kind v) := by unfold isE; infer_instance
end Go.Proofs.Ytcgejabkjljeeaa.P
end

section
namespace Go.Proofs.Ytcgejabkjljeeaa.P
open Go.RowKit Go.Proofs.YtcgejabkjljeeaaW.PrintWords Go.Proofs.YtcgejabkjljeeaaW.PrintLast Go.Proofs.YtcgejabkjljeeaaW.PrintMore
attribute [local go_sem] str_gtr str_leq str_geq max2_int min2_int max_two min_two qw qv max_four min_four
set_option linter.unusedVariables false
set_option linter.unusedSimpArgs false
theorem bl_eq {a b : List UInt8} (h : Op.bytesLess a b = false) (h' : Op.bytesLess b a = false) : a = b := by
  rw [← bytesLess_swap, h] at h'
  simpa using h'
theorem bl_cons (a b : UInt8) (x y : List UInt8) : Op.bytesLess (a :: x) (b :: y) = true ↔ a < b ∨ a = b ∧ Op.bytesLess x y = true := by
  rcases Nat.lt_trichotomy a.toNat b.toNat with h | h | h
  · have h1 : a < b := UInt8.lt_iff_toNat_lt.2 h
    simp [Op.bytesLess, h1]
  · have h1 : a = b := UInt8.toNat_inj.1 h
    subst h1
    have h2 : ¬ a < a := fun h => by have := UInt8.lt_iff_toNat_lt.1 h; omega
    simp [Op.bytesLess, h2]
  · have h1 : ¬ a < b := fun h' => by have := UInt8.lt_iff_toNat_lt.1 h'; omega
    have h2 : ¬ a = b := fun h' => by rw [h'] at h; omega
    simp [Op.bytesLess, h1, h2]
theorem bl_trans : ∀ {a b c : List UInt8}, Op.bytesLess a b = true → Op.bytesLess b c = true → Op.bytesLess a c = true
  | _, [], _, h, _ => by cases ‹List UInt8› <;> simp [Op.bytesLess] at h
  | [], b :: y, [], _, h => by simp [Op.bytesLess] at h
  | [], b :: y, c :: z, _, _ => by simp [Op.bytesLess]
  | a :: x, b :: y, [], _, h => by simp [Op.bytesLess] at h
  | a :: x, b :: y, c :: z, h, h' => by
    rw [bl_cons] at h h' ⊢
    rcases h with h | ⟨rfl, h⟩
    · rcases h' with h' | ⟨rfl, h'⟩
      · exact .inl (UInt8.lt_iff_toNat_lt.2 (by have := UInt8.lt_iff_toNat_lt.1 h; have := UInt8.lt_iff_toNat_lt.1 h'; omega))
      · exact .inl h
    · rcases h' with h' | ⟨rfl, h'⟩
      · exact .inl h'
      · exact .inr ⟨rfl, bl_trans h h'⟩
def tless (a b : ByteArray) : Bool := Op.bytesLess a.toList b.toList
theorem compareS_ev (a b : ByteArray) : cmp_Compare_string.f a b = some (if tless a b = true then -1 else if tless b a = true then 1 else 0) := by
  unfold cmp_Compare_string.f cmp_isNaN_string.f tless
  simp only [bne_self_eq_false, Option.bind_some, Bool.false_eq_true, if_false]
  split
  · rfl
  · split <;> rfl
theorem compareI_ev (a b : Int) : cmp_Compare_int64.f a b = some (if a < b then -1 else if b < a then 1 else 0) := by
  unfold cmp_Compare_int64.f cmp_isNaN_int64.f
  simp only [bne_self_eq_false, Option.bind_some, Bool.false_eq_true, if_false]
  split
  · rfl
  · by_cases h : b < a
    · rw [if_pos h, if_pos h]
    · rw [if_neg h, if_neg h]
theorem orInt_ev : ∀ (n : Nat) (l : List Int), l.length = n → n < 1000 → Ev (fun k => cmp_Or_int.f k l) ((l.find? fun x => x != 0).getD 0) := by
  intro n l hn hb
  have key : ∀ i, i ≤ l.length → Ev (fun k => cmp_Or_int.l0 k 0 l (l.length : Int) (i : Int)) (((l.drop i).find? fun x => x != 0).getD 0) := by
    refine downTo l.length ?_ ?_
    · refine Ev.step (fun k => cmp_Or_int.l0.eq_2 ..) (Ev.neg (by omega) ?_)
      rw [List.drop_length]
      exact Ev.now _
    · intro i hi ih
      have hr : rd l (i : Int) = l[i] := by
        unfold rd
        rw [Int.toNat_natCast, List.getD_eq_getElem?_getD, List.getElem?_eq_getElem hi]
        rfl
      rw [List.drop_eq_getElem_cons hi]
      refine Ev.step (fun k => cmp_Or_int.l0.eq_2 ..) (Ev.pos (by omega) (Ev.pos (by omega) (Ev.pos (by omega) ?_)))
      rw [hr, wsucc (by omega)]
      by_cases c : l[i] = 0
      · refine Ev.pos c ?_
        rw [List.find?_cons_of_neg (by simp [c])]
        exact ih
      · refine Ev.neg c ?_
        rw [List.find?_cons_of_pos (by simp [c])]
        exact Ev.now _
  exact key 0 (Nat.zero_le _)
end Go.Proofs.Ytcgejabkjljeeaa.P
end
