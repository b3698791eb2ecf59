/- Proved: the law FnBlockSought of the given program returns true for every input of its Go types and leaves each argument as it was; no condition. (Part 6 of 12.) -/
import Derived.Test.YtidjdkodgddfcaaCFnBlockSought4
section
namespace Go.Proofs.Ytidjdkodgddfcaa.P
open Go.RowKit Go.Proofs.YtidjdkodgddfcaaW.PrintWords Go.Proofs.YtidjdkodgddfcaaW.PrintLast Go.Proofs.YtidjdkodgddfcaaW.PrintMore
attribute [local go_sem] qh1 qg1 qi1 qf1 qd1 qk1 qj1 qy qx qe1 qc1
set_option linter.unusedVariables false
set_option linter.unusedSimpArgs false
theorem yq24 {P : Prop} (h : P := by (with_reducible repeat (first | refine qg ?_ _ | refine qi ?_ | refine qh ?_ _)); refine qw (cs := #[.string (⟨#[]⟩ : ByteArray), .int .i64 0, .int .i64 0]) ?_ 2 _ rfl; (with_reducible repeat (first | refine qg ?_ _ | refine qi ?_ | refine qh ?_ _)); refine qw (cs := #[.string (⟨#[]⟩ : ByteArray), .int .i64 0, .int .i64 0]) ?_ 1 _ rfl; (with_reducible repeat (first | refine qg ?_ _ | refine qi ?_ | refine qh ?_ _)); refine qw (cs := #[.string (⟨#[]⟩ : ByteArray), .int .i64 0, .int .i64 0]) ?_ 0 _ rfl; (with_reducible repeat (first | refine qg ?_ _ | refine qi ?_ | refine qh ?_ _)); exact BK101.out) : P := h
theorem yq25 {P : Prop} (h : P := by repeat (first | (with_reducible first | exact HB.out | apply qc | apply qa | apply qb | refine qd ?_ GE101.out) | exact HB.out)) : P := h
theorem yq26 {P : Prop} (h : P := by (with_reducible repeat (first | refine qg ?_ _ | refine qi ?_ | refine qh ?_ _)); exact BK101.out) : P := h
theorem yq27 {P : Prop} (h : P := by (try simp only [List.map_toArray, List.map_cons, List.map_nil]); first | done | (simp only [hji5]; rfl) | rfl | (simp only [List.length_drop, List.length_take]; rfl) | (rw [IntWalk.u64_in _ (by omega)] <;> rfl)) : P := h
theorem yq28 {P : Prop} (h : P := by (with_reducible repeat (first | refine qg ?_ _ | refine qi ?_ | refine qh ?_ _)); refine qw (cs := #[.string (a0.extract 0 ((ji5) : Int).toNat), .int .i64 (wrap64 (Int.tdiv (Go.bits .or .i64 (wrap64 ((wrap64 (t105)) * 4294967296)) (wrap64 (t102))) 2)), .int .i64 0]) ?_ 2 _ rfl; (with_reducible repeat (first | refine qg ?_ _ | refine qi ?_ | refine qh ?_ _)); refine qw (cs := #[.string (a0.extract 0 ((ji5) : Int).toNat), .int .i64 0, .int .i64 0]) ?_ 1 _ rfl; (with_reducible repeat (first | refine qg ?_ _ | refine qi ?_ | refine qh ?_ _)); refine qw (cs := #[.string (⟨#[]⟩ : ByteArray), .int .i64 0, .int .i64 0]) ?_ 0 _ rfl; (with_reducible repeat (first | refine qg ?_ _ | refine qi ?_ | refine qh ?_ _)); exact BK108.out) : P := h
theorem yq29 {P : Prop} (h : P := by repeat (first | (with_reducible first | exact HB.out | apply qc | apply qa | apply qb) | exact HB.out)) : P := h
theorem yq30 {P : Prop} (h : P := by (with_reducible repeat (first | refine qg ?_ _ | refine qi ?_ | refine qh ?_ _)); refine blk_far ?_ NB101_108.out _; (with_reducible repeat (first | refine qg ?_ _ | refine qi ?_ | refine qh ?_ _)); refine blk_far ?_ NB101_108.out _; (with_reducible repeat (first | refine qg ?_ _ | refine qi ?_ | refine qh ?_ _)); refine blk_far ?_ NB101_108.out _; (with_reducible repeat (first | refine qg ?_ _ | refine qi ?_ | refine qh ?_ _)); exact BK101.out) : P := h
def spec_ReadKey.f (a0 : ByteArray) : Option (ByteArray × Int × Int × Bool) := if (a0.size : Int) < 9 then (some ((⟨#[]⟩ : ByteArray), 0, 0, false)) else (if 0 ≤ (wrap64 ((a0.size : Int) - 8)) then (if (wrap64 ((a0.size : Int) - 8)) ≤ (a0.size : Int) then ((spec_TakeFixed.f (a0.extract ((wrap64 ((a0.size : Int) - 8)) : Int).toNat a0.size)).bind fun bt102 => ((spec_TakeFixed.f bt102.2.1).bind fun bt105 => (if bt105.1 ≥ 1073741824 then (some ((⟨#[]⟩ : ByteArray), 0, 0, false)) else ((spec_KeyOk.f (a0.extract 0 ((wrap64 ((a0.size : Int) - 8)) : Int).toNat) (wrap64 (Int.tdiv (Go.bits .or .i64 (wrap64 ((wrap64 (bt105.1)) * 4294967296)) (wrap64 (bt102.1))) 2)) (Int.tmod (Go.bits .or .i64 (wrap64 ((wrap64 (bt105.1)) * 4294967296)) (wrap64 (bt102.1))) 2)).bind fun t109 => (if t109 = true then (some (a0.extract 0 ((wrap64 ((a0.size : Int) - 8)) : Int).toNat, wrap64 (Int.tdiv (Go.bits .or .i64 (wrap64 ((wrap64 (bt105.1)) * 4294967296)) (wrap64 (bt102.1))) 2), Int.tmod (Go.bits .or .i64 (wrap64 ((wrap64 (bt105.1)) * 4294967296)) (wrap64 (bt102.1))) 2, true)) else (some ((⟨#[]⟩ : ByteArray), 0, 0, false))))))) else (none)) else (none))
set_option maxHeartbeats 8000000 in
set_option maxRecDepth 100000 in
theorem spec_ReadKey.calls (a0 : ByteArray) (r1 : ByteArray) (r2 : Int) (r3 : Int) (r4 : Bool) (w : World) (h : spec_ReadKey.f a0 = some (r1, r2, r3, r4)) :
  Calls Try.prog 84 #[.string a0] w fun e w' => e = .returned (.tuple #[.agg #[.string r1, .int .i64 r2, .int .i64 r3], .bool r4]) ∧ Below w.heap.size w w' := by
 have hu35 := Try.underlying35
 have HB := Qz.mk (Below.refl w.heap.size w)
 have H : (if (a0.size : Int) < 9 then (some ((⟨#[]⟩ : ByteArray), 0, 0, false)) else (if 0 ≤ (wrap64 ((a0.size : Int) - 8)) then (if (wrap64 ((a0.size : Int) - 8)) ≤ (a0.size : Int) then ((spec_TakeFixed.f (a0.extract ((wrap64 ((a0.size : Int) - 8)) : Int).toNat a0.size)).bind fun bt102 => ((spec_TakeFixed.f bt102.2.1).bind fun bt105 => (if bt105.1 ≥ 1073741824 then (some ((⟨#[]⟩ : ByteArray), 0, 0, false)) else ((spec_KeyOk.f (a0.extract 0 ((wrap64 ((a0.size : Int) - 8)) : Int).toNat) (wrap64 (Int.tdiv (Go.bits .or .i64 (wrap64 ((wrap64 (bt105.1)) * 4294967296)) (wrap64 (bt102.1))) 2)) (Int.tmod (Go.bits .or .i64 (wrap64 ((wrap64 (bt105.1)) * 4294967296)) (wrap64 (bt102.1))) 2)).bind fun t109 => (if t109 = true then (some (a0.extract 0 ((wrap64 ((a0.size : Int) - 8)) : Int).toNat, wrap64 (Int.tdiv (Go.bits .or .i64 (wrap64 ((wrap64 (bt105.1)) * 4294967296)) (wrap64 (bt102.1))) 2), Int.tmod (Go.bits .or .i64 (wrap64 ((wrap64 (bt105.1)) * 4294967296)) (wrap64 (bt102.1))) 2, true)) else (some ((⟨#[]⟩ : ByteArray), 0, 0, false))))))) else (none)) else (none))) = some (r1, r2, r3, r4) := h
 clear h
 by_cases c2 : (a0.size : Int) < 9
 ·rw [if_pos c2] at H
  have c2b0 : decide ((a0.size : Int) < 9) = true := decide_eq_true c2
  have c2b1 : decide (a0.size < 9) = true := decide_eq_true (by omega)
  clear c2
  simp only [Option.some.injEq, Prod.mk.injEq] at H
  obtain ⟨rfl, rfl, rfl, rfl⟩ := H
  go_enter Try.func84, Try.ntmps84
  go_wp2_with (first | ((with_reducible refine qb1 (N := 2) rfl ?_); refine qz ?hg (N := 2) ?hd (cs := #[.string (⟨#[]⟩ : ByteArray), .int .i64 0, .int .i64 0]) (t := 35) ?hr ?_; (case hd => rfl); (case hg => rfl); (case hr => first | (go_simp; done) | (go_simp; rfl)); intro gb101 hg w3 hbox hb; have BK101 := Qz.mk (hbox); have GW101 := Qz.mk ((by rw [hg]; exact (qv yq29) : w.heap.size ≤ gb101)); have GE101 := GW101; replace HB := Qz.mk (ql yq29 hb); clear hb hbox hg; have hcz4_0 : w3.cell? ⟨gb101, 0, none⟩ = some (.string (⟨#[]⟩ : ByteArray)) := (qf BK101.out 0).trans rfl; have hcz4_1 : w3.cell? ⟨gb101, 1, none⟩ = some (.int .i64 0) := (qf BK101.out 1).trans rfl; have hcz4_2 : w3.cell? ⟨gb101, 2, none⟩ = some (.int .i64 0) := (qf BK101.out 2).trans rfl; have hfz4_0 := qe BK101.out 0; have hfz4_1 := qe BK101.out 1; have hfz4_2 := qe BK101.out 2))
  refine bodyPost_ret (results_ct rfl _ _ gb101 35 #[.string (⟨#[]⟩ : ByteArray), .int .i64 0, .int .i64 0] (0, 0) _ rfl yq24 Try.underlying35 rfl (by kernel_rfl)) rfl ?_
  exact ⟨by first | rfl | (simp [qn, qm] <;> rfl) | (simp [*, qn, qm] <;> rfl), by repeat (first | (with_reducible first | exact HB.out | apply qc | apply qa | apply qb | refine qd ?_ GE101.out) | exact HB.out)⟩
 ·rw [if_neg c2] at H
  have c2b0 : decide ((a0.size : Int) < 9) = false := decide_eq_false c2
  have c2b1 : decide (a0.size < 9) = false := decide_eq_false (by omega)
  clear c2
  obtain ⟨ji5, hji5⟩ : ∃ j_ : Int, (wrap64 ((a0.size : Int) - 8)) = j_ := ⟨_, rfl⟩
  replace H : (if 0 ≤ (ji5) then (if (ji5) ≤ (a0.size : Int) then ((spec_TakeFixed.f (a0.extract ((ji5) : Int).toNat a0.size)).bind fun bt102 => ((spec_TakeFixed.f bt102.2.1).bind fun bt105 => (if bt105.1 ≥ 1073741824 then (some ((⟨#[]⟩ : ByteArray), 0, 0, false)) else ((spec_KeyOk.f (a0.extract 0 ((ji5) : Int).toNat) (wrap64 (Int.tdiv (Go.bits .or .i64 (wrap64 ((wrap64 (bt105.1)) * 4294967296)) (wrap64 (bt102.1))) 2)) (Int.tmod (Go.bits .or .i64 (wrap64 ((wrap64 (bt105.1)) * 4294967296)) (wrap64 (bt102.1))) 2)).bind fun t109 => (if t109 = true then (some (a0.extract 0 ((ji5) : Int).toNat, wrap64 (Int.tdiv (Go.bits .or .i64 (wrap64 ((wrap64 (bt105.1)) * 4294967296)) (wrap64 (bt102.1))) 2), Int.tmod (Go.bits .or .i64 (wrap64 ((wrap64 (bt105.1)) * 4294967296)) (wrap64 (bt102.1))) 2, true)) else (some ((⟨#[]⟩ : ByteArray), 0, 0, false))))))) else (none)) else (none)) = some (r1, r2, r3, r4) := by first | (rw [hji5] at H; exact H) | (simp only [hji5] at H ⊢; exact H)
  have hji5w : (IntKind.i64.wrap ((a0.size : Int) - 8)) = ji5 := (i64_w _).trans hji5
  by_cases c6 : 0 ≤ (ji5)
  ·rw [if_pos c6] at H
   have c6b0 := eq_true c6
   have c6b1 : decide (0 ≤ (ji5)) = true := decide_eq_true c6
   clear c6
   by_cases c7 : (ji5) ≤ (a0.size : Int)
   ·rw [if_pos c7] at H
    have c7b0 := eq_true c7
    have c7b1 : decide ((ji5) ≤ (a0.size : Int)) = true := decide_eq_true c7
    clear c7
    replace H := Option.bind_eq_some_iff.mp H
    obtain ⟨⟨t102, t103, t104⟩, A80, H⟩ := H
    replace H : ((spec_TakeFixed.f t103).bind fun bt105 => (if bt105.1 ≥ 1073741824 then (some ((⟨#[]⟩ : ByteArray), 0, 0, false)) else ((spec_KeyOk.f (a0.extract 0 ((ji5) : Int).toNat) (wrap64 (Int.tdiv (Go.bits .or .i64 (wrap64 ((wrap64 (bt105.1)) * 4294967296)) (wrap64 (t102))) 2)) (Int.tmod (Go.bits .or .i64 (wrap64 ((wrap64 (bt105.1)) * 4294967296)) (wrap64 (t102))) 2)).bind fun t109 => (if t109 = true then (some (a0.extract 0 ((ji5) : Int).toNat, wrap64 (Int.tdiv (Go.bits .or .i64 (wrap64 ((wrap64 (bt105.1)) * 4294967296)) (wrap64 (t102))) 2), Int.tmod (Go.bits .or .i64 (wrap64 ((wrap64 (bt105.1)) * 4294967296)) (wrap64 (t102))) 2, true)) else (some ((⟨#[]⟩ : ByteArray), 0, 0, false)))))) = some (r1, r2, r3, r4) := H
    have A8 := Qz.mk A80
    clear A80
    replace H := Option.bind_eq_some_iff.mp H
    obtain ⟨⟨t105, t106, t107⟩, A90, H⟩ := H
    replace H : (if t105 ≥ 1073741824 then (some ((⟨#[]⟩ : ByteArray), 0, 0, false)) else ((spec_KeyOk.f (a0.extract 0 ((ji5) : Int).toNat) (wrap64 (Int.tdiv (Go.bits .or .i64 (wrap64 ((wrap64 (t105)) * 4294967296)) (wrap64 (t102))) 2)) (Int.tmod (Go.bits .or .i64 (wrap64 ((wrap64 (t105)) * 4294967296)) (wrap64 (t102))) 2)).bind fun t109 => (if t109 = true then (some (a0.extract 0 ((ji5) : Int).toNat, wrap64 (Int.tdiv (Go.bits .or .i64 (wrap64 ((wrap64 (t105)) * 4294967296)) (wrap64 (t102))) 2), Int.tmod (Go.bits .or .i64 (wrap64 ((wrap64 (t105)) * 4294967296)) (wrap64 (t102))) 2, true)) else (some ((⟨#[]⟩ : ByteArray), 0, 0, false))))) = some (r1, r2, r3, r4) := H
    have A9 := Qz.mk A90
    clear A90
    by_cases c10 : t105 ≥ 1073741824
    ·rw [if_pos c10] at H
     have c10b0 : decide (1073741824 ≤ t105) = true := decide_eq_true c10
     clear c10
     simp only [Option.some.injEq, Prod.mk.injEq] at H
     obtain ⟨rfl, rfl, rfl, rfl⟩ := H
     go_enter Try.func84, Try.ntmps84
     go_wp2_with (first | ((with_reducible refine qb1 (N := 2) rfl ?_); refine qz ?hg (N := 2) ?hd (cs := #[.string (⟨#[]⟩ : ByteArray), .int .i64 0, .int .i64 0]) (t := 35) ?hr ?_; (case hd => rfl); (case hg => rfl); (case hr => first | (go_simp; done) | (go_simp; rfl)); intro gb101 hg w11 hbox hb; have BK101 := Qz.mk (hbox); have GW101 := Qz.mk ((by rw [hg]; exact (qv yq29) : w.heap.size ≤ gb101)); have GE101 := GW101; replace HB := Qz.mk (ql yq29 hb); clear hb hbox hg) | ((with_reducible refine qj (f := 81) rfl ?_); refine qt (some 24) rfl rfl Try.func81 (by kernel_rfl) rfl #[.string (a0.extract ((ji5) : Int).toNat a0.size)] rfl yq27 ?_; (with_reducible refine (spec_TakeFixed.calls (a0.extract ((ji5) : Int).toNat a0.size) t102 t103 t104 _ A8.out).mono ?_); rintro e w' ⟨rfl, ⟨nd, rfl⟩⟩; refine ⟨_, rfl, ?_⟩; (try (rw [drewN_self w11]; generalize hq_ : World.drewN w11 _ = w11; have n0_ : Qz (w11.heap[gb101]? = some (.cells #[.string (⟨#[]⟩ : ByteArray), .int .i64 0, .int .i64 0] 35 (0, 0))) := ⟨by rw [← hq_]; exact yq26⟩; have n1_ : Qz (Below w.heap.size w w11) := ⟨by rw [← hq_]; exact yq25⟩; clear BK101 HB hq_; have BK101 := n0_; have HB := n1_; clear n0_ n1_))) | ((with_reducible refine qj (f := 81) rfl ?_); refine qt (some 30) rfl rfl Try.func81 (by kernel_rfl) rfl #[.string t103] rfl (by (try simp only [List.map_toArray, List.map_cons, List.map_nil]); first | done | rfl) ?_; (with_reducible refine (spec_TakeFixed.calls t103 t105 t106 t107 _ A9.out).mono ?_); rintro e w' ⟨rfl, ⟨nd, rfl⟩⟩; refine ⟨_, rfl, ?_⟩; (try (rw [drewN_self w11]; generalize hq_ : World.drewN w11 _ = w11; have n0_ : Qz (w11.heap[gb101]? = some (.cells #[.string (⟨#[]⟩ : ByteArray), .int .i64 0, .int .i64 0] 35 (0, 0))) := ⟨by rw [← hq_]; exact yq26⟩; have n1_ : Qz (Below w.heap.size w w11) := ⟨by rw [← hq_]; exact yq25⟩; clear BK101 HB hq_; have BK101 := n0_; have HB := n1_; clear n0_ n1_)); have hcz12_0 : w11.cell? ⟨gb101, 0, none⟩ = some (.string (⟨#[]⟩ : ByteArray)) := (qf BK101.out 0).trans rfl; have hcz12_1 : w11.cell? ⟨gb101, 1, none⟩ = some (.int .i64 0) := (qf BK101.out 1).trans rfl; have hcz12_2 : w11.cell? ⟨gb101, 2, none⟩ = some (.int .i64 0) := (qf BK101.out 2).trans rfl; have hfz12_0 := qe BK101.out 0; have hfz12_1 := qe BK101.out 1; have hfz12_2 := qe BK101.out 2))
     refine bodyPost_ret (results_ct rfl _ _ gb101 35 #[.string (⟨#[]⟩ : ByteArray), .int .i64 0, .int .i64 0] (0, 0) _ rfl yq24 Try.underlying35 rfl (by kernel_rfl)) rfl ?_
     exact ⟨by first | rfl | (simp [qn, qm] <;> rfl) | (simp only [← hji5]; first | rfl | (simp [qn, qm] <;> rfl)) | (simp [*, qn, qm] <;> rfl), by repeat (first | (with_reducible first | exact HB.out | apply qc | apply qa | apply qb | refine qd ?_ GE101.out) | exact HB.out)⟩
    ·rw [if_neg c10] at H
     have c10b0 : decide (1073741824 ≤ t105) = false := decide_eq_false c10
     clear c10
     have c13b0 := eq_true (of_decide_eq_true (by first | (with_reducible assumption) | assumption) : 0 ≤ (ji5))
     have c14b0 := eq_true (of_decide_eq_true (by first | (with_reducible assumption) | assumption) : (ji5) ≤ (a0.size : Int))
     replace H := Option.bind_eq_some_iff.mp H
     obtain ⟨t109, A150, H⟩ := H
     replace H : (if t109 = true then (some (a0.extract 0 ((ji5) : Int).toNat, wrap64 (Int.tdiv (Go.bits .or .i64 (wrap64 ((wrap64 (t105)) * 4294967296)) (wrap64 (t102))) 2), Int.tmod (Go.bits .or .i64 (wrap64 ((wrap64 (t105)) * 4294967296)) (wrap64 (t102))) 2, true)) else (some ((⟨#[]⟩ : ByteArray), 0, 0, false))) = some (r1, r2, r3, r4) := H
     have A15 := Qz.mk A150
     clear A150
     by_cases c16 : t109 = true
     ·subst c16
      have H1 : (some (a0.extract 0 ((ji5) : Int).toNat, wrap64 (Int.tdiv (Go.bits .or .i64 (wrap64 ((wrap64 (t105)) * 4294967296)) (wrap64 (t102))) 2), Int.tmod (Go.bits .or .i64 (wrap64 ((wrap64 (t105)) * 4294967296)) (wrap64 (t102))) 2, true)) = some (r1, r2, r3, r4) := by rw [if_pos rfl] at H; exact H
      clear H
      have H := H1
      clear H1
      simp only [Option.some.injEq, Prod.mk.injEq] at H
      obtain ⟨rfl, rfl, rfl, rfl⟩ := H
      go_enter Try.func84, Try.ntmps84
      go_wp2_with (first | ((with_reducible refine qb1 (N := 2) rfl ?_); refine qz ?hg (N := 2) ?hd (cs := #[.string (⟨#[]⟩ : ByteArray), .int .i64 0, .int .i64 0]) (t := 35) ?hr ?_; (case hd => rfl); (case hg => rfl); (case hr => first | (go_simp; done) | (go_simp; rfl)); intro gb101 hg w17 hbox hb; have BK101 := Qz.mk (hbox); have GW101 := Qz.mk ((by rw [hg]; exact (qv yq29) : w.heap.size ≤ gb101)); have GE101 := GW101; replace HB := Qz.mk (ql yq29 hb); clear hb hbox hg) | ((with_reducible refine qj (f := 81) rfl ?_); refine qt (some 24) rfl rfl Try.func81 (by kernel_rfl) rfl #[.string (a0.extract ((ji5) : Int).toNat a0.size)] rfl yq27 ?_; (with_reducible refine (spec_TakeFixed.calls (a0.extract ((ji5) : Int).toNat a0.size) t102 t103 t104 _ A8.out).mono ?_); rintro e w' ⟨rfl, ⟨nd, rfl⟩⟩; refine ⟨_, rfl, ?_⟩; (try (rw [drewN_self w17]; generalize hq_ : World.drewN w17 _ = w17; have n0_ : Qz (w17.heap[gb101]? = some (.cells #[.string (⟨#[]⟩ : ByteArray), .int .i64 0, .int .i64 0] 35 (0, 0))) := ⟨by rw [← hq_]; exact yq26⟩; have n1_ : Qz (Below w.heap.size w w17) := ⟨by rw [← hq_]; exact yq25⟩; clear BK101 HB hq_; have BK101 := n0_; have HB := n1_; clear n0_ n1_))) | ((with_reducible refine qj (f := 81) rfl ?_); refine qt (some 30) rfl rfl Try.func81 (by kernel_rfl) rfl #[.string t103] rfl (by (try simp only [List.map_toArray, List.map_cons, List.map_nil]); first | done | rfl) ?_; (with_reducible refine (spec_TakeFixed.calls t103 t105 t106 t107 _ A9.out).mono ?_); rintro e w' ⟨rfl, ⟨nd, rfl⟩⟩; refine ⟨_, rfl, ?_⟩; (try (rw [drewN_self w17]; generalize hq_ : World.drewN w17 _ = w17; have n0_ : Qz (w17.heap[gb101]? = some (.cells #[.string (⟨#[]⟩ : ByteArray), .int .i64 0, .int .i64 0] 35 (0, 0))) := ⟨by rw [← hq_]; exact yq26⟩; have n1_ : Qz (Below w.heap.size w w17) := ⟨by rw [← hq_]; exact yq25⟩; clear BK101 HB hq_; have BK101 := n0_; have HB := n1_; clear n0_ n1_))) | ((with_reducible refine qb1 (N := 12) rfl ?_); refine qz ?hg (N := 12) ?hd (cs := #[.string (⟨#[]⟩ : ByteArray), .int .i64 0, .int .i64 0]) (t := 35) ?hr ?_; (case hd => rfl); (case hg => rfl); (case hr => first | (go_simp; done) | (go_simp; rfl)); intro gb108 hg w18 hbox hb; have BK108 := Qz.mk (hbox); have GW108 := Qz.mk ((by rw [hg]; exact (qv yq25) : w.heap.size ≤ gb108)); have GE108 := GW108; replace HB := Qz.mk (ql yq25 hb); have NB101_108 := Qz.mk ((by rw [hg]; exact Nat.ne_of_lt (blk_lt (g := gb101) (o := .cells #[.string (⟨#[]⟩ : ByteArray), .int .i64 0, .int .i64 0] 35 (0, 0)) yq26) : gb101 ≠ gb108)); have NB108_101 := Qz.mk ((by rw [hg]; exact Nat.ne_of_gt (blk_lt (g := gb101) (o := .cells #[.string (⟨#[]⟩ : ByteArray), .int .i64 0, .int .i64 0] 35 (0, 0)) yq26) : gb108 ≠ gb101)); replace BK101 := Qz.mk (qu (g := gb101) (o := .cells #[.string (⟨#[]⟩ : ByteArray), .int .i64 0, .int .i64 0] 35 (0, 0)) yq26 hb); clear hb hbox hg; have hnb19 := NB108_101.out; have hnc19 := NB101_108.out; have hcz20_0 : w18.cell? ⟨gb108, 0, none⟩ = some (.string (⟨#[]⟩ : ByteArray)) := (qf BK108.out 0).trans rfl; have hcz20_1 : w18.cell? ⟨gb108, 1, none⟩ = some (.int .i64 0) := (qf BK108.out 1).trans rfl; have hcz20_2 : w18.cell? ⟨gb108, 2, none⟩ = some (.int .i64 0) := (qf BK108.out 2).trans rfl; have hfz20_0 := qe BK108.out 0; have hfz20_1 := qe BK108.out 1; have hfz20_2 := qe BK108.out 2) | ((with_reducible refine qj (f := 79) rfl ?_); refine qt (some 52) rfl rfl Try.func79 (by kernel_rfl) rfl #[.agg #[.string (a0.extract 0 ((ji5) : Int).toNat), .int .i64 (wrap64 (Int.tdiv (Go.bits .or .i64 (wrap64 ((wrap64 (t105)) * 4294967296)) (wrap64 (t102))) 2)), .int .i64 (Int.tmod (Go.bits .or .i64 (wrap64 ((wrap64 (t105)) * 4294967296)) (wrap64 (t102))) 2)]] rfl yq27 ?_; (with_reducible refine (spec_KeyOk.calls (a0.extract 0 ((ji5) : Int).toNat) (wrap64 (Int.tdiv (Go.bits .or .i64 (wrap64 ((wrap64 (t105)) * 4294967296)) (wrap64 (t102))) 2)) (Int.tmod (Go.bits .or .i64 (wrap64 ((wrap64 (t105)) * 4294967296)) (wrap64 (t102))) 2) true _ A15.out).mono ?_); rintro e w21 ⟨rfl, hb⟩; refine ⟨_, rfl, ?_⟩; replace BK101 := Qz.mk (qu (g := gb101) (o := .cells #[.string (⟨#[]⟩ : ByteArray), .int .i64 0, .int .i64 0] 35 (0, 0)) yq30 hb); replace BK108 := Qz.mk (qu (g := gb108) (o := .cells #[.string (a0.extract 0 ((ji5) : Int).toNat), .int .i64 (wrap64 (Int.tdiv (Go.bits .or .i64 (wrap64 ((wrap64 (t105)) * 4294967296)) (wrap64 (t102))) 2)), .int .i64 (Int.tmod (Go.bits .or .i64 (wrap64 ((wrap64 (t105)) * 4294967296)) (wrap64 (t102))) 2)] 35 (0, 0)) yq28 hb); replace HB := Qz.mk (ql (by repeat (first | (with_reducible first | exact HB.out | apply qc | apply qa | apply qb | refine qd ?_ GE101.out | refine qd ?_ GE108.out) | exact HB.out)) hb); (try clear hb); have hcz22_0 : w21.cell? ⟨gb108, 0, none⟩ = some (.string (a0.extract 0 ((ji5) : Int).toNat)) := (qf BK108.out 0).trans rfl; have hcz22_1 : w21.cell? ⟨gb108, 1, none⟩ = some (.int .i64 (wrap64 (Int.tdiv (Go.bits .or .i64 (wrap64 ((wrap64 (t105)) * 4294967296)) (wrap64 (t102))) 2))) := (qf BK108.out 1).trans rfl; have hcz22_2 : w21.cell? ⟨gb108, 2, none⟩ = some (.int .i64 (Int.tmod (Go.bits .or .i64 (wrap64 ((wrap64 (t105)) * 4294967296)) (wrap64 (t102))) 2)) := (qf BK108.out 2).trans rfl; have hfz22_0 := qe BK108.out 0; have hfz22_1 := qe BK108.out 1; have hfz22_2 := qe BK108.out 2; have hcz23_0 : w21.cell? ⟨gb101, 0, none⟩ = some (.string (⟨#[]⟩ : ByteArray)) := (qf BK101.out 0).trans rfl; have hcz23_1 : w21.cell? ⟨gb101, 1, none⟩ = some (.int .i64 0) := (qf BK101.out 1).trans rfl; have hcz23_2 : w21.cell? ⟨gb101, 2, none⟩ = some (.int .i64 0) := (qf BK101.out 2).trans rfl; have hfz23_0 := qe BK101.out 0; have hfz23_1 := qe BK101.out 1; have hfz23_2 := qe BK101.out 2))
      refine bodyPost_ret (results_ct rfl _ _ gb101 35 #[.string (a0.extract 0 ((ji5) : Int).toNat), .int .i64 (wrap64 (Int.tdiv (Go.bits .or .i64 (wrap64 ((wrap64 (t105)) * 4294967296)) (wrap64 (t102))) 2)), .int .i64 (Int.tmod (Go.bits .or .i64 (wrap64 ((wrap64 (t105)) * 4294967296)) (wrap64 (t102))) 2)] (0, 0) _ rfl (by (with_reducible repeat (first | refine qg ?_ _ | refine qi ?_ | refine qh ?_ _)); refine qw (cs := #[.string (a0.extract 0 ((ji5) : Int).toNat), .int .i64 (wrap64 (Int.tdiv (Go.bits .or .i64 (wrap64 ((wrap64 (t105)) * 4294967296)) (wrap64 (t102))) 2)), .int .i64 0]) ?_ 2 _ rfl; (with_reducible repeat (first | refine qg ?_ _ | refine qi ?_ | refine qh ?_ _)); refine qw (cs := #[.string (a0.extract 0 ((ji5) : Int).toNat), .int .i64 0, .int .i64 0]) ?_ 1 _ rfl; (with_reducible repeat (first | refine qg ?_ _ | refine qi ?_ | refine qh ?_ _)); refine qw (cs := #[.string (⟨#[]⟩ : ByteArray), .int .i64 0, .int .i64 0]) ?_ 0 _ rfl; (with_reducible repeat (first | refine qg ?_ _ | refine qi ?_ | refine qh ?_ _)); exact BK101.out) Try.underlying35 rfl (by kernel_rfl)) rfl ?_
      exact ⟨by first | rfl | (simp [qn, qm] <;> rfl) | (simp only [← hji5]; first | rfl | (simp [qn, qm] <;> rfl)) | (simp [*, qn, qm] <;> rfl), by repeat (first | (with_reducible first | exact HB.out | apply qc | apply qa | apply qb | refine qd ?_ GE101.out | refine qd ?_ GE108.out) | exact HB.out)⟩
     ·replace c16 := Bool.eq_false_iff.mpr c16
      subst c16
      have H1 : (some ((⟨#[]⟩ : ByteArray), 0, 0, false)) = some (r1, r2, r3, r4) := by rw [if_neg (show ¬ (false = true) by decide)] at H; exact H
      clear H
      have H := H1
      clear H1
      simp only [Option.some.injEq, Prod.mk.injEq] at H
      obtain ⟨rfl, rfl, rfl, rfl⟩ := H
      go_enter Try.func84, Try.ntmps84
      go_wp2_with (first | ((with_reducible refine qb1 (N := 2) rfl ?_); refine qz ?hg (N := 2) ?hd (cs := #[.string (⟨#[]⟩ : ByteArray), .int .i64 0, .int .i64 0]) (t := 35) ?hr ?_; (case hd => rfl); (case hg => rfl); (case hr => first | (go_simp; done) | (go_simp; rfl)); intro gb101 hg w24 hbox hb; have BK101 := Qz.mk (hbox); have GW101 := Qz.mk ((by rw [hg]; exact (qv yq29) : w.heap.size ≤ gb101)); have GE101 := GW101; replace HB := Qz.mk (ql yq29 hb); clear hb hbox hg) | ((with_reducible refine qj (f := 81) rfl ?_); refine qt (some 24) rfl rfl Try.func81 (by kernel_rfl) rfl #[.string (a0.extract ((ji5) : Int).toNat a0.size)] rfl yq27 ?_; (with_reducible refine (spec_TakeFixed.calls (a0.extract ((ji5) : Int).toNat a0.size) t102 t103 t104 _ A8.out).mono ?_); rintro e w' ⟨rfl, ⟨nd, rfl⟩⟩; refine ⟨_, rfl, ?_⟩; (try (rw [drewN_self w24]; generalize hq_ : World.drewN w24 _ = w24; have n0_ : Qz (w24.heap[gb101]? = some (.cells #[.string (⟨#[]⟩ : ByteArray), .int .i64 0, .int .i64 0] 35 (0, 0))) := ⟨by rw [← hq_]; exact yq26⟩; have n1_ : Qz (Below w.heap.size w w24) := ⟨by rw [← hq_]; exact yq25⟩; clear BK101 HB hq_; have BK101 := n0_; have HB := n1_; clear n0_ n1_))) | ((with_reducible refine qj (f := 81) rfl ?_); refine qt (some 30) rfl rfl Try.func81 (by kernel_rfl) rfl #[.string t103] rfl (by (try simp only [List.map_toArray, List.map_cons, List.map_nil]); first | done | rfl) ?_; (with_reducible refine (spec_TakeFixed.calls t103 t105 t106 t107 _ A9.out).mono ?_); rintro e w' ⟨rfl, ⟨nd, rfl⟩⟩; refine ⟨_, rfl, ?_⟩; (try (rw [drewN_self w24]; generalize hq_ : World.drewN w24 _ = w24; have n0_ : Qz (w24.heap[gb101]? = some (.cells #[.string (⟨#[]⟩ : ByteArray), .int .i64 0, .int .i64 0] 35 (0, 0))) := ⟨by rw [← hq_]; exact yq26⟩; have n1_ : Qz (Below w.heap.size w w24) := ⟨by rw [← hq_]; exact yq25⟩; clear BK101 HB hq_; have BK101 := n0_; have HB := n1_; clear n0_ n1_))) | ((with_reducible refine qb1 (N := 12) rfl ?_); refine qz ?hg (N := 12) ?hd (cs := #[.string (⟨#[]⟩ : ByteArray), .int .i64 0, .int .i64 0]) (t := 35) ?hr ?_; (case hd => rfl); (case hg => rfl); (case hr => first | (go_simp; done) | (go_simp; rfl)); intro gb108 hg w25 hbox hb; have BK108 := Qz.mk (hbox); have GW108 := Qz.mk ((by rw [hg]; exact (qv yq25) : w.heap.size ≤ gb108)); have GE108 := GW108; replace HB := Qz.mk (ql yq25 hb); have NB101_108 := Qz.mk ((by rw [hg]; exact Nat.ne_of_lt (blk_lt (g := gb101) (o := .cells #[.string (⟨#[]⟩ : ByteArray), .int .i64 0, .int .i64 0] 35 (0, 0)) yq26) : gb101 ≠ gb108)); have NB108_101 := Qz.mk ((by rw [hg]; exact Nat.ne_of_gt (blk_lt (g := gb101) (o := .cells #[.string (⟨#[]⟩ : ByteArray), .int .i64 0, .int .i64 0] 35 (0, 0)) yq26) : gb108 ≠ gb101)); replace BK101 := Qz.mk (qu (g := gb101) (o := .cells #[.string (⟨#[]⟩ : ByteArray), .int .i64 0, .int .i64 0] 35 (0, 0)) yq26 hb); clear hb hbox hg; have hnb26 := NB108_101.out; have hnc26 := NB101_108.out; have hcz27_0 : w25.cell? ⟨gb108, 0, none⟩ = some (.string (⟨#[]⟩ : ByteArray)) := (qf BK108.out 0).trans rfl; have hcz27_1 : w25.cell? ⟨gb108, 1, none⟩ = some (.int .i64 0) := (qf BK108.out 1).trans rfl; have hcz27_2 : w25.cell? ⟨gb108, 2, none⟩ = some (.int .i64 0) := (qf BK108.out 2).trans rfl; have hfz27_0 := qe BK108.out 0; have hfz27_1 := qe BK108.out 1; have hfz27_2 := qe BK108.out 2) | ((with_reducible refine qj (f := 79) rfl ?_); refine qt (some 52) rfl rfl Try.func79 (by kernel_rfl) rfl #[.agg #[.string (a0.extract 0 ((ji5) : Int).toNat), .int .i64 (wrap64 (Int.tdiv (Go.bits .or .i64 (wrap64 ((wrap64 (t105)) * 4294967296)) (wrap64 (t102))) 2)), .int .i64 (Int.tmod (Go.bits .or .i64 (wrap64 ((wrap64 (t105)) * 4294967296)) (wrap64 (t102))) 2)]] rfl yq27 ?_; (with_reducible refine (spec_KeyOk.calls (a0.extract 0 ((ji5) : Int).toNat) (wrap64 (Int.tdiv (Go.bits .or .i64 (wrap64 ((wrap64 (t105)) * 4294967296)) (wrap64 (t102))) 2)) (Int.tmod (Go.bits .or .i64 (wrap64 ((wrap64 (t105)) * 4294967296)) (wrap64 (t102))) 2) false _ A15.out).mono ?_); rintro e w28 ⟨rfl, hb⟩; refine ⟨_, rfl, ?_⟩; replace BK101 := Qz.mk (qu (g := gb101) (o := .cells #[.string (⟨#[]⟩ : ByteArray), .int .i64 0, .int .i64 0] 35 (0, 0)) yq30 hb); replace BK108 := Qz.mk (qu (g := gb108) (o := .cells #[.string (a0.extract 0 ((ji5) : Int).toNat), .int .i64 (wrap64 (Int.tdiv (Go.bits .or .i64 (wrap64 ((wrap64 (t105)) * 4294967296)) (wrap64 (t102))) 2)), .int .i64 (Int.tmod (Go.bits .or .i64 (wrap64 ((wrap64 (t105)) * 4294967296)) (wrap64 (t102))) 2)] 35 (0, 0)) yq28 hb); replace HB := Qz.mk (ql (by repeat (first | (with_reducible first | exact HB.out | apply qc | apply qa | apply qb | refine qd ?_ GE101.out | refine qd ?_ GE108.out) | exact HB.out)) hb); (try clear hb); have hcz29_0 : w28.cell? ⟨gb101, 0, none⟩ = some (.string (⟨#[]⟩ : ByteArray)) := (qf BK101.out 0).trans rfl; have hcz29_1 : w28.cell? ⟨gb101, 1, none⟩ = some (.int .i64 0) := (qf BK101.out 1).trans rfl; have hcz29_2 : w28.cell? ⟨gb101, 2, none⟩ = some (.int .i64 0) := (qf BK101.out 2).trans rfl; have hfz29_0 := qe BK101.out 0; have hfz29_1 := qe BK101.out 1; have hfz29_2 := qe BK101.out 2))
      refine bodyPost_ret (results_ct rfl _ _ gb101 35 #[.string (⟨#[]⟩ : ByteArray), .int .i64 0, .int .i64 0] (0, 0) _ rfl yq24 Try.underlying35 rfl (by kernel_rfl)) rfl ?_
      exact ⟨by first | rfl | (simp [qn, qm] <;> rfl) | (simp only [← hji5]; first | rfl | (simp [qn, qm] <;> rfl)) | (simp [*, qn, qm] <;> rfl), by repeat (first | (with_reducible first | exact HB.out | apply qc | apply qa | apply qb | refine qd ?_ GE101.out | refine qd ?_ GE108.out) | exact HB.out)⟩
   ·rw [if_neg c7] at H
    exact absurd H (by simp)
  ·rw [if_neg c6] at H
   exact absurd H (by simp)
theorem yq31 {P : Prop} (h : P := by repeat (first | (with_reducible first | exact HB.out | apply qc | apply qa | apply qb) | exact HB.out)) : P := h
theorem yq32 {P : Prop} (h : P := by (with_reducible repeat (first | apply Kd.R_alloc | apply Kd.R_drewN | apply Kd.R_drew)); exact HO_11.out) : P := h
theorem yq33 {P : Prop} (h : P := by (try simp only [List.map_toArray, List.map_cons, List.map_nil]); first | done | rfl) : P := h
theorem yq34 {P : Prop} (h : P := by (try simp only [List.map_toArray, List.map_cons, List.map_nil]); first | done | rfl | (simp only [List.length_drop, List.length_take]; rfl) | (rw [IntWalk.u64_in _ (by omega)] <;> rfl)) : P := h
theorem yq35 {P : Prop} (h : P := by repeat (first | exact (Kd.R_reads' HO_11.out).2.2 | (with_reducible refine Kd.C_alloc ?_ _) | (with_reducible refine Kd.C_drewN ?_ _) | (with_reducible refine Kd.C_drew ?_))) : P := h
theorem yq36 {P : Prop} (h : P := by first | rfl | (simp; done) | (simp [*]; done)) : P := h
mutual
def spec_ReadBlock.j0 : Nat → ByteArray → Bool → Option ((List (S64)) × Bool)
 | 0, _, _ => none
 | k + 1, x0, x33 => if x33 = true then (some (([] : List (S64)), false)) else (if 0 ≤ (wrap64 ((x0.size : Int) - 8)) then (if (wrap64 ((x0.size : Int) - 8)) ≤ (x0.size : Int) then ((spec_TakeFixed.f (x0.extract ((wrap64 ((x0.size : Int) - 8)) : Int).toNat x0.size)).bind fun bt101 => ((spec_TakeFixed.f bt101.2.1).bind fun bt104 => (if (wrap64 (bt101.1)) > (wrap64 (Int.tdiv (wrap64 ((x0.size : Int) - 8)) 4)) then (some (([] : List (S64)), false)) else (if 0 ≤ (wrap64 ((wrap64 ((x0.size : Int) - 8)) - (wrap64 (4 * (wrap64 (bt101.1)))))) then (if (wrap64 ((wrap64 ((x0.size : Int) - 8)) - (wrap64 (4 * (wrap64 (bt101.1)))))) ≤ (x0.size : Int) then (spec_ReadBlock.l0 k x0 bt104.1 (x0.extract 0 ((wrap64 ((wrap64 ((x0.size : Int) - 8)) - (wrap64 (4 * (wrap64 (bt101.1)))))) : Int).toNat) (([] : List (S64))) (⟨#[]⟩ : ByteArray)) else (none)) else (none))))) else (none)) else (none))
def spec_ReadBlock.l0 : Nat → ByteArray → Int → ByteArray → List (S64) → ByteArray → Option ((List (S64)) × Bool)
 | 0, _, _, _, _, _ => none
 | k + 1, x0, x7, x10, x11, x12 => if x10.toList = ([] : List UInt8) then ((spec_BlockOf.f k x11 (wrap64 (x7))).bind fun bt110 => (if bt110.2 = true then (if bt110.1.toList = x0.toList then (some (x11, true)) else (some (([] : List (S64)), false))) else (some (([] : List (S64)), false)))) else ((spec_TakeVar.f k x10).bind fun bt112 => ((spec_TakeText.f k bt112.2.1).bind fun bt115 => ((spec_TakeText.f k bt115.2.1).bind fun bt118 => (if bt112.2.2 = true then (if bt115.2.2 = true then (if bt118.2.2 = true then (spec_ReadBlock.j2 k x0 x7 x11 x12 bt112.1 bt115.1 bt118.1 bt118.2.1 (decide (bt112.1 > (IntKind.u64.wrap ((x12.size : Int)))))) else (spec_ReadBlock.j2 k x0 x7 x11 x12 bt112.1 bt115.1 bt118.1 bt118.2.1 true)) else (spec_ReadBlock.j2 k x0 x7 x11 x12 bt112.1 bt115.1 bt118.1 bt118.2.1 true)) else (spec_ReadBlock.j2 k x0 x7 x11 x12 bt112.1 bt115.1 bt118.1 bt118.2.1 true)))))
def spec_ReadBlock.j2 : Nat → ByteArray → Int → List (S64) → ByteArray → Int → ByteArray → ByteArray → ByteArray → Bool → Option ((List (S64)) × Bool)
 | 0, _, _, _, _, _, _, _, _, _ => none
 | k + 1, x0, x7, x11, x12, x13, x16, x19, x20, x103 => if x103 = true then (some (([] : List (S64)), false)) else (if 0 ≤ x13 then (if x13 ≤ (x12.size : Int) then (if (x13 : Int).toNat + x16.size ≤ 9223372036854775807 then ((spec_ReadKey.f ((x12.extract 0 (x13 : Int).toNat) ++ x16)).bind fun bt121 => (if bt121.2.2.2 = true then (if (x11.length : Int) ≥ 400 then (some (([] : List (S64)), false)) else (if x11.length < 2932031007402 then (spec_ReadBlock.l0 k x0 x7 x20 (x11 ++ [(⟨(⟨bt121.1, bt121.2.1, bt121.2.2.1⟩ : S35), x19⟩ : S64)]) ((x12.extract 0 (x13 : Int).toNat) ++ x16)) else (none))) else (some (([] : List (S64)), false)))) else (none)) else (none)) else (none))
end
def spec_ReadBlock.f (k : Nat) (a0 : ByteArray) : Option ((List (S64)) × Bool) := if (a0.size : Int) < 8 then (spec_ReadBlock.j0 k a0 true) else (spec_ReadBlock.j0 k a0 (decide ((a0.size : Int) > 60000)))
set_option maxHeartbeats 8000000 in
set_option maxRecDepth 100000 in
theorem spec_ReadBlock.calls (k : Nat) (a0 : ByteArray) (r1 : List (S64)) (r2 : Bool) (w : World) (h : spec_ReadBlock.f k a0 = some (r1, r2)) :
  Calls Try.prog 24 #[.string a0] w fun e w' => ∃ v0_ : Value, e = .returned (.tuple #[v0_, .bool r2]) ∧ Kd.R k64 64 w' w.heap.size (fun _ => True) v0_ r1 ∧ Below w.heap.size w w' := by
 have hu35 := Try.underlying35
 have hu64 := Try.underlying64
 have HB := Qz.mk (Below.refl w.heap.size w)
 have H : (if (a0.size : Int) < 8 then (spec_ReadBlock.j0 k a0 true) else (spec_ReadBlock.j0 k a0 (decide ((a0.size : Int) > 60000)))) = some (r1, r2) := h
 clear h
 have HC2 := Qz.mk H
 clear H
 go_enter Try.func24, Try.ntmps24
 go_upto_region 1 with (fail)
 go_cut [33] (fun v33 wc => ∃ (kq : Nat) (x33_1 : Bool), v33 = .bool x33_1 ∧ Qz (spec_ReadBlock.j0 kq a0 x33_1 = some (r1, r2)) ∧ Qz (kq ≤ k) ∧ Qz (Below w.heap.size w wc))
 case first =>
  have H := HC2.out
  clear HC2
  by_cases c3 : (a0.size : Int) < 8
  ·rw [if_pos c3] at H
   have c3b0 : decide ((a0.size : Int) < 8) = true := decide_eq_true c3
   have c3b1 : decide (a0.size < 8) = true := decide_eq_true (by omega)
   clear c3
   (first | rw [c3b0] | (simp only [i64_w, i32_w]; rw [c3b0]) | skip)
   have H' := Qz.mk H
   clear H
   go_wp2
   go_meet
   case rel => exact ⟨_, (true), yq36, H', ⟨by first | omega | exact Nat.le_refl _⟩, ⟨by repeat (first | (with_reducible first | exact HB.out | apply qc | apply qa | apply qb) | exact HB.out)⟩⟩
  ·rw [if_neg c3] at H
   have c3b0 : decide ((a0.size : Int) < 8) = false := decide_eq_false c3
   have c3b1 : decide (a0.size < 8) = false := decide_eq_false (by omega)
   clear c3
   (first | rw [c3b0] | (simp only [i64_w, i32_w]; rw [c3b0]) | skip)
   have H' := Qz.mk H
   clear H
   go_wp2
   go_meet
   case rel => exact ⟨_, (decide ((a0.size : Int) > 60000)), yq36, H', ⟨by first | omega | exact Nat.le_refl _⟩, ⟨by repeat (first | (with_reducible first | exact HB.out | apply qc | apply qa | apply qb) | exact HB.out)⟩⟩
 case rest =>
  clear HC2
  try clear c2
  try clear p2
  try clear c3
  try clear c3b0
  try clear c3b1
  obtain ⟨kq, x33_1, rfl, HA, HJ1, HB⟩ := hcut
  cases kq with
  | zero => exact absurd HA.out (by simp [spec_ReadBlock.j0])
  | succ kj1 =>
   have H := HA.out
   clear HA
   simp only [spec_ReadBlock.j0] at H
   by_cases c4 : x33_1 = true
   ·subst c4
    have H1 : (some (([] : List (S64)), false)) = some (r1, r2) := by rw [if_pos rfl] at H; exact H
    clear H
    have H := H1
    clear H1
    simp only [Option.some.injEq, Prod.mk.injEq] at H
    obtain ⟨rfl, rfl⟩ := H
    go_wp2
    go_ret2
    exact ⟨_, by first | rfl | (simp [qn, qm] <;> rfl) | (simp [*, qn, qm] <;> rfl), by first | exact Kd.R_nil _ _ _ _ _ | exact Kd.N_nil _ _ _ _ _ | exact Kd.V_nil _ _ _ _ _ | exact Kd.Q_nil _ _ _ _ _ | exact Kd.S_nil _ _ _ _ _, by repeat (first | (with_reducible first | exact HB.out | apply qc | apply qa | apply qb) | exact HB.out)⟩
   ·replace c4 := Bool.eq_false_iff.mpr c4
    subst c4
    have H1 : (if 0 ≤ (wrap64 ((a0.size : Int) - 8)) then (if (wrap64 ((a0.size : Int) - 8)) ≤ (a0.size : Int) then ((spec_TakeFixed.f (a0.extract ((wrap64 ((a0.size : Int) - 8)) : Int).toNat a0.size)).bind fun bt101 => ((spec_TakeFixed.f bt101.2.1).bind fun bt104 => (if (wrap64 (bt101.1)) > (wrap64 (Int.tdiv (wrap64 ((a0.size : Int) - 8)) 4)) then (some (([] : List (S64)), false)) else (if 0 ≤ (wrap64 ((wrap64 ((a0.size : Int) - 8)) - (wrap64 (4 * (wrap64 (bt101.1)))))) then (if (wrap64 ((wrap64 ((a0.size : Int) - 8)) - (wrap64 (4 * (wrap64 (bt101.1)))))) ≤ (a0.size : Int) then (spec_ReadBlock.l0 kj1 a0 bt104.1 (a0.extract 0 ((wrap64 ((wrap64 ((a0.size : Int) - 8)) - (wrap64 (4 * (wrap64 (bt101.1)))))) : Int).toNat) (([] : List (S64))) (⟨#[]⟩ : ByteArray)) else (none)) else (none))))) else (none)) else (none)) = some (r1, r2) := by rw [if_neg (show ¬ (false = true) by decide)] at H; exact H
    clear H
    have H := H1
    clear H1
    obtain ⟨ji5, hji5⟩ : ∃ j_ : Int, (wrap64 ((a0.size : Int) - 8)) = j_ := ⟨_, rfl⟩
    replace H : (if 0 ≤ (ji5) then (if (ji5) ≤ (a0.size : Int) then ((spec_TakeFixed.f (a0.extract ((ji5) : Int).toNat a0.size)).bind fun bt101 => ((spec_TakeFixed.f bt101.2.1).bind fun bt104 => (if (wrap64 (bt101.1)) > (wrap64 (Int.tdiv (ji5) 4)) then (some (([] : List (S64)), false)) else (if 0 ≤ (wrap64 ((ji5) - (wrap64 (4 * (wrap64 (bt101.1)))))) then (if (wrap64 ((ji5) - (wrap64 (4 * (wrap64 (bt101.1)))))) ≤ (a0.size : Int) then (spec_ReadBlock.l0 kj1 a0 bt104.1 (a0.extract 0 ((wrap64 ((ji5) - (wrap64 (4 * (wrap64 (bt101.1)))))) : Int).toNat) (([] : List (S64))) (⟨#[]⟩ : ByteArray)) else (none)) else (none))))) else (none)) else (none)) = some (r1, r2) := by first | (rw [hji5] at H; exact H) | (simp only [hji5] at H ⊢; exact H)
    have hji5w : (IntKind.i64.wrap ((a0.size : Int) - 8)) = ji5 := (i64_w _).trans hji5
    by_cases c6 : 0 ≤ (ji5)
    ·rw [if_pos c6] at H
     have c6b0 := eq_true c6
     have c6b1 : decide (0 ≤ (ji5)) = true := decide_eq_true c6
     clear c6
     by_cases c7 : (ji5) ≤ (a0.size : Int)
     ·rw [if_pos c7] at H
      have c7b0 := eq_true c7
      have c7b1 : decide ((ji5) ≤ (a0.size : Int)) = true := decide_eq_true c7
      clear c7
      replace H := Option.bind_eq_some_iff.mp H
      obtain ⟨⟨t101, t102, t103⟩, A80, H⟩ := H
      replace H : ((spec_TakeFixed.f t102).bind fun bt104 => (if (wrap64 (t101)) > (wrap64 (Int.tdiv (ji5) 4)) then (some (([] : List (S64)), false)) else (if 0 ≤ (wrap64 ((ji5) - (wrap64 (4 * (wrap64 (t101)))))) then (if (wrap64 ((ji5) - (wrap64 (4 * (wrap64 (t101)))))) ≤ (a0.size : Int) then (spec_ReadBlock.l0 kj1 a0 bt104.1 (a0.extract 0 ((wrap64 ((ji5) - (wrap64 (4 * (wrap64 (t101)))))) : Int).toNat) (([] : List (S64))) (⟨#[]⟩ : ByteArray)) else (none)) else (none)))) = some (r1, r2) := H
      have A8 := Qz.mk A80
      clear A80
      replace H := Option.bind_eq_some_iff.mp H
      obtain ⟨⟨t104, t105, t106⟩, A90, H⟩ := H
      replace H : (if (wrap64 (t101)) > (wrap64 (Int.tdiv (ji5) 4)) then (some (([] : List (S64)), false)) else (if 0 ≤ (wrap64 ((ji5) - (wrap64 (4 * (wrap64 (t101)))))) then (if (wrap64 ((ji5) - (wrap64 (4 * (wrap64 (t101)))))) ≤ (a0.size : Int) then (spec_ReadBlock.l0 kj1 a0 t104 (a0.extract 0 ((wrap64 ((ji5) - (wrap64 (4 * (wrap64 (t101)))))) : Int).toNat) (([] : List (S64))) (⟨#[]⟩ : ByteArray)) else (none)) else (none))) = some (r1, r2) := H
      have A9 := Qz.mk A90
      clear A90
      by_cases c10 : (wrap64 (t101)) > (wrap64 (Int.tdiv (ji5) 4))
      ·rw [if_pos c10] at H
       have c10b0 : decide ((wrap64 (Int.tdiv (ji5) 4)) < (wrap64 (t101))) = true := decide_eq_true c10
       clear c10
       simp only [Option.some.injEq, Prod.mk.injEq] at H
       obtain ⟨rfl, rfl⟩ := H
       go_wp2_with (first | ((with_reducible refine qj (f := 81) rfl ?_); refine qt (some 40) rfl rfl Try.func81 (by kernel_rfl) rfl #[.string (a0.extract ((ji5) : Int).toNat a0.size)] rfl (by (try simp only [List.map_toArray, List.map_cons, List.map_nil]); first | done | (simp only [hji5]; rfl) | rfl | (simp only [List.length_drop, List.length_take]; rfl) | (rw [IntWalk.u64_in _ (by omega)] <;> rfl)) ?_; (with_reducible refine (spec_TakeFixed.calls (a0.extract ((ji5) : Int).toNat a0.size) t101 t102 t103 _ A8.out).mono ?_); rintro e w' ⟨rfl, ⟨nd, rfl⟩⟩; refine ⟨_, rfl, ?_⟩) | ((with_reducible refine qj (f := 81) rfl ?_); refine qt (some 46) rfl rfl Try.func81 (by kernel_rfl) rfl #[.string t102] rfl yq33 ?_; (with_reducible refine (spec_TakeFixed.calls t102 t104 t105 t106 _ A9.out).mono ?_); rintro e w' ⟨rfl, ⟨nd, rfl⟩⟩; refine ⟨_, rfl, ?_⟩))
       go_ret2
       exact ⟨_, by first | rfl | (simp [qn, qm] <;> rfl) | (simp only [← hji5]; first | rfl | (simp [qn, qm] <;> rfl)) | (simp [*, qn, qm] <;> rfl), by first | exact Kd.R_nil _ _ _ _ _ | exact Kd.N_nil _ _ _ _ _ | exact Kd.V_nil _ _ _ _ _ | exact Kd.Q_nil _ _ _ _ _ | exact Kd.S_nil _ _ _ _ _, by repeat (first | (with_reducible first | exact HB.out | apply qc | apply qa | apply qb) | exact HB.out)⟩
      ·rw [if_neg c10] at H
       have c10b0 : decide ((wrap64 (Int.tdiv (ji5) 4)) < (wrap64 (t101))) = false := decide_eq_false c10
       clear c10
       obtain ⟨ji11, hji11⟩ : ∃ j_ : Int, (wrap64 ((ji5) - (wrap64 (4 * (wrap64 (t101)))))) = j_ := ⟨_, rfl⟩
       replace H : (if 0 ≤ (ji11) then (if (ji11) ≤ (a0.size : Int) then (spec_ReadBlock.l0 kj1 a0 t104 (a0.extract 0 ((ji11) : Int).toNat) (([] : List (S64))) (⟨#[]⟩ : ByteArray)) else (none)) else (none)) = some (r1, r2) := by first | (rw [hji11] at H; exact H) | (simp only [hji11] at H ⊢; exact H)
       (try rw [hji11] at A8)
       (try rw [hji11] at A9)
       have hji11w : (IntKind.i64.wrap ((ji5) - (wrap64 (4 * (wrap64 (t101)))))) = ji11 := (i64_w _).trans hji11
       by_cases c12 : 0 ≤ (ji11)
       ·rw [if_pos c12] at H
        have c12b0 := eq_true c12
        have c12b1 : decide (0 ≤ (ji11)) = true := decide_eq_true c12
        clear c12
        by_cases c13 : (ji11) ≤ (a0.size : Int)
        ·rw [if_pos c13] at H
         have c13b0 := eq_true c13
         have c13b1 : decide ((ji11) ≤ (a0.size : Int)) = true := decide_eq_true c13
         clear c13
         obtain ⟨y107, hy107⟩ : ∃ y_ : List (S64), y_ = (([] : List (S64))) := ⟨_, rfl⟩
         replace H : (spec_ReadBlock.l0 kj1 a0 t104 (a0.extract 0 ((ji11) : Int).toNat) y107 (⟨#[]⟩ : ByteArray)) = some (r1, r2) := by first | (rw [hy107]; with_reducible exact H) | (have H2_ := (Option.bind_some _ _).symm.trans H; rw [hy107]; with_reducible exact H2_) | (have H2_ := (Option.bind_some _ _).symm.trans H; with_reducible exact H2_) | with_reducible exact H | (rw [hy107]; exact H) | exact H
         have Ny107 := Qz.mk hy107
         clear hy107
         have H' := Qz.mk H
         clear H
         go_wp2_with (first | ((with_reducible refine qj (f := 81) rfl ?_); refine qt (some 40) rfl rfl Try.func81 (by kernel_rfl) rfl #[.string (a0.extract ((ji5) : Int).toNat a0.size)] rfl (by (try simp only [List.map_toArray, List.map_cons, List.map_nil]); first | done | (simp only [hji5]; rfl) | rfl | (simp only [List.length_drop, List.length_take]; rfl) | (rw [IntWalk.u64_in _ (by omega)] <;> rfl)) ?_; (with_reducible refine (spec_TakeFixed.calls (a0.extract ((ji5) : Int).toNat a0.size) t101 t102 t103 _ A8.out).mono ?_); rintro e w' ⟨rfl, ⟨nd, rfl⟩⟩; refine ⟨_, rfl, ?_⟩) | ((with_reducible refine qj (f := 81) rfl ?_); refine qt (some 46) rfl rfl Try.func81 (by kernel_rfl) rfl #[.string t102] rfl yq33 ?_; (with_reducible refine (spec_TakeFixed.calls t102 t104 t105 t106 _ A9.out).mono ?_); rintro e w' ⟨rfl, ⟨nd, rfl⟩⟩; refine ⟨_, rfl, ?_⟩) | ((with_reducible refine qb1 (N := 66) rfl ?_); (try (refine gate_guard (by rfl) ?_; dsimp only)); refine Kd.R_lit k64 _ 64 ?hg (N := 66) ?hd (xs := ([] : List (S64))) (inner := []) (ok := fun _ => True) (okp := fun _ => True) ?hr ?hp (fun _ hk => hk) trivial (Below.refl _ _) (Nat.le_refl _) (by simp) ?_; (case hd => rfl); (case hg => rfl); (case hr => first | (go_simp; done) | (go_simp; rfl)); (case hp => exact (Reps.none _ _)); intro v108 w14 ho15 hb hg_ hnew_; clear hg_ hnew_; (first | rw [← Ny107.out] at ho15 | (simp only [Int.reduceToNat] at ho15; rw [← Ny107.out] at ho15)); have HO109 := Qz.mk (Kd.R_lower ho15 (qv yq31)); replace HB := Qz.mk (ql yq31 hb); clear hb ho15))
         go_loopg [10, 11, 12] kj1 (fun kq v10 v11 v12 w' => ∃ (x10_2 : ByteArray) (x11_2 : List (S64)) (x12_2 : ByteArray), v10 = .string x10_2 ∧ v12 = .string x12_2 ∧ Qz (spec_ReadBlock.l0 kq a0 t104 x10_2 x11_2 x12_2 = some (r1, r2)) ∧ Qz (kq ≤ kj1) ∧ Qz (Kd.R k64 64 w' w.heap.size (fun _ => True) v11 x11_2) ∧ Qz (Below w.heap.size w w'))
         case atStart => exact ⟨(a0.extract 0 ((ji11) : Int).toNat), (y107), ((⟨#[]⟩ : ByteArray)), (by first | rfl | (simp; done) | (simp only [← hji11] <;> (first | rfl | simp)) | (simp [*]; done)), yq36, H', ⟨Nat.le_refl _⟩, ⟨by (with_reducible repeat (first | apply Kd.R_alloc | apply Kd.R_drewN | apply Kd.R_drew)); exact HO109.out⟩, ⟨by repeat (first | (with_reducible first | exact HB.out | apply qc | apply qa | apply qb) | exact HB.out)⟩⟩
         case round =>
          clear H'
          try clear c1
          try clear c2
          try clear p2
          try clear c3
          try clear c3b0
          try clear c3b1
          try clear c4
          try clear c6
          try clear c6b0
          try clear c6b1
          try clear p6
          try clear c7
          try clear c7b0
          try clear c7b1
          try clear c8
          try clear c10
          try clear c10b0
          try clear c12
          try clear c12b0
          try clear c12b1
          try clear c13
          try clear c13b0
          try clear c13b1
          try clear p2
          obtain ⟨x10_2, x11_2, x12_2, rfl, rfl, HA, HK2, HO_11, HB⟩ := hrel
          cases gk with
          | zero => exact absurd HA.out (by simp [spec_ReadBlock.l0])
          | succ k2 =>
           have H := HA.out
           clear HA
           simp only [spec_ReadBlock.l0] at H
           by_cases c16 : x10_2.toList = ([] : List UInt8)
           ·rw [if_pos c16] at H
            have c16b0 : (x10_2.toList == ([] : List UInt8)) = true := beq_iff_eq.mpr c16
            have c16b1 : (x10_2.toList != ([] : List UInt8)) = false := bne_eq_false_iff_eq.mpr c16
            clear c16
            replace H := Option.bind_eq_some_iff.mp H
            obtain ⟨⟨t110, t111⟩, A170, H⟩ := H
            replace H : (if t111 = true then (if t110.toList = a0.toList then (some (x11_2, true)) else (some (([] : List (S64)), false))) else (some (([] : List (S64)), false))) = some (r1, r2) := H
            have A17 := Qz.mk A170
            clear A170
            by_cases c18 : t111 = true
            ·subst c18
             have H1 : (if t110.toList = a0.toList then (some (x11_2, true)) else (some (([] : List (S64)), false))) = some (r1, r2) := by rw [if_pos rfl] at H; exact H
             clear H
             have H := H1
             clear H1
             by_cases c19 : t110.toList = a0.toList
             ·rw [if_pos c19] at H
              have c19b0 : (t110.toList == a0.toList) = true := beq_iff_eq.mpr c19
              have c19b1 : (t110.toList != a0.toList) = false := bne_eq_false_iff_eq.mpr c19
              clear c19
              simp only [Option.some.injEq, Prod.mk.injEq] at H
              obtain ⟨rfl, rfl⟩ := H
              obtain ⟨Ao20, co20, eo20⟩ := Kd.R_slice HO_11.out
              subst eo20
              go_wp2_with (first | ((with_reducible refine qj (f := 16) rfl ?_); refine qt (some 132) rfl rfl Try.func16 (by kernel_rfl) rfl #[.slice Ao20 x11_2.length co20, .int .i64 (wrap64 (t104))] rfl yq34 ?_; (with_reducible refine (spec_BlockOf.calls k2 _ _ x11_2 (wrap64 (t104)) t110 true _ ?side1 ?side2 A17.out).mono ?_); (case side1 => exact yq35); (case side2 => exact (Kd.R_reads' HO_11.out).2.1); rintro e w21 ⟨rfl, hb⟩; refine ⟨_, rfl, ?_⟩; replace HO_11 := Qz.mk (Kd.R_below yq32 hb); replace HB := Qz.mk (ql yq31 hb); (try clear hb); (try clear hk)))
              go_ret2
              exact ⟨_, by first | rfl | (simp [qn, qm] <;> rfl) | (simp only [← hji5, ← hji11]; first | rfl | (simp [qn, qm] <;> rfl)) | (simp [*, qn, qm] <;> rfl), by (with_reducible repeat (first | apply Kd.R_alloc | apply Kd.R_drewN | apply Kd.R_drew)); exact HO_11.out, by repeat (first | (with_reducible first | exact HB.out | apply qc | apply qa | apply qb) | exact HB.out)⟩
             ·rw [if_neg c19] at H
              have c19b0 : (t110.toList == a0.toList) = false := beq_eq_false_iff_ne.mpr c19
              have c19b1 : (t110.toList != a0.toList) = true := bne_iff_ne.mpr c19
              simp only [Option.some.injEq, Prod.mk.injEq] at H
              obtain ⟨rfl, rfl⟩ := H
              obtain ⟨Ao22, co22, eo22⟩ := Kd.R_slice HO_11.out
              subst eo22
              go_wp2_with (first | ((with_reducible refine qj (f := 16) rfl ?_); refine qt (some 132) rfl rfl Try.func16 (by kernel_rfl) rfl #[.slice Ao22 x11_2.length co22, .int .i64 (wrap64 (t104))] rfl yq34 ?_; (with_reducible refine (spec_BlockOf.calls k2 _ _ x11_2 (wrap64 (t104)) t110 true _ ?side1 ?side2 A17.out).mono ?_); (case side1 => exact yq35); (case side2 => exact (Kd.R_reads' HO_11.out).2.1); rintro e w23 ⟨rfl, hb⟩; refine ⟨_, rfl, ?_⟩; replace HO_11 := Qz.mk (Kd.R_below yq32 hb); replace HB := Qz.mk (ql yq31 hb); (try clear hb); (try clear hk)))
              go_ret2
              exact ⟨_, by first | rfl | (simp [qn, qm] <;> rfl) | (simp only [← hji5, ← hji11]; first | rfl | (simp [qn, qm] <;> rfl)) | (simp [*, qn, qm] <;> rfl), by first | exact Kd.R_nil _ _ _ _ _ | exact Kd.N_nil _ _ _ _ _ | exact Kd.V_nil _ _ _ _ _ | exact Kd.Q_nil _ _ _ _ _ | exact Kd.S_nil _ _ _ _ _, by repeat (first | (with_reducible first | exact HB.out | apply qc | apply qa | apply qb) | exact HB.out)⟩
            ·replace c18 := Bool.eq_false_iff.mpr c18
             subst c18
             have H1 : (some (([] : List (S64)), false)) = some (r1, r2) := by rw [if_neg (show ¬ (false = true) by decide)] at H; exact H
             clear H
             have H := H1
             clear H1
             simp only [Option.some.injEq, Prod.mk.injEq] at H
             obtain ⟨rfl, rfl⟩ := H
             obtain ⟨Ao24, co24, eo24⟩ := Kd.R_slice HO_11.out
             subst eo24
             go_wp2_with (first | ((with_reducible refine qj (f := 16) rfl ?_); refine qt (some 132) rfl rfl Try.func16 (by kernel_rfl) rfl #[.slice Ao24 x11_2.length co24, .int .i64 (wrap64 (t104))] rfl yq34 ?_; (with_reducible refine (spec_BlockOf.calls k2 _ _ x11_2 (wrap64 (t104)) t110 false _ ?side1 ?side2 A17.out).mono ?_); (case side1 => exact yq35); (case side2 => exact (Kd.R_reads' HO_11.out).2.1); rintro e w25 ⟨rfl, hb⟩; refine ⟨_, rfl, ?_⟩; replace HO_11 := Qz.mk (Kd.R_below yq32 hb); replace HB := Qz.mk (ql yq31 hb); (try clear hb); (try clear hk)))
             go_ret2
             exact ⟨_, by first | rfl | (simp [qn, qm] <;> rfl) | (simp only [← hji5, ← hji11]; first | rfl | (simp [qn, qm] <;> rfl)) | (simp [*, qn, qm] <;> rfl), by first | exact Kd.R_nil _ _ _ _ _ | exact Kd.N_nil _ _ _ _ _ | exact Kd.V_nil _ _ _ _ _ | exact Kd.Q_nil _ _ _ _ _ | exact Kd.S_nil _ _ _ _ _, by repeat (first | (with_reducible first | exact HB.out | apply qc | apply qa | apply qb) | exact HB.out)⟩
           ·rw [if_neg c16] at H
            have c16b0 : (x10_2.toList == ([] : List UInt8)) = false := beq_eq_false_iff_ne.mpr c16
            have c16b1 : (x10_2.toList != ([] : List UInt8)) = true := bne_iff_ne.mpr c16
            replace H := Option.bind_eq_some_iff.mp H
            obtain ⟨⟨t112, t113, t114⟩, A260, H⟩ := H
            replace H : ((spec_TakeText.f k2 t113).bind fun bt115 => ((spec_TakeText.f k2 bt115.2.1).bind fun bt118 => (if t114 = true then (if bt115.2.2 = true then (if bt118.2.2 = true then (spec_ReadBlock.j2 k2 a0 t104 x11_2 x12_2 t112 bt115.1 bt118.1 bt118.2.1 (decide (t112 > (IntKind.u64.wrap ((x12_2.size : Int)))))) else (spec_ReadBlock.j2 k2 a0 t104 x11_2 x12_2 t112 bt115.1 bt118.1 bt118.2.1 true)) else (spec_ReadBlock.j2 k2 a0 t104 x11_2 x12_2 t112 bt115.1 bt118.1 bt118.2.1 true)) else (spec_ReadBlock.j2 k2 a0 t104 x11_2 x12_2 t112 bt115.1 bt118.1 bt118.2.1 true)))) = some (r1, r2) := H
            have A26 := Qz.mk A260
            clear A260
            replace H := Option.bind_eq_some_iff.mp H
            obtain ⟨⟨t115, t116, t117⟩, A270, H⟩ := H
            replace H : ((spec_TakeText.f k2 t116).bind fun bt118 => (if t114 = true then (if t117 = true then (if bt118.2.2 = true then (spec_ReadBlock.j2 k2 a0 t104 x11_2 x12_2 t112 t115 bt118.1 bt118.2.1 (decide (t112 > (IntKind.u64.wrap ((x12_2.size : Int)))))) else (spec_ReadBlock.j2 k2 a0 t104 x11_2 x12_2 t112 t115 bt118.1 bt118.2.1 true)) else (spec_ReadBlock.j2 k2 a0 t104 x11_2 x12_2 t112 t115 bt118.1 bt118.2.1 true)) else (spec_ReadBlock.j2 k2 a0 t104 x11_2 x12_2 t112 t115 bt118.1 bt118.2.1 true))) = some (r1, r2) := H
            have A27 := Qz.mk A270
            clear A270
            replace H := Option.bind_eq_some_iff.mp H
            obtain ⟨⟨t118, t119, t120⟩, A280, H⟩ := H
            replace H : (if t114 = true then (if t117 = true then (if t120 = true then (spec_ReadBlock.j2 k2 a0 t104 x11_2 x12_2 t112 t115 t118 t119 (decide (t112 > (IntKind.u64.wrap ((x12_2.size : Int)))))) else (spec_ReadBlock.j2 k2 a0 t104 x11_2 x12_2 t112 t115 t118 t119 true)) else (spec_ReadBlock.j2 k2 a0 t104 x11_2 x12_2 t112 t115 t118 t119 true)) else (spec_ReadBlock.j2 k2 a0 t104 x11_2 x12_2 t112 t115 t118 t119 true)) = some (r1, r2) := H
            have A28 := Qz.mk A280
            clear A280
            have HC29 := Qz.mk H
            clear H
            go_upto_region 14 with (first | ((with_reducible refine qj (f := 82) rfl ?_); refine qt (some 71) rfl rfl Try.func82 (by kernel_rfl) rfl #[.string x10_2] rfl yq33 ?_; (with_reducible refine (spec_TakeVar.calls k2 x10_2 t112 t113 t114 _ A26.out).mono ?_); rintro e w' ⟨rfl, ⟨nd, rfl⟩⟩; refine ⟨_, rfl, ?_⟩) | ((with_reducible refine qj (f := 83) rfl ?_); refine qt (some 77) rfl rfl Try.func83 (by kernel_rfl) rfl #[.string t113] rfl yq33 ?_; (with_reducible refine (spec_TakeText.calls k2 t113 t115 t116 t117 _ A27.out).mono ?_); rintro e w' ⟨rfl, ⟨nd, rfl⟩⟩; refine ⟨_, rfl, ?_⟩) | ((with_reducible refine qj (f := 83) rfl ?_); refine qt (some 83) rfl rfl Try.func83 (by kernel_rfl) rfl #[.string t116] rfl yq33 ?_; (with_reducible refine (spec_TakeText.calls k2 t116 t118 t119 t120 _ A28.out).mono ?_); rintro e w' ⟨rfl, ⟨nd, rfl⟩⟩; refine ⟨_, rfl, ?_⟩))
            (try simp only [Act.put, sq1, sq2, sq3])
            go_cut [103] (fun v103 wc => ∃ (kq : Nat) (x103_28 : Bool), v103 = .bool x103_28 ∧ Qz (spec_ReadBlock.j2 kq a0 t104 x11_2 x12_2 t112 t115 t118 t119 x103_28 = some (r1, r2)) ∧ Qz (kq ≤ k2) ∧ Qz (Kd.R k64 64 wc w.heap.size (fun _ => True) u11 x11_2) ∧ Qz (Below w.heap.size w wc))
            case first =>
             have H := HC29.out
             clear HC29
             by_cases c30 : t114 = true
             ·subst c30
              have H1 : (if t117 = true then (if t120 = true then (spec_ReadBlock.j2 k2 a0 t104 x11_2 x12_2 t112 t115 t118 t119 (decide (t112 > (IntKind.u64.wrap ((x12_2.size : Int)))))) else (spec_ReadBlock.j2 k2 a0 t104 x11_2 x12_2 t112 t115 t118 t119 true)) else (spec_ReadBlock.j2 k2 a0 t104 x11_2 x12_2 t112 t115 t118 t119 true)) = some (r1, r2) := by rw [if_pos rfl] at H; exact H
              clear H
              have H := H1
              clear H1
              by_cases c31 : t117 = true
              ·subst c31
               have H1 : (if t120 = true then (spec_ReadBlock.j2 k2 a0 t104 x11_2 x12_2 t112 t115 t118 t119 (decide (t112 > (IntKind.u64.wrap ((x12_2.size : Int)))))) else (spec_ReadBlock.j2 k2 a0 t104 x11_2 x12_2 t112 t115 t118 t119 true)) = some (r1, r2) := by rw [if_pos rfl] at H; exact H
               clear H
               have H := H1
               clear H1
               by_cases c32 : t120 = true
               ·subst c32
                have H1 : (spec_ReadBlock.j2 k2 a0 t104 x11_2 x12_2 t112 t115 t118 t119 (decide (t112 > (IntKind.u64.wrap ((x12_2.size : Int)))))) = some (r1, r2) := by rw [if_pos rfl] at H; exact H
                clear H
                have H := H1
                clear H1
                have H' := Qz.mk H
                clear H
                go_wp2
                go_meet
                case rel => exact ⟨_, (decide (t112 > (IntKind.u64.wrap ((x12_2.size : Int))))), yq36, H', ⟨by have := HJ1.out; have := HK2.out; first | omega | exact Nat.le_refl _⟩, ⟨by (with_reducible repeat (first | apply Kd.R_alloc | apply Kd.R_drewN | apply Kd.R_drew)); exact HO_11.out⟩, ⟨by repeat (first | (with_reducible first | exact HB.out | apply qc | apply qa | apply qb) | exact HB.out)⟩⟩
               ·replace c32 := Bool.eq_false_iff.mpr c32
                subst c32
                have H1 : (spec_ReadBlock.j2 k2 a0 t104 x11_2 x12_2 t112 t115 t118 t119 true) = some (r1, r2) := by rw [if_neg (show ¬ (false = true) by decide)] at H; exact H
                clear H
                have H := H1
                clear H1
                have H' := Qz.mk H
                clear H
                go_wp2
                go_meet
                case rel => exact ⟨_, (true), yq36, H', ⟨by have := HJ1.out; have := HK2.out; first | omega | exact Nat.le_refl _⟩, ⟨by (with_reducible repeat (first | apply Kd.R_alloc | apply Kd.R_drewN | apply Kd.R_drew)); exact HO_11.out⟩, ⟨by repeat (first | (with_reducible first | exact HB.out | apply qc | apply qa | apply qb) | exact HB.out)⟩⟩
              ·replace c31 := Bool.eq_false_iff.mpr c31
               subst c31
               have H1 : (spec_ReadBlock.j2 k2 a0 t104 x11_2 x12_2 t112 t115 t118 t119 true) = some (r1, r2) := by rw [if_neg (show ¬ (false = true) by decide)] at H; exact H
               clear H
               have H := H1
               clear H1
               have H' := Qz.mk H
               clear H
               go_wp2
               go_meet
               case rel => exact ⟨_, (true), yq36, H', ⟨by have := HJ1.out; have := HK2.out; first | omega | exact Nat.le_refl _⟩, ⟨by (with_reducible repeat (first | apply Kd.R_alloc | apply Kd.R_drewN | apply Kd.R_drew)); exact HO_11.out⟩, ⟨by repeat (first | (with_reducible first | exact HB.out | apply qc | apply qa | apply qb) | exact HB.out)⟩⟩
             ·replace c30 := Bool.eq_false_iff.mpr c30
              subst c30
              have H1 : (spec_ReadBlock.j2 k2 a0 t104 x11_2 x12_2 t112 t115 t118 t119 true) = some (r1, r2) := by rw [if_neg (show ¬ (false = true) by decide)] at H; exact H
              clear H
              have H := H1
              clear H1
              have H' := Qz.mk H
              clear H
              go_wp2
              go_meet
              case rel => exact ⟨_, (true), yq36, H', ⟨by have := HJ1.out; have := HK2.out; first | omega | exact Nat.le_refl _⟩, ⟨by (with_reducible repeat (first | apply Kd.R_alloc | apply Kd.R_drewN | apply Kd.R_drew)); exact HO_11.out⟩, ⟨by repeat (first | (with_reducible first | exact HB.out | apply qc | apply qa | apply qb) | exact HB.out)⟩⟩
            case rest =>
             clear HC29
             try clear c1
             try clear c2
             try clear p2
             try clear c3
             try clear c3b0
             try clear c3b1
             try clear c4
             try clear c6
             try clear c6b0
             try clear c6b1
             try clear p6
             try clear c7
             try clear c7b0
             try clear c7b1
             try clear c8
             try clear c10
             try clear c10b0
             try clear c12
             try clear c12b0
             try clear c12b1
             try clear c13
             try clear c13b0
             try clear c13b1
             try clear c16
             try clear c16b0
             try clear c16b1
             try clear c18
             try clear c19
             try clear c19b0
             try clear c19b1
             try clear c24
             try clear c30
             try clear c31
             try clear c32
             try clear p2
             try clear p6
             obtain ⟨kq, x103_28, rfl, HA, HJ28, HO_11, HB⟩ := hcut
             cases kq with
             | zero => exact absurd HA.out (by simp [spec_ReadBlock.j2])
             | succ kj28 =>
              have H := HA.out
              clear HA
              simp only [spec_ReadBlock.j2] at H
              by_cases c33 : x103_28 = true
              ·subst c33
               have H1 : (some (([] : List (S64)), false)) = some (r1, r2) := by rw [if_pos rfl] at H; exact H
               clear H
               have H := H1
               clear H1
               simp only [Option.some.injEq, Prod.mk.injEq] at H
               obtain ⟨rfl, rfl⟩ := H
               go_wp2
               go_ret2
               exact ⟨_, by first | rfl | (simp [qn, qm] <;> rfl) | (simp only [← hji5, ← hji11]; first | rfl | (simp [qn, qm] <;> rfl)) | (simp [*, qn, qm] <;> rfl), by first | exact Kd.R_nil _ _ _ _ _ | exact Kd.N_nil _ _ _ _ _ | exact Kd.V_nil _ _ _ _ _ | exact Kd.Q_nil _ _ _ _ _ | exact Kd.S_nil _ _ _ _ _, by repeat (first | (with_reducible first | exact HB.out | apply qc | apply qa | apply qb) | exact HB.out)⟩
              ·replace c33 := Bool.eq_false_iff.mpr c33
               subst c33
               have H1 : (if 0 ≤ t112 then (if t112 ≤ (x12_2.size : Int) then (if (t112 : Int).toNat + t115.size ≤ 9223372036854775807 then ((spec_ReadKey.f ((x12_2.extract 0 (t112 : Int).toNat) ++ t115)).bind fun bt121 => (if bt121.2.2.2 = true then (if (x11_2.length : Int) ≥ 400 then (some (([] : List (S64)), false)) else (if x11_2.length < 2932031007402 then (spec_ReadBlock.l0 kj28 a0 t104 t119 (x11_2 ++ [(⟨(⟨bt121.1, bt121.2.1, bt121.2.2.1⟩ : S35), t118⟩ : S64)]) ((x12_2.extract 0 (t112 : Int).toNat) ++ t115)) else (none))) else (some (([] : List (S64)), false)))) else (none)) else (none)) else (none)) = some (r1, r2) := by rw [if_neg (show ¬ (false = true) by decide)] at H; exact H
               clear H
               have H := H1
               clear H1
               by_cases c34 : 0 ≤ t112
               ·rw [if_pos c34] at H
                have c34b0 := eq_true c34
                have c34b1 : decide (0 ≤ t112) = true := decide_eq_true c34
                clear c34
                by_cases c35 : t112 ≤ (x12_2.size : Int)
                ·rw [if_pos c35] at H
                 have c35b0 := eq_true c35
                 have c35b1 : decide (t112 ≤ (x12_2.size : Int)) = true := decide_eq_true c35
                 clear c35
                 by_cases c36 : (t112 : Int).toNat + t115.size ≤ 9223372036854775807
                 ·rw [if_pos c36] at H
                  have c36b0 := eq_true c36
                  have c36b1 : decide ((t112 : Int).toNat + t115.size ≤ 9223372036854775807) = true := decide_eq_true c36
                  try have c36b2 : (9223372036854775807 < (t112 : Int).toNat + t115.size) = False := eq_false (Nat.not_lt.2 c36)
                  replace H := Option.bind_eq_some_iff.mp H
                  obtain ⟨⟨t121, t122, t123, t124⟩, A370, H⟩ := H
                  replace H : (if t124 = true then (if (x11_2.length : Int) ≥ 400 then (some (([] : List (S64)), false)) else (if x11_2.length < 2932031007402 then (spec_ReadBlock.l0 kj28 a0 t104 t119 (x11_2 ++ [(⟨(⟨t121, t122, t123⟩ : S35), t118⟩ : S64)]) ((x12_2.extract 0 (t112 : Int).toNat) ++ t115)) else (none))) else (some (([] : List (S64)), false))) = some (r1, r2) := H
                  have A37 := Qz.mk A370
                  clear A370
                  by_cases c38 : t124 = true
                  ·subst c38
                   have H1 : (if (x11_2.length : Int) ≥ 400 then (some (([] : List (S64)), false)) else (if x11_2.length < 2932031007402 then (spec_ReadBlock.l0 kj28 a0 t104 t119 (x11_2 ++ [(⟨(⟨t121, t122, t123⟩ : S35), t118⟩ : S64)]) ((x12_2.extract 0 (t112 : Int).toNat) ++ t115)) else (none))) = some (r1, r2) := by rw [if_pos rfl] at H; exact H
                   clear H
                   have H := H1
                   clear H1
                   by_cases c39 : (x11_2.length : Int) ≥ 400
                   ·rw [if_pos c39] at H
                    have c39b0 : decide (400 ≤ (x11_2.length : Int)) = true := decide_eq_true c39
                    have c39b1 : decide (400 ≤ x11_2.length) = true := decide_eq_true (by omega)
                    clear c39
                    simp only [Option.some.injEq, Prod.mk.injEq] at H
                    obtain ⟨rfl, rfl⟩ := H
                    go_wp2_with (first | ((with_reducible refine qj (f := 84) rfl ?_); refine qt (some 111) rfl rfl Try.func84 (by kernel_rfl) rfl #[.string ((x12_2.extract 0 (t112 : Int).toNat) ++ t115)] rfl yq33 ?_; (with_reducible refine (spec_ReadKey.calls ((x12_2.extract 0 (t112 : Int).toNat) ++ t115) t121 t122 t123 true _ A37.out).mono ?_); rintro e w40 ⟨rfl, hb⟩; refine ⟨_, rfl, ?_⟩; replace HO_11 := Qz.mk (Kd.R_below yq32 hb); replace HB := Qz.mk (ql yq31 hb); (try clear hb); (try clear hk)) | ((with_reducible refine qb1 (N := 22) rfl ?_); (try (refine gate_guard (by rfl) ?_; dsimp only)); refine qz ?hg (N := 22) ?hd (cs := #[.string (⟨#[]⟩ : ByteArray), .int .i64 0, .int .i64 0]) (t := 35) ?hr ?_; (case hd => rfl); (case hg => rfl); (case hr => first | (go_simp; done) | (go_simp; rfl)); intro gb125 hg w41 hbox hb; replace HO_11 := Qz.mk (Kd.R_below yq32 hb); have BK125 := Qz.mk (hbox); have GW125 := Qz.mk ((by rw [hg]; exact (qv yq31) : w.heap.size ≤ gb125)); have GE125 := GW125; replace HB := Qz.mk (ql yq31 hb); clear hb hbox hg; have hcz42_0 : w41.cell? ⟨gb125, 0, none⟩ = some (.string (⟨#[]⟩ : ByteArray)) := (qf BK125.out 0).trans rfl; have hcz42_1 : w41.cell? ⟨gb125, 1, none⟩ = some (.int .i64 0) := (qf BK125.out 1).trans rfl; have hcz42_2 : w41.cell? ⟨gb125, 2, none⟩ = some (.int .i64 0) := (qf BK125.out 2).trans rfl; have hfz42_0 := qe BK125.out 0; have hfz42_1 := qe BK125.out 1; have hfz42_2 := qe BK125.out 2; obtain ⟨Ao43, co43, eo43⟩ := Kd.R_slice HO_11.out; subst eo43))
                    go_ret2
                    exact ⟨_, by first | rfl | (simp [qn, qm] <;> rfl) | (simp only [← hji5, ← hji11]; first | rfl | (simp [qn, qm] <;> rfl)) | (simp [*, qn, qm] <;> rfl), by first | exact Kd.R_nil _ _ _ _ _ | exact Kd.N_nil _ _ _ _ _ | exact Kd.V_nil _ _ _ _ _ | exact Kd.Q_nil _ _ _ _ _ | exact Kd.S_nil _ _ _ _ _, by repeat (first | (with_reducible first | exact HB.out | apply qc | apply qa | apply qb | refine qd ?_ GE125.out) | exact HB.out)⟩
                   ·rw [if_neg c39] at H
                    have c39b0 : decide (400 ≤ (x11_2.length : Int)) = false := decide_eq_false c39
                    have c39b1 : decide (400 ≤ x11_2.length) = false := decide_eq_false (by omega)
                    clear c39
                    by_cases c44 : x11_2.length < 2932031007402
                    ·rw [if_pos c44] at H
                     have LMc44 := Qz.mk c44
                     clear c44
                     obtain ⟨y126, hy126⟩ : ∃ y_ : List (S64), y_ = (x11_2 ++ [(⟨(⟨t121, t122, t123⟩ : S35), t118⟩ : S64)]) := ⟨_, rfl⟩
                     replace H : (spec_ReadBlock.l0 kj28 a0 t104 t119 y126 ((x12_2.extract 0 (t112 : Int).toNat) ++ t115)) = some (r1, r2) := by first | (rw [hy126]; with_reducible exact H) | (have H2_ := (Option.bind_some _ _).symm.trans H; rw [hy126]; with_reducible exact H2_) | (have H2_ := (Option.bind_some _ _).symm.trans H; with_reducible exact H2_) | with_reducible exact H | (rw [hy126]; exact H) | exact H
                     have Ny126 := Qz.mk hy126
                     clear hy126
                     have H' := Qz.mk H
                     clear H
                     go_wp2_with (first | ((with_reducible refine qj (f := 84) rfl ?_); refine qt (some 111) rfl rfl Try.func84 (by kernel_rfl) rfl #[.string ((x12_2.extract 0 (t112 : Int).toNat) ++ t115)] rfl yq33 ?_; (with_reducible refine (spec_ReadKey.calls ((x12_2.extract 0 (t112 : Int).toNat) ++ t115) t121 t122 t123 true _ A37.out).mono ?_); rintro e w45 ⟨rfl, hb⟩; refine ⟨_, rfl, ?_⟩; replace HO_11 := Qz.mk (Kd.R_below yq32 hb); replace HB := Qz.mk (ql yq31 hb); (try clear hb); (try clear hk)) | ((with_reducible refine qb1 (N := 22) rfl ?_); (try (refine gate_guard (by rfl) ?_; dsimp only)); refine qz ?hg (N := 22) ?hd (cs := #[.string (⟨#[]⟩ : ByteArray), .int .i64 0, .int .i64 0]) (t := 35) ?hr ?_; (case hd => rfl); (case hg => rfl); (case hr => first | (go_simp; done) | (go_simp; rfl)); intro gb125 hg w46 hbox hb; replace HO_11 := Qz.mk (Kd.R_below yq32 hb); have BK125 := Qz.mk (hbox); have GW125 := Qz.mk ((by rw [hg]; exact (qv yq31) : w.heap.size ≤ gb125)); have GE125 := GW125; replace HB := Qz.mk (ql yq31 hb); clear hb hbox hg; have hcz47_0 : w46.cell? ⟨gb125, 0, none⟩ = some (.string (⟨#[]⟩ : ByteArray)) := (qf BK125.out 0).trans rfl; have hcz47_1 : w46.cell? ⟨gb125, 1, none⟩ = some (.int .i64 0) := (qf BK125.out 1).trans rfl; have hcz47_2 : w46.cell? ⟨gb125, 2, none⟩ = some (.int .i64 0) := (qf BK125.out 2).trans rfl; have hfz47_0 := qe BK125.out 0; have hfz47_1 := qe BK125.out 1; have hfz47_2 := qe BK125.out 2; obtain ⟨Ao48, co48, eo48⟩ := Kd.R_slice HO_11.out; subst eo48) | ((with_reducible refine gate_builtin (b := .append) (xs := #[.tmp 121, .tmp 125]) rfl ?_); (try (refine gate_guard (by rfl) ?_; dsimp only)); at_builtin; refine Kd.R_append k64 (w0 := w) w.heap.size rfl (.tmp 121) (.tmp 125) 26 64 (.agg #[(.string ⟨#[]⟩), (.int .i64 0), (.int .i64 0), (.string ⟨#[]⟩)]) 48 rfl Try.underlying26 info64 rfl (by decide) (by omega) (.slice Ao48 x11_2.length co48) x11_2 (⟨(⟨t121, t122, t123⟩ : S35), t118⟩ : S64) [.string t121, .int .i64 t122, .int .i64 t123, .string t118] (fun _ => True) (fun _ => False) rfl (by first | (go_simp; done) | (go_simp; rfl)) ?aP (fun _ hk => hk.elim) ?aF ?aO ?aB ?aS ?aL ?_; (case aP => exact k64_mkM _ _ _ (⟨(⟨t121, t122, t123⟩ : S35), t118⟩ : S64)); (case aB => exact (by repeat (first | (with_reducible first | exact HB.out | apply qc | apply qa | apply qb | refine qd ?_ GE125.out) | exact HB.out))); (case aF => exact (fun _ _ => trivial)); (case aO => exact (by (with_reducible repeat (first | apply Kd.R_alloc | apply Kd.R_drewN | apply Kd.R_drew)); exact Kd.R_mono (Kd.R_far (p := ⟨gb125, 2, none⟩) (Kd.R_far (p := ⟨gb125, 1, none⟩) (Kd.R_far (p := ⟨gb125, 0, none⟩) (Kd.R_types HO_11.out BK125.out (by decide)) (fun _ hk => hk.2) (.string t121)) (fun _ hk => hk.2) (.int .i64 t122)) (fun _ hk => hk.2) (.int .i64 t123)) (fun _ hk => trivial))); (case aS => exact (qv (by repeat (first | (with_reducible first | exact HB.out | apply qc | apply qa | apply qb | refine qd ?_ GE125.out) | exact HB.out)))); (case aL => have := LMc44.out; omega); intro v127 w49 ho hb hg hat; rw [← Ny126.out] at ho; have n0_ := Qz.mk (blk_grown (g := gb125) (o := .cells #[.string t121, .int .i64 t122, .int .i64 t123] 35 (0, 0)) (by (with_reducible repeat (first | refine qg ?_ _ | refine qi ?_ | refine qh ?_ _)); refine qw (cs := #[.string t121, .int .i64 t122, .int .i64 0]) ?_ 2 _ rfl; (with_reducible repeat (first | refine qg ?_ _ | refine qi ?_ | refine qh ?_ _)); refine qw (cs := #[.string t121, .int .i64 0, .int .i64 0]) ?_ 1 _ rfl; (with_reducible repeat (first | refine qg ?_ _ | refine qi ?_ | refine qh ?_ _)); refine qw (cs := #[.string (⟨#[]⟩ : ByteArray), .int .i64 0, .int .i64 0]) ?_ 0 _ rfl; (with_reducible repeat (first | refine qg ?_ _ | refine qi ?_ | refine qh ?_ _)); exact BK125.out) hg (Kd.R_ne HO_11.out BK125.out (by decide))); have n1_ := Qz.mk (hb); have n2_ := Qz.mk (ho); clear BK125; clear HB; clear HO_11; have BK125 := n0_; have HB := n1_; have HO128 := n2_; clear n0_ n1_ n2_; clear ho hb hg hat))
                     go_roundg kj28
                     case measure => have := HJ1.out; have := HK2.out; have := HJ28.out; omega
                     case rel => exact ⟨(t119), (y126), ((x12_2.extract 0 (t112 : Int).toNat) ++ t115), yq36, yq36, H', ⟨by have := HJ1.out; have := HK2.out; have := HJ28.out; omega⟩, ⟨by (with_reducible repeat (first | apply Kd.R_alloc | apply Kd.R_drewN | apply Kd.R_drew)); exact HO128.out⟩, ⟨by repeat (first | (with_reducible first | exact HB.out | apply qc | apply qa | apply qb | refine qd ?_ GE125.out) | exact HB.out)⟩⟩
                    ·rw [if_neg c44] at H
                     exact absurd H (by simp)
                  ·replace c38 := Bool.eq_false_iff.mpr c38
                   subst c38
                   have H1 : (some (([] : List (S64)), false)) = some (r1, r2) := by rw [if_neg (show ¬ (false = true) by decide)] at H; exact H
                   clear H
                   have H := H1
                   clear H1
                   simp only [Option.some.injEq, Prod.mk.injEq] at H
                   obtain ⟨rfl, rfl⟩ := H
                   go_wp2_with (first | ((with_reducible refine qj (f := 84) rfl ?_); refine qt (some 111) rfl rfl Try.func84 (by kernel_rfl) rfl #[.string ((x12_2.extract 0 (t112 : Int).toNat) ++ t115)] rfl yq33 ?_; (with_reducible refine (spec_ReadKey.calls ((x12_2.extract 0 (t112 : Int).toNat) ++ t115) t121 t122 t123 false _ A37.out).mono ?_); rintro e w50 ⟨rfl, hb⟩; refine ⟨_, rfl, ?_⟩; replace HO_11 := Qz.mk (Kd.R_below yq32 hb); replace HB := Qz.mk (ql yq31 hb); (try clear hb); (try clear hk)) | ((with_reducible refine qb1 (N := 22) rfl ?_); (try (refine gate_guard (by rfl) ?_; dsimp only)); refine qz ?hg (N := 22) ?hd (cs := #[.string (⟨#[]⟩ : ByteArray), .int .i64 0, .int .i64 0]) (t := 35) ?hr ?_; (case hd => rfl); (case hg => rfl); (case hr => first | (go_simp; done) | (go_simp; rfl)); intro gb125 hg w51 hbox hb; replace HO_11 := Qz.mk (Kd.R_below yq32 hb); have BK125 := Qz.mk (hbox); have GW125 := Qz.mk ((by rw [hg]; exact (qv yq31) : w.heap.size ≤ gb125)); have GE125 := GW125; replace HB := Qz.mk (ql yq31 hb); clear hb hbox hg; have hcz52_0 : w51.cell? ⟨gb125, 0, none⟩ = some (.string (⟨#[]⟩ : ByteArray)) := (qf BK125.out 0).trans rfl; have hcz52_1 : w51.cell? ⟨gb125, 1, none⟩ = some (.int .i64 0) := (qf BK125.out 1).trans rfl; have hcz52_2 : w51.cell? ⟨gb125, 2, none⟩ = some (.int .i64 0) := (qf BK125.out 2).trans rfl; have hfz52_0 := qe BK125.out 0; have hfz52_1 := qe BK125.out 1; have hfz52_2 := qe BK125.out 2))
                   go_ret2
                   exact ⟨_, by first | rfl | (simp [qn, qm] <;> rfl) | (simp only [← hji5, ← hji11]; first | rfl | (simp [qn, qm] <;> rfl)) | (simp [*, qn, qm] <;> rfl), by first | exact Kd.R_nil _ _ _ _ _ | exact Kd.N_nil _ _ _ _ _ | exact Kd.V_nil _ _ _ _ _ | exact Kd.Q_nil _ _ _ _ _ | exact Kd.S_nil _ _ _ _ _, by repeat (first | (with_reducible first | exact HB.out | apply qc | apply qa | apply qb | refine qd ?_ GE125.out) | exact HB.out)⟩
                 ·rw [if_neg c36] at H
                  exact absurd H (by simp)
                ·rw [if_neg c35] at H
                 exact absurd H (by simp)
               ·rw [if_neg c34] at H
                exact absurd H (by simp)
        ·rw [if_neg c13] at H
         exact absurd H (by simp)
       ·rw [if_neg c12] at H
        exact absurd H (by simp)
     ·rw [if_neg c7] at H
      exact absurd H (by simp)
    ·rw [if_neg c6] at H
     exact absurd H (by simp)
theorem yq37 {P : Prop} (h : P := by repeat (first | (with_reducible first | exact HB.out | apply qc | apply qa | apply qb | refine qd ?_ GE101.out) | exact HB.out)) : P := h
theorem yq38 {P : Prop} (h : P := by (with_reducible repeat (first | refine qg ?_ _ | refine qi ?_ | refine qh ?_ _)); exact BK101.out) : P := h
mutual
def spec_SeekEntry.j0 : Nat → List (S64) → Bool → ByteArray → Int → Int → Option (Int)
 | 0, _, _, _, _, _ => none
 | k + 1, x0, x13, x102000, x102001, x102002 => if x13 = true then (some (-1)) else (spec_SeekEntry.l0 k x0 0 x102000 x102001 x102002)
def spec_SeekEntry.l0 : Nat → List (S64) → Int → ByteArray → Int → Int → Option (Int)
 | 0, _, _, _, _, _ => none
 | k + 1, x0, x5, x102000, x102001, x102002 => if x5 < (x0.length : Int) then (if 0 ≤ x5 then ((spec_KeyCmp.f k ((qk x0 x5).f0.f0) ((qk x0 x5).f0.f1) ((qk x0 x5).f0.f2) x102000 x102001 x102002).bind fun t105 => (if t105 < 0 then (spec_SeekEntry.l0 k x0 (wrap64 (x5 + 1)) x102000 x102001 x102002) else (some x5))) else (none)) else (some x5)
end
def spec_SeekEntry.f (k : Nat) (l0 : List (S64)) (a1_0 : ByteArray) (a1_1 : Int) (a1_2 : Int) : Option (Int) := (spec_EntriesOk.f k l0).bind fun t102 => (if t102 = true then ((spec_KeyOk.f a1_0 a1_1 a1_2).bind fun t103 => (spec_SeekEntry.j0 k l0 (!t103) a1_0 a1_1 a1_2)) else (spec_SeekEntry.j0 k l0 true a1_0 a1_1 a1_2))
def spec_SeekEntry.T4 : Bool × List (List Nat × List Nat) := (true, [([], []), ([], []), ([1], [1]), ([0, 2], [0, 2]), ([3], [3]), ([4], [4]), ([4], [4]), ([5, 6, 4], [4, 5, 6]), ([7, 4], [4, 7]), ([8, 4], [4, 8]), ([4], [4]), ([9, 10, 4, 4], [4, 9, 10]), ([11, 4], [4, 11]), ([4, 12], [4, 12])])
def spec_SeekEntry.B4 : List Nat := [0, 0, 2, 7, 15, 31, 31, 127, 255, 511, 31, 2047, 4095, 8191]
theorem spec_SeekEntry.tab4 : rtab .any (opsOf Try.f80 4) = spec_SeekEntry.T4 := by kernel_rfl
theorem spec_SeekEntry.bits4 : waitsOk spec_SeekEntry.T4.2 spec_SeekEntry.B4 = true := by kernel_rfl
set_option maxHeartbeats 8000000 in
set_option maxRecDepth 100000 in
theorem spec_SeekEntry.calls (k : Nat) (A0 : Option Addr) (c0 : Nat) (l0 : List (S64)) (a1_0 : ByteArray) (a1_1 : Int) (a1_2 : Int) (r : Int) (w : World) (hr0 : Kd.C k64 w A0 l0.length l0) (hc0 : l0.length ≤ c0) (h : spec_SeekEntry.f k l0 a1_0 a1_1 a1_2 = some r) :
  Calls Try.prog 80 #[.slice A0 l0.length c0, .agg #[.string a1_0, .int .i64 a1_1, .int .i64 a1_2]] w fun e w' => e = .returned (.int .i64 r) ∧ Below w.heap.size w w' := by
 have hu35 := Try.underlying35
 have HR0 := Qz.mk hr0
 have HC0 := Qz.mk hc0
 clear hr0 hc0
 have HB := Qz.mk (Below.refl w.heap.size w)
 have H : ((spec_EntriesOk.f k l0).bind fun t102 => (if t102 = true then ((spec_KeyOk.f a1_0 a1_1 a1_2).bind fun t103 => (spec_SeekEntry.j0 k l0 (!t103) a1_0 a1_1 a1_2)) else (spec_SeekEntry.j0 k l0 true a1_0 a1_1 a1_2))) = some r := h
 clear h
 have HC3 := Qz.mk H
 clear H
 go_enter Try.func80, Try.ntmps80
 go_upto_region 1 with (first | ((with_reducible refine qb1 (N := 3) rfl ?_); refine qz ?hg (N := 3) ?hd (cs := #[.string a1_0, .int .i64 a1_1, .int .i64 a1_2]) (t := 35) ?hr ?_; (case hd => rfl); (case hg => rfl); (case hr => first | (go_simp; done) | (go_simp; rfl)); intro gb101 hg w4 hbox hb; have BK101 := Qz.mk (hbox); have GW101 := Qz.mk ((by rw [hg]; exact (qv (by repeat (first | (with_reducible first | exact HB.out | apply qc | apply qa | apply qb) | exact HB.out))) : w.heap.size ≤ gb101)); have GE101 := GW101; replace HB := Qz.mk (ql (by repeat (first | (with_reducible first | exact HB.out | apply qc | apply qa | apply qb) | exact HB.out)) hb); clear hb hbox hg))
 (try simp only [Act.put, sq1, sq2, sq3])
 go_cut [13] (fun v13 wc => ∃ (kq : Nat) (x13_2 : Bool), v13 = .bool x13_2 ∧ Qz (spec_SeekEntry.j0 kq l0 x13_2 a1_0 a1_1 a1_2 = some r) ∧ Qz (kq ≤ k) ∧ Qz (wc.heap[gb101]? = some (.cells #[.string a1_0, .int .i64 a1_1, .int .i64 a1_2] 35 (0, 0))) ∧ Qz (Below w.heap.size w wc))
 case first =>
  have H := HC3.out
  clear HC3
  replace H := Option.bind_eq_some_iff.mp H
  obtain ⟨t102, A50, H⟩ := H
  replace H : (if t102 = true then ((spec_KeyOk.f a1_0 a1_1 a1_2).bind fun t103 => (spec_SeekEntry.j0 k l0 (!t103) a1_0 a1_1 a1_2)) else (spec_SeekEntry.j0 k l0 true a1_0 a1_1 a1_2)) = some r := H
  have A5 := Qz.mk A50
  clear A50
  by_cases c6 : t102 = true
  ·subst c6
   have H1 : ((spec_KeyOk.f a1_0 a1_1 a1_2).bind fun t103 => (spec_SeekEntry.j0 k l0 (!t103) a1_0 a1_1 a1_2)) = some r := by rw [if_pos rfl] at H; exact H
   clear H
   have H := H1
   clear H1
   replace H := Option.bind_eq_some_iff.mp H
   obtain ⟨t103, A70, H⟩ := H
   replace H : (spec_SeekEntry.j0 k l0 (!t103) a1_0 a1_1 a1_2) = some r := H
   have A7 := Qz.mk A70
   clear A70
   have H' := Qz.mk H
   clear H
   go_wp2_with (first | ((with_reducible refine qj (f := 68) rfl ?_); refine qt (some 7) rfl rfl Try.func68 (by kernel_rfl) rfl #[.slice A0 l0.length c0] rfl (by (try simp only [List.map_toArray, List.map_cons, List.map_nil]); first | done | rfl | (simp only [List.length_drop, List.length_take]; rfl) | (rw [IntWalk.u64_in _ (by omega)] <;> rfl)) ?_; (with_reducible refine (spec_EntriesOk.calls k _ _ l0 true _ ?side1 ?side2 A5.out).mono ?_); (case side1 => repeat (first | exact (Kd.C_below HR0.out HB.out) | (with_reducible refine Kd.C_alloc ?_ _) | (with_reducible refine Kd.C_drewN ?_ _) | (with_reducible refine Kd.C_drew ?_))); (case side2 => exact HC0.out); rintro e w8 ⟨rfl, hb⟩; refine ⟨_, rfl, ?_⟩; replace BK101 := Qz.mk (qu (g := gb101) (o := .cells #[.string a1_0, .int .i64 a1_1, .int .i64 a1_2] 35 (0, 0)) yq38 hb); replace HB := Qz.mk (ql yq37 hb); (try clear hb); have hcz9_0 : w8.cell? ⟨gb101, 0, none⟩ = some (.string a1_0) := (qf BK101.out 0).trans rfl; have hcz9_1 : w8.cell? ⟨gb101, 1, none⟩ = some (.int .i64 a1_1) := (qf BK101.out 1).trans rfl; have hcz9_2 : w8.cell? ⟨gb101, 2, none⟩ = some (.int .i64 a1_2) := (qf BK101.out 2).trans rfl; have hfz9_0 := qe BK101.out 0; have hfz9_1 := qe BK101.out 1; have hfz9_2 := qe BK101.out 2) | (go_at_call 79; (with_reducible refine (spec_KeyOk.calls a1_0 a1_1 a1_2 t103 _ A7.out).mono ?_); rintro e w10 ⟨rfl, hb⟩; replace BK101 := Qz.mk (qu (g := gb101) (o := .cells #[.string a1_0, .int .i64 a1_1, .int .i64 a1_2] 35 (0, 0)) yq38 hb); replace HB := Qz.mk (ql yq37 hb); (try clear hb)))
   go_meet
   case rel => exact ⟨_, (!t103), (by first | rfl | (simp; done) | (simp [*]; done)), H', ⟨by first | omega | exact Nat.le_refl _⟩, ⟨by (with_reducible repeat (first | refine qg ?_ _ | refine qi ?_ | refine qh ?_ _)); exact BK101.out⟩, ⟨by repeat (first | (with_reducible first | exact HB.out | apply qc | apply qa | apply qb | refine qd ?_ GE101.out) | exact HB.out)⟩⟩
  ·replace c6 := Bool.eq_false_iff.mpr c6
   subst c6
   have H1 : (spec_SeekEntry.j0 k l0 true a1_0 a1_1 a1_2) = some r := by rw [if_neg (show ¬ (false = true) by decide)] at H; exact H
   clear H
   have H := H1
   clear H1
   have H' := Qz.mk H
   clear H
   go_wp2_with (first | ((with_reducible refine qj (f := 68) rfl ?_); refine qt (some 7) rfl rfl Try.func68 (by kernel_rfl) rfl #[.slice A0 l0.length c0] rfl (by (try simp only [List.map_toArray, List.map_cons, List.map_nil]); first | done | rfl | (simp only [List.length_drop, List.length_take]; rfl) | (rw [IntWalk.u64_in _ (by omega)] <;> rfl)) ?_; (with_reducible refine (spec_EntriesOk.calls k _ _ l0 false _ ?side1 ?side2 A5.out).mono ?_); (case side1 => repeat (first | exact (Kd.C_below HR0.out HB.out) | (with_reducible refine Kd.C_alloc ?_ _) | (with_reducible refine Kd.C_drewN ?_ _) | (with_reducible refine Kd.C_drew ?_))); (case side2 => exact HC0.out); rintro e w11 ⟨rfl, hb⟩; refine ⟨_, rfl, ?_⟩; replace BK101 := Qz.mk (qu (g := gb101) (o := .cells #[.string a1_0, .int .i64 a1_1, .int .i64 a1_2] 35 (0, 0)) yq38 hb); replace HB := Qz.mk (ql yq37 hb); (try clear hb)))
   go_meet
   case rel => exact ⟨_, (true), (by first | rfl | (simp; done) | (simp [*]; done)), H', ⟨by first | omega | exact Nat.le_refl _⟩, ⟨by (with_reducible repeat (first | refine qg ?_ _ | refine qi ?_ | refine qh ?_ _)); exact BK101.out⟩, ⟨by repeat (first | (with_reducible first | exact HB.out | apply qc | apply qa | apply qb | refine qd ?_ GE101.out) | exact HB.out)⟩⟩
 case rest =>
  clear HC3
  try clear p2
  try clear c6
  try clear c8
  try clear hcz9_0
  try clear hcz9_1
  try clear hcz9_2
  try clear hfz9_0
  try clear hfz9_1
  try clear hfz9_2
  obtain ⟨kq, x13_2, rfl, HA, HJ2, BK101, HB⟩ := hcut
  cases kq with
  | zero => exact absurd HA.out (by simp [spec_SeekEntry.j0])
  | succ kj2 =>
   have H := HA.out
   clear HA
   simp only [spec_SeekEntry.j0] at H
   by_cases c12 : x13_2 = true
   ·subst c12
    have H1 : (some (-1)) = some r := by rw [if_pos rfl] at H; exact H
    clear H
    have H := H1
    clear H1
    obtain rfl := Option.some.inj H
    go_wp2
    go_ret
    exact ⟨by first | rfl | (simp [qn, qm] <;> rfl) | (simp [*, qn, qm] <;> rfl), by repeat (first | (with_reducible first | exact HB.out | apply qc | apply qa | apply qb | refine qd ?_ GE101.out) | exact HB.out)⟩
   ·replace c12 := Bool.eq_false_iff.mpr c12
    subst c12
    have H1 : (spec_SeekEntry.l0 kj2 l0 0 a1_0 a1_1 a1_2) = some r := by rw [if_neg (show ¬ (false = true) by decide)] at H; exact H
    clear H
    have H := H1
    clear H1
    have H' := Qz.mk H
    clear H
    go_wp2
    go_loopg [5] kj2 (fun kq v5 w' => ∃ (x5_2 : Int), v5 = .int .i64 x5_2 ∧ Qz (spec_SeekEntry.l0 kq l0 x5_2 a1_0 a1_1 a1_2 = some r) ∧ Qz (kq ≤ kj2) ∧ Qz (w'.heap[gb101]? = some (.cells #[.string a1_0, .int .i64 a1_1, .int .i64 a1_2] 35 (0, 0))) ∧ Qz (Below w.heap.size w w'))
    case atStart => exact ⟨(0), (by first | rfl | (simp; done) | (simp [*]; done)), H', ⟨Nat.le_refl _⟩, ⟨by (with_reducible repeat (first | refine qg ?_ _ | refine qi ?_ | refine qh ?_ _)); exact BK101.out⟩, ⟨by repeat (first | (with_reducible first | exact HB.out | apply qc | apply qa | apply qb | refine qd ?_ GE101.out) | exact HB.out)⟩⟩
    case round =>
     clear H'
     try clear c1
     try clear p2
     try clear c6
     try clear c8
     try clear c12
     try clear hcz9_0
     try clear hcz9_1
     try clear hcz9_2
     try clear hfz9_0
     try clear hfz9_1
     try clear hfz9_2
     try clear p2
     obtain ⟨x5_2, rfl, HA, HK2, BK101, HB⟩ := hrel
     cases gk with
     | zero => exact absurd HA.out (by simp [spec_SeekEntry.l0])
     | succ k2 =>
      have H := HA.out
      clear HA
      simp only [spec_SeekEntry.l0] at H
      by_cases c13 : x5_2 < (l0.length : Int)
      ·rw [if_pos c13] at H
       have c13b0 : decide (x5_2 < (l0.length : Int)) = true := decide_eq_true c13
       clear c13
       by_cases c14 : 0 ≤ x5_2
       ·rw [if_pos c14] at H
        have c14b0 : decide (0 ≤ x5_2) = true := decide_eq_true c14
        clear c14
        replace H := Option.bind_eq_some_iff.mp H
        obtain ⟨t105, A150, H⟩ := H
        replace H : (if t105 < 0 then (spec_SeekEntry.l0 k2 l0 (wrap64 (x5_2 + 1)) a1_0 a1_1 a1_2) else (some x5_2)) = some r := H
        have A15 := Qz.mk A150
        clear A150
        by_cases c16 : t105 < 0
        ·rw [if_pos c16] at H
         have c16b0 : decide (t105 < 0) = true := decide_eq_true c16
         clear c16
         have H' := Qz.mk H
         clear H
         try go_wp2
         replace BK101 := Qz.mk (qi BK101.out)
         replace HB := Qz.mk (qb HB.out)
         have p104 : 0 ≤ (x5_2 : Int) := of_decide_eq_true (by first | (with_reducible assumption) | assumption)
         have q104 : x5_2 < (l0.length : Int) := of_decide_eq_true (by first | (with_reducible assumption) | assumption)
         obtain ⟨ad104, e104, hx104_0, hx104_1, hx104_2, hx104_3⟩ := at_T64 HR0.out x5_2 p104 q104
         have hw104_3 := hx104_3
         have hw104_2 := hx104_2
         have hw104_1 := hx104_1
         have hw104_0 := hx104_0
         cases e104
         replace hx104_0 := (HB.out.cell (World.block_lt_of_cell? w _ hx104_0)).trans hx104_0
         replace hx104_1 := (HB.out.cell (World.block_lt_of_cell? w _ hx104_1)).trans hx104_1
         replace hx104_2 := (HB.out.cell (World.block_lt_of_cell? w _ hx104_2)).trans hx104_2
         replace hx104_3 := (HB.out.cell (World.block_lt_of_cell? w _ hx104_3)).trans hx104_3
         replace p104 := eq_true p104
         replace q104 := eq_true q104
         refine start_ (n := 14) (S := fun w' => w'.cell? ⟨gb101, 0, none⟩ = some (.string a1_0) ∧ w'.cell? ⟨gb101, 1, none⟩ = some (.int .i64 a1_1) ∧ w'.cell? ⟨gb101, 2, none⟩ = some (.int .i64 a1_2) ∧ w'.cell? (ad104.add ((x5_2).toNat * 4)) = some (.string ((qk l0 x5_2).f0.f0)) ∧ w'.cell? ⟨(ad104.add ((x5_2).toNat * 4)).block, (ad104.add ((x5_2).toNat * 4)).off + 1, none⟩ = some (.int .i64 ((qk l0 x5_2).f0.f1)) ∧ w'.cell? ⟨(ad104.add ((x5_2).toNat * 4)).block, (ad104.add ((x5_2).toNat * 4)).off + 2, none⟩ = some (.int .i64 ((qk l0 x5_2).f0.f2)) ∧ w'.cell? ⟨(ad104.add ((x5_2).toNat * 4)).block, (ad104.add ((x5_2).toNat * 4)).off + 3, none⟩ = some (.string ((qk l0 x5_2).f1))) (ds := []) bq4 (by kernel_rfl) rfl rfl ⟨(qf BK101.out 0).trans rfl, (qf BK101.out 1).trans rfl, (qf BK101.out 2).trans rfl, ((HB.out.cell (World.block_lt_of_cell? w _ hw104_0)).trans hw104_0), ((HB.out.cell (World.block_lt_of_cell? w _ hw104_1)).trans hw104_1), ((HB.out.cell (World.block_lt_of_cell? w _ hw104_2)).trans hw104_2), ((HB.out.cell (World.block_lt_of_cell? w _ hw104_3)).trans hw104_3)⟩ (fun hHeld => ?_); refine with_tabW spec_SeekEntry.tab4 spec_SeekEntry.bits4 (fun HT_ HW_ => ?_)
         generalize wr.drew = w17 at BK101 HB hx104_0 hx104_1 hx104_2 hx104_3 hHeld ⊢
         refine pure_ (i := 0) (N := some 14) (v := ?_) (a' := ?_) bq10 rfl rfl (qr HT_.out (by kernel_rfl)) (fun _ _ _ h => h) (Or.inl ⟨by rfl, ?_⟩) ?_ ?_
         rotate_left
         ·intro w'
          go_simp
          with_reducible rfl
         rotate_left
         ·simp only [Act.put, sq1, sq2, sq3, i64_w, i32_w]
          rfl
         refine pure_ (i := 1) (N := some 15) (v := ?_) (a' := ?_) bq21 rfl rfl (qr HT_.out (by kernel_rfl)) (fun _ _ _ h => h) (Or.inl ⟨by rfl, ?_⟩) ?_ ?_
         rotate_left
         ·intro w'
          go_simp
          with_reducible rfl
         rotate_left
         ·simp only [Act.put, sq1, sq2, sq3, i64_w, i32_w]
          rfl
         refine pure_ (i := 2) (N := some 16) (v := ?_) (a' := ?_) bq31 rfl rfl (qr HT_.out (by kernel_rfl)) (fun _ _ _ h => h) (Or.inl ⟨by rfl, ?_⟩) ?_ ?_
         rotate_left
         ·intro w'
          go_simp
          with_reducible rfl
         rotate_left
         ·simp only [Act.put, sq1, sq2, sq3, i64_w, i32_w]
          rfl
         refine pure_ (i := 3) (N := some 17) (v := ?_) (a' := ?_) bq43 rfl rfl (qr HT_.out (by kernel_rfl)) (fun _ _ _ h => h) (Or.inl ⟨by rfl, ?_⟩) ?_ ?_
         rotate_left
         ·intro w'
          go_simp
          with_reducible rfl
         rotate_left
         ·simp only [Act.put, sq1, sq2, sq3, i64_w, i32_w]
          rfl
         refine pure_ (i := 4) (N := some 18) (v := ?_) (a' := ?_) bq49 rfl rfl (qr HT_.out (by kernel_rfl)) (fun _ _ _ h => h) (Or.inl ⟨by rfl, ?_⟩) ?_ ?_
         rotate_left
         ·intro w'
          go_simp
          with_reducible rfl
         rotate_left
         ·simp only [Act.put, sq1, sq2, sq3, i64_w, i32_w]
          rfl
         refine pure_ (i := 5) (N := some 19) (v := ?_) (a' := ?_) bq54 rfl rfl (qr HT_.out (by kernel_rfl)) (fun _ _ _ h => h) (Or.inl ⟨by rfl, ?_⟩) ?_ ?_
         rotate_left
         ·intro w'
          go_simp
          with_reducible rfl
         rotate_left
         ·simp only [Act.put, sq1, sq2, sq3, i64_w, i32_w]
          rfl
         refine pure_ (i := 6) (N := some 20) (v := ?_) (a' := ?_) bq59 rfl rfl (qr HT_.out (by kernel_rfl)) (fun _ _ _ h => h) (Or.inl ⟨by rfl, ?_⟩) ?_ ?_
         rotate_left
         ·intro w'
          go_simp
          with_reducible rfl
         rotate_left
         ·simp only [Act.put, sq1, sq2, sq3, i64_w, i32_w]
          rfl
         refine pure_ (i := 7) (N := some 21) (v := ?_) (a' := ?_) bq64 rfl rfl (qr HT_.out (by kernel_rfl)) (fun _ _ _ h => h) (Or.inl ⟨by rfl, ?_⟩) ?_ ?_
         rotate_left
         ·intro w'
          go_simp
          with_reducible rfl
         rotate_left
         ·simp only [Act.put, sq1, sq2, sq3, i64_w, i32_w]
          rfl
         refine pure_ (i := 8) (N := some 22) (v := ?_) (a' := ?_) bq69 rfl rfl (qr HT_.out (by kernel_rfl)) (fun _ _ _ h => h) (Or.inl ⟨by rfl, ?_⟩) ?_ ?_
         rotate_left
         ·intro w'
          go_simp
          with_reducible rfl
         rotate_left
         ·simp only [Act.put, sq1, sq2, sq3, i64_w, i32_w]
          rfl
         refine take_ (i := 9) (N := some 23) (v := ?_) (a' := ?_) bq76 rfl rfl (take_ofW HT_.out HW_.out (by kernel_rfl)) (fun _ _ _ h => h) (Or.inl ⟨by rfl, ?_⟩) hHeld ?_ ?_
         rotate_left
         ·rintro w' ⟨s0, s1, s2, s3, s4, s5, s6⟩
          go_simp
          with_reducible rfl
         rotate_left
         ·simp only [Act.put, sq1, sq2, sq3, i64_w, i32_w]
          rfl
         refine take_ (i := 10) (N := some 24) (v := ?_) (a' := ?_) bq81 rfl rfl (take_ofW HT_.out HW_.out (by kernel_rfl)) (fun _ _ _ h => h) (Or.inl ⟨by rfl, ?_⟩) hHeld ?_ ?_
         rotate_left
         ·rintro w' ⟨s0, s1, s2, s3, s4, s5, s6⟩
          go_simp
          with_reducible rfl
         rotate_left
         ·simp only [Act.put, sq1, sq2, sq3, i64_w, i32_w]
          rfl
         refine one_ (i := 11) (N := some 25) bq86 rfl rfl (one_of HT_.out (by kernel_rfl)) (by decide) (fun K hK => ?_)
         refine goes_ Try.func144 (by kernel_rfl) rfl #[.agg #[.string ((qk l0 x5_2).f0.f0), .int .i64 ((qk l0 x5_2).f0.f1), .int .i64 ((qk l0 x5_2).f0.f2)], .agg #[.string a1_0, .int .i64 a1_1, .int .i64 a1_2]] (by rfl) rfl rfl (by (try simp only [List.map_toArray, List.map_cons, List.map_nil]); first | done | rfl) ?_
         with_reducible refine (spec_KeyCmp.calls k2 ((qk l0 x5_2).f0.f0) ((qk l0 x5_2).f0.f1) ((qk l0 x5_2).f0.f2) a1_0 a1_1 a1_2 t105 _ A15.out).mono ?_
         rintro e w18 ⟨rfl, hb⟩
         refine ⟨_, rfl, ?_⟩
         replace BK101 := Qz.mk (qu (g := gb101) (o := .cells #[.string a1_0, .int .i64 a1_1, .int .i64 a1_2] 35 (0, 0)) yq38 hb)
         replace HB := Qz.mk (ql yq37 hb)
         (try clear hb)
         refine hK.out _ _ ⟨(qf BK101.out 0).trans rfl, (qf BK101.out 1).trans rfl, (qf BK101.out 2).trans rfl, ((HB.out.cell (World.block_lt_of_cell? w _ hw104_0)).trans hw104_0), ((HB.out.cell (World.block_lt_of_cell? w _ hw104_1)).trans hw104_1), ((HB.out.cell (World.block_lt_of_cell? w _ hw104_2)).trans hw104_2), ((HB.out.cell (World.block_lt_of_cell? w _ hw104_3)).trans hw104_3)⟩ (fun hHeld => ?_)
         clear hK K
         refine norm_ (a' := ?_) ?_ ?_
         rotate_left
         ·show Act.put _ (some 25) _ = _
          simp only [Act.put, sq1, sq2, sq3, i64_w, i32_w]
          rfl
         refine pure_ (i := 12) (N := some 26) (v := ?_) (a' := ?_) bq91 rfl rfl (qr HT_.out (by kernel_rfl)) (fun _ _ _ h => h) (Or.inl ⟨by rfl, ?_⟩) ?_ ?_
         rotate_left
         ·intro w'
          go_simp
          with_reducible rfl
         rotate_left
         ·simp only [Act.put, sq1, sq2, sq3, i64_w, i32_w]
          rfl
         refine pure_ (i := 13) (N := some 27) (v := ?_) (a' := ?_) bq120 rfl rfl (qr HT_.out (by kernel_rfl)) (fun _ _ _ h => h) (Or.inl ⟨by rfl, ?_⟩) ?_ ?_
         rotate_left
         ·intro w'
          go_simp
          with_reducible rfl
         rotate_left
         ·simp only [Act.put, sq1, sq2, sq3, i64_w, i32_w]
          rfl
         refine done_ (done_of HT_.out (by kernel_rfl)) ?_
         try go_wp2
         go_roundg k2
         case measure => have := HJ2.out; have := HK2.out; omega
         case rel => exact ⟨(wrap64 (x5_2 + 1)), (by first | rfl | (simp; done) | (simp [*]; done)), H', ⟨by have := HJ2.out; have := HK2.out; omega⟩, ⟨by (with_reducible repeat (first | refine qg ?_ _ | refine qi ?_ | refine qh ?_ _)); exact BK101.out⟩, ⟨by repeat (first | (with_reducible first | exact HB.out | apply qc | apply qa | apply qb | refine qd ?_ GE101.out) | exact HB.out)⟩⟩
        ·rw [if_neg c16] at H
         have c16b0 : decide (t105 < 0) = false := decide_eq_false c16
         clear c16
         obtain rfl := Option.some.inj H
         try go_wp2
         replace BK101 := Qz.mk (qi BK101.out)
         replace HB := Qz.mk (qb HB.out)
         have p104 : 0 ≤ (x5_2 : Int) := of_decide_eq_true (by first | (with_reducible assumption) | assumption)
         have q104 : x5_2 < (l0.length : Int) := of_decide_eq_true (by first | (with_reducible assumption) | assumption)
         obtain ⟨ad104, e104, hx104_0, hx104_1, hx104_2, hx104_3⟩ := at_T64 HR0.out x5_2 p104 q104
         have hw104_3 := hx104_3
         have hw104_2 := hx104_2
         have hw104_1 := hx104_1
         have hw104_0 := hx104_0
         cases e104
         replace hx104_0 := (HB.out.cell (World.block_lt_of_cell? w _ hx104_0)).trans hx104_0
         replace hx104_1 := (HB.out.cell (World.block_lt_of_cell? w _ hx104_1)).trans hx104_1
         replace hx104_2 := (HB.out.cell (World.block_lt_of_cell? w _ hx104_2)).trans hx104_2
         replace hx104_3 := (HB.out.cell (World.block_lt_of_cell? w _ hx104_3)).trans hx104_3
         replace p104 := eq_true p104
         replace q104 := eq_true q104
         refine start_ (n := 14) (S := fun w' => w'.cell? ⟨gb101, 0, none⟩ = some (.string a1_0) ∧ w'.cell? ⟨gb101, 1, none⟩ = some (.int .i64 a1_1) ∧ w'.cell? ⟨gb101, 2, none⟩ = some (.int .i64 a1_2) ∧ w'.cell? (ad104.add ((x5_2).toNat * 4)) = some (.string ((qk l0 x5_2).f0.f0)) ∧ w'.cell? ⟨(ad104.add ((x5_2).toNat * 4)).block, (ad104.add ((x5_2).toNat * 4)).off + 1, none⟩ = some (.int .i64 ((qk l0 x5_2).f0.f1)) ∧ w'.cell? ⟨(ad104.add ((x5_2).toNat * 4)).block, (ad104.add ((x5_2).toNat * 4)).off + 2, none⟩ = some (.int .i64 ((qk l0 x5_2).f0.f2)) ∧ w'.cell? ⟨(ad104.add ((x5_2).toNat * 4)).block, (ad104.add ((x5_2).toNat * 4)).off + 3, none⟩ = some (.string ((qk l0 x5_2).f1))) (ds := []) bq4 (by kernel_rfl) rfl rfl ⟨(qf BK101.out 0).trans rfl, (qf BK101.out 1).trans rfl, (qf BK101.out 2).trans rfl, ((HB.out.cell (World.block_lt_of_cell? w _ hw104_0)).trans hw104_0), ((HB.out.cell (World.block_lt_of_cell? w _ hw104_1)).trans hw104_1), ((HB.out.cell (World.block_lt_of_cell? w _ hw104_2)).trans hw104_2), ((HB.out.cell (World.block_lt_of_cell? w _ hw104_3)).trans hw104_3)⟩ (fun hHeld => ?_); refine with_tabW spec_SeekEntry.tab4 spec_SeekEntry.bits4 (fun HT_ HW_ => ?_)
         generalize wr.drew = w19 at BK101 HB hx104_0 hx104_1 hx104_2 hx104_3 hHeld ⊢
         refine pure_ (i := 0) (N := some 14) (v := ?_) (a' := ?_) bq10 rfl rfl (qr HT_.out (by kernel_rfl)) (fun _ _ _ h => h) (Or.inl ⟨by rfl, ?_⟩) ?_ ?_
         rotate_left
         ·intro w'
          go_simp
          with_reducible rfl
         rotate_left
         ·simp only [Act.put, sq1, sq2, sq3, i64_w, i32_w]
          rfl
         refine pure_ (i := 1) (N := some 15) (v := ?_) (a' := ?_) bq21 rfl rfl (qr HT_.out (by kernel_rfl)) (fun _ _ _ h => h) (Or.inl ⟨by rfl, ?_⟩) ?_ ?_
         rotate_left
         ·intro w'
          go_simp
          with_reducible rfl
         rotate_left
         ·simp only [Act.put, sq1, sq2, sq3, i64_w, i32_w]
          rfl
         refine pure_ (i := 2) (N := some 16) (v := ?_) (a' := ?_) bq31 rfl rfl (qr HT_.out (by kernel_rfl)) (fun _ _ _ h => h) (Or.inl ⟨by rfl, ?_⟩) ?_ ?_
         rotate_left
         ·intro w'
          go_simp
          with_reducible rfl
         rotate_left
         ·simp only [Act.put, sq1, sq2, sq3, i64_w, i32_w]
          rfl
         refine pure_ (i := 3) (N := some 17) (v := ?_) (a' := ?_) bq43 rfl rfl (qr HT_.out (by kernel_rfl)) (fun _ _ _ h => h) (Or.inl ⟨by rfl, ?_⟩) ?_ ?_
         rotate_left
         ·intro w'
          go_simp
          with_reducible rfl
         rotate_left
         ·simp only [Act.put, sq1, sq2, sq3, i64_w, i32_w]
          rfl
         refine pure_ (i := 4) (N := some 18) (v := ?_) (a' := ?_) bq49 rfl rfl (qr HT_.out (by kernel_rfl)) (fun _ _ _ h => h) (Or.inl ⟨by rfl, ?_⟩) ?_ ?_
         rotate_left
         ·intro w'
          go_simp
          with_reducible rfl
         rotate_left
         ·simp only [Act.put, sq1, sq2, sq3, i64_w, i32_w]
          rfl
         refine pure_ (i := 5) (N := some 19) (v := ?_) (a' := ?_) bq54 rfl rfl (qr HT_.out (by kernel_rfl)) (fun _ _ _ h => h) (Or.inl ⟨by rfl, ?_⟩) ?_ ?_
         rotate_left
         ·intro w'
          go_simp
          with_reducible rfl
         rotate_left
         ·simp only [Act.put, sq1, sq2, sq3, i64_w, i32_w]
          rfl
         refine pure_ (i := 6) (N := some 20) (v := ?_) (a' := ?_) bq59 rfl rfl (qr HT_.out (by kernel_rfl)) (fun _ _ _ h => h) (Or.inl ⟨by rfl, ?_⟩) ?_ ?_
         rotate_left
         ·intro w'
          go_simp
          with_reducible rfl
         rotate_left
         ·simp only [Act.put, sq1, sq2, sq3, i64_w, i32_w]
          rfl
         refine pure_ (i := 7) (N := some 21) (v := ?_) (a' := ?_) bq64 rfl rfl (qr HT_.out (by kernel_rfl)) (fun _ _ _ h => h) (Or.inl ⟨by rfl, ?_⟩) ?_ ?_
         rotate_left
         ·intro w'
          go_simp
          with_reducible rfl
         rotate_left
         ·simp only [Act.put, sq1, sq2, sq3, i64_w, i32_w]
          rfl
         refine pure_ (i := 8) (N := some 22) (v := ?_) (a' := ?_) bq69 rfl rfl (qr HT_.out (by kernel_rfl)) (fun _ _ _ h => h) (Or.inl ⟨by rfl, ?_⟩) ?_ ?_
         rotate_left
         ·intro w'
          go_simp
          with_reducible rfl
         rotate_left
         ·simp only [Act.put, sq1, sq2, sq3, i64_w, i32_w]
          rfl
         refine take_ (i := 9) (N := some 23) (v := ?_) (a' := ?_) bq76 rfl rfl (take_ofW HT_.out HW_.out (by kernel_rfl)) (fun _ _ _ h => h) (Or.inl ⟨by rfl, ?_⟩) hHeld ?_ ?_
         rotate_left
         ·rintro w' ⟨s0, s1, s2, s3, s4, s5, s6⟩
          go_simp
          with_reducible rfl
         rotate_left
         ·simp only [Act.put, sq1, sq2, sq3, i64_w, i32_w]
          rfl
         refine take_ (i := 10) (N := some 24) (v := ?_) (a' := ?_) bq81 rfl rfl (take_ofW HT_.out HW_.out (by kernel_rfl)) (fun _ _ _ h => h) (Or.inl ⟨by rfl, ?_⟩) hHeld ?_ ?_
         rotate_left
         ·rintro w' ⟨s0, s1, s2, s3, s4, s5, s6⟩
          go_simp
          with_reducible rfl
         rotate_left
         ·simp only [Act.put, sq1, sq2, sq3, i64_w, i32_w]
          rfl
         refine one_ (i := 11) (N := some 25) bq86 rfl rfl (one_of HT_.out (by kernel_rfl)) (by decide) (fun K hK => ?_)
         refine goes_ Try.func144 (by kernel_rfl) rfl #[.agg #[.string ((qk l0 x5_2).f0.f0), .int .i64 ((qk l0 x5_2).f0.f1), .int .i64 ((qk l0 x5_2).f0.f2)], .agg #[.string a1_0, .int .i64 a1_1, .int .i64 a1_2]] (by rfl) rfl rfl (by (try simp only [List.map_toArray, List.map_cons, List.map_nil]); first | done | rfl) ?_
         with_reducible refine (spec_KeyCmp.calls k2 ((qk l0 x5_2).f0.f0) ((qk l0 x5_2).f0.f1) ((qk l0 x5_2).f0.f2) a1_0 a1_1 a1_2 t105 _ A15.out).mono ?_
         rintro e w20 ⟨rfl, hb⟩
         refine ⟨_, rfl, ?_⟩
         replace BK101 := Qz.mk (qu (g := gb101) (o := .cells #[.string a1_0, .int .i64 a1_1, .int .i64 a1_2] 35 (0, 0)) yq38 hb)
         replace HB := Qz.mk (ql yq37 hb)
         (try clear hb)
         refine hK.out _ _ ⟨(qf BK101.out 0).trans rfl, (qf BK101.out 1).trans rfl, (qf BK101.out 2).trans rfl, ((HB.out.cell (World.block_lt_of_cell? w _ hw104_0)).trans hw104_0), ((HB.out.cell (World.block_lt_of_cell? w _ hw104_1)).trans hw104_1), ((HB.out.cell (World.block_lt_of_cell? w _ hw104_2)).trans hw104_2), ((HB.out.cell (World.block_lt_of_cell? w _ hw104_3)).trans hw104_3)⟩ (fun hHeld => ?_)
         clear hK K
         refine norm_ (a' := ?_) ?_ ?_
         rotate_left
         ·show Act.put _ (some 25) _ = _
          simp only [Act.put, sq1, sq2, sq3, i64_w, i32_w]
          rfl
         refine pure_ (i := 12) (N := some 26) (v := ?_) (a' := ?_) bq91 rfl rfl (qr HT_.out (by kernel_rfl)) (fun _ _ _ h => h) (Or.inl ⟨by rfl, ?_⟩) ?_ ?_
         rotate_left
         ·intro w'
          go_simp
          with_reducible rfl
         rotate_left
         ·simp only [Act.put, sq1, sq2, sq3, i64_w, i32_w]
          rfl
         refine pure_ (i := 13) (N := some 27) (v := ?_) (a' := ?_) bq120 rfl rfl (qr HT_.out (by kernel_rfl)) (fun _ _ _ h => h) (Or.inl ⟨by rfl, ?_⟩) ?_ ?_
         rotate_left
         ·intro w'
          go_simp
          with_reducible rfl
         rotate_left
         ·simp only [Act.put, sq1, sq2, sq3, i64_w, i32_w]
          rfl
         refine done_ (done_of HT_.out (by kernel_rfl)) ?_
         try go_wp2
         go_ret
         exact ⟨by first | rfl | (simp [qn, qm] <;> rfl) | (simp [*, qn, qm] <;> rfl), by repeat (first | (with_reducible first | exact HB.out | apply qc | apply qa | apply qb | refine qd ?_ GE101.out) | exact HB.out)⟩
       ·rw [if_neg c14] at H
        exact absurd H (by simp)
      ·rw [if_neg c13] at H
       have c13b0 : decide (x5_2 < (l0.length : Int)) = false := decide_eq_false c13
       clear c13
       obtain rfl := Option.some.inj H
       try go_wp2
       replace BK101 := Qz.mk (qi BK101.out)
       replace HB := Qz.mk (qb HB.out)
       refine start_ (n := 14) (S := fun w' => True) (ds := []) bq4 (by kernel_rfl) rfl rfl trivial (fun hHeld => ?_); refine with_tabW spec_SeekEntry.tab4 spec_SeekEntry.bits4 (fun HT_ HW_ => ?_)
       generalize wr.drew = w21 at BK101 HB hHeld ⊢
       refine pure_ (i := 0) (N := some 14) (v := ?_) (a' := ?_) bq10 rfl rfl (qr HT_.out (by kernel_rfl)) (fun _ _ _ h => h) (Or.inl ⟨by rfl, ?_⟩) ?_ ?_
       rotate_left
       ·intro w'
        go_simp
        with_reducible rfl
       rotate_left
       ·simp only [Act.put, sq1, sq2, sq3, i64_w, i32_w]
        rfl
       refine pure_ (i := 1) (N := some 15) (v := ?_) (a' := ?_) bq21 rfl rfl (qr HT_.out (by kernel_rfl)) (fun _ _ _ h => h) (Or.inl ⟨by rfl, ?_⟩) ?_ ?_
       rotate_left
       ·intro w'
        go_simp
        with_reducible rfl
       rotate_left
       ·simp only [Act.put, sq1, sq2, sq3, i64_w, i32_w]
        rfl
       refine pure_ (i := 2) (N := some 16) (v := ?_) (a' := ?_) bq31 rfl rfl (qr HT_.out (by kernel_rfl)) (fun _ _ _ h => h) (Or.inl ⟨by rfl, ?_⟩) ?_ ?_
       rotate_left
       ·intro w'
        go_simp
        with_reducible rfl
       rotate_left
       ·simp only [Act.put, sq1, sq2, sq3, i64_w, i32_w]
        rfl
       refine pure_ (i := 3) (N := some 17) (v := ?_) (a' := ?_) bq43 rfl rfl (qr HT_.out (by kernel_rfl)) (fun _ _ _ h => h) (Or.inl ⟨by rfl, ?_⟩) ?_ ?_
       rotate_left
       ·intro w'
        go_simp
        with_reducible rfl
       rotate_left
       ·simp only [Act.put, sq1, sq2, sq3, i64_w, i32_w]
        rfl
       refine pure_ (i := 4) (N := some 18) (v := ?_) (a' := ?_) bq49 rfl rfl (qr HT_.out (by kernel_rfl)) (fun _ _ _ h => h) (Or.inl ⟨by rfl, ?_⟩) ?_ ?_
       rotate_left
       ·intro w'
        go_simp
        with_reducible rfl
       rotate_left
       ·simp only [Act.put, sq1, sq2, sq3, i64_w, i32_w]
        rfl
       refine pure_ (i := 5) (N := some 19) (v := undef) (a' := ?_) bq54 rfl rfl (qr HT_.out (by kernel_rfl)) (fun _ _ _ h => h) (Or.inr ⟨by rfl, rfl⟩) ?_ ?_
       rotate_left
       ·simp only [Act.put, sq1, sq2, sq3, i64_w, i32_w]
        rfl
       refine pure_ (i := 6) (N := some 20) (v := undef) (a' := ?_) bq59 rfl rfl (qr HT_.out (by kernel_rfl)) (fun _ _ _ h => h) (Or.inr ⟨by rfl, rfl⟩) ?_ ?_
       rotate_left
       ·simp only [Act.put, sq1, sq2, sq3, i64_w, i32_w]
        rfl
       refine pure_ (i := 7) (N := some 21) (v := undef) (a' := ?_) bq64 rfl rfl (qr HT_.out (by kernel_rfl)) (fun _ _ _ h => h) (Or.inr ⟨by rfl, rfl⟩) ?_ ?_
       rotate_left
       ·simp only [Act.put, sq1, sq2, sq3, i64_w, i32_w]
        rfl
       refine pure_ (i := 8) (N := some 22) (v := undef) (a' := ?_) bq69 rfl rfl (qr HT_.out (by kernel_rfl)) (fun _ _ _ h => h) (Or.inr ⟨by rfl, rfl⟩) ?_ ?_
       rotate_left
       ·simp only [Act.put, sq1, sq2, sq3, i64_w, i32_w]
        rfl
       refine pure_ (i := 9) (N := some 23) (v := undef) (a' := ?_) bq76 rfl rfl (qr HT_.out (by kernel_rfl)) (fun _ _ _ h => h) (Or.inr ⟨by rfl, rfl⟩) ?_ ?_
       rotate_left
       ·simp only [Act.put, sq1, sq2, sq3, i64_w, i32_w]
        rfl
       refine pure_ (i := 10) (N := some 24) (v := undef) (a' := ?_) bq81 rfl rfl (qr HT_.out (by kernel_rfl)) (fun _ _ _ h => h) (Or.inr ⟨by rfl, rfl⟩) ?_ ?_
       rotate_left
       ·simp only [Act.put, sq1, sq2, sq3, i64_w, i32_w]
        rfl
       refine pure_ (i := 11) (N := some 25) (v := undef) (a' := ?_) bq86 rfl rfl (qr HT_.out (by kernel_rfl)) (fun _ _ _ h => h) (Or.inr ⟨by rfl, rfl⟩) ?_ ?_
       rotate_left
       ·simp only [Act.put, sq1, sq2, sq3, i64_w, i32_w]
        rfl
       refine pure_ (i := 12) (N := some 26) (v := undef) (a' := ?_) bq91 rfl rfl (qr HT_.out (by kernel_rfl)) (fun _ _ _ h => h) (Or.inr ⟨by rfl, rfl⟩) ?_ ?_
       rotate_left
       ·simp only [Act.put, sq1, sq2, sq3, i64_w, i32_w]
        rfl
       refine pure_ (i := 13) (N := some 27) (v := ?_) (a' := ?_) bq120 rfl rfl (qr HT_.out (by kernel_rfl)) (fun _ _ _ h => h) (Or.inl ⟨by rfl, ?_⟩) ?_ ?_
       rotate_left
       ·intro w'
        go_simp
        with_reducible rfl
       rotate_left
       ·simp only [Act.put, sq1, sq2, sq3, i64_w, i32_w]
        rfl
       refine done_ (done_of HT_.out (by kernel_rfl)) ?_
       try go_wp2
       go_ret
       exact ⟨by first | rfl | (simp [qn, qm] <;> rfl) | (simp [*, qn, qm] <;> rfl), by repeat (first | (with_reducible first | exact HB.out | apply qc | apply qa | apply qb | refine qd ?_ GE101.out) | exact HB.out)⟩
theorem yq39 {P : Prop} (h : P := by repeat (first | (with_reducible first | exact HB.out | apply qc | apply qa | apply qb | refine qd ?_ GE101.out) | exact HB.out)) : P := h
theorem yq40 {P : Prop} (h : P := by repeat (first | (with_reducible first | exact HB.out | apply qc | apply qa | apply qb) | exact HB.out)) : P := h
theorem yq41 {P : Prop} (h : P := by (with_reducible repeat (first | refine qg ?_ _ | refine qi ?_ | refine qh ?_ _)); exact BK101.out) : P := h
def spec_BlockSeek.f (k : Nat) (a0 : ByteArray) (a1_0 : ByteArray) (a1_1 : Int) (a1_2 : Int) : Option (Int × Bool) := (spec_ReadBlock.f k a0).bind fun bt102 => (if bt102.2 = true then ((spec_KeyOk.f a1_0 a1_1 a1_2).bind fun t106 => (if t106 = true then ((spec_SeekEntry.f k bt102.1 a1_0 a1_1 a1_2).bind fun t107 => (some (t107, true))) else (some (0, false)))) else (some (0, false)))
set_option maxHeartbeats 8000000 in
set_option maxRecDepth 100000 in
theorem spec_BlockSeek.calls (k : Nat) (a0 : ByteArray) (a1_0 : ByteArray) (a1_1 : Int) (a1_2 : Int) (r1 : Int) (r2 : Bool) (w : World) (h : spec_BlockSeek.f k a0 a1_0 a1_1 a1_2 = some (r1, r2)) :
  Calls Try.prog 21 #[.string a0, .agg #[.string a1_0, .int .i64 a1_1, .int .i64 a1_2]] w fun e w' => e = .returned (.tuple #[.int .i64 r1, .bool r2]) ∧ Below w.heap.size w w' := by
 have hu35 := Try.underlying35
 have HB := Qz.mk (Below.refl w.heap.size w)
 have H : ((spec_ReadBlock.f k a0).bind fun bt102 => (if bt102.2 = true then ((spec_KeyOk.f a1_0 a1_1 a1_2).bind fun t106 => (if t106 = true then ((spec_SeekEntry.f k bt102.1 a1_0 a1_1 a1_2).bind fun t107 => (some (t107, true))) else (some (0, false)))) else (some (0, false)))) = some (r1, r2) := h
 clear h
 replace H := Option.bind_eq_some_iff.mp H
 obtain ⟨⟨t102, t103⟩, A30, H⟩ := H
 replace H : (if t103 = true then ((spec_KeyOk.f a1_0 a1_1 a1_2).bind fun t106 => (if t106 = true then ((spec_SeekEntry.f k t102 a1_0 a1_1 a1_2).bind fun t107 => (some (t107, true))) else (some (0, false)))) else (some (0, false))) = some (r1, r2) := H
 have A3 := Qz.mk A30
 clear A30
 by_cases c4 : t103 = true
 ·subst c4
  have H1 : ((spec_KeyOk.f a1_0 a1_1 a1_2).bind fun t106 => (if t106 = true then ((spec_SeekEntry.f k t102 a1_0 a1_1 a1_2).bind fun t107 => (some (t107, true))) else (some (0, false)))) = some (r1, r2) := by rw [if_pos rfl] at H; exact H
  clear H
  have H := H1
  clear H1
  replace H := Option.bind_eq_some_iff.mp H
  obtain ⟨t106, A50, H⟩ := H
  replace H : (if t106 = true then ((spec_SeekEntry.f k t102 a1_0 a1_1 a1_2).bind fun t107 => (some (t107, true))) else (some (0, false))) = some (r1, r2) := H
  have A5 := Qz.mk A50
  clear A50
  by_cases c6 : t106 = true
  ·subst c6
   have H1 : ((spec_SeekEntry.f k t102 a1_0 a1_1 a1_2).bind fun t107 => (some (t107, true))) = some (r1, r2) := by rw [if_pos rfl] at H; exact H
   clear H
   have H := H1
   clear H1
   replace H := Option.bind_eq_some_iff.mp H
   obtain ⟨t107, A70, H⟩ := H
   replace H : (some (t107, true)) = some (r1, r2) := H
   have A7 := Qz.mk A70
   clear A70
   simp only [Option.some.injEq, Prod.mk.injEq] at H
   obtain ⟨rfl, rfl⟩ := H
   go_enter Try.func21, Try.ntmps21
   go_wp2_with (first | ((with_reducible refine qb1 (N := 3) rfl ?_); refine qz ?hg (N := 3) ?hd (cs := #[.string a1_0, .int .i64 a1_1, .int .i64 a1_2]) (t := 35) ?hr ?_; (case hd => rfl); (case hg => rfl); (case hr => first | (go_simp; done) | (go_simp; rfl)); intro gb101 hg w8 hbox hb; have BK101 := Qz.mk (hbox); have GW101 := Qz.mk ((by rw [hg]; exact (qv yq40) : w.heap.size ≤ gb101)); have GE101 := GW101; replace HB := Qz.mk (ql yq40 hb); clear hb hbox hg) | ((with_reducible refine qj (f := 24) rfl ?_); refine qt (some 10) rfl rfl Try.func24 (by kernel_rfl) rfl #[.string a0] rfl (by (try simp only [List.map_toArray, List.map_cons, List.map_nil]); first | done | rfl) ?_; (with_reducible refine (spec_ReadBlock.calls k a0 t102 true _ A3.out).mono ?_); rintro e w9 ⟨v104, rfl, ho0, hb⟩; refine ⟨_, rfl, ?_⟩; have HO105 := Qz.mk (Kd.R_lower ho0 (qv yq39)); replace BK101 := Qz.mk (qu (g := gb101) (o := .cells #[.string a1_0, .int .i64 a1_1, .int .i64 a1_2] 35 (0, 0)) yq41 hb); replace HB := Qz.mk (ql yq39 hb); (try clear hb); (try clear ho0); have hcz10_0 : w9.cell? ⟨gb101, 0, none⟩ = some (.string a1_0) := (qf BK101.out 0).trans rfl; have hcz10_1 : w9.cell? ⟨gb101, 1, none⟩ = some (.int .i64 a1_1) := (qf BK101.out 1).trans rfl; have hcz10_2 : w9.cell? ⟨gb101, 2, none⟩ = some (.int .i64 a1_2) := (qf BK101.out 2).trans rfl; have hfz10_0 := qe BK101.out 0; have hfz10_1 := qe BK101.out 1; have hfz10_2 := qe BK101.out 2) | (go_at_call 79; (with_reducible refine (spec_KeyOk.calls a1_0 a1_1 a1_2 true _ A5.out).mono ?_); rintro e w11 ⟨rfl, hb⟩; replace HO105 := Qz.mk (Kd.R_below (by (with_reducible repeat (first | apply Kd.R_alloc | apply Kd.R_drewN | apply Kd.R_drew)); exact HO105.out) hb); replace BK101 := Qz.mk (qu (g := gb101) (o := .cells #[.string a1_0, .int .i64 a1_1, .int .i64 a1_2] 35 (0, 0)) yq41 hb); replace HB := Qz.mk (ql yq39 hb); (try clear hb); have hcz12_0 : w11.cell? ⟨gb101, 0, none⟩ = some (.string a1_0) := (qf BK101.out 0).trans rfl; have hcz12_1 : w11.cell? ⟨gb101, 1, none⟩ = some (.int .i64 a1_1) := (qf BK101.out 1).trans rfl; have hcz12_2 : w11.cell? ⟨gb101, 2, none⟩ = some (.int .i64 a1_2) := (qf BK101.out 2).trans rfl; have hfz12_0 := qe BK101.out 0; have hfz12_1 := qe BK101.out 1; have hfz12_2 := qe BK101.out 2; obtain ⟨Ao13, co13, eo13⟩ := Kd.R_slice HO105.out; subst eo13) | ((with_reducible refine qj (f := 80) rfl ?_); refine qt (some 22) rfl rfl Try.func80 (by kernel_rfl) rfl #[.slice Ao13 t102.length co13, .agg #[.string a1_0, .int .i64 a1_1, .int .i64 a1_2]] rfl (by (try simp only [List.map_toArray, List.map_cons, List.map_nil]); first | done | rfl | (simp only [List.length_drop, List.length_take]; rfl) | (rw [IntWalk.u64_in _ (by omega)] <;> rfl)) ?_; (with_reducible refine (spec_SeekEntry.calls k _ _ t102 a1_0 a1_1 a1_2 t107 _ ?side1 ?side2 A7.out).mono ?_); (case side1 => repeat (first | exact (Kd.R_reads' HO105.out).2.2 | (with_reducible refine Kd.C_alloc ?_ _) | (with_reducible refine Kd.C_drewN ?_ _) | (with_reducible refine Kd.C_drew ?_))); (case side2 => exact (Kd.R_reads' HO105.out).2.1); rintro e w14 ⟨rfl, hb⟩; refine ⟨_, rfl, ?_⟩; replace HO105 := Qz.mk (Kd.R_below (by (with_reducible repeat (first | apply Kd.R_alloc | apply Kd.R_drewN | apply Kd.R_drew)); exact HO105.out) hb); replace BK101 := Qz.mk (qu (g := gb101) (o := .cells #[.string a1_0, .int .i64 a1_1, .int .i64 a1_2] 35 (0, 0)) yq41 hb); replace HB := Qz.mk (ql yq39 hb); (try clear hb)))
   go_ret2
   exact ⟨by first | rfl | (simp [qn, qm] <;> rfl) | (simp [*, qn, qm] <;> rfl), by repeat (first | (with_reducible first | exact HB.out | apply qc | apply qa | apply qb | refine qd ?_ GE101.out) | exact HB.out)⟩
  ·replace c6 := Bool.eq_false_iff.mpr c6
   subst c6
   have H1 : (some (0, false)) = some (r1, r2) := by rw [if_neg (show ¬ (false = true) by decide)] at H; exact H
   clear H
   have H := H1
   clear H1
   simp only [Option.some.injEq, Prod.mk.injEq] at H
   obtain ⟨rfl, rfl⟩ := H
   go_enter Try.func21, Try.ntmps21
   go_wp2_with (first | ((with_reducible refine qb1 (N := 3) rfl ?_); refine qz ?hg (N := 3) ?hd (cs := #[.string a1_0, .int .i64 a1_1, .int .i64 a1_2]) (t := 35) ?hr ?_; (case hd => rfl); (case hg => rfl); (case hr => first | (go_simp; done) | (go_simp; rfl)); intro gb101 hg w15 hbox hb; have BK101 := Qz.mk (hbox); have GW101 := Qz.mk ((by rw [hg]; exact (qv yq40) : w.heap.size ≤ gb101)); have GE101 := GW101; replace HB := Qz.mk (ql yq40 hb); clear hb hbox hg) | ((with_reducible refine qj (f := 24) rfl ?_); refine qt (some 10) rfl rfl Try.func24 (by kernel_rfl) rfl #[.string a0] rfl (by (try simp only [List.map_toArray, List.map_cons, List.map_nil]); first | done | rfl) ?_; (with_reducible refine (spec_ReadBlock.calls k a0 t102 true _ A3.out).mono ?_); rintro e w16 ⟨v104, rfl, ho0, hb⟩; refine ⟨_, rfl, ?_⟩; have HO105 := Qz.mk (Kd.R_lower ho0 (qv yq39)); replace BK101 := Qz.mk (qu (g := gb101) (o := .cells #[.string a1_0, .int .i64 a1_1, .int .i64 a1_2] 35 (0, 0)) yq41 hb); replace HB := Qz.mk (ql yq39 hb); (try clear hb); (try clear ho0); have hcz17_0 : w16.cell? ⟨gb101, 0, none⟩ = some (.string a1_0) := (qf BK101.out 0).trans rfl; have hcz17_1 : w16.cell? ⟨gb101, 1, none⟩ = some (.int .i64 a1_1) := (qf BK101.out 1).trans rfl; have hcz17_2 : w16.cell? ⟨gb101, 2, none⟩ = some (.int .i64 a1_2) := (qf BK101.out 2).trans rfl; have hfz17_0 := qe BK101.out 0; have hfz17_1 := qe BK101.out 1; have hfz17_2 := qe BK101.out 2) | (go_at_call 79; (with_reducible refine (spec_KeyOk.calls a1_0 a1_1 a1_2 false _ A5.out).mono ?_); rintro e w18 ⟨rfl, hb⟩; replace HO105 := Qz.mk (Kd.R_below (by (with_reducible repeat (first | apply Kd.R_alloc | apply Kd.R_drewN | apply Kd.R_drew)); exact HO105.out) hb); replace BK101 := Qz.mk (qu (g := gb101) (o := .cells #[.string a1_0, .int .i64 a1_1, .int .i64 a1_2] 35 (0, 0)) yq41 hb); replace HB := Qz.mk (ql yq39 hb); (try clear hb)))
   go_ret2
   exact ⟨by first | rfl | (simp [qn, qm] <;> rfl) | (simp [*, qn, qm] <;> rfl), by repeat (first | (with_reducible first | exact HB.out | apply qc | apply qa | apply qb | refine qd ?_ GE101.out) | exact HB.out)⟩
 ·replace c4 := Bool.eq_false_iff.mpr c4
  subst c4
  have H1 : (some (0, false)) = some (r1, r2) := by rw [if_neg (show ¬ (false = true) by decide)] at H; exact H
  clear H
  have H := H1
  clear H1
  simp only [Option.some.injEq, Prod.mk.injEq] at H
  obtain ⟨rfl, rfl⟩ := H
  go_enter Try.func21, Try.ntmps21
  go_wp2_with (first | ((with_reducible refine qb1 (N := 3) rfl ?_); refine qz ?hg (N := 3) ?hd (cs := #[.string a1_0, .int .i64 a1_1, .int .i64 a1_2]) (t := 35) ?hr ?_; (case hd => rfl); (case hg => rfl); (case hr => first | (go_simp; done) | (go_simp; rfl)); intro gb101 hg w19 hbox hb; have BK101 := Qz.mk (hbox); have GW101 := Qz.mk ((by rw [hg]; exact (qv yq40) : w.heap.size ≤ gb101)); have GE101 := GW101; replace HB := Qz.mk (ql yq40 hb); clear hb hbox hg) | ((with_reducible refine qj (f := 24) rfl ?_); refine qt (some 10) rfl rfl Try.func24 (by kernel_rfl) rfl #[.string a0] rfl (by (try simp only [List.map_toArray, List.map_cons, List.map_nil]); first | done | rfl) ?_; (with_reducible refine (spec_ReadBlock.calls k a0 t102 false _ A3.out).mono ?_); rintro e w20 ⟨v104, rfl, ho0, hb⟩; refine ⟨_, rfl, ?_⟩; have HO105 := Qz.mk (Kd.R_lower ho0 (qv yq39)); replace BK101 := Qz.mk (qu (g := gb101) (o := .cells #[.string a1_0, .int .i64 a1_1, .int .i64 a1_2] 35 (0, 0)) yq41 hb); replace HB := Qz.mk (ql yq39 hb); (try clear hb); (try clear ho0)))
  go_ret2
  exact ⟨by first | rfl | (simp [qn, qm] <;> rfl) | (simp [*, qn, qm] <;> rfl), by repeat (first | (with_reducible first | exact HB.out | apply qc | apply qa | apply qb | refine qd ?_ GE101.out) | exact HB.out)⟩
def impl_within.f (a0 : Int) (a1 : Int) (a2 : Int) : Option (Bool) := if a1 ≤ a0 then (some (decide (a0 ≤ a2))) else (some false)
set_option maxHeartbeats 8000000 in
set_option maxRecDepth 100000 in
theorem impl_within.calls (a0 : Int) (a1 : Int) (a2 : Int) (r : Bool) (w : World) (h : impl_within.f a0 a1 a2 = some r) :
  Calls Try.prog 76 #[.int .i64 a0, .int .i64 a1, .int .i64 a2] w fun e w' => e = .returned (.bool r) ∧ Drawn0 w w' := by
 have H : (if a1 ≤ a0 then (some (decide (a0 ≤ a2))) else (some false)) = some r := h
 clear h
 by_cases c4 : a1 ≤ a0
 ·rw [if_pos c4] at H
  have c4b0 : decide (a1 ≤ a0) = true := decide_eq_true c4
  clear c4
  obtain rfl := Option.some.inj H
  go_enter Try.func76, Try.ntmps76
  go_wp2
  go_ret
  exact ⟨by first | rfl | (simp; done) | (simp [*]; done), by repeat (first | exact Drawn0.refl _ | apply Drawn0.step)⟩
 ·rw [if_neg c4] at H
  have c4b0 : decide (a1 ≤ a0) = false := decide_eq_false c4
  clear c4
  obtain rfl := Option.some.inj H
  go_enter Try.func76, Try.ntmps76
  go_wp2
  go_ret
  exact ⟨by first | rfl | (simp; done) | (simp [*]; done), by repeat (first | exact Drawn0.refl _ | apply Drawn0.step)⟩
def impl_isUser.f (a0 : ByteArray) : Option (Bool) := if (a0.size : Int) ≥ 1 then (some (decide ((a0.size : Int) ≤ 40))) else (some false)
set_option maxHeartbeats 8000000 in
set_option maxRecDepth 100000 in
theorem impl_isUser.calls (a0 : ByteArray) (r : Bool) (w : World) (h : impl_isUser.f a0 = some r) :
  Calls Try.prog 95 #[.string a0] w fun e w' => e = .returned (.bool r) ∧ Drawn0 w w' := by
 have H : (if (a0.size : Int) ≥ 1 then (some (decide ((a0.size : Int) ≤ 40))) else (some false)) = some r := h
 clear h
 by_cases c2 : (a0.size : Int) ≥ 1
 ·rw [if_pos c2] at H
  have c2b0 : decide (1 ≤ (a0.size : Int)) = true := decide_eq_true c2
  have c2b1 : decide (1 ≤ a0.size) = true := decide_eq_true (by omega)
  clear c2
  obtain rfl := Option.some.inj H
  go_enter Try.func95, Try.ntmps95
  go_wp2
  go_ret
  exact ⟨by first | rfl | (simp; done) | (simp [*]; done), by repeat (first | exact Drawn0.refl _ | apply Drawn0.step)⟩
 ·rw [if_neg c2] at H
  have c2b0 : decide (1 ≤ (a0.size : Int)) = false := decide_eq_false c2
  have c2b1 : decide (1 ≤ a0.size) = false := decide_eq_false (by omega)
  clear c2
  obtain rfl := Option.some.inj H
  go_enter Try.func95, Try.ntmps95
  go_wp2
  go_ret
  exact ⟨by first | rfl | (simp; done) | (simp [*]; done), by repeat (first | exact Drawn0.refl _ | apply Drawn0.step)⟩
theorem yq42 {P : Prop} (h : P := by repeat (first | (with_reducible first | exact HB.out | apply qc | apply qa | apply qb) | exact HB.out)) : P := h
def impl_KeyOk.f (a0_0 : ByteArray) (a0_1 : Int) (a0_2 : Int) : Option (Bool) := (impl_isUser.f a0_0).bind fun t102 => (if t102 = true then ((impl_within.f a0_1 0 1000000000000).bind fun t103 => (if t103 = true then ((impl_within.f a0_2 0 1).bind fun t104 => (some t104)) else (some false))) else (some false))
set_option maxHeartbeats 8000000 in
set_option maxRecDepth 100000 in
theorem impl_KeyOk.calls (a0_0 : ByteArray) (a0_1 : Int) (a0_2 : Int) (r : Bool) (w : World) (h : impl_KeyOk.f a0_0 a0_1 a0_2 = some r) :
  Calls Try.prog 33 #[.agg #[.string a0_0, .int .i64 a0_1, .int .i64 a0_2]] w fun e w' => e = .returned (.bool r) ∧ Below w.heap.size w w' := by
 have hu35 := Try.underlying35
 have HB := Qz.mk (Below.refl w.heap.size w)
 have H : ((impl_isUser.f a0_0).bind fun t102 => (if t102 = true then ((impl_within.f a0_1 0 1000000000000).bind fun t103 => (if t103 = true then ((impl_within.f a0_2 0 1).bind fun t104 => (some t104)) else (some false))) else (some false))) = some r := h
 clear h
 replace H := Option.bind_eq_some_iff.mp H
 obtain ⟨t102, A20, H⟩ := H
 replace H : (if t102 = true then ((impl_within.f a0_1 0 1000000000000).bind fun t103 => (if t103 = true then ((impl_within.f a0_2 0 1).bind fun t104 => (some t104)) else (some false))) else (some false)) = some r := H
 have A2 := Qz.mk A20
 clear A20
 by_cases c3 : t102 = true
 ·subst c3
  have H1 : ((impl_within.f a0_1 0 1000000000000).bind fun t103 => (if t103 = true then ((impl_within.f a0_2 0 1).bind fun t104 => (some t104)) else (some false))) = some r := by rw [if_pos rfl] at H; exact H
  clear H
  have H := H1
  clear H1
  replace H := Option.bind_eq_some_iff.mp H
  obtain ⟨t103, A40, H⟩ := H
  replace H : (if t103 = true then ((impl_within.f a0_2 0 1).bind fun t104 => (some t104)) else (some false)) = some r := H
  have A4 := Qz.mk A40
  clear A40
  by_cases c5 : t103 = true
  ·subst c5
   have H1 : ((impl_within.f a0_2 0 1).bind fun t104 => (some t104)) = some r := by rw [if_pos rfl] at H; exact H
   clear H
   have H := H1
   clear H1
   replace H := Option.bind_eq_some_iff.mp H
   obtain ⟨t104, A60, H⟩ := H
   replace H : (some t104) = some r := H
   have A6 := Qz.mk A60
   clear A60
   obtain rfl := Option.some.inj H
   go_enter Try.func33, Try.ntmps33
   go_wp2_with (first | ((with_reducible refine qb1 (N := 1) rfl ?_); refine qz ?hg (N := 1) ?hd (cs := #[.string a0_0, .int .i64 a0_1, .int .i64 a0_2]) (t := 35) ?hr ?_; (case hd => rfl); (case hg => rfl); (case hr => first | (go_simp; done) | (go_simp; rfl)); intro gb101 hg w7 hbox hb; have BK101 := Qz.mk (hbox); have GW101 := Qz.mk ((by rw [hg]; exact (qv yq42) : w.heap.size ≤ gb101)); have GE101 := GW101; replace HB := Qz.mk (ql yq42 hb); clear hb hbox hg; have hcz8_0 : w7.cell? ⟨gb101, 0, none⟩ = some (.string a0_0) := (qf BK101.out 0).trans rfl; have hcz8_1 : w7.cell? ⟨gb101, 1, none⟩ = some (.int .i64 a0_1) := (qf BK101.out 1).trans rfl; have hcz8_2 : w7.cell? ⟨gb101, 2, none⟩ = some (.int .i64 a0_2) := (qf BK101.out 2).trans rfl; have hfz8_0 := qe BK101.out 0; have hfz8_1 := qe BK101.out 1; have hfz8_2 := qe BK101.out 2) | ((with_reducible refine qj (f := 95) rfl ?_); refine qt (some 5) rfl rfl Try.func95 (by kernel_rfl) rfl #[.string a0_0] rfl (by (try simp only [List.map_toArray, List.map_cons, List.map_nil]); first | done | rfl) ?_; (with_reducible refine (impl_isUser.calls a0_0 true _ A2.out).mono ?_); rintro e w' ⟨rfl, ⟨nd, rfl⟩⟩; refine ⟨_, rfl, ?_⟩) | (go_at_call 76; (with_reducible refine (impl_within.calls a0_1 0 1000000000000 true _ A4.out).mono ?_); rintro e w' ⟨rfl, ⟨nd, rfl⟩⟩) | (go_at_call 76; (with_reducible refine (impl_within.calls a0_2 0 1 t104 _ A6.out).mono ?_); rintro e w' ⟨rfl, ⟨nd, rfl⟩⟩))
   go_ret
   exact ⟨by first | rfl | (simp [qn, qm] <;> rfl) | (simp [*, qn, qm] <;> rfl), by repeat (first | (with_reducible first | exact HB.out | apply qc | apply qa | apply qb | refine qd ?_ GE101.out) | exact HB.out)⟩
  ·replace c5 := Bool.eq_false_iff.mpr c5
   subst c5
   have H1 : (some false) = some r := by rw [if_neg (show ¬ (false = true) by decide)] at H; exact H
   clear H
   have H := H1
   clear H1
   obtain rfl := Option.some.inj H
   go_enter Try.func33, Try.ntmps33
   go_wp2_with (first | ((with_reducible refine qb1 (N := 1) rfl ?_); refine qz ?hg (N := 1) ?hd (cs := #[.string a0_0, .int .i64 a0_1, .int .i64 a0_2]) (t := 35) ?hr ?_; (case hd => rfl); (case hg => rfl); (case hr => first | (go_simp; done) | (go_simp; rfl)); intro gb101 hg w9 hbox hb; have BK101 := Qz.mk (hbox); have GW101 := Qz.mk ((by rw [hg]; exact (qv yq42) : w.heap.size ≤ gb101)); have GE101 := GW101; replace HB := Qz.mk (ql yq42 hb); clear hb hbox hg; have hcz10_0 : w9.cell? ⟨gb101, 0, none⟩ = some (.string a0_0) := (qf BK101.out 0).trans rfl; have hcz10_1 : w9.cell? ⟨gb101, 1, none⟩ = some (.int .i64 a0_1) := (qf BK101.out 1).trans rfl; have hcz10_2 : w9.cell? ⟨gb101, 2, none⟩ = some (.int .i64 a0_2) := (qf BK101.out 2).trans rfl; have hfz10_0 := qe BK101.out 0; have hfz10_1 := qe BK101.out 1; have hfz10_2 := qe BK101.out 2) | ((with_reducible refine qj (f := 95) rfl ?_); refine qt (some 5) rfl rfl Try.func95 (by kernel_rfl) rfl #[.string a0_0] rfl (by (try simp only [List.map_toArray, List.map_cons, List.map_nil]); first | done | rfl) ?_; (with_reducible refine (impl_isUser.calls a0_0 true _ A2.out).mono ?_); rintro e w' ⟨rfl, ⟨nd, rfl⟩⟩; refine ⟨_, rfl, ?_⟩) | (go_at_call 76; (with_reducible refine (impl_within.calls a0_1 0 1000000000000 false _ A4.out).mono ?_); rintro e w' ⟨rfl, ⟨nd, rfl⟩⟩))
   go_ret
   exact ⟨by first | rfl | (simp [qn, qm] <;> rfl) | (simp [*, qn, qm] <;> rfl), by repeat (first | (with_reducible first | exact HB.out | apply qc | apply qa | apply qb | refine qd ?_ GE101.out) | exact HB.out)⟩
 ·replace c3 := Bool.eq_false_iff.mpr c3
  subst c3
  have H1 : (some false) = some r := by rw [if_neg (show ¬ (false = true) by decide)] at H; exact H
  clear H
  have H := H1
  clear H1
  obtain rfl := Option.some.inj H
  go_enter Try.func33, Try.ntmps33
  go_wp2_with (first | ((with_reducible refine qb1 (N := 1) rfl ?_); refine qz ?hg (N := 1) ?hd (cs := #[.string a0_0, .int .i64 a0_1, .int .i64 a0_2]) (t := 35) ?hr ?_; (case hd => rfl); (case hg => rfl); (case hr => first | (go_simp; done) | (go_simp; rfl)); intro gb101 hg w11 hbox hb; have BK101 := Qz.mk (hbox); have GW101 := Qz.mk ((by rw [hg]; exact (qv yq42) : w.heap.size ≤ gb101)); have GE101 := GW101; replace HB := Qz.mk (ql yq42 hb); clear hb hbox hg; have hcz12_0 : w11.cell? ⟨gb101, 0, none⟩ = some (.string a0_0) := (qf BK101.out 0).trans rfl; have hcz12_1 : w11.cell? ⟨gb101, 1, none⟩ = some (.int .i64 a0_1) := (qf BK101.out 1).trans rfl; have hcz12_2 : w11.cell? ⟨gb101, 2, none⟩ = some (.int .i64 a0_2) := (qf BK101.out 2).trans rfl; have hfz12_0 := qe BK101.out 0; have hfz12_1 := qe BK101.out 1; have hfz12_2 := qe BK101.out 2) | ((with_reducible refine qj (f := 95) rfl ?_); refine qt (some 5) rfl rfl Try.func95 (by kernel_rfl) rfl #[.string a0_0] rfl (by (try simp only [List.map_toArray, List.map_cons, List.map_nil]); first | done | rfl) ?_; (with_reducible refine (impl_isUser.calls a0_0 false _ A2.out).mono ?_); rintro e w' ⟨rfl, ⟨nd, rfl⟩⟩; refine ⟨_, rfl, ?_⟩))
  go_ret
  exact ⟨by first | rfl | (simp [qn, qm] <;> rfl) | (simp [*, qn, qm] <;> rfl), by repeat (first | (with_reducible first | exact HB.out | apply qc | apply qa | apply qb | refine qd ?_ GE101.out) | exact HB.out)⟩
theorem yq43 {P : Prop} (h : P := by repeat (first | (with_reducible first | exact HB.out | apply qc | apply qa | apply qb) | exact HB.out)) : P := h
theorem yq44 {P : Prop} (h : P := by repeat (first | (with_reducible first | exact HB.out | apply qc | apply qa | apply qb | refine qd ?_ GE101.out) | exact HB.out)) : P := h
theorem yq45 {P : Prop} (h : P := by (with_reducible repeat (first | refine qg ?_ _ | refine qi ?_ | refine qh ?_ _)); exact BK101.out) : P := h
theorem yq46 {P : Prop} (h : P := by (try simp only [List.map_toArray, List.map_cons, List.map_nil]); first | done | rfl) : P := h
def impl_EntryOk.f (a0_0 : ByteArray) (a0_1 : Int) (a0_2 : Int) (a0_3 : ByteArray) : Option (Bool) := (impl_KeyOk.f a0_0 a0_1 a0_2).bind fun t102 => (if t102 = true then (if (a0_3.size : Int) ≤ 200 then (if a0_2 = 1 then (some true) else (some (a0_3.toList == ([] : List UInt8)))) else (some false)) else (some false))
set_option maxHeartbeats 8000000 in
set_option maxRecDepth 100000 in
theorem impl_EntryOk.calls (a0_0 : ByteArray) (a0_1 : Int) (a0_2 : Int) (a0_3 : ByteArray) (r : Bool) (w : World) (h : impl_EntryOk.f a0_0 a0_1 a0_2 a0_3 = some r) :
  Calls Try.prog 108 #[.agg #[.string a0_0, .int .i64 a0_1, .int .i64 a0_2, .string a0_3]] w fun e w' => e = .returned (.bool r) ∧ Below w.heap.size w w' := by
 have hu64 := Try.underlying64
 have hu35 := Try.underlying35
 have HB := Qz.mk (Below.refl w.heap.size w)
 have H : ((impl_KeyOk.f a0_0 a0_1 a0_2).bind fun t102 => (if t102 = true then (if (a0_3.size : Int) ≤ 200 then (if a0_2 = 1 then (some true) else (some (a0_3.toList == ([] : List UInt8)))) else (some false)) else (some false))) = some r := h
 clear h
 replace H := Option.bind_eq_some_iff.mp H
 obtain ⟨t102, A20, H⟩ := H
 replace H : (if t102 = true then (if (a0_3.size : Int) ≤ 200 then (if a0_2 = 1 then (some true) else (some (a0_3.toList == ([] : List UInt8)))) else (some false)) else (some false)) = some r := H
 have A2 := Qz.mk A20
 clear A20
 by_cases c3 : t102 = true
 ·subst c3
  have H1 : (if (a0_3.size : Int) ≤ 200 then (if a0_2 = 1 then (some true) else (some (a0_3.toList == ([] : List UInt8)))) else (some false)) = some r := by rw [if_pos rfl] at H; exact H
  clear H
  have H := H1
  clear H1
  by_cases c4 : (a0_3.size : Int) ≤ 200
  ·rw [if_pos c4] at H
   have c4b0 : decide ((a0_3.size : Int) ≤ 200) = true := decide_eq_true c4
   have c4b1 : decide (a0_3.size ≤ 200) = true := decide_eq_true (by omega)
   clear c4
   by_cases c5 : a0_2 = 1
   ·rw [if_pos c5] at H
    have c5b0 : (a0_2 == 1) = true := beq_iff_eq.mpr c5
    have c5b1 : (a0_2 != 1) = false := bne_eq_false_iff_eq.mpr c5
    clear c5
    obtain rfl := Option.some.inj H
    go_enter Try.func108, Try.ntmps108
    go_wp2_with (first | ((with_reducible refine qb1 (N := 1) rfl ?_); (try (refine gate_guard (by rfl) ?_; dsimp only)); refine qz ?hg (N := 1) ?hd (cs := #[.string a0_0, .int .i64 a0_1, .int .i64 a0_2, .string a0_3]) (t := 64) ?hr ?_; (case hd => rfl); (case hg => rfl); (case hr => first | (go_simp; done) | (go_simp; rfl)); intro gb101 hg w6 hbox hb; have BK101 := Qz.mk (hbox); have GW101 := Qz.mk ((by rw [hg]; exact (qv yq43) : w.heap.size ≤ gb101)); have GE101 := GW101; replace HB := Qz.mk (ql yq43 hb); clear hb hbox hg; have hcz7_0 : w6.cell? ⟨gb101, 0, none⟩ = some (.string a0_0) := (qf BK101.out 0).trans rfl; have hcz7_1 : w6.cell? ⟨gb101, 1, none⟩ = some (.int .i64 a0_1) := (qf BK101.out 1).trans rfl; have hcz7_2 : w6.cell? ⟨gb101, 2, none⟩ = some (.int .i64 a0_2) := (qf BK101.out 2).trans rfl; have hcz7_3 : w6.cell? ⟨gb101, 3, none⟩ = some (.string a0_3) := (qf BK101.out 3).trans rfl; have hfz7_0 := qe BK101.out 0; have hfz7_1 := qe BK101.out 1; have hfz7_2 := qe BK101.out 2; have hfz7_3 := qe BK101.out 3) | ((with_reducible refine qj (f := 33) rfl ?_); refine qt (some 5) rfl rfl Try.func33 (by kernel_rfl) rfl #[.agg #[.string a0_0, .int .i64 a0_1, .int .i64 a0_2]] rfl yq46 ?_; (with_reducible refine (impl_KeyOk.calls a0_0 a0_1 a0_2 true _ A2.out).mono ?_); rintro e w8 ⟨rfl, hb⟩; refine ⟨_, rfl, ?_⟩; replace BK101 := Qz.mk (qu (g := gb101) (o := .cells #[.string a0_0, .int .i64 a0_1, .int .i64 a0_2, .string a0_3] 64 (0, 0)) yq45 hb); replace HB := Qz.mk (ql yq44 hb); (try clear hb); have hcz9_0 : w8.cell? ⟨gb101, 0, none⟩ = some (.string a0_0) := (qf BK101.out 0).trans rfl; have hcz9_1 : w8.cell? ⟨gb101, 1, none⟩ = some (.int .i64 a0_1) := (qf BK101.out 1).trans rfl; have hcz9_2 : w8.cell? ⟨gb101, 2, none⟩ = some (.int .i64 a0_2) := (qf BK101.out 2).trans rfl; have hcz9_3 : w8.cell? ⟨gb101, 3, none⟩ = some (.string a0_3) := (qf BK101.out 3).trans rfl; have hfz9_0 := qe BK101.out 0; have hfz9_1 := qe BK101.out 1; have hfz9_2 := qe BK101.out 2; have hfz9_3 := qe BK101.out 3))
    go_ret
    exact ⟨by first | rfl | (simp [qn, qm] <;> rfl) | (simp [*, qn, qm] <;> rfl), by repeat (first | (with_reducible first | exact HB.out | apply qc | apply qa | apply qb | refine qd ?_ GE101.out) | exact HB.out)⟩
   ·rw [if_neg c5] at H
    have c5b0 : (a0_2 == 1) = false := beq_eq_false_iff_ne.mpr c5
    have c5b1 : (a0_2 != 1) = true := bne_iff_ne.mpr c5
    obtain rfl := Option.some.inj H
    go_enter Try.func108, Try.ntmps108
    go_wp2_with (first | ((with_reducible refine qb1 (N := 1) rfl ?_); (try (refine gate_guard (by rfl) ?_; dsimp only)); refine qz ?hg (N := 1) ?hd (cs := #[.string a0_0, .int .i64 a0_1, .int .i64 a0_2, .string a0_3]) (t := 64) ?hr ?_; (case hd => rfl); (case hg => rfl); (case hr => first | (go_simp; done) | (go_simp; rfl)); intro gb101 hg w10 hbox hb; have BK101 := Qz.mk (hbox); have GW101 := Qz.mk ((by rw [hg]; exact (qv yq43) : w.heap.size ≤ gb101)); have GE101 := GW101; replace HB := Qz.mk (ql yq43 hb); clear hb hbox hg; have hcz11_0 : w10.cell? ⟨gb101, 0, none⟩ = some (.string a0_0) := (qf BK101.out 0).trans rfl; have hcz11_1 : w10.cell? ⟨gb101, 1, none⟩ = some (.int .i64 a0_1) := (qf BK101.out 1).trans rfl; have hcz11_2 : w10.cell? ⟨gb101, 2, none⟩ = some (.int .i64 a0_2) := (qf BK101.out 2).trans rfl; have hcz11_3 : w10.cell? ⟨gb101, 3, none⟩ = some (.string a0_3) := (qf BK101.out 3).trans rfl; have hfz11_0 := qe BK101.out 0; have hfz11_1 := qe BK101.out 1; have hfz11_2 := qe BK101.out 2; have hfz11_3 := qe BK101.out 3) | ((with_reducible refine qj (f := 33) rfl ?_); refine qt (some 5) rfl rfl Try.func33 (by kernel_rfl) rfl #[.agg #[.string a0_0, .int .i64 a0_1, .int .i64 a0_2]] rfl yq46 ?_; (with_reducible refine (impl_KeyOk.calls a0_0 a0_1 a0_2 true _ A2.out).mono ?_); rintro e w12 ⟨rfl, hb⟩; refine ⟨_, rfl, ?_⟩; replace BK101 := Qz.mk (qu (g := gb101) (o := .cells #[.string a0_0, .int .i64 a0_1, .int .i64 a0_2, .string a0_3] 64 (0, 0)) yq45 hb); replace HB := Qz.mk (ql yq44 hb); (try clear hb); have hcz13_0 : w12.cell? ⟨gb101, 0, none⟩ = some (.string a0_0) := (qf BK101.out 0).trans rfl; have hcz13_1 : w12.cell? ⟨gb101, 1, none⟩ = some (.int .i64 a0_1) := (qf BK101.out 1).trans rfl; have hcz13_2 : w12.cell? ⟨gb101, 2, none⟩ = some (.int .i64 a0_2) := (qf BK101.out 2).trans rfl; have hcz13_3 : w12.cell? ⟨gb101, 3, none⟩ = some (.string a0_3) := (qf BK101.out 3).trans rfl; have hfz13_0 := qe BK101.out 0; have hfz13_1 := qe BK101.out 1; have hfz13_2 := qe BK101.out 2; have hfz13_3 := qe BK101.out 3))
    go_ret
    exact ⟨by first | rfl | (simp [qn, qm] <;> rfl) | (simp [*, qn, qm] <;> rfl), by repeat (first | (with_reducible first | exact HB.out | apply qc | apply qa | apply qb | refine qd ?_ GE101.out) | exact HB.out)⟩
  ·rw [if_neg c4] at H
   have c4b0 : decide ((a0_3.size : Int) ≤ 200) = false := decide_eq_false c4
   have c4b1 : decide (a0_3.size ≤ 200) = false := decide_eq_false (by omega)
   clear c4
   obtain rfl := Option.some.inj H
   go_enter Try.func108, Try.ntmps108
   go_wp2_with (first | ((with_reducible refine qb1 (N := 1) rfl ?_); (try (refine gate_guard (by rfl) ?_; dsimp only)); refine qz ?hg (N := 1) ?hd (cs := #[.string a0_0, .int .i64 a0_1, .int .i64 a0_2, .string a0_3]) (t := 64) ?hr ?_; (case hd => rfl); (case hg => rfl); (case hr => first | (go_simp; done) | (go_simp; rfl)); intro gb101 hg w14 hbox hb; have BK101 := Qz.mk (hbox); have GW101 := Qz.mk ((by rw [hg]; exact (qv yq43) : w.heap.size ≤ gb101)); have GE101 := GW101; replace HB := Qz.mk (ql yq43 hb); clear hb hbox hg; have hcz15_0 : w14.cell? ⟨gb101, 0, none⟩ = some (.string a0_0) := (qf BK101.out 0).trans rfl; have hcz15_1 : w14.cell? ⟨gb101, 1, none⟩ = some (.int .i64 a0_1) := (qf BK101.out 1).trans rfl; have hcz15_2 : w14.cell? ⟨gb101, 2, none⟩ = some (.int .i64 a0_2) := (qf BK101.out 2).trans rfl; have hcz15_3 : w14.cell? ⟨gb101, 3, none⟩ = some (.string a0_3) := (qf BK101.out 3).trans rfl; have hfz15_0 := qe BK101.out 0; have hfz15_1 := qe BK101.out 1; have hfz15_2 := qe BK101.out 2; have hfz15_3 := qe BK101.out 3) | ((with_reducible refine qj (f := 33) rfl ?_); refine qt (some 5) rfl rfl Try.func33 (by kernel_rfl) rfl #[.agg #[.string a0_0, .int .i64 a0_1, .int .i64 a0_2]] rfl yq46 ?_; (with_reducible refine (impl_KeyOk.calls a0_0 a0_1 a0_2 true _ A2.out).mono ?_); rintro e w16 ⟨rfl, hb⟩; refine ⟨_, rfl, ?_⟩; replace BK101 := Qz.mk (qu (g := gb101) (o := .cells #[.string a0_0, .int .i64 a0_1, .int .i64 a0_2, .string a0_3] 64 (0, 0)) yq45 hb); replace HB := Qz.mk (ql yq44 hb); (try clear hb); have hcz17_0 : w16.cell? ⟨gb101, 0, none⟩ = some (.string a0_0) := (qf BK101.out 0).trans rfl; have hcz17_1 : w16.cell? ⟨gb101, 1, none⟩ = some (.int .i64 a0_1) := (qf BK101.out 1).trans rfl; have hcz17_2 : w16.cell? ⟨gb101, 2, none⟩ = some (.int .i64 a0_2) := (qf BK101.out 2).trans rfl; have hcz17_3 : w16.cell? ⟨gb101, 3, none⟩ = some (.string a0_3) := (qf BK101.out 3).trans rfl; have hfz17_0 := qe BK101.out 0; have hfz17_1 := qe BK101.out 1; have hfz17_2 := qe BK101.out 2; have hfz17_3 := qe BK101.out 3))
   go_ret
   exact ⟨by first | rfl | (simp [qn, qm] <;> rfl) | (simp [*, qn, qm] <;> rfl), by repeat (first | (with_reducible first | exact HB.out | apply qc | apply qa | apply qb | refine qd ?_ GE101.out) | exact HB.out)⟩
 ·replace c3 := Bool.eq_false_iff.mpr c3
  subst c3
  have H1 : (some false) = some r := by rw [if_neg (show ¬ (false = true) by decide)] at H; exact H
  clear H
  have H := H1
  clear H1
  obtain rfl := Option.some.inj H
  go_enter Try.func108, Try.ntmps108
  go_wp2_with (first | ((with_reducible refine qb1 (N := 1) rfl ?_); (try (refine gate_guard (by rfl) ?_; dsimp only)); refine qz ?hg (N := 1) ?hd (cs := #[.string a0_0, .int .i64 a0_1, .int .i64 a0_2, .string a0_3]) (t := 64) ?hr ?_; (case hd => rfl); (case hg => rfl); (case hr => first | (go_simp; done) | (go_simp; rfl)); intro gb101 hg w18 hbox hb; have BK101 := Qz.mk (hbox); have GW101 := Qz.mk ((by rw [hg]; exact (qv yq43) : w.heap.size ≤ gb101)); have GE101 := GW101; replace HB := Qz.mk (ql yq43 hb); clear hb hbox hg; have hcz19_0 : w18.cell? ⟨gb101, 0, none⟩ = some (.string a0_0) := (qf BK101.out 0).trans rfl; have hcz19_1 : w18.cell? ⟨gb101, 1, none⟩ = some (.int .i64 a0_1) := (qf BK101.out 1).trans rfl; have hcz19_2 : w18.cell? ⟨gb101, 2, none⟩ = some (.int .i64 a0_2) := (qf BK101.out 2).trans rfl; have hcz19_3 : w18.cell? ⟨gb101, 3, none⟩ = some (.string a0_3) := (qf BK101.out 3).trans rfl; have hfz19_0 := qe BK101.out 0; have hfz19_1 := qe BK101.out 1; have hfz19_2 := qe BK101.out 2; have hfz19_3 := qe BK101.out 3) | ((with_reducible refine qj (f := 33) rfl ?_); refine qt (some 5) rfl rfl Try.func33 (by kernel_rfl) rfl #[.agg #[.string a0_0, .int .i64 a0_1, .int .i64 a0_2]] rfl yq46 ?_; (with_reducible refine (impl_KeyOk.calls a0_0 a0_1 a0_2 false _ A2.out).mono ?_); rintro e w20 ⟨rfl, hb⟩; refine ⟨_, rfl, ?_⟩; replace BK101 := Qz.mk (qu (g := gb101) (o := .cells #[.string a0_0, .int .i64 a0_1, .int .i64 a0_2, .string a0_3] 64 (0, 0)) yq45 hb); replace HB := Qz.mk (ql yq44 hb); (try clear hb)))
  go_ret
  exact ⟨by first | rfl | (simp [qn, qm] <;> rfl) | (simp [*, qn, qm] <;> rfl), by repeat (first | (with_reducible first | exact HB.out | apply qc | apply qa | apply qb | refine qd ?_ GE101.out) | exact HB.out)⟩
def cmp_Or_int.l0 : Nat → Int → List Int → Int → Int → Option (Int)
 | 0, _, _, _, _ => none
 | k + 1, x3, x6, x7, x8 => if x8 < x7 then (if 0 ≤ x8 then (if x8 < (x6.length : Int) then (if (rd x6 x8) = x3 then (cmp_Or_int.l0 k x3 x6 x7 (wrap64 (x8 + 1))) else (some (rd x6 x8))) else (none)) else (none)) else (some x3)
def cmp_Or_int.f (k : Nat) (l0 : List Int) : Option (Int) := cmp_Or_int.l0 k 0 l0 (l0.length : Int) 0
set_option maxHeartbeats 8000000 in
set_option maxRecDepth 100000 in
theorem cmp_Or_int.calls (k : Nat) (A0 : Option Addr) (c0 : Nat) (l0 : List Int) (r : Int) (w : World) (hr0 : Kd.C (Kd.int .i64) w A0 l0.length l0) (hc0 : l0.length ≤ c0) (h : cmp_Or_int.f k l0 = some r) :
  Calls Try.prog 163 #[.slice A0 l0.length c0] w fun e w' => e = .returned (.int .i64 r) ∧ Drawn0 w w' := by
 have HR0 := Qz.mk hr0
 have HC0 := Qz.mk hc0
 clear hr0 hc0
 have H : (cmp_Or_int.l0 k 0 l0 (l0.length : Int) 0) = some r := h
 clear h
 have H' := Qz.mk H
 clear H
 go_enter Try.func163, Try.ntmps163
 go_wp2
 go_loopg [8] k (fun kq v8 w' => ∃ (x8_1 : Int), v8 = .int .i64 x8_1 ∧ Qz (cmp_Or_int.l0 kq 0 l0 (l0.length : Int) x8_1 = some r) ∧ Qz (kq ≤ k) ∧ Drawn0 w w')
 case atStart => exact ⟨(0), (by first | rfl | (simp; done) | (simp [*]; done)), H', ⟨Nat.le_refl _⟩, by repeat (first | exact Drawn0.refl _ | apply Drawn0.step)⟩
 case round =>
  clear H'
  try clear c1
  obtain ⟨x8_1, rfl, HA, HK1, ⟨m1, rfl⟩⟩ := hrel
  cases gk with
  | zero => exact absurd HA.out (by simp [cmp_Or_int.l0])
  | succ k1 =>
   have H := HA.out
   clear HA
   simp only [cmp_Or_int.l0] at H
   by_cases c2 : x8_1 < (l0.length : Int)
   ·rw [if_pos c2] at H
    have c2b0 : decide (x8_1 < (l0.length : Int)) = true := decide_eq_true c2
    clear c2
    by_cases c3 : 0 ≤ x8_1
    ·rw [if_pos c3] at H
     have c3b0 : decide (0 ≤ x8_1) = true := decide_eq_true c3
     clear c3
     by_cases c4 : x8_1 < (l0.length : Int)
     ·rw [if_pos c4] at H
      have c4b0 : decide (x8_1 < (l0.length : Int)) = true := decide_eq_true c4
      clear c4
      by_cases c5 : (rd l0 x8_1) = 0
      ·rw [if_pos c5] at H
       have c5b0 : ((rd l0 x8_1) == 0) = true := beq_iff_eq.mpr c5
       have c5b1 : ((rd l0 x8_1) != 0) = false := bne_eq_false_iff_eq.mpr c5
       clear c5
       have H' := Qz.mk H
       clear H
       have p101 : 0 ≤ (x8_1 : Int) := of_decide_eq_true (by first | (with_reducible assumption) | assumption)
       have q101 : x8_1 < (l0.length : Int) := of_decide_eq_true (by first | (with_reducible assumption) | assumption)
       obtain ⟨ad101, e101, hx101_0⟩ := Kd.at_int HR0.out x8_1 p101 q101
       cases e101
       replace p101 := eq_true p101
       replace q101 := eq_true q101
       go_wp2
       go_roundg k1
       case measure => have := HK1.out; omega
       case rel => exact ⟨(wrap64 (x8_1 + 1)), (by first | rfl | (simp; done) | (simp [*]; done)), H', ⟨by have := HK1.out; omega⟩, by repeat (first | exact Drawn0.refl _ | apply Drawn0.step)⟩
      ·rw [if_neg c5] at H
       have c5b0 : ((rd l0 x8_1) == 0) = false := beq_eq_false_iff_ne.mpr c5
       have c5b1 : ((rd l0 x8_1) != 0) = true := bne_iff_ne.mpr c5
       obtain rfl := Option.some.inj H
       have p101 : 0 ≤ (x8_1 : Int) := of_decide_eq_true (by first | (with_reducible assumption) | assumption)
       have q101 : x8_1 < (l0.length : Int) := of_decide_eq_true (by first | (with_reducible assumption) | assumption)
       obtain ⟨ad101, e101, hx101_0⟩ := Kd.at_int HR0.out x8_1 p101 q101
       cases e101
       replace p101 := eq_true p101
       replace q101 := eq_true q101
       go_wp2
       go_ret
       exact ⟨by first | rfl | (simp; done) | (simp [*]; done), by repeat (first | exact Drawn0.refl _ | apply Drawn0.step)⟩
     ·rw [if_neg c4] at H
      exact absurd H (by simp)
    ·rw [if_neg c3] at H
     exact absurd H (by simp)
   ·rw [if_neg c2] at H
    have c2b0 : decide (x8_1 < (l0.length : Int)) = false := decide_eq_false c2
    clear c2
    obtain rfl := Option.some.inj H
    go_wp2
    go_ret
    exact ⟨by first | rfl | (simp; done) | (simp [*]; done), by repeat (first | exact Drawn0.refl _ | apply Drawn0.step)⟩
def cmp_isNaN_string.f (a0 : ByteArray) : Option (Bool) := some (a0.toList != a0.toList)
set_option maxHeartbeats 8000000 in
set_option maxRecDepth 100000 in
theorem cmp_isNaN_string.calls (a0 : ByteArray) (r : Bool) (w : World) (h : cmp_isNaN_string.f a0 = some r) :
  Calls Try.prog 189 #[.string a0] w fun e w' => e = .returned (.bool r) ∧ Drawn0 w w' := by
 have H : (some (a0.toList != a0.toList)) = some r := h
 clear h
 obtain rfl := Option.some.inj H
 go_enter Try.func189, Try.ntmps189
 go_wp2
 go_ret
 exact ⟨by first | rfl | (simp; done) | (simp [*]; done), by repeat (first | exact Drawn0.refl _ | apply Drawn0.step)⟩
theorem yq47 {P : Prop} (h : P := by (try simp only [List.map_toArray, List.map_cons, List.map_nil]); first | done | rfl) : P := h
def cmp_Compare_string.f (a0 : ByteArray) (a1 : ByteArray) : Option (Int) := (cmp_isNaN_string.f a0).bind fun t101 => ((cmp_isNaN_string.f a1).bind fun t102 => (if t101 = true then (if t102 = true then (some 0) else (some (-1))) else (if t102 = true then (some 1) else (if (Op.bytesLess a0.toList a1.toList) = true then (some (-1)) else (if (Op.bytesLess a1.toList a0.toList) = true then (some 1) else (some 0))))))
set_option maxHeartbeats 8000000 in
set_option maxRecDepth 100000 in
theorem cmp_Compare_string.calls (a0 : ByteArray) (a1 : ByteArray) (r : Int) (w : World) (h : cmp_Compare_string.f a0 a1 = some r) :
  Calls Try.prog 164 #[.string a0, .string a1] w fun e w' => e = .returned (.int .i64 r) ∧ Drawn0 w w' := by
 have H : ((cmp_isNaN_string.f a0).bind fun t101 => ((cmp_isNaN_string.f a1).bind fun t102 => (if t101 = true then (if t102 = true then (some 0) else (some (-1))) else (if t102 = true then (some 1) else (if (Op.bytesLess a0.toList a1.toList) = true then (some (-1)) else (if (Op.bytesLess a1.toList a0.toList) = true then (some 1) else (some 0))))))) = some r := h
 clear h
 replace H := Option.bind_eq_some_iff.mp H
 obtain ⟨t101, A30, H⟩ := H
 replace H : ((cmp_isNaN_string.f a1).bind fun t102 => (if t101 = true then (if t102 = true then (some 0) else (some (-1))) else (if t102 = true then (some 1) else (if (Op.bytesLess a0.toList a1.toList) = true then (some (-1)) else (if (Op.bytesLess a1.toList a0.toList) = true then (some 1) else (some 0)))))) = some r := H
 have A3 := Qz.mk A30
 clear A30
 replace H := Option.bind_eq_some_iff.mp H
 obtain ⟨t102, A40, H⟩ := H
 replace H : (if t101 = true then (if t102 = true then (some 0) else (some (-1))) else (if t102 = true then (some 1) else (if (Op.bytesLess a0.toList a1.toList) = true then (some (-1)) else (if (Op.bytesLess a1.toList a0.toList) = true then (some 1) else (some 0))))) = some r := H
 have A4 := Qz.mk A40
 clear A40
 by_cases c5 : t101 = true
 ·subst c5
  have H1 : (if t102 = true then (some 0) else (some (-1))) = some r := by rw [if_pos rfl] at H; exact H
  clear H
  have H := H1
  clear H1
  by_cases c6 : t102 = true
  ·subst c6
   have H1 : (some 0) = some r := by rw [if_pos rfl] at H; exact H
   clear H
   have H := H1
   clear H1
   obtain rfl := Option.some.inj H
   go_enter Try.func164, Try.ntmps164
   go_wp2_with (first | ((with_reducible refine qj (f := 189) rfl ?_); refine qt (some 8) rfl rfl Try.func189 (by kernel_rfl) rfl #[.string a0] rfl yq47 ?_; (with_reducible refine (cmp_isNaN_string.calls a0 true _ A3.out).mono ?_); rintro e w' ⟨rfl, ⟨nd, rfl⟩⟩; refine ⟨_, rfl, ?_⟩) | ((with_reducible refine qj (f := 189) rfl ?_); refine qt (some 10) rfl rfl Try.func189 (by kernel_rfl) rfl #[.string a1] rfl yq47 ?_; (with_reducible refine (cmp_isNaN_string.calls a1 true _ A4.out).mono ?_); rintro e w' ⟨rfl, ⟨nd, rfl⟩⟩; refine ⟨_, rfl, ?_⟩))
   go_ret
   exact ⟨by first | rfl | (simp; done) | (simp [*]; done), by repeat (first | exact Drawn0.refl _ | apply Drawn0.step)⟩
  ·replace c6 := Bool.eq_false_iff.mpr c6
   subst c6
   have H1 : (some (-1)) = some r := by rw [if_neg (show ¬ (false = true) by decide)] at H; exact H
   clear H
   have H := H1
   clear H1
   obtain rfl := Option.some.inj H
   go_enter Try.func164, Try.ntmps164
   go_wp2_with (first | ((with_reducible refine qj (f := 189) rfl ?_); refine qt (some 8) rfl rfl Try.func189 (by kernel_rfl) rfl #[.string a0] rfl yq47 ?_; (with_reducible refine (cmp_isNaN_string.calls a0 true _ A3.out).mono ?_); rintro e w' ⟨rfl, ⟨nd, rfl⟩⟩; refine ⟨_, rfl, ?_⟩) | ((with_reducible refine qj (f := 189) rfl ?_); refine qt (some 10) rfl rfl Try.func189 (by kernel_rfl) rfl #[.string a1] rfl yq47 ?_; (with_reducible refine (cmp_isNaN_string.calls a1 false _ A4.out).mono ?_); rintro e w' ⟨rfl, ⟨nd, rfl⟩⟩; refine ⟨_, rfl, ?_⟩))
   go_ret
   exact ⟨by first | rfl | (simp; done) | (simp [*]; done), by repeat (first | exact Drawn0.refl _ | apply Drawn0.step)⟩
 ·replace c5 := Bool.eq_false_iff.mpr c5
  subst c5
  have H1 : (if t102 = true then (some 1) else (if (Op.bytesLess a0.toList a1.toList) = true then (some (-1)) else (if (Op.bytesLess a1.toList a0.toList) = true then (some 1) else (some 0)))) = some r := by rw [if_neg (show ¬ (false = true) by decide)] at H; exact H
  clear H
  have H := H1
  clear H1
  by_cases c7 : t102 = true
  ·subst c7
   have H1 : (some 1) = some r := by rw [if_pos rfl] at H; exact H
   clear H
   have H := H1
   clear H1
   obtain rfl := Option.some.inj H
   go_enter Try.func164, Try.ntmps164
   go_wp2_with (first | ((with_reducible refine qj (f := 189) rfl ?_); refine qt (some 8) rfl rfl Try.func189 (by kernel_rfl) rfl #[.string a0] rfl yq47 ?_; (with_reducible refine (cmp_isNaN_string.calls a0 false _ A3.out).mono ?_); rintro e w' ⟨rfl, ⟨nd, rfl⟩⟩; refine ⟨_, rfl, ?_⟩) | ((with_reducible refine qj (f := 189) rfl ?_); refine qt (some 10) rfl rfl Try.func189 (by kernel_rfl) rfl #[.string a1] rfl yq47 ?_; (with_reducible refine (cmp_isNaN_string.calls a1 true _ A4.out).mono ?_); rintro e w' ⟨rfl, ⟨nd, rfl⟩⟩; refine ⟨_, rfl, ?_⟩))
   go_ret
   exact ⟨by first | rfl | (simp; done) | (simp [*]; done), by repeat (first | exact Drawn0.refl _ | apply Drawn0.step)⟩
  ·replace c7 := Bool.eq_false_iff.mpr c7
   subst c7
   have H1 : (if (Op.bytesLess a0.toList a1.toList) = true then (some (-1)) else (if (Op.bytesLess a1.toList a0.toList) = true then (some 1) else (some 0))) = some r := by rw [if_neg (show ¬ (false = true) by decide)] at H; exact H
   clear H
   have H := H1
   clear H1
   by_cases c8 : (Op.bytesLess a0.toList a1.toList) = true
   ·rw [if_pos c8] at H
    have c8b0 : (Op.bytesLess a0.toList a1.toList) = true := c8
    clear c8
    obtain rfl := Option.some.inj H
    go_enter Try.func164, Try.ntmps164
    go_wp2_with (first | ((with_reducible refine qj (f := 189) rfl ?_); refine qt (some 8) rfl rfl Try.func189 (by kernel_rfl) rfl #[.string a0] rfl yq47 ?_; (with_reducible refine (cmp_isNaN_string.calls a0 false _ A3.out).mono ?_); rintro e w' ⟨rfl, ⟨nd, rfl⟩⟩; refine ⟨_, rfl, ?_⟩) | ((with_reducible refine qj (f := 189) rfl ?_); refine qt (some 10) rfl rfl Try.func189 (by kernel_rfl) rfl #[.string a1] rfl yq47 ?_; (with_reducible refine (cmp_isNaN_string.calls a1 false _ A4.out).mono ?_); rintro e w' ⟨rfl, ⟨nd, rfl⟩⟩; refine ⟨_, rfl, ?_⟩))
    go_ret
    exact ⟨by first | rfl | (simp; done) | (simp [*]; done), by repeat (first | exact Drawn0.refl _ | apply Drawn0.step)⟩
   ·rw [if_neg c8] at H
    have c8b0 : (Op.bytesLess a0.toList a1.toList) = false := by simpa using c8
    clear c8
    by_cases c9 : (Op.bytesLess a1.toList a0.toList) = true
    ·rw [if_pos c9] at H
     have c9b0 : (Op.bytesLess a1.toList a0.toList) = true := c9
     clear c9
     obtain rfl := Option.some.inj H
     go_enter Try.func164, Try.ntmps164
     go_wp2_with (first | ((with_reducible refine qj (f := 189) rfl ?_); refine qt (some 8) rfl rfl Try.func189 (by kernel_rfl) rfl #[.string a0] rfl yq47 ?_; (with_reducible refine (cmp_isNaN_string.calls a0 false _ A3.out).mono ?_); rintro e w' ⟨rfl, ⟨nd, rfl⟩⟩; refine ⟨_, rfl, ?_⟩) | ((with_reducible refine qj (f := 189) rfl ?_); refine qt (some 10) rfl rfl Try.func189 (by kernel_rfl) rfl #[.string a1] rfl yq47 ?_; (with_reducible refine (cmp_isNaN_string.calls a1 false _ A4.out).mono ?_); rintro e w' ⟨rfl, ⟨nd, rfl⟩⟩; refine ⟨_, rfl, ?_⟩))
     go_ret
     exact ⟨by first | rfl | (simp; done) | (simp [*]; done), by repeat (first | exact Drawn0.refl _ | apply Drawn0.step)⟩
    ·rw [if_neg c9] at H
     have c9b0 : (Op.bytesLess a1.toList a0.toList) = false := by simpa using c9
     clear c9
     obtain rfl := Option.some.inj H
     go_enter Try.func164, Try.ntmps164
     go_wp2_with (first | ((with_reducible refine qj (f := 189) rfl ?_); refine qt (some 8) rfl rfl Try.func189 (by kernel_rfl) rfl #[.string a0] rfl yq47 ?_; (with_reducible refine (cmp_isNaN_string.calls a0 false _ A3.out).mono ?_); rintro e w' ⟨rfl, ⟨nd, rfl⟩⟩; refine ⟨_, rfl, ?_⟩) | ((with_reducible refine qj (f := 189) rfl ?_); refine qt (some 10) rfl rfl Try.func189 (by kernel_rfl) rfl #[.string a1] rfl yq47 ?_; (with_reducible refine (cmp_isNaN_string.calls a1 false _ A4.out).mono ?_); rintro e w' ⟨rfl, ⟨nd, rfl⟩⟩; refine ⟨_, rfl, ?_⟩))
     go_ret
     exact ⟨by first | rfl | (simp; done) | (simp [*]; done), by repeat (first | exact Drawn0.refl _ | apply Drawn0.step)⟩
def cmp_isNaN_int64.f (a0 : Int) : Option (Bool) := some (a0 != a0)
set_option maxHeartbeats 8000000 in
set_option maxRecDepth 100000 in
theorem cmp_isNaN_int64.calls (a0 : Int) (r : Bool) (w : World) (h : cmp_isNaN_int64.f a0 = some r) :
  Calls Try.prog 190 #[.int .i64 a0] w fun e w' => e = .returned (.bool r) ∧ Drawn0 w w' := by
 have H : (some (a0 != a0)) = some r := h
 clear h
 obtain rfl := Option.some.inj H
 go_enter Try.func190, Try.ntmps190
 go_wp2
 go_ret
 exact ⟨by first | rfl | (simp; done) | (simp [*]; done), by repeat (first | exact Drawn0.refl _ | apply Drawn0.step)⟩
theorem yq48 {P : Prop} (h : P := by (try simp only [List.map_toArray, List.map_cons, List.map_nil]); first | done | rfl) : P := h
def cmp_Compare_int64.f (a0 : Int) (a1 : Int) : Option (Int) := (cmp_isNaN_int64.f a0).bind fun t101 => ((cmp_isNaN_int64.f a1).bind fun t102 => (if t101 = true then (if t102 = true then (some 0) else (some (-1))) else (if t102 = true then (some 1) else (if a0 < a1 then (some (-1)) else (if a0 > a1 then (some 1) else (some 0))))))
set_option maxHeartbeats 8000000 in
set_option maxRecDepth 100000 in
theorem cmp_Compare_int64.calls (a0 : Int) (a1 : Int) (r : Int) (w : World) (h : cmp_Compare_int64.f a0 a1 = some r) :
  Calls Try.prog 165 #[.int .i64 a0, .int .i64 a1] w fun e w' => e = .returned (.int .i64 r) ∧ Drawn0 w w' := by
 have H : ((cmp_isNaN_int64.f a0).bind fun t101 => ((cmp_isNaN_int64.f a1).bind fun t102 => (if t101 = true then (if t102 = true then (some 0) else (some (-1))) else (if t102 = true then (some 1) else (if a0 < a1 then (some (-1)) else (if a0 > a1 then (some 1) else (some 0))))))) = some r := h
 clear h
 replace H := Option.bind_eq_some_iff.mp H
 obtain ⟨t101, A30, H⟩ := H
 replace H : ((cmp_isNaN_int64.f a1).bind fun t102 => (if t101 = true then (if t102 = true then (some 0) else (some (-1))) else (if t102 = true then (some 1) else (if a0 < a1 then (some (-1)) else (if a0 > a1 then (some 1) else (some 0)))))) = some r := H
 have A3 := Qz.mk A30
 clear A30
 replace H := Option.bind_eq_some_iff.mp H
 obtain ⟨t102, A40, H⟩ := H
 replace H : (if t101 = true then (if t102 = true then (some 0) else (some (-1))) else (if t102 = true then (some 1) else (if a0 < a1 then (some (-1)) else (if a0 > a1 then (some 1) else (some 0))))) = some r := H
 have A4 := Qz.mk A40
 clear A40
 by_cases c5 : t101 = true
 ·subst c5
  have H1 : (if t102 = true then (some 0) else (some (-1))) = some r := by rw [if_pos rfl] at H; exact H
  clear H
  have H := H1
  clear H1
  by_cases c6 : t102 = true
  ·subst c6
   have H1 : (some 0) = some r := by rw [if_pos rfl] at H; exact H
   clear H
   have H := H1
   clear H1
   obtain rfl := Option.some.inj H
   go_enter Try.func165, Try.ntmps165
   go_wp2_with (first | ((with_reducible refine qj (f := 190) rfl ?_); refine qt (some 8) rfl rfl Try.func190 (by kernel_rfl) rfl #[.int .i64 a0] rfl yq48 ?_; (with_reducible refine (cmp_isNaN_int64.calls a0 true _ A3.out).mono ?_); rintro e w' ⟨rfl, ⟨nd, rfl⟩⟩; refine ⟨_, rfl, ?_⟩) | ((with_reducible refine qj (f := 190) rfl ?_); refine qt (some 10) rfl rfl Try.func190 (by kernel_rfl) rfl #[.int .i64 a1] rfl yq48 ?_; (with_reducible refine (cmp_isNaN_int64.calls a1 true _ A4.out).mono ?_); rintro e w' ⟨rfl, ⟨nd, rfl⟩⟩; refine ⟨_, rfl, ?_⟩))
   go_ret
   exact ⟨by first | rfl | (simp; done) | (simp [*]; done), by repeat (first | exact Drawn0.refl _ | apply Drawn0.step)⟩
  ·replace c6 := Bool.eq_false_iff.mpr c6
   subst c6
   have H1 : (some (-1)) = some r := by rw [if_neg (show ¬ (false = true) by decide)] at H; exact H
   clear H
   have H := H1
   clear H1
   obtain rfl := Option.some.inj H
   go_enter Try.func165, Try.ntmps165
   go_wp2_with (first | ((with_reducible refine qj (f := 190) rfl ?_); refine qt (some 8) rfl rfl Try.func190 (by kernel_rfl) rfl #[.int .i64 a0] rfl yq48 ?_; (with_reducible refine (cmp_isNaN_int64.calls a0 true _ A3.out).mono ?_); rintro e w' ⟨rfl, ⟨nd, rfl⟩⟩; refine ⟨_, rfl, ?_⟩) | ((with_reducible refine qj (f := 190) rfl ?_); refine qt (some 10) rfl rfl Try.func190 (by kernel_rfl) rfl #[.int .i64 a1] rfl yq48 ?_; (with_reducible refine (cmp_isNaN_int64.calls a1 false _ A4.out).mono ?_); rintro e w' ⟨rfl, ⟨nd, rfl⟩⟩; refine ⟨_, rfl, ?_⟩))
   go_ret
   exact ⟨by first | rfl | (simp; done) | (simp [*]; done), by repeat (first | exact Drawn0.refl _ | apply Drawn0.step)⟩
 ·replace c5 := Bool.eq_false_iff.mpr c5
  subst c5
  have H1 : (if t102 = true then (some 1) else (if a0 < a1 then (some (-1)) else (if a0 > a1 then (some 1) else (some 0)))) = some r := by rw [if_neg (show ¬ (false = true) by decide)] at H; exact H
  clear H
  have H := H1
  clear H1
  by_cases c7 : t102 = true
  ·subst c7
   have H1 : (some 1) = some r := by rw [if_pos rfl] at H; exact H
   clear H
   have H := H1
   clear H1
   obtain rfl := Option.some.inj H
   go_enter Try.func165, Try.ntmps165
   go_wp2_with (first | ((with_reducible refine qj (f := 190) rfl ?_); refine qt (some 8) rfl rfl Try.func190 (by kernel_rfl) rfl #[.int .i64 a0] rfl yq48 ?_; (with_reducible refine (cmp_isNaN_int64.calls a0 false _ A3.out).mono ?_); rintro e w' ⟨rfl, ⟨nd, rfl⟩⟩; refine ⟨_, rfl, ?_⟩) | ((with_reducible refine qj (f := 190) rfl ?_); refine qt (some 10) rfl rfl Try.func190 (by kernel_rfl) rfl #[.int .i64 a1] rfl yq48 ?_; (with_reducible refine (cmp_isNaN_int64.calls a1 true _ A4.out).mono ?_); rintro e w' ⟨rfl, ⟨nd, rfl⟩⟩; refine ⟨_, rfl, ?_⟩))
   go_ret
   exact ⟨by first | rfl | (simp; done) | (simp [*]; done), by repeat (first | exact Drawn0.refl _ | apply Drawn0.step)⟩
  ·replace c7 := Bool.eq_false_iff.mpr c7
   subst c7
   have H1 : (if a0 < a1 then (some (-1)) else (if a0 > a1 then (some 1) else (some 0))) = some r := by rw [if_neg (show ¬ (false = true) by decide)] at H; exact H
   clear H
   have H := H1
   clear H1
   by_cases c8 : a0 < a1
   ·rw [if_pos c8] at H
    have c8b0 : decide (a0 < a1) = true := decide_eq_true c8
    clear c8
    obtain rfl := Option.some.inj H
    go_enter Try.func165, Try.ntmps165
    go_wp2_with (first | ((with_reducible refine qj (f := 190) rfl ?_); refine qt (some 8) rfl rfl Try.func190 (by kernel_rfl) rfl #[.int .i64 a0] rfl yq48 ?_; (with_reducible refine (cmp_isNaN_int64.calls a0 false _ A3.out).mono ?_); rintro e w' ⟨rfl, ⟨nd, rfl⟩⟩; refine ⟨_, rfl, ?_⟩) | ((with_reducible refine qj (f := 190) rfl ?_); refine qt (some 10) rfl rfl Try.func190 (by kernel_rfl) rfl #[.int .i64 a1] rfl yq48 ?_; (with_reducible refine (cmp_isNaN_int64.calls a1 false _ A4.out).mono ?_); rintro e w' ⟨rfl, ⟨nd, rfl⟩⟩; refine ⟨_, rfl, ?_⟩))
    go_ret
    exact ⟨by first | rfl | (simp; done) | (simp [*]; done), by repeat (first | exact Drawn0.refl _ | apply Drawn0.step)⟩
   ·rw [if_neg c8] at H
    have c8b0 : decide (a0 < a1) = false := decide_eq_false c8
    clear c8
    by_cases c9 : a0 > a1
    ·rw [if_pos c9] at H
     have c9b0 : decide (a1 < a0) = true := decide_eq_true c9
     clear c9
     obtain rfl := Option.some.inj H
     go_enter Try.func165, Try.ntmps165
     go_wp2_with (first | ((with_reducible refine qj (f := 190) rfl ?_); refine qt (some 8) rfl rfl Try.func190 (by kernel_rfl) rfl #[.int .i64 a0] rfl yq48 ?_; (with_reducible refine (cmp_isNaN_int64.calls a0 false _ A3.out).mono ?_); rintro e w' ⟨rfl, ⟨nd, rfl⟩⟩; refine ⟨_, rfl, ?_⟩) | ((with_reducible refine qj (f := 190) rfl ?_); refine qt (some 10) rfl rfl Try.func190 (by kernel_rfl) rfl #[.int .i64 a1] rfl yq48 ?_; (with_reducible refine (cmp_isNaN_int64.calls a1 false _ A4.out).mono ?_); rintro e w' ⟨rfl, ⟨nd, rfl⟩⟩; refine ⟨_, rfl, ?_⟩))
     go_ret
     exact ⟨by first | rfl | (simp; done) | (simp [*]; done), by repeat (first | exact Drawn0.refl _ | apply Drawn0.step)⟩
    ·rw [if_neg c9] at H
     have c9b0 : decide (a1 < a0) = false := decide_eq_false c9
     clear c9
     obtain rfl := Option.some.inj H
     go_enter Try.func165, Try.ntmps165
     go_wp2_with (first | ((with_reducible refine qj (f := 190) rfl ?_); refine qt (some 8) rfl rfl Try.func190 (by kernel_rfl) rfl #[.int .i64 a0] rfl yq48 ?_; (with_reducible refine (cmp_isNaN_int64.calls a0 false _ A3.out).mono ?_); rintro e w' ⟨rfl, ⟨nd, rfl⟩⟩; refine ⟨_, rfl, ?_⟩) | ((with_reducible refine qj (f := 190) rfl ?_); refine qt (some 10) rfl rfl Try.func190 (by kernel_rfl) rfl #[.int .i64 a1] rfl yq48 ?_; (with_reducible refine (cmp_isNaN_int64.calls a1 false _ A4.out).mono ?_); rintro e w' ⟨rfl, ⟨nd, rfl⟩⟩; refine ⟨_, rfl, ?_⟩))
     go_ret
     exact ⟨by first | rfl | (simp; done) | (simp [*]; done), by repeat (first | exact Drawn0.refl _ | apply Drawn0.step)⟩
theorem yq49 {P : Prop} (h : P := by (with_reducible repeat (first | refine qg ?_ _ | refine qi ?_ | refine qh ?_ _)); exact BK101.out) : P := h
def impl_cmpKeys.f (k : Nat) (a0_0 : ByteArray) (a0_1 : Int) (a0_2 : Int) (a1_0 : ByteArray) (a1_1 : Int) (a1_2 : Int) : Option (Int) := (cmp_Compare_string.f a0_0 a1_0).bind fun t103 => ((cmp_Compare_int64.f a1_1 a0_1).bind fun t104 => ((cmp_Compare_int64.f a1_2 a0_2).bind fun t105 => ((cmp_Or_int.f k (([t103, t104, t105] : List Int))).bind fun t109 => (some t109))))
def impl_cmpKeys.T1 : Bool × List (List Nat × List Nat) := (true, [([], []), ([0], [0]), ([], []), ([2], [2]), ([1, 3], [1, 3]), ([], []), ([5], [5]), ([], []), ([7], [7]), ([6, 8, 4], [6, 8]), ([], []), ([10], [10]), ([], []), ([12], [12]), ([11, 13, 9], [11, 13]), ([4, 9, 14], [4, 9, 14]), ([15, 14], [15]), ([16, 16, 0, 1, 2, 3, 4, 5, 6, 7, 8, 9, 10, 11, 12, 13, 14, 15, 16], [16])])
def impl_cmpKeys.B1 : List Nat := [0, 1, 0, 4, 15, 0, 32, 0, 128, 511, 0, 1024, 0, 4096, 16383, 32767, 65535, 131071]
theorem impl_cmpKeys.tab1 : rtab .any (opsOf Try.f109 1) = impl_cmpKeys.T1 := by kernel_rfl
theorem impl_cmpKeys.bits1 : waitsOk impl_cmpKeys.T1.2 impl_cmpKeys.B1 = true := by kernel_rfl
set_option maxHeartbeats 8000000 in
set_option maxRecDepth 100000 in
theorem impl_cmpKeys.calls (k : Nat) (a0_0 : ByteArray) (a0_1 : Int) (a0_2 : Int) (a1_0 : ByteArray) (a1_1 : Int) (a1_2 : Int) (r : Int) (w : World) (h : impl_cmpKeys.f k a0_0 a0_1 a0_2 a1_0 a1_1 a1_2 = some r) :
  Calls Try.prog 109 #[.agg #[.string a0_0, .int .i64 a0_1, .int .i64 a0_2], .agg #[.string a1_0, .int .i64 a1_1, .int .i64 a1_2]] w fun e w' => e = .returned (.int .i64 r) ∧ Below w.heap.size w w' := by
 have hu35 := Try.underlying35
 have HB := Qz.mk (Below.refl w.heap.size w)
 have H : ((cmp_Compare_string.f a0_0 a1_0).bind fun t103 => ((cmp_Compare_int64.f a1_1 a0_1).bind fun t104 => ((cmp_Compare_int64.f a1_2 a0_2).bind fun t105 => ((cmp_Or_int.f k (([t103, t104, t105] : List Int))).bind fun t109 => (some t109))))) = some r := h
 clear h
 replace H := Option.bind_eq_some_iff.mp H
 obtain ⟨t103, A30, H⟩ := H
 replace H : ((cmp_Compare_int64.f a1_1 a0_1).bind fun t104 => ((cmp_Compare_int64.f a1_2 a0_2).bind fun t105 => ((cmp_Or_int.f k (([t103, t104, t105] : List Int))).bind fun t109 => (some t109)))) = some r := H
 have A3 := Qz.mk A30
 clear A30
 replace H := Option.bind_eq_some_iff.mp H
 obtain ⟨t104, A40, H⟩ := H
 replace H : ((cmp_Compare_int64.f a1_2 a0_2).bind fun t105 => ((cmp_Or_int.f k (([t103, t104, t105] : List Int))).bind fun t109 => (some t109))) = some r := H
 have A4 := Qz.mk A40
 clear A40
 replace H := Option.bind_eq_some_iff.mp H
 obtain ⟨t105, A50, H⟩ := H
 replace H : ((cmp_Or_int.f k (([t103, t104, t105] : List Int))).bind fun t109 => (some t109)) = some r := H
 have A5 := Qz.mk A50
 clear A50
 obtain ⟨y106, hy106⟩ : ∃ y_ : List Int, y_ = (([t103, t104, t105] : List Int)) := ⟨_, rfl⟩
 replace H : ((cmp_Or_int.f k y106).bind fun t109 => (some t109)) = some r := by first | (rw [hy106]; with_reducible exact H) | (have H2_ := (Option.bind_some _ _).symm.trans H; rw [hy106]; with_reducible exact H2_) | (have H2_ := (Option.bind_some _ _).symm.trans H; with_reducible exact H2_) | with_reducible exact H | (rw [hy106]; exact H) | exact H
 have Ny106 := Qz.mk hy106
 clear hy106
 replace H := Option.bind_eq_some_iff.mp H
 obtain ⟨t109, A60, H⟩ := H
 replace H : (some t109) = some r := H
 have A6 := Qz.mk A60
 clear A60
 obtain rfl := Option.some.inj H
 go_enter Try.func109, Try.ntmps109
 try go_wp2_with (first | ((with_reducible refine qb1 (N := 2) rfl ?_); refine qz ?hg (N := 2) ?hd (cs := #[.string a0_0, .int .i64 a0_1, .int .i64 a0_2]) (t := 35) ?hr ?_; (case hd => rfl); (case hg => rfl); (case hr => first | (go_simp; done) | (go_simp; rfl)); intro gb101 hg w7 hbox hb; have BK101 := Qz.mk (hbox); have GW101 := Qz.mk ((by rw [hg]; exact (qv (by repeat (first | (with_reducible first | exact HB.out | apply qc | apply qa | apply qb) | exact HB.out))) : w.heap.size ≤ gb101)); have GE101 := GW101; replace HB := Qz.mk (ql (by repeat (first | (with_reducible first | exact HB.out | apply qc | apply qa | apply qb) | exact HB.out)) hb); clear hb hbox hg) | ((with_reducible refine qb1 (N := 3) rfl ?_); refine qz ?hg (N := 3) ?hd (cs := #[.string a1_0, .int .i64 a1_1, .int .i64 a1_2]) (t := 35) ?hr ?_; (case hd => rfl); (case hg => rfl); (case hr => first | (go_simp; done) | (go_simp; rfl)); intro gb102 hg w8 hbox hb; have BK102 := Qz.mk (hbox); have GW102 := Qz.mk ((by rw [hg]; exact (qv (by repeat (first | (with_reducible first | exact HB.out | apply qc | apply qa | apply qb | refine qd ?_ GE101.out) | exact HB.out))) : w.heap.size ≤ gb102)); have GE102 := GW102; replace HB := Qz.mk (ql (by repeat (first | (with_reducible first | exact HB.out | apply qc | apply qa | apply qb | refine qd ?_ GE101.out) | exact HB.out)) hb); have NB101_102 := Qz.mk ((by rw [hg]; exact Nat.ne_of_lt (blk_lt (g := gb101) (o := .cells #[.string a0_0, .int .i64 a0_1, .int .i64 a0_2] 35 (0, 0)) yq49) : gb101 ≠ gb102)); have NB102_101 := Qz.mk ((by rw [hg]; exact Nat.ne_of_gt (blk_lt (g := gb101) (o := .cells #[.string a0_0, .int .i64 a0_1, .int .i64 a0_2] 35 (0, 0)) yq49) : gb102 ≠ gb101)); replace BK101 := Qz.mk (qu (g := gb101) (o := .cells #[.string a0_0, .int .i64 a0_1, .int .i64 a0_2] 35 (0, 0)) yq49 hb); clear hb hbox hg))
 replace BK101 := Qz.mk (qi BK101.out)
 replace BK102 := Qz.mk (qi BK102.out)
 replace HB := Qz.mk (qb HB.out)
 refine start_ (n := 18) (S := fun w' => w'.cell? ⟨gb101, 0, none⟩ = some (.string a0_0) ∧ w'.cell? ⟨gb101, 1, none⟩ = some (.int .i64 a0_1) ∧ w'.cell? ⟨gb101, 2, none⟩ = some (.int .i64 a0_2) ∧ w'.cell? ⟨gb102, 0, none⟩ = some (.string a1_0) ∧ w'.cell? ⟨gb102, 1, none⟩ = some (.int .i64 a1_1) ∧ w'.cell? ⟨gb102, 2, none⟩ = some (.int .i64 a1_2)) (ds := []) bq2 (by kernel_rfl) rfl rfl ⟨(qf BK101.out 0).trans rfl, (qf BK101.out 1).trans rfl, (qf BK101.out 2).trans rfl, (qf BK102.out 0).trans rfl, (qf BK102.out 1).trans rfl, (qf BK102.out 2).trans rfl⟩ (fun hHeld => ?_); refine with_tabW impl_cmpKeys.tab1 impl_cmpKeys.bits1 (fun HT_ HW_ => ?_)
 generalize w8.drew = w9 at BK101 BK102 HB hHeld ⊢
 refine pure_ (i := 0) (N := some 5) (v := ?_) (a' := ?_) bq8 rfl rfl (qr HT_.out (by kernel_rfl)) (fun _ _ _ h => h) (Or.inl ⟨by rfl, ?_⟩) ?_ ?_
 rotate_left
 ·intro w'
  go_simp
  with_reducible rfl
 rotate_left
 ·simp only [Act.put, sq1, sq2, sq3, i64_w, i32_w]
  rfl
 refine pure_ (i := 2) (N := some 7) (v := ?_) (a' := ?_) #[true, false, true, false, false, false, false, false, false, false, false, false, false, false, false, false, false, false] rfl rfl (qr HT_.out (by kernel_rfl)) (fun _ _ _ h => h) (Or.inl ⟨by rfl, ?_⟩) ?_ ?_
 rotate_left
 ·intro w'
  go_simp
  with_reducible rfl
 rotate_left
 ·simp only [Act.put, sq1, sq2, sq3, i64_w, i32_w]
  rfl
 refine pure_ (i := 5) (N := some 10) (v := ?_) (a' := ?_) #[true, false, true, false, false, true, false, false, false, false, false, false, false, false, false, false, false, false] rfl rfl (qr HT_.out (by kernel_rfl)) (fun _ _ _ h => h) (Or.inl ⟨by rfl, ?_⟩) ?_ ?_
 rotate_left
 ·intro w'
  go_simp
  with_reducible rfl
 rotate_left
 ·simp only [Act.put, sq1, sq2, sq3, i64_w, i32_w]
  rfl
 refine pure_ (i := 7) (N := some 12) (v := ?_) (a' := ?_) #[true, false, true, false, false, true, false, true, false, false, false, false, false, false, false, false, false, false] rfl rfl (qr HT_.out (by kernel_rfl)) (fun _ _ _ h => h) (Or.inl ⟨by rfl, ?_⟩) ?_ ?_
 rotate_left
 ·intro w'
  go_simp
  with_reducible rfl
 rotate_left
 ·simp only [Act.put, sq1, sq2, sq3, i64_w, i32_w]
  rfl
 refine pure_ (i := 10) (N := some 15) (v := ?_) (a' := ?_) #[true, false, true, false, false, true, false, true, false, false, true, false, false, false, false, false, false, false] rfl rfl (qr HT_.out (by kernel_rfl)) (fun _ _ _ h => h) (Or.inl ⟨by rfl, ?_⟩) ?_ ?_
 rotate_left
 ·intro w'
  go_simp
  with_reducible rfl
 rotate_left
 ·simp only [Act.put, sq1, sq2, sq3, i64_w, i32_w]
  rfl
 refine pure_ (i := 12) (N := some 17) (v := ?_) (a' := ?_) #[true, false, true, false, false, true, false, true, false, false, true, false, true, false, false, false, false, false] rfl rfl (qr HT_.out (by kernel_rfl)) (fun _ _ _ h => h) (Or.inl ⟨by rfl, ?_⟩) ?_ ?_
 rotate_left
 ·intro w'
  go_simp
  with_reducible rfl
 rotate_left
 ·simp only [Act.put, sq1, sq2, sq3, i64_w, i32_w]
  rfl
 refine take_ (i := 1) (N := some 6) (v := ?_) (a' := ?_) #[true, true, true, false, false, true, false, true, false, false, true, false, true, false, false, false, false, false] rfl rfl (take_ofW HT_.out HW_.out (by kernel_rfl)) (fun _ _ _ h => h) (Or.inl ⟨by rfl, ?_⟩) hHeld ?_ ?_
 rotate_left
 ·rintro w' ⟨s0, s1, s2, s3, s4, s5⟩
  go_simp
  with_reducible rfl
 rotate_left
 ·simp only [Act.put, sq1, sq2, sq3, i64_w, i32_w]
  rfl
 refine take_ (i := 3) (N := some 8) (v := ?_) (a' := ?_) #[true, true, true, true, false, true, false, true, false, false, true, false, true, false, false, false, false, false] rfl rfl (take_ofW HT_.out HW_.out (by kernel_rfl)) (fun _ _ _ h => h) (Or.inl ⟨by rfl, ?_⟩) hHeld ?_ ?_
 rotate_left
 ·rintro w' ⟨s0, s1, s2, s3, s4, s5⟩
  go_simp
  with_reducible rfl
 rotate_left
 ·simp only [Act.put, sq1, sq2, sq3, i64_w, i32_w]
  rfl
 refine take_ (i := 6) (N := some 11) (v := ?_) (a' := ?_) #[true, true, true, true, false, true, true, true, false, false, true, false, true, false, false, false, false, false] rfl rfl (take_ofW HT_.out HW_.out (by kernel_rfl)) (fun _ _ _ h => h) (Or.inl ⟨by rfl, ?_⟩) hHeld ?_ ?_
 rotate_left
 ·rintro w' ⟨s0, s1, s2, s3, s4, s5⟩
  go_simp
  with_reducible rfl
 rotate_left
 ·simp only [Act.put, sq1, sq2, sq3, i64_w, i32_w]
  rfl
 refine take_ (i := 8) (N := some 13) (v := ?_) (a' := ?_) #[true, true, true, true, false, true, true, true, true, false, true, false, true, false, false, false, false, false] rfl rfl (take_ofW HT_.out HW_.out (by kernel_rfl)) (fun _ _ _ h => h) (Or.inl ⟨by rfl, ?_⟩) hHeld ?_ ?_
 rotate_left
 ·rintro w' ⟨s0, s1, s2, s3, s4, s5⟩
  go_simp
  with_reducible rfl
 rotate_left
 ·simp only [Act.put, sq1, sq2, sq3, i64_w, i32_w]
  rfl
 refine take_ (i := 11) (N := some 16) (v := ?_) (a' := ?_) #[true, true, true, true, false, true, true, true, true, false, true, true, true, false, false, false, false, false] rfl rfl (take_ofW HT_.out HW_.out (by kernel_rfl)) (fun _ _ _ h => h) (Or.inl ⟨by rfl, ?_⟩) hHeld ?_ ?_
 rotate_left
 ·rintro w' ⟨s0, s1, s2, s3, s4, s5⟩
  go_simp
  with_reducible rfl
 rotate_left
 ·simp only [Act.put, sq1, sq2, sq3, i64_w, i32_w]
  rfl
 refine take_ (i := 13) (N := some 18) (v := ?_) (a' := ?_) #[true, true, true, true, false, true, true, true, true, false, true, true, true, true, false, false, false, false] rfl rfl (take_ofW HT_.out HW_.out (by kernel_rfl)) (fun _ _ _ h => h) (Or.inl ⟨by rfl, ?_⟩) hHeld ?_ ?_
 rotate_left
 ·rintro w' ⟨s0, s1, s2, s3, s4, s5⟩
  go_simp
  with_reducible rfl
 rotate_left
 ·simp only [Act.put, sq1, sq2, sq3, i64_w, i32_w]
  rfl
 refine one_ (i := 4) (N := some 9) #[true, true, true, true, true, true, true, true, true, false, true, true, true, true, false, false, false, false] rfl rfl (one_of HT_.out (by kernel_rfl)) (by decide) (fun K hK => ?_)
 refine goes_ Try.func164 (by kernel_rfl) rfl #[.string a0_0, .string a1_0] (by rfl) rfl rfl (by (try simp only [List.map_toArray, List.map_cons, List.map_nil]); first | done | rfl) ?_
 with_reducible refine (cmp_Compare_string.calls a0_0 a1_0 t103 _ A3.out).mono ?_
 rintro e w' ⟨rfl, ⟨nd, rfl⟩⟩
 refine ⟨_, rfl, ?_⟩
 refine hK.out _ _ ⟨(qf BK101.out 0).trans rfl, (qf BK101.out 1).trans rfl, (qf BK101.out 2).trans rfl, (qf BK102.out 0).trans rfl, (qf BK102.out 1).trans rfl, (qf BK102.out 2).trans rfl⟩ (fun hHeld => ?_)
 clear hK K
 refine norm_ (a' := ?_) ?_ ?_
 rotate_left
 ·show Act.put _ (some 9) _ = _
  simp only [Act.put, sq1, sq2, sq3, i64_w, i32_w]
  rfl
 refine one_ (i := 9) (N := some 14) #[true, true, true, true, true, true, true, true, true, true, true, true, true, true, false, false, false, false] rfl rfl (one_of HT_.out (by kernel_rfl)) (by decide) (fun K hK => ?_)
 refine goes_ Try.func165 (by kernel_rfl) rfl #[.int .i64 a1_1, .int .i64 a0_1] (by rfl) rfl rfl (by (try simp only [List.map_toArray, List.map_cons, List.map_nil]); first | done | rfl) ?_
 with_reducible refine (cmp_Compare_int64.calls a1_1 a0_1 t104 _ A4.out).mono ?_
 rintro e w' ⟨rfl, ⟨nd, rfl⟩⟩
 refine ⟨_, rfl, ?_⟩
 refine hK.out _ _ ⟨(qf BK101.out 0).trans rfl, (qf BK101.out 1).trans rfl, (qf BK101.out 2).trans rfl, (qf BK102.out 0).trans rfl, (qf BK102.out 1).trans rfl, (qf BK102.out 2).trans rfl⟩ (fun hHeld => ?_)
 clear hK K
 refine norm_ (a' := ?_) ?_ ?_
 rotate_left
 ·show Act.put _ (some 14) _ = _
  simp only [Act.put, sq1, sq2, sq3, i64_w, i32_w]
  rfl
 refine one_ (i := 14) (N := some 19) bq97 rfl rfl (one_of HT_.out (by kernel_rfl)) (by decide) (fun K hK => ?_)
 refine goes_ Try.func165 (by kernel_rfl) rfl #[.int .i64 a1_2, .int .i64 a0_2] (by rfl) rfl rfl (by (try simp only [List.map_toArray, List.map_cons, List.map_nil]); first | done | rfl) ?_
 with_reducible refine (cmp_Compare_int64.calls a1_2 a0_2 t105 _ A5.out).mono ?_
 rintro e w' ⟨rfl, ⟨nd, rfl⟩⟩
 refine ⟨_, rfl, ?_⟩
 refine hK.out _ _ ⟨(qf BK101.out 0).trans rfl, (qf BK101.out 1).trans rfl, (qf BK101.out 2).trans rfl, (qf BK102.out 0).trans rfl, (qf BK102.out 1).trans rfl, (qf BK102.out 2).trans rfl⟩ (fun hHeld => ?_)
 clear hK K
 refine norm_ (a' := ?_) ?_ ?_
 rotate_left
 ·show Act.put _ (some 19) _ = _
  simp only [Act.put, sq1, sq2, sq3, i64_w, i32_w]
  rfl
 refine one_ (i := 15) (N := some 20) bq104 rfl rfl (one_of HT_.out (by kernel_rfl)) (by decide) (fun K hK => ?_)
 refine Kd.R_lit_step (Kd.int .i64) _ 3 ?hg (N := 20) ?hd (xs := ([t103, t104, t105] : List Int)) (inner := [.int .i64 t103, .int .i64 t104, .int .i64 t105]) (ok := fun _ => True) (okp := fun _ => True) ?hr ?hp (fun _ hk => hk) trivial (Below.refl _ _) (Nat.le_refl _) (by simp) ?_; (case hd => rfl); (case hg => rfl); (case hr => first | (go_simp; done) | (go_simp; rfl)); (case hp => exact (Reps.one (show Kd.M (Kd.int .i64) _ _ _ t103 [.int .i64 t103] from rfl) (Reps.one (show Kd.M (Kd.int .i64) _ _ _ t104 [.int .i64 t104] from rfl) (Reps.one (show Kd.M (Kd.int .i64) _ _ _ t105 [.int .i64 t105] from rfl) (Reps.none _ _)))))
 intro v107 w10 ho11 hb hg_ hnew_
 clear hg_ hnew_
 (first | rw [← Ny106.out] at ho11 | (simp only [Int.reduceToNat] at ho11; rw [← Ny106.out] at ho11))
 have HO108 := Qz.mk (Kd.R_lower ho11 (qv (by repeat (first | (with_reducible first | exact HB.out | apply qc | apply qa | apply qb | refine qd ?_ GE101.out | refine qd ?_ GE102.out) | exact HB.out))))
 replace BK101 := Qz.mk (qu (g := gb101) (o := .cells #[.string a0_0, .int .i64 a0_1, .int .i64 a0_2] 35 (0, 0)) yq49 hb)
 replace BK102 := Qz.mk (qu (g := gb102) (o := .cells #[.string a1_0, .int .i64 a1_1, .int .i64 a1_2] 35 (0, 0)) (by (with_reducible repeat (first | refine qg ?_ _ | refine qi ?_ | refine qh ?_ _)); exact BK102.out) hb)
 replace HB := Qz.mk (ql (by repeat (first | (with_reducible first | exact HB.out | apply qc | apply qa | apply qb | refine qd ?_ GE101.out | refine qd ?_ GE102.out) | exact HB.out)) hb)
 clear hb ho11
 obtain ⟨Ao12, co12, eo12⟩ := Kd.R_slice HO108.out
 (first | subst eo12 | (injection eo12 with f1_ f2_ f3_; have f4_ := f1_.symm; have f5_ := f3_.symm; clear f1_ f2_ f3_; subst f4_; subst f5_))
 refine hK.out _ _ ⟨(qf BK101.out 0).trans rfl, (qf BK101.out 1).trans rfl, (qf BK101.out 2).trans rfl, (qf BK102.out 0).trans rfl, (qf BK102.out 1).trans rfl, (qf BK102.out 2).trans rfl⟩ (fun hHeld => ?_)
 clear hK K
 refine norm_ (a' := ?_) ?_ ?_
 rotate_left
 ·show Act.put _ (some 20) _ = _
  simp only [Act.put, sq1, sq2, sq3, i64_w, i32_w]
  rfl
 refine one_ (i := 16) (N := some 21) bq107 rfl rfl (one_of HT_.out (by kernel_rfl)) (by decide) (fun K hK => ?_)
 refine goes_ Try.func163 (by kernel_rfl) rfl #[.slice Ao12 y106.length co12] (by rfl) rfl rfl (by (try simp only [List.map_toArray, List.map_cons, List.map_nil]); first | done | rfl | (simp only [List.length_drop, List.length_take]; rfl) | (rw [IntWalk.u64_in _ (by omega)] <;> rfl)) ?_
 with_reducible refine (cmp_Or_int.calls k _ _ y106 t109 _ ?side1 ?side2 A6.out).mono ?_
 (case side1 => repeat (first | exact (Kd.R_reads' HO108.out).2.2 | (with_reducible refine Kd.C_alloc ?_ _) | (with_reducible refine Kd.C_drewN ?_ _) | (with_reducible refine Kd.C_drew ?_)))
 (case side2 => exact (Kd.R_reads' HO108.out).2.1)
 rintro e w' ⟨rfl, ⟨nd, rfl⟩⟩
 refine ⟨_, rfl, ?_⟩
 refine hK.out _ _ ⟨(qf BK101.out 0).trans rfl, (qf BK101.out 1).trans rfl, (qf BK101.out 2).trans rfl, (qf BK102.out 0).trans rfl, (qf BK102.out 1).trans rfl, (qf BK102.out 2).trans rfl⟩ (fun hHeld => ?_)
 clear hK K
 refine norm_ (a' := ?_) ?_ ?_
 rotate_left
 ·show Act.put _ (some 21) _ = _
  simp only [Act.put, sq1, sq2, sq3, i64_w, i32_w]
  rfl
 refine pure_ (i := 17) (N := some 4) (v := ?_) (a' := ?_) bq118 rfl rfl (qr HT_.out (by kernel_rfl)) (fun _ _ _ h => h) (Or.inl ⟨by rfl, ?_⟩) ?_ ?_
 rotate_left
 ·intro w'
  go_simp
  with_reducible rfl
 rotate_left
 ·simp only [Act.put, sq1, sq2, sq3, i64_w, i32_w]
  rfl
 refine done_ (done_of HT_.out (by kernel_rfl)) ?_
 try go_wp2
 go_ret
 exact ⟨by first | rfl | (simp [qn, qm] <;> rfl) | (simp [*, qn, qm] <;> rfl), by repeat (first | (with_reducible first | exact HB.out | apply qc | apply qa | apply qb | refine qd ?_ GE101.out | refine qd ?_ GE102.out) | exact HB.out)⟩
theorem yq50 {P : Prop} (h : P := by repeat (first | (with_reducible first | exact HB.out | apply qc | apply qa | apply qb) | exact HB.out)) : P := h
theorem yq51 {P : Prop} (h : P := by repeat (first | (with_reducible first | exact HB.out | apply qc | apply qa | apply qb | refine qd ?_ GE102.out) | exact HB.out)) : P := h
theorem yq52 {P : Prop} (h : P := by first | (with_reducible assumption) | assumption) : P := h
theorem yq53 {P : Prop} (h : P := by (with_reducible repeat (first | refine qg ?_ _ | refine qi ?_ | refine qh ?_ _)); exact BK102.out) : P := h
theorem yq54 {P : Prop} (h : P := by (try simp only [List.map_toArray, List.map_cons, List.map_nil]); first | done | rfl) : P := h
def impl_EntriesOk.l0 : Nat → List (S64) → List (S64) → Int → Int → Option (Bool)
 | 0, _, _, _, _ => none
 | k + 1, x0, x8, x9, x10 => if x10 < x9 then (if 0 ≤ x10 then (if x10 < (x8.length : Int) then ((impl_EntryOk.f ((qk x8 x10).f0.f0) ((qk x8 x10).f0.f1) ((qk x8 x10).f0.f2) ((qk x8 x10).f1)).bind fun t103 => (if t103 = true then (if x10 > 0 then (if 0 ≤ (wrap64 (x10 - 1)) then (if (wrap64 (x10 - 1)) < (x0.length : Int) then ((impl_cmpKeys.f k ((qk x0 (wrap64 (x10 - 1))).f0.f0) ((qk x0 (wrap64 (x10 - 1))).f0.f1) ((qk x0 (wrap64 (x10 - 1))).f0.f2) ((qk x8 x10).f0.f0) ((qk x8 x10).f0.f1) ((qk x8 x10).f0.f2)).bind fun t105 => (if t105 ≥ 0 then (some false) else (impl_EntriesOk.l0 k x0 x8 x9 (wrap64 (x10 + 1))))) else (none)) else (none)) else (impl_EntriesOk.l0 k x0 x8 x9 (wrap64 (x10 + 1)))) else (some false))) else (none)) else (none)) else (some true)
def impl_EntriesOk.f (k : Nat) (l0 : List (S64)) : Option (Bool) := if (l0.length : Int) > 400 then (some false) else (impl_EntriesOk.l0 k l0 l0 (l0.length : Int) 0)
def impl_EntriesOk.T6 : Bool × List (List Nat × List Nat) := (true, [([], []), ([0], [0]), ([1], [1]), ([2, 1], [2]), ([3], [3]), ([4, 3], [3, 4]), ([5, 3, 3], [3, 5]), ([6], [6]), ([6], [6]), ([8, 6], [6, 8]), ([7, 9, 6], [6, 7, 9]), ([10, 6], [6, 10]), ([11, 6], [6, 11]), ([6], [6]), ([13, 6], [6, 13]), ([12, 14, 6, 6], [6, 12, 14]), ([15, 6], [6, 15]), ([6, 16, 3], [3, 6, 16]), ([3, 17], [3, 17])])
def impl_EntriesOk.B6 : List Nat := [0, 1, 3, 7, 15, 31, 63, 127, 127, 383, 1023, 2047, 4095, 127, 8319, 32767, 65535, 131071, 262143]
theorem impl_EntriesOk.tab6 : rtab .any (opsOf Try.f43 6) = impl_EntriesOk.T6 := by kernel_rfl
theorem impl_EntriesOk.bits6 : waitsOk impl_EntriesOk.T6.2 impl_EntriesOk.B6 = true := by kernel_rfl
set_option maxHeartbeats 8000000 in
set_option maxRecDepth 100000 in
theorem impl_EntriesOk.calls (k : Nat) (A0 : Option Addr) (c0 : Nat) (l0 : List (S64)) (r : Bool) (w : World) (hr0 : Kd.C k64 w A0 l0.length l0) (hc0 : l0.length ≤ c0) (h : impl_EntriesOk.f k l0 = some r) :
  Calls Try.prog 43 #[.slice A0 l0.length c0] w fun e w' => e = .returned (.bool r) ∧ Below w.heap.size w w' := by
 have hu64 := Try.underlying64
 have hu35 := Try.underlying35
 have HR0 := Qz.mk hr0
 have HC0 := Qz.mk hc0
 clear hr0 hc0
 have HB := Qz.mk (Below.refl w.heap.size w)
 have H : (if (l0.length : Int) > 400 then (some false) else (impl_EntriesOk.l0 k l0 l0 (l0.length : Int) 0)) = some r := h
 clear h
 by_cases c2 : (l0.length : Int) > 400
 ·rw [if_pos c2] at H
  have c2b0 : decide (400 < (l0.length : Int)) = true := decide_eq_true c2
  have c2b1 : decide (400 < l0.length) = true := decide_eq_true (by omega)
  clear c2
  obtain rfl := Option.some.inj H
  go_enter Try.func43, Try.ntmps43
  go_wp2
  go_ret
  exact ⟨by first | rfl | (simp [qn, qm] <;> rfl) | (simp [*, qn, qm] <;> rfl), by repeat (first | (with_reducible first | exact HB.out | apply qc | apply qa | apply qb) | exact HB.out)⟩
 ·rw [if_neg c2] at H
  have c2b0 : decide (400 < (l0.length : Int)) = false := decide_eq_false c2
  have c2b1 : decide (400 < l0.length) = false := decide_eq_false (by omega)
  clear c2
  have H' := Qz.mk H
  clear H
  go_enter Try.func43, Try.ntmps43
  go_wp2
  go_loopg [10] k (fun kq v10 w' => ∃ (x10_1 : Int), v10 = .int .i64 x10_1 ∧ Qz (impl_EntriesOk.l0 kq l0 l0 (l0.length : Int) x10_1 = some r) ∧ Qz (kq ≤ k) ∧ Qz (Below w.heap.size w w'))
  case atStart => exact ⟨(0), (by first | rfl | (simp; done) | (simp [*]; done)), H', ⟨Nat.le_refl _⟩, ⟨by repeat (first | (with_reducible first | exact HB.out | apply qc | apply qa | apply qb) | exact HB.out)⟩⟩
  case round =>
   clear H'
   try clear c2
   try clear c2b0
   try clear c2b1
   try clear p2
   obtain ⟨x10_1, rfl, HA, HK1, HB⟩ := hrel
   cases gk with
   | zero => exact absurd HA.out (by simp [impl_EntriesOk.l0])
   | succ k1 =>
    have H := HA.out
    clear HA
    simp only [impl_EntriesOk.l0] at H
    by_cases c3 : x10_1 < (l0.length : Int)
    ·rw [if_pos c3] at H
     have c3b0 : decide (x10_1 < (l0.length : Int)) = true := decide_eq_true c3
     clear c3
     by_cases c4 : 0 ≤ x10_1
     ·rw [if_pos c4] at H
      have c4b0 : decide (0 ≤ x10_1) = true := decide_eq_true c4
      clear c4
      by_cases c5 : x10_1 < (l0.length : Int)
      ·rw [if_pos c5] at H
       have c5b0 : decide (x10_1 < (l0.length : Int)) = true := decide_eq_true c5
       clear c5
       replace H := Option.bind_eq_some_iff.mp H
       obtain ⟨t103, A60, H⟩ := H
       replace H : (if t103 = true then (if x10_1 > 0 then (if 0 ≤ (wrap64 (x10_1 - 1)) then (if (wrap64 (x10_1 - 1)) < (l0.length : Int) then ((impl_cmpKeys.f k1 ((qk l0 (wrap64 (x10_1 - 1))).f0.f0) ((qk l0 (wrap64 (x10_1 - 1))).f0.f1) ((qk l0 (wrap64 (x10_1 - 1))).f0.f2) ((qk l0 x10_1).f0.f0) ((qk l0 x10_1).f0.f1) ((qk l0 x10_1).f0.f2)).bind fun t105 => (if t105 ≥ 0 then (some false) else (impl_EntriesOk.l0 k1 l0 l0 (l0.length : Int) (wrap64 (x10_1 + 1))))) else (none)) else (none)) else (impl_EntriesOk.l0 k1 l0 l0 (l0.length : Int) (wrap64 (x10_1 + 1)))) else (some false)) = some r := H
       have A6 := Qz.mk A60
       clear A60
       by_cases c7 : t103 = true
       ·subst c7
        have H1 : (if x10_1 > 0 then (if 0 ≤ (wrap64 (x10_1 - 1)) then (if (wrap64 (x10_1 - 1)) < (l0.length : Int) then ((impl_cmpKeys.f k1 ((qk l0 (wrap64 (x10_1 - 1))).f0.f0) ((qk l0 (wrap64 (x10_1 - 1))).f0.f1) ((qk l0 (wrap64 (x10_1 - 1))).f0.f2) ((qk l0 x10_1).f0.f0) ((qk l0 x10_1).f0.f1) ((qk l0 x10_1).f0.f2)).bind fun t105 => (if t105 ≥ 0 then (some false) else (impl_EntriesOk.l0 k1 l0 l0 (l0.length : Int) (wrap64 (x10_1 + 1))))) else (none)) else (none)) else (impl_EntriesOk.l0 k1 l0 l0 (l0.length : Int) (wrap64 (x10_1 + 1)))) = some r := by rw [if_pos rfl] at H; exact H
        clear H
        have H := H1
        clear H1
        by_cases c8 : x10_1 > 0
        ·rw [if_pos c8] at H
         have c8b0 : decide (0 < x10_1) = true := decide_eq_true c8
         clear c8
         obtain ⟨ji9, hji9⟩ : ∃ j_ : Int, (wrap64 (x10_1 - 1)) = j_ := ⟨_, rfl⟩
         replace H : (if 0 ≤ (ji9) then (if (ji9) < (l0.length : Int) then ((impl_cmpKeys.f k1 ((qk l0 (ji9)).f0.f0) ((qk l0 (ji9)).f0.f1) ((qk l0 (ji9)).f0.f2) ((qk l0 x10_1).f0.f0) ((qk l0 x10_1).f0.f1) ((qk l0 x10_1).f0.f2)).bind fun t105 => (if t105 ≥ 0 then (some false) else (impl_EntriesOk.l0 k1 l0 l0 (l0.length : Int) (wrap64 (x10_1 + 1))))) else (none)) else (none)) = some r := by first | (rw [hji9] at H; exact H) | (simp only [hji9] at H ⊢; exact H)
         (try rw [hji9] at A6)
         have hji9w : (IntKind.i64.wrap (x10_1 - 1)) = ji9 := (i64_w _).trans hji9
         by_cases c10 : 0 ≤ (ji9)
         ·rw [if_pos c10] at H
          have c10b0 : decide (0 ≤ (ji9)) = true := decide_eq_true c10
          clear c10
          by_cases c11 : (ji9) < (l0.length : Int)
          ·rw [if_pos c11] at H
           have c11b0 : decide ((ji9) < (l0.length : Int)) = true := decide_eq_true c11
           clear c11
           replace H := Option.bind_eq_some_iff.mp H
           obtain ⟨t105, A120, H⟩ := H
           replace H : (if t105 ≥ 0 then (some false) else (impl_EntriesOk.l0 k1 l0 l0 (l0.length : Int) (wrap64 (x10_1 + 1)))) = some r := H
           have A12 := Qz.mk A120
           clear A120
           by_cases c13 : t105 ≥ 0
           ·rw [if_pos c13] at H
            have c13b0 : decide (0 ≤ t105) = true := decide_eq_true c13
            clear c13
            obtain rfl := Option.some.inj H
            have p101 : 0 ≤ (x10_1 : Int) := of_decide_eq_true yq52
            have q101 : x10_1 < (l0.length : Int) := of_decide_eq_true yq52
            obtain ⟨ad101, e101, hx101_0, hx101_1, hx101_2, hx101_3⟩ := at_T64 HR0.out x10_1 p101 q101
            cases e101
            replace hx101_0 := (HB.out.cell (World.block_lt_of_cell? w _ hx101_0)).trans hx101_0
            replace hx101_1 := (HB.out.cell (World.block_lt_of_cell? w _ hx101_1)).trans hx101_1
            replace hx101_2 := (HB.out.cell (World.block_lt_of_cell? w _ hx101_2)).trans hx101_2
            replace hx101_3 := (HB.out.cell (World.block_lt_of_cell? w _ hx101_3)).trans hx101_3
            replace p101 := eq_true p101
            replace q101 := eq_true q101
            try go_wp2_with (first | ((with_reducible refine qb1 (N := 4) rfl ?_); refine qz ?hg (N := 4) ?hd (cs := #[.string (⟨#[]⟩ : ByteArray), .int .i64 0, .int .i64 0, .string (⟨#[]⟩ : ByteArray)]) (t := 64) ?hr ?_; (case hd => rfl); (case hg => rfl); (case hr => first | (go_simp; done) | (go_simp; rfl)); intro gb102 hg w14 hbox hb; have BK102 := Qz.mk (hbox); have GW102 := Qz.mk ((by rw [hg]; exact (qv yq50) : w.heap.size ≤ gb102)); have GE102 := GW102; replace HB := Qz.mk (ql yq50 hb); clear hb hbox hg; have hcz15_0 : w14.cell? ⟨gb102, 0, none⟩ = some (.string (⟨#[]⟩ : ByteArray)) := (qf BK102.out 0).trans rfl; have hcz15_1 : w14.cell? ⟨gb102, 1, none⟩ = some (.int .i64 0) := (qf BK102.out 1).trans rfl; have hcz15_2 : w14.cell? ⟨gb102, 2, none⟩ = some (.int .i64 0) := (qf BK102.out 2).trans rfl; have hcz15_3 : w14.cell? ⟨gb102, 3, none⟩ = some (.string (⟨#[]⟩ : ByteArray)) := (qf BK102.out 3).trans rfl; have hfz15_0 := qe BK102.out 0; have hfz15_1 := qe BK102.out 1; have hfz15_2 := qe BK102.out 2; have hfz15_3 := qe BK102.out 3))
            have n0_ : Qz (((((w14.setCell ⟨gb102, 0, none⟩ (.string ((qk l0 x10_1).f0.f0))).setCell ⟨gb102, 1, none⟩ (.int .i64 ((qk l0 x10_1).f0.f1))).setCell ⟨gb102, 2, none⟩ (.int .i64 ((qk l0 x10_1).f0.f2))).setCell ⟨gb102, 3, none⟩ (.string ((qk l0 x10_1).f1))).heap[gb102]? = some (.cells #[.string ((qk l0 x10_1).f0.f0), .int .i64 ((qk l0 x10_1).f0.f1), .int .i64 ((qk l0 x10_1).f0.f2), .string ((qk l0 x10_1).f1)] 64 (0, 0))) := ⟨by (with_reducible repeat (first | refine qg ?_ _ | refine qi ?_ | refine qh ?_ _)); refine qw (cs := #[.string ((qk l0 x10_1).f0.f0), .int .i64 ((qk l0 x10_1).f0.f1), .int .i64 ((qk l0 x10_1).f0.f2), .string (⟨#[]⟩ : ByteArray)]) ?_ 3 _ rfl; (with_reducible repeat (first | refine qg ?_ _ | refine qi ?_ | refine qh ?_ _)); refine qw (cs := #[.string ((qk l0 x10_1).f0.f0), .int .i64 ((qk l0 x10_1).f0.f1), .int .i64 0, .string (⟨#[]⟩ : ByteArray)]) ?_ 2 _ rfl; (with_reducible repeat (first | refine qg ?_ _ | refine qi ?_ | refine qh ?_ _)); refine qw (cs := #[.string ((qk l0 x10_1).f0.f0), .int .i64 0, .int .i64 0, .string (⟨#[]⟩ : ByteArray)]) ?_ 1 _ rfl; (with_reducible repeat (first | refine qg ?_ _ | refine qi ?_ | refine qh ?_ _)); refine qw (cs := #[.string (⟨#[]⟩ : ByteArray), .int .i64 0, .int .i64 0, .string (⟨#[]⟩ : ByteArray)]) ?_ 0 _ rfl; (with_reducible repeat (first | refine qg ?_ _ | refine qi ?_ | refine qh ?_ _)); exact BK102.out⟩
            have n1_ : Qz (Below w.heap.size w ((((w14.setCell ⟨gb102, 0, none⟩ (.string ((qk l0 x10_1).f0.f0))).setCell ⟨gb102, 1, none⟩ (.int .i64 ((qk l0 x10_1).f0.f1))).setCell ⟨gb102, 2, none⟩ (.int .i64 ((qk l0 x10_1).f0.f2))).setCell ⟨gb102, 3, none⟩ (.string ((qk l0 x10_1).f1)))) := ⟨by repeat (first | (with_reducible first | exact HB.out | apply qc | apply qa | apply qb | refine qd ?_ GE102.out) | exact HB.out)⟩
            (try clear BK102)
            (try clear HB)
            generalize ((((w14.setCell ⟨gb102, 0, none⟩ (.string ((qk l0 x10_1).f0.f0))).setCell ⟨gb102, 1, none⟩ (.int .i64 ((qk l0 x10_1).f0.f1))).setCell ⟨gb102, 2, none⟩ (.int .i64 ((qk l0 x10_1).f0.f2))).setCell ⟨gb102, 3, none⟩ (.string ((qk l0 x10_1).f1))) = w16 at n0_ n1_ ⊢
            have BK102 := n0_
            have HB := n1_
            clear n0_ n1_
            replace BK102 := Qz.mk (qi BK102.out)
            replace HB := Qz.mk (qb HB.out)
            have p104 : 0 ≤ ((ji9) : Int) := of_decide_eq_true yq52
            have q104 : (ji9) < (l0.length : Int) := of_decide_eq_true yq52
            obtain ⟨ad104, e104, hx104_0, hx104_1, hx104_2, hx104_3⟩ := at_T64 HR0.out (ji9) p104 q104
            have hw104_3 := hx104_3
            have hw104_2 := hx104_2
            have hw104_1 := hx104_1
            have hw104_0 := hx104_0
            obtain rfl : ad101 = ad104 := (by injection e104)
            replace hx104_0 := (HB.out.cell (World.block_lt_of_cell? w _ hx104_0)).trans hx104_0
            replace hx104_1 := (HB.out.cell (World.block_lt_of_cell? w _ hx104_1)).trans hx104_1
            replace hx104_2 := (HB.out.cell (World.block_lt_of_cell? w _ hx104_2)).trans hx104_2
            replace hx104_3 := (HB.out.cell (World.block_lt_of_cell? w _ hx104_3)).trans hx104_3
            replace p104 := eq_true p104
            replace q104 := eq_true q104
            refine start_ (n := 19) (S := fun w' => w'.cell? ⟨gb102, 0, none⟩ = some (.string ((qk l0 x10_1).f0.f0)) ∧ w'.cell? ⟨gb102, 1, none⟩ = some (.int .i64 ((qk l0 x10_1).f0.f1)) ∧ w'.cell? ⟨gb102, 2, none⟩ = some (.int .i64 ((qk l0 x10_1).f0.f2)) ∧ w'.cell? ⟨gb102, 3, none⟩ = some (.string ((qk l0 x10_1).f1)) ∧ w'.cell? (ad101.add (((ji9)).toNat * 4)) = some (.string ((qk l0 (ji9)).f0.f0)) ∧ w'.cell? ⟨(ad101.add (((ji9)).toNat * 4)).block, (ad101.add (((ji9)).toNat * 4)).off + 1, none⟩ = some (.int .i64 ((qk l0 (ji9)).f0.f1)) ∧ w'.cell? ⟨(ad101.add (((ji9)).toNat * 4)).block, (ad101.add (((ji9)).toNat * 4)).off + 2, none⟩ = some (.int .i64 ((qk l0 (ji9)).f0.f2)) ∧ w'.cell? ⟨(ad101.add (((ji9)).toNat * 4)).block, (ad101.add (((ji9)).toNat * 4)).off + 3, none⟩ = some (.string ((qk l0 (ji9)).f1))) (ds := []) bq1 (by kernel_rfl) rfl rfl ⟨(qf BK102.out 0).trans rfl, (qf BK102.out 1).trans rfl, (qf BK102.out 2).trans rfl, (qf BK102.out 3).trans rfl, ((HB.out.cell (World.block_lt_of_cell? w _ hw104_0)).trans hw104_0), ((HB.out.cell (World.block_lt_of_cell? w _ hw104_1)).trans hw104_1), ((HB.out.cell (World.block_lt_of_cell? w _ hw104_2)).trans hw104_2), ((HB.out.cell (World.block_lt_of_cell? w _ hw104_3)).trans hw104_3)⟩ (fun hHeld => ?_); refine with_tabW impl_EntriesOk.tab6 impl_EntriesOk.bits6 (fun HT_ HW_ => ?_)
            generalize w16.drew = w17 at BK102 HB hx104_0 hx104_1 hx104_2 hx104_3 hHeld ⊢
            refine take_ (i := 0) (N := some 15) (v := ?_) (a' := ?_) bq7 rfl rfl (take_ofW HT_.out HW_.out (by kernel_rfl)) (fun _ _ _ h => h) (Or.inl ⟨by rfl, ?_⟩) hHeld ?_ ?_
            rotate_left
            ·rintro w' ⟨s0, s1, s2, s3, s4, s5, s6, s7⟩
             go_simp
             with_reducible rfl
            rotate_left
            ·simp only [Act.put, sq1, sq2, sq3, i64_w, i32_w]
             rfl
            refine one_ (i := 1) (N := some 16) bq18 rfl rfl (one_of HT_.out (by kernel_rfl)) (by decide) (fun K hK => ?_)
            refine goes_ Try.func108 (by kernel_rfl) rfl #[.agg #[.string ((qk l0 x10_1).f0.f0), .int .i64 ((qk l0 x10_1).f0.f1), .int .i64 ((qk l0 x10_1).f0.f2), .string ((qk l0 x10_1).f1)]] (by rfl) rfl rfl yq54 ?_
            with_reducible refine (impl_EntryOk.calls ((qk l0 x10_1).f0.f0) ((qk l0 x10_1).f0.f1) ((qk l0 x10_1).f0.f2) ((qk l0 x10_1).f1) true _ A6.out).mono ?_
            rintro e w18 ⟨rfl, hb⟩
            refine ⟨_, rfl, ?_⟩
            replace BK102 := Qz.mk (qu (g := gb102) (o := .cells #[.string ((qk l0 x10_1).f0.f0), .int .i64 ((qk l0 x10_1).f0.f1), .int .i64 ((qk l0 x10_1).f0.f2), .string ((qk l0 x10_1).f1)] 64 (0, 0)) yq53 hb)
            replace HB := Qz.mk (ql yq51 hb)
            (try clear hb)
            refine hK.out _ _ ⟨(qf BK102.out 0).trans rfl, (qf BK102.out 1).trans rfl, (qf BK102.out 2).trans rfl, (qf BK102.out 3).trans rfl, ((HB.out.cell (World.block_lt_of_cell? w _ hw104_0)).trans hw104_0), ((HB.out.cell (World.block_lt_of_cell? w _ hw104_1)).trans hw104_1), ((HB.out.cell (World.block_lt_of_cell? w _ hw104_2)).trans hw104_2), ((HB.out.cell (World.block_lt_of_cell? w _ hw104_3)).trans hw104_3)⟩ (fun hHeld => ?_)
            clear hK K
            refine norm_ (a' := ?_) ?_ ?_
            rotate_left
            ·show Act.put _ (some 16) _ = _
             simp only [Act.put, sq1, sq2, sq3, i64_w, i32_w]
             rfl
            refine pure_ (i := 2) (N := some 17) (v := ?_) (a' := ?_) bq28 rfl rfl (qr HT_.out (by kernel_rfl)) (fun _ _ _ h => h) (Or.inl ⟨by rfl, ?_⟩) ?_ ?_
            rotate_left
            ·intro w'
             go_simp
             with_reducible rfl
            rotate_left
            ·simp only [Act.put, sq1, sq2, sq3, i64_w, i32_w]
             rfl
            refine pure_ (i := 3) (N := some 18) (v := ?_) (a' := ?_) bq41 rfl rfl (qr HT_.out (by kernel_rfl)) (fun _ _ _ h => h) (Or.inl ⟨by rfl, ?_⟩) ?_ ?_
            rotate_left
            ·intro w'
             go_simp
             with_reducible rfl
            rotate_left
            ·simp only [Act.put, sq1, sq2, sq3, i64_w, i32_w]
             rfl
            refine pure_ (i := 4) (N := some 19) (v := ?_) (a' := ?_) bq47 rfl rfl (qr HT_.out (by kernel_rfl)) (fun _ _ _ h => h) (Or.inl ⟨by rfl, ?_⟩) ?_ ?_
            rotate_left
            ·intro w'
             go_simp
             with_reducible rfl
            rotate_left
            ·simp only [Act.put, sq1, sq2, sq3, i64_w, i32_w]
             rfl
            refine pure_ (i := 5) (N := some 20) (v := ?_) (a' := ?_) bq52 rfl rfl (qr HT_.out (by kernel_rfl)) (fun _ _ _ h => h) (Or.inl ⟨by rfl, ?_⟩) ?_ ?_
            rotate_left
            ·intro w'
             go_simp
             with_reducible rfl
            rotate_left
            ·simp only [Act.put, sq1, sq2, sq3, i64_w, i32_w]
             rfl
            refine pure_ (i := 6) (N := some 21) (v := ?_) (a' := ?_) bq57 rfl rfl (qr HT_.out (by kernel_rfl)) (fun _ _ _ h => h) (Or.inl ⟨by rfl, ?_⟩) ?_ ?_
            rotate_left
            ·intro w'
             go_simp
             with_reducible rfl
            rotate_left
            ·simp only [Act.put, sq1, sq2, sq3, i64_w, i32_w]
             rfl
            refine pure_ (i := 7) (N := some 22) (v := ?_) (a' := ?_) bq62 rfl rfl (qr HT_.out (by kernel_rfl)) (fun _ _ _ h => h) (Or.inl ⟨by rfl, ?_⟩) ?_ ?_
            rotate_left
            ·intro w'
             go_simp
             with_reducible rfl
            rotate_left
            ·simp only [Act.put, sq1, sq2, sq3, i64_w, i32_w]
             rfl
            refine pure_ (i := 8) (N := some 23) (v := ?_) (a' := ?_) bq67 rfl rfl (qr HT_.out (by kernel_rfl)) (fun _ _ _ h => h) (Or.inl ⟨by rfl, ?_⟩) ?_ ?_
            rotate_left
            ·intro w'
             go_simp
             with_reducible rfl
            rotate_left
            ·simp only [Act.put, sq1, sq2, sq3, i64_w, i32_w]
             rfl
            refine pure_ (i := 9) (N := some 24) (v := ?_) (a' := ?_) bq75 rfl rfl (qr HT_.out (by kernel_rfl)) (fun _ _ _ h => h) (Or.inl ⟨by rfl, ?_⟩) ?_ ?_
            rotate_left
            ·intro w'
             go_simp
             with_reducible rfl
            rotate_left
            ·simp only [Act.put, sq1, sq2, sq3, i64_w, i32_w]
             rfl
            refine pure_ (i := 10) (N := some 25) (v := ?_) (a' := ?_) bq79 rfl rfl (qr HT_.out (by kernel_rfl)) (fun _ _ _ h => h) (Or.inl ⟨by rfl, ?_⟩) ?_ ?_
            rotate_left
            ·intro w'
             go_simp
             with_reducible rfl
            rotate_left
            ·simp only [Act.put, sq1, sq2, sq3, i64_w, i32_w]
             rfl
            refine pure_ (i := 11) (N := some 26) (v := ?_) (a' := ?_) bq84 rfl rfl (qr HT_.out (by kernel_rfl)) (fun _ _ _ h => h) (Or.inl ⟨by rfl, ?_⟩) ?_ ?_
            rotate_left
            ·intro w'
             go_simp
             with_reducible rfl
            rotate_left
            ·simp only [Act.put, sq1, sq2, sq3, i64_w, i32_w]
             rfl
            refine pure_ (i := 13) (N := some 28) (v := ?_) (a' := ?_) bq87 rfl rfl (qr HT_.out (by kernel_rfl)) (fun _ _ _ h => h) (Or.inl ⟨by rfl, ?_⟩) ?_ ?_
            rotate_left
            ·intro w'
             go_simp
             with_reducible rfl
            rotate_left
            ·simp only [Act.put, sq1, sq2, sq3, i64_w, i32_w]
             rfl
            refine take_ (i := 12) (N := some 27) (v := ?_) (a' := ?_) bq93 rfl rfl (take_ofW HT_.out HW_.out (by kernel_rfl)) (fun _ _ _ h => h) (Or.inl ⟨by rfl, ?_⟩) hHeld ?_ ?_
            rotate_left
            ·rintro w' ⟨s0, s1, s2, s3, s4, s5, s6, s7⟩
             go_simp
             with_reducible rfl
            rotate_left
            ·simp only [Act.put, sq1, sq2, sq3, i64_w, i32_w]
             rfl
            refine take_ (i := 14) (N := some 29) (v := ?_) (a' := ?_) bq96 rfl rfl (take_ofW HT_.out HW_.out (by kernel_rfl)) (fun _ _ _ h => h) (Or.inl ⟨by rfl, ?_⟩) hHeld ?_ ?_
            rotate_left
            ·rintro w' ⟨s0, s1, s2, s3, s4, s5, s6, s7⟩
             go_simp
             with_reducible rfl
            rotate_left
            ·simp only [Act.put, sq1, sq2, sq3, i64_w, i32_w]
             rfl
            refine one_ (i := 15) (N := some 30) bq103 rfl rfl (one_of HT_.out (by kernel_rfl)) (by decide) (fun K hK => ?_)
            refine goes_ Try.func109 (by kernel_rfl) rfl #[.agg #[.string ((qk l0 (ji9)).f0.f0), .int .i64 ((qk l0 (ji9)).f0.f1), .int .i64 ((qk l0 (ji9)).f0.f2)], .agg #[.string ((qk l0 x10_1).f0.f0), .int .i64 ((qk l0 x10_1).f0.f1), .int .i64 ((qk l0 x10_1).f0.f2)]] (by rfl) rfl rfl (by (try simp only [List.map_toArray, List.map_cons, List.map_nil]); first | done | (simp only [hji9]; rfl) | rfl | (simp only [List.length_drop, List.length_take]; rfl) | (rw [IntWalk.u64_in _ (by omega)] <;> rfl)) ?_
            with_reducible refine (impl_cmpKeys.calls k1 ((qk l0 (ji9)).f0.f0) ((qk l0 (ji9)).f0.f1) ((qk l0 (ji9)).f0.f2) ((qk l0 x10_1).f0.f0) ((qk l0 x10_1).f0.f1) ((qk l0 x10_1).f0.f2) t105 _ A12.out).mono ?_
            rintro e w19 ⟨rfl, hb⟩
            refine ⟨_, rfl, ?_⟩
            replace BK102 := Qz.mk (qu (g := gb102) (o := .cells #[.string ((qk l0 x10_1).f0.f0), .int .i64 ((qk l0 x10_1).f0.f1), .int .i64 ((qk l0 x10_1).f0.f2), .string ((qk l0 x10_1).f1)] 64 (0, 0)) yq53 hb)
            replace HB := Qz.mk (ql yq51 hb)
            (try clear hb)
            refine hK.out _ _ ⟨(qf BK102.out 0).trans rfl, (qf BK102.out 1).trans rfl, (qf BK102.out 2).trans rfl, (qf BK102.out 3).trans rfl, ((HB.out.cell (World.block_lt_of_cell? w _ hw104_0)).trans hw104_0), ((HB.out.cell (World.block_lt_of_cell? w _ hw104_1)).trans hw104_1), ((HB.out.cell (World.block_lt_of_cell? w _ hw104_2)).trans hw104_2), ((HB.out.cell (World.block_lt_of_cell? w _ hw104_3)).trans hw104_3)⟩ (fun hHeld => ?_)
            clear hK K
            refine norm_ (a' := ?_) ?_ ?_
            rotate_left
            ·show Act.put _ (some 30) _ = _
             simp only [Act.put, sq1, sq2, sq3, i64_w, i32_w]
             rfl
            refine pure_ (i := 16) (N := some 31) (v := ?_) (a' := ?_) bq106 rfl rfl (qr HT_.out (by kernel_rfl)) (fun _ _ _ h => h) (Or.inl ⟨by rfl, ?_⟩) ?_ ?_
            rotate_left
            ·intro w'
             go_simp
             with_reducible rfl
            rotate_left
            ·simp only [Act.put, sq1, sq2, sq3, i64_w, i32_w]
             rfl
            refine pure_ (i := 17) (N := some 32) (v := ?_) (a' := ?_) bq109 rfl rfl (qr HT_.out (by kernel_rfl)) (fun _ _ _ h => h) (Or.inl ⟨by rfl, ?_⟩) ?_ ?_
            rotate_left
            ·intro w'
             go_simp
             with_reducible rfl
            rotate_left
            ·simp only [Act.put, sq1, sq2, sq3, i64_w, i32_w]
             rfl
            refine pure_ (i := 18) (N := some 33) (v := ?_) (a' := ?_) bq117 rfl rfl (qr HT_.out (by kernel_rfl)) (fun _ _ _ h => h) (Or.inl ⟨by rfl, ?_⟩) ?_ ?_
            rotate_left
            ·intro w'
             go_simp
             with_reducible rfl
            rotate_left
            ·simp only [Act.put, sq1, sq2, sq3, i64_w, i32_w]
             rfl
            refine done_ (done_of HT_.out (by kernel_rfl)) ?_
            try go_wp2
            go_ret
            exact ⟨by first | rfl | (simp [qn, qm] <;> rfl) | (simp only [← hji9]; first | rfl | (simp [qn, qm] <;> rfl)) | (simp [*, qn, qm] <;> rfl), by repeat (first | (with_reducible first | exact HB.out | apply qc | apply qa | apply qb | refine qd ?_ GE102.out) | exact HB.out)⟩
           ·rw [if_neg c13] at H
            have c13b0 : decide (0 ≤ t105) = false := decide_eq_false c13
            clear c13
            have H' := Qz.mk H
            clear H
            have p101 : 0 ≤ (x10_1 : Int) := of_decide_eq_true yq52
            have q101 : x10_1 < (l0.length : Int) := of_decide_eq_true yq52
            obtain ⟨ad101, e101, hx101_0, hx101_1, hx101_2, hx101_3⟩ := at_T64 HR0.out x10_1 p101 q101
            cases e101
            replace hx101_0 := (HB.out.cell (World.block_lt_of_cell? w _ hx101_0)).trans hx101_0
            replace hx101_1 := (HB.out.cell (World.block_lt_of_cell? w _ hx101_1)).trans hx101_1
            replace hx101_2 := (HB.out.cell (World.block_lt_of_cell? w _ hx101_2)).trans hx101_2
            replace hx101_3 := (HB.out.cell (World.block_lt_of_cell? w _ hx101_3)).trans hx101_3
            replace p101 := eq_true p101
            replace q101 := eq_true q101
            try go_wp2_with (first | ((with_reducible refine qb1 (N := 4) rfl ?_); refine qz ?hg (N := 4) ?hd (cs := #[.string (⟨#[]⟩ : ByteArray), .int .i64 0, .int .i64 0, .string (⟨#[]⟩ : ByteArray)]) (t := 64) ?hr ?_; (case hd => rfl); (case hg => rfl); (case hr => first | (go_simp; done) | (go_simp; rfl)); intro gb102 hg w20 hbox hb; have BK102 := Qz.mk (hbox); have GW102 := Qz.mk ((by rw [hg]; exact (qv yq50) : w.heap.size ≤ gb102)); have GE102 := GW102; replace HB := Qz.mk (ql yq50 hb); clear hb hbox hg; have hcz21_0 : w20.cell? ⟨gb102, 0, none⟩ = some (.string (⟨#[]⟩ : ByteArray)) := (qf BK102.out 0).trans rfl; have hcz21_1 : w20.cell? ⟨gb102, 1, none⟩ = some (.int .i64 0) := (qf BK102.out 1).trans rfl; have hcz21_2 : w20.cell? ⟨gb102, 2, none⟩ = some (.int .i64 0) := (qf BK102.out 2).trans rfl; have hcz21_3 : w20.cell? ⟨gb102, 3, none⟩ = some (.string (⟨#[]⟩ : ByteArray)) := (qf BK102.out 3).trans rfl; have hfz21_0 := qe BK102.out 0; have hfz21_1 := qe BK102.out 1; have hfz21_2 := qe BK102.out 2; have hfz21_3 := qe BK102.out 3))
            have n0_ : Qz (((((w20.setCell ⟨gb102, 0, none⟩ (.string ((qk l0 x10_1).f0.f0))).setCell ⟨gb102, 1, none⟩ (.int .i64 ((qk l0 x10_1).f0.f1))).setCell ⟨gb102, 2, none⟩ (.int .i64 ((qk l0 x10_1).f0.f2))).setCell ⟨gb102, 3, none⟩ (.string ((qk l0 x10_1).f1))).heap[gb102]? = some (.cells #[.string ((qk l0 x10_1).f0.f0), .int .i64 ((qk l0 x10_1).f0.f1), .int .i64 ((qk l0 x10_1).f0.f2), .string ((qk l0 x10_1).f1)] 64 (0, 0))) := ⟨by (with_reducible repeat (first | refine qg ?_ _ | refine qi ?_ | refine qh ?_ _)); refine qw (cs := #[.string ((qk l0 x10_1).f0.f0), .int .i64 ((qk l0 x10_1).f0.f1), .int .i64 ((qk l0 x10_1).f0.f2), .string (⟨#[]⟩ : ByteArray)]) ?_ 3 _ rfl; (with_reducible repeat (first | refine qg ?_ _ | refine qi ?_ | refine qh ?_ _)); refine qw (cs := #[.string ((qk l0 x10_1).f0.f0), .int .i64 ((qk l0 x10_1).f0.f1), .int .i64 0, .string (⟨#[]⟩ : ByteArray)]) ?_ 2 _ rfl; (with_reducible repeat (first | refine qg ?_ _ | refine qi ?_ | refine qh ?_ _)); refine qw (cs := #[.string ((qk l0 x10_1).f0.f0), .int .i64 0, .int .i64 0, .string (⟨#[]⟩ : ByteArray)]) ?_ 1 _ rfl; (with_reducible repeat (first | refine qg ?_ _ | refine qi ?_ | refine qh ?_ _)); refine qw (cs := #[.string (⟨#[]⟩ : ByteArray), .int .i64 0, .int .i64 0, .string (⟨#[]⟩ : ByteArray)]) ?_ 0 _ rfl; (with_reducible repeat (first | refine qg ?_ _ | refine qi ?_ | refine qh ?_ _)); exact BK102.out⟩
            have n1_ : Qz (Below w.heap.size w ((((w20.setCell ⟨gb102, 0, none⟩ (.string ((qk l0 x10_1).f0.f0))).setCell ⟨gb102, 1, none⟩ (.int .i64 ((qk l0 x10_1).f0.f1))).setCell ⟨gb102, 2, none⟩ (.int .i64 ((qk l0 x10_1).f0.f2))).setCell ⟨gb102, 3, none⟩ (.string ((qk l0 x10_1).f1)))) := ⟨by repeat (first | (with_reducible first | exact HB.out | apply qc | apply qa | apply qb | refine qd ?_ GE102.out) | exact HB.out)⟩
            (try clear BK102)
            (try clear HB)
            generalize ((((w20.setCell ⟨gb102, 0, none⟩ (.string ((qk l0 x10_1).f0.f0))).setCell ⟨gb102, 1, none⟩ (.int .i64 ((qk l0 x10_1).f0.f1))).setCell ⟨gb102, 2, none⟩ (.int .i64 ((qk l0 x10_1).f0.f2))).setCell ⟨gb102, 3, none⟩ (.string ((qk l0 x10_1).f1))) = w22 at n0_ n1_ ⊢
            have BK102 := n0_
            have HB := n1_
            clear n0_ n1_
            replace BK102 := Qz.mk (qi BK102.out)
            replace HB := Qz.mk (qb HB.out)
            have p104 : 0 ≤ ((ji9) : Int) := of_decide_eq_true yq52
            have q104 : (ji9) < (l0.length : Int) := of_decide_eq_true yq52
            obtain ⟨ad104, e104, hx104_0, hx104_1, hx104_2, hx104_3⟩ := at_T64 HR0.out (ji9) p104 q104
            have hw104_3 := hx104_3
            have hw104_2 := hx104_2
            have hw104_1 := hx104_1
            have hw104_0 := hx104_0
            obtain rfl : ad101 = ad104 := (by injection e104)
            replace hx104_0 := (HB.out.cell (World.block_lt_of_cell? w _ hx104_0)).trans hx104_0
            replace hx104_1 := (HB.out.cell (World.block_lt_of_cell? w _ hx104_1)).trans hx104_1
            replace hx104_2 := (HB.out.cell (World.block_lt_of_cell? w _ hx104_2)).trans hx104_2
            replace hx104_3 := (HB.out.cell (World.block_lt_of_cell? w _ hx104_3)).trans hx104_3
            replace p104 := eq_true p104
            replace q104 := eq_true q104
            refine start_ (n := 19) (S := fun w' => w'.cell? ⟨gb102, 0, none⟩ = some (.string ((qk l0 x10_1).f0.f0)) ∧ w'.cell? ⟨gb102, 1, none⟩ = some (.int .i64 ((qk l0 x10_1).f0.f1)) ∧ w'.cell? ⟨gb102, 2, none⟩ = some (.int .i64 ((qk l0 x10_1).f0.f2)) ∧ w'.cell? ⟨gb102, 3, none⟩ = some (.string ((qk l0 x10_1).f1)) ∧ w'.cell? (ad101.add (((ji9)).toNat * 4)) = some (.string ((qk l0 (ji9)).f0.f0)) ∧ w'.cell? ⟨(ad101.add (((ji9)).toNat * 4)).block, (ad101.add (((ji9)).toNat * 4)).off + 1, none⟩ = some (.int .i64 ((qk l0 (ji9)).f0.f1)) ∧ w'.cell? ⟨(ad101.add (((ji9)).toNat * 4)).block, (ad101.add (((ji9)).toNat * 4)).off + 2, none⟩ = some (.int .i64 ((qk l0 (ji9)).f0.f2)) ∧ w'.cell? ⟨(ad101.add (((ji9)).toNat * 4)).block, (ad101.add (((ji9)).toNat * 4)).off + 3, none⟩ = some (.string ((qk l0 (ji9)).f1))) (ds := []) bq1 (by kernel_rfl) rfl rfl ⟨(qf BK102.out 0).trans rfl, (qf BK102.out 1).trans rfl, (qf BK102.out 2).trans rfl, (qf BK102.out 3).trans rfl, ((HB.out.cell (World.block_lt_of_cell? w _ hw104_0)).trans hw104_0), ((HB.out.cell (World.block_lt_of_cell? w _ hw104_1)).trans hw104_1), ((HB.out.cell (World.block_lt_of_cell? w _ hw104_2)).trans hw104_2), ((HB.out.cell (World.block_lt_of_cell? w _ hw104_3)).trans hw104_3)⟩ (fun hHeld => ?_); refine with_tabW impl_EntriesOk.tab6 impl_EntriesOk.bits6 (fun HT_ HW_ => ?_)
            generalize w22.drew = w23 at BK102 HB hx104_0 hx104_1 hx104_2 hx104_3 hHeld ⊢
            refine take_ (i := 0) (N := some 15) (v := ?_) (a' := ?_) bq7 rfl rfl (take_ofW HT_.out HW_.out (by kernel_rfl)) (fun _ _ _ h => h) (Or.inl ⟨by rfl, ?_⟩) hHeld ?_ ?_
            rotate_left
            ·rintro w' ⟨s0, s1, s2, s3, s4, s5, s6, s7⟩
             go_simp
             with_reducible rfl
            rotate_left
            ·simp only [Act.put, sq1, sq2, sq3, i64_w, i32_w]
             rfl
            refine one_ (i := 1) (N := some 16) bq18 rfl rfl (one_of HT_.out (by kernel_rfl)) (by decide) (fun K hK => ?_)
            refine goes_ Try.func108 (by kernel_rfl) rfl #[.agg #[.string ((qk l0 x10_1).f0.f0), .int .i64 ((qk l0 x10_1).f0.f1), .int .i64 ((qk l0 x10_1).f0.f2), .string ((qk l0 x10_1).f1)]] (by rfl) rfl rfl yq54 ?_
            with_reducible refine (impl_EntryOk.calls ((qk l0 x10_1).f0.f0) ((qk l0 x10_1).f0.f1) ((qk l0 x10_1).f0.f2) ((qk l0 x10_1).f1) true _ A6.out).mono ?_
            rintro e w24 ⟨rfl, hb⟩
            refine ⟨_, rfl, ?_⟩
            replace BK102 := Qz.mk (qu (g := gb102) (o := .cells #[.string ((qk l0 x10_1).f0.f0), .int .i64 ((qk l0 x10_1).f0.f1), .int .i64 ((qk l0 x10_1).f0.f2), .string ((qk l0 x10_1).f1)] 64 (0, 0)) yq53 hb)
            replace HB := Qz.mk (ql yq51 hb)
            (try clear hb)
            refine hK.out _ _ ⟨(qf BK102.out 0).trans rfl, (qf BK102.out 1).trans rfl, (qf BK102.out 2).trans rfl, (qf BK102.out 3).trans rfl, ((HB.out.cell (World.block_lt_of_cell? w _ hw104_0)).trans hw104_0), ((HB.out.cell (World.block_lt_of_cell? w _ hw104_1)).trans hw104_1), ((HB.out.cell (World.block_lt_of_cell? w _ hw104_2)).trans hw104_2), ((HB.out.cell (World.block_lt_of_cell? w _ hw104_3)).trans hw104_3)⟩ (fun hHeld => ?_)
            clear hK K
            refine norm_ (a' := ?_) ?_ ?_
            rotate_left
            ·show Act.put _ (some 16) _ = _
             simp only [Act.put, sq1, sq2, sq3, i64_w, i32_w]
             rfl
            refine pure_ (i := 2) (N := some 17) (v := ?_) (a' := ?_) bq28 rfl rfl (qr HT_.out (by kernel_rfl)) (fun _ _ _ h => h) (Or.inl ⟨by rfl, ?_⟩) ?_ ?_
            rotate_left
            ·intro w'
             go_simp
             with_reducible rfl
            rotate_left
            ·simp only [Act.put, sq1, sq2, sq3, i64_w, i32_w]
             rfl
            refine pure_ (i := 3) (N := some 18) (v := ?_) (a' := ?_) bq41 rfl rfl (qr HT_.out (by kernel_rfl)) (fun _ _ _ h => h) (Or.inl ⟨by rfl, ?_⟩) ?_ ?_
            rotate_left
            ·intro w'
             go_simp
             with_reducible rfl
            rotate_left
            ·simp only [Act.put, sq1, sq2, sq3, i64_w, i32_w]
             rfl
            refine pure_ (i := 4) (N := some 19) (v := ?_) (a' := ?_) bq47 rfl rfl (qr HT_.out (by kernel_rfl)) (fun _ _ _ h => h) (Or.inl ⟨by rfl, ?_⟩) ?_ ?_
            rotate_left
            ·intro w'
             go_simp
             with_reducible rfl
            rotate_left
            ·simp only [Act.put, sq1, sq2, sq3, i64_w, i32_w]
             rfl
            refine pure_ (i := 5) (N := some 20) (v := ?_) (a' := ?_) bq52 rfl rfl (qr HT_.out (by kernel_rfl)) (fun _ _ _ h => h) (Or.inl ⟨by rfl, ?_⟩) ?_ ?_
            rotate_left
            ·intro w'
             go_simp
             with_reducible rfl
            rotate_left
            ·simp only [Act.put, sq1, sq2, sq3, i64_w, i32_w]
             rfl
            refine pure_ (i := 6) (N := some 21) (v := ?_) (a' := ?_) bq57 rfl rfl (qr HT_.out (by kernel_rfl)) (fun _ _ _ h => h) (Or.inl ⟨by rfl, ?_⟩) ?_ ?_
            rotate_left
            ·intro w'
             go_simp
             with_reducible rfl
            rotate_left
            ·simp only [Act.put, sq1, sq2, sq3, i64_w, i32_w]
             rfl
            refine pure_ (i := 7) (N := some 22) (v := ?_) (a' := ?_) bq62 rfl rfl (qr HT_.out (by kernel_rfl)) (fun _ _ _ h => h) (Or.inl ⟨by rfl, ?_⟩) ?_ ?_
            rotate_left
            ·intro w'
             go_simp
             with_reducible rfl
            rotate_left
            ·simp only [Act.put, sq1, sq2, sq3, i64_w, i32_w]
             rfl
            refine pure_ (i := 8) (N := some 23) (v := ?_) (a' := ?_) bq67 rfl rfl (qr HT_.out (by kernel_rfl)) (fun _ _ _ h => h) (Or.inl ⟨by rfl, ?_⟩) ?_ ?_
            rotate_left
            ·intro w'
             go_simp
             with_reducible rfl
            rotate_left
            ·simp only [Act.put, sq1, sq2, sq3, i64_w, i32_w]
             rfl
            refine pure_ (i := 9) (N := some 24) (v := ?_) (a' := ?_) bq75 rfl rfl (qr HT_.out (by kernel_rfl)) (fun _ _ _ h => h) (Or.inl ⟨by rfl, ?_⟩) ?_ ?_
            rotate_left
            ·intro w'
             go_simp
             with_reducible rfl
            rotate_left
            ·simp only [Act.put, sq1, sq2, sq3, i64_w, i32_w]
             rfl
            refine pure_ (i := 10) (N := some 25) (v := ?_) (a' := ?_) bq79 rfl rfl (qr HT_.out (by kernel_rfl)) (fun _ _ _ h => h) (Or.inl ⟨by rfl, ?_⟩) ?_ ?_
            rotate_left
            ·intro w'
             go_simp
             with_reducible rfl
            rotate_left
            ·simp only [Act.put, sq1, sq2, sq3, i64_w, i32_w]
             rfl
            refine pure_ (i := 11) (N := some 26) (v := ?_) (a' := ?_) bq84 rfl rfl (qr HT_.out (by kernel_rfl)) (fun _ _ _ h => h) (Or.inl ⟨by rfl, ?_⟩) ?_ ?_
            rotate_left
            ·intro w'
             go_simp
             with_reducible rfl
            rotate_left
            ·simp only [Act.put, sq1, sq2, sq3, i64_w, i32_w]
             rfl
            refine pure_ (i := 13) (N := some 28) (v := ?_) (a' := ?_) bq87 rfl rfl (qr HT_.out (by kernel_rfl)) (fun _ _ _ h => h) (Or.inl ⟨by rfl, ?_⟩) ?_ ?_
            rotate_left
            ·intro w'
             go_simp
             with_reducible rfl
            rotate_left
            ·simp only [Act.put, sq1, sq2, sq3, i64_w, i32_w]
             rfl
            refine take_ (i := 12) (N := some 27) (v := ?_) (a' := ?_) bq93 rfl rfl (take_ofW HT_.out HW_.out (by kernel_rfl)) (fun _ _ _ h => h) (Or.inl ⟨by rfl, ?_⟩) hHeld ?_ ?_
            rotate_left
            ·rintro w' ⟨s0, s1, s2, s3, s4, s5, s6, s7⟩
             go_simp
             with_reducible rfl
            rotate_left
            ·simp only [Act.put, sq1, sq2, sq3, i64_w, i32_w]
             rfl
            refine take_ (i := 14) (N := some 29) (v := ?_) (a' := ?_) bq96 rfl rfl (take_ofW HT_.out HW_.out (by kernel_rfl)) (fun _ _ _ h => h) (Or.inl ⟨by rfl, ?_⟩) hHeld ?_ ?_
            rotate_left
            ·rintro w' ⟨s0, s1, s2, s3, s4, s5, s6, s7⟩
             go_simp
             with_reducible rfl
            rotate_left
            ·simp only [Act.put, sq1, sq2, sq3, i64_w, i32_w]
             rfl
            refine one_ (i := 15) (N := some 30) bq103 rfl rfl (one_of HT_.out (by kernel_rfl)) (by decide) (fun K hK => ?_)
            refine goes_ Try.func109 (by kernel_rfl) rfl #[.agg #[.string ((qk l0 (ji9)).f0.f0), .int .i64 ((qk l0 (ji9)).f0.f1), .int .i64 ((qk l0 (ji9)).f0.f2)], .agg #[.string ((qk l0 x10_1).f0.f0), .int .i64 ((qk l0 x10_1).f0.f1), .int .i64 ((qk l0 x10_1).f0.f2)]] (by rfl) rfl rfl (by (try simp only [List.map_toArray, List.map_cons, List.map_nil]); first | done | (simp only [hji9]; rfl) | rfl | (simp only [List.length_drop, List.length_take]; rfl) | (rw [IntWalk.u64_in _ (by omega)] <;> rfl)) ?_
            with_reducible refine (impl_cmpKeys.calls k1 ((qk l0 (ji9)).f0.f0) ((qk l0 (ji9)).f0.f1) ((qk l0 (ji9)).f0.f2) ((qk l0 x10_1).f0.f0) ((qk l0 x10_1).f0.f1) ((qk l0 x10_1).f0.f2) t105 _ A12.out).mono ?_
            rintro e w25 ⟨rfl, hb⟩
            refine ⟨_, rfl, ?_⟩
            replace BK102 := Qz.mk (qu (g := gb102) (o := .cells #[.string ((qk l0 x10_1).f0.f0), .int .i64 ((qk l0 x10_1).f0.f1), .int .i64 ((qk l0 x10_1).f0.f2), .string ((qk l0 x10_1).f1)] 64 (0, 0)) yq53 hb)
            replace HB := Qz.mk (ql yq51 hb)
            (try clear hb)
            refine hK.out _ _ ⟨(qf BK102.out 0).trans rfl, (qf BK102.out 1).trans rfl, (qf BK102.out 2).trans rfl, (qf BK102.out 3).trans rfl, ((HB.out.cell (World.block_lt_of_cell? w _ hw104_0)).trans hw104_0), ((HB.out.cell (World.block_lt_of_cell? w _ hw104_1)).trans hw104_1), ((HB.out.cell (World.block_lt_of_cell? w _ hw104_2)).trans hw104_2), ((HB.out.cell (World.block_lt_of_cell? w _ hw104_3)).trans hw104_3)⟩ (fun hHeld => ?_)
            clear hK K
            refine norm_ (a' := ?_) ?_ ?_
            rotate_left
            ·show Act.put _ (some 30) _ = _
             simp only [Act.put, sq1, sq2, sq3, i64_w, i32_w]
             rfl
            refine pure_ (i := 16) (N := some 31) (v := ?_) (a' := ?_) bq106 rfl rfl (qr HT_.out (by kernel_rfl)) (fun _ _ _ h => h) (Or.inl ⟨by rfl, ?_⟩) ?_ ?_
            rotate_left
            ·intro w'
             go_simp
             with_reducible rfl
            rotate_left
            ·simp only [Act.put, sq1, sq2, sq3, i64_w, i32_w]
             rfl
            refine pure_ (i := 17) (N := some 32) (v := ?_) (a' := ?_) bq109 rfl rfl (qr HT_.out (by kernel_rfl)) (fun _ _ _ h => h) (Or.inl ⟨by rfl, ?_⟩) ?_ ?_
            rotate_left
            ·intro w'
             go_simp
             with_reducible rfl
            rotate_left
            ·simp only [Act.put, sq1, sq2, sq3, i64_w, i32_w]
             rfl
            refine pure_ (i := 18) (N := some 33) (v := ?_) (a' := ?_) bq117 rfl rfl (qr HT_.out (by kernel_rfl)) (fun _ _ _ h => h) (Or.inl ⟨by rfl, ?_⟩) ?_ ?_
            rotate_left
            ·intro w'
             go_simp
             with_reducible rfl
            rotate_left
            ·simp only [Act.put, sq1, sq2, sq3, i64_w, i32_w]
             rfl
            refine done_ (done_of HT_.out (by kernel_rfl)) ?_
            try go_wp2
            go_roundg k1
            case measure => have := HK1.out; omega
            case rel => exact ⟨(wrap64 (x10_1 + 1)), (by first | rfl | (simp; done) | (simp [*]; done)), H', ⟨by have := HK1.out; omega⟩, ⟨by repeat (first | (with_reducible first | exact HB.out | apply qc | apply qa | apply qb | refine qd ?_ GE102.out) | exact HB.out)⟩⟩
          ·rw [if_neg c11] at H
           exact absurd H (by simp)
         ·rw [if_neg c10] at H
          exact absurd H (by simp)
        ·rw [if_neg c8] at H
         have c8b0 : decide (0 < x10_1) = false := decide_eq_false c8
         clear c8
         have H' := Qz.mk H
         clear H
         have p101 : 0 ≤ (x10_1 : Int) := of_decide_eq_true yq52
         have q101 : x10_1 < (l0.length : Int) := of_decide_eq_true yq52
         obtain ⟨ad101, e101, hx101_0, hx101_1, hx101_2, hx101_3⟩ := at_T64 HR0.out x10_1 p101 q101
         cases e101
         replace hx101_0 := (HB.out.cell (World.block_lt_of_cell? w _ hx101_0)).trans hx101_0
         replace hx101_1 := (HB.out.cell (World.block_lt_of_cell? w _ hx101_1)).trans hx101_1
         replace hx101_2 := (HB.out.cell (World.block_lt_of_cell? w _ hx101_2)).trans hx101_2
         replace hx101_3 := (HB.out.cell (World.block_lt_of_cell? w _ hx101_3)).trans hx101_3
         replace p101 := eq_true p101
         replace q101 := eq_true q101
         try go_wp2_with (first | ((with_reducible refine qb1 (N := 4) rfl ?_); refine qz ?hg (N := 4) ?hd (cs := #[.string (⟨#[]⟩ : ByteArray), .int .i64 0, .int .i64 0, .string (⟨#[]⟩ : ByteArray)]) (t := 64) ?hr ?_; (case hd => rfl); (case hg => rfl); (case hr => first | (go_simp; done) | (go_simp; rfl)); intro gb102 hg w26 hbox hb; have BK102 := Qz.mk (hbox); have GW102 := Qz.mk ((by rw [hg]; exact (qv yq50) : w.heap.size ≤ gb102)); have GE102 := GW102; replace HB := Qz.mk (ql yq50 hb); clear hb hbox hg; have hcz27_0 : w26.cell? ⟨gb102, 0, none⟩ = some (.string (⟨#[]⟩ : ByteArray)) := (qf BK102.out 0).trans rfl; have hcz27_1 : w26.cell? ⟨gb102, 1, none⟩ = some (.int .i64 0) := (qf BK102.out 1).trans rfl; have hcz27_2 : w26.cell? ⟨gb102, 2, none⟩ = some (.int .i64 0) := (qf BK102.out 2).trans rfl; have hcz27_3 : w26.cell? ⟨gb102, 3, none⟩ = some (.string (⟨#[]⟩ : ByteArray)) := (qf BK102.out 3).trans rfl; have hfz27_0 := qe BK102.out 0; have hfz27_1 := qe BK102.out 1; have hfz27_2 := qe BK102.out 2; have hfz27_3 := qe BK102.out 3))
         have n0_ : Qz (((((w26.setCell ⟨gb102, 0, none⟩ (.string ((qk l0 x10_1).f0.f0))).setCell ⟨gb102, 1, none⟩ (.int .i64 ((qk l0 x10_1).f0.f1))).setCell ⟨gb102, 2, none⟩ (.int .i64 ((qk l0 x10_1).f0.f2))).setCell ⟨gb102, 3, none⟩ (.string ((qk l0 x10_1).f1))).heap[gb102]? = some (.cells #[.string ((qk l0 x10_1).f0.f0), .int .i64 ((qk l0 x10_1).f0.f1), .int .i64 ((qk l0 x10_1).f0.f2), .string ((qk l0 x10_1).f1)] 64 (0, 0))) := ⟨by (with_reducible repeat (first | refine qg ?_ _ | refine qi ?_ | refine qh ?_ _)); refine qw (cs := #[.string ((qk l0 x10_1).f0.f0), .int .i64 ((qk l0 x10_1).f0.f1), .int .i64 ((qk l0 x10_1).f0.f2), .string (⟨#[]⟩ : ByteArray)]) ?_ 3 _ rfl; (with_reducible repeat (first | refine qg ?_ _ | refine qi ?_ | refine qh ?_ _)); refine qw (cs := #[.string ((qk l0 x10_1).f0.f0), .int .i64 ((qk l0 x10_1).f0.f1), .int .i64 0, .string (⟨#[]⟩ : ByteArray)]) ?_ 2 _ rfl; (with_reducible repeat (first | refine qg ?_ _ | refine qi ?_ | refine qh ?_ _)); refine qw (cs := #[.string ((qk l0 x10_1).f0.f0), .int .i64 0, .int .i64 0, .string (⟨#[]⟩ : ByteArray)]) ?_ 1 _ rfl; (with_reducible repeat (first | refine qg ?_ _ | refine qi ?_ | refine qh ?_ _)); refine qw (cs := #[.string (⟨#[]⟩ : ByteArray), .int .i64 0, .int .i64 0, .string (⟨#[]⟩ : ByteArray)]) ?_ 0 _ rfl; (with_reducible repeat (first | refine qg ?_ _ | refine qi ?_ | refine qh ?_ _)); exact BK102.out⟩
         have n1_ : Qz (Below w.heap.size w ((((w26.setCell ⟨gb102, 0, none⟩ (.string ((qk l0 x10_1).f0.f0))).setCell ⟨gb102, 1, none⟩ (.int .i64 ((qk l0 x10_1).f0.f1))).setCell ⟨gb102, 2, none⟩ (.int .i64 ((qk l0 x10_1).f0.f2))).setCell ⟨gb102, 3, none⟩ (.string ((qk l0 x10_1).f1)))) := ⟨by repeat (first | (with_reducible first | exact HB.out | apply qc | apply qa | apply qb | refine qd ?_ GE102.out) | exact HB.out)⟩
         (try clear BK102)
         (try clear HB)
         generalize ((((w26.setCell ⟨gb102, 0, none⟩ (.string ((qk l0 x10_1).f0.f0))).setCell ⟨gb102, 1, none⟩ (.int .i64 ((qk l0 x10_1).f0.f1))).setCell ⟨gb102, 2, none⟩ (.int .i64 ((qk l0 x10_1).f0.f2))).setCell ⟨gb102, 3, none⟩ (.string ((qk l0 x10_1).f1))) = w28 at n0_ n1_ ⊢
         have BK102 := n0_
         have HB := n1_
         clear n0_ n1_
         replace BK102 := Qz.mk (qi BK102.out)
         replace HB := Qz.mk (qb HB.out)
         refine start_ (n := 19) (S := fun w' => w'.cell? ⟨gb102, 0, none⟩ = some (.string ((qk l0 x10_1).f0.f0)) ∧ w'.cell? ⟨gb102, 1, none⟩ = some (.int .i64 ((qk l0 x10_1).f0.f1)) ∧ w'.cell? ⟨gb102, 2, none⟩ = some (.int .i64 ((qk l0 x10_1).f0.f2)) ∧ w'.cell? ⟨gb102, 3, none⟩ = some (.string ((qk l0 x10_1).f1))) (ds := []) bq1 (by kernel_rfl) rfl rfl ⟨(qf BK102.out 0).trans rfl, (qf BK102.out 1).trans rfl, (qf BK102.out 2).trans rfl, (qf BK102.out 3).trans rfl⟩ (fun hHeld => ?_); refine with_tabW impl_EntriesOk.tab6 impl_EntriesOk.bits6 (fun HT_ HW_ => ?_)
         generalize w28.drew = w29 at BK102 HB hHeld ⊢
         refine take_ (i := 0) (N := some 15) (v := ?_) (a' := ?_) bq7 rfl rfl (take_ofW HT_.out HW_.out (by kernel_rfl)) (fun _ _ _ h => h) (Or.inl ⟨by rfl, ?_⟩) hHeld ?_ ?_
         rotate_left
         ·rintro w' ⟨s0, s1, s2, s3⟩
          go_simp
          with_reducible rfl
         rotate_left
         ·simp only [Act.put, sq1, sq2, sq3, i64_w, i32_w]
          rfl
         refine one_ (i := 1) (N := some 16) bq18 rfl rfl (one_of HT_.out (by kernel_rfl)) (by decide) (fun K hK => ?_)
         refine goes_ Try.func108 (by kernel_rfl) rfl #[.agg #[.string ((qk l0 x10_1).f0.f0), .int .i64 ((qk l0 x10_1).f0.f1), .int .i64 ((qk l0 x10_1).f0.f2), .string ((qk l0 x10_1).f1)]] (by rfl) rfl rfl yq54 ?_
         with_reducible refine (impl_EntryOk.calls ((qk l0 x10_1).f0.f0) ((qk l0 x10_1).f0.f1) ((qk l0 x10_1).f0.f2) ((qk l0 x10_1).f1) true _ A6.out).mono ?_
         rintro e w30 ⟨rfl, hb⟩
         refine ⟨_, rfl, ?_⟩
         replace BK102 := Qz.mk (qu (g := gb102) (o := .cells #[.string ((qk l0 x10_1).f0.f0), .int .i64 ((qk l0 x10_1).f0.f1), .int .i64 ((qk l0 x10_1).f0.f2), .string ((qk l0 x10_1).f1)] 64 (0, 0)) yq53 hb)
         replace HB := Qz.mk (ql yq51 hb)
         (try clear hb)
         refine hK.out _ _ ⟨(qf BK102.out 0).trans rfl, (qf BK102.out 1).trans rfl, (qf BK102.out 2).trans rfl, (qf BK102.out 3).trans rfl⟩ (fun hHeld => ?_)
         clear hK K
         refine norm_ (a' := ?_) ?_ ?_
         rotate_left
         ·show Act.put _ (some 16) _ = _
          simp only [Act.put, sq1, sq2, sq3, i64_w, i32_w]
          rfl
         refine pure_ (i := 2) (N := some 17) (v := ?_) (a' := ?_) bq28 rfl rfl (qr HT_.out (by kernel_rfl)) (fun _ _ _ h => h) (Or.inl ⟨by rfl, ?_⟩) ?_ ?_
         rotate_left
         ·intro w'
          go_simp
          with_reducible rfl
         rotate_left
         ·simp only [Act.put, sq1, sq2, sq3, i64_w, i32_w]
          rfl
         refine pure_ (i := 3) (N := some 18) (v := ?_) (a' := ?_) bq41 rfl rfl (qr HT_.out (by kernel_rfl)) (fun _ _ _ h => h) (Or.inl ⟨by rfl, ?_⟩) ?_ ?_
         rotate_left
         ·intro w'
          go_simp
          with_reducible rfl
         rotate_left
         ·simp only [Act.put, sq1, sq2, sq3, i64_w, i32_w]
          rfl
         refine pure_ (i := 4) (N := some 19) (v := ?_) (a' := ?_) bq47 rfl rfl (qr HT_.out (by kernel_rfl)) (fun _ _ _ h => h) (Or.inl ⟨by rfl, ?_⟩) ?_ ?_
         rotate_left
         ·intro w'
          go_simp
          with_reducible rfl
         rotate_left
         ·simp only [Act.put, sq1, sq2, sq3, i64_w, i32_w]
          rfl
         refine pure_ (i := 5) (N := some 20) (v := ?_) (a' := ?_) bq52 rfl rfl (qr HT_.out (by kernel_rfl)) (fun _ _ _ h => h) (Or.inl ⟨by rfl, ?_⟩) ?_ ?_
         rotate_left
         ·intro w'
          go_simp
          with_reducible rfl
         rotate_left
         ·simp only [Act.put, sq1, sq2, sq3, i64_w, i32_w]
          rfl
         refine pure_ (i := 6) (N := some 21) (v := ?_) (a' := ?_) bq57 rfl rfl (qr HT_.out (by kernel_rfl)) (fun _ _ _ h => h) (Or.inl ⟨by rfl, ?_⟩) ?_ ?_
         rotate_left
         ·intro w'
          go_simp
          with_reducible rfl
         rotate_left
         ·simp only [Act.put, sq1, sq2, sq3, i64_w, i32_w]
          rfl
         refine pure_ (i := 7) (N := some 22) (v := undef) (a' := ?_) bq62 rfl rfl (qr HT_.out (by kernel_rfl)) (fun _ _ _ h => h) (Or.inr ⟨by rfl, rfl⟩) ?_ ?_
         rotate_left
         ·simp only [Act.put, sq1, sq2, sq3, i64_w, i32_w]
          rfl
         refine pure_ (i := 8) (N := some 23) (v := undef) (a' := ?_) bq67 rfl rfl (qr HT_.out (by kernel_rfl)) (fun _ _ _ h => h) (Or.inr ⟨by rfl, rfl⟩) ?_ ?_
         rotate_left
         ·simp only [Act.put, sq1, sq2, sq3, i64_w, i32_w]
          rfl
         refine pure_ (i := 9) (N := some 24) (v := undef) (a' := ?_) bq75 rfl rfl (qr HT_.out (by kernel_rfl)) (fun _ _ _ h => h) (Or.inr ⟨by rfl, rfl⟩) ?_ ?_
         rotate_left
         ·simp only [Act.put, sq1, sq2, sq3, i64_w, i32_w]
          rfl
         refine pure_ (i := 10) (N := some 25) (v := undef) (a' := ?_) bq79 rfl rfl (qr HT_.out (by kernel_rfl)) (fun _ _ _ h => h) (Or.inr ⟨by rfl, rfl⟩) ?_ ?_
         rotate_left
         ·simp only [Act.put, sq1, sq2, sq3, i64_w, i32_w]
          rfl
         refine pure_ (i := 11) (N := some 26) (v := undef) (a' := ?_) bq84 rfl rfl (qr HT_.out (by kernel_rfl)) (fun _ _ _ h => h) (Or.inr ⟨by rfl, rfl⟩) ?_ ?_
         rotate_left
         ·simp only [Act.put, sq1, sq2, sq3, i64_w, i32_w]
          rfl
         refine pure_ (i := 12) (N := some 27) (v := undef) (a' := ?_) bq89 rfl rfl (qr HT_.out (by kernel_rfl)) (fun _ _ _ h => h) (Or.inr ⟨by rfl, rfl⟩) ?_ ?_
         rotate_left
         ·simp only [Act.put, sq1, sq2, sq3, i64_w, i32_w]
          rfl
         refine pure_ (i := 13) (N := some 28) (v := undef) (a' := ?_) bq93 rfl rfl (qr HT_.out (by kernel_rfl)) (fun _ _ _ h => h) (Or.inr ⟨by rfl, rfl⟩) ?_ ?_
         rotate_left
         ·simp only [Act.put, sq1, sq2, sq3, i64_w, i32_w]
          rfl
         refine pure_ (i := 14) (N := some 29) (v := undef) (a' := ?_) bq96 rfl rfl (qr HT_.out (by kernel_rfl)) (fun _ _ _ h => h) (Or.inr ⟨by rfl, rfl⟩) ?_ ?_
         rotate_left
         ·simp only [Act.put, sq1, sq2, sq3, i64_w, i32_w]
          rfl
         refine pure_ (i := 15) (N := some 30) (v := undef) (a' := ?_) bq103 rfl rfl (qr HT_.out (by kernel_rfl)) (fun _ _ _ h => h) (Or.inr ⟨by rfl, rfl⟩) ?_ ?_
         rotate_left
         ·simp only [Act.put, sq1, sq2, sq3, i64_w, i32_w]
          rfl
         refine pure_ (i := 16) (N := some 31) (v := undef) (a' := ?_) bq106 rfl rfl (qr HT_.out (by kernel_rfl)) (fun _ _ _ h => h) (Or.inr ⟨by rfl, rfl⟩) ?_ ?_
         rotate_left
         ·simp only [Act.put, sq1, sq2, sq3, i64_w, i32_w]
          rfl
         refine pure_ (i := 17) (N := some 32) (v := ?_) (a' := ?_) bq109 rfl rfl (qr HT_.out (by kernel_rfl)) (fun _ _ _ h => h) (Or.inl ⟨by rfl, ?_⟩) ?_ ?_
         rotate_left
         ·intro w'
          go_simp
          with_reducible rfl
         rotate_left
         ·simp only [Act.put, sq1, sq2, sq3, i64_w, i32_w]
          rfl
         refine pure_ (i := 18) (N := some 33) (v := ?_) (a' := ?_) bq117 rfl rfl (qr HT_.out (by kernel_rfl)) (fun _ _ _ h => h) (Or.inl ⟨by rfl, ?_⟩) ?_ ?_
         rotate_left
         ·intro w'
          go_simp
          with_reducible rfl
         rotate_left
         ·simp only [Act.put, sq1, sq2, sq3, i64_w, i32_w]
          rfl
         refine done_ (done_of HT_.out (by kernel_rfl)) ?_
         try go_wp2
         go_roundg k1
         case measure => have := HK1.out; omega
         case rel => exact ⟨(wrap64 (x10_1 + 1)), (by first | rfl | (simp; done) | (simp [*]; done)), H', ⟨by have := HK1.out; omega⟩, ⟨by repeat (first | (with_reducible first | exact HB.out | apply qc | apply qa | apply qb | refine qd ?_ GE102.out) | exact HB.out)⟩⟩
       ·replace c7 := Bool.eq_false_iff.mpr c7
        subst c7
        have H1 : (some false) = some r := by rw [if_neg (show ¬ (false = true) by decide)] at H; exact H
        clear H
        have H := H1
        clear H1
        obtain rfl := Option.some.inj H
        have p101 : 0 ≤ (x10_1 : Int) := of_decide_eq_true yq52
        have q101 : x10_1 < (l0.length : Int) := of_decide_eq_true yq52
        obtain ⟨ad101, e101, hx101_0, hx101_1, hx101_2, hx101_3⟩ := at_T64 HR0.out x10_1 p101 q101
        cases e101
        replace hx101_0 := (HB.out.cell (World.block_lt_of_cell? w _ hx101_0)).trans hx101_0
        replace hx101_1 := (HB.out.cell (World.block_lt_of_cell? w _ hx101_1)).trans hx101_1
        replace hx101_2 := (HB.out.cell (World.block_lt_of_cell? w _ hx101_2)).trans hx101_2
        replace hx101_3 := (HB.out.cell (World.block_lt_of_cell? w _ hx101_3)).trans hx101_3
        replace p101 := eq_true p101
        replace q101 := eq_true q101
        try go_wp2_with (first | ((with_reducible refine qb1 (N := 4) rfl ?_); refine qz ?hg (N := 4) ?hd (cs := #[.string (⟨#[]⟩ : ByteArray), .int .i64 0, .int .i64 0, .string (⟨#[]⟩ : ByteArray)]) (t := 64) ?hr ?_; (case hd => rfl); (case hg => rfl); (case hr => first | (go_simp; done) | (go_simp; rfl)); intro gb102 hg w31 hbox hb; have BK102 := Qz.mk (hbox); have GW102 := Qz.mk ((by rw [hg]; exact (qv yq50) : w.heap.size ≤ gb102)); have GE102 := GW102; replace HB := Qz.mk (ql yq50 hb); clear hb hbox hg; have hcz32_0 : w31.cell? ⟨gb102, 0, none⟩ = some (.string (⟨#[]⟩ : ByteArray)) := (qf BK102.out 0).trans rfl; have hcz32_1 : w31.cell? ⟨gb102, 1, none⟩ = some (.int .i64 0) := (qf BK102.out 1).trans rfl; have hcz32_2 : w31.cell? ⟨gb102, 2, none⟩ = some (.int .i64 0) := (qf BK102.out 2).trans rfl; have hcz32_3 : w31.cell? ⟨gb102, 3, none⟩ = some (.string (⟨#[]⟩ : ByteArray)) := (qf BK102.out 3).trans rfl; have hfz32_0 := qe BK102.out 0; have hfz32_1 := qe BK102.out 1; have hfz32_2 := qe BK102.out 2; have hfz32_3 := qe BK102.out 3))
        have n0_ : Qz (((((w31.setCell ⟨gb102, 0, none⟩ (.string ((qk l0 x10_1).f0.f0))).setCell ⟨gb102, 1, none⟩ (.int .i64 ((qk l0 x10_1).f0.f1))).setCell ⟨gb102, 2, none⟩ (.int .i64 ((qk l0 x10_1).f0.f2))).setCell ⟨gb102, 3, none⟩ (.string ((qk l0 x10_1).f1))).heap[gb102]? = some (.cells #[.string ((qk l0 x10_1).f0.f0), .int .i64 ((qk l0 x10_1).f0.f1), .int .i64 ((qk l0 x10_1).f0.f2), .string ((qk l0 x10_1).f1)] 64 (0, 0))) := ⟨by (with_reducible repeat (first | refine qg ?_ _ | refine qi ?_ | refine qh ?_ _)); refine qw (cs := #[.string ((qk l0 x10_1).f0.f0), .int .i64 ((qk l0 x10_1).f0.f1), .int .i64 ((qk l0 x10_1).f0.f2), .string (⟨#[]⟩ : ByteArray)]) ?_ 3 _ rfl; (with_reducible repeat (first | refine qg ?_ _ | refine qi ?_ | refine qh ?_ _)); refine qw (cs := #[.string ((qk l0 x10_1).f0.f0), .int .i64 ((qk l0 x10_1).f0.f1), .int .i64 0, .string (⟨#[]⟩ : ByteArray)]) ?_ 2 _ rfl; (with_reducible repeat (first | refine qg ?_ _ | refine qi ?_ | refine qh ?_ _)); refine qw (cs := #[.string ((qk l0 x10_1).f0.f0), .int .i64 0, .int .i64 0, .string (⟨#[]⟩ : ByteArray)]) ?_ 1 _ rfl; (with_reducible repeat (first | refine qg ?_ _ | refine qi ?_ | refine qh ?_ _)); refine qw (cs := #[.string (⟨#[]⟩ : ByteArray), .int .i64 0, .int .i64 0, .string (⟨#[]⟩ : ByteArray)]) ?_ 0 _ rfl; (with_reducible repeat (first | refine qg ?_ _ | refine qi ?_ | refine qh ?_ _)); exact BK102.out⟩
        have n1_ : Qz (Below w.heap.size w ((((w31.setCell ⟨gb102, 0, none⟩ (.string ((qk l0 x10_1).f0.f0))).setCell ⟨gb102, 1, none⟩ (.int .i64 ((qk l0 x10_1).f0.f1))).setCell ⟨gb102, 2, none⟩ (.int .i64 ((qk l0 x10_1).f0.f2))).setCell ⟨gb102, 3, none⟩ (.string ((qk l0 x10_1).f1)))) := ⟨by repeat (first | (with_reducible first | exact HB.out | apply qc | apply qa | apply qb | refine qd ?_ GE102.out) | exact HB.out)⟩
        (try clear BK102)
        (try clear HB)
        generalize ((((w31.setCell ⟨gb102, 0, none⟩ (.string ((qk l0 x10_1).f0.f0))).setCell ⟨gb102, 1, none⟩ (.int .i64 ((qk l0 x10_1).f0.f1))).setCell ⟨gb102, 2, none⟩ (.int .i64 ((qk l0 x10_1).f0.f2))).setCell ⟨gb102, 3, none⟩ (.string ((qk l0 x10_1).f1))) = w33 at n0_ n1_ ⊢
        have BK102 := n0_
        have HB := n1_
        clear n0_ n1_
        replace BK102 := Qz.mk (qi BK102.out)
        replace HB := Qz.mk (qb HB.out)
        refine start_ (n := 19) (S := fun w' => w'.cell? ⟨gb102, 0, none⟩ = some (.string ((qk l0 x10_1).f0.f0)) ∧ w'.cell? ⟨gb102, 1, none⟩ = some (.int .i64 ((qk l0 x10_1).f0.f1)) ∧ w'.cell? ⟨gb102, 2, none⟩ = some (.int .i64 ((qk l0 x10_1).f0.f2)) ∧ w'.cell? ⟨gb102, 3, none⟩ = some (.string ((qk l0 x10_1).f1))) (ds := []) bq1 (by kernel_rfl) rfl rfl ⟨(qf BK102.out 0).trans rfl, (qf BK102.out 1).trans rfl, (qf BK102.out 2).trans rfl, (qf BK102.out 3).trans rfl⟩ (fun hHeld => ?_); refine with_tabW impl_EntriesOk.tab6 impl_EntriesOk.bits6 (fun HT_ HW_ => ?_)
        generalize w33.drew = w34 at BK102 HB hHeld ⊢
        refine take_ (i := 0) (N := some 15) (v := ?_) (a' := ?_) bq7 rfl rfl (take_ofW HT_.out HW_.out (by kernel_rfl)) (fun _ _ _ h => h) (Or.inl ⟨by rfl, ?_⟩) hHeld ?_ ?_
        rotate_left
        ·rintro w' ⟨s0, s1, s2, s3⟩
         go_simp
         with_reducible rfl
        rotate_left
        ·simp only [Act.put, sq1, sq2, sq3, i64_w, i32_w]
         rfl
        refine one_ (i := 1) (N := some 16) bq18 rfl rfl (one_of HT_.out (by kernel_rfl)) (by decide) (fun K hK => ?_)
        refine goes_ Try.func108 (by kernel_rfl) rfl #[.agg #[.string ((qk l0 x10_1).f0.f0), .int .i64 ((qk l0 x10_1).f0.f1), .int .i64 ((qk l0 x10_1).f0.f2), .string ((qk l0 x10_1).f1)]] (by rfl) rfl rfl yq54 ?_
        with_reducible refine (impl_EntryOk.calls ((qk l0 x10_1).f0.f0) ((qk l0 x10_1).f0.f1) ((qk l0 x10_1).f0.f2) ((qk l0 x10_1).f1) false _ A6.out).mono ?_
        rintro e w35 ⟨rfl, hb⟩
        refine ⟨_, rfl, ?_⟩
        replace BK102 := Qz.mk (qu (g := gb102) (o := .cells #[.string ((qk l0 x10_1).f0.f0), .int .i64 ((qk l0 x10_1).f0.f1), .int .i64 ((qk l0 x10_1).f0.f2), .string ((qk l0 x10_1).f1)] 64 (0, 0)) yq53 hb)
        replace HB := Qz.mk (ql yq51 hb)
        (try clear hb)
        refine hK.out _ _ ⟨(qf BK102.out 0).trans rfl, (qf BK102.out 1).trans rfl, (qf BK102.out 2).trans rfl, (qf BK102.out 3).trans rfl⟩ (fun hHeld => ?_)
        clear hK K
        refine norm_ (a' := ?_) ?_ ?_
        rotate_left
        ·show Act.put _ (some 16) _ = _
         simp only [Act.put, sq1, sq2, sq3, i64_w, i32_w]
         rfl
        refine pure_ (i := 2) (N := some 17) (v := ?_) (a' := ?_) bq28 rfl rfl (qr HT_.out (by kernel_rfl)) (fun _ _ _ h => h) (Or.inl ⟨by rfl, ?_⟩) ?_ ?_
        rotate_left
        ·intro w'
         go_simp
         with_reducible rfl
        rotate_left
        ·simp only [Act.put, sq1, sq2, sq3, i64_w, i32_w]
         rfl
        refine pure_ (i := 3) (N := some 18) (v := ?_) (a' := ?_) bq41 rfl rfl (qr HT_.out (by kernel_rfl)) (fun _ _ _ h => h) (Or.inl ⟨by rfl, ?_⟩) ?_ ?_
        rotate_left
        ·intro w'
         go_simp
         with_reducible rfl
        rotate_left
        ·simp only [Act.put, sq1, sq2, sq3, i64_w, i32_w]
         rfl
        refine pure_ (i := 4) (N := some 19) (v := undef) (a' := ?_) bq47 rfl rfl (qr HT_.out (by kernel_rfl)) (fun _ _ _ h => h) (Or.inr ⟨by rfl, rfl⟩) ?_ ?_
        rotate_left
        ·simp only [Act.put, sq1, sq2, sq3, i64_w, i32_w]
         rfl
        refine pure_ (i := 5) (N := some 20) (v := undef) (a' := ?_) bq52 rfl rfl (qr HT_.out (by kernel_rfl)) (fun _ _ _ h => h) (Or.inr ⟨by rfl, rfl⟩) ?_ ?_
        rotate_left
        ·simp only [Act.put, sq1, sq2, sq3, i64_w, i32_w]
         rfl
        refine pure_ (i := 6) (N := some 21) (v := undef) (a' := ?_) bq57 rfl rfl (qr HT_.out (by kernel_rfl)) (fun _ _ _ h => h) (Or.inr ⟨by rfl, rfl⟩) ?_ ?_
        rotate_left
        ·simp only [Act.put, sq1, sq2, sq3, i64_w, i32_w]
         rfl
        refine pure_ (i := 7) (N := some 22) (v := undef) (a' := ?_) bq62 rfl rfl (qr HT_.out (by kernel_rfl)) (fun _ _ _ h => h) (Or.inr ⟨by rfl, rfl⟩) ?_ ?_
        rotate_left
        ·simp only [Act.put, sq1, sq2, sq3, i64_w, i32_w]
         rfl
        refine pure_ (i := 8) (N := some 23) (v := undef) (a' := ?_) bq67 rfl rfl (qr HT_.out (by kernel_rfl)) (fun _ _ _ h => h) (Or.inr ⟨by rfl, rfl⟩) ?_ ?_
        rotate_left
        ·simp only [Act.put, sq1, sq2, sq3, i64_w, i32_w]
         rfl
        refine pure_ (i := 9) (N := some 24) (v := undef) (a' := ?_) bq75 rfl rfl (qr HT_.out (by kernel_rfl)) (fun _ _ _ h => h) (Or.inr ⟨by rfl, rfl⟩) ?_ ?_
        rotate_left
        ·simp only [Act.put, sq1, sq2, sq3, i64_w, i32_w]
         rfl
        refine pure_ (i := 10) (N := some 25) (v := undef) (a' := ?_) bq79 rfl rfl (qr HT_.out (by kernel_rfl)) (fun _ _ _ h => h) (Or.inr ⟨by rfl, rfl⟩) ?_ ?_
        rotate_left
        ·simp only [Act.put, sq1, sq2, sq3, i64_w, i32_w]
         rfl
        refine pure_ (i := 11) (N := some 26) (v := undef) (a' := ?_) bq84 rfl rfl (qr HT_.out (by kernel_rfl)) (fun _ _ _ h => h) (Or.inr ⟨by rfl, rfl⟩) ?_ ?_
        rotate_left
        ·simp only [Act.put, sq1, sq2, sq3, i64_w, i32_w]
         rfl
        refine pure_ (i := 12) (N := some 27) (v := undef) (a' := ?_) bq89 rfl rfl (qr HT_.out (by kernel_rfl)) (fun _ _ _ h => h) (Or.inr ⟨by rfl, rfl⟩) ?_ ?_
        rotate_left
        ·simp only [Act.put, sq1, sq2, sq3, i64_w, i32_w]
         rfl
        refine pure_ (i := 13) (N := some 28) (v := undef) (a' := ?_) bq93 rfl rfl (qr HT_.out (by kernel_rfl)) (fun _ _ _ h => h) (Or.inr ⟨by rfl, rfl⟩) ?_ ?_
        rotate_left
        ·simp only [Act.put, sq1, sq2, sq3, i64_w, i32_w]
         rfl
        refine pure_ (i := 14) (N := some 29) (v := undef) (a' := ?_) bq96 rfl rfl (qr HT_.out (by kernel_rfl)) (fun _ _ _ h => h) (Or.inr ⟨by rfl, rfl⟩) ?_ ?_
        rotate_left
        ·simp only [Act.put, sq1, sq2, sq3, i64_w, i32_w]
         rfl
        refine pure_ (i := 15) (N := some 30) (v := undef) (a' := ?_) bq103 rfl rfl (qr HT_.out (by kernel_rfl)) (fun _ _ _ h => h) (Or.inr ⟨by rfl, rfl⟩) ?_ ?_
        rotate_left
        ·simp only [Act.put, sq1, sq2, sq3, i64_w, i32_w]
         rfl
        refine pure_ (i := 16) (N := some 31) (v := undef) (a' := ?_) bq106 rfl rfl (qr HT_.out (by kernel_rfl)) (fun _ _ _ h => h) (Or.inr ⟨by rfl, rfl⟩) ?_ ?_
        rotate_left
        ·simp only [Act.put, sq1, sq2, sq3, i64_w, i32_w]
         rfl
        refine pure_ (i := 17) (N := some 32) (v := undef) (a' := ?_) bq109 rfl rfl (qr HT_.out (by kernel_rfl)) (fun _ _ _ h => h) (Or.inr ⟨by rfl, rfl⟩) ?_ ?_
        rotate_left
        ·simp only [Act.put, sq1, sq2, sq3, i64_w, i32_w]
         rfl
        refine pure_ (i := 18) (N := some 33) (v := ?_) (a' := ?_) bq117 rfl rfl (qr HT_.out (by kernel_rfl)) (fun _ _ _ h => h) (Or.inl ⟨by rfl, ?_⟩) ?_ ?_
        rotate_left
        ·intro w'
         go_simp
         with_reducible rfl
        rotate_left
        ·simp only [Act.put, sq1, sq2, sq3, i64_w, i32_w]
         rfl
        refine done_ (done_of HT_.out (by kernel_rfl)) ?_
        try go_wp2
        go_ret
        exact ⟨by first | rfl | (simp [qn, qm] <;> rfl) | (simp [*, qn, qm] <;> rfl), by repeat (first | (with_reducible first | exact HB.out | apply qc | apply qa | apply qb | refine qd ?_ GE102.out) | exact HB.out)⟩
      ·rw [if_neg c5] at H
       exact absurd H (by simp)
     ·rw [if_neg c4] at H
      exact absurd H (by simp)
    ·rw [if_neg c3] at H
     have c3b0 : decide (x10_1 < (l0.length : Int)) = false := decide_eq_false c3
     clear c3
     obtain rfl := Option.some.inj H
     go_wp2
     go_ret
     exact ⟨by first | rfl | (simp [qn, qm] <;> rfl) | (simp [*, qn, qm] <;> rfl), by repeat (first | (with_reducible first | exact HB.out | apply qc | apply qa | apply qb) | exact HB.out)⟩
def impl_PutFixed.f (a0 : Int) : Option (ByteArray) := some (strOfNums (([(a0) % 256, (a0 / 256) % 256, (a0 / 65536) % 256, (a0 / 16777216) % 256] : List Int)))
set_option maxHeartbeats 8000000 in
set_option maxRecDepth 100000 in
theorem impl_PutFixed.calls (a0 : Int) (r : ByteArray) (w : World) (h : impl_PutFixed.f a0 = some r) :
  Calls Try.prog 146 #[.int .u32 a0] w fun e w' => e = .returned (.string r) ∧ Below w.heap.size w w' := by
 have HB := Qz.mk (Below.refl w.heap.size w)
 have H : (some (strOfNums (([(a0) % 256, (a0 / 256) % 256, (a0 / 65536) % 256, (a0 / 16777216) % 256] : List Int)))) = some r := h
 clear h
 obtain ⟨y101, hy101⟩ : ∃ y_ : List Int, y_ = (([(a0) % 256, (a0 / 256) % 256, (a0 / 65536) % 256, (a0 / 16777216) % 256] : List Int)) := ⟨_, rfl⟩
 replace H : (some (strOfNums y101)) = some r := by first | (rw [hy101]; with_reducible exact H) | (have H2_ := (Option.bind_some _ _).symm.trans H; rw [hy101]; with_reducible exact H2_) | (have H2_ := (Option.bind_some _ _).symm.trans H; with_reducible exact H2_) | with_reducible exact H | (rw [hy101]; exact H) | exact H
 have Ny101 := Qz.mk hy101
 clear hy101
 obtain rfl := Option.some.inj H
 go_enter Try.func146, Try.ntmps146
 go_wp2_with (first | ((with_reducible refine qb1 (N := 14) rfl ?_); refine Kd.R_lit (Kd.int .u8) _ 5 ?hg (N := 14) ?hd (xs := ([(a0) % 256, (a0 / 256) % 256, (a0 / 65536) % 256, (a0 / 16777216) % 256] : List Int)) (inner := [.int .u8 ((a0) % 256), .int .u8 ((a0 / 256) % 256), .int .u8 ((a0 / 65536) % 256), .int .u8 ((a0 / 16777216) % 256)]) (ok := fun _ => True) (okp := fun _ => True) ?hr ?hp (fun _ hk => hk) trivial (Below.refl _ _) (Nat.le_refl _) (by simp) ?_; (case hd => rfl); (case hg => rfl); (case hr => first | (go_simp; done) | (go_simp; rfl)); (case hp => exact (Reps.one (show Kd.M (Kd.int .u8) _ _ _ ((a0) % 256) [.int .u8 ((a0) % 256)] from rfl) (Reps.one (show Kd.M (Kd.int .u8) _ _ _ ((a0 / 256) % 256) [.int .u8 ((a0 / 256) % 256)] from rfl) (Reps.one (show Kd.M (Kd.int .u8) _ _ _ ((a0 / 65536) % 256) [.int .u8 ((a0 / 65536) % 256)] from rfl) (Reps.one (show Kd.M (Kd.int .u8) _ _ _ ((a0 / 16777216) % 256) [.int .u8 ((a0 / 16777216) % 256)] from rfl) (Reps.none _ _)))))); intro v102 w2 ho3 hb hg_ hnew_; clear hg_ hnew_; (first | rw [← Ny101.out] at ho3 | (simp only [Int.reduceToNat] at ho3; rw [← Ny101.out] at ho3)); have HO103 := Qz.mk (Kd.R_lower ho3 (qv (by repeat (first | (with_reducible first | exact HB.out | apply qc | apply qa | apply qb) | exact HB.out)))); replace HB := Qz.mk (ql (by repeat (first | (with_reducible first | exact HB.out | apply qc | apply qa | apply qb) | exact HB.out)) hb); clear hb ho3; have hcv4 := own_string (P := Try.prog) Try.underlying42 Try.underlying5 Try.underlying9 (Kd.own_of_R HO103.out)))
 go_ret
 exact ⟨by first | rfl | (simp [qn, qm] <;> rfl) | (simp [*, qn, qm] <;> rfl), by repeat (first | (with_reducible first | exact HB.out | apply qc | apply qa | apply qb) | exact HB.out)⟩
def impl_keyText.f (a0_0 : ByteArray) (a0_1 : Int) (a0_2 : Int) : Option (ByteArray) := (impl_PutFixed.f ((IntKind.u64.wrap (wrap64 ((wrap64 (2 * a0_1)) + a0_2))) % 4294967296)).bind fun t102 => (if a0_0.size + t102.size ≤ 9223372036854775807 then ((impl_PutFixed.f (((IntKind.u64.wrap (wrap64 ((wrap64 (2 * a0_1)) + a0_2))) / 4294967296) % 4294967296)).bind fun t103 => (if a0_0.size + t102.size + t103.size ≤ 9223372036854775807 then (some ((a0_0 ++ t102) ++ t103)) else (none))) else (none))
def impl_keyText.T2 : Bool × List (List Nat × List Nat) := (true, [([], []), ([0], [0]), ([], []), ([2], [2]), ([3], [3]), ([1, 4], [1, 4]), ([], []), ([6], [6]), ([7], [7]), ([8, 4], [8]), ([5, 9], [5, 9]), ([10, 9, 0, 1, 2, 3, 4, 5, 6, 7, 8, 9, 10], [10])])
def impl_keyText.B2 : List Nat := [0, 1, 0, 4, 12, 31, 0, 64, 192, 476, 1023, 2047]
theorem impl_keyText.tab2 : rtab .any (opsOf Try.f145 2) = impl_keyText.T2 := by kernel_rfl
theorem impl_keyText.bits2 : waitsOk impl_keyText.T2.2 impl_keyText.B2 = true := by kernel_rfl
set_option maxHeartbeats 8000000 in
set_option maxRecDepth 100000 in
theorem impl_keyText.calls (a0_0 : ByteArray) (a0_1 : Int) (a0_2 : Int) (r : ByteArray) (w : World) (h : impl_keyText.f a0_0 a0_1 a0_2 = some r) :
  Calls Try.prog 145 #[.agg #[.string a0_0, .int .i64 a0_1, .int .i64 a0_2]] w fun e w' => e = .returned (.string r) ∧ Below w.heap.size w w' := by
 have hu35 := Try.underlying35
 have HB := Qz.mk (Below.refl w.heap.size w)
 have H : ((impl_PutFixed.f ((IntKind.u64.wrap (wrap64 ((wrap64 (2 * a0_1)) + a0_2))) % 4294967296)).bind fun t102 => (if a0_0.size + t102.size ≤ 9223372036854775807 then ((impl_PutFixed.f (((IntKind.u64.wrap (wrap64 ((wrap64 (2 * a0_1)) + a0_2))) / 4294967296) % 4294967296)).bind fun t103 => (if a0_0.size + t102.size + t103.size ≤ 9223372036854775807 then (some ((a0_0 ++ t102) ++ t103)) else (none))) else (none))) = some r := h
 clear h
 replace H := Option.bind_eq_some_iff.mp H
 obtain ⟨t102, A20, H⟩ := H
 replace H : (if a0_0.size + t102.size ≤ 9223372036854775807 then ((impl_PutFixed.f (((IntKind.u64.wrap (wrap64 ((wrap64 (2 * a0_1)) + a0_2))) / 4294967296) % 4294967296)).bind fun t103 => (if a0_0.size + t102.size + t103.size ≤ 9223372036854775807 then (some ((a0_0 ++ t102) ++ t103)) else (none))) else (none)) = some r := H
 have A2 := Qz.mk A20
 clear A20
 by_cases c3 : a0_0.size + t102.size ≤ 9223372036854775807
 ·rw [if_pos c3] at H
  have c3b0 := eq_true c3
  have c3b1 : decide (a0_0.size + t102.size ≤ 9223372036854775807) = true := decide_eq_true c3
  try have c3b2 : (9223372036854775807 < a0_0.size + t102.size) = False := eq_false (Nat.not_lt.2 c3)
  replace H := Option.bind_eq_some_iff.mp H
  obtain ⟨t103, A40, H⟩ := H
  replace H : (if a0_0.size + t102.size + t103.size ≤ 9223372036854775807 then (some ((a0_0 ++ t102) ++ t103)) else (none)) = some r := H
  have A4 := Qz.mk A40
  clear A40
  by_cases c5 : a0_0.size + t102.size + t103.size ≤ 9223372036854775807
  ·rw [if_pos c5] at H
   have c5b0 := eq_true c5
   have c5b1 : decide (a0_0.size + t102.size + t103.size ≤ 9223372036854775807) = true := decide_eq_true c5
   try have c5b2 : (9223372036854775807 < a0_0.size + t102.size + t103.size) = False := eq_false (Nat.not_lt.2 c5)
   obtain rfl := Option.some.inj H
   go_enter Try.func145, Try.ntmps145
   try go_wp2_with (first | ((with_reducible refine qb1 (N := 1) rfl ?_); refine qz ?hg (N := 1) ?hd (cs := #[.string a0_0, .int .i64 a0_1, .int .i64 a0_2]) (t := 35) ?hr ?_; (case hd => rfl); (case hg => rfl); (case hr => first | (go_simp; done) | (go_simp; rfl)); intro gb101 hg w6 hbox hb; have BK101 := Qz.mk (hbox); have GW101 := Qz.mk ((by rw [hg]; exact (qv (by repeat (first | (with_reducible first | exact HB.out | apply qc | apply qa | apply qb) | exact HB.out))) : w.heap.size ≤ gb101)); have GE101 := GW101; replace HB := Qz.mk (ql (by repeat (first | (with_reducible first | exact HB.out | apply qc | apply qa | apply qb) | exact HB.out)) hb); clear hb hbox hg; have hcz7_0 : w6.cell? ⟨gb101, 0, none⟩ = some (.string a0_0) := (qf BK101.out 0).trans rfl; have hcz7_1 : w6.cell? ⟨gb101, 1, none⟩ = some (.int .i64 a0_1) := (qf BK101.out 1).trans rfl; have hcz7_2 : w6.cell? ⟨gb101, 2, none⟩ = some (.int .i64 a0_2) := (qf BK101.out 2).trans rfl; have hfz7_0 := qe BK101.out 0; have hfz7_1 := qe BK101.out 1; have hfz7_2 := qe BK101.out 2))
   replace BK101 := Qz.mk (qi BK101.out)
   replace HB := Qz.mk (qb HB.out)
   refine start_ (n := 12) (S := fun w' => w'.cell? ⟨gb101, 0, none⟩ = some (.string a0_0) ∧ w'.cell? ⟨gb101, 1, none⟩ = some (.int .i64 a0_1) ∧ w'.cell? ⟨gb101, 2, none⟩ = some (.int .i64 a0_2)) (ds := []) bq5 (by kernel_rfl) rfl rfl ⟨(qf BK101.out 0).trans rfl, (qf BK101.out 1).trans rfl, (qf BK101.out 2).trans rfl⟩ (fun hHeld => ?_); refine with_tabW impl_keyText.tab2 impl_keyText.bits2 (fun HT_ HW_ => ?_)
   generalize w6.drew = w8 at BK101 HB hHeld ⊢
   refine pure_ (i := 0) (N := some 11) (v := ?_) (a' := ?_) bq11 rfl rfl (qr HT_.out (by kernel_rfl)) (fun _ _ _ h => h) (Or.inl ⟨by rfl, ?_⟩) ?_ ?_
   rotate_left
   ·intro w'
    go_simp
    with_reducible rfl
   rotate_left
   ·simp only [Act.put, sq1, sq2, sq3, i64_w, i32_w]
    rfl
   refine pure_ (i := 2) (N := some 13) (v := ?_) (a' := ?_) bq12 rfl rfl (qr HT_.out (by kernel_rfl)) (fun _ _ _ h => h) (Or.inl ⟨by rfl, ?_⟩) ?_ ?_
   rotate_left
   ·intro w'
    go_simp
    with_reducible rfl
   rotate_left
   ·simp only [Act.put, sq1, sq2, sq3, i64_w, i32_w]
    rfl
   refine pure_ (i := 3) (N := some 14) (v := ?_) (a' := ?_) bq13 rfl rfl (qr HT_.out (by kernel_rfl)) (fun _ _ _ h => h) (Or.inl ⟨by rfl, ?_⟩) ?_ ?_
   rotate_left
   ·intro w'
    go_simp
    with_reducible rfl
   rotate_left
   ·simp only [Act.put, sq1, sq2, sq3, i64_w, i32_w]
    rfl
   refine pure_ (i := 6) (N := some 17) (v := ?_) (a' := ?_) bq14 rfl rfl (qr HT_.out (by kernel_rfl)) (fun _ _ _ h => h) (Or.inl ⟨by rfl, ?_⟩) ?_ ?_
   rotate_left
   ·intro w'
    go_simp
    with_reducible rfl
   rotate_left
   ·simp only [Act.put, sq1, sq2, sq3, i64_w, i32_w]
    rfl
   refine pure_ (i := 7) (N := some 18) (v := ?_) (a' := ?_) bq15 rfl rfl (qr HT_.out (by kernel_rfl)) (fun _ _ _ h => h) (Or.inl ⟨by rfl, ?_⟩) ?_ ?_
   rotate_left
   ·intro w'
    go_simp
    with_reducible rfl
   rotate_left
   ·simp only [Act.put, sq1, sq2, sq3, i64_w, i32_w]
    rfl
   refine pure_ (i := 8) (N := some 19) (v := ?_) (a' := ?_) bq16 rfl rfl (qr HT_.out (by kernel_rfl)) (fun _ _ _ h => h) (Or.inl ⟨by rfl, ?_⟩) ?_ ?_
   rotate_left
   ·intro w'
    go_simp
    with_reducible rfl
   rotate_left
   ·simp only [Act.put, sq1, sq2, sq3, i64_w, i32_w]
    rfl
   refine take_ (i := 1) (N := some 12) (v := ?_) (a' := ?_) bq44 rfl rfl (take_ofW HT_.out HW_.out (by kernel_rfl)) (fun _ _ _ h => h) (Or.inl ⟨by rfl, ?_⟩) hHeld ?_ ?_
   rotate_left
   ·rintro w' ⟨s0, s1, s2⟩
    go_simp
    with_reducible rfl
   rotate_left
   ·simp only [Act.put, sq1, sq2, sq3, i64_w, i32_w]
    rfl
   refine one_ (i := 4) (N := some 15) bq50 rfl rfl (one_of HT_.out (by kernel_rfl)) (by decide) (fun K hK => ?_)
   refine goes_ Try.func146 (by kernel_rfl) rfl #[.int .u32 ((IntKind.u64.wrap (wrap64 ((wrap64 (2 * a0_1)) + a0_2))) % 4294967296)] (by rfl) rfl rfl (by (try simp only [List.map_toArray, List.map_cons, List.map_nil]); first | done | rfl | (simp only [List.length_drop, List.length_take]; rfl) | (rw [IntWalk.u64_in _ (by omega)] <;> rfl)) ?_
   with_reducible refine (impl_PutFixed.calls ((IntKind.u64.wrap (wrap64 ((wrap64 (2 * a0_1)) + a0_2))) % 4294967296) t102 _ A2.out).mono ?_
   rintro e w9 ⟨rfl, hb⟩
   refine ⟨_, rfl, ?_⟩
   replace BK101 := Qz.mk (qu (g := gb101) (o := .cells #[.string a0_0, .int .i64 a0_1, .int .i64 a0_2] 35 (0, 0)) (by (with_reducible repeat (first | refine qg ?_ _ | refine qi ?_ | refine qh ?_ _)); exact BK101.out) hb)
   replace HB := Qz.mk (ql (by repeat (first | (with_reducible first | exact HB.out | apply qc | apply qa | apply qb | refine qd ?_ GE101.out) | exact HB.out)) hb)
   (try clear hb)
   refine hK.out _ _ ⟨(qf BK101.out 0).trans rfl, (qf BK101.out 1).trans rfl, (qf BK101.out 2).trans rfl⟩ (fun hHeld => ?_)
   clear hK K
   refine norm_ (a' := ?_) ?_ ?_
   rotate_left
   ·show Act.put _ (some 15) _ = _
    simp only [Act.put, sq1, sq2, sq3, i64_w, i32_w]
    rfl
   refine pure_ (i := 5) (N := some 16) (v := ?_) (a' := ?_) bq70 rfl rfl (qr HT_.out (by kernel_rfl)) (fun _ _ _ h => h) (Or.inl ⟨by rfl, ?_⟩) ?_ ?_
   rotate_left
   ·intro w'
    go_simp
    with_reducible rfl
   rotate_left
   ·simp only [Act.put, sq1, sq2, sq3, i64_w, i32_w]
    rfl
   refine one_ (i := 9) (N := some 20) bq77 rfl rfl (one_of HT_.out (by kernel_rfl)) (by decide) (fun K hK => ?_)
   refine goes_ Try.func146 (by kernel_rfl) rfl #[.int .u32 (((IntKind.u64.wrap (wrap64 ((wrap64 (2 * a0_1)) + a0_2))) / 4294967296) % 4294967296)] (by rfl) rfl rfl (by (try simp only [List.map_toArray, List.map_cons, List.map_nil]); first | done | rfl | (simp only [List.length_drop, List.length_take]; rfl) | (rw [IntWalk.u64_in _ (by omega)] <;> rfl)) ?_
   with_reducible refine (impl_PutFixed.calls (((IntKind.u64.wrap (wrap64 ((wrap64 (2 * a0_1)) + a0_2))) / 4294967296) % 4294967296) t103 _ A4.out).mono ?_
   rintro e w10 ⟨rfl, hb⟩
   refine ⟨_, rfl, ?_⟩
   replace BK101 := Qz.mk (qu (g := gb101) (o := .cells #[.string a0_0, .int .i64 a0_1, .int .i64 a0_2] 35 (0, 0)) (by (with_reducible repeat (first | refine qg ?_ _ | refine qi ?_ | refine qh ?_ _)); exact BK101.out) hb)
   replace HB := Qz.mk (ql (by repeat (first | (with_reducible first | exact HB.out | apply qc | apply qa | apply qb | refine qd ?_ GE101.out) | exact HB.out)) hb)
   (try clear hb)
   refine hK.out _ _ ⟨(qf BK101.out 0).trans rfl, (qf BK101.out 1).trans rfl, (qf BK101.out 2).trans rfl⟩ (fun hHeld => ?_)
   clear hK K
   refine norm_ (a' := ?_) ?_ ?_
   rotate_left
   ·show Act.put _ (some 20) _ = _
    simp only [Act.put, sq1, sq2, sq3, i64_w, i32_w]
    rfl
   refine pure_ (i := 10) (N := some 21) (v := ?_) (a' := ?_) bq82 rfl rfl (qr HT_.out (by kernel_rfl)) (fun _ _ _ h => h) (Or.inl ⟨by rfl, ?_⟩) ?_ ?_
   rotate_left
   ·intro w'
    go_simp
    with_reducible rfl
   rotate_left
   ·simp only [Act.put, sq1, sq2, sq3, i64_w, i32_w]
    rfl
   refine pure_ (i := 11) (N := some 2) (v := ?_) (a' := ?_) bq121 rfl rfl (qr HT_.out (by kernel_rfl)) (fun _ _ _ h => h) (Or.inl ⟨by rfl, ?_⟩) ?_ ?_
   rotate_left
   ·intro w'
    go_simp
    with_reducible rfl
   rotate_left
   ·simp only [Act.put, sq1, sq2, sq3, i64_w, i32_w]
    rfl
   refine done_ (done_of HT_.out (by kernel_rfl)) ?_
   try go_wp2
   go_ret
   exact ⟨by first | rfl | (simp [qn, qm] <;> rfl) | (simp [*, qn, qm] <;> rfl), by repeat (first | (with_reducible first | exact HB.out | apply qc | apply qa | apply qb | refine qd ?_ GE101.out) | exact HB.out)⟩
  ·rw [if_neg c5] at H
   exact absurd H (by simp)
 ·rw [if_neg c3] at H
  exact absurd H (by simp)
theorem yq55 {P : Prop} (h : P := by first | (with_reducible assumption) | assumption) : P := h
def impl_SharedWith.l0 : Nat → ByteArray → ByteArray → Int → Option (Int)
 | 0, _, _, _ => none
 | k + 1, x0, x1, x5 => if x5 < (x0.size : Int) then (if x5 < (x1.size : Int) then (if 0 ≤ x5 then (if (bt x0 x5) = (bt x1 x5) then (impl_SharedWith.l0 k x0 x1 (wrap64 (x5 + 1))) else (some x5)) else (none)) else (some x5)) else (some x5)
def impl_SharedWith.f (k : Nat) (a0 : ByteArray) (a1 : ByteArray) : Option (Int) := impl_SharedWith.l0 k a0 a1 0
set_option maxHeartbeats 8000000 in
set_option maxRecDepth 100000 in
theorem impl_SharedWith.calls (k : Nat) (a0 : ByteArray) (a1 : ByteArray) (r : Int) (w : World) (h : impl_SharedWith.f k a0 a1 = some r) :
  Calls Try.prog 147 #[.string a0, .string a1] w fun e w' => e = .returned (.int .i64 r) ∧ Drawn0 w w' := by
 have H : (impl_SharedWith.l0 k a0 a1 0) = some r := h
 clear h
 have H' := Qz.mk H
 clear H
 go_enter Try.func147, Try.ntmps147
 go_wp2
 repeat (go_quiet (fail); try go_wp2)
 go_loopg [5] k (fun kq v5 w' => ∃ (x5_1 : Int), v5 = .int .i64 x5_1 ∧ Qz (impl_SharedWith.l0 kq a0 a1 x5_1 = some r) ∧ Qz (kq ≤ k) ∧ Drawn0 w w')
 case atStart => exact ⟨(0), (by first | rfl | (simp; done) | (simp [*]; done)), H', ⟨Nat.le_refl _⟩, by repeat (first | exact Drawn0.refl _ | apply Drawn0.step)⟩
 case round =>
  clear H'
  try clear c1
  try clear p2
  obtain ⟨x5_1, rfl, HA, HK1, ⟨m1, rfl⟩⟩ := hrel
  cases gk with
  | zero => exact absurd HA.out (by simp [impl_SharedWith.l0])
  | succ k1 =>
   have H := HA.out
   clear HA
   simp only [impl_SharedWith.l0] at H
   by_cases c3 : x5_1 < (a0.size : Int)
   ·rw [if_pos c3] at H
    have c3b0 : decide (x5_1 < (a0.size : Int)) = true := decide_eq_true c3
    clear c3
    by_cases c4 : x5_1 < (a1.size : Int)
    ·rw [if_pos c4] at H
     have c4b0 : decide (x5_1 < (a1.size : Int)) = true := decide_eq_true c4
     clear c4
     by_cases c5 : 0 ≤ x5_1
     ·rw [if_pos c5] at H
      have c5b0 : decide (0 ≤ x5_1) = true := decide_eq_true c5
      clear c5
      by_cases c8 : (bt a0 x5_1) = (bt a1 x5_1)
      ·rw [if_pos c8] at H
       have c8b0 : ((bt a0 x5_1) == (bt a1 x5_1)) = true := beq_iff_eq.mpr c8
       have c8b1 : ((bt a0 x5_1) != (bt a1 x5_1)) = false := bne_eq_false_iff_eq.mpr c8
       clear c8
       have H' := Qz.mk H
       clear H
       have p6 : 0 ≤ (x5_1 : Int) := of_decide_eq_true yq55
       have q6 : x5_1 < (a0.size : Int) := of_decide_eq_true yq55
       have hx6 := bt_at a0 x5_1
       replace p6 := eq_true p6
       replace q6 := eq_true q6
       have p7 : 0 ≤ (x5_1 : Int) := of_decide_eq_true yq55
       have q7 : x5_1 < (a1.size : Int) := of_decide_eq_true yq55
       have hx7 := bt_at a1 x5_1
       replace p7 := eq_true p7
       replace q7 := eq_true q7
       go_wp2
       repeat (go_quiet (fail); try go_wp2)
       go_roundg k1
       case measure => have := HK1.out; omega
       case rel => exact ⟨(wrap64 (x5_1 + 1)), (by first | rfl | (simp; done) | (simp [*]; done)), H', ⟨by have := HK1.out; omega⟩, by repeat (first | exact Drawn0.refl _ | apply Drawn0.step)⟩
      ·rw [if_neg c8] at H
       have c8b0 : ((bt a0 x5_1) == (bt a1 x5_1)) = false := beq_eq_false_iff_ne.mpr c8
       have c8b1 : ((bt a0 x5_1) != (bt a1 x5_1)) = true := bne_iff_ne.mpr c8
       obtain rfl := Option.some.inj H
       have p6 : 0 ≤ (x5_1 : Int) := of_decide_eq_true yq55
       have q6 : x5_1 < (a0.size : Int) := of_decide_eq_true yq55
       have hx6 := bt_at a0 x5_1
       replace p6 := eq_true p6
       replace q6 := eq_true q6
       have p7 : 0 ≤ (x5_1 : Int) := of_decide_eq_true yq55
       have q7 : x5_1 < (a1.size : Int) := of_decide_eq_true yq55
       have hx7 := bt_at a1 x5_1
       replace p7 := eq_true p7
       replace q7 := eq_true q7
       go_wp2
       repeat (go_quiet (fail); try go_wp2)
       go_ret
       exact ⟨by first | rfl | (simp; done) | (simp [*]; done), by repeat (first | exact Drawn0.refl _ | apply Drawn0.step)⟩
     ·rw [if_neg c5] at H
      exact absurd H (by simp)
    ·rw [if_neg c4] at H
     have c4b0 : decide (x5_1 < (a1.size : Int)) = false := decide_eq_false c4
     clear c4
     obtain rfl := Option.some.inj H
     go_wp2
     repeat (go_quiet (fail); try go_wp2)
     go_ret
     exact ⟨by first | rfl | (simp; done) | (simp [*]; done), by repeat (first | exact Drawn0.refl _ | apply Drawn0.step)⟩
   ·rw [if_neg c3] at H
    have c3b0 : decide (x5_1 < (a0.size : Int)) = false := decide_eq_false c3
    clear c3
    obtain rfl := Option.some.inj H
    go_wp2
    repeat (go_quiet (fail); try go_wp2)
    go_ret
    exact ⟨by first | rfl | (simp; done) | (simp [*]; done), by repeat (first | exact Drawn0.refl _ | apply Drawn0.step)⟩
end Go.Proofs.Ytidjdkodgddfcaa.P
end
