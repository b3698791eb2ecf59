/- Proved: the law FnExactBlockSeek of the given program returns true for every input of its Go types and leaves each argument as it was; no condition. (Part 11 of 13.) -/
import Derived.Test.YtidjdkodgddfcaaCFnExactBlockSeek4
import Derived.Test.YtidjdkodgddfcaaCFnExactBlockSeek7
import Derived.ProofKit
import Derived.WideShapes
import Derived.DataReads
import Derived.ChangeArms
import Derived.Lib.SmallJoins
import Derived.Test.YtidjdkodgddfcaaCFnExactBlockSeek9
import Derived.Test.YtidjdkodgddfcaaCFnExactBlockSeek5
import Derived.Test.YtidjdkodgddfcaaCFnExactBlockSeek8
section
namespace Go.Proofs.Ytidjdkodgddfcaa.P
open Go.RowKit Go.Proofs.YtidjdkodgddfcaaW.PrintWords Go.Proofs.YtidjdkodgddfcaaW.PrintLast Go.Proofs.YtidjdkodgddfcaaW.PrintMore
attribute [local go_sem] str_gtr str_leq str_geq max2_int min2_int max_two min_two max_three min_three max_four min_four
set_option linter.unusedVariables false
set_option linter.unusedSimpArgs false
def Opens {α : Type} (P : Program) (d : Kd α) (t : TypeId) (wf : α → Prop) : Prop :=
  ∀ {H : Type} (enc : TypeId × Value → H) (w : World) (fuel : Nat) (cs : List Value) (x : DataW H × List MemPlace), DataW.trod enc P w 0 (fun _ => true) true fuel t cs = some x → ∃ a, d.K w a cs ∧ wf a
theorem opens_i64 {P : Program} {t : TypeId} (ht : P.underlying t = some (.int .i64)) : Opens P (Kd.int .i64) t (fun n => -9223372036854775808 ≤ n ∧ n ≤ 9223372036854775807) := by
  intro H enc w fuel cs x h
  obtain ⟨n, rfl, _, hw⟩ := DataW.trod_int ht h
  exact ⟨n, rfl, by simpa [Lit.wf, IntKind.min, IntKind.max, IntKind.signed, IntKind.bits] using hw⟩
theorem opens_str {P : Program} {t : TypeId} (ht : P.underlying t = some .string) : Opens P Kd.string t (fun s => s.size ≤ 9223372036854775807) := by
  intro H enc w fuel cs x h
  obtain ⟨n, rfl, _, hw⟩ := DataW.trod_string ht h
  exact ⟨n, rfl, by simpa [Go.maxLen] using hw⟩
end Go.Proofs.Ytidjdkodgddfcaa.P
end

section
namespace Go.Proofs.Ytidjdkodgddfcaa.Pure
open Go.RowKit Go.Proofs.YtidjdkodgddfcaaW.PrintWords Go.Proofs.YtidjdkodgddfcaaW.PrintLast Go.Proofs.YtidjdkodgddfcaaW.PrintMore
open Go.Proofs.Ytidjdkodgddfcaa.P
set_option linter.unusedVariables false
set_option linter.unusedSimpArgs false
noncomputable def seekV (l : List S64) (u : ByteArray) (q d : Int) : Int := if isRow l ∧ isK u q d then ((bsc l ⟨⟨u, q, d⟩, ⟨#[]⟩⟩ : Nat) : Int) else -1
theorem seek_ev (l : List S64) (hl : l.length < 2097152) (u : ByteArray) (q d : Int) : Ev (fun k => impl_SeekEntry.f k l u q d) (seekV l u q d) := by
  unfold impl_SeekEntry.f seekV
  refine Ev.bind (entriesOk_ev l hl) ?_
  by_cases c : isRow l
  case neg => exact Ev.neg (by simp [c]) ((Ev.now _).eqr (if_neg (fun h => c h.1)).symm)
  refine Ev.pos (decide_eq_true c) (Ev.bindS (keyOk_ev u q d) ?_)
  by_cases c2 : isK u q d
  case neg => exact Ev.neg (by simp [c2]) ((Ev.now _).eqr (if_neg (fun h => c2 h.2)).symm)
  have hb := bsearch_ev c ⟨⟨u, q, d⟩, ⟨#[]⟩⟩
  exact Ev.pos (decide_eq_true c2) (Ev.bindS hb ((Ev.now _).eqr (if_pos ⟨c, c2⟩).symm))
theorem sSeek_ev (l : List S64) (hl : l.length < 2097152) (u : ByteArray) (q d : Int) : Ev (fun k => spec_SeekEntry.f k l u q d) (seekV l u q d) := by
  unfold spec_SeekEntry.f seekV
  have bad : ¬ (isRow l ∧ isK u q d) → Ev (fun k => spec_SeekEntry.j0 k l true u q d) (if isRow l ∧ isK u q d then ((bsc l ⟨⟨u, q, d⟩, ⟨#[]⟩⟩ : Nat) : Int) else -1) := by
    intro h
    rw [if_neg h]
    refine Ev.step (fun k => spec_SeekEntry.j0.eq_2 ..) ?_
    exact Ev.pos rfl (Ev.now _)
  refine Ev.bind (sEntriesOk_ev l hl) ?_
  by_cases c : isRow l
  case neg => exact Ev.neg (by simp [c]) (bad fun h => c h.1)
  refine Ev.pos (decide_eq_true c) (Ev.bindS (sKeyOk_ev u q d) ?_)
  by_cases c2 : isK u q d
  case neg =>
    rw [decide_eq_false c2]
    exact bad fun h => c2 h.2
  rw [decide_eq_true c2, if_pos ⟨c, c2⟩]
  refine Ev.step (fun k => spec_SeekEntry.j0.eq_2 ..) ?_
  refine Ev.neg (by decide) ?_
  have stop : ∀ i, i ≤ l.length → (∀ t, t < i → ecmp (l.getD t z64) ⟨⟨u, q, d⟩, ⟨#[]⟩⟩ < 0) → (i < l.length → 0 ≤ ecmp (l.getD i z64) ⟨⟨u, q, d⟩, ⟨#[]⟩⟩) → bsc l ⟨⟨u, q, d⟩, ⟨#[]⟩⟩ = i := by
    intro i hi h1 h2
    exact findIdx_at _ z64 l i hi (fun t ht => decide_eq_false (by have := h1 t ht; omega)) (fun h => decide_eq_true (h2 h))
  have key : ∀ e i : Nat, i + e = l.length → (∀ t, t < i → ecmp (l.getD t z64) ⟨⟨u, q, d⟩, ⟨#[]⟩⟩ < 0) → Ev (fun k => spec_SeekEntry.l0 k l (i : Int) u q d) ((bsc l ⟨⟨u, q, d⟩, ⟨#[]⟩⟩ : Nat) : Int) := by
    intro e
    induction e with
    | zero =>
      intro i hi h1
      refine Ev.step (fun k => spec_SeekEntry.l0.eq_2 ..) ?_
      rw [stop i (by omega) h1 (fun h => by omega)]
      exact Ev.neg (by omega) (Ev.now _)
    | succ e ih =>
      intro i hi h1
      have hlt : i < l.length := by omega
      have hk : isK (l.getD i z64).f0.f0 (l.getD i z64).f0.f1 (l.getD i z64).f0.f2 := by
        rw [getD_at l i _ hlt]
        exact (c.2 i (Nat.zero_le _) hlt).1.1
      have hr : rd_T64 l (i : Int) = l.getD i z64 := by unfold rd_T64; rw [Int.toNat_natCast]
      have hc := sKeyCmp_ev (l.getD i z64).f0.f0 (l.getD i z64).f0.f1 (l.getD i z64).f0.f2 u q d
      rw [if_pos ⟨hk, c2⟩] at hc
      refine Ev.step (fun k => spec_SeekEntry.l0.eq_2 ..) ?_
      rw [hr, wsucc (show i < 4611686018427387904 by omega)]
      refine Ev.pos (by omega) (Ev.pos (by omega) (Ev.bind hc ?_))
      by_cases c3 : kcmp (l.getD i z64).f0.f0 (l.getD i z64).f0.f1 (l.getD i z64).f0.f2 u q d < 0
      · refine Ev.pos c3 (ih (i + 1) (by omega) fun t ht => ?_)
        by_cases e2 : t = i
        · rw [e2]; exact c3
        · exact h1 t (by omega)
      · rw [stop i (by omega) h1 (fun _ => Int.not_lt.1 c3)]
        exact Ev.neg c3 (Ev.now _)
  exact key l.length 0 (by omega) (fun t ht => absurd ht (Nat.not_lt_zero _))
end Go.Proofs.Ytidjdkodgddfcaa.Pure
end
