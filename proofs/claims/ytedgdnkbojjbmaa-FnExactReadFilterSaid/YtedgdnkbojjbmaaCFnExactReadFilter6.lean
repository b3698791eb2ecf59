/- Proved: the law FnExactReadFilter of the given program returns true for every input of its Go types and leaves each argument as it was; no condition. (Part 7 of 8.) -/
import Derived.Test.YtedgdnkbojjbmaaCFnExactReadFilter4
import Derived.Test.YtedgdnkbojjbmaaCFnExactReadFilter5
import Derived.Lib.EndianBits
section
namespace Go.Proofs.Ytedgdnkbojjbmaa.P
open Go.RowKit Go.Proofs.YtedgdnkbojjbmaaW.PrintWords Go.Proofs.YtedgdnkbojjbmaaW.PrintLast Go.Proofs.YtedgdnkbojjbmaaW.PrintMore
attribute [local go_sem] str_gtr str_leq str_geq max2_int min2_int max_two min_two max_three min_three max_four min_four
set_option linter.unusedVariables false
set_option linter.unusedSimpArgs false
theorem and127 : ∀ x : Fin 256, Go.bits .and .u8 ((x.val : Nat) : Int) 127 = ((x.val % 128 : Nat) : Int) := by decide +kernel
def tvGo (s : ByteArray) : Nat → Nat → Int → Int × ByteArray × Bool
  | 0, _, _ => (0, ⟨#[]⟩, false)
  | d + 1, i, acc => if i < s.size then
      (if i = 9 ∧ 1 < bt s i then (0, ⟨#[]⟩, false)
      else if bt s i < 128 then (if 0 < i ∧ bt s i = 0 then (0, ⟨#[]⟩, false) else (acc + bt s i * 128 ^ i, s.extract (i + 1) s.size, true))
      else tvGo s d (i + 1) (acc + (bt s i - 128) * 128 ^ i))
    else (0, ⟨#[]⟩, false)
def tv (s : ByteArray) : Int × ByteArray × Bool := tvGo s 10 0 0
theorem or_step (i : Nat) (hi : i < 10) (acc b : Int) (h0 : 0 ≤ acc) (h1 : acc < 128 ^ i) (b0 : 0 ≤ b) (b1 : b < 128) (b2 : i = 9 → b < 2) :
    Go.bits .or .u64 acc (shl .u64 b (7 * (i : Int))) = acc + b * 128 ^ i := by
  have hp : (128 : Int) ^ i = 2 ^ (7 * i) := by rw [Int.pow_mul]; rfl
  have hpos : (0 : Int) < 128 ^ i := Int.pow_pos (by decide)
  have hlt : b * 128 ^ i < 2 ^ 64 := by
    by_cases c : i = 9
    · subst c
      have := b2 rfl
      have : b * 128 ^ 9 ≤ 1 * 128 ^ 9 := Int.mul_le_mul_of_nonneg_right (by omega) (by decide)
      omega
    · have h8 : (128 : Int) ^ i ≤ 128 ^ 8 := by
        have : (128 : Nat) ^ i ≤ 128 ^ 8 := Nat.pow_le_pow_right (by decide) (by omega)
        exact_mod_cast this
      have : b * 128 ^ i ≤ 127 * 128 ^ 8 := Int.mul_le_mul (by omega) h8 (by omega) (by decide)
      omega
  have hnn : 0 ≤ b * 128 ^ i := Int.mul_nonneg b0 (by omega)
  have hs : shl .u64 b (7 * (i : Int)) = b * 128 ^ i := by
    unfold shl
    rw [show min (7 * (i : Int)).toNat IntKind.u64.bits = 7 * i from by simp only [IntKind.bits]; omega, ← hp]
    exact wraps_u64 _ hnn hlt
  rw [hs]
  refine bits_join_low .u64 64 (by decide) wraps_u64 (7 * i) acc _ h0 (by rw [← hp]; exact h1) ?_ hnn (by rw [← hp]; exact Int.mul_emod_left _ _) hlt
  have : (128 : Int) ^ i ≤ 128 ^ 9 := by
    have : (128 : Nat) ^ i ≤ 128 ^ 9 := Nat.pow_le_pow_right (by decide) (by omega)
    exact_mod_cast this
  omega
theorem wrap7 (i : Nat) (h : i < 1000) : wrap64 (7 * (i : Int)) = 7 * (i : Int) := wid (by omega) (by omega)
theorem and127' (b : Int) (h0 : 0 ≤ b) (h1 : b ≤ 255) : Go.bits .and .u8 b 127 = b % 128 := by
  have := and127 ⟨b.toNat, by omega⟩
  simp only at this
  rw [show b = ((b.toNat : Nat) : Int) from by omega, this]
  omega
theorem sTakeVar_ev (s : ByteArray) (hs : s.size ≤ 4611686018427387904) : Ev (fun k => spec_TakeVar.f k s) (tv s) := by
  have key : ∀ (d i : Nat) (acc : Int), i + d = 10 → 0 ≤ acc → acc < 128 ^ i → Ev (fun k => spec_TakeVar.l0 k s acc (i : Int)) (tvGo s d i acc) := by
    intro d
    induction d with
    | zero =>
      intro i acc hi _ _
      obtain rfl : i = 10 := by omega
      refine Ev.step (fun k => spec_TakeVar.l0.eq_2 ..) ?_
      by_cases c : ((10 : Nat) : Int) < (s.size : Int)
      · refine Ev.pos c (Ev.step (fun k => spec_TakeVar.j1.eq_2 ..) ?_)
        exact Ev.neg (by decide) (Ev.now _)
      · refine Ev.neg c (Ev.step (fun k => spec_TakeVar.j1.eq_2 ..) ?_)
        exact Ev.neg (by decide) (Ev.now _)
    | succ d ih =>
      intro i acc hi h0 h1
      unfold tvGo
      by_cases c : i < s.size
      · refine Ev.eqr ?_ (if_pos c).symm
        obtain ⟨r0, r1⟩ := bt_range s (i : Int)
        have hg : (IntKind.u64.wrap (Int.tmod (bt s (i : Int)) 128)) = bt s (i : Int) % 128 := by
          rw [Int.tmod_eq_emod_of_nonneg r0, uid (by omega) (by omega)]
        have hw7 : IntKind.u64.wrap (wrap64 (7 * (i : Int))) = 7 * (i : Int) := by rw [wrap7 i (by omega), uid (by omega) (by omega)]
        have hsucc : wrap64 ((i : Int) + 1) = ((i + 1 : Nat) : Int) := wsucc (by omega)
        have hn : (((i + 1 : Nat) : Int)).toNat = i + 1 := Int.toNat_natCast _
        have hpow : (128 : Int) ^ (i + 1) = 128 ^ i * 128 := Int.pow_succ 128 i
        have hpos : (0 : Int) < 128 ^ i := Int.pow_pos (by decide)
        refine Ev.step (fun k => spec_TakeVar.l0.eq_2 ..) (Ev.pos (by omega) ?_)
        refine Ev.step (fun k => spec_TakeVar.j1.eq_2 ..) ?_
        refine Ev.pos (decide_eq_true (by omega)) (Ev.pos (by omega) (Ev.pos (by omega) ?_))
        rw [hg]
        have main : (i = 9 → bt s (i : Int) % 128 < 2) → Ev (fun k => spec_TakeVar.j2 k s acc (i : Int) (bt s (i : Int) % 128) false) (if bt s (i : Int) < 128 then (if 0 < i ∧ bt s (i : Int) = 0 then ((0 : Int), (⟨#[]⟩ : ByteArray), false) else (acc + bt s (i : Int) * 128 ^ i, s.extract (i + 1) s.size, true)) else tvGo s d (i + 1) (acc + (bt s (i : Int) - 128) * 128 ^ i)) := by
          intro h9
          have hor := or_step i (by omega) acc (bt s (i : Int) % 128) h0 h1 (by omega) (by omega) (by omega)
          refine Ev.step (fun k => spec_TakeVar.j2.eq_2 ..) (Ev.neg (by decide) ?_)
          rw [hw7, hor, hsucc, hn]
          refine Ev.pos (by omega) (Ev.pos (by omega) (Ev.pos (by omega) ?_))
          by_cases c2 : bt s (i : Int) < 128
          · refine Ev.eqr ?_ (if_pos c2).symm
            rw [show bt s (i : Int) % 128 = bt s (i : Int) from by omega]
            refine Ev.pos c2 ?_
            by_cases cz : bt s (i : Int) = 0
            · by_cases ci : 0 < i
              · refine Ev.eqr ?_ (if_pos ⟨ci, cz⟩).symm
                exact Ev.pos (by omega) (Ev.pos cz (Ev.now _))
              · refine Ev.eqr ?_ (if_neg (fun h => ci h.1)).symm
                exact Ev.neg (by omega) (Ev.pos (by omega) (Ev.pos (by omega) (Ev.now _)))
            · refine Ev.eqr ?_ (if_neg (fun h => cz h.2)).symm
              by_cases ci : 0 < i
              · exact Ev.pos (by omega) (Ev.neg cz (Ev.pos (by omega) (Ev.pos (by omega) (Ev.now _))))
              · exact Ev.neg (by omega) (Ev.pos (by omega) (Ev.pos (by omega) (Ev.now _)))
          · refine Ev.eqr ?_ (if_neg c2).symm
            rw [show bt s (i : Int) % 128 = bt s (i : Int) - 128 from by omega]
            refine Ev.neg c2 ?_
            have hm : (bt s (i : Int) - 128) * 128 ^ i ≤ 127 * 128 ^ i := Int.mul_le_mul_of_nonneg_right (by omega) (by omega)
            have hm0 : 0 ≤ (bt s (i : Int) - 128) * 128 ^ i := Int.mul_nonneg (by omega) (by omega)
            exact ih (i + 1) _ (by omega) (by omega) (by omega)
        by_cases c9 : i = 9
        · refine Ev.pos (by omega) ?_
          by_cases cb : 1 < bt s (i : Int)
          · skip
            refine Ev.eqr ?_ (if_pos ⟨c9, cb⟩).symm
            rw [decide_eq_true (show bt s (i : Int) > 1 by omega)]
            refine Ev.step (fun k => spec_TakeVar.j2.eq_2 ..) ?_
            exact Ev.pos (by decide) (Ev.now _)
          · refine Ev.eqr ?_ (if_neg (fun h => cb h.2)).symm
            rw [decide_eq_false (show ¬ (bt s (i : Int) > 1) by omega)]
            exact main (fun _ => by omega)
        · refine Ev.neg (by omega) ?_
          refine Ev.eqr ?_ (if_neg (fun h => c9 h.1)).symm
          exact main (fun h => absurd h c9)
      · refine Ev.eqr ?_ (if_neg c).symm
        refine Ev.step (fun k => spec_TakeVar.l0.eq_2 ..) (Ev.neg (by omega) ?_)
        refine Ev.step (fun k => spec_TakeVar.j1.eq_2 ..) ?_
        exact Ev.neg (by decide) (Ev.now _)
  exact key 10 0 0 rfl (by decide) (by decide)
theorem takeVar_ev (s : ByteArray) (hs : s.size ≤ 4611686018427387904) : Ev (fun k => impl_TakeVar.f k s) (tv s) := by
  have key : ∀ (d i : Nat) (acc : Int), i + d = 10 → 0 ≤ acc → acc < 128 ^ i → Ev (fun k => impl_TakeVar.l0 k s acc (i : Int)) (tvGo s d i acc) := by
    intro d
    induction d with
    | zero =>
      intro i acc hi _ _
      obtain rfl : i = 10 := by omega
      refine Ev.step (fun k => impl_TakeVar.l0.eq_2 ..) ?_
      by_cases c : ((10 : Nat) : Int) < (s.size : Int)
      · refine Ev.pos c (Ev.step (fun k => impl_TakeVar.j1.eq_2 ..) ?_)
        exact Ev.neg (by decide) (Ev.now _)
      · refine Ev.neg c (Ev.step (fun k => impl_TakeVar.j1.eq_2 ..) ?_)
        exact Ev.neg (by decide) (Ev.now _)
    | succ d ih =>
      intro i acc hi h0 h1
      unfold tvGo
      by_cases c : i < s.size
      · refine Ev.eqr ?_ (if_pos c).symm
        obtain ⟨r0, r1⟩ := bt_range s (i : Int)
        have hg : (IntKind.u64.wrap (Go.bits .and .u8 (bt s (i : Int)) 127)) = bt s (i : Int) % 128 := by
          rw [and127' _ r0 r1, uid (by omega) (by omega)]
        have hw7 : wrap64 (7 * (i : Int)) = 7 * (i : Int) := by exact wrap7 i (by omega)
        have hsucc : wrap64 ((i : Int) + 1) = ((i + 1 : Nat) : Int) := wsucc (by omega)
        have hn : (((i + 1 : Nat) : Int)).toNat = i + 1 := Int.toNat_natCast _
        have hpow : (128 : Int) ^ (i + 1) = 128 ^ i * 128 := Int.pow_succ 128 i
        have hpos : (0 : Int) < 128 ^ i := Int.pow_pos (by decide)
        refine Ev.step (fun k => impl_TakeVar.l0.eq_2 ..) (Ev.pos (by omega) ?_)
        refine Ev.step (fun k => impl_TakeVar.j1.eq_2 ..) ?_
        refine Ev.pos (decide_eq_true (by omega)) (Ev.pos (by omega) (Ev.pos (by omega) ?_))
        rw [hg]
        have main : (i = 9 → bt s (i : Int) % 128 < 2) → Ev (fun k => impl_TakeVar.j2 k s acc (i : Int) (bt s (i : Int) % 128) false) (if bt s (i : Int) < 128 then (if 0 < i ∧ bt s (i : Int) = 0 then ((0 : Int), (⟨#[]⟩ : ByteArray), false) else (acc + bt s (i : Int) * 128 ^ i, s.extract (i + 1) s.size, true)) else tvGo s d (i + 1) (acc + (bt s (i : Int) - 128) * 128 ^ i)) := by
          intro h9
          have hor := or_step i (by omega) acc (bt s (i : Int) % 128) h0 h1 (by omega) (by omega) (by omega)
          refine Ev.step (fun k => impl_TakeVar.j2.eq_2 ..) (Ev.neg (by decide) ?_)
          rw [hw7, hor, hsucc, hn]
          refine Ev.pos (by omega) (Ev.pos (by omega) (Ev.pos (by omega) ?_))
          by_cases c2 : bt s (i : Int) < 128
          · refine Ev.eqr ?_ (if_pos c2).symm
            rw [show bt s (i : Int) % 128 = bt s (i : Int) from by omega]
            refine Ev.neg (by omega) ?_
            by_cases cz : bt s (i : Int) = 0
            · by_cases ci : 0 < i
              · refine Ev.eqr ?_ (if_pos ⟨ci, cz⟩).symm
                exact Ev.pos cz (Ev.pos (by omega) (Ev.now _))
              · refine Ev.eqr ?_ (if_neg (fun h => ci h.1)).symm
                exact Ev.pos cz (Ev.neg (by omega) (Ev.pos (by omega) (Ev.pos (by omega) (Ev.now _))))
            · refine Ev.eqr ?_ (if_neg (fun h => cz h.2)).symm
              exact Ev.neg cz (Ev.pos (by omega) (Ev.pos (by omega) (Ev.now _)))
          · refine Ev.eqr ?_ (if_neg c2).symm
            rw [show bt s (i : Int) % 128 = bt s (i : Int) - 128 from by omega]
            refine Ev.pos (by omega) ?_
            have hm : (bt s (i : Int) - 128) * 128 ^ i ≤ 127 * 128 ^ i := Int.mul_le_mul_of_nonneg_right (by omega) (by omega)
            have hm0 : 0 ≤ (bt s (i : Int) - 128) * 128 ^ i := Int.mul_nonneg (by omega) (by omega)
            exact ih (i + 1) _ (by omega) (by omega) (by omega)
        by_cases c9 : i = 9
        · refine Ev.pos (by omega) ?_
          by_cases cb : 1 < bt s (i : Int)
          · by_cases cg : bt s (i : Int) % 128 > 1
            case neg =>
              refine Ev.eqr ?_ (if_pos ⟨c9, cb⟩).symm
              rw [decide_eq_false cg]
              refine (main (fun _ => by omega)).eqr ?_
              obtain rfl : d = 0 := by omega
              rw [if_neg (by omega)]
              rfl
            refine Ev.eqr ?_ (if_pos ⟨c9, cb⟩).symm
            rw [decide_eq_true (show bt s (i : Int) % 128 > 1 by omega)]
            refine Ev.step (fun k => impl_TakeVar.j2.eq_2 ..) ?_
            exact Ev.pos (by decide) (Ev.now _)
          · refine Ev.eqr ?_ (if_neg (fun h => cb h.2)).symm
            rw [decide_eq_false (show ¬ (bt s (i : Int) % 128 > 1) by omega)]
            exact main (fun _ => by omega)
        · refine Ev.neg (by omega) ?_
          refine Ev.eqr ?_ (if_neg (fun h => c9 h.1)).symm
          exact main (fun h => absurd h c9)
      · refine Ev.eqr ?_ (if_neg c).symm
        refine Ev.step (fun k => impl_TakeVar.l0.eq_2 ..) (Ev.neg (by omega) ?_)
        refine Ev.step (fun k => impl_TakeVar.j1.eq_2 ..) ?_
        exact Ev.neg (by decide) (Ev.now _)
  exact key 10 0 0 rfl (by decide) (by decide)
end Go.Proofs.Ytedgdnkbojjbmaa.P
end

section
namespace Go.Proofs.Ytedgdnkbojjbmaa.P
open Go.RowKit Go.Proofs.YtedgdnkbojjbmaaW.PrintWords Go.Proofs.YtedgdnkbojjbmaaW.PrintLast Go.Proofs.YtedgdnkbojjbmaaW.PrintMore
attribute [local go_sem] str_gtr str_leq str_geq max2_int min2_int max_two min_two max_three min_three max_four min_four
set_option linter.unusedVariables false
set_option linter.unusedSimpArgs false
def tt (s : ByteArray) : ByteArray × ByteArray × Bool :=
  if (tv s).2.2 = true ∧ (tv s).1 ≤ 60000 ∧ (tv s).1 ≤ ((tv s).2.1.size : Int) then ((tv s).2.1.extract 0 (tv s).1.toNat, (tv s).2.1.extract (tv s).1.toNat (tv s).2.1.size, true) else (⟨#[]⟩, ⟨#[]⟩, false)
theorem empty_size : (⟨#[]⟩ : ByteArray).size = 0 := rfl
theorem tvGo_range (s : ByteArray) : ∀ (d i : Nat) (acc : Int), i + d = 10 → 0 ≤ acc → acc < 128 ^ i → 0 ≤ (tvGo s d i acc).1 ∧ (tvGo s d i acc).1 < 18446744073709551616 ∧ (tvGo s d i acc).2.1.size ≤ s.size ∧ ((tvGo s d i acc).2.2 = true → (tvGo s d i acc).2.1.size < s.size) := by
  intro d
  induction d with
  | zero => intro i acc _ _ _; simp [tvGo, empty_size]
  | succ d ih =>
    intro i acc hi h0 h1
    have hf : 0 ≤ ((0 : Int), (⟨#[]⟩ : ByteArray), false).1 ∧ ((0 : Int), (⟨#[]⟩ : ByteArray), false).1 < 18446744073709551616 ∧ ((0 : Int), (⟨#[]⟩ : ByteArray), false).2.1.size ≤ s.size ∧ (((0 : Int), (⟨#[]⟩ : ByteArray), false).2.2 = true → ((0 : Int), (⟨#[]⟩ : ByteArray), false).2.1.size < s.size) := by simp [empty_size]
    obtain ⟨r0, r1⟩ := bt_range s (i : Int)
    have hpos : (0 : Int) < 128 ^ i := Int.pow_pos (by decide)
    unfold tvGo
    by_cases c : i < s.size
    · rw [if_pos c]
      by_cases c9 : i = 9 ∧ 1 < bt s (i : Int)
      · rw [if_pos c9]; exact hf
      · rw [if_neg c9]
        by_cases c2 : bt s (i : Int) < 128
        · rw [if_pos c2]
          by_cases cz : 0 < i ∧ bt s (i : Int) = 0
          · rw [if_pos cz]; exact hf
          · rw [if_neg cz]
            have hn : 0 ≤ bt s (i : Int) * 128 ^ i := Int.mul_nonneg r0 (by omega)
            have hb : acc + bt s (i : Int) * 128 ^ i < 18446744073709551616 := by
              by_cases e : i = 9
              · subst e
                have : bt s ((9 : Nat) : Int) ≤ 1 := by
                  have := fun h => c9 ⟨rfl, h⟩
                  omega
                have : bt s ((9 : Nat) : Int) * 128 ^ 9 ≤ 1 * 128 ^ 9 := Int.mul_le_mul_of_nonneg_right this (by decide)
                omega
              · have h8 : (128 : Int) ^ i ≤ 128 ^ 8 := by
                  have : (128 : Nat) ^ i ≤ 128 ^ 8 := Nat.pow_le_pow_right (by decide) (by omega)
                  exact_mod_cast this
                have : bt s (i : Int) * 128 ^ i ≤ 127 * 128 ^ 8 := Int.mul_le_mul (by omega) h8 (by omega) (by decide)
                omega
            refine ⟨by show 0 ≤ acc + _; omega, hb, ?_, ?_⟩
            · show (s.extract (i + 1) s.size).size ≤ s.size
              rw [ByteArray.size_extract]; omega
            · intro _
              show (s.extract (i + 1) s.size).size < s.size
              rw [ByteArray.size_extract]; omega
        · rw [if_neg c2]
          have hm : (bt s (i : Int) - 128) * 128 ^ i ≤ 127 * 128 ^ i := Int.mul_le_mul_of_nonneg_right (by omega) (by omega)
          have hm0 : 0 ≤ (bt s (i : Int) - 128) * 128 ^ i := Int.mul_nonneg (by omega) (by omega)
          have hpow : (128 : Int) ^ (i + 1) = 128 ^ i * 128 := Int.pow_succ 128 i
          exact ih (i + 1) _ (by omega) (by omega) (by omega)
    · rw [if_neg c]; exact hf
theorem tv_range (s : ByteArray) : 0 ≤ (tv s).1 ∧ (tv s).1 < 18446744073709551616 ∧ (tv s).2.1.size ≤ s.size ∧ ((tv s).2.2 = true → (tv s).2.1.size < s.size) := tvGo_range s 10 0 0 rfl (by decide) (by decide)
theorem takeText_ev (s : ByteArray) (hs : s.size ≤ 4611686018427387904) : Ev (fun k => impl_TakeText.f k s) (tt s) := by
  unfold impl_TakeText.f tt
  obtain ⟨r0, r1, r2, _⟩ := tv_range s
  refine Ev.bind (takeVar_ev s hs) ?_
  by_cases c1 : (tv s).2.2 = true
  · refine Ev.pos c1 ?_
    by_cases c2 : (tv s).1 > 60000
    · exact Ev.pos c2 ((Ev.now _).eqr (if_neg (fun h => by omega)).symm)
    · refine Ev.neg c2 ?_
      rw [uid (x := ((tv s).2.1.size : Int)) (by omega) (by omega)]
      by_cases c3 : (tv s).1 > ((tv s).2.1.size : Int)
      · exact Ev.pos c3 ((Ev.now _).eqr (if_neg (fun h => by omega)).symm)
      · exact Ev.neg c3 (Ev.pos r0 (Ev.pos (by omega) ((Ev.now _).eqr (if_pos ⟨c1, by omega, by omega⟩).symm)))
  · exact Ev.neg c1 ((Ev.now _).eqr (if_neg (fun h => c1 h.1)).symm)
theorem sTakeText_ev (s : ByteArray) (hs : s.size ≤ 4611686018427387904) : Ev (fun k => spec_TakeText.f k s) (tt s) := by
  unfold spec_TakeText.f tt
  obtain ⟨r0, r1, r2, _⟩ := tv_range s
  refine Ev.bind (sTakeVar_ev s hs) ?_
  by_cases c1 : (tv s).2.2 = true
  · refine Ev.pos c1 ?_
    by_cases c2 : (tv s).1 > 60000
    · exact Ev.pos c2 ((Ev.now _).eqr (if_neg (fun h => by omega)).symm)
    · refine Ev.neg c2 ?_
      rw [uid (x := ((tv s).2.1.size : Int)) (by omega) (by omega)]
      by_cases c3 : (tv s).1 > ((tv s).2.1.size : Int)
      · exact Ev.pos c3 ((Ev.now _).eqr (if_neg (fun h => by omega)).symm)
      · exact Ev.neg c3 (Ev.pos r0 (Ev.pos (by omega) ((Ev.now _).eqr (if_pos ⟨c1, by omega, by omega⟩).symm)))
  · exact Ev.neg c1 ((Ev.now _).eqr (if_neg (fun h => c1 h.1)).symm)
theorem tt_range (s : ByteArray) : (tt s).1.size ≤ 60000 ∧ (tt s).1.size ≤ s.size ∧ (tt s).2.1.size ≤ s.size ∧ ((tt s).2.2 = true → (tt s).2.1.size < s.size) := by
  obtain ⟨r0, r1, r2, r3⟩ := tv_range s
  unfold tt
  by_cases c : (tv s).2.2 = true ∧ (tv s).1 ≤ 60000 ∧ (tv s).1 ≤ ((tv s).2.1.size : Int)
  · rw [if_pos c]
    have := r3 c.1
    simp only [ByteArray.size_extract]
    exact ⟨by omega, by omega, by omega, fun _ => by omega⟩
  · rw [if_neg c]
    simp [empty_size]
end Go.Proofs.Ytedgdnkbojjbmaa.P
end

section
namespace Go.Proofs.Ytedgdnkbojjbmaa.Pure
open Go.RowKit Go.Proofs.YtedgdnkbojjbmaaW.PrintWords Go.Proofs.YtedgdnkbojjbmaaW.PrintLast Go.Proofs.YtedgdnkbojjbmaaW.PrintMore
open Go.Proofs.Ytedgdnkbojjbmaa.P
set_option linter.unusedVariables false
set_option linter.unusedSimpArgs false
def fOk (a b c : Int) (t : ByteArray) : Prop := (a = 0 ∧ b = 0 ∧ c = 0 ∧ t.toList = []) ∨ (a = 1 ∧ b = 0 ∧ (1 ≤ c ∧ c ≤ 30) ∧ 1 ≤ t.size ∧ t.size ≤ 1000) ∨ (a = 2 ∧ c = 0 ∧ (0 ≤ b ∧ b ≤ 3) ∧ (20 ≤ t.size ∧ t.size ≤ 600) ∧ ∀ i : Nat, i < t.size → bt t (i : Int) ≤ 127)
noncomputable instance (a b c : Int) (t : ByteArray) : Decidable (fOk a b c t) := Classical.propDecidable _
def low7 (t : ByteArray) (i : Nat) : Prop := ∀ j : Nat, i ≤ j → j < t.size → bt t (j : Int) ≤ 127
noncomputable instance (t : ByteArray) (i : Nat) : Decidable (low7 t i) := Classical.propDecidable _
theorem nil_size {t : ByteArray} (h : t.toList = []) : t.size = 0 := by
  rw [ByteArray.toList_eq] at h
  have := congrArg List.length h
  simpa using this
theorem filterOk_ev (a b c : Int) (t : ByteArray) (ht : t.size ≤ 4611686018427387904) : Ev (fun k => impl_FilterOk.f k a b c t) (decide (fOk a b c t)) := by
  have fw1 := within_ev c 1 30
  have fw2 := within_ev (t.size : Int) 1 1000
  have fw3 := within_ev b 0 3
  have fw4 := within_ev (t.size : Int) 20 600
  unfold impl_FilterOk.f
  by_cases c0 : a = 0
  · refine Ev.pos c0 ((Ev.now _).eqr ?_)
    subst c0
    unfold fOk
    by_cases h1 : b = 0 <;> by_cases h2 : c = 0 <;> by_cases h3 : t.toList = [] <;> simp [h1, h2, h3]
  · refine Ev.neg c0 ?_
    by_cases c1 : a = 1
    · refine Ev.pos c1 ?_
      by_cases cb : b = 0
      · refine Ev.pos cb (Ev.bindS fw1 ?_)
        by_cases cc : 1 ≤ c ∧ c ≤ 30
        · refine Ev.pos (decide_eq_true cc) (Ev.bindS fw2 ((Ev.now _).eqr ?_))
          exact decide_eq_decide.2 ⟨fun h => .inr (.inl ⟨c1, cb, cc, by omega, by omega⟩), fun h => by unfold fOk at h; omega⟩
        · exact Ev.neg (by simpa using cc) ((Ev.now _).eqr (decide_eq_false fun h => by unfold fOk at h; omega).symm)
      · exact Ev.neg cb ((Ev.now _).eqr (decide_eq_false fun h => by unfold fOk at h; omega).symm)
    · refine Ev.neg c1 ?_
      by_cases c2 : a = 2
      · refine Ev.pos c2 ?_
        have jt : ¬ fOk a b c t → Ev (fun k => impl_FilterOk.j0 k true a b c t) (decide (fOk a b c t)) := fun h => by
          refine Ev.step (fun k => impl_FilterOk.j0.eq_2 ..) ?_
          exact Ev.pos rfl ((Ev.now _).eqr (decide_eq_false h).symm)
        by_cases cc : c = 0
        · refine Ev.pos cc (Ev.bindS fw3 ?_)
          by_cases cb : 0 ≤ b ∧ b ≤ 3
          · refine Ev.pos (decide_eq_true cb) (Ev.bindS fw4 ?_)
            by_cases cs : 20 ≤ (t.size : Int) ∧ (t.size : Int) ≤ 600
            · rw [decide_eq_true cs]
              refine Ev.step (fun k => impl_FilterOk.j0.eq_2 ..) ?_
              refine Ev.neg (by decide) ?_
              have key : ∀ i, i ≤ t.size → Ev (fun k => impl_FilterOk.l0 k (t.size : Int) (i : Int) a b c t) (decide (low7 t i)) := by
                refine downTo t.size ?_ ?_
                · refine Ev.step (fun k => impl_FilterOk.l0.eq_2 ..) ?_
                  exact Ev.neg (by omega) ((Ev.now _).eqr (decide_eq_true (show low7 t t.size from fun j h1 h2 => by omega)).symm)
                · intro i hi ih
                  refine Ev.step (fun k => impl_FilterOk.l0.eq_2 ..) ?_
                  refine Ev.pos (by omega) (Ev.pos (by omega) (Ev.pos (by omega) ?_))
                  by_cases cz : bt t (i : Int) > 127
                  · exact Ev.pos cz ((Ev.now _).eqr (decide_eq_false (fun h => by have := h i (Nat.le_refl _) hi; omega)).symm)
                  · refine Ev.neg cz ?_
                    rw [wsucc (by omega)]
                    refine ih.eqr (decide_eq_decide.2 ⟨fun h j h1 h2 => ?_, fun h j h1 h2 => h j (by omega) h2⟩)
                    by_cases e : j = i
                    · subst e; omega
                    · exact h j (by omega) h2
              refine (key 0 (Nat.zero_le _)).eqr (decide_eq_decide.2 ⟨fun h => .inr (.inr ⟨c2, cc, cb, by omega, fun i hi => h i (Nat.zero_le _) hi⟩), fun h => ?_⟩)
              rcases h with h | h | h
              · omega
              · omega
              · exact fun j _ hj => h.2.2.2.2 j hj
            · rw [decide_eq_false cs]
              exact jt fun h => by unfold fOk at h; omega
          · exact Ev.neg (by simpa using cb) (jt fun h => by unfold fOk at h; omega)
        · exact Ev.neg cc (jt fun h => by unfold fOk at h; omega)
      · exact Ev.neg c2 ((Ev.now _).eqr (decide_eq_false fun h => by unfold fOk at h; omega).symm)
theorem sFilterOk_ev (a b c : Int) (t : ByteArray) (ht : t.size ≤ 4611686018427387904) : Ev (fun k => spec_FilterOk.f k a b c t) (decide (fOk a b c t)) := by
  have fw1 := in_ev c 1 30
  have fw2 := in_ev (t.size : Int) 1 1000
  have fw3 := in_ev b 0 3
  have fw4 := in_ev (t.size : Int) 20 600
  unfold spec_FilterOk.f
  by_cases c0 : a = 0
  · refine Ev.pos c0 ((Ev.now _).eqr ?_)
    subst c0
    unfold fOk
    by_cases h1 : b = 0 <;> by_cases h2 : c = 0 <;> by_cases h3 : t.toList = [] <;> simp [h1, h2, h3]
  · refine Ev.neg c0 ?_
    by_cases c1 : a = 1
    · refine Ev.pos c1 ?_
      by_cases cb : b = 0
      · refine Ev.pos cb (Ev.bindS fw1 ?_)
        by_cases cc : 1 ≤ c ∧ c ≤ 30
        · refine Ev.pos (decide_eq_true cc) (Ev.bindS fw2 ((Ev.now _).eqr ?_))
          exact decide_eq_decide.2 ⟨fun h => .inr (.inl ⟨c1, cb, cc, by omega, by omega⟩), fun h => by unfold fOk at h; omega⟩
        · exact Ev.neg (by simpa using cc) ((Ev.now _).eqr (decide_eq_false fun h => by unfold fOk at h; omega).symm)
      · exact Ev.neg cb ((Ev.now _).eqr (decide_eq_false fun h => by unfold fOk at h; omega).symm)
    · refine Ev.neg c1 ?_
      by_cases c2 : a = 2
      · refine Ev.pos c2 ?_
        have jt : ¬ fOk a b c t → Ev (fun k => spec_FilterOk.j0 k true a b c t) (decide (fOk a b c t)) := fun h => by
          refine Ev.step (fun k => spec_FilterOk.j0.eq_2 ..) ?_
          exact Ev.pos rfl ((Ev.now _).eqr (decide_eq_false h).symm)
        by_cases cc : c = 0
        · refine Ev.pos cc (Ev.bindS fw3 ?_)
          by_cases cb : 0 ≤ b ∧ b ≤ 3
          · refine Ev.pos (decide_eq_true cb) (Ev.bindS fw4 ?_)
            by_cases cs : 20 ≤ (t.size : Int) ∧ (t.size : Int) ≤ 600
            · rw [decide_eq_true cs]
              refine Ev.step (fun k => spec_FilterOk.j0.eq_2 ..) ?_
              refine Ev.neg (by decide) ?_
              have key : ∀ i, i ≤ t.size → Ev (fun k => spec_FilterOk.l0 k (i : Int) a b c t) (decide (low7 t i)) := by
                refine downTo t.size ?_ ?_
                · refine Ev.step (fun k => spec_FilterOk.l0.eq_2 ..) ?_
                  exact Ev.neg (by omega) ((Ev.now _).eqr (decide_eq_true (show low7 t t.size from fun j h1 h2 => by omega)).symm)
                · intro i hi ih
                  refine Ev.step (fun k => spec_FilterOk.l0.eq_2 ..) ?_
                  refine Ev.pos (by omega) (Ev.pos (by omega) ?_)
                  by_cases cz : bt t (i : Int) > 127
                  · exact Ev.pos cz ((Ev.now _).eqr (decide_eq_false (fun h => by have := h i (Nat.le_refl _) hi; omega)).symm)
                  · refine Ev.neg cz ?_
                    rw [wsucc (by omega)]
                    refine ih.eqr (decide_eq_decide.2 ⟨fun h j h1 h2 => ?_, fun h j h1 h2 => h j (by omega) h2⟩)
                    by_cases e : j = i
                    · subst e; omega
                    · exact h j (by omega) h2
              refine (key 0 (Nat.zero_le _)).eqr (decide_eq_decide.2 ⟨fun h => .inr (.inr ⟨c2, cc, cb, by omega, fun i hi => h i (Nat.zero_le _) hi⟩), fun h => ?_⟩)
              rcases h with h | h | h
              · omega
              · omega
              · exact fun j _ hj => h.2.2.2.2 j hj
            · rw [decide_eq_false cs]
              exact jt fun h => by unfold fOk at h; omega
          · exact Ev.neg (by simpa using cb) (jt fun h => by unfold fOk at h; omega)
        · exact Ev.neg cc (jt fun h => by unfold fOk at h; omega)
      · exact Ev.neg c2 ((Ev.now _).eqr (decide_eq_false fun h => by unfold fOk at h; omega).symm)
def numT (s : ByteArray) (bad : Bool) : Int × ByteArray × Bool := if (tv s).2.2 = true ∧ (tv s).1 ≤ 4611686018427387904 then ((tv s).1, (tv s).2.1, bad) else (0, s, true)
def txtT (s : ByteArray) (bad : Bool) : ByteArray × ByteArray × Bool := if (tt s).2.2 = true then ((tt s).1, (tt s).2.1, bad) else (⟨#[]⟩, s, true)
theorem number_taken (s : ByteArray) (bad : Bool) (hs : s.size ≤ 4611686018427387904) : Ev (fun k => impl_taker_number.f k s bad) (numT s bad) := by
  unfold impl_taker_number.f numT
  obtain ⟨r0, r1, _, _⟩ := tv_range s
  refine Ev.bind (takeVar_ev s hs) ?_
  by_cases c : (tv s).2.2 = true
  · refine Ev.pos c ?_
    by_cases c2 : (tv s).1 > 4611686018427387904
    · exact Ev.pos c2 ((Ev.now _).eqr (if_neg (fun h => by omega)).symm)
    · refine Ev.neg c2 ?_
      rw [wid (by omega) (by omega)]
      exact (Ev.now _).eqr (if_pos ⟨c, by omega⟩).symm
  · exact Ev.neg c ((Ev.now _).eqr (if_neg (fun h => c h.1)).symm)
theorem text_taken (s : ByteArray) (bad : Bool) (hs : s.size ≤ 4611686018427387904) : Ev (fun k => impl_taker_text.f k s bad) (txtT s bad) := by
  unfold impl_taker_text.f txtT
  refine Ev.bind (takeText_ev s hs) ?_
  by_cases c : (tt s).2.2 = true
  · exact Ev.pos c ((Ev.now _).eqr (if_pos c).symm)
  · exact Ev.neg c ((Ev.now _).eqr (if_neg c).symm)
theorem whole_taken (s : ByteArray) (bad : Bool) : impl_taker_whole.f s bad = some (!bad && (s.toList == []), s, bad) := by
  unfold impl_taker_whole.f
  cases bad <;> simp
theorem numT_size (s : ByteArray) (bad : Bool) : (numT s bad).2.1.size ≤ s.size := by
  obtain ⟨_, _, h, _⟩ := tv_range s
  unfold numT
  split
  · exact h
  · exact Nat.le_refl _
theorem numT_bad (s : ByteArray) : (numT s true).2.2 = true := by unfold numT; split <;> rfl
theorem txtT_bad (s : ByteArray) : (txtT s true).2.2 = true := by unfold txtT; split <;> rfl
def rfP (s : ByteArray) : Prop := (tv s).2.2 = true ∧ (tv (tv s).2.1).2.2 = true ∧ (tv (tv (tv s).2.1).2.1).2.2 = true ∧ (tt (tv (tv (tv s).2.1).2.1).2.1).2.2 = true ∧ (tt (tv (tv (tv s).2.1).2.1).2.1).2.1.toList = [] ∧
  fOk (tv s).1 (tv (tv s).2.1).1 (tv (tv (tv s).2.1).2.1).1 (tt (tv (tv (tv s).2.1).2.1).2.1).1
noncomputable instance (s : ByteArray) : Decidable (rfP s) := Classical.propDecidable _
noncomputable def rfV (s : ByteArray) : Int × Int × Int × ByteArray × Bool := if rfP s then ((tv s).1, (tv (tv s).2.1).1, (tv (tv (tv s).2.1).2.1).1, (tt (tv (tv (tv s).2.1).2.1).2.1).1, true) else (0, 0, 0, ⟨#[]⟩, false)
theorem fOk_small {a b c : Int} {t : ByteArray} (h : fOk a b c t) : (0 ≤ a ∧ a ≤ 2) ∧ (0 ≤ b ∧ b ≤ 3) ∧ (0 ≤ c ∧ c ≤ 30) ∧ t.size ≤ 1000 := by
  rcases h with h | h | h
  · have := nil_size h.2.2.2
    omega
  · omega
  · omega
theorem sReadFilter_ev (s : ByteArray) (hs : s.size ≤ 4611686018427387904) : Ev (fun k => spec_ReadFilter.f k s) (rfV s) := by
  obtain ⟨p0, p1, p2, _⟩ := tv_range s
  obtain ⟨q0, q1, q2, _⟩ := tv_range (tv s).2.1
  obtain ⟨r0, r1, r2, _⟩ := tv_range (tv (tv s).2.1).2.1
  obtain ⟨t0, t1, t2, _⟩ := tt_range (tv (tv (tv s).2.1).2.1).2.1
  unfold spec_ReadFilter.f
  refine Ev.bind (sTakeVar_ev s hs) (Ev.bind (sTakeVar_ev _ (by omega)) (Ev.bind (sTakeVar_ev _ (by omega)) (Ev.bind (sTakeText_ev _ (by omega)) ?_)))
  have jt : ¬ rfP s → Ev (fun k => spec_ReadFilter.j0 k (tv s).1 (tv (tv s).2.1).1 (tv (tv (tv s).2.1).2.1).1 (tt (tv (tv (tv s).2.1).2.1).2.1).1 true) (rfV s) := fun h => by
    refine Ev.step (fun k => spec_ReadFilter.j0.eq_2 ..) ?_
    exact Ev.pos rfl ((Ev.now _).eqr (if_neg h).symm)
  by_cases c1 : (tv s).2.2 = true
  case neg => exact Ev.neg c1 (jt fun h => c1 h.1)
  refine Ev.pos c1 ?_
  by_cases c2 : (tv (tv s).2.1).2.2 = true
  case neg => exact Ev.neg c2 (jt fun h => c2 h.2.1)
  refine Ev.pos c2 ?_
  by_cases c3 : (tv (tv (tv s).2.1).2.1).2.2 = true
  case neg => exact Ev.neg c3 (jt fun h => c3 h.2.2.1)
  refine Ev.pos c3 ?_
  by_cases c4 : (tt (tv (tv (tv s).2.1).2.1).2.1).2.2 = true
  case neg => exact Ev.neg c4 (jt fun h => c4 h.2.2.2.1)
  refine Ev.pos c4 ?_
  by_cases c5 : (tt (tv (tv (tv s).2.1).2.1).2.1).2.1.toList = []
  case neg => exact Ev.neg c5 (jt fun h => c5 h.2.2.2.2.1)
  refine Ev.pos c5 ?_
  by_cases c6 : (tv s).1 > 2
  case pos => exact Ev.pos c6 (jt fun h => by have := fOk_small h.2.2.2.2.2; omega)
  refine Ev.neg c6 ?_
  by_cases c7 : (tv (tv s).2.1).1 > 100
  case pos => exact Ev.pos c7 (jt fun h => by have := fOk_small h.2.2.2.2.2; omega)
  refine Ev.neg c7 ?_
  by_cases c8 : (tv (tv (tv s).2.1).2.1).1 > 100
  · rw [decide_eq_true c8]
    exact jt fun h => by have := fOk_small h.2.2.2.2.2; omega
  · rw [decide_eq_false c8]
    refine Ev.step (fun k => spec_ReadFilter.j0.eq_2 ..) ?_
    rw [wid (x := (tv s).1) (by omega) (by omega), wid (x := (tv (tv s).2.1).1) (by omega) (by omega), wid (x := (tv (tv (tv s).2.1).2.1).1) (by omega) (by omega)]
    refine Ev.neg (by decide) (Ev.bind (sFilterOk_ev _ _ _ _ (by omega)) ?_)
    by_cases c : fOk (tv s).1 (tv (tv s).2.1).1 (tv (tv (tv s).2.1).2.1).1 (tt (tv (tv (tv s).2.1).2.1).2.1).1
    · exact Ev.pos (decide_eq_true c) ((Ev.now _).eqr (if_pos ⟨c1, c2, c3, c4, c5, c⟩).symm)
    · exact Ev.neg (by simpa using c) ((Ev.now _).eqr (if_neg fun h => c h.2.2.2.2.2).symm)
theorem numT_good {s : ByteArray} {b : Bool} (h1 : (tv s).2.2 = true) (h2 : (tv s).1 ≤ 4611686018427387904) : numT s b = ((tv s).1, (tv s).2.1, b) := by
  unfold numT
  rw [if_pos ⟨h1, h2⟩]
theorem numT_not {s : ByteArray} {b : Bool} (h : ¬ ((tv s).2.2 = true ∧ (tv s).1 ≤ 4611686018427387904)) : numT s b = (0, s, true) := by
  unfold numT
  rw [if_neg h]
theorem txtT_good {s : ByteArray} {b : Bool} (h1 : (tt s).2.2 = true) : txtT s b = ((tt s).1, (tt s).2.1, b) := by
  unfold txtT
  rw [if_pos h1]
theorem txtT_not {s : ByteArray} {b : Bool} (h : ¬ (tt s).2.2 = true) : txtT s b = (⟨#[]⟩, s, true) := by
  unfold txtT
  rw [if_neg h]
theorem readFilter_ev (s : ByteArray) (hs : s.size ≤ 4611686018427387904) : Ev (fun k => impl_ReadFilter.f k s) (rfV s) := by
  have z1 := numT_size s false
  have z2 := numT_size (numT s false).2.1 (numT s false).2.2
  have z3 := numT_size (numT (numT s false).2.1 (numT s false).2.2).2.1 (numT (numT s false).2.1 (numT s false).2.2).2.2
  unfold impl_ReadFilter.f
  refine Ev.bind (number_taken s false hs) (Ev.bind (number_taken _ _ (by omega)) (Ev.bind (number_taken _ _ (by omega)) (Ev.bind (text_taken _ _ (by omega)) (Ev.bindS (whole_taken _ _) ?_))))
  have nb : ∀ (b1 : Bool) (b2 b3 : ByteArray) (x y z : Int) (t : ByteArray), b1 = true → ¬ rfP s → Ev (fun k => if (!b1 && (b2.toList == [])) = true then (impl_FilterOk.f k x y z t).bind fun t119 => (if t119 = true then (some (x, y, z, t, true)) else (some (0, 0, 0, (⟨#[]⟩ : ByteArray), false))) else (some (0, 0, 0, (⟨#[]⟩ : ByteArray), false))) (rfV s) := by
    intro b1 b2 b3 x y z t hb hn
    subst hb
    exact Ev.neg (by simp) ((Ev.now _).eqr (if_neg hn).symm)
  by_cases c1 : (tv s).2.2 = true ∧ (tv s).1 ≤ 4611686018427387904
  case neg => exact nb _ _ ⟨#[]⟩ _ _ _ _ (by rw [numT_not c1]; simp only [numT_bad, txtT_bad]) fun h => c1 ⟨h.1, by have := fOk_small h.2.2.2.2.2; omega⟩
  rw [numT_good c1.1 c1.2]
  by_cases c2 : (tv (tv s).2.1).2.2 = true ∧ (tv (tv s).2.1).1 ≤ 4611686018427387904
  case neg => exact nb _ _ ⟨#[]⟩ _ _ _ _ (by simp only []; rw [numT_not c2]; simp only [numT_bad, txtT_bad]) fun h => c2 ⟨h.2.1, by have := fOk_small h.2.2.2.2.2; omega⟩
  simp only []
  rw [numT_good c2.1 c2.2]
  by_cases c3 : (tv (tv (tv s).2.1).2.1).2.2 = true ∧ (tv (tv (tv s).2.1).2.1).1 ≤ 4611686018427387904
  case neg => exact nb _ _ ⟨#[]⟩ _ _ _ _ (by simp only []; rw [numT_not c3]; simp only [numT_bad, txtT_bad]) fun h => c3 ⟨h.2.2.1, by have := fOk_small h.2.2.2.2.2; omega⟩
  simp only []
  rw [numT_good c3.1 c3.2]
  by_cases c4 : (tt (tv (tv (tv s).2.1).2.1).2.1).2.2 = true
  case neg => exact nb _ _ ⟨#[]⟩ _ _ _ _ (by simp only []; rw [txtT_not c4]) fun h => c4 h.2.2.2.1
  simp only []
  rw [txtT_good c4]
  simp only []
  by_cases c5 : (tt (tv (tv (tv s).2.1).2.1).2.1).2.1.toList = []
  case neg => exact Ev.neg (by simpa using c5) ((Ev.now _).eqr (if_neg fun h => c5 h.2.2.2.2.1).symm)
  obtain ⟨_, _, p2, _⟩ := tv_range s
  obtain ⟨_, _, q2, _⟩ := tv_range (tv s).2.1
  obtain ⟨_, _, r2, _⟩ := tv_range (tv (tv s).2.1).2.1
  obtain ⟨_, t1, t2, _⟩ := tt_range (tv (tv (tv s).2.1).2.1).2.1
  refine Ev.pos (by simpa using c5) (Ev.bind (filterOk_ev _ _ _ _ (by omega)) ?_)
  by_cases c : fOk (tv s).1 (tv (tv s).2.1).1 (tv (tv (tv s).2.1).2.1).1 (tt (tv (tv (tv s).2.1).2.1).2.1).1
  · exact Ev.pos (decide_eq_true c) ((Ev.now _).eqr (if_pos ⟨c1.1, c2.1, c3.1, c4, c5, c⟩).symm)
  · exact Ev.neg (by simpa using c) ((Ev.now _).eqr (if_neg fun h => c h.2.2.2.2.2).symm)
end Go.Proofs.Ytedgdnkbojjbmaa.Pure
end

section
namespace Go.Proofs.Ytedgdnkbojjbmaa.Pure
open Go.RowKit Go.Proofs.YtedgdnkbojjbmaaW.PrintWords Go.Proofs.YtedgdnkbojjbmaaW.PrintLast Go.Proofs.YtedgdnkbojjbmaaW.PrintMore
open Go.Proofs.Ytedgdnkbojjbmaa.P
set_option linter.unusedVariables false
set_option linter.unusedSimpArgs false
theorem FnExactReadFilter : laws_FnExactReadFilter.Pure := by
  intro s _
  refine Ev.rounds (g := fun k => laws_FnExactReadFilter.f k s) ?_
  unfold laws_FnExactReadFilter.f
  by_cases c : (s.size : Int) > 1048576
  · exact Ev.pos c (Ev.now _)
  · refine Ev.neg c (Ev.bind (sReadFilter_ev s (by omega)) (Ev.bind (readFilter_ev s (by omega)) ?_))
    exact Ev.bindS (a := true) (by unfold laws_eqFilter.f; simp) (Ev.pos rfl (Ev.neg (by simp) (Ev.now _)))
end Go.Proofs.Ytedgdnkbojjbmaa.Pure
end
