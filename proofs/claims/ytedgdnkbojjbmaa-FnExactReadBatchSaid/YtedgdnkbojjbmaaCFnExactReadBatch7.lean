/- Proved: the law FnExactReadBatch of the given program returns true for every input of its Go types and leaves each argument as it was; no condition. (Part 8 of 9.) -/
import Derived.Test.YtedgdnkbojjbmaaCFnExactReadBatch4
import Derived.Test.YtedgdnkbojjbmaaCFnExactReadBatch5
import Derived.Test.YtedgdnkbojjbmaaCFnExactReadBatch6
import Derived.Lib.EndianBits
section
namespace Go.Proofs.Ytedgdnkbojjbmaa.P
open Go.RowKit Go.Proofs.YtedgdnkbojjbmaaW.PrintWords Go.Proofs.YtedgdnkbojjbmaaW.PrintLast Go.Proofs.YtedgdnkbojjbmaaW.PrintMore
attribute [local go_sem] str_gtr str_leq str_geq max2_int min2_int max_two min_two max_three min_three max_four min_four
set_option linter.unusedVariables false
set_option linter.unusedSimpArgs false
theorem and127 : ∀ x : Fin 256, Go.bits .and .u8 ((x.val : Nat) : Int) 127 = ((x.val % 128 : Nat) : Int) := by decide +kernel
def tvGo (s : ByteArray) : Nat → Nat → Int → Int × ByteArray × Bool
  | 0, _, _ => (0, ⟨#[]⟩, false)
  | d + 1, i, acc => if i < s.size then
      (if i = 9 ∧ 1 < bt s i then (0, ⟨#[]⟩, false)
      else if bt s i < 128 then (if 0 < i ∧ bt s i = 0 then (0, ⟨#[]⟩, false) else (acc + bt s i * 128 ^ i, s.extract (i + 1) s.size, true))
      else tvGo s d (i + 1) (acc + (bt s i - 128) * 128 ^ i))
    else (0, ⟨#[]⟩, false)
def tv (s : ByteArray) : Int × ByteArray × Bool := tvGo s 10 0 0
theorem or_step (i : Nat) (hi : i < 10) (acc b : Int) (h0 : 0 ≤ acc) (h1 : acc < 128 ^ i) (b0 : 0 ≤ b) (b1 : b < 128) (b2 : i = 9 → b < 2) :
    Go.bits .or .u64 acc (shl .u64 b (7 * (i : Int))) = acc + b * 128 ^ i := by
  have hp : (128 : Int) ^ i = 2 ^ (7 * i) := by rw [Int.pow_mul]; rfl
  have hpos : (0 : Int) < 128 ^ i := Int.pow_pos (by decide)
  have hlt : b * 128 ^ i < 2 ^ 64 := by
    by_cases c : i = 9
    · subst c
      have := b2 rfl
      have : b * 128 ^ 9 ≤ 1 * 128 ^ 9 := Int.mul_le_mul_of_nonneg_right (by omega) (by decide)
      omega
    · have h8 : (128 : Int) ^ i ≤ 128 ^ 8 := by
        have : (128 : Nat) ^ i ≤ 128 ^ 8 := Nat.pow_le_pow_right (by decide) (by omega)
        exact_mod_cast this
      have : b * 128 ^ i ≤ 127 * 128 ^ 8 := Int.mul_le_mul (by omega) h8 (by omega) (by decide)
      omega
  have hnn : 0 ≤ b * 128 ^ i := Int.mul_nonneg b0 (by omega)
  have hs : shl .u64 b (7 * (i : Int)) = b * 128 ^ i := by
    unfold shl
    rw [show min (7 * (i : Int)).toNat IntKind.u64.bits = 7 * i from by simp only [IntKind.bits]; omega, ← hp]
    exact wraps_u64 _ hnn hlt
  rw [hs]
  refine bits_join_low .u64 64 (by decide) wraps_u64 (7 * i) acc _ h0 (by rw [← hp]; exact h1) ?_ hnn (by rw [← hp]; exact Int.mul_emod_left _ _) hlt
  have : (128 : Int) ^ i ≤ 128 ^ 9 := by
    have : (128 : Nat) ^ i ≤ 128 ^ 9 := Nat.pow_le_pow_right (by decide) (by omega)
    exact_mod_cast this
  omega
theorem wrap7 (i : Nat) (h : i < 1000) : wrap64 (7 * (i : Int)) = 7 * (i : Int) := wid (by omega) (by omega)
theorem and127' (b : Int) (h0 : 0 ≤ b) (h1 : b ≤ 255) : Go.bits .and .u8 b 127 = b % 128 := by
  have := and127 ⟨b.toNat, by omega⟩
  simp only at this
  rw [show b = ((b.toNat : Nat) : Int) from by omega, this]
  omega
theorem sTakeVar_ev (s : ByteArray) (hs : s.size ≤ 4611686018427387904) : Ev (fun k => spec_TakeVar.f k s) (tv s) := by
  have key : ∀ (d i : Nat) (acc : Int), i + d = 10 → 0 ≤ acc → acc < 128 ^ i → Ev (fun k => spec_TakeVar.l0 k s acc (i : Int)) (tvGo s d i acc) := by
    intro d
    induction d with
    | zero =>
      intro i acc hi _ _
      obtain rfl : i = 10 := by omega
      refine Ev.step (fun k => spec_TakeVar.l0.eq_2 ..) ?_
      by_cases c : ((10 : Nat) : Int) < (s.size : Int)
      · refine Ev.pos c (Ev.step (fun k => spec_TakeVar.j1.eq_2 ..) ?_)
        exact Ev.neg (by decide) (Ev.now _)
      · refine Ev.neg c (Ev.step (fun k => spec_TakeVar.j1.eq_2 ..) ?_)
        exact Ev.neg (by decide) (Ev.now _)
    | succ d ih =>
      intro i acc hi h0 h1
      unfold tvGo
      by_cases c : i < s.size
      · refine Ev.eqr ?_ (if_pos c).symm
        obtain ⟨r0, r1⟩ := bt_range s (i : Int)
        have hg : (IntKind.u64.wrap (Int.tmod (bt s (i : Int)) 128)) = bt s (i : Int) % 128 := by
          rw [Int.tmod_eq_emod_of_nonneg r0, uid (by omega) (by omega)]
        have hw7 : IntKind.u64.wrap (wrap64 (7 * (i : Int))) = 7 * (i : Int) := by rw [wrap7 i (by omega), uid (by omega) (by omega)]
        have hsucc : wrap64 ((i : Int) + 1) = ((i + 1 : Nat) : Int) := wsucc (by omega)
        have hn : (((i + 1 : Nat) : Int)).toNat = i + 1 := Int.toNat_natCast _
        have hpow : (128 : Int) ^ (i + 1) = 128 ^ i * 128 := Int.pow_succ 128 i
        have hpos : (0 : Int) < 128 ^ i := Int.pow_pos (by decide)
        refine Ev.step (fun k => spec_TakeVar.l0.eq_2 ..) (Ev.pos (by omega) ?_)
        refine Ev.step (fun k => spec_TakeVar.j1.eq_2 ..) ?_
        refine Ev.pos (decide_eq_true (by omega)) (Ev.pos (by omega) (Ev.pos (by omega) ?_))
        rw [hg]
        have main : (i = 9 → bt s (i : Int) % 128 < 2) → Ev (fun k => spec_TakeVar.j2 k s acc (i : Int) (bt s (i : Int) % 128) false) (if bt s (i : Int) < 128 then (if 0 < i ∧ bt s (i : Int) = 0 then ((0 : Int), (⟨#[]⟩ : ByteArray), false) else (acc + bt s (i : Int) * 128 ^ i, s.extract (i + 1) s.size, true)) else tvGo s d (i + 1) (acc + (bt s (i : Int) - 128) * 128 ^ i)) := by
          intro h9
          have hor := or_step i (by omega) acc (bt s (i : Int) % 128) h0 h1 (by omega) (by omega) (by omega)
          refine Ev.step (fun k => spec_TakeVar.j2.eq_2 ..) (Ev.neg (by decide) ?_)
          rw [hw7, hor, hsucc, hn]
          refine Ev.pos (by omega) (Ev.pos (by omega) (Ev.pos (by omega) ?_))
          by_cases c2 : bt s (i : Int) < 128
          · refine Ev.eqr ?_ (if_pos c2).symm
            rw [show bt s (i : Int) % 128 = bt s (i : Int) from by omega]
            refine Ev.pos c2 ?_
            by_cases cz : bt s (i : Int) = 0
            · by_cases ci : 0 < i
              · refine Ev.eqr ?_ (if_pos ⟨ci, cz⟩).symm
                exact Ev.pos (by omega) (Ev.pos cz (Ev.now _))
              · refine Ev.eqr ?_ (if_neg (fun h => ci h.1)).symm
                exact Ev.neg (by omega) (Ev.pos (by omega) (Ev.pos (by omega) (Ev.now _)))
            · refine Ev.eqr ?_ (if_neg (fun h => cz h.2)).symm
              by_cases ci : 0 < i
              · exact Ev.pos (by omega) (Ev.neg cz (Ev.pos (by omega) (Ev.pos (by omega) (Ev.now _))))
              · exact Ev.neg (by omega) (Ev.pos (by omega) (Ev.pos (by omega) (Ev.now _)))
          · refine Ev.eqr ?_ (if_neg c2).symm
            rw [show bt s (i : Int) % 128 = bt s (i : Int) - 128 from by omega]
            refine Ev.neg c2 ?_
            have hm : (bt s (i : Int) - 128) * 128 ^ i ≤ 127 * 128 ^ i := Int.mul_le_mul_of_nonneg_right (by omega) (by omega)
            have hm0 : 0 ≤ (bt s (i : Int) - 128) * 128 ^ i := Int.mul_nonneg (by omega) (by omega)
            exact ih (i + 1) _ (by omega) (by omega) (by omega)
        by_cases c9 : i = 9
        · refine Ev.pos (by omega) ?_
          by_cases cb : 1 < bt s (i : Int)
          · skip
            refine Ev.eqr ?_ (if_pos ⟨c9, cb⟩).symm
            rw [decide_eq_true (show bt s (i : Int) > 1 by omega)]
            refine Ev.step (fun k => spec_TakeVar.j2.eq_2 ..) ?_
            exact Ev.pos (by decide) (Ev.now _)
          · refine Ev.eqr ?_ (if_neg (fun h => cb h.2)).symm
            rw [decide_eq_false (show ¬ (bt s (i : Int) > 1) by omega)]
            exact main (fun _ => by omega)
        · refine Ev.neg (by omega) ?_
          refine Ev.eqr ?_ (if_neg (fun h => c9 h.1)).symm
          exact main (fun h => absurd h c9)
      · refine Ev.eqr ?_ (if_neg c).symm
        refine Ev.step (fun k => spec_TakeVar.l0.eq_2 ..) (Ev.neg (by omega) ?_)
        refine Ev.step (fun k => spec_TakeVar.j1.eq_2 ..) ?_
        exact Ev.neg (by decide) (Ev.now _)
  exact key 10 0 0 rfl (by decide) (by decide)
theorem takeVar_ev (s : ByteArray) (hs : s.size ≤ 4611686018427387904) : Ev (fun k => impl_TakeVar.f k s) (tv s) := by
  have key : ∀ (d i : Nat) (acc : Int), i + d = 10 → 0 ≤ acc → acc < 128 ^ i → Ev (fun k => impl_TakeVar.l0 k s acc (i : Int)) (tvGo s d i acc) := by
    intro d
    induction d with
    | zero =>
      intro i acc hi _ _
      obtain rfl : i = 10 := by omega
      refine Ev.step (fun k => impl_TakeVar.l0.eq_2 ..) ?_
      by_cases c : ((10 : Nat) : Int) < (s.size : Int)
      · refine Ev.pos c (Ev.step (fun k => impl_TakeVar.j1.eq_2 ..) ?_)
        exact Ev.neg (by decide) (Ev.now _)
      · refine Ev.neg c (Ev.step (fun k => impl_TakeVar.j1.eq_2 ..) ?_)
        exact Ev.neg (by decide) (Ev.now _)
    | succ d ih =>
      intro i acc hi h0 h1
      unfold tvGo
      by_cases c : i < s.size
      · refine Ev.eqr ?_ (if_pos c).symm
        obtain ⟨r0, r1⟩ := bt_range s (i : Int)
        have hg : (IntKind.u64.wrap (Go.bits .and .u8 (bt s (i : Int)) 127)) = bt s (i : Int) % 128 := by
          rw [and127' _ r0 r1, uid (by omega) (by omega)]
        have hw7 : wrap64 (7 * (i : Int)) = 7 * (i : Int) := by exact wrap7 i (by omega)
        have hsucc : wrap64 ((i : Int) + 1) = ((i + 1 : Nat) : Int) := wsucc (by omega)
        have hn : (((i + 1 : Nat) : Int)).toNat = i + 1 := Int.toNat_natCast _
        have hpow : (128 : Int) ^ (i + 1) = 128 ^ i * 128 := Int.pow_succ 128 i
        have hpos : (0 : Int) < 128 ^ i := Int.pow_pos (by decide)
        refine Ev.step (fun k => impl_TakeVar.l0.eq_2 ..) (Ev.pos (by omega) ?_)
        refine Ev.step (fun k => impl_TakeVar.j1.eq_2 ..) ?_
        refine Ev.pos (decide_eq_true (by omega)) (Ev.pos (by omega) (Ev.pos (by omega) ?_))
        rw [hg]
        have main : (i = 9 → bt s (i : Int) % 128 < 2) → Ev (fun k => impl_TakeVar.j2 k s acc (i : Int) (bt s (i : Int) % 128) false) (if bt s (i : Int) < 128 then (if 0 < i ∧ bt s (i : Int) = 0 then ((0 : Int), (⟨#[]⟩ : ByteArray), false) else (acc + bt s (i : Int) * 128 ^ i, s.extract (i + 1) s.size, true)) else tvGo s d (i + 1) (acc + (bt s (i : Int) - 128) * 128 ^ i)) := by
          intro h9
          have hor := or_step i (by omega) acc (bt s (i : Int) % 128) h0 h1 (by omega) (by omega) (by omega)
          refine Ev.step (fun k => impl_TakeVar.j2.eq_2 ..) (Ev.neg (by decide) ?_)
          rw [hw7, hor, hsucc, hn]
          refine Ev.pos (by omega) (Ev.pos (by omega) (Ev.pos (by omega) ?_))
          by_cases c2 : bt s (i : Int) < 128
          · refine Ev.eqr ?_ (if_pos c2).symm
            rw [show bt s (i : Int) % 128 = bt s (i : Int) from by omega]
            refine Ev.neg (by omega) ?_
            by_cases cz : bt s (i : Int) = 0
            · by_cases ci : 0 < i
              · refine Ev.eqr ?_ (if_pos ⟨ci, cz⟩).symm
                exact Ev.pos cz (Ev.pos (by omega) (Ev.now _))
              · refine Ev.eqr ?_ (if_neg (fun h => ci h.1)).symm
                exact Ev.pos cz (Ev.neg (by omega) (Ev.pos (by omega) (Ev.pos (by omega) (Ev.now _))))
            · refine Ev.eqr ?_ (if_neg (fun h => cz h.2)).symm
              exact Ev.neg cz (Ev.pos (by omega) (Ev.pos (by omega) (Ev.now _)))
          · refine Ev.eqr ?_ (if_neg c2).symm
            rw [show bt s (i : Int) % 128 = bt s (i : Int) - 128 from by omega]
            refine Ev.pos (by omega) ?_
            have hm : (bt s (i : Int) - 128) * 128 ^ i ≤ 127 * 128 ^ i := Int.mul_le_mul_of_nonneg_right (by omega) (by omega)
            have hm0 : 0 ≤ (bt s (i : Int) - 128) * 128 ^ i := Int.mul_nonneg (by omega) (by omega)
            exact ih (i + 1) _ (by omega) (by omega) (by omega)
        by_cases c9 : i = 9
        · refine Ev.pos (by omega) ?_
          by_cases cb : 1 < bt s (i : Int)
          · by_cases cg : bt s (i : Int) % 128 > 1
            case neg =>
              refine Ev.eqr ?_ (if_pos ⟨c9, cb⟩).symm
              rw [decide_eq_false cg]
              refine (main (fun _ => by omega)).eqr ?_
              obtain rfl : d = 0 := by omega
              rw [if_neg (by omega)]
              rfl
            refine Ev.eqr ?_ (if_pos ⟨c9, cb⟩).symm
            rw [decide_eq_true (show bt s (i : Int) % 128 > 1 by omega)]
            refine Ev.step (fun k => impl_TakeVar.j2.eq_2 ..) ?_
            exact Ev.pos (by decide) (Ev.now _)
          · refine Ev.eqr ?_ (if_neg (fun h => cb h.2)).symm
            rw [decide_eq_false (show ¬ (bt s (i : Int) % 128 > 1) by omega)]
            exact main (fun _ => by omega)
        · refine Ev.neg (by omega) ?_
          refine Ev.eqr ?_ (if_neg (fun h => c9 h.1)).symm
          exact main (fun h => absurd h c9)
      · refine Ev.eqr ?_ (if_neg c).symm
        refine Ev.step (fun k => impl_TakeVar.l0.eq_2 ..) (Ev.neg (by omega) ?_)
        refine Ev.step (fun k => impl_TakeVar.j1.eq_2 ..) ?_
        exact Ev.neg (by decide) (Ev.now _)
  exact key 10 0 0 rfl (by decide) (by decide)
end Go.Proofs.Ytedgdnkbojjbmaa.P
end

section
namespace Go.Proofs.Ytedgdnkbojjbmaa.P
open Go.RowKit Go.Proofs.YtedgdnkbojjbmaaW.PrintWords Go.Proofs.YtedgdnkbojjbmaaW.PrintLast Go.Proofs.YtedgdnkbojjbmaaW.PrintMore
attribute [local go_sem] str_gtr str_leq str_geq max2_int min2_int max_two min_two max_three min_three max_four min_four
set_option linter.unusedVariables false
set_option linter.unusedSimpArgs false
def tt (s : ByteArray) : ByteArray × ByteArray × Bool :=
  if (tv s).2.2 = true ∧ (tv s).1 ≤ 60000 ∧ (tv s).1 ≤ ((tv s).2.1.size : Int) then ((tv s).2.1.extract 0 (tv s).1.toNat, (tv s).2.1.extract (tv s).1.toNat (tv s).2.1.size, true) else (⟨#[]⟩, ⟨#[]⟩, false)
theorem empty_size : (⟨#[]⟩ : ByteArray).size = 0 := rfl
theorem tvGo_range (s : ByteArray) : ∀ (d i : Nat) (acc : Int), i + d = 10 → 0 ≤ acc → acc < 128 ^ i → 0 ≤ (tvGo s d i acc).1 ∧ (tvGo s d i acc).1 < 18446744073709551616 ∧ (tvGo s d i acc).2.1.size ≤ s.size ∧ ((tvGo s d i acc).2.2 = true → (tvGo s d i acc).2.1.size < s.size) := by
  intro d
  induction d with
  | zero => intro i acc _ _ _; simp [tvGo, empty_size]
  | succ d ih =>
    intro i acc hi h0 h1
    have hf : 0 ≤ ((0 : Int), (⟨#[]⟩ : ByteArray), false).1 ∧ ((0 : Int), (⟨#[]⟩ : ByteArray), false).1 < 18446744073709551616 ∧ ((0 : Int), (⟨#[]⟩ : ByteArray), false).2.1.size ≤ s.size ∧ (((0 : Int), (⟨#[]⟩ : ByteArray), false).2.2 = true → ((0 : Int), (⟨#[]⟩ : ByteArray), false).2.1.size < s.size) := by simp [empty_size]
    obtain ⟨r0, r1⟩ := bt_range s (i : Int)
    have hpos : (0 : Int) < 128 ^ i := Int.pow_pos (by decide)
    unfold tvGo
    by_cases c : i < s.size
    · rw [if_pos c]
      by_cases c9 : i = 9 ∧ 1 < bt s (i : Int)
      · rw [if_pos c9]; exact hf
      · rw [if_neg c9]
        by_cases c2 : bt s (i : Int) < 128
        · rw [if_pos c2]
          by_cases cz : 0 < i ∧ bt s (i : Int) = 0
          · rw [if_pos cz]; exact hf
          · rw [if_neg cz]
            have hn : 0 ≤ bt s (i : Int) * 128 ^ i := Int.mul_nonneg r0 (by omega)
            have hb : acc + bt s (i : Int) * 128 ^ i < 18446744073709551616 := by
              by_cases e : i = 9
              · subst e
                have : bt s ((9 : Nat) : Int) ≤ 1 := by
                  have := fun h => c9 ⟨rfl, h⟩
                  omega
                have : bt s ((9 : Nat) : Int) * 128 ^ 9 ≤ 1 * 128 ^ 9 := Int.mul_le_mul_of_nonneg_right this (by decide)
                omega
              · have h8 : (128 : Int) ^ i ≤ 128 ^ 8 := by
                  have : (128 : Nat) ^ i ≤ 128 ^ 8 := Nat.pow_le_pow_right (by decide) (by omega)
                  exact_mod_cast this
                have : bt s (i : Int) * 128 ^ i ≤ 127 * 128 ^ 8 := Int.mul_le_mul (by omega) h8 (by omega) (by decide)
                omega
            refine ⟨by show 0 ≤ acc + _; omega, hb, ?_, ?_⟩
            · show (s.extract (i + 1) s.size).size ≤ s.size
              rw [ByteArray.size_extract]; omega
            · intro _
              show (s.extract (i + 1) s.size).size < s.size
              rw [ByteArray.size_extract]; omega
        · rw [if_neg c2]
          have hm : (bt s (i : Int) - 128) * 128 ^ i ≤ 127 * 128 ^ i := Int.mul_le_mul_of_nonneg_right (by omega) (by omega)
          have hm0 : 0 ≤ (bt s (i : Int) - 128) * 128 ^ i := Int.mul_nonneg (by omega) (by omega)
          have hpow : (128 : Int) ^ (i + 1) = 128 ^ i * 128 := Int.pow_succ 128 i
          exact ih (i + 1) _ (by omega) (by omega) (by omega)
    · rw [if_neg c]; exact hf
theorem tv_range (s : ByteArray) : 0 ≤ (tv s).1 ∧ (tv s).1 < 18446744073709551616 ∧ (tv s).2.1.size ≤ s.size ∧ ((tv s).2.2 = true → (tv s).2.1.size < s.size) := tvGo_range s 10 0 0 rfl (by decide) (by decide)
theorem takeText_ev (s : ByteArray) (hs : s.size ≤ 4611686018427387904) : Ev (fun k => impl_TakeText.f k s) (tt s) := by
  unfold impl_TakeText.f tt
  obtain ⟨r0, r1, r2, _⟩ := tv_range s
  refine Ev.bind (takeVar_ev s hs) ?_
  by_cases c1 : (tv s).2.2 = true
  · refine Ev.pos c1 ?_
    by_cases c2 : (tv s).1 > 60000
    · exact Ev.pos c2 ((Ev.now _).eqr (if_neg (fun h => by omega)).symm)
    · refine Ev.neg c2 ?_
      rw [uid (x := ((tv s).2.1.size : Int)) (by omega) (by omega)]
      by_cases c3 : (tv s).1 > ((tv s).2.1.size : Int)
      · exact Ev.pos c3 ((Ev.now _).eqr (if_neg (fun h => by omega)).symm)
      · exact Ev.neg c3 (Ev.pos r0 (Ev.pos (by omega) ((Ev.now _).eqr (if_pos ⟨c1, by omega, by omega⟩).symm)))
  · exact Ev.neg c1 ((Ev.now _).eqr (if_neg (fun h => c1 h.1)).symm)
theorem sTakeText_ev (s : ByteArray) (hs : s.size ≤ 4611686018427387904) : Ev (fun k => spec_TakeText.f k s) (tt s) := by
  unfold spec_TakeText.f tt
  obtain ⟨r0, r1, r2, _⟩ := tv_range s
  refine Ev.bind (sTakeVar_ev s hs) ?_
  by_cases c1 : (tv s).2.2 = true
  · refine Ev.pos c1 ?_
    by_cases c2 : (tv s).1 > 60000
    · exact Ev.pos c2 ((Ev.now _).eqr (if_neg (fun h => by omega)).symm)
    · refine Ev.neg c2 ?_
      rw [uid (x := ((tv s).2.1.size : Int)) (by omega) (by omega)]
      by_cases c3 : (tv s).1 > ((tv s).2.1.size : Int)
      · exact Ev.pos c3 ((Ev.now _).eqr (if_neg (fun h => by omega)).symm)
      · exact Ev.neg c3 (Ev.pos r0 (Ev.pos (by omega) ((Ev.now _).eqr (if_pos ⟨c1, by omega, by omega⟩).symm)))
  · exact Ev.neg c1 ((Ev.now _).eqr (if_neg (fun h => c1 h.1)).symm)
theorem tt_range (s : ByteArray) : (tt s).1.size ≤ 60000 ∧ (tt s).1.size ≤ s.size ∧ (tt s).2.1.size ≤ s.size ∧ ((tt s).2.2 = true → (tt s).2.1.size < s.size) := by
  obtain ⟨r0, r1, r2, r3⟩ := tv_range s
  unfold tt
  by_cases c : (tv s).2.2 = true ∧ (tv s).1 ≤ 60000 ∧ (tv s).1 ≤ ((tv s).2.1.size : Int)
  · rw [if_pos c]
    have := r3 c.1
    simp only [ByteArray.size_extract]
    exact ⟨by omega, by omega, by omega, fun _ => by omega⟩
  · rw [if_neg c]
    simp [empty_size]
end Go.Proofs.Ytedgdnkbojjbmaa.P
end

section
namespace Go.Proofs.Ytedgdnkbojjbmaa.P
open Go.RowKit Go.Proofs.YtedgdnkbojjbmaaW.PrintWords Go.Proofs.YtedgdnkbojjbmaaW.PrintLast Go.Proofs.YtedgdnkbojjbmaaW.PrintMore
attribute [local go_sem] str_gtr str_leq str_geq max2_int min2_int max_two min_two max_three min_three max_four min_four
set_option linter.unusedVariables false
set_option linter.unusedSimpArgs false
def isK (u : ByteArray) (seq kind : Int) : Prop := isU u ∧ (0 ≤ seq ∧ seq ≤ 1000000000000) ∧ 0 ≤ kind ∧ kind ≤ 1
instance (u : ByteArray) (seq kind : Int) : Decidable (isK u seq kind) := by unfold isK; infer_instance
def isE (u : ByteArray) (seq kind : Int) (v : ByteArray) : Prop := isK u seq kind ∧ v.size ≤ 200 ∧ (kind = 1 ∨ v.toList = [])
instance (u : ByteArray) (seq kind : Int) (v : ByteArray) : Decidable (isE u seq kind v) := by unfold isE; infer_instance
theorem beq_dec (a b : List UInt8) : (a == b) = decide (a = b) := by
  by_cases h : a = b <;> simp [h]
theorem keyOk_ev (u : ByteArray) (q d : Int) : impl_KeyOk.f u q d = some (decide (isK u q d)) := by
  unfold impl_KeyOk.f isK
  rw [isUser_ev, within_ev, within_ev]
  by_cases h : isU u
  · by_cases h2 : 0 ≤ q ∧ q ≤ 1000000000000
    · simp [h, h2]
    · simp [h, h2]
  · simp [h]
theorem sKeyOk_ev (u : ByteArray) (q d : Int) : spec_KeyOk.f u q d = some (decide (isK u q d)) := by
  unfold spec_KeyOk.f isK
  rw [l2User_ev, in_ev, in_ev]
  by_cases h : isU u
  · by_cases h2 : 0 ≤ q ∧ q ≤ 1000000000000
    · simp [h, h2]
    · simp [h, h2]
  · simp [h]
theorem entryOk_ev (u : ByteArray) (q d : Int) (v : ByteArray) : impl_EntryOk.f u q d v = some (decide (isE u q d v)) := by
  unfold impl_EntryOk.f isE
  rw [keyOk_ev]
  by_cases h : isK u q d
  · by_cases h2 : v.size ≤ 200
    · have h2' : (v.size : Int) ≤ 200 := by omega
      by_cases h3 : d = 1
      · subst h3
        simp [h, h2, h2']
      · simp only [h, h2, h2', h3, decide_true, Option.bind_some, if_true, if_false, true_and, false_or]
        congr 1
        exact beq_dec _ _
    · have h2' : ¬ (v.size : Int) ≤ 200 := by omega
      simp [h, h2, h2']
  · simp [h]
theorem sEntryOk_ev (u : ByteArray) (q d : Int) (v : ByteArray) : spec_EntryOk.f u q d v = some (decide (isE u q d v)) := by
  unfold spec_EntryOk.f isE
  rw [sKeyOk_ev]
  by_cases h : isK u q d
  · by_cases h2 : v.size ≤ 200
    · have h2' : (v.size : Int) ≤ 200 := by omega
      by_cases h3 : d = 1
      · subst h3
        simp [h, h2, h2']
      · simp only [h, h2, h2', h3, decide_true, Option.bind_some, if_true, if_false, true_and, false_or]
        congr 1
        exact beq_dec _ _
    · have h2' : ¬ (v.size : Int) ≤ 200 := by omega
      simp [h, h2, h2']
  · simp [h]
end Go.Proofs.Ytedgdnkbojjbmaa.P
end

section
namespace Go.Proofs.Ytedgdnkbojjbmaa.Pure
open Go.RowKit Go.Proofs.YtedgdnkbojjbmaaW.PrintWords Go.Proofs.YtedgdnkbojjbmaaW.PrintLast Go.Proofs.YtedgdnkbojjbmaaW.PrintMore
open Go.Proofs.Ytedgdnkbojjbmaa.P
set_option linter.unusedVariables false
set_option linter.unusedSimpArgs false
theorem rdOp (l : List S114) (i : Nat) (h : i < l.length) : rd_T114 l (i : Int) = l[i] := by
  unfold rd_T114
  rw [Int.toNat_natCast, List.getD_eq_getElem?_getD, List.getElem?_eq_getElem h]
  rfl
def entOf (q : Int) (i : Nat) (o : S114) : S139 := ⟨⟨o.f1, wrap64 (q + (i : Int)), o.f0⟩, o.f2⟩
def entsFrom (q : Int) : Nat → List S114 → List S139
  | _, [] => []
  | i, o :: os => entOf q i o :: entsFrom q (i + 1) os
theorem entries_ev (q : Int) (l : List S114) (hl : l.length < 2097152) : Ev (fun k => impl_Batch_entries.f k q l) (entsFrom q 0 l) := by
  have key : ∀ i, i ≤ l.length → ∀ acc : List S139, acc.length = i → Ev (fun k => impl_Batch_entries.l0 k acc l (l.length : Int) (i : Int) q l) (acc ++ entsFrom q i (l.drop i)) := by
    refine downTo l.length ?_ ?_
    · intro acc ha
      rw [List.drop_length]
      refine Ev.step (fun k => impl_Batch_entries.l0.eq_2 ..) ?_
      refine Ev.neg (by omega) ?_
      rw [entsFrom, List.append_nil]
      exact Ev.now _
    · intro i hi ih acc ha
      rw [List.drop_eq_getElem_cons hi]
      refine Ev.step (fun k => impl_Batch_entries.l0.eq_2 ..) ?_
      refine Ev.pos (by omega) (Ev.pos (by omega) (Ev.pos (by omega) (Ev.pos (by omega) ?_)))
      rw [wsucc (by omega), rdOp l i hi]
      refine (ih (acc ++ [entOf q i l[i]]) (by simp [ha])).eqr ?_
      rw [List.append_assoc]
      rfl
  exact key 0 (Nat.zero_le _) [] rfl
def isB (q : Int) (l : List S114) : Prop := (1 ≤ l.length ∧ l.length ≤ 20) ∧ (1 ≤ q ∧ q ≤ 999999999980) ∧ ∀ x ∈ entsFrom q 0 l, isE x.f0.f0 x.f0.f1 x.f0.f2 x.f1
noncomputable instance (q : Int) (l : List S114) : Decidable (isB q l) := Classical.propDecidable _
theorem notEntryOk_p (x : S139) : containsFunc_notEntryOk.p x = !decide (isE x.f0.f0 x.f0.f1 x.f0.f2 x.f1) := by
  unfold containsFunc_notEntryOk.p impl_BatchOk_1.f
  rw [entryOk_ev]
  rfl
theorem any_not {α : Type} (l : List α) (p : α → Prop) [DecidablePred p] : (!l.any fun x => !decide (p x)) = decide (∀ x ∈ l, p x) := by
  induction l with
  | nil => simp
  | cons a l ih =>
    rw [List.any_cons, Bool.not_or, Bool.not_not, ih]
    simp
theorem batchOk_ev (q : Int) (l : List S114) (hl : l.length < 2097152) : Ev (fun k => impl_BatchOk.f k q l) (decide (isB q l)) := by
  have h1 := within_ev (l.length : Int) 1 20
  have h2 := within_ev q 1 999999999980
  unfold impl_BatchOk.f
  refine Ev.bindS h1 ?_
  by_cases c1 : 1 ≤ l.length ∧ l.length ≤ 20
  · refine Ev.pos (decide_eq_true (by omega)) (Ev.bindS h2 ?_)
    by_cases c2 : 1 ≤ q ∧ q ≤ 999999999980
    · refine Ev.pos (decide_eq_true c2) (Ev.bind (entries_ev q l hl) (Ev.bindS rfl ((Ev.now _).eqr ?_)))
      rw [show containsFunc_notEntryOk.p = fun x => !decide (isE x.f0.f0 x.f0.f1 x.f0.f2 x.f1) from funext notEntryOk_p, any_not]
      exact decide_eq_decide.2 ⟨fun h => ⟨c1, c2, h⟩, fun h => h.2.2⟩
    · exact Ev.neg (by simpa using c2) ((Ev.now _).eqr (decide_eq_false fun h => c2 h.2.1).symm)
  · exact Ev.neg (by simp only [decide_eq_true_eq]; omega) ((Ev.now _).eqr (decide_eq_false fun h => c1 h.1).symm)
theorem sBatchOk_ev (q : Int) (l : List S114) (hl : l.length < 2097152) : Ev (fun k => spec_BatchOk.f k q l) (decide (isB q l)) := by
  have h2 := in_ev q 1 999999999980
  have jt : Ev (fun k => spec_BatchOk.j0 k true q l) false := by
    refine Ev.step (fun k => spec_BatchOk.j0.eq_2 ..) ?_
    exact Ev.pos rfl (Ev.now _)
  unfold spec_BatchOk.f
  by_cases c1 : (l.length : Int) < 1
  · exact Ev.pos c1 (jt.eqr (decide_eq_false fun h => by have := h.1; omega).symm)
  · refine Ev.neg c1 ?_
    by_cases c3 : (l.length : Int) > 20
    · exact Ev.pos c3 (jt.eqr (decide_eq_false fun h => by have := h.1; omega).symm)
    · refine Ev.neg c3 (Ev.bindS h2 ?_)
      by_cases c2 : 1 ≤ q ∧ q ≤ 999999999980
      · rw [decide_eq_true c2]
        refine Ev.step (fun k => spec_BatchOk.j0.eq_2 ..) ?_
        refine Ev.neg (by decide) ?_
        have key : ∀ i, i ≤ l.length → Ev (fun k => spec_BatchOk.l0 k (i : Int) q l) (decide (∀ x ∈ entsFrom q i (l.drop i), isE x.f0.f0 x.f0.f1 x.f0.f2 x.f1)) := by
          refine downTo l.length ?_ ?_
          · refine Ev.step (fun k => spec_BatchOk.l0.eq_2 ..) ?_
            rw [List.drop_length]
            exact Ev.neg (by omega) ((Ev.now _).eqr (decide_eq_true (fun x h => by simp [entsFrom] at h)).symm)
          · intro i hi ih
            rw [List.drop_eq_getElem_cons hi]
            refine Ev.step (fun k => spec_BatchOk.l0.eq_2 ..) ?_
            refine Ev.pos (by omega) (Ev.bindS (a := (l[i].f1, wrap64 (q + (i : Int)), l[i].f0, l[i].f2)) ?_ (Ev.bindS (sEntryOk_ev _ _ _ _) ?_))
            · unfold spec_l7Entry.f
              rw [if_pos (by omega), if_pos (by omega), rdOp l i hi]
            · by_cases ce : isE l[i].f1 (wrap64 (q + (i : Int))) l[i].f0 l[i].f2
              · refine Ev.pos (decide_eq_true ce) ?_
                rw [wsucc (by omega)]
                refine ih.eqr (decide_eq_decide.2 ⟨fun h x hx => ?_, fun h x hx => h x (List.mem_cons_of_mem _ hx)⟩)
                rcases List.mem_cons.1 hx with rfl | hx
                · exact ce
                · exact h x hx
              · refine Ev.neg (by simpa using ce) ((Ev.now _).eqr (decide_eq_false fun h => ce ?_).symm)
                exact h (entOf q i l[i]) (List.mem_cons_self ..)
        refine (key 0 (Nat.zero_le _)).eqr (decide_eq_decide.2 ⟨fun h => ⟨by omega, c2, h⟩, fun h => h.2.2⟩)
      · rw [decide_eq_false c2]
        exact jt.eqr (decide_eq_false fun h => c2 h.2.1).symm
end Go.Proofs.Ytedgdnkbojjbmaa.Pure
end

section
namespace Go.Proofs.Ytedgdnkbojjbmaa.P
open Go.RowKit Go.Proofs.YtedgdnkbojjbmaaW.PrintWords Go.Proofs.YtedgdnkbojjbmaaW.PrintLast Go.Proofs.YtedgdnkbojjbmaaW.PrintMore
attribute [local go_sem] str_gtr str_leq str_geq max2_int min2_int max_two min_two max_three min_three max_four min_four
set_option linter.unusedVariables false
set_option linter.unusedSimpArgs false
theorem eqA46 (d : Nat) (w : World) (x0 y0 : Int) (x1 y1 : Int) (x2 y2 : Int) (x3 y3 : ByteArray) :
    (Op.equalIn (d + 2) 46 (.agg #[.int .i64 x0, .int .i64 x1, .int .i64 x2, .string x3]) (.agg #[.int .i64 y0, .int .i64 y1, .int .i64 y2, .string y3])).run Try.prog w = .ok (x0 == y0 && (x1 == y1 && (x2 == y2 && (x3.toList == y3.toList)))) w := by
  refine eqA_of Try.underlying46 (by kernel_rfl) ?_
  refine eqf_cons (by rfl) (by go_simp; rfl) (by go_simp; rfl) (by go_simp) ?_
  refine eqf_cons (by rfl) (by go_simp; rfl) (by go_simp; rfl) (by go_simp) ?_
  refine eqf_cons (by rfl) (by go_simp; rfl) (by go_simp; rfl) (by go_simp) ?_
  exact eqf_last (by rfl) (by go_simp; rfl) (by go_simp; rfl) (by go_simp)
end Go.Proofs.Ytedgdnkbojjbmaa.P
end

section
namespace Go.Proofs.Ytedgdnkbojjbmaa.Pure
open Go.RowKit Go.Proofs.YtedgdnkbojjbmaaW.PrintWords Go.Proofs.YtedgdnkbojjbmaaW.PrintLast Go.Proofs.YtedgdnkbojjbmaaW.PrintMore
open Go.Proofs.Ytedgdnkbojjbmaa.P
set_option linter.unusedVariables false
set_option linter.unusedSimpArgs false
def fOk (a b c : Int) (t : ByteArray) : Prop := (a = 0 ∧ b = 0 ∧ c = 0 ∧ t.toList = []) ∨ (a = 1 ∧ b = 0 ∧ (1 ≤ c ∧ c ≤ 30) ∧ 1 ≤ t.size ∧ t.size ≤ 1000) ∨ (a = 2 ∧ c = 0 ∧ (0 ≤ b ∧ b ≤ 3) ∧ (20 ≤ t.size ∧ t.size ≤ 600) ∧ ∀ i : Nat, i < t.size → bt t (i : Int) ≤ 127)
noncomputable instance (a b c : Int) (t : ByteArray) : Decidable (fOk a b c t) := Classical.propDecidable _
def low7 (t : ByteArray) (i : Nat) : Prop := ∀ j : Nat, i ≤ j → j < t.size → bt t (j : Int) ≤ 127
noncomputable instance (t : ByteArray) (i : Nat) : Decidable (low7 t i) := Classical.propDecidable _
def numT (s : ByteArray) (bad : Bool) : Int × ByteArray × Bool := if (tv s).2.2 = true ∧ (tv s).1 ≤ 4611686018427387904 then ((tv s).1, (tv s).2.1, bad) else (0, s, true)
def txtT (s : ByteArray) (bad : Bool) : ByteArray × ByteArray × Bool := if (tt s).2.2 = true then ((tt s).1, (tt s).2.1, bad) else (⟨#[]⟩, s, true)
theorem number_taken (s : ByteArray) (bad : Bool) (hs : s.size ≤ 4611686018427387904) : Ev (fun k => impl_taker_number.f k s bad) (numT s bad) := by
  unfold impl_taker_number.f numT
  obtain ⟨r0, r1, _, _⟩ := tv_range s
  refine Ev.bind (takeVar_ev s hs) ?_
  by_cases c : (tv s).2.2 = true
  · refine Ev.pos c ?_
    by_cases c2 : (tv s).1 > 4611686018427387904
    · exact Ev.pos c2 ((Ev.now _).eqr (if_neg (fun h => by omega)).symm)
    · refine Ev.neg c2 ?_
      rw [wid (by omega) (by omega)]
      exact (Ev.now _).eqr (if_pos ⟨c, by omega⟩).symm
  · exact Ev.neg c ((Ev.now _).eqr (if_neg (fun h => c h.1)).symm)
theorem text_taken (s : ByteArray) (bad : Bool) (hs : s.size ≤ 4611686018427387904) : Ev (fun k => impl_taker_text.f k s bad) (txtT s bad) := by
  unfold impl_taker_text.f txtT
  refine Ev.bind (takeText_ev s hs) ?_
  by_cases c : (tt s).2.2 = true
  · exact Ev.pos c ((Ev.now _).eqr (if_pos c).symm)
  · exact Ev.neg c ((Ev.now _).eqr (if_neg c).symm)
theorem whole_taken (s : ByteArray) (bad : Bool) : impl_taker_whole.f s bad = some (!bad && (s.toList == []), s, bad) := by
  unfold impl_taker_whole.f
  cases bad <;> simp
theorem numT_size (s : ByteArray) (bad : Bool) : (numT s bad).2.1.size ≤ s.size := by
  obtain ⟨_, _, h, _⟩ := tv_range s
  unfold numT
  split
  · exact h
  · exact Nat.le_refl _
theorem txtT_size (s : ByteArray) (bad : Bool) : (txtT s bad).2.1.size ≤ s.size ∧ (txtT s bad).1.size ≤ s.size := by
  obtain ⟨_, h2, h3, _⟩ := tt_range s
  unfold txtT
  split
  · exact ⟨h3, h2⟩
  · exact ⟨Nat.le_refl _, by rw [empty_size]; omega⟩
theorem numT_bad (s : ByteArray) : (numT s true).2.2 = true := by unfold numT; split <;> rfl
theorem txtT_bad (s : ByteArray) : (txtT s true).2.2 = true := by unfold txtT; split <;> rfl
def rfP (s : ByteArray) : Prop := (tv s).2.2 = true ∧ (tv (tv s).2.1).2.2 = true ∧ (tv (tv (tv s).2.1).2.1).2.2 = true ∧ (tt (tv (tv (tv s).2.1).2.1).2.1).2.2 = true ∧ (tt (tv (tv (tv s).2.1).2.1).2.1).2.1.toList = [] ∧
  fOk (tv s).1 (tv (tv s).2.1).1 (tv (tv (tv s).2.1).2.1).1 (tt (tv (tv (tv s).2.1).2.1).2.1).1
noncomputable instance (s : ByteArray) : Decidable (rfP s) := Classical.propDecidable _
theorem numT_good {s : ByteArray} {b : Bool} (h1 : (tv s).2.2 = true) (h2 : (tv s).1 ≤ 4611686018427387904) : numT s b = ((tv s).1, (tv s).2.1, b) := by
  unfold numT
  rw [if_pos ⟨h1, h2⟩]
theorem numT_not {s : ByteArray} {b : Bool} (h : ¬ ((tv s).2.2 = true ∧ (tv s).1 ≤ 4611686018427387904)) : numT s b = (0, s, true) := by
  unfold numT
  rw [if_neg h]
theorem txtT_good {s : ByteArray} {b : Bool} (h1 : (tt s).2.2 = true) : txtT s b = ((tt s).1, (tt s).2.1, b) := by
  unfold txtT
  rw [if_pos h1]
theorem txtT_not {s : ByteArray} {b : Bool} (h : ¬ (tt s).2.2 = true) : txtT s b = (⟨#[]⟩, s, true) := by
  unfold txtT
  rw [if_neg h]
end Go.Proofs.Ytedgdnkbojjbmaa.Pure
end

section
namespace Go.Proofs.Ytedgdnkbojjbmaa.Pure
open Go.RowKit Go.Proofs.YtedgdnkbojjbmaaW.PrintWords Go.Proofs.YtedgdnkbojjbmaaW.PrintLast Go.Proofs.YtedgdnkbojjbmaaW.PrintMore
open Go.Proofs.Ytedgdnkbojjbmaa.P
set_option linter.unusedVariables false
set_option linter.unusedSimpArgs false
def rbGo : Nat → ByteArray → List S114 → Option (List S114 × ByteArray)
  | 0, s, acc => some (acc, s)
  | n + 1, s, acc => if s.toList = [] then none else
      if (tt (s.extract 1 s.size)).2.2 = true ∧ (tt (tt (s.extract 1 s.size)).2.1).2.2 = true then rbGo n (tt (tt (s.extract 1 s.size)).2.1).2.1 (acc ++ [⟨bt s 0, (tt (s.extract 1 s.size)).1, (tt (tt (s.extract 1 s.size)).2.1).1⟩]) else none
noncomputable def rbEnd (q : Int) : Option (List S114 × ByteArray) → Int × List S114 × Bool
  | some (ops, r) => if r.toList = [] ∧ isB q ops then (q, ops, true) else (0, [], false)
  | none => (0, [], false)
theorem ne_size {s : ByteArray} (h : ¬ s.toList = []) : 1 ≤ s.size := by
  apply Classical.byContradiction
  intro c
  apply h
  rw [ByteArray.toList_eq]
  exact List.eq_nil_of_length_eq_zero (by rw [data_length]; omega)
theorem sReadOps_ev (n : Nat) (hn : n ≤ 20) (q : Int) : ∀ (d i : Nat) (s : ByteArray) (acc : List S114), i + d = n → s.size ≤ 4611686018427387904 → acc.length ≤ i → Ev (fun k => spec_ReadBatch.l0 k (n : Int) s (i : Int) q acc) (rbEnd q (rbGo d s acc)) := by
  intro d
  induction d with
  | zero =>
    intro i s acc hi hs ha
    refine Ev.step (fun k => spec_ReadBatch.l0.eq_2 ..) ?_
    refine Ev.neg (by omega) ?_
    by_cases c : s.toList = []
    · refine Ev.pos c (Ev.bind (sBatchOk_ev q acc (by omega)) ?_)
      by_cases cb : isB q acc
      · exact Ev.pos (decide_eq_true cb) ((Ev.now _).eqr (if_pos ⟨c, cb⟩).symm)
      · exact Ev.neg (by simpa using cb) ((Ev.now _).eqr (if_neg fun h => cb h.2).symm)
    · exact Ev.neg c ((Ev.now _).eqr (if_neg fun h => c h.1).symm)
  | succ d ih =>
    intro i s acc hi hs ha
    refine Ev.step (fun k => spec_ReadBatch.l0.eq_2 ..) ?_
    refine Ev.pos (by omega) ?_
    unfold rbGo
    by_cases c : s.toList = []
    · rw [if_pos c]
      exact Ev.pos c (Ev.now _)
    · have hz := ne_size c
      have hx : (s.extract 1 s.size).size = s.size - 1 := by rw [ByteArray.size_extract]; omega
      obtain ⟨_, t1, t2, _⟩ := tt_range (s.extract 1 s.size)
      obtain ⟨_, u1, u2, _⟩ := tt_range (tt (s.extract 1 s.size)).2.1
      have hb := bt_range s 0
      rw [if_neg c]
      refine Ev.neg c (Ev.pos (by omega) (Ev.pos (by omega) (Ev.bind (sTakeText_ev _ (by omega)) (Ev.bind (sTakeText_ev _ (by omega)) ?_))))
      by_cases c1 : (tt (s.extract 1 s.size)).2.2 = true
      · refine Ev.pos c1 ?_
        by_cases c2 : (tt (tt (s.extract 1 s.size)).2.1).2.2 = true
        · refine Ev.pos c2 (Ev.pos (by omega) ?_)
          refine Ev.eqr ?_ (congrArg (rbEnd q) (if_pos ⟨c1, c2⟩).symm)
          rw [uid (by omega) (by omega), wid (x := bt s 0) (by omega) (by omega), show (i : Int) + 1 = ((i + 1 : Nat) : Int) from by omega]
          exact ih (i + 1) _ _ (by omega) (by omega) (by rw [List.length_append]; simp only [List.length_cons, List.length_nil]; omega)
        · refine Ev.neg c2 ((Ev.now _).eqr ?_)
          rw [if_neg (fun h => c2 h.2)]
          rfl
      · refine Ev.neg c1 ((Ev.now _).eqr ?_)
        rw [if_neg (fun h => c1 h.1)]
        rfl
theorem badOps_ev (n : Nat) (hn : n ≤ 20) (q : Int) : ∀ (d i : Nat) (s : ByteArray) (acc : List S114), i + d = n → s.size ≤ 4611686018427387904 → acc.length ≤ i → Ev (fun k => impl_ReadBatch.l0 k (n : Int) (i : Int) s true q acc) (0, [], false) := by
  intro d
  induction d with
  | zero =>
    intro i s acc hi hs ha
    refine Ev.step (fun k => impl_ReadBatch.l0.eq_2 ..) ?_
    exact Ev.neg (by omega) (Ev.bindS (whole_taken s true) (Ev.neg (by simp) (Ev.now _)))
  | succ d ih =>
    intro i s acc hi hs ha
    refine Ev.step (fun k => impl_ReadBatch.l0.eq_2 ..) ?_
    refine Ev.pos (by omega) ?_
    by_cases c : s.toList = []
    · exact Ev.pos c (Ev.now _)
    · have hz := ne_size c
      have hx : (s.extract 1 s.size).size = s.size - 1 := by rw [ByteArray.size_extract]; omega
      obtain ⟨t1, _⟩ := txtT_size (s.extract 1 s.size) true
      obtain ⟨u1, _⟩ := txtT_size (txtT (s.extract 1 s.size) true).2.1 true
      refine Ev.neg c (Ev.pos (by omega) (Ev.pos (by omega) (Ev.bind (text_taken _ true (by omega)) ?_)))
      rw [txtT_bad]
      refine Ev.bind (text_taken _ true (by omega)) ?_
      rw [txtT_bad, wsucc (by omega)]
      refine Ev.pos (by omega) ?_
      exact ih (i + 1) _ _ (by omega) (by omega) (by rw [List.length_append]; simp only [List.length_cons, List.length_nil]; omega)
theorem readOps_ev (n : Nat) (hn : n ≤ 20) (q : Int) : ∀ (d i : Nat) (s : ByteArray) (acc : List S114), i + d = n → s.size ≤ 4611686018427387904 → acc.length ≤ i → Ev (fun k => impl_ReadBatch.l0 k (n : Int) (i : Int) s false q acc) (rbEnd q (rbGo d s acc)) := by
  intro d
  induction d with
  | zero =>
    intro i s acc hi hs ha
    refine Ev.step (fun k => impl_ReadBatch.l0.eq_2 ..) ?_
    refine Ev.neg (by omega) (Ev.bindS (whole_taken s false) ?_)
    by_cases c : s.toList = []
    · refine Ev.pos (by simp [c]) (Ev.bind (batchOk_ev q acc (by omega)) ?_)
      by_cases cb : isB q acc
      · exact Ev.pos (decide_eq_true cb) ((Ev.now _).eqr (if_pos ⟨c, cb⟩).symm)
      · exact Ev.neg (by simpa using cb) ((Ev.now _).eqr (if_neg fun h => cb h.2).symm)
    · exact Ev.neg (by simpa using c) ((Ev.now _).eqr (if_neg fun h => c h.1).symm)
  | succ d ih =>
    intro i s acc hi hs ha
    refine Ev.step (fun k => impl_ReadBatch.l0.eq_2 ..) ?_
    refine Ev.pos (by omega) ?_
    unfold rbGo
    by_cases c : s.toList = []
    · rw [if_pos c]
      exact Ev.pos c (Ev.now _)
    · have hz := ne_size c
      have hx : (s.extract 1 s.size).size = s.size - 1 := by rw [ByteArray.size_extract]; omega
      obtain ⟨_, t1, t2, _⟩ := tt_range (s.extract 1 s.size)
      obtain ⟨_, u1, u2, _⟩ := tt_range (tt (s.extract 1 s.size)).2.1
      have hb := bt_range s 0
      rw [if_neg c]
      refine Ev.neg c (Ev.pos (by omega) (Ev.pos (by omega) (Ev.bind (text_taken _ false (by omega)) ?_)))
      by_cases c1 : (tt (s.extract 1 s.size)).2.2 = true
      · rw [txtT_good c1]
        refine Ev.bind (text_taken _ false (by simp only []; omega)) ?_
        by_cases c2 : (tt (tt (s.extract 1 s.size)).2.1).2.2 = true
        · simp only []
          rw [txtT_good c2]
          refine Ev.pos (by omega) ?_
          refine Ev.eqr ?_ (congrArg (rbEnd q) (if_pos ⟨c1, c2⟩).symm)
          rw [wsucc (by omega), wid (x := bt s 0) (by omega) (by omega)]
          simp only []
          refine ih (i + 1) _ _ ?_ ?_ ?_
          · omega
          · omega
          · rw [List.length_append]
            simp only [List.length_cons, List.length_nil]
            omega
        · simp only []
          rw [txtT_not c2]
          refine Ev.pos (by omega) ?_
          rw [wsucc (by omega)]
          simp only []
          rw [if_neg (fun h => c2 h.2)]
          refine badOps_ev n hn q d (i + 1) _ _ ?_ ?_ ?_
          · omega
          · omega
          · rw [List.length_append]
            simp only [List.length_cons, List.length_nil]
            omega
      · rw [txtT_not c1]
        obtain ⟨u1, _⟩ := txtT_size (s.extract 1 s.size) true
        refine Ev.bind (text_taken _ true (by simp only []; omega)) ?_
        simp only []
        rw [txtT_bad, wsucc (by omega)]
        refine Ev.pos (by omega) ?_
        rw [if_neg (fun h => c1 h.1)]
        refine badOps_ev n hn q d (i + 1) _ _ ?_ ?_ ?_
        · omega
        · have u2 := (txtT_size (txtT (s.extract 1 s.size) true).2.1 true).1
          have u3 := (txtT_size (s.extract 1 s.size) true).1
          have u4 := (txtT_size (s.extract 1 s.size) true).1
          omega
        · rw [List.length_append]
          simp only [List.length_cons, List.length_nil]
          omega
noncomputable def rbV (s : ByteArray) : Int × List S114 × Bool :=
  if (tv s).2.2 = true ∧ (tv (tv s).2.1).2.2 = true ∧ (tv s).1 ≤ 1000000000000 ∧ (tv (tv s).2.1).1 ≤ 20 then rbEnd (tv s).1 (rbGo (tv (tv s).2.1).1.toNat (tv (tv s).2.1).2.1 []) else (0, [], false)
theorem sReadBatch_ev (s : ByteArray) (hs : s.size ≤ 4611686018427387904) : Ev (fun k => spec_ReadBatch.f k s) (rbV s) := by
  obtain ⟨p0, p1, p2, _⟩ := tv_range s
  obtain ⟨q0, q1, q2, _⟩ := tv_range (tv s).2.1
  unfold spec_ReadBatch.f
  refine Ev.bind (sTakeVar_ev s hs) (Ev.bind (sTakeVar_ev _ (by omega)) ?_)
  have jt : ¬ ((tv s).2.2 = true ∧ (tv (tv s).2.1).2.2 = true ∧ (tv s).1 ≤ 1000000000000 ∧ (tv (tv s).2.1).1 ≤ 20) → Ev (fun k => spec_ReadBatch.j0 k (tv s).1 (tv (tv s).2.1).1 (tv (tv s).2.1).2.1 true) (rbV s) := fun h => by
    refine Ev.step (fun k => spec_ReadBatch.j0.eq_2 ..) ?_
    exact Ev.pos rfl ((Ev.now _).eqr (if_neg h).symm)
  by_cases c1 : (tv s).2.2 = true
  case neg => exact Ev.neg c1 (jt fun h => c1 h.1)
  refine Ev.pos c1 ?_
  by_cases c2 : (tv (tv s).2.1).2.2 = true
  case neg => exact Ev.neg c2 (jt fun h => c2 h.2.1)
  refine Ev.pos c2 ?_
  by_cases c3 : (tv s).1 > 1000000000000
  case pos => exact Ev.pos c3 (jt fun h => by omega)
  refine Ev.neg c3 ?_
  by_cases c4 : (tv (tv s).2.1).1 > 20
  · rw [decide_eq_true c4]
    exact jt fun h => by omega
  · rw [decide_eq_false c4]
    refine Ev.step (fun k => spec_ReadBatch.j0.eq_2 ..) ?_
    refine Ev.neg (by decide) ?_
    refine Ev.eqr ?_ (if_pos ⟨c1, c2, by omega, by omega⟩).symm
    have := sReadOps_ev (tv (tv s).2.1).1.toNat (by omega) (tv s).1 (tv (tv s).2.1).1.toNat 0 (tv (tv s).2.1).2.1 [] (by omega) (by omega) (by simp)
    rw [wid (by omega) (by omega)]
    rw [Int.toNat_of_nonneg q0] at this
    exact this
theorem isB_small {q : Int} {l : List S114} (h : isB q l) : q ≤ 999999999980 := h.2.1.2
theorem rbEnd_big {q : Int} (h : 1000000000000 < q) (o : Option (List S114 × ByteArray)) : rbEnd q o = (0, [], false) := by
  cases o with
  | none => rfl
  | some x => exact if_neg fun c => by have := isB_small c.2; omega
theorem readBatch_ev (s : ByteArray) (hs : s.size ≤ 4611686018427387904) : Ev (fun k => impl_ReadBatch.f k s) (rbV s) := by
  obtain ⟨p0, p1, p2, _⟩ := tv_range s
  obtain ⟨q0, q1, q2, _⟩ := tv_range (tv s).2.1
  have z1 := numT_size s false
  unfold impl_ReadBatch.f
  refine Ev.bind (number_taken s false hs) (Ev.bind (number_taken _ _ (by omega)) ?_)
  have jt : ∀ (n : Int) (r : ByteArray) (b : Bool) (q : Int), ¬ ((tv s).2.2 = true ∧ (tv (tv s).2.1).2.2 = true ∧ (tv s).1 ≤ 1000000000000 ∧ (tv (tv s).2.1).1 ≤ 20) → Ev (fun k => impl_ReadBatch.j0 k n true r b q) (rbV s) := fun n r b q h => by
    refine Ev.step (fun k => impl_ReadBatch.j0.eq_2 ..) ?_
    exact Ev.pos rfl ((Ev.now _).eqr (if_neg h).symm)
  by_cases c1 : (tv s).2.2 = true ∧ (tv s).1 ≤ 4611686018427387904
  case neg =>
    rw [numT_not c1]
    simp only []
    rw [numT_bad]
    exact Ev.pos rfl (jt _ _ _ _ fun h => c1 ⟨h.1, by omega⟩)
  rw [numT_good c1.1 c1.2]
  simp only []
  by_cases c2 : (tv (tv s).2.1).2.2 = true ∧ (tv (tv s).2.1).1 ≤ 4611686018427387904
  case neg =>
    rw [numT_not c2]
    exact Ev.pos rfl (jt _ _ _ _ fun h => c2 ⟨h.2.1, by omega⟩)
  rw [numT_good c2.1 c2.2]
  refine Ev.neg (by simp) ?_
  simp only []
  by_cases c4 : (tv (tv s).2.1).1 > 20
  · rw [decide_eq_true c4]
    exact jt _ _ _ _ fun h => by omega
  · rw [decide_eq_false c4]
    refine Ev.step (fun k => impl_ReadBatch.j0.eq_2 ..) ?_
    refine Ev.neg (by decide) ?_
    have := readOps_ev (tv (tv s).2.1).1.toNat (by omega) (tv s).1 (tv (tv s).2.1).1.toNat 0 (tv (tv s).2.1).2.1 [] (by omega) (by omega) (by simp)
    rw [Int.toNat_of_nonneg q0] at this
    by_cases c3 : (tv s).1 ≤ 1000000000000
    · exact this.eqr (if_pos ⟨c1.1, c2.1, c3, by omega⟩).symm
    · refine this.eqr ?_
      rw [rbEnd_big (by omega)]
      exact (if_neg fun h => c3 h.2.2.1).symm
theorem rbV_len (s : ByteArray) : (rbV s).2.1.length ≤ 20 := by
  unfold rbV
  split
  · rename_i c
    unfold rbEnd
    split
    · split
      · rename_i h h2
        exact h2.2.1.2
      · simp
    · simp
  · simp
end Go.Proofs.Ytedgdnkbojjbmaa.Pure
end

section
namespace Go.Proofs.Ytedgdnkbojjbmaa.Pure
open Go.RowKit Go.Proofs.YtedgdnkbojjbmaaW.PrintWords Go.Proofs.YtedgdnkbojjbmaaW.PrintLast Go.Proofs.YtedgdnkbojjbmaaW.PrintMore
open Go.Proofs.Ytedgdnkbojjbmaa.P
set_option linter.unusedVariables false
set_option linter.unusedSimpArgs false
theorem FnExactReadBatch : laws_FnExactReadBatch.Pure := by
  intro s _
  refine Ev.rounds (g := fun k => laws_FnExactReadBatch.f k s) ?_
  unfold laws_FnExactReadBatch.f
  by_cases c : (s.size : Int) > 1048576
  · exact Ev.pos c (Ev.now _)
  · have hl := rbV_len s
    have hs := sReadBatch_ev s (by omega)
    have hi := readBatch_ev s (by omega)
    generalize rbV s = v at hl hs hi
    have he : Ev (fun k => laws_eqBatch.f k v.1 v.2.1 v.1 v.2.1) true := by
      unfold laws_eqBatch.f
      exact Ev.pos rfl (Ev.bind (eqOpS_ev _ (by omega)) (Ev.pos rfl (Ev.now _)))
    have hm : Ev (fun k => laws_markBatch.f k v.1 v.2.1 1) (1 + 3 * (v.2.1.length : Int), (List.range v.2.1.length).map fun j : Nat => mk_Op (1 + 3 * (j : Int))) := by
      unfold laws_markBatch.f
      exact Ev.bind (markOpS_ev v.2.1 (by omega) 1 (by omega) (by omega)) (Ev.now _)
    have hh : Ev (fun k => laws_heldBatch.f k v.1 ((List.range v.2.1.length).map fun j : Nat => mk_Op (1 + 3 * (j : Int))) 1) (1 + 3 * (v.2.1.length : Int)) := by
      unfold laws_heldBatch.f
      exact Ev.bind (heldOpS_ev v.2.1.length (by omega) 1 (by omega) (by omega)) (Ev.neg (by omega) (Ev.now _))
    refine Ev.neg c (Ev.bind hs (Ev.bind hi (Ev.bind he (Ev.pos rfl ?_))))
    rw [show (v.2.2 != v.2.2) = false from by simp]
    refine Ev.step (fun k => laws_FnExactReadBatch.j0.eq_2 ..) ?_
    refine Ev.neg (by decide) (Ev.bind hm (Ev.bind hh (Ev.neg (by omega) (Ev.pos rfl (Ev.bind hi (Ev.bind he (Ev.pos rfl ?_)))))))
    rw [show (v.2.2 != v.2.2) = false from by simp]
    refine Ev.step (fun k => laws_FnExactReadBatch.j1.eq_2 ..) ?_
    exact Ev.neg (by decide) (Ev.bind hh (Ev.neg (by omega) (Ev.pos rfl (Ev.now _))))
end Go.Proofs.Ytedgdnkbojjbmaa.Pure
end
