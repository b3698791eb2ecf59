/- Proved: the law FnExactBlockSeek of the given program returns true for every input of its Go types and leaves each argument as it was; no condition. (Part 12 of 13.) -/
import Derived.Test.YtidjdkodgddfcaaCFnExactBlockSeek4
import Derived.Test.YtidjdkodgddfcaaCFnExactBlockSeek6
import Derived.Test.YtidjdkodgddfcaaCFnExactBlockSeek7
import Derived.Test.YtidjdkodgddfcaaCFnExactBlockSeek5
import Derived.Lib.EndianBits
import Derived.Test.YtidjdkodgddfcaaCFnExactBlockSeek8
import Derived.Test.YtidjdkodgddfcaaCFnExactBlockSeek9
import Derived.Test.YtidjdkodgddfcaaCFnExactBlockSeek10
section
namespace Go.Proofs.Ytidjdkodgddfcaa.P
open Go.RowKit Go.Proofs.YtidjdkodgddfcaaW.PrintWords Go.Proofs.YtidjdkodgddfcaaW.PrintLast Go.Proofs.YtidjdkodgddfcaaW.PrintMore
attribute [local go_sem] str_gtr str_leq str_geq max2_int min2_int max_two min_two max_three min_three max_four min_four
set_option linter.unusedVariables false
set_option linter.unusedSimpArgs false
def pvl (n : Nat) : List Int := if n < 128 then [(n : Int)] else ((n % 128 + 128 : Nat) : Int) :: pvl (n / 128)
termination_by n
decreasing_by omega
def pv (n : Nat) : ByteArray := strOfNums (pvl n)
theorem pvl_small {n : Nat} (h : n < 128) : pvl n = [(n : Int)] := by rw [pvl, if_pos h]
theorem pvl_big {n : Nat} (h : ¬ n < 128) : pvl n = ((n % 128 + 128 : Nat) : Int) :: pvl (n / 128) := by rw [pvl, if_neg h]
theorem pvl_len (d : Nat) : ∀ n, n < 128 ^ (d + 1) → 1 ≤ (pvl n).length ∧ (pvl n).length ≤ d + 1 := by
  induction d with
  | zero =>
    intro n h
    rw [pvl_small (by simpa using h)]
    simp
  | succ d ih =>
    intro n h
    by_cases c : n < 128
    · rw [pvl_small c]
      simp
    · rw [pvl_big c, List.length_cons]
      have := ih (n / 128) (Nat.div_lt_of_lt_mul (by rw [Nat.pow_succ, Nat.mul_comm] at h; exact h))
      omega
theorem pv_size {n : Nat} (h : n < 18446744073709551616) : 1 ≤ (pv n).size ∧ (pv n).size ≤ 10 := by
  have e : (pv n).size = (pvl n).length := by unfold pv strOfNums; simp [ByteArray.size]
  rw [e]
  exact pvl_len 9 n (by omega)
theorem or128 : ∀ x : Fin 256, Go.bits .or .u8 ((x.val : Nat) : Int) 128 = ((x.val % 128 + 128 : Nat) : Int) := by decide +kernel
theorem and127 : ∀ x : Fin 256, Go.bits .and .u8 ((x.val : Nat) : Int) 127 = ((x.val % 128 : Nat) : Int) := by decide +kernel
theorem putVar_ev (n : Nat) (h : n < 18446744073709551616) : Ev (fun k => impl_PutVar.f k (n : Int)) (pv n) := by
  have key : ∀ (d n : Nat) (acc : List Int), n < 128 ^ (d + 1) → acc.length + d ≤ 100 → Ev (fun k => impl_PutVar.l0 k (n : Int) acc) (strOfNums (acc ++ pvl n)) := by
    intro d
    induction d with
    | zero =>
      intro n acc hn ha
      have hn' : n < 128 := by simpa using hn
      rw [pvl_small hn']
      refine Ev.step (fun k => rfl) (Ev.neg (by omega) (Ev.pos (by omega) ?_))
      rw [Int.emod_eq_of_lt (by omega) (by omega)]
      exact Ev.now _
    | succ d ih =>
      intro n acc hn ha
      by_cases c : n < 128
      · rw [pvl_small c]
        refine Ev.step (fun k => rfl) (Ev.neg (by omega) (Ev.pos (by omega) ?_))
        rw [Int.emod_eq_of_lt (by omega) (by omega)]
        exact Ev.now _
      · rw [pvl_big c]
        refine Ev.step (fun k => rfl) (Ev.pos (by omega) (Ev.pos (by omega) ?_))
        have e : Go.bits .or .u8 ((n : Int) % 256) 128 = ((n % 128 + 128 : Nat) : Int) := by
          have := or128 ⟨n % 256, by omega⟩
          simp only at this
          rw [show ((n : Int) % 256) = ((n % 256 : Nat) : Int) from by omega, this]
          omega
        rw [e, show ((n : Int) / 128) = ((n / 128 : Nat) : Int) from by omega]
        refine (ih (n / 128) _ (Nat.div_lt_of_lt_mul (by rw [Nat.pow_succ, Nat.mul_comm] at hn; exact hn)) (by rw [List.length_append]; simp; omega)).eqr ?_
        rw [List.append_assoc]
        rfl
  have := key 9 n [] (by omega) (by simp)
  rw [List.nil_append] at this
  exact this
theorem sPutVar_ev (n : Nat) (h : n < 18446744073709551616) : Ev (fun k => spec_PutVar.f k (n : Int)) (pv n) := by
  have key : ∀ (d n : Nat) (acc : List Int), n < 18446744073709551616 → n < 128 ^ (d + 1) → acc.length + d ≤ 100 → Ev (fun k => spec_PutVar.l0 k (n : Int) acc) (strOfNums (acc ++ pvl n)) := by
    intro d
    induction d with
    | zero =>
      intro n acc h hn ha
      have hn' : n < 128 := by simpa using hn
      rw [pvl_small hn']
      refine Ev.step (fun k => rfl) (Ev.neg (by omega) (Ev.pos (by omega) ?_))
      rw [Int.emod_eq_of_lt (by omega) (by omega)]
      exact Ev.now _
    | succ d ih =>
      intro n acc h hn ha
      by_cases c : n < 128
      · rw [pvl_small c]
        refine Ev.step (fun k => rfl) (Ev.neg (by omega) (Ev.pos (by omega) ?_))
        rw [Int.emod_eq_of_lt (by omega) (by omega)]
        exact Ev.now _
      · rw [pvl_big c]
        refine Ev.step (fun k => rfl) (Ev.pos (by omega) (Ev.pos (by omega) ?_))
        have e : (IntKind.u64.wrap ((Int.tmod (n : Int) 128) + 128)) % 256 = ((n % 128 + 128 : Nat) : Int) := by
          rw [Int.tmod_eq_emod_of_nonneg (by omega), uid (by omega) (by omega)]
          omega
        have e2 : IntKind.u64.wrap (Int.tdiv (n : Int) 128) = ((n / 128 : Nat) : Int) := by
          rw [Int.tdiv_eq_ediv_of_nonneg (by omega), uid (by omega) (by omega)]
          omega
        rw [e, e2]
        refine (ih (n / 128) _ (by omega) (Nat.div_lt_of_lt_mul (by rw [Nat.pow_succ, Nat.mul_comm] at hn; exact hn)) (by rw [List.length_append]; simp; omega)).eqr ?_
        rw [List.append_assoc]
        rfl
  have := key 9 n [] h (by omega) (by simp)
  rw [List.nil_append] at this
  exact this
theorem putInt_ev (n : Nat) (h : n < 9223372036854775808) : Ev (fun k => impl_putInt.f k (n : Int)) (pv n) := by
  unfold impl_putInt.f
  rw [uid (by omega) (by omega)]
  exact Ev.bind (putVar_ev n (by omega)) (Ev.now _)
def pt (s : ByteArray) : ByteArray := pv s.size ++ s
theorem putText_ev (t : ByteArray) (h : t.size ≤ 4611686018427387904) : Ev (fun k => impl_PutText.f k t) (pt t) := by
  unfold impl_PutText.f
  rw [uid (by omega) (by omega)]
  have := (pv_size (n := t.size) (by omega)).2
  exact Ev.bind (putVar_ev t.size (by omega)) (Ev.pos (by omega) (Ev.now _))
theorem sPutText_ev (t : ByteArray) (h : t.size ≤ 4611686018427387904) : Ev (fun k => spec_PutText.f k t) (pt t) := by
  unfold spec_PutText.f
  rw [uid (by omega) (by omega)]
  have := (pv_size (n := t.size) (by omega)).2
  exact Ev.bind (sPutVar_ev t.size (by omega)) (Ev.pos (by omega) (Ev.now _))
theorem pt_size (t : ByteArray) (h : t.size ≤ 4611686018427387904) : t.size + 1 ≤ (pt t).size ∧ (pt t).size ≤ t.size + 10 := by
  have := pv_size (n := t.size) (by omega)
  unfold pt
  rw [ByteArray.size_append]
  omega
def tvGo (s : ByteArray) : Nat → Nat → Int → Int × ByteArray × Bool
  | 0, _, _ => (0, ⟨#[]⟩, false)
  | d + 1, i, acc => if i < s.size then
      (if i = 9 ∧ 1 < bt s i then (0, ⟨#[]⟩, false)
      else if bt s i < 128 then (if 0 < i ∧ bt s i = 0 then (0, ⟨#[]⟩, false) else (acc + bt s i * 128 ^ i, s.extract (i + 1) s.size, true))
      else tvGo s d (i + 1) (acc + (bt s i - 128) * 128 ^ i))
    else (0, ⟨#[]⟩, false)
def tv (s : ByteArray) : Int × ByteArray × Bool := tvGo s 10 0 0
theorem or_step (i : Nat) (hi : i < 10) (acc b : Int) (h0 : 0 ≤ acc) (h1 : acc < 128 ^ i) (b0 : 0 ≤ b) (b1 : b < 128) (b2 : i = 9 → b < 2) :
    Go.bits .or .u64 acc (shl .u64 b (7 * (i : Int))) = acc + b * 128 ^ i := by
  have hp : (128 : Int) ^ i = 2 ^ (7 * i) := by rw [Int.pow_mul]; rfl
  have hpos : (0 : Int) < 128 ^ i := Int.pow_pos (by decide)
  have hlt : b * 128 ^ i < 2 ^ 64 := by
    by_cases c : i = 9
    · subst c
      have := b2 rfl
      have : b * 128 ^ 9 ≤ 1 * 128 ^ 9 := Int.mul_le_mul_of_nonneg_right (by omega) (by decide)
      omega
    · have h8 : (128 : Int) ^ i ≤ 128 ^ 8 := by
        have : (128 : Nat) ^ i ≤ 128 ^ 8 := Nat.pow_le_pow_right (by decide) (by omega)
        exact_mod_cast this
      have : b * 128 ^ i ≤ 127 * 128 ^ 8 := Int.mul_le_mul (by omega) h8 (by omega) (by decide)
      omega
  have hnn : 0 ≤ b * 128 ^ i := Int.mul_nonneg b0 (by omega)
  have hs : shl .u64 b (7 * (i : Int)) = b * 128 ^ i := by
    unfold shl
    rw [show min (7 * (i : Int)).toNat IntKind.u64.bits = 7 * i from by simp only [IntKind.bits]; omega, ← hp]
    exact wraps_u64 _ hnn hlt
  rw [hs]
  refine bits_join_low .u64 64 (by decide) wraps_u64 (7 * i) acc _ h0 (by rw [← hp]; exact h1) ?_ hnn (by rw [← hp]; exact Int.mul_emod_left _ _) hlt
  have : (128 : Int) ^ i ≤ 128 ^ 9 := by
    have : (128 : Nat) ^ i ≤ 128 ^ 9 := Nat.pow_le_pow_right (by decide) (by omega)
    exact_mod_cast this
  omega
theorem wrap7 (i : Nat) (h : i < 1000) : wrap64 (7 * (i : Int)) = 7 * (i : Int) := wid (by omega) (by omega)
theorem and127' (b : Int) (h0 : 0 ≤ b) (h1 : b ≤ 255) : Go.bits .and .u8 b 127 = b % 128 := by
  have := and127 ⟨b.toNat, by omega⟩
  simp only at this
  rw [show b = ((b.toNat : Nat) : Int) from by omega, this]
  omega
theorem sTakeVar_ev (s : ByteArray) (hs : s.size ≤ 4611686018427387904) : Ev (fun k => spec_TakeVar.f k s) (tv s) := by
  have key : ∀ (d i : Nat) (acc : Int), i + d = 10 → 0 ≤ acc → acc < 128 ^ i → Ev (fun k => spec_TakeVar.l0 k s acc (i : Int)) (tvGo s d i acc) := by
    intro d
    induction d with
    | zero =>
      intro i acc hi _ _
      obtain rfl : i = 10 := by omega
      refine Ev.step (fun k => spec_TakeVar.l0.eq_2 ..) ?_
      by_cases c : ((10 : Nat) : Int) < (s.size : Int)
      · refine Ev.pos c (Ev.step (fun k => spec_TakeVar.j1.eq_2 ..) ?_)
        exact Ev.neg (by decide) (Ev.now _)
      · refine Ev.neg c (Ev.step (fun k => spec_TakeVar.j1.eq_2 ..) ?_)
        exact Ev.neg (by decide) (Ev.now _)
    | succ d ih =>
      intro i acc hi h0 h1
      unfold tvGo
      by_cases c : i < s.size
      · refine Ev.eqr ?_ (if_pos c).symm
        obtain ⟨r0, r1⟩ := bt_range s (i : Int)
        have hg : (IntKind.u64.wrap (Int.tmod (bt s (i : Int)) 128)) = bt s (i : Int) % 128 := by
          rw [Int.tmod_eq_emod_of_nonneg r0, uid (by omega) (by omega)]
        have hw7 : IntKind.u64.wrap (wrap64 (7 * (i : Int))) = 7 * (i : Int) := by rw [wrap7 i (by omega), uid (by omega) (by omega)]
        have hsucc : wrap64 ((i : Int) + 1) = ((i + 1 : Nat) : Int) := wsucc (by omega)
        have hn : (((i + 1 : Nat) : Int)).toNat = i + 1 := Int.toNat_natCast _
        have hpow : (128 : Int) ^ (i + 1) = 128 ^ i * 128 := Int.pow_succ 128 i
        have hpos : (0 : Int) < 128 ^ i := Int.pow_pos (by decide)
        refine Ev.step (fun k => spec_TakeVar.l0.eq_2 ..) (Ev.pos (by omega) ?_)
        refine Ev.step (fun k => spec_TakeVar.j1.eq_2 ..) ?_
        refine Ev.pos (decide_eq_true (by omega)) (Ev.pos (by omega) (Ev.pos (by omega) ?_))
        rw [hg]
        have main : (i = 9 → bt s (i : Int) % 128 < 2) → Ev (fun k => spec_TakeVar.j2 k s acc (i : Int) (bt s (i : Int) % 128) false) (if bt s (i : Int) < 128 then (if 0 < i ∧ bt s (i : Int) = 0 then ((0 : Int), (⟨#[]⟩ : ByteArray), false) else (acc + bt s (i : Int) * 128 ^ i, s.extract (i + 1) s.size, true)) else tvGo s d (i + 1) (acc + (bt s (i : Int) - 128) * 128 ^ i)) := by
          intro h9
          have hor := or_step i (by omega) acc (bt s (i : Int) % 128) h0 h1 (by omega) (by omega) (by omega)
          refine Ev.step (fun k => spec_TakeVar.j2.eq_2 ..) (Ev.neg (by decide) ?_)
          rw [hw7, hor, hsucc, hn]
          refine Ev.pos (by omega) (Ev.pos (by omega) (Ev.pos (by omega) ?_))
          by_cases c2 : bt s (i : Int) < 128
          · refine Ev.eqr ?_ (if_pos c2).symm
            rw [show bt s (i : Int) % 128 = bt s (i : Int) from by omega]
            refine Ev.pos c2 ?_
            by_cases cz : bt s (i : Int) = 0
            · by_cases ci : 0 < i
              · refine Ev.eqr ?_ (if_pos ⟨ci, cz⟩).symm
                exact Ev.pos (by omega) (Ev.pos cz (Ev.now _))
              · refine Ev.eqr ?_ (if_neg (fun h => ci h.1)).symm
                exact Ev.neg (by omega) (Ev.pos (by omega) (Ev.pos (by omega) (Ev.now _)))
            · refine Ev.eqr ?_ (if_neg (fun h => cz h.2)).symm
              by_cases ci : 0 < i
              · exact Ev.pos (by omega) (Ev.neg cz (Ev.pos (by omega) (Ev.pos (by omega) (Ev.now _))))
              · exact Ev.neg (by omega) (Ev.pos (by omega) (Ev.pos (by omega) (Ev.now _)))
          · refine Ev.eqr ?_ (if_neg c2).symm
            rw [show bt s (i : Int) % 128 = bt s (i : Int) - 128 from by omega]
            refine Ev.neg c2 ?_
            have hm : (bt s (i : Int) - 128) * 128 ^ i ≤ 127 * 128 ^ i := Int.mul_le_mul_of_nonneg_right (by omega) (by omega)
            have hm0 : 0 ≤ (bt s (i : Int) - 128) * 128 ^ i := Int.mul_nonneg (by omega) (by omega)
            exact ih (i + 1) _ (by omega) (by omega) (by omega)
        by_cases c9 : i = 9
        · refine Ev.pos (by omega) ?_
          by_cases cb : 1 < bt s (i : Int)
          · skip
            refine Ev.eqr ?_ (if_pos ⟨c9, cb⟩).symm
            rw [decide_eq_true (show bt s (i : Int) > 1 by omega)]
            refine Ev.step (fun k => spec_TakeVar.j2.eq_2 ..) ?_
            exact Ev.pos (by decide) (Ev.now _)
          · refine Ev.eqr ?_ (if_neg (fun h => cb h.2)).symm
            rw [decide_eq_false (show ¬ (bt s (i : Int) > 1) by omega)]
            exact main (fun _ => by omega)
        · refine Ev.neg (by omega) ?_
          refine Ev.eqr ?_ (if_neg (fun h => c9 h.1)).symm
          exact main (fun h => absurd h c9)
      · refine Ev.eqr ?_ (if_neg c).symm
        refine Ev.step (fun k => spec_TakeVar.l0.eq_2 ..) (Ev.neg (by omega) ?_)
        refine Ev.step (fun k => spec_TakeVar.j1.eq_2 ..) ?_
        exact Ev.neg (by decide) (Ev.now _)
  exact key 10 0 0 rfl (by decide) (by decide)
theorem takeVar_ev (s : ByteArray) (hs : s.size ≤ 4611686018427387904) : Ev (fun k => impl_TakeVar.f k s) (tv s) := by
  have key : ∀ (d i : Nat) (acc : Int), i + d = 10 → 0 ≤ acc → acc < 128 ^ i → Ev (fun k => impl_TakeVar.l0 k s acc (i : Int)) (tvGo s d i acc) := by
    intro d
    induction d with
    | zero =>
      intro i acc hi _ _
      obtain rfl : i = 10 := by omega
      refine Ev.step (fun k => impl_TakeVar.l0.eq_2 ..) ?_
      by_cases c : ((10 : Nat) : Int) < (s.size : Int)
      · refine Ev.pos c (Ev.step (fun k => impl_TakeVar.j1.eq_2 ..) ?_)
        exact Ev.neg (by decide) (Ev.now _)
      · refine Ev.neg c (Ev.step (fun k => impl_TakeVar.j1.eq_2 ..) ?_)
        exact Ev.neg (by decide) (Ev.now _)
    | succ d ih =>
      intro i acc hi h0 h1
      unfold tvGo
      by_cases c : i < s.size
      · refine Ev.eqr ?_ (if_pos c).symm
        obtain ⟨r0, r1⟩ := bt_range s (i : Int)
        have hg : (IntKind.u64.wrap (Go.bits .and .u8 (bt s (i : Int)) 127)) = bt s (i : Int) % 128 := by
          rw [and127' _ r0 r1, uid (by omega) (by omega)]
        have hw7 : wrap64 (7 * (i : Int)) = 7 * (i : Int) := by exact wrap7 i (by omega)
        have hsucc : wrap64 ((i : Int) + 1) = ((i + 1 : Nat) : Int) := wsucc (by omega)
        have hn : (((i + 1 : Nat) : Int)).toNat = i + 1 := Int.toNat_natCast _
        have hpow : (128 : Int) ^ (i + 1) = 128 ^ i * 128 := Int.pow_succ 128 i
        have hpos : (0 : Int) < 128 ^ i := Int.pow_pos (by decide)
        refine Ev.step (fun k => impl_TakeVar.l0.eq_2 ..) (Ev.pos (by omega) ?_)
        refine Ev.step (fun k => impl_TakeVar.j1.eq_2 ..) ?_
        refine Ev.pos (decide_eq_true (by omega)) (Ev.pos (by omega) (Ev.pos (by omega) ?_))
        rw [hg]
        have main : (i = 9 → bt s (i : Int) % 128 < 2) → Ev (fun k => impl_TakeVar.j2 k s acc (i : Int) (bt s (i : Int) % 128) false) (if bt s (i : Int) < 128 then (if 0 < i ∧ bt s (i : Int) = 0 then ((0 : Int), (⟨#[]⟩ : ByteArray), false) else (acc + bt s (i : Int) * 128 ^ i, s.extract (i + 1) s.size, true)) else tvGo s d (i + 1) (acc + (bt s (i : Int) - 128) * 128 ^ i)) := by
          intro h9
          have hor := or_step i (by omega) acc (bt s (i : Int) % 128) h0 h1 (by omega) (by omega) (by omega)
          refine Ev.step (fun k => impl_TakeVar.j2.eq_2 ..) (Ev.neg (by decide) ?_)
          rw [hw7, hor, hsucc, hn]
          refine Ev.pos (by omega) (Ev.pos (by omega) (Ev.pos (by omega) ?_))
          by_cases c2 : bt s (i : Int) < 128
          · refine Ev.eqr ?_ (if_pos c2).symm
            rw [show bt s (i : Int) % 128 = bt s (i : Int) from by omega]
            refine Ev.neg (by omega) ?_
            by_cases cz : bt s (i : Int) = 0
            · by_cases ci : 0 < i
              · refine Ev.eqr ?_ (if_pos ⟨ci, cz⟩).symm
                exact Ev.pos cz (Ev.pos (by omega) (Ev.now _))
              · refine Ev.eqr ?_ (if_neg (fun h => ci h.1)).symm
                exact Ev.pos cz (Ev.neg (by omega) (Ev.pos (by omega) (Ev.pos (by omega) (Ev.now _))))
            · refine Ev.eqr ?_ (if_neg (fun h => cz h.2)).symm
              exact Ev.neg cz (Ev.pos (by omega) (Ev.pos (by omega) (Ev.now _)))
          · refine Ev.eqr ?_ (if_neg c2).symm
            rw [show bt s (i : Int) % 128 = bt s (i : Int) - 128 from by omega]
            refine Ev.pos (by omega) ?_
            have hm : (bt s (i : Int) - 128) * 128 ^ i ≤ 127 * 128 ^ i := Int.mul_le_mul_of_nonneg_right (by omega) (by omega)
            have hm0 : 0 ≤ (bt s (i : Int) - 128) * 128 ^ i := Int.mul_nonneg (by omega) (by omega)
            exact ih (i + 1) _ (by omega) (by omega) (by omega)
        by_cases c9 : i = 9
        · refine Ev.pos (by omega) ?_
          by_cases cb : 1 < bt s (i : Int)
          · by_cases cg : bt s (i : Int) % 128 > 1
            case neg =>
              refine Ev.eqr ?_ (if_pos ⟨c9, cb⟩).symm
              rw [decide_eq_false cg]
              refine (main (fun _ => by omega)).eqr ?_
              obtain rfl : d = 0 := by omega
              rw [if_neg (by omega)]
              rfl
            refine Ev.eqr ?_ (if_pos ⟨c9, cb⟩).symm
            rw [decide_eq_true (show bt s (i : Int) % 128 > 1 by omega)]
            refine Ev.step (fun k => impl_TakeVar.j2.eq_2 ..) ?_
            exact Ev.pos (by decide) (Ev.now _)
          · refine Ev.eqr ?_ (if_neg (fun h => cb h.2)).symm
            rw [decide_eq_false (show ¬ (bt s (i : Int) % 128 > 1) by omega)]
            exact main (fun _ => by omega)
        · refine Ev.neg (by omega) ?_
          refine Ev.eqr ?_ (if_neg (fun h => c9 h.1)).symm
          exact main (fun h => absurd h c9)
      · refine Ev.eqr ?_ (if_neg c).symm
        refine Ev.step (fun k => impl_TakeVar.l0.eq_2 ..) (Ev.neg (by omega) ?_)
        refine Ev.step (fun k => impl_TakeVar.j1.eq_2 ..) ?_
        exact Ev.neg (by decide) (Ev.now _)
  exact key 10 0 0 rfl (by decide) (by decide)
end Go.Proofs.Ytidjdkodgddfcaa.P
end

section
namespace Go.Proofs.Ytidjdkodgddfcaa.P
open Go.RowKit Go.Proofs.YtidjdkodgddfcaaW.PrintWords Go.Proofs.YtidjdkodgddfcaaW.PrintLast Go.Proofs.YtidjdkodgddfcaaW.PrintMore
attribute [local go_sem] str_gtr str_leq str_geq max2_int min2_int max_two min_two max_three min_three max_four min_four
set_option linter.unusedVariables false
set_option linter.unusedSimpArgs false
def tt (s : ByteArray) : ByteArray × ByteArray × Bool :=
  if (tv s).2.2 = true ∧ (tv s).1 ≤ 60000 ∧ (tv s).1 ≤ ((tv s).2.1.size : Int) then ((tv s).2.1.extract 0 (tv s).1.toNat, (tv s).2.1.extract (tv s).1.toNat (tv s).2.1.size, true) else (⟨#[]⟩, ⟨#[]⟩, false)
theorem empty_size : (⟨#[]⟩ : ByteArray).size = 0 := rfl
theorem tvGo_range (s : ByteArray) : ∀ (d i : Nat) (acc : Int), i + d = 10 → 0 ≤ acc → acc < 128 ^ i → 0 ≤ (tvGo s d i acc).1 ∧ (tvGo s d i acc).1 < 18446744073709551616 ∧ (tvGo s d i acc).2.1.size ≤ s.size ∧ ((tvGo s d i acc).2.2 = true → (tvGo s d i acc).2.1.size < s.size) := by
  intro d
  induction d with
  | zero => intro i acc _ _ _; simp [tvGo, empty_size]
  | succ d ih =>
    intro i acc hi h0 h1
    have hf : 0 ≤ ((0 : Int), (⟨#[]⟩ : ByteArray), false).1 ∧ ((0 : Int), (⟨#[]⟩ : ByteArray), false).1 < 18446744073709551616 ∧ ((0 : Int), (⟨#[]⟩ : ByteArray), false).2.1.size ≤ s.size ∧ (((0 : Int), (⟨#[]⟩ : ByteArray), false).2.2 = true → ((0 : Int), (⟨#[]⟩ : ByteArray), false).2.1.size < s.size) := by simp [empty_size]
    obtain ⟨r0, r1⟩ := bt_range s (i : Int)
    have hpos : (0 : Int) < 128 ^ i := Int.pow_pos (by decide)
    unfold tvGo
    by_cases c : i < s.size
    · rw [if_pos c]
      by_cases c9 : i = 9 ∧ 1 < bt s (i : Int)
      · rw [if_pos c9]; exact hf
      · rw [if_neg c9]
        by_cases c2 : bt s (i : Int) < 128
        · rw [if_pos c2]
          by_cases cz : 0 < i ∧ bt s (i : Int) = 0
          · rw [if_pos cz]; exact hf
          · rw [if_neg cz]
            have hn : 0 ≤ bt s (i : Int) * 128 ^ i := Int.mul_nonneg r0 (by omega)
            have hb : acc + bt s (i : Int) * 128 ^ i < 18446744073709551616 := by
              by_cases e : i = 9
              · subst e
                have : bt s ((9 : Nat) : Int) ≤ 1 := by
                  have := fun h => c9 ⟨rfl, h⟩
                  omega
                have : bt s ((9 : Nat) : Int) * 128 ^ 9 ≤ 1 * 128 ^ 9 := Int.mul_le_mul_of_nonneg_right this (by decide)
                omega
              · have h8 : (128 : Int) ^ i ≤ 128 ^ 8 := by
                  have : (128 : Nat) ^ i ≤ 128 ^ 8 := Nat.pow_le_pow_right (by decide) (by omega)
                  exact_mod_cast this
                have : bt s (i : Int) * 128 ^ i ≤ 127 * 128 ^ 8 := Int.mul_le_mul (by omega) h8 (by omega) (by decide)
                omega
            refine ⟨by show 0 ≤ acc + _; omega, hb, ?_, ?_⟩
            · show (s.extract (i + 1) s.size).size ≤ s.size
              rw [ByteArray.size_extract]; omega
            · intro _
              show (s.extract (i + 1) s.size).size < s.size
              rw [ByteArray.size_extract]; omega
        · rw [if_neg c2]
          have hm : (bt s (i : Int) - 128) * 128 ^ i ≤ 127 * 128 ^ i := Int.mul_le_mul_of_nonneg_right (by omega) (by omega)
          have hm0 : 0 ≤ (bt s (i : Int) - 128) * 128 ^ i := Int.mul_nonneg (by omega) (by omega)
          have hpow : (128 : Int) ^ (i + 1) = 128 ^ i * 128 := Int.pow_succ 128 i
          exact ih (i + 1) _ (by omega) (by omega) (by omega)
    · rw [if_neg c]; exact hf
theorem tv_range (s : ByteArray) : 0 ≤ (tv s).1 ∧ (tv s).1 < 18446744073709551616 ∧ (tv s).2.1.size ≤ s.size ∧ ((tv s).2.2 = true → (tv s).2.1.size < s.size) := tvGo_range s 10 0 0 rfl (by decide) (by decide)
theorem takeText_ev (s : ByteArray) (hs : s.size ≤ 4611686018427387904) : Ev (fun k => impl_TakeText.f k s) (tt s) := by
  unfold impl_TakeText.f tt
  obtain ⟨r0, r1, r2, _⟩ := tv_range s
  refine Ev.bind (takeVar_ev s hs) ?_
  by_cases c1 : (tv s).2.2 = true
  · refine Ev.pos c1 ?_
    by_cases c2 : (tv s).1 > 60000
    · exact Ev.pos c2 ((Ev.now _).eqr (if_neg (fun h => by omega)).symm)
    · refine Ev.neg c2 ?_
      rw [uid (x := ((tv s).2.1.size : Int)) (by omega) (by omega)]
      by_cases c3 : (tv s).1 > ((tv s).2.1.size : Int)
      · exact Ev.pos c3 ((Ev.now _).eqr (if_neg (fun h => by omega)).symm)
      · exact Ev.neg c3 (Ev.pos r0 (Ev.pos (by omega) ((Ev.now _).eqr (if_pos ⟨c1, by omega, by omega⟩).symm)))
  · exact Ev.neg c1 ((Ev.now _).eqr (if_neg (fun h => c1 h.1)).symm)
theorem sTakeText_ev (s : ByteArray) (hs : s.size ≤ 4611686018427387904) : Ev (fun k => spec_TakeText.f k s) (tt s) := by
  unfold spec_TakeText.f tt
  obtain ⟨r0, r1, r2, _⟩ := tv_range s
  refine Ev.bind (sTakeVar_ev s hs) ?_
  by_cases c1 : (tv s).2.2 = true
  · refine Ev.pos c1 ?_
    by_cases c2 : (tv s).1 > 60000
    · exact Ev.pos c2 ((Ev.now _).eqr (if_neg (fun h => by omega)).symm)
    · refine Ev.neg c2 ?_
      rw [uid (x := ((tv s).2.1.size : Int)) (by omega) (by omega)]
      by_cases c3 : (tv s).1 > ((tv s).2.1.size : Int)
      · exact Ev.pos c3 ((Ev.now _).eqr (if_neg (fun h => by omega)).symm)
      · exact Ev.neg c3 (Ev.pos r0 (Ev.pos (by omega) ((Ev.now _).eqr (if_pos ⟨c1, by omega, by omega⟩).symm)))
  · exact Ev.neg c1 ((Ev.now _).eqr (if_neg (fun h => c1 h.1)).symm)
theorem tt_range (s : ByteArray) : (tt s).1.size ≤ 60000 ∧ (tt s).1.size ≤ s.size ∧ (tt s).2.1.size ≤ s.size ∧ ((tt s).2.2 = true → (tt s).2.1.size < s.size) := by
  obtain ⟨r0, r1, r2, r3⟩ := tv_range s
  unfold tt
  by_cases c : (tv s).2.2 = true ∧ (tv s).1 ≤ 60000 ∧ (tv s).1 ≤ ((tv s).2.1.size : Int)
  · rw [if_pos c]
    have := r3 c.1
    simp only [ByteArray.size_extract]
    exact ⟨by omega, by omega, by omega, fun _ => by omega⟩
  · rw [if_neg c]
    simp [empty_size]
theorem toList_inj {a b : ByteArray} (h : a.toList = b.toList) : a = b := by
  rw [ByteArray.toList_eq, ByteArray.toList_eq] at h
  exact ByteArray.ext (Array.toList_inj.1 h)
theorem bytesOf_strOfNums (l : List Int) (h : ∀ x ∈ l, 0 ≤ x ∧ x < 256) : bytesOf (strOfNums l) = l := by
  unfold bytesOf strOfNums
  simp only [List.map_map]
  conv => rhs; rw [← List.map_id l]
  refine List.map_congr_left fun x hx => ?_
  have := h x hx
  simp only [Function.comp_apply, id]
  rw [UInt8.toNat_ofNat']
  omega
end Go.Proofs.Ytidjdkodgddfcaa.P
end

section
namespace Go.Proofs.Ytidjdkodgddfcaa.P
open Go.RowKit Go.Proofs.YtidjdkodgddfcaaW.PrintWords Go.Proofs.YtidjdkodgddfcaaW.PrintLast Go.Proofs.YtidjdkodgddfcaaW.PrintMore
attribute [local go_sem] str_gtr str_leq str_geq max2_int min2_int max_two min_two max_three min_three max_four min_four
set_option linter.unusedVariables false
set_option linter.unusedSimpArgs false
def pf (n : Int) : ByteArray := strOfNums [n % 256, (n / 256) % 256, (n / 65536) % 256, (n / 16777216) % 256]
theorem bytesOf_pf (n : Int) : bytesOf (pf n) = [n % 256, (n / 256) % 256, (n / 65536) % 256, (n / 16777216) % 256] := by
  refine bytesOf_strOfNums _ fun x hx => ?_
  simp only [List.mem_cons, List.not_mem_nil, or_false] at hx
  omega
theorem pf_size (n : Int) : (pf n).size = 4 := by rw [← bytesOf_length, bytesOf_pf]; rfl
def f4 (s : ByteArray) : Int := bt s 0 + bt s 1 * 256 + bt s 2 * 65536 + bt s 3 * 16777216
theorem f4_range (s : ByteArray) : 0 ≤ f4 s ∧ f4 s < 4294967296 := by
  have := bt_range s 0
  have := bt_range s 1
  have := bt_range s 2
  have := bt_range s 3
  unfold f4
  omega
def tf (s : ByteArray) : Int × ByteArray × Bool := if s.size < 4 then (0, ⟨#[]⟩, false) else (f4 s, s.extract 4 s.size, true)
theorem or4 (s : ByteArray) : Go.bits .or .u32 (Go.bits .or .u32 (Go.bits .or .u32 ((bt s 0) % 4294967296) ((((bt s 1) % 4294967296) * 256) % 4294967296)) ((((bt s 2) % 4294967296) * 65536) % 4294967296)) ((((bt s 3) % 4294967296) * 16777216) % 4294967296) = f4 s := by
  have := bt_range s 0
  have := bt_range s 1
  have := bt_range s 2
  have := bt_range s 3
  have e1 : Go.bits .or .u32 ((bt s 0) % 4294967296) ((((bt s 1) % 4294967296) * 256) % 4294967296) = bt s 0 + bt s 1 * 256 := (u32_or8 _ _ (by omega) (by omega) (by omega) (by omega) (by omega)).trans (by omega)
  rw [e1]
  have e2 : Go.bits .or .u32 (bt s 0 + bt s 1 * 256) ((((bt s 2) % 4294967296) * 65536) % 4294967296) = bt s 0 + bt s 1 * 256 + bt s 2 * 65536 := (u32_or16 _ _ (by omega) (by omega) (by omega) (by omega) (by omega)).trans (by omega)
  rw [e2]
  have e3 : Go.bits .or .u32 (bt s 0 + bt s 1 * 256 + bt s 2 * 65536) ((((bt s 3) % 4294967296) * 16777216) % 4294967296) = bt s 0 + bt s 1 * 256 + bt s 2 * 65536 + bt s 3 * 16777216 := (u32_or24 _ _ (by omega) (by omega) (by omega) (by omega) (by omega)).trans (by omega)
  exact e3
theorem takeFixed_ev (s : ByteArray) : impl_TakeFixed.f s = some (tf s) := by
  unfold impl_TakeFixed.f tf
  by_cases c : s.size < 4
  · rw [if_pos (by omega), if_pos c]
  · rw [if_neg (by omega), if_neg c, if_pos (by omega), if_pos (by omega), if_pos (by omega), if_pos (by omega), if_pos (by omega), or4]
theorem sTakeFixed_ev (s : ByteArray) : spec_TakeFixed.f s = some (tf s) := by
  unfold spec_TakeFixed.f tf
  by_cases c : s.size < 4
  · rw [if_pos (by omega), if_pos c]
  · rw [if_neg (by omega), if_neg c, if_pos (by omega), if_pos (by omega), if_pos (by omega), if_pos (by omega), if_pos (by omega), or4]
theorem putFixed_ev (n : Int) : impl_PutFixed.f n = some (pf n) := rfl
theorem sPutFixed_ev (n : Int) : spec_PutFixed.f n = some (pf n) := rfl
end Go.Proofs.Ytidjdkodgddfcaa.P
end

section
namespace Go.Proofs.Ytidjdkodgddfcaa.P
open Go.RowKit Go.Proofs.YtidjdkodgddfcaaW.PrintWords Go.Proofs.YtidjdkodgddfcaaW.PrintLast Go.Proofs.YtidjdkodgddfcaaW.PrintMore
attribute [local go_sem] str_gtr str_leq str_geq max2_int min2_int max_two min_two max_three min_three max_four min_four
set_option linter.unusedVariables false
set_option linter.unusedSimpArgs false
def numT (s : ByteArray) (bad : Bool) : Int × ByteArray × Bool := if (tv s).2.2 = true ∧ (tv s).1 ≤ 4611686018427387904 then ((tv s).1, (tv s).2.1, bad) else (0, s, true)
def txtT (s : ByteArray) (bad : Bool) : ByteArray × ByteArray × Bool := if (tt s).2.2 = true then ((tt s).1, (tt s).2.1, bad) else (⟨#[]⟩, s, true)
theorem number_taken (s : ByteArray) (bad : Bool) (hs : s.size ≤ 4611686018427387904) : Ev (fun k => impl_taker_number.f k s bad) (numT s bad) := by
  unfold impl_taker_number.f numT
  obtain ⟨r0, r1, _, _⟩ := tv_range s
  refine Ev.bind (takeVar_ev s hs) ?_
  by_cases c : (tv s).2.2 = true
  · refine Ev.pos c ?_
    by_cases c2 : (tv s).1 > 4611686018427387904
    · exact Ev.pos c2 ((Ev.now _).eqr (if_neg (fun h => by omega)).symm)
    · refine Ev.neg c2 ?_
      rw [wid (by omega) (by omega)]
      exact (Ev.now _).eqr (if_pos ⟨c, by omega⟩).symm
  · exact Ev.neg c ((Ev.now _).eqr (if_neg (fun h => c h.1)).symm)
theorem text_taken (s : ByteArray) (bad : Bool) (hs : s.size ≤ 4611686018427387904) : Ev (fun k => impl_taker_text.f k s bad) (txtT s bad) := by
  unfold impl_taker_text.f txtT
  refine Ev.bind (takeText_ev s hs) ?_
  by_cases c : (tt s).2.2 = true
  · exact Ev.pos c ((Ev.now _).eqr (if_pos c).symm)
  · exact Ev.neg c ((Ev.now _).eqr (if_neg c).symm)
theorem numT_size (s : ByteArray) (bad : Bool) : (numT s bad).2.1.size ≤ s.size := by
  obtain ⟨_, _, h, _⟩ := tv_range s
  unfold numT
  split
  · exact h
  · exact Nat.le_refl _
theorem txtT_size (s : ByteArray) (bad : Bool) : (txtT s bad).2.1.size ≤ s.size ∧ (txtT s bad).1.size ≤ s.size := by
  obtain ⟨_, h2, h3, _⟩ := tt_range s
  unfold txtT
  split
  · exact ⟨h3, h2⟩
  · exact ⟨Nat.le_refl _, by rw [empty_size]; omega⟩
theorem txtT_bad (s : ByteArray) : (txtT s true).2.2 = true := by unfold txtT; split <;> rfl
theorem numT_good {s : ByteArray} {b : Bool} (h1 : (tv s).2.2 = true) (h2 : (tv s).1 ≤ 4611686018427387904) : numT s b = ((tv s).1, (tv s).2.1, b) := by
  unfold numT
  rw [if_pos ⟨h1, h2⟩]
theorem numT_not {s : ByteArray} {b : Bool} (h : ¬ ((tv s).2.2 = true ∧ (tv s).1 ≤ 4611686018427387904)) : numT s b = (0, s, true) := by
  unfold numT
  rw [if_neg h]
theorem txtT_good {s : ByteArray} {b : Bool} (h1 : (tt s).2.2 = true) : txtT s b = ((tt s).1, (tt s).2.1, b) := by
  unfold txtT
  rw [if_pos h1]
theorem txtT_not {s : ByteArray} {b : Bool} (h : ¬ (tt s).2.2 = true) : txtT s b = (⟨#[]⟩, s, true) := by
  unfold txtT
  rw [if_neg h]
end Go.Proofs.Ytidjdkodgddfcaa.P
end

section
namespace Go.Proofs.Ytidjdkodgddfcaa.Pure
open Go.RowKit Go.Proofs.YtidjdkodgddfcaaW.PrintWords Go.Proofs.YtidjdkodgddfcaaW.PrintLast Go.Proofs.YtidjdkodgddfcaaW.PrintMore
open Go.Proofs.Ytidjdkodgddfcaa.P
set_option linter.unusedVariables false
set_option linter.unusedSimpArgs false
def cpl : List Int → List Int → Nat
  | a :: x, b :: y => if a = b then cpl x y + 1 else 0
  | _, _ => 0
def shv (a b : ByteArray) : Nat := cpl (bytesOf a) (bytesOf b)
theorem cpl_le : ∀ a b : List Int, cpl a b ≤ a.length ∧ cpl a b ≤ b.length
  | [], _ => by simp [cpl]
  | _ :: _, [] => by simp [cpl]
  | a :: x, b :: y => by
    have := cpl_le x y
    unfold cpl
    split
    · simp only [List.length_cons]; omega
    · simp
theorem shv_le (a b : ByteArray) : shv a b ≤ a.size ∧ shv a b ≤ b.size := by
  have := cpl_le (bytesOf a) (bytesOf b)
  rw [bytesOf_length, bytesOf_length] at this
  exact this
theorem drop_bt (s : ByteArray) (i : Nat) (h : i < s.size) : (bytesOf s).drop i = bt s (i : Int) :: (bytesOf s).drop (i + 1) := by
  have hl : i < (bytesOf s).length := by rw [bytesOf_length]; exact h
  rw [List.drop_eq_getElem_cons hl]
  congr 1
  rw [← rd_bytesOf]
  unfold rd
  rw [Int.toNat_natCast, List.getD_eq_getElem?_getD, List.getElem?_eq_getElem hl]
  rfl
theorem shared_ev (a b : ByteArray) (ha : a.size ≤ 2097152) : Ev (fun k => impl_SharedWith.f k a b) ((shv a b : Nat) : Int) := by
  have key : ∀ i, i ≤ a.size → Ev (fun k => impl_SharedWith.l0 k a b (i : Int)) ((i + cpl ((bytesOf a).drop i) ((bytesOf b).drop i) : Nat) : Int) := by
    refine downTo a.size ?_ ?_
    · refine Ev.step (fun k => impl_SharedWith.l0.eq_2 ..) (Ev.neg (by omega) ((Ev.now _).eqr ?_))
      rw [← bytesOf_length a, List.drop_length]
      simp [cpl]
    · intro i hi ih
      refine Ev.step (fun k => impl_SharedWith.l0.eq_2 ..) (Ev.pos (by omega) ?_)
      rw [drop_bt a i hi]
      by_cases h1 : i < b.size
      · rw [drop_bt b i h1]
        refine Ev.pos (by omega) (Ev.pos (by omega) ?_)
        by_cases h2 : bt a i = bt b i
        · refine Ev.pos h2 ?_
          rw [wsucc (by omega)]
          refine ih.eqr ?_
          rw [cpl, if_pos h2]
          omega
        · refine Ev.neg h2 ((Ev.now _).eqr ?_)
          rw [cpl, if_neg h2]
          rfl
      · refine Ev.neg (by omega) ((Ev.now _).eqr ?_)
        rw [show (bytesOf b).drop i = [] from List.drop_eq_nil_of_le (by rw [bytesOf_length]; omega)]
        simp [cpl]
  have := key 0 (Nat.zero_le _)
  rw [List.drop_zero, List.drop_zero, Nat.zero_add] at this
  exact this
theorem sShared_ev (a b : ByteArray) (ha : a.size ≤ 2097152) : Ev (fun k => spec_SharedWith.f k a b) ((shv a b : Nat) : Int) := by
  have key : ∀ i, i ≤ a.size → Ev (fun k => spec_SharedWith.l0 k a b (i : Int)) ((i + cpl ((bytesOf a).drop i) ((bytesOf b).drop i) : Nat) : Int) := by
    refine downTo a.size ?_ ?_
    · refine Ev.step (fun k => spec_SharedWith.l0.eq_2 ..) (Ev.neg (by omega) ((Ev.now _).eqr ?_))
      rw [← bytesOf_length a, List.drop_length]
      simp [cpl]
    · intro i hi ih
      refine Ev.step (fun k => spec_SharedWith.l0.eq_2 ..) (Ev.pos (by omega) ?_)
      rw [drop_bt a i hi]
      by_cases h1 : i < b.size
      · rw [drop_bt b i h1]
        refine Ev.pos (by omega) (Ev.pos (by omega) ?_)
        by_cases h2 : bt a i = bt b i
        · refine Ev.pos h2 ?_
          rw [wsucc (by omega)]
          refine ih.eqr ?_
          rw [cpl, if_pos h2]
          omega
        · refine Ev.neg h2 ((Ev.now _).eqr ?_)
          rw [cpl, if_neg h2]
          rfl
      · refine Ev.neg (by omega) ((Ev.now _).eqr ?_)
        rw [show (bytesOf b).drop i = [] from List.drop_eq_nil_of_le (by rw [bytesOf_length]; omega)]
        simp [cpl]
  have := key 0 (Nat.zero_le _)
  rw [List.drop_zero, List.drop_zero, Nat.zero_add] at this
  exact this
def kn (q d : Int) : Int := 2 * q + d
def kt (u : ByteArray) (q d : Int) : ByteArray := (u ++ pf (kn q d % 4294967296)) ++ pf (kn q d / 4294967296 % 4294967296)
theorem kt_size (u : ByteArray) (q d : Int) : (kt u q d).size = u.size + 8 := by
  unfold kt
  rw [ByteArray.size_append, ByteArray.size_append, pf_size, pf_size]
theorem keyText_ev {u : ByteArray} {q d : Int} (h : isK u q d) : impl_keyText.f u q d = some (kt u q d) := by
  obtain ⟨⟨h1, h2⟩, h3, h4⟩ := h
  have e : IntKind.u64.wrap (wrap64 (wrap64 (2 * q) + d)) = kn q d := by
    rw [wid (x := 2 * q) (by omega) (by omega), wid (by omega) (by omega), uid (by omega) (by omega)]
    rfl
  unfold impl_keyText.f
  have z1 := pf_size (kn q d % 4294967296)
  have z2 := pf_size (kn q d / 4294967296 % 4294967296)
  rw [e, putFixed_ev, putFixed_ev, Option.bind_some, if_pos (by omega), Option.bind_some, if_pos (by omega)]
  rfl
theorem sKeyText_ev {u : ByteArray} {q d : Int} (h : isK u q d) : spec_KeyText.f u q d = some (kt u q d) := by
  have hk := sKeyOk_ev u q d
  rw [decide_eq_true h] at hk
  obtain ⟨⟨h1, h2⟩, h3, h4⟩ := h
  have e : IntKind.u64.wrap (wrap64 (wrap64 (2 * q) + d)) = kn q d := by
    rw [wid (x := 2 * q) (by omega) (by omega), wid (by omega) (by omega), uid (by omega) (by omega)]
    rfl
  unfold spec_KeyText.f
  have z1 := pf_size (kn q d % 4294967296)
  have z2 := pf_size (kn q d / 4294967296 % 4294967296)
  rw [hk, Option.bind_some, if_pos rfl, e, sPutFixed_ev, sPutFixed_ev, Option.bind_some, if_pos (by omega), Option.bind_some, if_pos (by omega)]
  rfl
def ekt (e : S64) : ByteArray := kt e.f0.f0 e.f0.f1 e.f0.f2
def blkGo (every : Int) : Nat → List S64 → ByteArray → ByteArray → ByteArray → Int → ByteArray
  | _, [], out, _, anew, many => ((out ++ anew) ++ pf many) ++ pf (every % 4294967296)
  | i, e :: es, out, ahead, anew, many =>
    if Int.tmod (i : Int) every = 0 then blkGo every (i + 1) es (out ++ (pv 0 ++ pt (ekt e) ++ pt e.f1)) (ekt e) (anew ++ pf ((out.size : Int) % 4294967296)) ((many + 1) % 4294967296)
    else blkGo every (i + 1) es (out ++ (pv (shv ahead (ekt e)) ++ pt ((ekt e).extract (shv ahead (ekt e)) (ekt e).size) ++ pt e.f1)) (ekt e) anew many
def blkT (l : List S64) (every : Int) : ByteArray := blkGo every 0 l ⟨#[]⟩ ⟨#[]⟩ ⟨#[]⟩ 0
noncomputable def blkV (l : List S64) (every : Int) : ByteArray × Bool :=
  if isRow l ∧ l.length ≠ 0 ∧ 1 ≤ every ∧ every ≤ 16 then (if ((blkT l every).size : Int) > 60000 then (⟨#[]⟩, false) else (blkT l every, true)) else (⟨#[]⟩, false)
theorem row_small {l : List S64} (h : isRow l) (i : Nat) (hi : i < l.length) : isK l[i].f0.f0 l[i].f0.f1 l[i].f0.f2 ∧ l[i].f0.f0.size ≤ 40 ∧ l[i].f1.size ≤ 200 := by
  have := (h.2 i (Nat.zero_le _) hi).1
  unfold isEx isE at this
  refine ⟨this.1, this.1.1.2, this.2.1⟩
theorem block_ev (l : List S64) (h : isRow l) (every : Int) (h1 : 1 ≤ every) (h2 : every ≤ 16) : Ev (fun k => impl_block.f k l every) (blkT l every) := by
  have key : ∀ i, i ≤ l.length → ∀ (out ahead anew : ByteArray) (many : Int), out.size ≤ 400 * i → ahead.size ≤ 48 → anew.size ≤ 4 * i → Ev (fun k => impl_block.l0 k every out ahead anew many l (l.length : Int) (i : Int)) (blkGo every i (l.drop i) out ahead anew many) := by
    have hlen := h.1
    refine downTo l.length ?_ ?_
    · intro out ahead anew many z1 z2 z3
      rw [List.drop_length]
      refine Ev.step (fun k => impl_block.l0.eq_2 ..) ?_
      have p1 := pf_size many
      have p2 := pf_size (every % 4294967296)
      exact Ev.neg (by omega) (Ev.pos (by omega) (Ev.bindS (putFixed_ev _) (Ev.pos (by omega) (Ev.bindS (putFixed_ev _) (Ev.pos (by omega) (Ev.now _))))))
    · intro i hi ih out ahead anew many z1 z2 z3
      obtain ⟨hk, hu, hv⟩ := row_small h i hi
      have hz := kt_size l[i].f0.f0 l[i].f0.f1 l[i].f0.f2
      rw [List.drop_eq_getElem_cons hi]
      refine Ev.step (fun k => impl_block.l0.eq_2 ..) ?_
      refine Ev.pos (by omega) (Ev.pos (by omega) (Ev.pos (by omega) ?_))
      rw [rdE l i hi]
      refine Ev.bindS (keyText_ev hk) (Ev.neg (by omega) ?_)
      have pv0 := pv_size (n := 0) (by omega)
      have v1 := putText_ev l[i].f1 (by omega)
      have v2 := pt_size l[i].f1 (by omega)
      have ee : ekt l[i] = kt l[i].f0.f0 l[i].f0.f1 l[i].f0.f2 := rfl
      by_cases c : Int.tmod (i : Int) every = 0
      · have k1 := putText_ev (ekt l[i]) (by rw [ee]; omega)
        have k2 := pt_size (ekt l[i]) (by rw [ee]; omega)
        have n0 := putInt_ev 0 (by omega)
        have pfz := pf_size ((out.size : Int) % 4294967296)
        rw [← ee] at hz ⊢
        refine Ev.pos c (Ev.bindS (putFixed_ev _) (Ev.pos (by omega) (Ev.bind n0 (Ev.pos (by omega) ?_))))
        rw [ByteArray.extract_zero_size]
        refine Ev.bind k1 (Ev.pos (by omega) (Ev.bind v1 (Ev.pos (by omega) (Ev.pos (by omega) ?_))))
        rw [wsucc (by omega)]
        refine (ih _ (ekt l[i]) _ _ ?_ (by omega) ?_).eqr ?_
        · rw [ByteArray.size_append, ByteArray.size_append, ByteArray.size_append]; omega
        · rw [ByteArray.size_append]; omega
        · rw [blkGo, if_pos c]
      · obtain ⟨s1, s2⟩ := shv_le ahead (ekt l[i])
        have hsh := shared_ev ahead (ekt l[i]) (by omega)
        have ns := putInt_ev (shv ahead (ekt l[i])) (by omega)
        have nz := pv_size (n := shv ahead (ekt l[i])) (by omega)
        have ez : ((ekt l[i]).extract (shv ahead (ekt l[i])) (ekt l[i]).size).size ≤ 48 := by rw [ByteArray.size_extract]; rw [ee]; omega
        have k1 := putText_ev ((ekt l[i]).extract (shv ahead (ekt l[i])) (ekt l[i]).size) (by omega)
        have k2 := pt_size ((ekt l[i]).extract (shv ahead (ekt l[i])) (ekt l[i]).size) (by omega)
        rw [← ee] at hz ⊢
        refine Ev.neg c (Ev.bind hsh (Ev.bind ns (Ev.pos (by omega) (Ev.pos (by omega) ?_))))
        rw [Int.toNat_natCast]
        refine Ev.bind k1 (Ev.pos (by omega) (Ev.bind v1 (Ev.pos (by omega) (Ev.pos (by omega) ?_))))
        rw [wsucc (by omega)]
        refine (ih _ (ekt l[i]) _ _ ?_ (by omega) (by omega)).eqr ?_
        · rw [ByteArray.size_append, ByteArray.size_append, ByteArray.size_append]; omega
        · rw [blkGo, if_neg c]
  exact key 0 (Nat.zero_le _) _ _ _ _ (by simp [empty_size]) (by simp [empty_size]) (by simp [empty_size])
theorem sBlock_ev (l : List S64) (h : isRow l) (every : Int) (h1 : 1 ≤ every) (h2 : every ≤ 16) : Ev (fun k => spec_BlockOf.l0 k l every ⟨#[]⟩ ⟨#[]⟩ 0 ⟨#[]⟩ 0) (if ((blkT l every).size : Int) > 60000 then (⟨#[]⟩, false) else (blkT l every, true)) := by
  have key : ∀ i, i ≤ l.length → ∀ (out ahead anew : ByteArray) (many : Int), out.size ≤ 400 * i → ahead.size ≤ 48 → anew.size ≤ 4 * i → Ev (fun k => spec_BlockOf.l0 k l every out anew many ahead (i : Int)) (if ((blkGo every i (l.drop i) out ahead anew many).size : Int) > 60000 then (⟨#[]⟩, false) else (blkGo every i (l.drop i) out ahead anew many, true)) := by
    have hlen := h.1
    refine downTo l.length ?_ ?_
    · intro out ahead anew many z1 z2 z3
      rw [List.drop_length]
      refine Ev.step (fun k => spec_BlockOf.l0.eq_2 ..) ?_
      have p1 := pf_size many
      have p2 := pf_size (every % 4294967296)
      refine Ev.neg (by omega) (Ev.pos (by omega) (Ev.bindS (sPutFixed_ev _) (Ev.pos (by omega) (Ev.bindS (sPutFixed_ev _) (Ev.pos (by omega) ?_)))))
      rw [blkGo]
      by_cases c : (((((out ++ anew) ++ pf many) ++ pf (every % 4294967296)).size : Nat) : Int) > 60000
      · exact Ev.pos c ((Ev.now _).eqr (if_pos c).symm)
      · exact Ev.neg c ((Ev.now _).eqr (if_neg c).symm)
    · intro i hi ih out ahead anew many z1 z2 z3
      obtain ⟨hk, hu, hv⟩ := row_small h i hi
      have hz := kt_size l[i].f0.f0 l[i].f0.f1 l[i].f0.f2
      rw [List.drop_eq_getElem_cons hi]
      refine Ev.step (fun k => spec_BlockOf.l0.eq_2 ..) ?_
      refine Ev.pos (by omega) (Ev.pos (by omega) ?_)
      rw [rdE l i hi]
      have pv0 := pv_size (n := 0) (by omega)
      have v1 := sPutText_ev l[i].f1 (by omega)
      have v2 := pt_size l[i].f1 (by omega)
      have ee : ekt l[i] = kt l[i].f0.f0 l[i].f0.f1 l[i].f0.f2 := rfl
      obtain ⟨s1, s2⟩ := shv_le ahead (ekt l[i])
      have hsh := sShared_ev ahead (ekt l[i]) (by omega)
      refine Ev.bindS (sKeyText_ev hk) ?_
      rw [← ee] at hz ⊢
      refine Ev.bind hsh (Ev.neg (by omega) ?_)
      by_cases c : Int.tmod (i : Int) every = 0
      · have k1 := sPutText_ev (ekt l[i]) (by rw [ee]; rw [ee] at hz; omega)
        have k2 := pt_size (ekt l[i]) (by rw [ee]; rw [ee] at hz; omega)
        have n0 := sPutVar_ev 0 (by omega)
        have pfz := pf_size ((out.size : Int) % 4294967296)
        refine Ev.pos c (Ev.bindS (sPutFixed_ev _) (Ev.pos (by omega) (Ev.bind n0 (Ev.pos (by omega) (Ev.pos (by omega) ?_)))))
        rw [ByteArray.extract_zero_size]
        refine Ev.bind k1 (Ev.pos (by omega) (Ev.bind v1 (Ev.pos (by omega) ?_)))
        rw [wsucc (by omega), show ((out ++ pv 0) ++ pt (ekt l[i])) ++ pt l[i].f1 = out ++ (pv 0 ++ pt (ekt l[i]) ++ pt l[i].f1) from by simp only [ByteArray.append_assoc]]
        refine (ih _ (ekt l[i]) _ _ ?_ (by omega) ?_).eqr ?_
        · rw [ByteArray.size_append, ByteArray.size_append, ByteArray.size_append]; omega
        · rw [ByteArray.size_append]; omega
        · rw [blkGo, if_pos c]
      · have ns := sPutVar_ev (shv ahead (ekt l[i])) (by omega)
        have nz := pv_size (n := shv ahead (ekt l[i])) (by omega)
        have ez : ((ekt l[i]).extract (shv ahead (ekt l[i])) (ekt l[i]).size).size ≤ 48 := by rw [ByteArray.size_extract]; omega
        have k1 := sPutText_ev ((ekt l[i]).extract (shv ahead (ekt l[i])) (ekt l[i]).size) (by omega)
        have k2 := pt_size ((ekt l[i]).extract (shv ahead (ekt l[i])) (ekt l[i]).size) (by omega)
        refine Ev.neg c ?_
        rw [uid (by omega) (by omega)]
        refine Ev.bind ns (Ev.pos (by omega) (Ev.pos (by omega) (Ev.pos (by omega) ?_)))
        rw [Int.toNat_natCast]
        refine Ev.bind k1 (Ev.pos (by omega) (Ev.bind v1 (Ev.pos (by omega) ?_)))
        rw [wsucc (by omega), show ((out ++ pv (shv ahead (ekt l[i]))) ++ pt ((ekt l[i]).extract (shv ahead (ekt l[i])) (ekt l[i]).size)) ++ pt l[i].f1 = out ++ (pv (shv ahead (ekt l[i])) ++ pt ((ekt l[i]).extract (shv ahead (ekt l[i])) (ekt l[i]).size) ++ pt l[i].f1) from by simp only [ByteArray.append_assoc]]
        refine (ih _ (ekt l[i]) _ _ ?_ (by omega) (by omega)).eqr ?_
        · rw [ByteArray.size_append, ByteArray.size_append, ByteArray.size_append]; omega
        · rw [blkGo, if_neg c]
  exact key 0 (Nat.zero_le _) _ _ _ _ (by simp [empty_size]) (by simp [empty_size]) (by simp [empty_size])
theorem blockOf_ev (l : List S64) (hl : l.length < 2097152) (every : Int) : Ev (fun k => impl_BlockOf.f k l every) (blkV l every) := by
  have hw := within_ev every 1 16
  have jt : ¬ (isRow l ∧ l.length ≠ 0 ∧ 1 ≤ every ∧ every ≤ 16) → Ev (fun k => impl_BlockOf.j0 k l every true) (blkV l every) := fun h => by
    refine Ev.step (fun k => impl_BlockOf.j0.eq_2 ..) ?_
    exact Ev.pos rfl ((Ev.now _).eqr (if_neg h).symm)
  unfold impl_BlockOf.f
  refine Ev.bind (entriesOk_ev l hl) ?_
  by_cases c1 : isRow l
  · refine Ev.pos (decide_eq_true c1) ?_
    by_cases c2 : l.length = 0
    · exact Ev.pos (by omega) (jt fun h => h.2.1 c2)
    · refine Ev.neg (by omega) (Ev.bindS hw ?_)
      by_cases c3 : 1 ≤ every ∧ every ≤ 16
      · rw [decide_eq_true c3]
        refine Ev.step (fun k => impl_BlockOf.j0.eq_2 ..) ?_
        refine Ev.neg (by decide) (Ev.eqr ?_ (if_pos ⟨c1, c2, c3.1, c3.2⟩).symm)
        refine Ev.bind (block_ev l c1 every c3.1 c3.2) ?_
        by_cases c4 : ((blkT l every).size : Int) > 60000
        · exact Ev.pos c4 ((Ev.now _).eqr (if_pos c4).symm)
        · exact Ev.neg c4 ((Ev.now _).eqr (if_neg c4).symm)
      · rw [decide_eq_false c3]
        exact jt fun h => c3 h.2.2
  · exact Ev.neg (by simpa using c1) (jt fun h => c1 h.1)
theorem sBlockOf_ev (l : List S64) (hl : l.length < 2097152) (every : Int) : Ev (fun k => spec_BlockOf.f k l every) (blkV l every) := by
  have hw := in_ev every 1 16
  have jt : ¬ (isRow l ∧ l.length ≠ 0 ∧ 1 ≤ every ∧ every ≤ 16) → Ev (fun k => spec_BlockOf.j0 k l every true) (blkV l every) := fun h => by
    refine Ev.step (fun k => spec_BlockOf.j0.eq_2 ..) ?_
    exact Ev.pos rfl ((Ev.now _).eqr (if_neg h).symm)
  unfold spec_BlockOf.f
  refine Ev.bind (sEntriesOk_ev l hl) ?_
  by_cases c1 : isRow l
  · refine Ev.pos (decide_eq_true c1) ?_
    by_cases c2 : l.length = 0
    · exact Ev.pos (by omega) (jt fun h => h.2.1 c2)
    · refine Ev.neg (by omega) (Ev.bindS hw ?_)
      by_cases c3 : 1 ≤ every ∧ every ≤ 16
      · rw [decide_eq_true c3]
        refine Ev.step (fun k => spec_BlockOf.j0.eq_2 ..) ?_
        refine Ev.neg (by decide) (Ev.eqr ?_ (if_pos ⟨c1, c2, c3.1, c3.2⟩).symm)
        exact sBlock_ev l c1 every c3.1 c3.2
      · rw [decide_eq_false c3]
        exact jt fun h => c3 h.2.2
  · exact Ev.neg (by simpa using c1) (jt fun h => c1 h.1)
end Go.Proofs.Ytidjdkodgddfcaa.Pure
end

section
namespace Go.Proofs.Ytidjdkodgddfcaa.Pure
open Go.RowKit Go.Proofs.YtidjdkodgddfcaaW.PrintWords Go.Proofs.YtidjdkodgddfcaaW.PrintLast Go.Proofs.YtidjdkodgddfcaaW.PrintMore
open Go.Proofs.Ytidjdkodgddfcaa.P
set_option linter.unusedVariables false
set_option linter.unusedSimpArgs false
def rkN (s : ByteArray) : Int := f4 ((s.extract (s.size - 8) s.size).extract 4 8) * 4294967296 + f4 (s.extract (s.size - 8) s.size)
noncomputable def rkV (s : ByteArray) : ByteArray × Int × Int × Bool :=
  if 9 ≤ s.size ∧ isK (s.extract 0 (s.size - 8)) (rkN s / 2) (rkN s % 2) then (s.extract 0 (s.size - 8), rkN s / 2, rkN s % 2, true) else (⟨#[]⟩, 0, 0, false)
theorem tail_size (s : ByteArray) (h : 8 ≤ s.size) : (s.extract (s.size - 8) s.size).size = 8 := by rw [ByteArray.size_extract]; omega
theorem rkN_range (s : ByteArray) : 0 ≤ rkN s ∧ rkN s < 18446744073709551616 := by
  have h1 := f4_range (s.extract (s.size - 8) s.size)
  have h2 := f4_range ((s.extract (s.size - 8) s.size).extract 4 8)
  unfold rkN
  omega
theorem tf_tail (s : ByteArray) (h : 8 ≤ s.size) : tf (s.extract (s.size - 8) s.size) = (f4 (s.extract (s.size - 8) s.size), (s.extract (s.size - 8) s.size).extract 4 8, true) := by
  unfold tf
  rw [tail_size s h, if_neg (by omega)]
theorem tf_tail2 (s : ByteArray) (h : 8 ≤ s.size) : (tf ((s.extract (s.size - 8) s.size).extract 4 8)).1 = f4 ((s.extract (s.size - 8) s.size).extract 4 8) ∧ (tf ((s.extract (s.size - 8) s.size).extract 4 8)).2.2 = true := by
  unfold tf
  rw [if_neg (by rw [ByteArray.size_extract, tail_size s h]; omega)]
  exact ⟨rfl, rfl⟩
theorem or_halves (a b : Int) (ha : 0 ≤ a) (ha1 : a < 4294967296) (hb : 0 ≤ b) (hb1 : b < 4294967296) : Go.bits .or .u64 (a * 4294967296) b = a * 4294967296 + b :=
  bits_join .u64 64 (by decide) wraps_u64 32 (a * 4294967296) b (by omega) (by omega) (by omega) hb (by omega) (by omega)
theorem wraps_i64 (n : Int) (h₀ : 0 ≤ n) (h₁ : n < 2 ^ 63) : IntKind.i64.wrap n = n := by
  rw [i64_w]
  exact wid (by omega) (by omega)
theorem or_halves_i (a b : Int) (ha : 0 ≤ a) (ha1 : a < 1073741824) (hb : 0 ≤ b) (hb1 : b < 4294967296) : Go.bits .or .i64 (a * 4294967296) b = a * 4294967296 + b :=
  bits_join .i64 63 (by decide) wraps_i64 32 (a * 4294967296) b (by omega) (by omega) (by omega) hb (by omega) (by omega)
theorem readKey_ev (s : ByteArray) (hs : s.size ≤ 4611686018427387904) : impl_ReadKey.f s = some (rkV s) := by
  unfold impl_ReadKey.f rkV
  rw [wid (x := (s.size : Int) - 8) (by omega) (by omega)]
  by_cases c : 9 ≤ s.size
  · have h1 := f4_range (s.extract (s.size - 8) s.size)
    have h2 := f4_range ((s.extract (s.size - 8) s.size).extract 4 8)
    have hn := rkN_range s
    obtain ⟨t1, t2⟩ := tf_tail2 s (by omega)
    rw [if_neg (by omega), if_pos (by omega), if_pos (by omega), show ((s.size : Int) - 8).toNat = s.size - 8 from by omega, takeFixed_ev, Option.bind_some, tf_tail s (by omega)]
    simp only []
    rw [takeFixed_ev, Option.bind_some, t1, uid (x := f4 ((s.extract (s.size - 8) s.size).extract 4 8)) (by omega) (by omega), uid (x := f4 ((s.extract (s.size - 8) s.size).extract 4 8) * 4294967296) (by omega) (by omega), uid (x := f4 (s.extract (s.size - 8) s.size)) (by omega) (by omega), or_halves _ _ h2.1 h2.2 h1.1 h1.2]
    rw [show f4 ((s.extract (s.size - 8) s.size).extract 4 8) * 4294967296 + f4 (s.extract (s.size - 8) s.size) = rkN s from rfl]
    rw [Int.tdiv_eq_ediv_of_nonneg hn.1, Int.tmod_eq_emod_of_nonneg hn.1, uid (x := rkN s / 2) (by omega) (by omega), wid (x := rkN s / 2) (by omega) (by omega), wid (x := rkN s % 2) (by omega) (by omega), keyOk_ev, Option.bind_some]
    by_cases ck : isK (s.extract 0 (s.size - 8)) (rkN s / 2) (rkN s % 2)
    · rw [if_pos (decide_eq_true ck), if_pos ⟨c, ck⟩]
    · rw [if_neg (by simpa using ck), if_neg (fun h => ck h.2)]
  · rw [if_pos (by omega), if_neg (fun h => c h.1)]
theorem sReadKey_ev (s : ByteArray) (hs : s.size ≤ 4611686018427387904) : spec_ReadKey.f s = some (rkV s) := by
  unfold spec_ReadKey.f rkV
  rw [wid (x := (s.size : Int) - 8) (by omega) (by omega)]
  by_cases c : 9 ≤ s.size
  · have h1 := f4_range (s.extract (s.size - 8) s.size)
    have h2 := f4_range ((s.extract (s.size - 8) s.size).extract 4 8)
    have hn := rkN_range s
    obtain ⟨t1, t2⟩ := tf_tail2 s (by omega)
    rw [if_neg (by omega), if_pos (by omega), if_pos (by omega), show ((s.size : Int) - 8).toNat = s.size - 8 from by omega, sTakeFixed_ev, Option.bind_some, tf_tail s (by omega)]
    simp only []
    rw [sTakeFixed_ev, Option.bind_some, t1]
    by_cases ch : f4 ((s.extract (s.size - 8) s.size).extract 4 8) ≥ 1073741824
    · rw [if_pos ch, if_neg]
      rintro ⟨_, _, h, _⟩
      unfold rkN at h
      omega
    · rw [if_neg ch, wid (x := f4 ((s.extract (s.size - 8) s.size).extract 4 8)) (by omega) (by omega), wid (x := f4 ((s.extract (s.size - 8) s.size).extract 4 8) * 4294967296) (by omega) (by omega), wid (x := f4 (s.extract (s.size - 8) s.size)) (by omega) (by omega), or_halves_i _ _ h2.1 (by omega) h1.1 h1.2]
      rw [show f4 ((s.extract (s.size - 8) s.size).extract 4 8) * 4294967296 + f4 (s.extract (s.size - 8) s.size) = rkN s from rfl]
      rw [Int.tdiv_eq_ediv_of_nonneg hn.1, Int.tmod_eq_emod_of_nonneg hn.1, wid (x := rkN s / 2) (by omega) (by omega), sKeyOk_ev, Option.bind_some]
      by_cases ck : isK (s.extract 0 (s.size - 8)) (rkN s / 2) (rkN s % 2)
      · rw [if_pos (decide_eq_true ck), if_pos ⟨c, ck⟩]
      · rw [if_neg (by simpa using ck), if_neg (fun h => ck h.2)]
  · rw [if_pos (by omega), if_neg (fun h => c h.1)]
structure Part where
  n : Int
  own : ByteArray
  value : ByteArray
  left : ByteArray
  good : Prop
def part (s : ByteArray) : Part := ⟨(tv s).1, (tt (tv s).2.1).1, (tt (tt (tv s).2.1).2.1).1, (tt (tt (tv s).2.1).2.1).2.1, (tv s).2.2 = true ∧ (tt (tv s).2.1).2.2 = true ∧ (tt (tt (tv s).2.1).2.1).2.2 = true⟩
noncomputable instance (P : Part) : Decidable P.good := Classical.propDecidable _
noncomputable def rdGo : Nat → ByteArray → List S64 → ByteArray → Option (List S64)
  | 0, left, acc, _ => if left.toList = [] then some acc else none
  | d + 1, left, acc, last => if left.toList = [] then some acc else
      if (part left).good ∧ (part left).n ≤ (last.size : Int) ∧ acc.length < 400 ∧ (rkV (last.extract 0 (part left).n.toNat ++ (part left).own)).2.2.2 = true then
        rdGo d (part left).left (acc ++ [⟨⟨(rkV (last.extract 0 (part left).n.toNat ++ (part left).own)).1, (rkV (last.extract 0 (part left).n.toNat ++ (part left).own)).2.1, (rkV (last.extract 0 (part left).n.toNat ++ (part left).own)).2.2.1⟩, (part left).value⟩]) (last.extract 0 (part left).n.toNat ++ (part left).own)
      else none
noncomputable def rdEnd (s : ByteArray) (every : Int) : Option (List S64) → List S64 × Bool
  | some acc => if (blkV acc every).2 = true ∧ (blkV acc every).1.toList = s.toList then (acc, true) else ([], false)
  | none => ([], false)
theorem part_size (s : ByteArray) : (part s).own.size ≤ 60000 ∧ (part s).left.size ≤ s.size ∧ 0 ≤ (part s).n ∧ ((part s).good → (part s).left.size < s.size) := by
  obtain ⟨r0, r1, r2, r3⟩ := tv_range s
  obtain ⟨a0, a1, a2, _⟩ := tt_range (tv s).2.1
  obtain ⟨b0, b1, b2, _⟩ := tt_range (tt (tv s).2.1).2.1
  refine ⟨a0, by show (tt (tt (tv s).2.1).2.1).2.1.size ≤ _; omega, r0, fun h => ?_⟩
  have := r3 h.1
  show (tt (tt (tv s).2.1).2.1).2.1.size < _
  omega
theorem sReadEntries_ev (s : ByteArray) (every : Int) (he0 : 0 ≤ every) (he : every < 4294967296) : ∀ (d : Nat) (left : ByteArray) (acc : List S64) (last : ByteArray), left.size ≤ d → d ≤ 2097152 → acc.length ≤ 400 → last.size ≤ 60000 * (acc.length + 1) →
    Ev (fun k => spec_ReadBlock.l0 k s every left acc last) (rdEnd s every (rdGo d left acc last)) := by
  intro d
  induction d with
  | zero =>
    intro left acc last hd hd2 ha hl
    have : left.toList = [] := by rw [ByteArray.toList_eq]; exact List.eq_nil_of_length_eq_zero (by rw [data_length]; omega)
    unfold rdGo
    rw [if_pos this]
    refine Ev.step (fun k => spec_ReadBlock.l0.eq_2 ..) ?_
    rw [wid (by omega) (by omega)]
    refine Ev.pos this (Ev.bind (sBlockOf_ev acc (by omega) every) ?_)
    by_cases c1 : (blkV acc every).2 = true
    · refine Ev.pos c1 ?_
      by_cases c2 : (blkV acc every).1.toList = s.toList
      · exact Ev.pos c2 ((Ev.now _).eqr (if_pos ⟨c1, c2⟩).symm)
      · exact Ev.neg c2 ((Ev.now _).eqr (if_neg fun h => c2 h.2).symm)
    · exact Ev.neg c1 ((Ev.now _).eqr (if_neg fun h => c1 h.1).symm)
  | succ d ih =>
    intro left acc last hd hd2 ha hl
    refine Ev.step (fun k => spec_ReadBlock.l0.eq_2 ..) ?_
    unfold rdGo
    by_cases c : left.toList = []
    · rw [if_pos c]
      rw [wid (by omega) (by omega)]
      refine Ev.pos c (Ev.bind (sBlockOf_ev acc (by omega) every) ?_)
      by_cases c1 : (blkV acc every).2 = true
      · refine Ev.pos c1 ?_
        by_cases c2 : (blkV acc every).1.toList = s.toList
        · exact Ev.pos c2 ((Ev.now _).eqr (if_pos ⟨c1, c2⟩).symm)
        · exact Ev.neg c2 ((Ev.now _).eqr (if_neg fun h => c2 h.2).symm)
      · exact Ev.neg c1 ((Ev.now _).eqr (if_neg fun h => c1 h.1).symm)
    · rw [if_neg c]
      obtain ⟨r0, r1, r2, r3⟩ := tv_range left
      obtain ⟨a0, a1, a2, _⟩ := tt_range (tv left).2.1
      obtain ⟨p1, p2, p3, p4⟩ := part_size left
      refine Ev.neg c (Ev.bind (sTakeVar_ev left (by omega)) (Ev.bind (sTakeText_ev _ (by omega)) (Ev.bind (sTakeText_ev _ (by omega)) ?_)))
      have jt : ∀ (x : ByteArray) (n : Int) (o v : ByteArray), ¬ ((part left).good ∧ (part left).n ≤ (last.size : Int) ∧ acc.length < 400 ∧ (rkV (last.extract 0 (part left).n.toNat ++ (part left).own)).2.2.2 = true) → Ev (fun k => spec_ReadBlock.j2 k s every acc last n o v x true) (rdEnd s every (if (part left).good ∧ (part left).n ≤ (last.size : Int) ∧ acc.length < 400 ∧ (rkV (last.extract 0 (part left).n.toNat ++ (part left).own)).2.2.2 = true then
        rdGo d (part left).left (acc ++ [⟨⟨(rkV (last.extract 0 (part left).n.toNat ++ (part left).own)).1, (rkV (last.extract 0 (part left).n.toNat ++ (part left).own)).2.1, (rkV (last.extract 0 (part left).n.toNat ++ (part left).own)).2.2.1⟩, (part left).value⟩]) (last.extract 0 (part left).n.toNat ++ (part left).own)
      else none)) := fun x n o v h => by
        rw [if_neg h]
        refine Ev.step (fun k => spec_ReadBlock.j2.eq_2 ..) ?_
        exact Ev.pos rfl (Ev.now _)
      by_cases c1 : (tv left).2.2 = true
      case neg => exact Ev.neg c1 (jt _ _ _ _ fun h => c1 h.1.1)
      refine Ev.pos c1 ?_
      by_cases c2 : (tt (tv left).2.1).2.2 = true
      case neg => exact Ev.neg c2 (jt _ _ _ _ fun h => c2 h.1.2.1)
      refine Ev.pos c2 ?_
      by_cases c3 : (tt (tt (tv left).2.1).2.1).2.2 = true
      case neg => exact Ev.neg c3 (jt _ _ _ _ fun h => c3 h.1.2.2)
      refine Ev.pos c3 ?_
      have hlast : last.size ≤ 60000 * 401 := by omega
      rw [uid (x := (last.size : Int)) (by omega) (by omega)]
      have hg : (part left).good := ⟨c1, c2, c3⟩
      show Ev (fun k => spec_ReadBlock.j2 k s every acc last (part left).n (part left).own (part left).value (part left).left (decide ((part left).n > (last.size : Int)))) _
      have pl := p4 hg
      clear r0 r1 r2 r3 a0 a1 a2 c1 c2 c3
      generalize part left = P at *
      by_cases c4 : P.n > (last.size : Int)
      · rw [decide_eq_true c4]
        exact jt _ _ _ _ fun h => by omega
      · rw [decide_eq_false c4]
        have hz : (last.extract 0 P.n.toNat ++ P.own).size = P.n.toNat + P.own.size := by rw [ByteArray.size_append, ByteArray.size_extract]; omega
        refine Ev.step (fun k => spec_ReadBlock.j2.eq_2 ..) ?_
        refine Ev.neg (by decide) (Ev.pos p3 (Ev.pos (by omega) (Ev.pos (by omega) (Ev.bindS (sReadKey_ev _ (by omega)) ?_))))
        by_cases c5 : (rkV (last.extract 0 P.n.toNat ++ P.own)).2.2.2 = true
        · refine Ev.pos c5 ?_
          by_cases c6 : (acc.length : Int) ≥ 400
          · exact Ev.pos c6 ((Ev.now _).eqr (by rw [if_neg (fun h => by omega)]; rfl))
          · refine Ev.neg c6 (Ev.pos (by omega) ?_)
            refine Ev.eqr ?_ (congrArg (rdEnd s every) (if_pos ⟨hg, by omega, by omega, c5⟩).symm)
            refine ih _ _ _ (by omega) (by omega) ?_ ?_
            · rw [List.length_append]; simp only [List.length_cons, List.length_nil]; omega
            · rw [List.length_append]; simp only [List.length_cons, List.length_nil]; omega
        · exact Ev.neg c5 ((Ev.now _).eqr (by rw [if_neg (fun h => c5 h.2.2.2)]; rfl))
theorem takerFixed_ev (s : ByteArray) (b : Bool) (h : 4 ≤ s.size) : impl_taker_fixed.f s b = some (f4 s, s.extract 4 s.size, b) := by
  have hr := f4_range s
  unfold impl_taker_fixed.f
  rw [takeFixed_ev]
  unfold tf
  rw [if_neg (by omega), Option.bind_some]
  simp only [if_true]
  rw [wid (by omega) (by omega)]
theorem readEntries_ev (s : ByteArray) (every : Int) (he0 : 0 ≤ every) (he : every < 4294967296) : ∀ (d : Nat) (left : ByteArray) (acc : List S64) (last : ByteArray), left.size ≤ d → d ≤ 2097152 → acc.length ≤ 400 → last.size ≤ 60000 * (acc.length + 1) →
    Ev (fun k => impl_ReadBlock.l0 k s every acc last left false) (rdEnd s every (rdGo d left acc last)) := by
  intro d
  induction d with
  | zero =>
    intro left acc last hd hd2 ha hl
    have : left.toList = [] := by rw [ByteArray.toList_eq]; exact List.eq_nil_of_length_eq_zero (by rw [data_length]; omega)
    unfold rdGo
    rw [if_pos this]
    refine Ev.step (fun k => impl_ReadBlock.l0.eq_2 ..) ?_
    refine Ev.pos this (Ev.bind (blockOf_ev acc (by omega) every) ?_)
    by_cases c1 : (blkV acc every).2 = true
    · refine Ev.pos c1 ?_
      by_cases c2 : (blkV acc every).1.toList = s.toList
      · exact Ev.pos c2 ((Ev.now _).eqr (if_pos ⟨c1, c2⟩).symm)
      · exact Ev.neg c2 ((Ev.now _).eqr (if_neg fun h => c2 h.2).symm)
    · exact Ev.neg c1 ((Ev.now _).eqr (if_neg fun h => c1 h.1).symm)
  | succ d ih =>
    intro left acc last hd hd2 ha hl
    refine Ev.step (fun k => impl_ReadBlock.l0.eq_2 ..) ?_
    unfold rdGo
    by_cases c : left.toList = []
    · rw [if_pos c]
      refine Ev.pos c (Ev.bind (blockOf_ev acc (by omega) every) ?_)
      by_cases c1 : (blkV acc every).2 = true
      · refine Ev.pos c1 ?_
        by_cases c2 : (blkV acc every).1.toList = s.toList
        · exact Ev.pos c2 ((Ev.now _).eqr (if_pos ⟨c1, c2⟩).symm)
        · exact Ev.neg c2 ((Ev.now _).eqr (if_neg fun h => c2 h.2).symm)
      · exact Ev.neg c1 ((Ev.now _).eqr (if_neg fun h => c1 h.1).symm)
    · rw [if_neg c]
      obtain ⟨p1, p2, p3, p4⟩ := part_size left
      have z1 := numT_size left false
      have z2 := (txtT_size (numT left false).2.1 (numT left false).2.2).1
      have hlast : last.size ≤ 60000 * 401 := by omega
      have jt : ∀ (x : ByteArray) (n : Int) (o v : ByteArray) (b : Bool), ¬ ((part left).good ∧ (part left).n ≤ (last.size : Int) ∧ acc.length < 400 ∧ (rkV (last.extract 0 (part left).n.toNat ++ (part left).own)).2.2.2 = true) → Ev (fun k => impl_ReadBlock.j2 k s every acc last n o v true x b) (rdEnd s every (if (part left).good ∧ (part left).n ≤ (last.size : Int) ∧ acc.length < 400 ∧ (rkV (last.extract 0 (part left).n.toNat ++ (part left).own)).2.2.2 = true then
        rdGo d (part left).left (acc ++ [⟨⟨(rkV (last.extract 0 (part left).n.toNat ++ (part left).own)).1, (rkV (last.extract 0 (part left).n.toNat ++ (part left).own)).2.1, (rkV (last.extract 0 (part left).n.toNat ++ (part left).own)).2.2.1⟩, (part left).value⟩]) (last.extract 0 (part left).n.toNat ++ (part left).own)
      else none)) := fun x n o v b h => by
        rw [if_neg h]
        refine Ev.step (fun k => impl_ReadBlock.j2.eq_2 ..) ?_
        exact Ev.pos rfl (Ev.now _)
      refine Ev.neg c (Ev.bind (number_taken left false (by omega)) (Ev.bind (text_taken _ _ (by omega)) (Ev.bind (text_taken _ _ (by omega)) ?_)))
      by_cases c1 : (tv left).2.2 = true ∧ (tv left).1 ≤ 4611686018427387904
      case neg =>
        refine Ev.pos ?_ (jt _ _ _ _ _ fun h => c1 ⟨h.1.1, ?_⟩)
        · rw [numT_not c1]
          simp only []
          rw [txtT_bad, txtT_bad]
        · have := h.2.1
          show (part left).n ≤ _
          omega
      rw [numT_good c1.1 c1.2]
      simp only []
      by_cases c2 : (tt (tv left).2.1).2.2 = true
      case neg =>
        refine Ev.pos ?_ (jt _ _ _ _ _ fun h => c2 h.1.2.1)
        rw [txtT_not c2]
        simp only []
        rw [txtT_bad]
      rw [txtT_good c2]
      simp only []
      by_cases c3 : (tt (tt (tv left).2.1).2.1).2.2 = true
      case neg =>
        refine Ev.pos ?_ (jt _ _ _ _ _ fun h => c3 h.1.2.2)
        rw [txtT_not c3]
      rw [txtT_good c3]
      simp only []
      refine Ev.neg (by simp) ?_
      have hg : (part left).good := ⟨c1.1, c2, c3⟩
      show Ev (fun k => if (part left).n > (last.size : Int) then impl_ReadBlock.j2 k s every acc last (part left).n (part left).own (part left).value true (part left).left false else impl_ReadBlock.j2 k s every acc last (part left).n (part left).own (part left).value ((acc.length : Int) == 400) (part left).left false) _
      have pl := p4 hg
      clear z1 z2 c1 c2 c3
      generalize part left = P at *
      by_cases c4 : P.n > (last.size : Int)
      · exact Ev.pos c4 (jt _ _ _ _ _ fun h => by omega)
      · refine Ev.neg c4 ?_
        have hz : (last.extract 0 P.n.toNat ++ P.own).size = P.n.toNat + P.own.size := by rw [ByteArray.size_append, ByteArray.size_extract]; omega
        by_cases c6 : acc.length = 400
        · rw [show ((acc.length : Int) == 400) = true from by simp; omega]
          exact jt _ _ _ _ _ fun h => by omega
        · rw [show ((acc.length : Int) == 400) = false from by simp; omega]
          refine Ev.step (fun k => impl_ReadBlock.j2.eq_2 ..) ?_
          refine Ev.neg (by decide) (Ev.pos p3 (Ev.pos (by omega) (Ev.pos (by omega) (Ev.bindS (readKey_ev _ (by omega)) ?_))))
          by_cases c5 : (rkV (last.extract 0 P.n.toNat ++ P.own)).2.2.2 = true
          · refine Ev.pos c5 (Ev.pos (by omega) ?_)
            refine Ev.eqr ?_ (congrArg (rdEnd s every) (if_pos ⟨hg, by omega, by omega, c5⟩).symm)
            refine ih _ _ _ (by omega) (by omega) ?_ ?_
            · rw [List.length_append]; simp only [List.length_cons, List.length_nil]; omega
            · rw [List.length_append]; simp only [List.length_cons, List.length_nil]; omega
          · exact Ev.neg c5 ((Ev.now _).eqr (by rw [if_neg (fun h => c5 h.2.2.2)]; rfl))
noncomputable def rbkV (s : ByteArray) : List S64 × Bool :=
  if 8 ≤ s.size ∧ s.size ≤ 60000 ∧ 4 * f4 (s.extract (s.size - 8) s.size) ≤ (s.size : Int) - 8 then
    rdEnd s (f4 ((s.extract (s.size - 8) s.size).extract 4 8)) (rdGo (s.size - 8 - 4 * (f4 (s.extract (s.size - 8) s.size)).toNat) (s.extract 0 (s.size - 8 - 4 * (f4 (s.extract (s.size - 8) s.size)).toNat)) [] ⟨#[]⟩)
  else ([], false)
theorem readBlock_ev (s : ByteArray) (hs : s.size ≤ 2097152) : Ev (fun k => impl_ReadBlock.f k s) (rbkV s) := by
  have jt : ¬ (8 ≤ s.size ∧ s.size ≤ 60000) → Ev (fun k => impl_ReadBlock.j0 k s true) (rbkV s) := fun h => by
    refine Ev.step (fun k => impl_ReadBlock.j0.eq_2 ..) ?_
    exact Ev.pos rfl ((Ev.now _).eqr (if_neg fun c => h ⟨c.1, c.2.1⟩).symm)
  unfold impl_ReadBlock.f
  by_cases c1 : (s.size : Int) < 8
  · exact Ev.pos c1 (jt fun h => by omega)
  · refine Ev.neg c1 ?_
    by_cases c2 : (s.size : Int) > 60000
    · rw [decide_eq_true c2]
      exact jt fun h => by omega
    · rw [decide_eq_false c2]
      have h1 := f4_range (s.extract (s.size - 8) s.size)
      have h2 := f4_range ((s.extract (s.size - 8) s.size).extract 4 8)
      have t8 := tail_size s (by omega)
      have t4 : ((s.extract (s.size - 8) s.size).extract 4 8).size = 4 := by rw [ByteArray.size_extract, t8]; omega
      obtain ⟨t1, t2⟩ := tf_tail2 s (by omega)
      refine Ev.step (fun k => impl_ReadBlock.j0.eq_2 ..) ?_
      rw [wid (x := (s.size : Int) - 8) (by omega) (by omega), show ((s.size : Int) - 8).toNat = s.size - 8 from by omega]
      refine Ev.neg (by decide) (Ev.pos (by omega) (Ev.pos (by omega) ?_))
      refine Ev.bindS (takerFixed_ev _ _ (by omega)) ?_
      rw [t8]
      simp only []
      refine Ev.bindS (takerFixed_ev _ _ (by omega)) ?_
      simp only []
      rw [wid (x := 4 * f4 (s.extract (s.size - 8) s.size)) (by omega) (by omega), wid (x := (s.size : Int) - 8 - 4 * f4 (s.extract (s.size - 8) s.size)) (by omega) (by omega)]
      by_cases c3 : (s.size : Int) - 8 - 4 * f4 (s.extract (s.size - 8) s.size) < 0
      · exact Ev.pos c3 ((Ev.now _).eqr (if_neg fun h => by omega).symm)
      · refine Ev.neg c3 ?_
        rw [show ((s.size : Int) - 8 - 4 * f4 (s.extract (s.size - 8) s.size)).toNat = s.size - 8 - 4 * (f4 (s.extract (s.size - 8) s.size)).toNat from by omega]
        refine Ev.pos (by omega) (Ev.pos (by omega) ?_)
        exact (readEntries_ev s _ h2.1 h2.2 _ _ [] ⟨#[]⟩ (by rw [ByteArray.size_extract]; omega) (by omega) (by simp) (by simp [empty_size])).eqr (if_pos ⟨by omega, by omega, by omega⟩).symm
theorem sReadBlock_ev (s : ByteArray) (hs : s.size ≤ 2097152) : Ev (fun k => spec_ReadBlock.f k s) (rbkV s) := by
  have jt : ¬ (8 ≤ s.size ∧ s.size ≤ 60000) → Ev (fun k => spec_ReadBlock.j0 k s true) (rbkV s) := fun h => by
    refine Ev.step (fun k => spec_ReadBlock.j0.eq_2 ..) ?_
    exact Ev.pos rfl ((Ev.now _).eqr (if_neg fun c => h ⟨c.1, c.2.1⟩).symm)
  unfold spec_ReadBlock.f
  by_cases c1 : (s.size : Int) < 8
  · exact Ev.pos c1 (jt fun h => by omega)
  · refine Ev.neg c1 ?_
    by_cases c2 : (s.size : Int) > 60000
    · rw [decide_eq_true c2]
      exact jt fun h => by omega
    · rw [decide_eq_false c2]
      have h1 := f4_range (s.extract (s.size - 8) s.size)
      have h2 := f4_range ((s.extract (s.size - 8) s.size).extract 4 8)
      have t8 := tail_size s (by omega)
      have t4 : ((s.extract (s.size - 8) s.size).extract 4 8).size = 4 := by rw [ByteArray.size_extract, t8]; omega
      obtain ⟨t1, t2⟩ := tf_tail2 s (by omega)
      refine Ev.step (fun k => spec_ReadBlock.j0.eq_2 ..) ?_
      rw [wid (x := (s.size : Int) - 8) (by omega) (by omega), show ((s.size : Int) - 8).toNat = s.size - 8 from by omega]
      refine Ev.neg (by decide) (Ev.pos (by omega) (Ev.pos (by omega) ?_))
      refine Ev.bindS (sTakeFixed_ev _) ?_
      rw [tf_tail s (by omega)]
      refine Ev.bindS (sTakeFixed_ev _) ?_
      rw [t1]
      simp only []
      rw [wid (x := f4 (s.extract (s.size - 8) s.size)) (by omega) (by omega), Int.tdiv_eq_ediv_of_nonneg (by omega), wid (x := ((s.size : Int) - 8) / 4) (by omega) (by omega)]
      by_cases c3 : f4 (s.extract (s.size - 8) s.size) > ((s.size : Int) - 8) / 4
      · exact Ev.pos c3 ((Ev.now _).eqr (if_neg fun h => by omega).symm)
      · refine Ev.neg c3 ?_
        rw [wid (x := 4 * f4 (s.extract (s.size - 8) s.size)) (by omega) (by omega), wid (x := (s.size : Int) - 8 - 4 * f4 (s.extract (s.size - 8) s.size)) (by omega) (by omega), show ((s.size : Int) - 8 - 4 * f4 (s.extract (s.size - 8) s.size)).toNat = s.size - 8 - 4 * (f4 (s.extract (s.size - 8) s.size)).toNat from by omega]
        refine Ev.pos (by omega) (Ev.pos (by omega) ?_)
        exact (sReadEntries_ev s _ h2.1 h2.2 _ _ [] ⟨#[]⟩ (by rw [ByteArray.size_extract]; omega) (by omega) (by simp) (by simp [empty_size])).eqr (if_pos ⟨by omega, by omega, by omega⟩).symm
end Go.Proofs.Ytidjdkodgddfcaa.Pure
end

section
namespace Go.Proofs.Ytidjdkodgddfcaa.Pure
open Go.RowKit Go.Proofs.YtidjdkodgddfcaaW.PrintWords Go.Proofs.YtidjdkodgddfcaaW.PrintLast Go.Proofs.YtidjdkodgddfcaaW.PrintMore
open Go.Proofs.Ytidjdkodgddfcaa.P
set_option linter.unusedVariables false
set_option linter.unusedSimpArgs false
theorem rdGo_len : ∀ (d : Nat) (left : ByteArray) (acc : List S64) (last : ByteArray) (r : List S64), acc.length ≤ 400 → rdGo d left acc last = some r → r.length ≤ 400 := by
  intro d
  induction d with
  | zero =>
    intro left acc last r ha h
    unfold rdGo at h
    split at h
    · injection h with h; rw [← h]; exact ha
    · cases h
  | succ d ih =>
    intro left acc last r ha h
    unfold rdGo at h
    split at h
    · injection h with h; rw [← h]; exact ha
    · split at h
      · rename_i c
        refine ih _ _ _ _ ?_ h
        rw [List.length_append]
        simp only [List.length_cons, List.length_nil]
        omega
      · cases h
theorem rbkV_len (s : ByteArray) : (rbkV s).1.length ≤ 400 := by
  unfold rbkV
  split
  · generalize hg : rdGo _ _ _ _ = o
    cases o with
    | none => simp [rdEnd]
    | some r =>
      have := rdGo_len _ _ _ _ _ (by simp) hg
      unfold rdEnd
      simp only []
      split
      · exact this
      · simp
  · simp
end Go.Proofs.Ytidjdkodgddfcaa.Pure
end

section
namespace Go.Proofs.Ytidjdkodgddfcaa.Pure
open Go.RowKit Go.Proofs.YtidjdkodgddfcaaW.PrintWords Go.Proofs.YtidjdkodgddfcaaW.PrintLast Go.Proofs.YtidjdkodgddfcaaW.PrintMore
open Go.Proofs.Ytidjdkodgddfcaa.P
set_option linter.unusedVariables false
set_option linter.unusedSimpArgs false
noncomputable def bskV (s : ByteArray) (u : ByteArray) (q d : Int) : Int × Bool := if (rbkV s).2 = true ∧ isK u q d then (seekV (rbkV s).1 u q d, true) else (0, false)
theorem blockSeek_ev (s : ByteArray) (hs : s.size ≤ 2097152) (u : ByteArray) (q d : Int) : Ev (fun k => impl_BlockSeek.f k s u q d) (bskV s u q d) := by
  unfold impl_BlockSeek.f bskV
  have hl := rbkV_len s
  refine Ev.bind (readBlock_ev s hs) ?_
  by_cases c : (rbkV s).2 = true
  case neg => exact Ev.neg c ((Ev.now _).eqr (if_neg (fun h => c h.1)).symm)
  refine Ev.pos c (Ev.bindS (keyOk_ev u q d) ?_)
  by_cases c2 : isK u q d
  case neg => exact Ev.neg (by simp [c2]) ((Ev.now _).eqr (if_neg (fun h => c2 h.2)).symm)
  exact Ev.pos (decide_eq_true c2) (Ev.bind (seek_ev _ (by omega) u q d) ((Ev.now _).eqr (if_pos ⟨c, c2⟩).symm))
theorem sBlockSeek_ev (s : ByteArray) (hs : s.size ≤ 2097152) (u : ByteArray) (q d : Int) : Ev (fun k => spec_BlockSeek.f k s u q d) (bskV s u q d) := by
  unfold spec_BlockSeek.f bskV
  have hl := rbkV_len s
  refine Ev.bind (sReadBlock_ev s hs) ?_
  by_cases c : (rbkV s).2 = true
  case neg => exact Ev.neg c ((Ev.now _).eqr (if_neg (fun h => c h.1)).symm)
  refine Ev.pos c (Ev.bindS (sKeyOk_ev u q d) ?_)
  by_cases c2 : isK u q d
  case neg => exact Ev.neg (by simp [c2]) ((Ev.now _).eqr (if_neg (fun h => c2 h.2)).symm)
  exact Ev.pos (decide_eq_true c2) (Ev.bind (sSeek_ev _ (by omega) u q d) ((Ev.now _).eqr (if_pos ⟨c, c2⟩).symm))
end Go.Proofs.Ytidjdkodgddfcaa.Pure
end

section
namespace Go.Proofs.Ytidjdkodgddfcaa.Pure
open Go.RowKit Go.Proofs.YtidjdkodgddfcaaW.PrintWords Go.Proofs.YtidjdkodgddfcaaW.PrintLast Go.Proofs.YtidjdkodgddfcaaW.PrintMore
open Go.Proofs.Ytidjdkodgddfcaa.P
set_option linter.unusedVariables false
set_option linter.unusedSimpArgs false
theorem FnExactBlockSeek : ∀ (a0 : ByteArray) (a1_0 : ByteArray) (a1_1 : Int) (a1_2 : Int), a0.size ≤ 9223372036854775807 → a1_0.size ≤ 9223372036854775807 → (-9223372036854775808 ≤ a1_1 ∧ a1_1 ≤ 9223372036854775807) → (-9223372036854775808 ≤ a1_2 ∧ a1_2 ≤ 9223372036854775807) → Ev (fun k => laws_FnExactBlockSeek.f k a0 a1_0 a1_1 a1_2) true := by
  intro s u q d hs hu _ _
  unfold laws_FnExactBlockSeek.f
  by_cases c : (s.size : Int) > 1048576
  · exact Ev.pos c (Ev.now _)
  refine Ev.neg c ?_
  by_cases c2 : wrap64 (1048576 - (u.size : Int)) < 0
  · exact Ev.bindS (a := -1) (if_pos c2) (Ev.pos (by omega) (Ev.now _))
  refine Ev.bindS (a := wrap64 (1048576 - (u.size : Int))) (if_neg c2) (Ev.neg (by omega) (Ev.bindS rfl ?_))
  exact Ev.bind (sBlockSeek_ev s (by omega) u q d) (Ev.bindS rfl (Ev.bind (blockSeek_ev s (by omega) u q d) (Ev.pos rfl (Ev.neg (by simp) (Ev.now _)))))
end Go.Proofs.Ytidjdkodgddfcaa.Pure
end
