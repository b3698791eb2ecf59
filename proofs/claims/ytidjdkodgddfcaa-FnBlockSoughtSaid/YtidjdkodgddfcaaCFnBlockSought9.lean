/- Proved: the law FnBlockSought of the given program returns true for every input of its Go types and leaves each argument as it was; no condition. (Part 10 of 12.) -/
import Derived.Test.YtidjdkodgddfcaaCFnBlockSought4
import Derived.Test.YtidjdkodgddfcaaCFnBlockSought6
import Derived.Lib.EndianBits
import Derived.Test.YtidjdkodgddfcaaCFnBlockSought7
import Derived.Test.YtidjdkodgddfcaaCFnBlockSought8
import Derived.Test.YtidjdkodgddfcaaCFnBlockSought5
section
namespace Go.Proofs.Ytidjdkodgddfcaa.P
open Go.RowKit Go.Proofs.YtidjdkodgddfcaaW.PrintWords Go.Proofs.YtidjdkodgddfcaaW.PrintLast Go.Proofs.YtidjdkodgddfcaaW.PrintMore
attribute [local go_sem] qh1 qg1 qi1 qf1 qd1 qk1 qj1 qy qx qe1 qc1
set_option linter.unusedVariables false
set_option linter.unusedSimpArgs false
def pvl (n : Nat) : List Int := if n < 128 then [(n : Int)] else ((n % 128 + 128 : Nat) : Int) :: pvl (n / 128)
termination_by n
decreasing_by omega
def pv (n : Nat) : ByteArray := strOfNums (pvl n)
theorem pvl_small {n : Nat} (h : n < 128) : pvl n = [(n : Int)] := by rw [pvl, if_pos h]
theorem pvl_big {n : Nat} (h : ¬ n < 128) : pvl n = ((n % 128 + 128 : Nat) : Int) :: pvl (n / 128) := by rw [pvl, if_neg h]
theorem pvl_len (d : Nat) : ∀ n, n < 128 ^ (d + 1) → 1 ≤ (pvl n).length ∧ (pvl n).length ≤ d + 1 := by
  induction d with
  | zero =>
    intro n h
    rw [pvl_small (by simpa using h)]
    simp
  | succ d ih =>
    intro n h
    by_cases c : n < 128
    · rw [pvl_small c]
      simp
    · rw [pvl_big c, List.length_cons]
      have := ih (n / 128) (Nat.div_lt_of_lt_mul (by rw [Nat.pow_succ, Nat.mul_comm] at h; exact h))
      omega
theorem pv_size {n : Nat} (h : n < 18446744073709551616) : 1 ≤ (pv n).size ∧ (pv n).size ≤ 10 := by
  have e : (pv n).size = (pvl n).length := by unfold pv strOfNums; simp [ByteArray.size]
  rw [e]
  exact pvl_len 9 n (by omega)
theorem or128 : ∀ x : Fin 256, Go.bits .or .u8 ((x.val : Nat) : Int) 128 = ((x.val % 128 + 128 : Nat) : Int) := by decide +kernel
theorem and127 : ∀ x : Fin 256, Go.bits .and .u8 ((x.val : Nat) : Int) 127 = ((x.val % 128 : Nat) : Int) := by decide +kernel
theorem putVar_ev (n : Nat) (h : n < 18446744073709551616) : Ev (fun k => impl_PutVar.f k (n : Int)) (pv n) := by
  have key : ∀ (d n : Nat) (acc : List Int), n < 128 ^ (d + 1) → acc.length + d ≤ 100 → Ev (fun k => impl_PutVar.l0 k (n : Int) acc) (strOfNums (acc ++ pvl n)) := by
    intro d
    induction d with
    | zero =>
      intro n acc hn ha
      have hn' : n < 128 := by simpa using hn
      rw [pvl_small hn']
      refine Ev.step (fun k => rfl) (Ev.neg (by omega) (Ev.pos (by omega) ?_))
      rw [Int.emod_eq_of_lt (by omega) (by omega)]
      exact Ev.now _
    | succ d ih =>
      intro n acc hn ha
      by_cases c : n < 128
      · rw [pvl_small c]
        refine Ev.step (fun k => rfl) (Ev.neg (by omega) (Ev.pos (by omega) ?_))
        rw [Int.emod_eq_of_lt (by omega) (by omega)]
        exact Ev.now _
      · rw [pvl_big c]
        refine Ev.step (fun k => rfl) (Ev.pos (by omega) (Ev.pos (by omega) ?_))
        have e : Go.bits .or .u8 ((n : Int) % 256) 128 = ((n % 128 + 128 : Nat) : Int) := by
          have := or128 ⟨n % 256, by omega⟩
          simp only at this
          rw [show ((n : Int) % 256) = ((n % 256 : Nat) : Int) from by omega, this]
          omega
        rw [e, show ((n : Int) / 128) = ((n / 128 : Nat) : Int) from by omega]
        refine (ih (n / 128) _ (Nat.div_lt_of_lt_mul (by rw [Nat.pow_succ, Nat.mul_comm] at hn; exact hn)) (by rw [List.length_append]; simp; omega)).eqr ?_
        rw [List.append_assoc]
        rfl
  have := key 9 n [] (by omega) (by simp)
  rw [List.nil_append] at this
  exact this
theorem sPutVar_ev (n : Nat) (h : n < 18446744073709551616) : Ev (fun k => spec_PutVar.f k (n : Int)) (pv n) := by
  have key : ∀ (d n : Nat) (acc : List Int), n < 18446744073709551616 → n < 128 ^ (d + 1) → acc.length + d ≤ 100 → Ev (fun k => spec_PutVar.l0 k (n : Int) acc) (strOfNums (acc ++ pvl n)) := by
    intro d
    induction d with
    | zero =>
      intro n acc h hn ha
      have hn' : n < 128 := by simpa using hn
      rw [pvl_small hn']
      refine Ev.step (fun k => rfl) (Ev.neg (by omega) (Ev.pos (by omega) ?_))
      rw [Int.emod_eq_of_lt (by omega) (by omega)]
      exact Ev.now _
    | succ d ih =>
      intro n acc h hn ha
      by_cases c : n < 128
      · rw [pvl_small c]
        refine Ev.step (fun k => rfl) (Ev.neg (by omega) (Ev.pos (by omega) ?_))
        rw [Int.emod_eq_of_lt (by omega) (by omega)]
        exact Ev.now _
      · rw [pvl_big c]
        refine Ev.step (fun k => rfl) (Ev.pos (by omega) (Ev.pos (by omega) ?_))
        have e : (IntKind.u64.wrap ((Int.tmod (n : Int) 128) + 128)) % 256 = ((n % 128 + 128 : Nat) : Int) := by
          rw [Int.tmod_eq_emod_of_nonneg (by omega), uid (by omega) (by omega)]
          omega
        have e2 : IntKind.u64.wrap (Int.tdiv (n : Int) 128) = ((n / 128 : Nat) : Int) := by
          rw [Int.tdiv_eq_ediv_of_nonneg (by omega), uid (by omega) (by omega)]
          omega
        rw [e, e2]
        refine (ih (n / 128) _ (by omega) (Nat.div_lt_of_lt_mul (by rw [Nat.pow_succ, Nat.mul_comm] at hn; exact hn)) (by rw [List.length_append]; simp; omega)).eqr ?_
        rw [List.append_assoc]
        rfl
  have := key 9 n [] h (by omega) (by simp)
  rw [List.nil_append] at this
  exact this
theorem putInt_ev (n : Nat) (h : n < 9223372036854775808) : Ev (fun k => impl_putInt.f k (n : Int)) (pv n) := by
  unfold impl_putInt.f
  rw [uid (by omega) (by omega)]
  exact Ev.bind (putVar_ev n (by omega)) (Ev.now _)
def pt (s : ByteArray) : ByteArray := pv s.size ++ s
theorem putText_ev (t : ByteArray) (h : t.size ≤ 4611686018427387904) : Ev (fun k => impl_PutText.f k t) (pt t) := by
  unfold impl_PutText.f
  rw [uid (by omega) (by omega)]
  have := (pv_size (n := t.size) (by omega)).2
  exact Ev.bind (putVar_ev t.size (by omega)) (Ev.pos (by omega) (Ev.now _))
theorem sPutText_ev (t : ByteArray) (h : t.size ≤ 4611686018427387904) : Ev (fun k => spec_PutText.f k t) (pt t) := by
  unfold spec_PutText.f
  rw [uid (by omega) (by omega)]
  have := (pv_size (n := t.size) (by omega)).2
  exact Ev.bind (sPutVar_ev t.size (by omega)) (Ev.pos (by omega) (Ev.now _))
theorem pt_size (t : ByteArray) (h : t.size ≤ 4611686018427387904) : t.size + 1 ≤ (pt t).size ∧ (pt t).size ≤ t.size + 10 := by
  have := pv_size (n := t.size) (by omega)
  unfold pt
  rw [ByteArray.size_append]
  omega
def tvGo (s : ByteArray) : Nat → Nat → Int → Int × ByteArray × Bool
  | 0, _, _ => (0, ⟨#[]⟩, false)
  | d + 1, i, acc => if i < s.size then
      (if i = 9 ∧ 1 < bt s i then (0, ⟨#[]⟩, false)
      else if bt s i < 128 then (if 0 < i ∧ bt s i = 0 then (0, ⟨#[]⟩, false) else (acc + bt s i * 128 ^ i, s.extract (i + 1) s.size, true))
      else tvGo s d (i + 1) (acc + (bt s i - 128) * 128 ^ i))
    else (0, ⟨#[]⟩, false)
def tv (s : ByteArray) : Int × ByteArray × Bool := tvGo s 10 0 0
theorem or_step (i : Nat) (hi : i < 10) (acc b : Int) (h0 : 0 ≤ acc) (h1 : acc < 128 ^ i) (b0 : 0 ≤ b) (b1 : b < 128) (b2 : i = 9 → b < 2) :
    Go.bits .or .u64 acc (shl .u64 b (7 * (i : Int))) = acc + b * 128 ^ i := by
  have hp : (128 : Int) ^ i = 2 ^ (7 * i) := by rw [Int.pow_mul]; rfl
  have hpos : (0 : Int) < 128 ^ i := Int.pow_pos (by decide)
  have hlt : b * 128 ^ i < 2 ^ 64 := by
    by_cases c : i = 9
    · subst c
      have := b2 rfl
      have : b * 128 ^ 9 ≤ 1 * 128 ^ 9 := Int.mul_le_mul_of_nonneg_right (by omega) (by decide)
      omega
    · have h8 : (128 : Int) ^ i ≤ 128 ^ 8 := by
        have : (128 : Nat) ^ i ≤ 128 ^ 8 := Nat.pow_le_pow_right (by decide) (by omega)
        exact_mod_cast this
      have : b * 128 ^ i ≤ 127 * 128 ^ 8 := Int.mul_le_mul (by omega) h8 (by omega) (by decide)
      omega
  have hnn : 0 ≤ b * 128 ^ i := Int.mul_nonneg b0 (by omega)
  have hs : shl .u64 b (7 * (i : Int)) = b * 128 ^ i := by
    unfold shl
    rw [show min (7 * (i : Int)).toNat IntKind.u64.bits = 7 * i from by simp only [IntKind.bits]; omega, ← hp]
    exact wraps_u64 _ hnn hlt
  rw [hs]
  refine bits_join_low .u64 64 (by decide) wraps_u64 (7 * i) acc _ h0 (by rw [← hp]; exact h1) ?_ hnn (by rw [← hp]; exact Int.mul_emod_left _ _) hlt
  have : (128 : Int) ^ i ≤ 128 ^ 9 := by
    have : (128 : Nat) ^ i ≤ 128 ^ 9 := Nat.pow_le_pow_right (by decide) (by omega)
    exact_mod_cast this
  omega
theorem wrap7 (i : Nat) (h : i < 1000) : wrap64 (7 * (i : Int)) = 7 * (i : Int) := wid (by omega) (by omega)
theorem and127' (b : Int) (h0 : 0 ≤ b) (h1 : b ≤ 255) : Go.bits .and .u8 b 127 = b % 128 := by
  have := and127 ⟨b.toNat, by omega⟩
  simp only at this
  rw [show b = ((b.toNat : Nat) : Int) from by omega, this]
  omega
theorem sTakeVar_ev (s : ByteArray) (hs : s.size ≤ 4611686018427387904) : Ev (fun k => spec_TakeVar.f k s) (tv s) := by
  have key : ∀ (d i : Nat) (acc : Int), i + d = 10 → 0 ≤ acc → acc < 128 ^ i → Ev (fun k => spec_TakeVar.l0 k s acc (i : Int)) (tvGo s d i acc) := by
    intro d
    induction d with
    | zero =>
      intro i acc hi _ _
      obtain rfl : i = 10 := by omega
      refine Ev.step (fun k => spec_TakeVar.l0.eq_2 ..) ?_
      by_cases c : ((10 : Nat) : Int) < (s.size : Int)
      · refine Ev.pos c (Ev.step (fun k => spec_TakeVar.j1.eq_2 ..) ?_)
        exact Ev.neg (by decide) (Ev.now _)
      · refine Ev.neg c (Ev.step (fun k => spec_TakeVar.j1.eq_2 ..) ?_)
        exact Ev.neg (by decide) (Ev.now _)
    | succ d ih =>
      intro i acc hi h0 h1
      unfold tvGo
      by_cases c : i < s.size
      · refine Ev.eqr ?_ (if_pos c).symm
        obtain ⟨r0, r1⟩ := bt_range s (i : Int)
        have hg : (IntKind.u64.wrap (Int.tmod (bt s (i : Int)) 128)) = bt s (i : Int) % 128 := by
          rw [Int.tmod_eq_emod_of_nonneg r0, uid (by omega) (by omega)]
        have hw7 : IntKind.u64.wrap (wrap64 (7 * (i : Int))) = 7 * (i : Int) := by rw [wrap7 i (by omega), uid (by omega) (by omega)]
        have hsucc : wrap64 ((i : Int) + 1) = ((i + 1 : Nat) : Int) := wsucc (by omega)
        have hn : (((i + 1 : Nat) : Int)).toNat = i + 1 := Int.toNat_natCast _
        have hpow : (128 : Int) ^ (i + 1) = 128 ^ i * 128 := Int.pow_succ 128 i
        have hpos : (0 : Int) < 128 ^ i := Int.pow_pos (by decide)
        refine Ev.step (fun k => spec_TakeVar.l0.eq_2 ..) (Ev.pos (by omega) ?_)
        refine Ev.step (fun k => spec_TakeVar.j1.eq_2 ..) ?_
        refine Ev.pos (decide_eq_true (by omega)) (Ev.pos (by omega) (Ev.pos (by omega) ?_))
        rw [hg]
        have main : (i = 9 → bt s (i : Int) % 128 < 2) → Ev (fun k => spec_TakeVar.j2 k s acc (i : Int) (bt s (i : Int) % 128) false) (if bt s (i : Int) < 128 then (if 0 < i ∧ bt s (i : Int) = 0 then ((0 : Int), (⟨#[]⟩ : ByteArray), false) else (acc + bt s (i : Int) * 128 ^ i, s.extract (i + 1) s.size, true)) else tvGo s d (i + 1) (acc + (bt s (i : Int) - 128) * 128 ^ i)) := by
          intro h9
          have hor := or_step i (by omega) acc (bt s (i : Int) % 128) h0 h1 (by omega) (by omega) (by omega)
          refine Ev.step (fun k => spec_TakeVar.j2.eq_2 ..) (Ev.neg (by decide) ?_)
          rw [hw7, hor, hsucc, hn]
          refine Ev.pos (by omega) (Ev.pos (by omega) (Ev.pos (by omega) ?_))
          by_cases c2 : bt s (i : Int) < 128
          · refine Ev.eqr ?_ (if_pos c2).symm
            rw [show bt s (i : Int) % 128 = bt s (i : Int) from by omega]
            refine Ev.pos c2 ?_
            by_cases cz : bt s (i : Int) = 0
            · by_cases ci : 0 < i
              · refine Ev.eqr ?_ (if_pos ⟨ci, cz⟩).symm
                exact Ev.pos (by omega) (Ev.pos cz (Ev.now _))
              · refine Ev.eqr ?_ (if_neg (fun h => ci h.1)).symm
                exact Ev.neg (by omega) (Ev.pos (by omega) (Ev.pos (by omega) (Ev.now _)))
            · refine Ev.eqr ?_ (if_neg (fun h => cz h.2)).symm
              by_cases ci : 0 < i
              · exact Ev.pos (by omega) (Ev.neg cz (Ev.pos (by omega) (Ev.pos (by omega) (Ev.now _))))
              · exact Ev.neg (by omega) (Ev.pos (by omega) (Ev.pos (by omega) (Ev.now _)))
          · refine Ev.eqr ?_ (if_neg c2).symm
            rw [show bt s (i : Int) % 128 = bt s (i : Int) - 128 from by omega]
            refine Ev.neg c2 ?_
            have hm : (bt s (i : Int) - 128) * 128 ^ i ≤ 127 * 128 ^ i := Int.mul_le_mul_of_nonneg_right (by omega) (by omega)
            have hm0 : 0 ≤ (bt s (i : Int) - 128) * 128 ^ i := Int.mul_nonneg (by omega) (by omega)
            exact ih (i + 1) _ (by omega) (by omega) (by omega)
        by_cases c9 : i = 9
        · refine Ev.pos (by omega) ?_
          by_cases cb : 1 < bt s (i : Int)
          · skip
            refine Ev.eqr ?_ (if_pos ⟨c9, cb⟩).symm
            rw [decide_eq_true (show bt s (i : Int) > 1 by omega)]
            refine Ev.step (fun k => spec_TakeVar.j2.eq_2 ..) ?_
            exact Ev.pos (by decide) (Ev.now _)
          · refine Ev.eqr ?_ (if_neg (fun h => cb h.2)).symm
            rw [decide_eq_false (show ¬ (bt s (i : Int) > 1) by omega)]
            exact main (fun _ => by omega)
        · refine Ev.neg (by omega) ?_
          refine Ev.eqr ?_ (if_neg (fun h => c9 h.1)).symm
          exact main (fun h => absurd h c9)
      · refine Ev.eqr ?_ (if_neg c).symm
        refine Ev.step (fun k => spec_TakeVar.l0.eq_2 ..) (Ev.neg (by omega) ?_)
        refine Ev.step (fun k => spec_TakeVar.j1.eq_2 ..) ?_
        exact Ev.neg (by decide) (Ev.now _)
  exact key 10 0 0 rfl (by decide) (by decide)
theorem takeVar_ev (s : ByteArray) (hs : s.size ≤ 4611686018427387904) : Ev (fun k => impl_TakeVar.f k s) (tv s) := by
  have key : ∀ (d i : Nat) (acc : Int), i + d = 10 → 0 ≤ acc → acc < 128 ^ i → Ev (fun k => impl_TakeVar.l0 k s acc (i : Int)) (tvGo s d i acc) := by
    intro d
    induction d with
    | zero =>
      intro i acc hi _ _
      obtain rfl : i = 10 := by omega
      refine Ev.step (fun k => impl_TakeVar.l0.eq_2 ..) ?_
      by_cases c : ((10 : Nat) : Int) < (s.size : Int)
      · refine Ev.pos c (Ev.step (fun k => impl_TakeVar.j1.eq_2 ..) ?_)
        exact Ev.neg (by decide) (Ev.now _)
      · refine Ev.neg c (Ev.step (fun k => impl_TakeVar.j1.eq_2 ..) ?_)
        exact Ev.neg (by decide) (Ev.now _)
    | succ d ih =>
      intro i acc hi h0 h1
      unfold tvGo
      by_cases c : i < s.size
      · refine Ev.eqr ?_ (if_pos c).symm
        obtain ⟨r0, r1⟩ := bt_range s (i : Int)
        have hg : (IntKind.u64.wrap (Go.bits .and .u8 (bt s (i : Int)) 127)) = bt s (i : Int) % 128 := by
          rw [and127' _ r0 r1, uid (by omega) (by omega)]
        have hw7 : wrap64 (7 * (i : Int)) = 7 * (i : Int) := by exact wrap7 i (by omega)
        have hsucc : wrap64 ((i : Int) + 1) = ((i + 1 : Nat) : Int) := wsucc (by omega)
        have hn : (((i + 1 : Nat) : Int)).toNat = i + 1 := Int.toNat_natCast _
        have hpow : (128 : Int) ^ (i + 1) = 128 ^ i * 128 := Int.pow_succ 128 i
        have hpos : (0 : Int) < 128 ^ i := Int.pow_pos (by decide)
        refine Ev.step (fun k => impl_TakeVar.l0.eq_2 ..) (Ev.pos (by omega) ?_)
        refine Ev.step (fun k => impl_TakeVar.j1.eq_2 ..) ?_
        refine Ev.pos (decide_eq_true (by omega)) (Ev.pos (by omega) (Ev.pos (by omega) ?_))
        rw [hg]
        have main : (i = 9 → bt s (i : Int) % 128 < 2) → Ev (fun k => impl_TakeVar.j2 k s acc (i : Int) (bt s (i : Int) % 128) false) (if bt s (i : Int) < 128 then (if 0 < i ∧ bt s (i : Int) = 0 then ((0 : Int), (⟨#[]⟩ : ByteArray), false) else (acc + bt s (i : Int) * 128 ^ i, s.extract (i + 1) s.size, true)) else tvGo s d (i + 1) (acc + (bt s (i : Int) - 128) * 128 ^ i)) := by
          intro h9
          have hor := or_step i (by omega) acc (bt s (i : Int) % 128) h0 h1 (by omega) (by omega) (by omega)
          refine Ev.step (fun k => impl_TakeVar.j2.eq_2 ..) (Ev.neg (by decide) ?_)
          rw [hw7, hor, hsucc, hn]
          refine Ev.pos (by omega) (Ev.pos (by omega) (Ev.pos (by omega) ?_))
          by_cases c2 : bt s (i : Int) < 128
          · refine Ev.eqr ?_ (if_pos c2).symm
            rw [show bt s (i : Int) % 128 = bt s (i : Int) from by omega]
            refine Ev.neg (by omega) ?_
            by_cases cz : bt s (i : Int) = 0
            · by_cases ci : 0 < i
              · refine Ev.eqr ?_ (if_pos ⟨ci, cz⟩).symm
                exact Ev.pos cz (Ev.pos (by omega) (Ev.now _))
              · refine Ev.eqr ?_ (if_neg (fun h => ci h.1)).symm
                exact Ev.pos cz (Ev.neg (by omega) (Ev.pos (by omega) (Ev.pos (by omega) (Ev.now _))))
            · refine Ev.eqr ?_ (if_neg (fun h => cz h.2)).symm
              exact Ev.neg cz (Ev.pos (by omega) (Ev.pos (by omega) (Ev.now _)))
          · refine Ev.eqr ?_ (if_neg c2).symm
            rw [show bt s (i : Int) % 128 = bt s (i : Int) - 128 from by omega]
            refine Ev.pos (by omega) ?_
            have hm : (bt s (i : Int) - 128) * 128 ^ i ≤ 127 * 128 ^ i := Int.mul_le_mul_of_nonneg_right (by omega) (by omega)
            have hm0 : 0 ≤ (bt s (i : Int) - 128) * 128 ^ i := Int.mul_nonneg (by omega) (by omega)
            exact ih (i + 1) _ (by omega) (by omega) (by omega)
        by_cases c9 : i = 9
        · refine Ev.pos (by omega) ?_
          by_cases cb : 1 < bt s (i : Int)
          · by_cases cg : bt s (i : Int) % 128 > 1
            case neg =>
              refine Ev.eqr ?_ (if_pos ⟨c9, cb⟩).symm
              rw [decide_eq_false cg]
              refine (main (fun _ => by omega)).eqr ?_
              obtain rfl : d = 0 := by omega
              rw [if_neg (by omega)]
              rfl
            refine Ev.eqr ?_ (if_pos ⟨c9, cb⟩).symm
            rw [decide_eq_true (show bt s (i : Int) % 128 > 1 by omega)]
            refine Ev.step (fun k => impl_TakeVar.j2.eq_2 ..) ?_
            exact Ev.pos (by decide) (Ev.now _)
          · refine Ev.eqr ?_ (if_neg (fun h => cb h.2)).symm
            rw [decide_eq_false (show ¬ (bt s (i : Int) % 128 > 1) by omega)]
            exact main (fun _ => by omega)
        · refine Ev.neg (by omega) ?_
          refine Ev.eqr ?_ (if_neg (fun h => c9 h.1)).symm
          exact main (fun h => absurd h c9)
      · refine Ev.eqr ?_ (if_neg c).symm
        refine Ev.step (fun k => impl_TakeVar.l0.eq_2 ..) (Ev.neg (by omega) ?_)
        refine Ev.step (fun k => impl_TakeVar.j1.eq_2 ..) ?_
        exact Ev.neg (by decide) (Ev.now _)
  exact key 10 0 0 rfl (by decide) (by decide)
end Go.Proofs.Ytidjdkodgddfcaa.P
end

section
namespace Go.Proofs.Ytidjdkodgddfcaa.P
open Go.RowKit Go.Proofs.YtidjdkodgddfcaaW.PrintWords Go.Proofs.YtidjdkodgddfcaaW.PrintLast Go.Proofs.YtidjdkodgddfcaaW.PrintMore
attribute [local go_sem] qh1 qg1 qi1 qf1 qd1 qk1 qj1 qy qx qe1 qc1
set_option linter.unusedVariables false
set_option linter.unusedSimpArgs false
def okc (l : List Int) : Prop := l.length ≤ 1048576 ∧ ∀ x ∈ l, 0 ≤ x ∧ x ≤ 255
def okp (l : List Int) (p : Int) : Prop := 0 ≤ p ∧ p ≤ (l.length : Int)
theorem okc_rd {l : List Int} (h : okc l) (i : Int) : 0 ≤ rd l i ∧ rd l i ≤ 255 := by
  unfold rd
  rw [List.getD_eq_getElem?_getD]
  by_cases c : i.toNat < l.length
  · rw [List.getElem?_eq_getElem c]
    exact h.2 _ (List.getElem_mem c)
  · rw [List.getElem?_eq_none (by omega)]
    simp
theorem next_ev {l : List Int} {p : Int} (h : okc l) (hp : okp l p) : ∃ r, spec_l1Rd_next.f l p = some r ∧ (0 ≤ r.1 ∧ r.1 ≤ 255) ∧ okp l r.2 := by
  obtain ⟨h1, h2⟩ := hp
  have hl := h.1
  unfold spec_l1Rd_next.f
  by_cases c : p ≥ (l.length : Int)
  · exact ⟨_, if_pos c, by simp, h1, h2⟩
  · have e1 : wrap64 (p + 1) = p + 1 := wid (by omega) (by omega)
    have e2 : wrap64 (p + 1 - 1) = p := by rw [wid (by omega) (by omega)]; omega
    obtain ⟨r0, r1⟩ := okc_rd h p
    rw [if_neg c, e1, e2, if_pos h1, if_pos (by omega)]
    refine ⟨_, rfl, ?_, ?_⟩
    · show 0 ≤ wrap64 (rd l p) ∧ wrap64 (rd l p) ≤ 255
      rw [wid (by omega) (by omega)]
      exact ⟨r0, r1⟩
    · exact ⟨by show 0 ≤ p + 1; omega, by show p + 1 ≤ _; omega⟩
theorem below_ev {l : List Int} {p : Int} (h : okc l) (hp : okp l p) (n : Int) (hn : 1 ≤ n) : ∃ r, spec_l1Rd_below.f l p n = some r ∧ (0 ≤ r.1 ∧ r.1 < n) ∧ okp l r.2 := by
  unfold spec_l1Rd_below.f
  by_cases c : n ≤ 1
  · exact ⟨_, if_pos c, ⟨by simp, by show (0 : Int) < n; omega⟩, hp⟩
  · rw [if_neg c]
    obtain ⟨a, ha, ha1, ha2⟩ := next_ev h hp
    by_cases c2 : n ≤ 256
    · rw [if_pos c2, ha]
      refine ⟨(Int.tmod a.1 n, a.2), by rw [Option.bind_some, if_neg (by omega)], ?_, ha2⟩
      show 0 ≤ Int.tmod a.1 n ∧ Int.tmod a.1 n < n
      rw [Int.tmod_eq_emod_of_nonneg ha1.1]
      exact ⟨Int.emod_nonneg _ (by omega), Int.emod_lt_of_pos _ (by omega)⟩
    · obtain ⟨b, hb, hb1, hb2⟩ := next_ev h ha2
      rw [if_neg c2, ha, Option.bind_some, hb, Option.bind_some, if_neg (by omega)]
      refine ⟨_, rfl, ?_, hb2⟩
      show 0 ≤ Int.tmod (wrap64 (wrap64 (a.1 * 256) + b.1)) n ∧ Int.tmod (wrap64 (wrap64 (a.1 * 256) + b.1)) n < n
      rw [wid (x := a.1 * 256) (by omega) (by omega), wid (by omega) (by omega), Int.tmod_eq_emod_of_nonneg (by omega)]
      exact ⟨Int.emod_nonneg _ (by omega), Int.emod_lt_of_pos _ (by omega)⟩
theorem once_ev {l : List Int} {p : Int} (h : okc l) (hp : okp l p) (n : Int) (hn : 1 ≤ n) : ∃ r, spec_l1Rd_once.f l p n = some r ∧ okp l r.2 := by
  obtain ⟨a, ha, _, ha2⟩ := below_ev h hp n hn
  unfold spec_l1Rd_once.f
  rw [ha]
  exact ⟨_, rfl, ha2⟩
theorem bits_u64 (o : BinOp) (a b : Int) : 0 ≤ Go.bits o .u64 a b ∧ Go.bits o .u64 a b ≤ 18446744073709551615 := by
  unfold Go.bits
  simp only [IntKind.wrap_u64]
  omega
theorem word_ev {l : List Int} {p : Int} (h : okc l) (hp : okp l p) : ∃ r, Ev (fun k => spec_l1Rd_word.f k l p) r ∧ (0 ≤ r.1 ∧ r.1 ≤ 18446744073709551615) ∧ okp l r.2 := by
  have key : ∀ i : Nat, i ≤ 8 → ∀ (x p : Int), 0 ≤ x ∧ x ≤ 18446744073709551615 → okp l p → ∃ r, Ev (fun k => spec_l1Rd_word.l0 k x (i : Int) l p) r ∧ (0 ≤ r.1 ∧ r.1 ≤ 18446744073709551615) ∧ okp l r.2 := by
    refine downTo 8 ?_ ?_
    · intro x p hx hp
      exact ⟨(x, p), Ev.step (fun k => spec_l1Rd_word.l0.eq_2 ..) (Ev.neg (by omega) (Ev.now _)), hx, hp⟩
    · intro i hi ih x p hx hp
      obtain ⟨a, ha, _, ha2⟩ := next_ev h hp
      obtain ⟨r, hr, hr2⟩ := ih _ a.2 (bits_u64 .or (IntKind.u64.wrap (x * 256)) (IntKind.u64.wrap a.1)) ha2
      refine ⟨r, Ev.step (fun k => spec_l1Rd_word.l0.eq_2 ..) (Ev.pos (by omega) (Ev.bindS ha ?_)), hr2⟩
      rw [wsucc (by omega)]
      exact hr
  exact key 0 (by omega) 0 p (by omega) hp
theorem bytes_ev {l : List Int} {p : Int} (h : okc l) (hp : okp l p) (n : Int) (hn : 0 ≤ n) (hn2 : n ≤ 1000000) : ∃ r, Ev (fun k => spec_l1Rd_bytes.f k l p n) r ∧ (r.1.size : Int) ≤ n ∧ okp l r.2 := by
  have key : ∀ (i : Nat) (acc : List Int) (p : Int), (acc.length : Int) + i ≤ 1000000 → okp l p → ∃ r, Ev (fun k => spec_l1Rd_bytes.l0 k acc (i : Int) l p) r ∧ r.1.size = acc.length + i ∧ okp l r.2 := by
    intro i
    induction i with
    | zero =>
      intro acc p ha hp
      refine ⟨(strOfNums acc, p), Ev.step (fun k => spec_l1Rd_bytes.l0.eq_2 ..) (Ev.neg (by omega) (Ev.now _)), ?_, hp⟩
      show (strOfNums acc).size = acc.length + 0
      unfold strOfNums
      simp [ByteArray.size]
    | succ i ih =>
      intro acc p ha hp
      obtain ⟨a, ha', _, ha2⟩ := below_ev h hp 256 (by omega)
      obtain ⟨r, hr, hr1, hr2⟩ := ih (acc ++ [a.1 % 256]) a.2 (by simp only [List.length_append, List.length_cons, List.length_nil]; omega) ha2
      refine ⟨r, Ev.step (fun k => spec_l1Rd_bytes.l0.eq_2 ..) (Ev.pos (by omega) (Ev.bindS ha' (Ev.pos (by omega) ?_))), ?_, hr2⟩
      · rw [wid (by omega) (by omega), show (((i + 1 : Nat) : Int) - 1) = (i : Int) from by omega]
        exact hr
      · rw [hr1, List.length_append]
        simp only [List.length_cons, List.length_nil]
        omega
  obtain ⟨a, ha, ha1, ha2⟩ := below_ev h hp (n + 1) (by omega)
  obtain ⟨r, hr, hr1, hr2⟩ := key a.1.toNat [] a.2 (by simp; omega) ha2
  refine ⟨r, ?_, ?_, hr2⟩
  · unfold spec_l1Rd_bytes.f
    rw [wid (by omega) (by omega)]
    refine Ev.bindS ha ?_
    rw [show ((a.1.toNat : Nat) : Int) = a.1 from by omega] at hr
    exact hr
  · rw [hr1]
    simp only [List.length_nil]
    omega
theorem duser_ev {l : List Int} {p : Int} (h : okc l) (hp : okp l p) : ∃ r, spec_l1Rd_user.f l p = some r ∧ (isU r.1) ∧ okp l r.2 := by
  obtain ⟨a, ha, ha1, ha2⟩ := below_ev h hp 10 (by omega)
  unfold spec_l1Rd_user.f
  rw [Option.bind_some, ha, Option.bind_some, if_pos ha1.1, if_pos (by simp only [List.length_cons, List.length_nil]; omega)]
  refine ⟨_, rfl, ?_, ha2⟩
  obtain ⟨m, hm⟩ : ∃ m : Nat, a.1 = m := ⟨a.1.toNat, by omega⟩
  have hlt : m < 10 := by omega
  simp only [hm]
  clear hm ha1 ha ha2
  revert m
  unfold rdOf
  simp only [Int.toNat_natCast]
  decide +kernel
theorem dvalue_ev {l : List Int} {p : Int} (h : okc l) (hp : okp l p) : ∃ r, spec_l1Rd_value.f l p = some r ∧ (r.1.size ≤ 5) ∧ okp l r.2 := by
  obtain ⟨a, ha, ha1, ha2⟩ := below_ev h hp 5 (by omega)
  unfold spec_l1Rd_value.f
  rw [Option.bind_some, ha, Option.bind_some, if_pos ha1.1, if_pos (by simp only [List.length_cons, List.length_nil]; omega)]
  refine ⟨_, rfl, ?_, ha2⟩
  obtain ⟨m, hm⟩ : ∃ m : Nat, a.1 = m := ⟨a.1.toNat, by omega⟩
  have hlt : m < 5 := by omega
  simp only [hm]
  clear hm ha1 ha ha2
  revert m
  unfold rdOf
  simp only [Int.toNat_natCast]
  decide +kernel
theorem near_ev {l : List Int} {p : Int} (h : okc l) (hp : okp l p) (a b : Int) (hab : a ≤ b) (ha : -1000000000000000 ≤ a) (hb : b ≤ 1000000000000000) : ∃ r, Ev (fun k => spec_l1Rd_near.f k l p a b) r ∧ (a ≤ r.1 ∧ r.1 ≤ b) ∧ okp l r.2 := by
  unfold spec_l1Rd_near.f
  obtain ⟨x, hx, hx1, hx2⟩ := below_ev h hp 8 (by omega)
  by_cases c0 : x.1 = 0
  · exact ⟨_, Ev.bindS hx (Ev.pos c0 (Ev.now _)), ⟨Int.le_refl _, hab⟩, hx2⟩
  · by_cases c1 : x.1 = 1
    · exact ⟨_, Ev.bindS hx (Ev.neg c0 (Ev.pos c1 (Ev.now _))), ⟨hab, Int.le_refl _⟩, hx2⟩
    · obtain ⟨y, hy, hy1, hy2⟩ := word_ev h hx2
      have e : IntKind.u64.wrap (wrap64 (wrap64 (b - a) + 1)) = b - a + 1 := by
        rw [wid (x := b - a) (by omega) (by omega), wid (by omega) (by omega), uid (by omega) (by omega)]
      have m0 : 0 ≤ Int.tmod (y.1 / 2) (b - a + 1) ∧ Int.tmod (y.1 / 2) (b - a + 1) < b - a + 1 := by
        rw [Int.tmod_eq_emod_of_nonneg (by omega)]
        exact ⟨Int.emod_nonneg _ (by omega), Int.emod_lt_of_pos _ (by omega)⟩
      refine ⟨(a + Int.tmod (y.1 / 2) (b - a + 1), y.2), Ev.bindS hx (Ev.neg c0 (Ev.neg c1 (Ev.neg (by omega) (Ev.bind hy ?_)))), ⟨by show a ≤ a + _; omega, by show a + _ ≤ b; omega⟩, hy2⟩
      rw [e, wid (x := Int.tmod (y.1 / 2) (b - a + 1)) (by omega) (by omega), wid (by omega) (by omega)]
      exact Ev.neg (by omega) (Ev.now _)
theorem off_ev {l : List Int} {p : Int} (h : okc l) (hp : okp l p) (a b : Int) (hab : a ≤ b) (ha : -1000000000000000 ≤ a) (hb : b ≤ 1000000000000000) : ∃ r, Ev (fun k => spec_l1Rd_off.f k l p a b) r ∧ (-9223372036854775808 ≤ r.1 ∧ r.1 ≤ 9223372036854775807) ∧ okp l r.2 := by
  unfold spec_l1Rd_off.f
  obtain ⟨x, hx, hx2⟩ := once_ev h hp 24 (by omega)
  by_cases c0 : x.1 = true
  · obtain ⟨y, hy, hy1, hy2⟩ := below_ev h hx2 4 (by omega)
    refine ⟨_, Ev.bindS hx (Ev.pos c0 (Ev.bindS rfl (Ev.bindS hy (Ev.pos hy1.1 (Ev.pos (by simp only [List.length_cons, List.length_nil]; omega) (Ev.now _)))))), ?_, hy2⟩
    rw [wid (x := a - 1) (by omega) (by omega), wid (x := b + 1) (by omega) (by omega)]
    obtain ⟨m, hm⟩ : ∃ m : Nat, y.1 = m := ⟨y.1.toNat, by omega⟩
    have hlt : m < 4 := by omega
    simp only [hm]
    unfold rd
    rw [Int.toNat_natCast]
    match m, hlt with
    | 0, _ => show -9223372036854775808 ≤ a - 1 ∧ a - 1 ≤ 9223372036854775807; omega
    | 1, _ => show -9223372036854775808 ≤ b + 1 ∧ b + 1 ≤ 9223372036854775807; omega
    | 2, _ => show (-9223372036854775808 : Int) ≤ -9223372036854775808 ∧ (-9223372036854775808 : Int) ≤ 9223372036854775807; omega
    | 3, _ => show (-9223372036854775808 : Int) ≤ 9223372036854775807 ∧ (9223372036854775807 : Int) ≤ 9223372036854775807; omega
  · obtain ⟨y, hy, hy1, hy2⟩ := near_ev h hx2 a b hab ha hb
    exact ⟨_, Ev.bindS hx (Ev.neg c0 (Ev.bind hy (Ev.now _))), ⟨by omega, by omega⟩, hy2⟩
end Go.Proofs.Ytidjdkodgddfcaa.P
end

section
namespace Go.Proofs.Ytidjdkodgddfcaa.P
open Go.RowKit Go.Proofs.YtidjdkodgddfcaaW.PrintWords Go.Proofs.YtidjdkodgddfcaaW.PrintLast Go.Proofs.YtidjdkodgddfcaaW.PrintMore
attribute [local go_sem] qh1 qg1 qi1 qf1 qd1 qk1 qj1 qy qx qe1 qc1
set_option linter.unusedVariables false
set_option linter.unusedSimpArgs false
theorem dkey_ev {l : List Int} {p : Int} (h : okc l) (hp : okp l p) : ∃ r, Ev (fun k => spec_l1Rd_key.f k l p) r ∧ okp l r.2.2.2 := by
  unfold spec_l1Rd_key.f
  obtain ⟨a, ha, _, ha2⟩ := duser_ev h hp
  obtain ⟨b, hb, _, hb2⟩ := near_ev h ha2 0 12 (by omega) (by omega) (by omega)
  obtain ⟨c, hc, _, hc2⟩ := below_ev h hb2 2 (by omega)
  obtain ⟨d, hd, _, hd2⟩ := below_ev h hc2 24 (by omega)
  by_cases c0 : d.1 = 0
  · obtain ⟨e, he, _, he2⟩ := off_ev h hd2 0 1000000000000 (by omega) (by omega) (by omega)
    exact ⟨_, Ev.bindS ha (Ev.bind hb (Ev.bindS hc (Ev.bindS hd (Ev.pos c0 (Ev.bind he (Ev.now _)))))), he2⟩
  · by_cases c1 : d.1 = 1
    · obtain ⟨e, he, _, he2⟩ := off_ev h hd2 0 1 (by omega) (by omega) (by omega)
      exact ⟨_, Ev.bindS ha (Ev.bind hb (Ev.bindS hc (Ev.bindS hd (Ev.neg c0 (Ev.pos c1 (Ev.bind he (Ev.now _))))))), he2⟩
    · by_cases c2 : d.1 = 2
      · obtain ⟨e, he, _, he2⟩ := bytes_ev h hd2 45 (by omega) (by omega)
        exact ⟨_, Ev.bindS ha (Ev.bind hb (Ev.bindS hc (Ev.bindS hd (Ev.neg c0 (Ev.neg c1 (Ev.pos c2 (Ev.bind he (Ev.now _)))))))), he2⟩
      · exact ⟨_, Ev.bindS ha (Ev.bind hb (Ev.bindS hc (Ev.bindS hd (Ev.neg c0 (Ev.neg c1 (Ev.neg c2 (Ev.now _))))))), hd2⟩
theorem dentry_ev {l : List Int} {p : Int} (h : okc l) (hp : okp l p) : ∃ r, Ev (fun k => spec_l1Rd_entry.f k l p) r ∧ okp l r.2.2.2.2 := by
  unfold spec_l1Rd_entry.f
  obtain ⟨a, ha, ha2⟩ := dkey_ev h hp
  obtain ⟨b, hb, _, hb2⟩ := dvalue_ev h ha2
  by_cases c0 : a.2.2.1 = 0
  · obtain ⟨c, hc, hc2⟩ := once_ev h hb2 12 (by omega)
    by_cases c1 : c.1 = true
    · exact ⟨_, Ev.bind ha (Ev.bindS hb (Ev.pos c0 (Ev.bindS hc (Ev.pos c1 (Ev.now _))))), hc2⟩
    · exact ⟨_, Ev.bind ha (Ev.bindS hb (Ev.pos c0 (Ev.bindS hc (Ev.neg c1 (Ev.now _))))), hc2⟩
  · exact ⟨_, Ev.bind ha (Ev.bindS hb (Ev.neg c0 (Ev.now _))), hb2⟩
theorem dentries_ev {l : List Int} {p : Int} (h : okc l) (hp : okp l p) (n : Int) (hn : 0 ≤ n) (hn2 : n ≤ 1000) : ∃ r, Ev (fun k => spec_l1Rd_entries.f k l p n) r ∧ (r.1.length : Int) ≤ n + 1 ∧ okp l r.2 := by
  have key : ∀ (j : Nat) (acc : List S64) (p : Int), acc.length + j ≤ 2000 → okp l p → ∃ r, Ev (fun k => spec_l1Rd_entries.l0 k acc (j : Int) l p) r ∧ r.1.length ≤ acc.length + j + 1 ∧ okp l r.2 := by
    intro j
    induction j with
    | zero =>
      intro acc p ha hp
      obtain ⟨a, ha', ha2⟩ := once_ev h hp 24 (by omega)
      by_cases c : a.1 = true
      · obtain ⟨b, hb, hb2⟩ := dentry_ev h ha2
        refine ⟨_, Ev.step (fun k => spec_l1Rd_entries.l0.eq_2 ..) (Ev.neg (by omega) (Ev.bindS ha' (Ev.pos c (Ev.bind hb (Ev.pos (by omega) (Ev.now _)))))), ?_, hb2⟩
        show (acc ++ [_]).length ≤ _
        rw [List.length_append]
        simp only [List.length_cons, List.length_nil]
        omega
      · exact ⟨_, Ev.step (fun k => spec_l1Rd_entries.l0.eq_2 ..) (Ev.neg (by omega) (Ev.bindS ha' (Ev.neg c (Ev.now _)))), by show acc.length ≤ _; omega, ha2⟩
    | succ j ih =>
      intro acc p ha hp
      obtain ⟨e, he, he2⟩ := dentry_ev h hp
      have hw : wrap64 (((j + 1 : Nat) : Int) - 1) = (j : Int) := by rw [wid (by omega) (by omega)]; omega
      by_cases c : isE e.1 e.2.1 e.2.2.1 e.2.2.2.1
      ·
        have seek : ∀ d i : Nat, i + d = acc.length → ∃ r, Ev (fun k => spec_l1Rd_entries.l1 k acc ((j + 1 : Nat) : Int) (i : Int) l e.2.2.2.2 e.1 e.2.1 e.2.2.1 e.2.2.2.1) r ∧ r.1.length ≤ acc.length + (j + 1) + 1 ∧ okp l r.2 := by
          intro d
          induction d with
          | zero =>
            intro i hi
            obtain ⟨r, hr, hr1, hr2⟩ := ih ((([] ++ acc.take i) ++ [⟨⟨e.1, e.2.1, e.2.2.1⟩, e.2.2.2.1⟩]) ++ acc.drop i) e.2.2.2.2 (by simp; omega) he2
            refine ⟨r, Ev.step (fun k => spec_l1Rd_entries.l1.eq_2 ..) (Ev.neg (by omega) (Ev.bindS rfl (Ev.pos (by omega) (Ev.pos (by omega) (Ev.bindS rfl (Ev.pos (by simp; omega) (Ev.bindS rfl (Ev.pos (by simp; omega) (Ev.bindS rfl (Ev.bindS rfl (Ev.pos (by simp; omega) ?_))))))))))), ?_, hr2⟩
            · rw [hw, Int.toNat_natCast]
              exact hr
            · refine Nat.le_trans hr1 ?_
              simp
              omega
          | succ d ihd =>
            intro i hi
            have hc := sKeyCmp_ev (qk acc (i : Int)).f0.f0 (qk acc (i : Int)).f0.f1 (qk acc (i : Int)).f0.f2 e.1 e.2.1 e.2.2.1
            generalize (if isK (qk acc (i : Int)).f0.f0 (qk acc (i : Int)).f0.f1 (qk acc (i : Int)).f0.f2 ∧ isK e.1 e.2.1 e.2.2.1 then kcmp (qk acc (i : Int)).f0.f0 (qk acc (i : Int)).f0.f1 (qk acc (i : Int)).f0.f2 e.1 e.2.1 e.2.2.1 else 0) = cv at hc
            by_cases c1 : cv < 0
            · obtain ⟨r, hr, hr2⟩ := ihd (i + 1) (by omega)
              refine ⟨r, Ev.step (fun k => spec_l1Rd_entries.l1.eq_2 ..) (Ev.pos (by omega) (Ev.pos (by omega) (Ev.bind hc (Ev.pos c1 ?_)))), hr2⟩
              rw [wsucc (by omega)]
              exact hr
            · generalize hb : (((qk acc (i : Int)).f0.f0.toList == e.1.toList) && ((qk acc (i : Int)).f0.f1 == e.2.1 && ((qk acc (i : Int)).f0.f2 == e.2.2.1))) = bb
              cases bb with
              | true =>
                obtain ⟨r, hr, hr1, hr2⟩ := ih acc e.2.2.2.2 (by omega) he2
                refine ⟨r, Ev.step (fun k => spec_l1Rd_entries.l1.eq_2 ..) (Ev.pos (by omega) (Ev.pos (by omega) (Ev.bind hc (Ev.neg c1 (Ev.pos hb ?_))))), by omega, hr2⟩
                rw [hw]
                exact hr
              | false =>
                obtain ⟨r, hr, hr1, hr2⟩ := ih ((([] ++ acc.take i) ++ [⟨⟨e.1, e.2.1, e.2.2.1⟩, e.2.2.2.1⟩]) ++ acc.drop i) e.2.2.2.2 (by simp; omega) he2
                refine ⟨r, Ev.step (fun k => spec_l1Rd_entries.l1.eq_2 ..) (Ev.pos (by omega) (Ev.pos (by omega) (Ev.bind hc (Ev.neg c1 (Ev.neg (by rw [hb]; simp) (Ev.bindS rfl (Ev.pos (by omega) (Ev.bindS rfl (Ev.pos (by simp; omega) (Ev.bindS rfl (Ev.pos (by simp; omega) (Ev.bindS rfl (Ev.bindS rfl (Ev.pos (by simp; omega) ?_)))))))))))))), ?_, hr2⟩
                · rw [hw, Int.toNat_natCast]
                  exact hr
                · refine Nat.le_trans hr1 ?_
                  simp
                  omega
        obtain ⟨r, hr, hr2⟩ := seek acc.length 0 (by omega)
        exact ⟨r, Ev.step (fun k => spec_l1Rd_entries.l0.eq_2 ..) (Ev.pos (by omega) (Ev.bind he (Ev.bindS (sEntryOk_ev _ _ _ _) (Ev.pos (decide_eq_true c) hr)))), hr2⟩
      · obtain ⟨r, hr, hr1, hr2⟩ := ih acc e.2.2.2.2 (by omega) he2
        refine ⟨r, Ev.step (fun k => spec_l1Rd_entries.l0.eq_2 ..) (Ev.pos (by omega) (Ev.bind he (Ev.bindS (sEntryOk_ev _ _ _ _) (Ev.neg (by simpa using c) ?_)))), by omega, hr2⟩
        rw [hw]
        exact hr
  obtain ⟨a, ha, ha1, ha2⟩ := below_ev h hp (n + 1) (by omega)
  obtain ⟨r, hr, hr1, hr2⟩ := key a.1.toNat [] a.2 (by simp; omega) ha2
  refine ⟨r, ?_, ?_, hr2⟩
  · unfold spec_l1Rd_entries.f
    rw [wid (by omega) (by omega)]
    refine Ev.bindS ha ?_
    rw [show ((a.1.toNat : Nat) : Int) = a.1 from by omega] at hr
    exact hr
  · simp only [List.length_nil] at hr1
    omega
end Go.Proofs.Ytidjdkodgddfcaa.P
end

section
namespace Go.Proofs.Ytidjdkodgddfcaa.Pure
open Go.RowKit Go.Proofs.YtidjdkodgddfcaaW.PrintWords Go.Proofs.YtidjdkodgddfcaaW.PrintLast Go.Proofs.YtidjdkodgddfcaaW.PrintMore
open Go.Proofs.Ytidjdkodgddfcaa.P
set_option linter.unusedVariables false
set_option linter.unusedSimpArgs false
noncomputable def seekV (l : List S64) (u : ByteArray) (q d : Int) : Int := if isRow l ∧ isK u q d then ((bsc l ⟨⟨u, q, d⟩, ⟨#[]⟩⟩ : Nat) : Int) else -1
theorem seek_ev (l : List S64) (hl : l.length < 2097152) (u : ByteArray) (q d : Int) : Ev (fun k => impl_SeekEntry.f k l u q d) (seekV l u q d) := by
  unfold impl_SeekEntry.f seekV
  refine Ev.bind (entriesOk_ev l hl) ?_
  by_cases c : isRow l
  case neg => exact Ev.neg (by simp [c]) ((Ev.now _).eqr (if_neg (fun h => c h.1)).symm)
  refine Ev.pos (decide_eq_true c) (Ev.bindS (keyOk_ev u q d) ?_)
  by_cases c2 : isK u q d
  case neg => exact Ev.neg (by simp [c2]) ((Ev.now _).eqr (if_neg (fun h => c2 h.2)).symm)
  have hb := bsearch_ev c ⟨⟨u, q, d⟩, ⟨#[]⟩⟩
  exact Ev.pos (decide_eq_true c2) (Ev.bindS hb ((Ev.now _).eqr (if_pos ⟨c, c2⟩).symm))
theorem sSeek_ev (l : List S64) (hl : l.length < 2097152) (u : ByteArray) (q d : Int) : Ev (fun k => spec_SeekEntry.f k l u q d) (seekV l u q d) := by
  unfold spec_SeekEntry.f seekV
  have bad : ¬ (isRow l ∧ isK u q d) → Ev (fun k => spec_SeekEntry.j0 k l true u q d) (if isRow l ∧ isK u q d then ((bsc l ⟨⟨u, q, d⟩, ⟨#[]⟩⟩ : Nat) : Int) else -1) := by
    intro h
    rw [if_neg h]
    refine Ev.step (fun k => spec_SeekEntry.j0.eq_2 ..) ?_
    exact Ev.pos rfl (Ev.now _)
  refine Ev.bind (sEntriesOk_ev l hl) ?_
  by_cases c : isRow l
  case neg => exact Ev.neg (by simp [c]) (bad fun h => c h.1)
  refine Ev.pos (decide_eq_true c) (Ev.bindS (sKeyOk_ev u q d) ?_)
  by_cases c2 : isK u q d
  case neg =>
    rw [decide_eq_false c2]
    exact bad fun h => c2 h.2
  rw [decide_eq_true c2, if_pos ⟨c, c2⟩]
  refine Ev.step (fun k => spec_SeekEntry.j0.eq_2 ..) ?_
  refine Ev.neg (by decide) ?_
  have stop : ∀ i, i ≤ l.length → (∀ t, t < i → ecmp (l.getD t z64) ⟨⟨u, q, d⟩, ⟨#[]⟩⟩ < 0) → (i < l.length → 0 ≤ ecmp (l.getD i z64) ⟨⟨u, q, d⟩, ⟨#[]⟩⟩) → bsc l ⟨⟨u, q, d⟩, ⟨#[]⟩⟩ = i := by
    intro i hi h1 h2
    exact findIdx_at _ z64 l i hi (fun t ht => decide_eq_false (by have := h1 t ht; omega)) (fun h => decide_eq_true (h2 h))
  have key : ∀ e i : Nat, i + e = l.length → (∀ t, t < i → ecmp (l.getD t z64) ⟨⟨u, q, d⟩, ⟨#[]⟩⟩ < 0) → Ev (fun k => spec_SeekEntry.l0 k l (i : Int) u q d) ((bsc l ⟨⟨u, q, d⟩, ⟨#[]⟩⟩ : Nat) : Int) := by
    intro e
    induction e with
    | zero =>
      intro i hi h1
      refine Ev.step (fun k => spec_SeekEntry.l0.eq_2 ..) ?_
      rw [stop i (by omega) h1 (fun h => by omega)]
      exact Ev.neg (by omega) (Ev.now _)
    | succ e ih =>
      intro i hi h1
      have hlt : i < l.length := by omega
      have hk : isK (l.getD i z64).f0.f0 (l.getD i z64).f0.f1 (l.getD i z64).f0.f2 := by
        rw [getD_at l i _ hlt]
        exact (c.2 i (Nat.zero_le _) hlt).1.1
      have hr : qk l (i : Int) = l.getD i z64 := by unfold qk; rw [Int.toNat_natCast]
      have hc := sKeyCmp_ev (l.getD i z64).f0.f0 (l.getD i z64).f0.f1 (l.getD i z64).f0.f2 u q d
      rw [if_pos ⟨hk, c2⟩] at hc
      refine Ev.step (fun k => spec_SeekEntry.l0.eq_2 ..) ?_
      rw [hr, wsucc (show i < 4611686018427387904 by omega)]
      refine Ev.pos (by omega) (Ev.pos (by omega) (Ev.bind hc ?_))
      by_cases c3 : kcmp (l.getD i z64).f0.f0 (l.getD i z64).f0.f1 (l.getD i z64).f0.f2 u q d < 0
      · refine Ev.pos c3 (ih (i + 1) (by omega) fun t ht => ?_)
        by_cases e2 : t = i
        · rw [e2]; exact c3
        · exact h1 t (by omega)
      · rw [stop i (by omega) h1 (fun _ => Int.not_lt.1 c3)]
        exact Ev.neg c3 (Ev.now _)
  exact key l.length 0 (by omega) (fun t ht => absurd ht (Nat.not_lt_zero _))
end Go.Proofs.Ytidjdkodgddfcaa.Pure
end

section
namespace Go.Proofs.Ytidjdkodgddfcaa.P
open Go.RowKit Go.Proofs.YtidjdkodgddfcaaW.PrintWords Go.Proofs.YtidjdkodgddfcaaW.PrintLast Go.Proofs.YtidjdkodgddfcaaW.PrintMore
attribute [local go_sem] qh1 qg1 qi1 qf1 qd1 qk1 qj1 qy qx qe1 qc1
set_option linter.unusedVariables false
set_option linter.unusedSimpArgs false
def tt (s : ByteArray) : ByteArray × ByteArray × Bool :=
  if (tv s).2.2 = true ∧ (tv s).1 ≤ 60000 ∧ (tv s).1 ≤ ((tv s).2.1.size : Int) then ((tv s).2.1.extract 0 (tv s).1.toNat, (tv s).2.1.extract (tv s).1.toNat (tv s).2.1.size, true) else (⟨#[]⟩, ⟨#[]⟩, false)
theorem empty_size : (⟨#[]⟩ : ByteArray).size = 0 := rfl
theorem tvGo_range (s : ByteArray) : ∀ (d i : Nat) (acc : Int), i + d = 10 → 0 ≤ acc → acc < 128 ^ i → 0 ≤ (tvGo s d i acc).1 ∧ (tvGo s d i acc).1 < 18446744073709551616 ∧ (tvGo s d i acc).2.1.size ≤ s.size ∧ ((tvGo s d i acc).2.2 = true → (tvGo s d i acc).2.1.size < s.size) := by
  intro d
  induction d with
  | zero => intro i acc _ _ _; simp [tvGo, empty_size]
  | succ d ih =>
    intro i acc hi h0 h1
    have hf : 0 ≤ ((0 : Int), (⟨#[]⟩ : ByteArray), false).1 ∧ ((0 : Int), (⟨#[]⟩ : ByteArray), false).1 < 18446744073709551616 ∧ ((0 : Int), (⟨#[]⟩ : ByteArray), false).2.1.size ≤ s.size ∧ (((0 : Int), (⟨#[]⟩ : ByteArray), false).2.2 = true → ((0 : Int), (⟨#[]⟩ : ByteArray), false).2.1.size < s.size) := by simp [empty_size]
    obtain ⟨r0, r1⟩ := bt_range s (i : Int)
    have hpos : (0 : Int) < 128 ^ i := Int.pow_pos (by decide)
    unfold tvGo
    by_cases c : i < s.size
    · rw [if_pos c]
      by_cases c9 : i = 9 ∧ 1 < bt s (i : Int)
      · rw [if_pos c9]; exact hf
      · rw [if_neg c9]
        by_cases c2 : bt s (i : Int) < 128
        · rw [if_pos c2]
          by_cases cz : 0 < i ∧ bt s (i : Int) = 0
          · rw [if_pos cz]; exact hf
          · rw [if_neg cz]
            have hn : 0 ≤ bt s (i : Int) * 128 ^ i := Int.mul_nonneg r0 (by omega)
            have hb : acc + bt s (i : Int) * 128 ^ i < 18446744073709551616 := by
              by_cases e : i = 9
              · subst e
                have : bt s ((9 : Nat) : Int) ≤ 1 := by
                  have := fun h => c9 ⟨rfl, h⟩
                  omega
                have : bt s ((9 : Nat) : Int) * 128 ^ 9 ≤ 1 * 128 ^ 9 := Int.mul_le_mul_of_nonneg_right this (by decide)
                omega
              · have h8 : (128 : Int) ^ i ≤ 128 ^ 8 := by
                  have : (128 : Nat) ^ i ≤ 128 ^ 8 := Nat.pow_le_pow_right (by decide) (by omega)
                  exact_mod_cast this
                have : bt s (i : Int) * 128 ^ i ≤ 127 * 128 ^ 8 := Int.mul_le_mul (by omega) h8 (by omega) (by decide)
                omega
            refine ⟨by show 0 ≤ acc + _; omega, hb, ?_, ?_⟩
            · show (s.extract (i + 1) s.size).size ≤ s.size
              rw [ByteArray.size_extract]; omega
            · intro _
              show (s.extract (i + 1) s.size).size < s.size
              rw [ByteArray.size_extract]; omega
        · rw [if_neg c2]
          have hm : (bt s (i : Int) - 128) * 128 ^ i ≤ 127 * 128 ^ i := Int.mul_le_mul_of_nonneg_right (by omega) (by omega)
          have hm0 : 0 ≤ (bt s (i : Int) - 128) * 128 ^ i := Int.mul_nonneg (by omega) (by omega)
          have hpow : (128 : Int) ^ (i + 1) = 128 ^ i * 128 := Int.pow_succ 128 i
          exact ih (i + 1) _ (by omega) (by omega) (by omega)
    · rw [if_neg c]; exact hf
theorem tv_range (s : ByteArray) : 0 ≤ (tv s).1 ∧ (tv s).1 < 18446744073709551616 ∧ (tv s).2.1.size ≤ s.size ∧ ((tv s).2.2 = true → (tv s).2.1.size < s.size) := tvGo_range s 10 0 0 rfl (by decide) (by decide)
theorem takeText_ev (s : ByteArray) (hs : s.size ≤ 4611686018427387904) : Ev (fun k => impl_TakeText.f k s) (tt s) := by
  unfold impl_TakeText.f tt
  obtain ⟨r0, r1, r2, _⟩ := tv_range s
  refine Ev.bind (takeVar_ev s hs) ?_
  by_cases c1 : (tv s).2.2 = true
  · refine Ev.pos c1 ?_
    by_cases c2 : (tv s).1 > 60000
    · exact Ev.pos c2 ((Ev.now _).eqr (if_neg (fun h => by omega)).symm)
    · refine Ev.neg c2 ?_
      rw [uid (x := ((tv s).2.1.size : Int)) (by omega) (by omega)]
      by_cases c3 : (tv s).1 > ((tv s).2.1.size : Int)
      · exact Ev.pos c3 ((Ev.now _).eqr (if_neg (fun h => by omega)).symm)
      · exact Ev.neg c3 (Ev.pos r0 (Ev.pos (by omega) ((Ev.now _).eqr (if_pos ⟨c1, by omega, by omega⟩).symm)))
  · exact Ev.neg c1 ((Ev.now _).eqr (if_neg (fun h => c1 h.1)).symm)
theorem sTakeText_ev (s : ByteArray) (hs : s.size ≤ 4611686018427387904) : Ev (fun k => spec_TakeText.f k s) (tt s) := by
  unfold spec_TakeText.f tt
  obtain ⟨r0, r1, r2, _⟩ := tv_range s
  refine Ev.bind (sTakeVar_ev s hs) ?_
  by_cases c1 : (tv s).2.2 = true
  · refine Ev.pos c1 ?_
    by_cases c2 : (tv s).1 > 60000
    · exact Ev.pos c2 ((Ev.now _).eqr (if_neg (fun h => by omega)).symm)
    · refine Ev.neg c2 ?_
      rw [uid (x := ((tv s).2.1.size : Int)) (by omega) (by omega)]
      by_cases c3 : (tv s).1 > ((tv s).2.1.size : Int)
      · exact Ev.pos c3 ((Ev.now _).eqr (if_neg (fun h => by omega)).symm)
      · exact Ev.neg c3 (Ev.pos r0 (Ev.pos (by omega) ((Ev.now _).eqr (if_pos ⟨c1, by omega, by omega⟩).symm)))
  · exact Ev.neg c1 ((Ev.now _).eqr (if_neg (fun h => c1 h.1)).symm)
theorem tt_range (s : ByteArray) : (tt s).1.size ≤ 60000 ∧ (tt s).1.size ≤ s.size ∧ (tt s).2.1.size ≤ s.size ∧ ((tt s).2.2 = true → (tt s).2.1.size < s.size) := by
  obtain ⟨r0, r1, r2, r3⟩ := tv_range s
  unfold tt
  by_cases c : (tv s).2.2 = true ∧ (tv s).1 ≤ 60000 ∧ (tv s).1 ≤ ((tv s).2.1.size : Int)
  · rw [if_pos c]
    have := r3 c.1
    simp only [ByteArray.size_extract]
    exact ⟨by omega, by omega, by omega, fun _ => by omega⟩
  · rw [if_neg c]
    simp [empty_size]
theorem toList_inj {a b : ByteArray} (h : a.toList = b.toList) : a = b := by
  rw [ByteArray.toList_eq, ByteArray.toList_eq] at h
  exact ByteArray.ext (Array.toList_inj.1 h)
theorem bytesOf_strOfNums (l : List Int) (h : ∀ x ∈ l, 0 ≤ x ∧ x < 256) : bytesOf (strOfNums l) = l := by
  unfold bytesOf strOfNums
  simp only [List.map_map]
  conv => rhs; rw [← List.map_id l]
  refine List.map_congr_left fun x hx => ?_
  have := h x hx
  simp only [Function.comp_apply, id]
  rw [UInt8.toNat_ofNat']
  omega
end Go.Proofs.Ytidjdkodgddfcaa.P
end

section
namespace Go.Proofs.Ytidjdkodgddfcaa.P
open Go.RowKit Go.Proofs.YtidjdkodgddfcaaW.PrintWords Go.Proofs.YtidjdkodgddfcaaW.PrintLast Go.Proofs.YtidjdkodgddfcaaW.PrintMore
attribute [local go_sem] qh1 qg1 qi1 qf1 qd1 qk1 qj1 qy qx qe1 qc1
set_option linter.unusedVariables false
set_option linter.unusedSimpArgs false
def pf (n : Int) : ByteArray := strOfNums [n % 256, (n / 256) % 256, (n / 65536) % 256, (n / 16777216) % 256]
theorem bytesOf_pf (n : Int) : bytesOf (pf n) = [n % 256, (n / 256) % 256, (n / 65536) % 256, (n / 16777216) % 256] := by
  refine bytesOf_strOfNums _ fun x hx => ?_
  simp only [List.mem_cons, List.not_mem_nil, or_false] at hx
  omega
theorem pf_size (n : Int) : (pf n).size = 4 := by rw [← bytesOf_length, bytesOf_pf]; rfl
def f4 (s : ByteArray) : Int := bt s 0 + bt s 1 * 256 + bt s 2 * 65536 + bt s 3 * 16777216
theorem f4_range (s : ByteArray) : 0 ≤ f4 s ∧ f4 s < 4294967296 := by
  have := bt_range s 0
  have := bt_range s 1
  have := bt_range s 2
  have := bt_range s 3
  unfold f4
  omega
def tf (s : ByteArray) : Int × ByteArray × Bool := if s.size < 4 then (0, ⟨#[]⟩, false) else (f4 s, s.extract 4 s.size, true)
theorem or4 (s : ByteArray) : Go.bits .or .u32 (Go.bits .or .u32 (Go.bits .or .u32 ((bt s 0) % 4294967296) ((((bt s 1) % 4294967296) * 256) % 4294967296)) ((((bt s 2) % 4294967296) * 65536) % 4294967296)) ((((bt s 3) % 4294967296) * 16777216) % 4294967296) = f4 s := by
  have := bt_range s 0
  have := bt_range s 1
  have := bt_range s 2
  have := bt_range s 3
  have e1 : Go.bits .or .u32 ((bt s 0) % 4294967296) ((((bt s 1) % 4294967296) * 256) % 4294967296) = bt s 0 + bt s 1 * 256 := (u32_or8 _ _ (by omega) (by omega) (by omega) (by omega) (by omega)).trans (by omega)
  rw [e1]
  have e2 : Go.bits .or .u32 (bt s 0 + bt s 1 * 256) ((((bt s 2) % 4294967296) * 65536) % 4294967296) = bt s 0 + bt s 1 * 256 + bt s 2 * 65536 := (u32_or16 _ _ (by omega) (by omega) (by omega) (by omega) (by omega)).trans (by omega)
  rw [e2]
  have e3 : Go.bits .or .u32 (bt s 0 + bt s 1 * 256 + bt s 2 * 65536) ((((bt s 3) % 4294967296) * 16777216) % 4294967296) = bt s 0 + bt s 1 * 256 + bt s 2 * 65536 + bt s 3 * 16777216 := (u32_or24 _ _ (by omega) (by omega) (by omega) (by omega) (by omega)).trans (by omega)
  exact e3
theorem takeFixed_ev (s : ByteArray) : impl_TakeFixed.f s = some (tf s) := by
  unfold impl_TakeFixed.f tf
  by_cases c : s.size < 4
  · rw [if_pos (by omega), if_pos c]
  · rw [if_neg (by omega), if_neg c, if_pos (by omega), if_pos (by omega), if_pos (by omega), if_pos (by omega), if_pos (by omega), or4]
theorem sTakeFixed_ev (s : ByteArray) : spec_TakeFixed.f s = some (tf s) := by
  unfold spec_TakeFixed.f tf
  by_cases c : s.size < 4
  · rw [if_pos (by omega), if_pos c]
  · rw [if_neg (by omega), if_neg c, if_pos (by omega), if_pos (by omega), if_pos (by omega), if_pos (by omega), if_pos (by omega), or4]
theorem putFixed_ev (n : Int) : impl_PutFixed.f n = some (pf n) := rfl
theorem sPutFixed_ev (n : Int) : spec_PutFixed.f n = some (pf n) := rfl
end Go.Proofs.Ytidjdkodgddfcaa.P
end

section
namespace Go.Proofs.Ytidjdkodgddfcaa.P
open Go.RowKit Go.Proofs.YtidjdkodgddfcaaW.PrintWords Go.Proofs.YtidjdkodgddfcaaW.PrintLast Go.Proofs.YtidjdkodgddfcaaW.PrintMore
attribute [local go_sem] qh1 qg1 qi1 qf1 qd1 qk1 qj1 qy qx qe1 qc1
set_option linter.unusedVariables false
set_option linter.unusedSimpArgs false
def numT (s : ByteArray) (bad : Bool) : Int × ByteArray × Bool := if (tv s).2.2 = true ∧ (tv s).1 ≤ 4611686018427387904 then ((tv s).1, (tv s).2.1, bad) else (0, s, true)
def txtT (s : ByteArray) (bad : Bool) : ByteArray × ByteArray × Bool := if (tt s).2.2 = true then ((tt s).1, (tt s).2.1, bad) else (⟨#[]⟩, s, true)
theorem number_taken (s : ByteArray) (bad : Bool) (hs : s.size ≤ 4611686018427387904) : Ev (fun k => impl_taker_number.f k s bad) (numT s bad) := by
  unfold impl_taker_number.f numT
  obtain ⟨r0, r1, _, _⟩ := tv_range s
  refine Ev.bind (takeVar_ev s hs) ?_
  by_cases c : (tv s).2.2 = true
  · refine Ev.pos c ?_
    by_cases c2 : (tv s).1 > 4611686018427387904
    · exact Ev.pos c2 ((Ev.now _).eqr (if_neg (fun h => by omega)).symm)
    · refine Ev.neg c2 ?_
      rw [wid (by omega) (by omega)]
      exact (Ev.now _).eqr (if_pos ⟨c, by omega⟩).symm
  · exact Ev.neg c ((Ev.now _).eqr (if_neg (fun h => c h.1)).symm)
theorem text_taken (s : ByteArray) (bad : Bool) (hs : s.size ≤ 4611686018427387904) : Ev (fun k => impl_taker_text.f k s bad) (txtT s bad) := by
  unfold impl_taker_text.f txtT
  refine Ev.bind (takeText_ev s hs) ?_
  by_cases c : (tt s).2.2 = true
  · exact Ev.pos c ((Ev.now _).eqr (if_pos c).symm)
  · exact Ev.neg c ((Ev.now _).eqr (if_neg c).symm)
theorem numT_size (s : ByteArray) (bad : Bool) : (numT s bad).2.1.size ≤ s.size := by
  obtain ⟨_, _, h, _⟩ := tv_range s
  unfold numT
  split
  · exact h
  · exact Nat.le_refl _
theorem txtT_size (s : ByteArray) (bad : Bool) : (txtT s bad).2.1.size ≤ s.size ∧ (txtT s bad).1.size ≤ s.size := by
  obtain ⟨_, h2, h3, _⟩ := tt_range s
  unfold txtT
  split
  · exact ⟨h3, h2⟩
  · exact ⟨Nat.le_refl _, by rw [empty_size]; omega⟩
theorem txtT_bad (s : ByteArray) : (txtT s true).2.2 = true := by unfold txtT; split <;> rfl
theorem numT_good {s : ByteArray} {b : Bool} (h1 : (tv s).2.2 = true) (h2 : (tv s).1 ≤ 4611686018427387904) : numT s b = ((tv s).1, (tv s).2.1, b) := by
  unfold numT
  rw [if_pos ⟨h1, h2⟩]
theorem numT_not {s : ByteArray} {b : Bool} (h : ¬ ((tv s).2.2 = true ∧ (tv s).1 ≤ 4611686018427387904)) : numT s b = (0, s, true) := by
  unfold numT
  rw [if_neg h]
theorem txtT_good {s : ByteArray} {b : Bool} (h1 : (tt s).2.2 = true) : txtT s b = ((tt s).1, (tt s).2.1, b) := by
  unfold txtT
  rw [if_pos h1]
theorem txtT_not {s : ByteArray} {b : Bool} (h : ¬ (tt s).2.2 = true) : txtT s b = (⟨#[]⟩, s, true) := by
  unfold txtT
  rw [if_neg h]
end Go.Proofs.Ytidjdkodgddfcaa.P
end

section
namespace Go.Proofs.Ytidjdkodgddfcaa.Pure
open Go.RowKit Go.Proofs.YtidjdkodgddfcaaW.PrintWords Go.Proofs.YtidjdkodgddfcaaW.PrintLast Go.Proofs.YtidjdkodgddfcaaW.PrintMore
open Go.Proofs.Ytidjdkodgddfcaa.P
set_option linter.unusedVariables false
set_option linter.unusedSimpArgs false
def cpl : List Int → List Int → Nat
  | a :: x, b :: y => if a = b then cpl x y + 1 else 0
  | _, _ => 0
def shv (a b : ByteArray) : Nat := cpl (bytesOf a) (bytesOf b)
theorem cpl_le : ∀ a b : List Int, cpl a b ≤ a.length ∧ cpl a b ≤ b.length
  | [], _ => by simp [cpl]
  | _ :: _, [] => by simp [cpl]
  | a :: x, b :: y => by
    have := cpl_le x y
    unfold cpl
    split
    · simp only [List.length_cons]; omega
    · simp
theorem shv_le (a b : ByteArray) : shv a b ≤ a.size ∧ shv a b ≤ b.size := by
  have := cpl_le (bytesOf a) (bytesOf b)
  rw [bytesOf_length, bytesOf_length] at this
  exact this
theorem drop_bt (s : ByteArray) (i : Nat) (h : i < s.size) : (bytesOf s).drop i = bt s (i : Int) :: (bytesOf s).drop (i + 1) := by
  have hl : i < (bytesOf s).length := by rw [bytesOf_length]; exact h
  rw [List.drop_eq_getElem_cons hl]
  congr 1
  rw [← rd_bytesOf]
  unfold rd
  rw [Int.toNat_natCast, List.getD_eq_getElem?_getD, List.getElem?_eq_getElem hl]
  rfl
theorem shared_ev (a b : ByteArray) (ha : a.size ≤ 2097152) : Ev (fun k => impl_SharedWith.f k a b) ((shv a b : Nat) : Int) := by
  have key : ∀ i, i ≤ a.size → Ev (fun k => impl_SharedWith.l0 k a b (i : Int)) ((i + cpl ((bytesOf a).drop i) ((bytesOf b).drop i) : Nat) : Int) := by
    refine downTo a.size ?_ ?_
    · refine Ev.step (fun k => impl_SharedWith.l0.eq_2 ..) (Ev.neg (by omega) ((Ev.now _).eqr ?_))
      rw [← bytesOf_length a, List.drop_length]
      simp [cpl]
    · intro i hi ih
      refine Ev.step (fun k => impl_SharedWith.l0.eq_2 ..) (Ev.pos (by omega) ?_)
      rw [drop_bt a i hi]
      by_cases h1 : i < b.size
      · rw [drop_bt b i h1]
        refine Ev.pos (by omega) (Ev.pos (by omega) ?_)
        by_cases h2 : bt a i = bt b i
        · refine Ev.pos h2 ?_
          rw [wsucc (by omega)]
          refine ih.eqr ?_
          rw [cpl, if_pos h2]
          omega
        · refine Ev.neg h2 ((Ev.now _).eqr ?_)
          rw [cpl, if_neg h2]
          rfl
      · refine Ev.neg (by omega) ((Ev.now _).eqr ?_)
        rw [show (bytesOf b).drop i = [] from List.drop_eq_nil_of_le (by rw [bytesOf_length]; omega)]
        simp [cpl]
  have := key 0 (Nat.zero_le _)
  rw [List.drop_zero, List.drop_zero, Nat.zero_add] at this
  exact this
theorem sShared_ev (a b : ByteArray) (ha : a.size ≤ 2097152) : Ev (fun k => spec_SharedWith.f k a b) ((shv a b : Nat) : Int) := by
  have key : ∀ i, i ≤ a.size → Ev (fun k => spec_SharedWith.l0 k a b (i : Int)) ((i + cpl ((bytesOf a).drop i) ((bytesOf b).drop i) : Nat) : Int) := by
    refine downTo a.size ?_ ?_
    · refine Ev.step (fun k => spec_SharedWith.l0.eq_2 ..) (Ev.neg (by omega) ((Ev.now _).eqr ?_))
      rw [← bytesOf_length a, List.drop_length]
      simp [cpl]
    · intro i hi ih
      refine Ev.step (fun k => spec_SharedWith.l0.eq_2 ..) (Ev.pos (by omega) ?_)
      rw [drop_bt a i hi]
      by_cases h1 : i < b.size
      · rw [drop_bt b i h1]
        refine Ev.pos (by omega) (Ev.pos (by omega) ?_)
        by_cases h2 : bt a i = bt b i
        · refine Ev.pos h2 ?_
          rw [wsucc (by omega)]
          refine ih.eqr ?_
          rw [cpl, if_pos h2]
          omega
        · refine Ev.neg h2 ((Ev.now _).eqr ?_)
          rw [cpl, if_neg h2]
          rfl
      · refine Ev.neg (by omega) ((Ev.now _).eqr ?_)
        rw [show (bytesOf b).drop i = [] from List.drop_eq_nil_of_le (by rw [bytesOf_length]; omega)]
        simp [cpl]
  have := key 0 (Nat.zero_le _)
  rw [List.drop_zero, List.drop_zero, Nat.zero_add] at this
  exact this
def kn (q d : Int) : Int := 2 * q + d
def kt (u : ByteArray) (q d : Int) : ByteArray := (u ++ pf (kn q d % 4294967296)) ++ pf (kn q d / 4294967296 % 4294967296)
theorem kt_size (u : ByteArray) (q d : Int) : (kt u q d).size = u.size + 8 := by
  unfold kt
  rw [ByteArray.size_append, ByteArray.size_append, pf_size, pf_size]
theorem keyText_ev {u : ByteArray} {q d : Int} (h : isK u q d) : impl_keyText.f u q d = some (kt u q d) := by
  obtain ⟨⟨h1, h2⟩, h3, h4⟩ := h
  have e : IntKind.u64.wrap (wrap64 (wrap64 (2 * q) + d)) = kn q d := by
    rw [wid (x := 2 * q) (by omega) (by omega), wid (by omega) (by omega), uid (by omega) (by omega)]
    rfl
  unfold impl_keyText.f
  have z1 := pf_size (kn q d % 4294967296)
  have z2 := pf_size (kn q d / 4294967296 % 4294967296)
  rw [e, putFixed_ev, putFixed_ev, Option.bind_some, if_pos (by omega), Option.bind_some, if_pos (by omega)]
  rfl
theorem sKeyText_ev {u : ByteArray} {q d : Int} (h : isK u q d) : spec_KeyText.f u q d = some (kt u q d) := by
  have hk := sKeyOk_ev u q d
  rw [decide_eq_true h] at hk
  obtain ⟨⟨h1, h2⟩, h3, h4⟩ := h
  have e : IntKind.u64.wrap (wrap64 (wrap64 (2 * q) + d)) = kn q d := by
    rw [wid (x := 2 * q) (by omega) (by omega), wid (by omega) (by omega), uid (by omega) (by omega)]
    rfl
  unfold spec_KeyText.f
  have z1 := pf_size (kn q d % 4294967296)
  have z2 := pf_size (kn q d / 4294967296 % 4294967296)
  rw [hk, Option.bind_some, if_pos rfl, e, sPutFixed_ev, sPutFixed_ev, Option.bind_some, if_pos (by omega), Option.bind_some, if_pos (by omega)]
  rfl
def ekt (e : S64) : ByteArray := kt e.f0.f0 e.f0.f1 e.f0.f2
def blkGo (every : Int) : Nat → List S64 → ByteArray → ByteArray → ByteArray → Int → ByteArray
  | _, [], out, _, anew, many => ((out ++ anew) ++ pf many) ++ pf (every % 4294967296)
  | i, e :: es, out, ahead, anew, many =>
    if Int.tmod (i : Int) every = 0 then blkGo every (i + 1) es (out ++ (pv 0 ++ pt (ekt e) ++ pt e.f1)) (ekt e) (anew ++ pf ((out.size : Int) % 4294967296)) ((many + 1) % 4294967296)
    else blkGo every (i + 1) es (out ++ (pv (shv ahead (ekt e)) ++ pt ((ekt e).extract (shv ahead (ekt e)) (ekt e).size) ++ pt e.f1)) (ekt e) anew many
def blkT (l : List S64) (every : Int) : ByteArray := blkGo every 0 l ⟨#[]⟩ ⟨#[]⟩ ⟨#[]⟩ 0
noncomputable def blkV (l : List S64) (every : Int) : ByteArray × Bool :=
  if isRow l ∧ l.length ≠ 0 ∧ 1 ≤ every ∧ every ≤ 16 then (if ((blkT l every).size : Int) > 60000 then (⟨#[]⟩, false) else (blkT l every, true)) else (⟨#[]⟩, false)
theorem row_small {l : List S64} (h : isRow l) (i : Nat) (hi : i < l.length) : isK l[i].f0.f0 l[i].f0.f1 l[i].f0.f2 ∧ l[i].f0.f0.size ≤ 40 ∧ l[i].f1.size ≤ 200 := by
  have := (h.2 i (Nat.zero_le _) hi).1
  unfold isEx isE at this
  refine ⟨this.1, this.1.1.2, this.2.1⟩
theorem block_ev (l : List S64) (h : isRow l) (every : Int) (h1 : 1 ≤ every) (h2 : every ≤ 16) : Ev (fun k => impl_block.f k l every) (blkT l every) := by
  have key : ∀ i, i ≤ l.length → ∀ (out ahead anew : ByteArray) (many : Int), out.size ≤ 400 * i → ahead.size ≤ 48 → anew.size ≤ 4 * i → Ev (fun k => impl_block.l0 k every out ahead anew many l (l.length : Int) (i : Int)) (blkGo every i (l.drop i) out ahead anew many) := by
    have hlen := h.1
    refine downTo l.length ?_ ?_
    · intro out ahead anew many z1 z2 z3
      rw [List.drop_length]
      refine Ev.step (fun k => impl_block.l0.eq_2 ..) ?_
      have p1 := pf_size many
      have p2 := pf_size (every % 4294967296)
      exact Ev.neg (by omega) (Ev.pos (by omega) (Ev.bindS (putFixed_ev _) (Ev.pos (by omega) (Ev.bindS (putFixed_ev _) (Ev.pos (by omega) (Ev.now _))))))
    · intro i hi ih out ahead anew many z1 z2 z3
      obtain ⟨hk, hu, hv⟩ := row_small h i hi
      have hz := kt_size l[i].f0.f0 l[i].f0.f1 l[i].f0.f2
      rw [List.drop_eq_getElem_cons hi]
      refine Ev.step (fun k => impl_block.l0.eq_2 ..) ?_
      refine Ev.pos (by omega) (Ev.pos (by omega) (Ev.pos (by omega) ?_))
      rw [rdE l i hi]
      refine Ev.bindS (keyText_ev hk) (Ev.neg (by omega) ?_)
      have pv0 := pv_size (n := 0) (by omega)
      have v1 := putText_ev l[i].f1 (by omega)
      have v2 := pt_size l[i].f1 (by omega)
      have ee : ekt l[i] = kt l[i].f0.f0 l[i].f0.f1 l[i].f0.f2 := rfl
      by_cases c : Int.tmod (i : Int) every = 0
      · have k1 := putText_ev (ekt l[i]) (by rw [ee]; omega)
        have k2 := pt_size (ekt l[i]) (by rw [ee]; omega)
        have n0 := putInt_ev 0 (by omega)
        have pfz := pf_size ((out.size : Int) % 4294967296)
        rw [← ee] at hz ⊢
        refine Ev.pos c (Ev.bindS (putFixed_ev _) (Ev.pos (by omega) (Ev.bind n0 (Ev.pos (by omega) ?_))))
        rw [ByteArray.extract_zero_size]
        refine Ev.bind k1 (Ev.pos (by omega) (Ev.bind v1 (Ev.pos (by omega) (Ev.pos (by omega) ?_))))
        rw [wsucc (by omega)]
        refine (ih _ (ekt l[i]) _ _ ?_ (by omega) ?_).eqr ?_
        · rw [ByteArray.size_append, ByteArray.size_append, ByteArray.size_append]; omega
        · rw [ByteArray.size_append]; omega
        · rw [blkGo, if_pos c]
      · obtain ⟨s1, s2⟩ := shv_le ahead (ekt l[i])
        have hsh := shared_ev ahead (ekt l[i]) (by omega)
        have ns := putInt_ev (shv ahead (ekt l[i])) (by omega)
        have nz := pv_size (n := shv ahead (ekt l[i])) (by omega)
        have ez : ((ekt l[i]).extract (shv ahead (ekt l[i])) (ekt l[i]).size).size ≤ 48 := by rw [ByteArray.size_extract]; rw [ee]; omega
        have k1 := putText_ev ((ekt l[i]).extract (shv ahead (ekt l[i])) (ekt l[i]).size) (by omega)
        have k2 := pt_size ((ekt l[i]).extract (shv ahead (ekt l[i])) (ekt l[i]).size) (by omega)
        rw [← ee] at hz ⊢
        refine Ev.neg c (Ev.bind hsh (Ev.bind ns (Ev.pos (by omega) (Ev.pos (by omega) ?_))))
        rw [Int.toNat_natCast]
        refine Ev.bind k1 (Ev.pos (by omega) (Ev.bind v1 (Ev.pos (by omega) (Ev.pos (by omega) ?_))))
        rw [wsucc (by omega)]
        refine (ih _ (ekt l[i]) _ _ ?_ (by omega) (by omega)).eqr ?_
        · rw [ByteArray.size_append, ByteArray.size_append, ByteArray.size_append]; omega
        · rw [blkGo, if_neg c]
  exact key 0 (Nat.zero_le _) _ _ _ _ (by simp [empty_size]) (by simp [empty_size]) (by simp [empty_size])
theorem sBlock_ev (l : List S64) (h : isRow l) (every : Int) (h1 : 1 ≤ every) (h2 : every ≤ 16) : Ev (fun k => spec_BlockOf.l0 k l every ⟨#[]⟩ ⟨#[]⟩ 0 ⟨#[]⟩ 0) (if ((blkT l every).size : Int) > 60000 then (⟨#[]⟩, false) else (blkT l every, true)) := by
  have key : ∀ i, i ≤ l.length → ∀ (out ahead anew : ByteArray) (many : Int), out.size ≤ 400 * i → ahead.size ≤ 48 → anew.size ≤ 4 * i → Ev (fun k => spec_BlockOf.l0 k l every out anew many ahead (i : Int)) (if ((blkGo every i (l.drop i) out ahead anew many).size : Int) > 60000 then (⟨#[]⟩, false) else (blkGo every i (l.drop i) out ahead anew many, true)) := by
    have hlen := h.1
    refine downTo l.length ?_ ?_
    · intro out ahead anew many z1 z2 z3
      rw [List.drop_length]
      refine Ev.step (fun k => spec_BlockOf.l0.eq_2 ..) ?_
      have p1 := pf_size many
      have p2 := pf_size (every % 4294967296)
      refine Ev.neg (by omega) (Ev.pos (by omega) (Ev.bindS (sPutFixed_ev _) (Ev.pos (by omega) (Ev.bindS (sPutFixed_ev _) (Ev.pos (by omega) ?_)))))
      rw [blkGo]
      by_cases c : (((((out ++ anew) ++ pf many) ++ pf (every % 4294967296)).size : Nat) : Int) > 60000
      · exact Ev.pos c ((Ev.now _).eqr (if_pos c).symm)
      · exact Ev.neg c ((Ev.now _).eqr (if_neg c).symm)
    · intro i hi ih out ahead anew many z1 z2 z3
      obtain ⟨hk, hu, hv⟩ := row_small h i hi
      have hz := kt_size l[i].f0.f0 l[i].f0.f1 l[i].f0.f2
      rw [List.drop_eq_getElem_cons hi]
      refine Ev.step (fun k => spec_BlockOf.l0.eq_2 ..) ?_
      refine Ev.pos (by omega) (Ev.pos (by omega) ?_)
      rw [rdE l i hi]
      have pv0 := pv_size (n := 0) (by omega)
      have v1 := sPutText_ev l[i].f1 (by omega)
      have v2 := pt_size l[i].f1 (by omega)
      have ee : ekt l[i] = kt l[i].f0.f0 l[i].f0.f1 l[i].f0.f2 := rfl
      obtain ⟨s1, s2⟩ := shv_le ahead (ekt l[i])
      have hsh := sShared_ev ahead (ekt l[i]) (by omega)
      refine Ev.bindS (sKeyText_ev hk) ?_
      rw [← ee] at hz ⊢
      refine Ev.bind hsh (Ev.neg (by omega) ?_)
      by_cases c : Int.tmod (i : Int) every = 0
      · have k1 := sPutText_ev (ekt l[i]) (by rw [ee]; rw [ee] at hz; omega)
        have k2 := pt_size (ekt l[i]) (by rw [ee]; rw [ee] at hz; omega)
        have n0 := sPutVar_ev 0 (by omega)
        have pfz := pf_size ((out.size : Int) % 4294967296)
        refine Ev.pos c (Ev.bindS (sPutFixed_ev _) (Ev.pos (by omega) (Ev.bind n0 (Ev.pos (by omega) (Ev.pos (by omega) ?_)))))
        rw [ByteArray.extract_zero_size]
        refine Ev.bind k1 (Ev.pos (by omega) (Ev.bind v1 (Ev.pos (by omega) ?_)))
        rw [wsucc (by omega), show ((out ++ pv 0) ++ pt (ekt l[i])) ++ pt l[i].f1 = out ++ (pv 0 ++ pt (ekt l[i]) ++ pt l[i].f1) from by simp only [ByteArray.append_assoc]]
        refine (ih _ (ekt l[i]) _ _ ?_ (by omega) ?_).eqr ?_
        · rw [ByteArray.size_append, ByteArray.size_append, ByteArray.size_append]; omega
        · rw [ByteArray.size_append]; omega
        · rw [blkGo, if_pos c]
      · have ns := sPutVar_ev (shv ahead (ekt l[i])) (by omega)
        have nz := pv_size (n := shv ahead (ekt l[i])) (by omega)
        have ez : ((ekt l[i]).extract (shv ahead (ekt l[i])) (ekt l[i]).size).size ≤ 48 := by rw [ByteArray.size_extract]; omega
        have k1 := sPutText_ev ((ekt l[i]).extract (shv ahead (ekt l[i])) (ekt l[i]).size) (by omega)
        have k2 := pt_size ((ekt l[i]).extract (shv ahead (ekt l[i])) (ekt l[i]).size) (by omega)
        refine Ev.neg c ?_
        rw [uid (by omega) (by omega)]
        refine Ev.bind ns (Ev.pos (by omega) (Ev.pos (by omega) (Ev.pos (by omega) ?_)))
        rw [Int.toNat_natCast]
        refine Ev.bind k1 (Ev.pos (by omega) (Ev.bind v1 (Ev.pos (by omega) ?_)))
        rw [wsucc (by omega), show ((out ++ pv (shv ahead (ekt l[i]))) ++ pt ((ekt l[i]).extract (shv ahead (ekt l[i])) (ekt l[i]).size)) ++ pt l[i].f1 = out ++ (pv (shv ahead (ekt l[i])) ++ pt ((ekt l[i]).extract (shv ahead (ekt l[i])) (ekt l[i]).size) ++ pt l[i].f1) from by simp only [ByteArray.append_assoc]]
        refine (ih _ (ekt l[i]) _ _ ?_ (by omega) (by omega)).eqr ?_
        · rw [ByteArray.size_append, ByteArray.size_append, ByteArray.size_append]; omega
        · rw [blkGo, if_neg c]
  exact key 0 (Nat.zero_le _) _ _ _ _ (by simp [empty_size]) (by simp [empty_size]) (by simp [empty_size])
theorem blockOf_ev (l : List S64) (hl : l.length < 2097152) (every : Int) : Ev (fun k => impl_BlockOf.f k l every) (blkV l every) := by
  have hw := within_ev every 1 16
  have jt : ¬ (isRow l ∧ l.length ≠ 0 ∧ 1 ≤ every ∧ every ≤ 16) → Ev (fun k => impl_BlockOf.j0 k l every true) (blkV l every) := fun h => by
    refine Ev.step (fun k => impl_BlockOf.j0.eq_2 ..) ?_
    exact Ev.pos rfl ((Ev.now _).eqr (if_neg h).symm)
  unfold impl_BlockOf.f
  refine Ev.bind (entriesOk_ev l hl) ?_
  by_cases c1 : isRow l
  · refine Ev.pos (decide_eq_true c1) ?_
    by_cases c2 : l.length = 0
    · exact Ev.pos (by omega) (jt fun h => h.2.1 c2)
    · refine Ev.neg (by omega) (Ev.bindS hw ?_)
      by_cases c3 : 1 ≤ every ∧ every ≤ 16
      · rw [decide_eq_true c3]
        refine Ev.step (fun k => impl_BlockOf.j0.eq_2 ..) ?_
        refine Ev.neg (by decide) (Ev.eqr ?_ (if_pos ⟨c1, c2, c3.1, c3.2⟩).symm)
        refine Ev.bind (block_ev l c1 every c3.1 c3.2) ?_
        by_cases c4 : ((blkT l every).size : Int) > 60000
        · exact Ev.pos c4 ((Ev.now _).eqr (if_pos c4).symm)
        · exact Ev.neg c4 ((Ev.now _).eqr (if_neg c4).symm)
      · rw [decide_eq_false c3]
        exact jt fun h => c3 h.2.2
  · exact Ev.neg (by simpa using c1) (jt fun h => c1 h.1)
theorem sBlockOf_ev (l : List S64) (hl : l.length < 2097152) (every : Int) : Ev (fun k => spec_BlockOf.f k l every) (blkV l every) := by
  have hw := in_ev every 1 16
  have jt : ¬ (isRow l ∧ l.length ≠ 0 ∧ 1 ≤ every ∧ every ≤ 16) → Ev (fun k => spec_BlockOf.j0 k l every true) (blkV l every) := fun h => by
    refine Ev.step (fun k => spec_BlockOf.j0.eq_2 ..) ?_
    exact Ev.pos rfl ((Ev.now _).eqr (if_neg h).symm)
  unfold spec_BlockOf.f
  refine Ev.bind (sEntriesOk_ev l hl) ?_
  by_cases c1 : isRow l
  · refine Ev.pos (decide_eq_true c1) ?_
    by_cases c2 : l.length = 0
    · exact Ev.pos (by omega) (jt fun h => h.2.1 c2)
    · refine Ev.neg (by omega) (Ev.bindS hw ?_)
      by_cases c3 : 1 ≤ every ∧ every ≤ 16
      · rw [decide_eq_true c3]
        refine Ev.step (fun k => spec_BlockOf.j0.eq_2 ..) ?_
        refine Ev.neg (by decide) (Ev.eqr ?_ (if_pos ⟨c1, c2, c3.1, c3.2⟩).symm)
        exact sBlock_ev l c1 every c3.1 c3.2
      · rw [decide_eq_false c3]
        exact jt fun h => c3 h.2.2
  · exact Ev.neg (by simpa using c1) (jt fun h => c1 h.1)
end Go.Proofs.Ytidjdkodgddfcaa.Pure
end

section
namespace Go.Proofs.Ytidjdkodgddfcaa.Pure
open Go.RowKit Go.Proofs.YtidjdkodgddfcaaW.PrintWords Go.Proofs.YtidjdkodgddfcaaW.PrintLast Go.Proofs.YtidjdkodgddfcaaW.PrintMore
open Go.Proofs.Ytidjdkodgddfcaa.P
set_option linter.unusedVariables false
set_option linter.unusedSimpArgs false
def rkN (s : ByteArray) : Int := f4 ((s.extract (s.size - 8) s.size).extract 4 8) * 4294967296 + f4 (s.extract (s.size - 8) s.size)
noncomputable def rkV (s : ByteArray) : ByteArray × Int × Int × Bool :=
  if 9 ≤ s.size ∧ isK (s.extract 0 (s.size - 8)) (rkN s / 2) (rkN s % 2) then (s.extract 0 (s.size - 8), rkN s / 2, rkN s % 2, true) else (⟨#[]⟩, 0, 0, false)
theorem tail_size (s : ByteArray) (h : 8 ≤ s.size) : (s.extract (s.size - 8) s.size).size = 8 := by rw [ByteArray.size_extract]; omega
theorem rkN_range (s : ByteArray) : 0 ≤ rkN s ∧ rkN s < 18446744073709551616 := by
  have h1 := f4_range (s.extract (s.size - 8) s.size)
  have h2 := f4_range ((s.extract (s.size - 8) s.size).extract 4 8)
  unfold rkN
  omega
theorem tf_tail (s : ByteArray) (h : 8 ≤ s.size) : tf (s.extract (s.size - 8) s.size) = (f4 (s.extract (s.size - 8) s.size), (s.extract (s.size - 8) s.size).extract 4 8, true) := by
  unfold tf
  rw [tail_size s h, if_neg (by omega)]
theorem tf_tail2 (s : ByteArray) (h : 8 ≤ s.size) : (tf ((s.extract (s.size - 8) s.size).extract 4 8)).1 = f4 ((s.extract (s.size - 8) s.size).extract 4 8) ∧ (tf ((s.extract (s.size - 8) s.size).extract 4 8)).2.2 = true := by
  unfold tf
  rw [if_neg (by rw [ByteArray.size_extract, tail_size s h]; omega)]
  exact ⟨rfl, rfl⟩
theorem or_halves (a b : Int) (ha : 0 ≤ a) (ha1 : a < 4294967296) (hb : 0 ≤ b) (hb1 : b < 4294967296) : Go.bits .or .u64 (a * 4294967296) b = a * 4294967296 + b :=
  bits_join .u64 64 (by decide) wraps_u64 32 (a * 4294967296) b (by omega) (by omega) (by omega) hb (by omega) (by omega)
theorem wraps_i64 (n : Int) (h₀ : 0 ≤ n) (h₁ : n < 2 ^ 63) : IntKind.i64.wrap n = n := by
  rw [i64_w]
  exact wid (by omega) (by omega)
theorem or_halves_i (a b : Int) (ha : 0 ≤ a) (ha1 : a < 1073741824) (hb : 0 ≤ b) (hb1 : b < 4294967296) : Go.bits .or .i64 (a * 4294967296) b = a * 4294967296 + b :=
  bits_join .i64 63 (by decide) wraps_i64 32 (a * 4294967296) b (by omega) (by omega) (by omega) hb (by omega) (by omega)
theorem readKey_ev (s : ByteArray) (hs : s.size ≤ 4611686018427387904) : impl_ReadKey.f s = some (rkV s) := by
  unfold impl_ReadKey.f rkV
  rw [wid (x := (s.size : Int) - 8) (by omega) (by omega)]
  by_cases c : 9 ≤ s.size
  · have h1 := f4_range (s.extract (s.size - 8) s.size)
    have h2 := f4_range ((s.extract (s.size - 8) s.size).extract 4 8)
    have hn := rkN_range s
    obtain ⟨t1, t2⟩ := tf_tail2 s (by omega)
    rw [if_neg (by omega), if_pos (by omega), if_pos (by omega), show ((s.size : Int) - 8).toNat = s.size - 8 from by omega, takeFixed_ev, Option.bind_some, tf_tail s (by omega)]
    simp only []
    rw [takeFixed_ev, Option.bind_some, t1, uid (x := f4 ((s.extract (s.size - 8) s.size).extract 4 8)) (by omega) (by omega), uid (x := f4 ((s.extract (s.size - 8) s.size).extract 4 8) * 4294967296) (by omega) (by omega), uid (x := f4 (s.extract (s.size - 8) s.size)) (by omega) (by omega), or_halves _ _ h2.1 h2.2 h1.1 h1.2]
    rw [show f4 ((s.extract (s.size - 8) s.size).extract 4 8) * 4294967296 + f4 (s.extract (s.size - 8) s.size) = rkN s from rfl]
    rw [Int.tdiv_eq_ediv_of_nonneg hn.1, Int.tmod_eq_emod_of_nonneg hn.1, uid (x := rkN s / 2) (by omega) (by omega), wid (x := rkN s / 2) (by omega) (by omega), wid (x := rkN s % 2) (by omega) (by omega), keyOk_ev, Option.bind_some]
    by_cases ck : isK (s.extract 0 (s.size - 8)) (rkN s / 2) (rkN s % 2)
    · rw [if_pos (decide_eq_true ck), if_pos ⟨c, ck⟩]
    · rw [if_neg (by simpa using ck), if_neg (fun h => ck h.2)]
  · rw [if_pos (by omega), if_neg (fun h => c h.1)]
theorem sReadKey_ev (s : ByteArray) (hs : s.size ≤ 4611686018427387904) : spec_ReadKey.f s = some (rkV s) := by
  unfold spec_ReadKey.f rkV
  rw [wid (x := (s.size : Int) - 8) (by omega) (by omega)]
  by_cases c : 9 ≤ s.size
  · have h1 := f4_range (s.extract (s.size - 8) s.size)
    have h2 := f4_range ((s.extract (s.size - 8) s.size).extract 4 8)
    have hn := rkN_range s
    obtain ⟨t1, t2⟩ := tf_tail2 s (by omega)
    rw [if_neg (by omega), if_pos (by omega), if_pos (by omega), show ((s.size : Int) - 8).toNat = s.size - 8 from by omega, sTakeFixed_ev, Option.bind_some, tf_tail s (by omega)]
    simp only []
    rw [sTakeFixed_ev, Option.bind_some, t1]
    by_cases ch : f4 ((s.extract (s.size - 8) s.size).extract 4 8) ≥ 1073741824
    · rw [if_pos ch, if_neg]
      rintro ⟨_, _, h, _⟩
      unfold rkN at h
      omega
    · rw [if_neg ch, wid (x := f4 ((s.extract (s.size - 8) s.size).extract 4 8)) (by omega) (by omega), wid (x := f4 ((s.extract (s.size - 8) s.size).extract 4 8) * 4294967296) (by omega) (by omega), wid (x := f4 (s.extract (s.size - 8) s.size)) (by omega) (by omega), or_halves_i _ _ h2.1 (by omega) h1.1 h1.2]
      rw [show f4 ((s.extract (s.size - 8) s.size).extract 4 8) * 4294967296 + f4 (s.extract (s.size - 8) s.size) = rkN s from rfl]
      rw [Int.tdiv_eq_ediv_of_nonneg hn.1, Int.tmod_eq_emod_of_nonneg hn.1, wid (x := rkN s / 2) (by omega) (by omega), sKeyOk_ev, Option.bind_some]
      by_cases ck : isK (s.extract 0 (s.size - 8)) (rkN s / 2) (rkN s % 2)
      · rw [if_pos (decide_eq_true ck), if_pos ⟨c, ck⟩]
      · rw [if_neg (by simpa using ck), if_neg (fun h => ck h.2)]
  · rw [if_pos (by omega), if_neg (fun h => c h.1)]
structure Part where
  n : Int
  own : ByteArray
  value : ByteArray
  left : ByteArray
  good : Prop
def part (s : ByteArray) : Part := ⟨(tv s).1, (tt (tv s).2.1).1, (tt (tt (tv s).2.1).2.1).1, (tt (tt (tv s).2.1).2.1).2.1, (tv s).2.2 = true ∧ (tt (tv s).2.1).2.2 = true ∧ (tt (tt (tv s).2.1).2.1).2.2 = true⟩
noncomputable instance (P : Part) : Decidable P.good := Classical.propDecidable _
noncomputable def rdGo : Nat → ByteArray → List S64 → ByteArray → Option (List S64)
  | 0, left, acc, _ => if left.toList = [] then some acc else none
  | d + 1, left, acc, last => if left.toList = [] then some acc else
      if (part left).good ∧ (part left).n ≤ (last.size : Int) ∧ acc.length < 400 ∧ (rkV (last.extract 0 (part left).n.toNat ++ (part left).own)).2.2.2 = true then
        rdGo d (part left).left (acc ++ [⟨⟨(rkV (last.extract 0 (part left).n.toNat ++ (part left).own)).1, (rkV (last.extract 0 (part left).n.toNat ++ (part left).own)).2.1, (rkV (last.extract 0 (part left).n.toNat ++ (part left).own)).2.2.1⟩, (part left).value⟩]) (last.extract 0 (part left).n.toNat ++ (part left).own)
      else none
noncomputable def rdEnd (s : ByteArray) (every : Int) : Option (List S64) → List S64 × Bool
  | some acc => if (blkV acc every).2 = true ∧ (blkV acc every).1.toList = s.toList then (acc, true) else ([], false)
  | none => ([], false)
theorem part_size (s : ByteArray) : (part s).own.size ≤ 60000 ∧ (part s).left.size ≤ s.size ∧ 0 ≤ (part s).n ∧ ((part s).good → (part s).left.size < s.size) := by
  obtain ⟨r0, r1, r2, r3⟩ := tv_range s
  obtain ⟨a0, a1, a2, _⟩ := tt_range (tv s).2.1
  obtain ⟨b0, b1, b2, _⟩ := tt_range (tt (tv s).2.1).2.1
  refine ⟨a0, by show (tt (tt (tv s).2.1).2.1).2.1.size ≤ _; omega, r0, fun h => ?_⟩
  have := r3 h.1
  show (tt (tt (tv s).2.1).2.1).2.1.size < _
  omega
theorem sReadEntries_ev (s : ByteArray) (every : Int) (he0 : 0 ≤ every) (he : every < 4294967296) : ∀ (d : Nat) (left : ByteArray) (acc : List S64) (last : ByteArray), left.size ≤ d → d ≤ 2097152 → acc.length ≤ 400 → last.size ≤ 60000 * (acc.length + 1) →
    Ev (fun k => spec_ReadBlock.l0 k s every left acc last) (rdEnd s every (rdGo d left acc last)) := by
  intro d
  induction d with
  | zero =>
    intro left acc last hd hd2 ha hl
    have : left.toList = [] := by rw [ByteArray.toList_eq]; exact List.eq_nil_of_length_eq_zero (by rw [data_length]; omega)
    unfold rdGo
    rw [if_pos this]
    refine Ev.step (fun k => spec_ReadBlock.l0.eq_2 ..) ?_
    rw [wid (by omega) (by omega)]
    refine Ev.pos this (Ev.bind (sBlockOf_ev acc (by omega) every) ?_)
    by_cases c1 : (blkV acc every).2 = true
    · refine Ev.pos c1 ?_
      by_cases c2 : (blkV acc every).1.toList = s.toList
      · exact Ev.pos c2 ((Ev.now _).eqr (if_pos ⟨c1, c2⟩).symm)
      · exact Ev.neg c2 ((Ev.now _).eqr (if_neg fun h => c2 h.2).symm)
    · exact Ev.neg c1 ((Ev.now _).eqr (if_neg fun h => c1 h.1).symm)
  | succ d ih =>
    intro left acc last hd hd2 ha hl
    refine Ev.step (fun k => spec_ReadBlock.l0.eq_2 ..) ?_
    unfold rdGo
    by_cases c : left.toList = []
    · rw [if_pos c]
      rw [wid (by omega) (by omega)]
      refine Ev.pos c (Ev.bind (sBlockOf_ev acc (by omega) every) ?_)
      by_cases c1 : (blkV acc every).2 = true
      · refine Ev.pos c1 ?_
        by_cases c2 : (blkV acc every).1.toList = s.toList
        · exact Ev.pos c2 ((Ev.now _).eqr (if_pos ⟨c1, c2⟩).symm)
        · exact Ev.neg c2 ((Ev.now _).eqr (if_neg fun h => c2 h.2).symm)
      · exact Ev.neg c1 ((Ev.now _).eqr (if_neg fun h => c1 h.1).symm)
    · rw [if_neg c]
      obtain ⟨r0, r1, r2, r3⟩ := tv_range left
      obtain ⟨a0, a1, a2, _⟩ := tt_range (tv left).2.1
      obtain ⟨p1, p2, p3, p4⟩ := part_size left
      refine Ev.neg c (Ev.bind (sTakeVar_ev left (by omega)) (Ev.bind (sTakeText_ev _ (by omega)) (Ev.bind (sTakeText_ev _ (by omega)) ?_)))
      have jt : ∀ (x : ByteArray) (n : Int) (o v : ByteArray), ¬ ((part left).good ∧ (part left).n ≤ (last.size : Int) ∧ acc.length < 400 ∧ (rkV (last.extract 0 (part left).n.toNat ++ (part left).own)).2.2.2 = true) → Ev (fun k => spec_ReadBlock.j2 k s every acc last n o v x true) (rdEnd s every (if (part left).good ∧ (part left).n ≤ (last.size : Int) ∧ acc.length < 400 ∧ (rkV (last.extract 0 (part left).n.toNat ++ (part left).own)).2.2.2 = true then
        rdGo d (part left).left (acc ++ [⟨⟨(rkV (last.extract 0 (part left).n.toNat ++ (part left).own)).1, (rkV (last.extract 0 (part left).n.toNat ++ (part left).own)).2.1, (rkV (last.extract 0 (part left).n.toNat ++ (part left).own)).2.2.1⟩, (part left).value⟩]) (last.extract 0 (part left).n.toNat ++ (part left).own)
      else none)) := fun x n o v h => by
        rw [if_neg h]
        refine Ev.step (fun k => spec_ReadBlock.j2.eq_2 ..) ?_
        exact Ev.pos rfl (Ev.now _)
      by_cases c1 : (tv left).2.2 = true
      case neg => exact Ev.neg c1 (jt _ _ _ _ fun h => c1 h.1.1)
      refine Ev.pos c1 ?_
      by_cases c2 : (tt (tv left).2.1).2.2 = true
      case neg => exact Ev.neg c2 (jt _ _ _ _ fun h => c2 h.1.2.1)
      refine Ev.pos c2 ?_
      by_cases c3 : (tt (tt (tv left).2.1).2.1).2.2 = true
      case neg => exact Ev.neg c3 (jt _ _ _ _ fun h => c3 h.1.2.2)
      refine Ev.pos c3 ?_
      have hlast : last.size ≤ 60000 * 401 := by omega
      rw [uid (x := (last.size : Int)) (by omega) (by omega)]
      have hg : (part left).good := ⟨c1, c2, c3⟩
      show Ev (fun k => spec_ReadBlock.j2 k s every acc last (part left).n (part left).own (part left).value (part left).left (decide ((part left).n > (last.size : Int)))) _
      have pl := p4 hg
      clear r0 r1 r2 r3 a0 a1 a2 c1 c2 c3
      generalize part left = P at *
      by_cases c4 : P.n > (last.size : Int)
      · rw [decide_eq_true c4]
        exact jt _ _ _ _ fun h => by omega
      · rw [decide_eq_false c4]
        have hz : (last.extract 0 P.n.toNat ++ P.own).size = P.n.toNat + P.own.size := by rw [ByteArray.size_append, ByteArray.size_extract]; omega
        refine Ev.step (fun k => spec_ReadBlock.j2.eq_2 ..) ?_
        refine Ev.neg (by decide) (Ev.pos p3 (Ev.pos (by omega) (Ev.pos (by omega) (Ev.bindS (sReadKey_ev _ (by omega)) ?_))))
        by_cases c5 : (rkV (last.extract 0 P.n.toNat ++ P.own)).2.2.2 = true
        · refine Ev.pos c5 ?_
          by_cases c6 : (acc.length : Int) ≥ 400
          · exact Ev.pos c6 ((Ev.now _).eqr (by rw [if_neg (fun h => by omega)]; rfl))
          · refine Ev.neg c6 (Ev.pos (by omega) ?_)
            refine Ev.eqr ?_ (congrArg (rdEnd s every) (if_pos ⟨hg, by omega, by omega, c5⟩).symm)
            refine ih _ _ _ (by omega) (by omega) ?_ ?_
            · rw [List.length_append]; simp only [List.length_cons, List.length_nil]; omega
            · rw [List.length_append]; simp only [List.length_cons, List.length_nil]; omega
        · exact Ev.neg c5 ((Ev.now _).eqr (by rw [if_neg (fun h => c5 h.2.2.2)]; rfl))
theorem takerFixed_ev (s : ByteArray) (b : Bool) (h : 4 ≤ s.size) : impl_taker_fixed.f s b = some (f4 s, s.extract 4 s.size, b) := by
  have hr := f4_range s
  unfold impl_taker_fixed.f
  rw [takeFixed_ev]
  unfold tf
  rw [if_neg (by omega), Option.bind_some]
  simp only [if_true]
  rw [wid (by omega) (by omega)]
theorem readEntries_ev (s : ByteArray) (every : Int) (he0 : 0 ≤ every) (he : every < 4294967296) : ∀ (d : Nat) (left : ByteArray) (acc : List S64) (last : ByteArray), left.size ≤ d → d ≤ 2097152 → acc.length ≤ 400 → last.size ≤ 60000 * (acc.length + 1) →
    Ev (fun k => impl_ReadBlock.l0 k s every acc last left false) (rdEnd s every (rdGo d left acc last)) := by
  intro d
  induction d with
  | zero =>
    intro left acc last hd hd2 ha hl
    have : left.toList = [] := by rw [ByteArray.toList_eq]; exact List.eq_nil_of_length_eq_zero (by rw [data_length]; omega)
    unfold rdGo
    rw [if_pos this]
    refine Ev.step (fun k => impl_ReadBlock.l0.eq_2 ..) ?_
    refine Ev.pos this (Ev.bind (blockOf_ev acc (by omega) every) ?_)
    by_cases c1 : (blkV acc every).2 = true
    · refine Ev.pos c1 ?_
      by_cases c2 : (blkV acc every).1.toList = s.toList
      · exact Ev.pos c2 ((Ev.now _).eqr (if_pos ⟨c1, c2⟩).symm)
      · exact Ev.neg c2 ((Ev.now _).eqr (if_neg fun h => c2 h.2).symm)
    · exact Ev.neg c1 ((Ev.now _).eqr (if_neg fun h => c1 h.1).symm)
  | succ d ih =>
    intro left acc last hd hd2 ha hl
    refine Ev.step (fun k => impl_ReadBlock.l0.eq_2 ..) ?_
    unfold rdGo
    by_cases c : left.toList = []
    · rw [if_pos c]
      refine Ev.pos c (Ev.bind (blockOf_ev acc (by omega) every) ?_)
      by_cases c1 : (blkV acc every).2 = true
      · refine Ev.pos c1 ?_
        by_cases c2 : (blkV acc every).1.toList = s.toList
        · exact Ev.pos c2 ((Ev.now _).eqr (if_pos ⟨c1, c2⟩).symm)
        · exact Ev.neg c2 ((Ev.now _).eqr (if_neg fun h => c2 h.2).symm)
      · exact Ev.neg c1 ((Ev.now _).eqr (if_neg fun h => c1 h.1).symm)
    · rw [if_neg c]
      obtain ⟨p1, p2, p3, p4⟩ := part_size left
      have z1 := numT_size left false
      have z2 := (txtT_size (numT left false).2.1 (numT left false).2.2).1
      have hlast : last.size ≤ 60000 * 401 := by omega
      have jt : ∀ (x : ByteArray) (n : Int) (o v : ByteArray) (b : Bool), ¬ ((part left).good ∧ (part left).n ≤ (last.size : Int) ∧ acc.length < 400 ∧ (rkV (last.extract 0 (part left).n.toNat ++ (part left).own)).2.2.2 = true) → Ev (fun k => impl_ReadBlock.j2 k s every acc last n o v true x b) (rdEnd s every (if (part left).good ∧ (part left).n ≤ (last.size : Int) ∧ acc.length < 400 ∧ (rkV (last.extract 0 (part left).n.toNat ++ (part left).own)).2.2.2 = true then
        rdGo d (part left).left (acc ++ [⟨⟨(rkV (last.extract 0 (part left).n.toNat ++ (part left).own)).1, (rkV (last.extract 0 (part left).n.toNat ++ (part left).own)).2.1, (rkV (last.extract 0 (part left).n.toNat ++ (part left).own)).2.2.1⟩, (part left).value⟩]) (last.extract 0 (part left).n.toNat ++ (part left).own)
      else none)) := fun x n o v b h => by
        rw [if_neg h]
        refine Ev.step (fun k => impl_ReadBlock.j2.eq_2 ..) ?_
        exact Ev.pos rfl (Ev.now _)
      refine Ev.neg c (Ev.bind (number_taken left false (by omega)) (Ev.bind (text_taken _ _ (by omega)) (Ev.bind (text_taken _ _ (by omega)) ?_)))
      by_cases c1 : (tv left).2.2 = true ∧ (tv left).1 ≤ 4611686018427387904
      case neg =>
        refine Ev.pos ?_ (jt _ _ _ _ _ fun h => c1 ⟨h.1.1, ?_⟩)
        · rw [numT_not c1]
          simp only []
          rw [txtT_bad, txtT_bad]
        · have := h.2.1
          show (part left).n ≤ _
          omega
      rw [numT_good c1.1 c1.2]
      simp only []
      by_cases c2 : (tt (tv left).2.1).2.2 = true
      case neg =>
        refine Ev.pos ?_ (jt _ _ _ _ _ fun h => c2 h.1.2.1)
        rw [txtT_not c2]
        simp only []
        rw [txtT_bad]
      rw [txtT_good c2]
      simp only []
      by_cases c3 : (tt (tt (tv left).2.1).2.1).2.2 = true
      case neg =>
        refine Ev.pos ?_ (jt _ _ _ _ _ fun h => c3 h.1.2.2)
        rw [txtT_not c3]
      rw [txtT_good c3]
      simp only []
      refine Ev.neg (by simp) ?_
      have hg : (part left).good := ⟨c1.1, c2, c3⟩
      show Ev (fun k => if (part left).n > (last.size : Int) then impl_ReadBlock.j2 k s every acc last (part left).n (part left).own (part left).value true (part left).left false else impl_ReadBlock.j2 k s every acc last (part left).n (part left).own (part left).value ((acc.length : Int) == 400) (part left).left false) _
      have pl := p4 hg
      clear z1 z2 c1 c2 c3
      generalize part left = P at *
      by_cases c4 : P.n > (last.size : Int)
      · exact Ev.pos c4 (jt _ _ _ _ _ fun h => by omega)
      · refine Ev.neg c4 ?_
        have hz : (last.extract 0 P.n.toNat ++ P.own).size = P.n.toNat + P.own.size := by rw [ByteArray.size_append, ByteArray.size_extract]; omega
        by_cases c6 : acc.length = 400
        · rw [show ((acc.length : Int) == 400) = true from by simp; omega]
          exact jt _ _ _ _ _ fun h => by omega
        · rw [show ((acc.length : Int) == 400) = false from by simp; omega]
          refine Ev.step (fun k => impl_ReadBlock.j2.eq_2 ..) ?_
          refine Ev.neg (by decide) (Ev.pos p3 (Ev.pos (by omega) (Ev.pos (by omega) (Ev.bindS (readKey_ev _ (by omega)) ?_))))
          by_cases c5 : (rkV (last.extract 0 P.n.toNat ++ P.own)).2.2.2 = true
          · refine Ev.pos c5 (Ev.pos (by omega) ?_)
            refine Ev.eqr ?_ (congrArg (rdEnd s every) (if_pos ⟨hg, by omega, by omega, c5⟩).symm)
            refine ih _ _ _ (by omega) (by omega) ?_ ?_
            · rw [List.length_append]; simp only [List.length_cons, List.length_nil]; omega
            · rw [List.length_append]; simp only [List.length_cons, List.length_nil]; omega
          · exact Ev.neg c5 ((Ev.now _).eqr (by rw [if_neg (fun h => c5 h.2.2.2)]; rfl))
noncomputable def rbkV (s : ByteArray) : List S64 × Bool :=
  if 8 ≤ s.size ∧ s.size ≤ 60000 ∧ 4 * f4 (s.extract (s.size - 8) s.size) ≤ (s.size : Int) - 8 then
    rdEnd s (f4 ((s.extract (s.size - 8) s.size).extract 4 8)) (rdGo (s.size - 8 - 4 * (f4 (s.extract (s.size - 8) s.size)).toNat) (s.extract 0 (s.size - 8 - 4 * (f4 (s.extract (s.size - 8) s.size)).toNat)) [] ⟨#[]⟩)
  else ([], false)
theorem readBlock_ev (s : ByteArray) (hs : s.size ≤ 2097152) : Ev (fun k => impl_ReadBlock.f k s) (rbkV s) := by
  have jt : ¬ (8 ≤ s.size ∧ s.size ≤ 60000) → Ev (fun k => impl_ReadBlock.j0 k s true) (rbkV s) := fun h => by
    refine Ev.step (fun k => impl_ReadBlock.j0.eq_2 ..) ?_
    exact Ev.pos rfl ((Ev.now _).eqr (if_neg fun c => h ⟨c.1, c.2.1⟩).symm)
  unfold impl_ReadBlock.f
  by_cases c1 : (s.size : Int) < 8
  · exact Ev.pos c1 (jt fun h => by omega)
  · refine Ev.neg c1 ?_
    by_cases c2 : (s.size : Int) > 60000
    · rw [decide_eq_true c2]
      exact jt fun h => by omega
    · rw [decide_eq_false c2]
      have h1 := f4_range (s.extract (s.size - 8) s.size)
      have h2 := f4_range ((s.extract (s.size - 8) s.size).extract 4 8)
      have t8 := tail_size s (by omega)
      have t4 : ((s.extract (s.size - 8) s.size).extract 4 8).size = 4 := by rw [ByteArray.size_extract, t8]; omega
      obtain ⟨t1, t2⟩ := tf_tail2 s (by omega)
      refine Ev.step (fun k => impl_ReadBlock.j0.eq_2 ..) ?_
      rw [wid (x := (s.size : Int) - 8) (by omega) (by omega), show ((s.size : Int) - 8).toNat = s.size - 8 from by omega]
      refine Ev.neg (by decide) (Ev.pos (by omega) (Ev.pos (by omega) ?_))
      refine Ev.bindS (takerFixed_ev _ _ (by omega)) ?_
      rw [t8]
      simp only []
      refine Ev.bindS (takerFixed_ev _ _ (by omega)) ?_
      simp only []
      rw [wid (x := 4 * f4 (s.extract (s.size - 8) s.size)) (by omega) (by omega), wid (x := (s.size : Int) - 8 - 4 * f4 (s.extract (s.size - 8) s.size)) (by omega) (by omega)]
      by_cases c3 : (s.size : Int) - 8 - 4 * f4 (s.extract (s.size - 8) s.size) < 0
      · exact Ev.pos c3 ((Ev.now _).eqr (if_neg fun h => by omega).symm)
      · refine Ev.neg c3 ?_
        rw [show ((s.size : Int) - 8 - 4 * f4 (s.extract (s.size - 8) s.size)).toNat = s.size - 8 - 4 * (f4 (s.extract (s.size - 8) s.size)).toNat from by omega]
        refine Ev.pos (by omega) (Ev.pos (by omega) ?_)
        exact (readEntries_ev s _ h2.1 h2.2 _ _ [] ⟨#[]⟩ (by rw [ByteArray.size_extract]; omega) (by omega) (by simp) (by simp [empty_size])).eqr (if_pos ⟨by omega, by omega, by omega⟩).symm
theorem sReadBlock_ev (s : ByteArray) (hs : s.size ≤ 2097152) : Ev (fun k => spec_ReadBlock.f k s) (rbkV s) := by
  have jt : ¬ (8 ≤ s.size ∧ s.size ≤ 60000) → Ev (fun k => spec_ReadBlock.j0 k s true) (rbkV s) := fun h => by
    refine Ev.step (fun k => spec_ReadBlock.j0.eq_2 ..) ?_
    exact Ev.pos rfl ((Ev.now _).eqr (if_neg fun c => h ⟨c.1, c.2.1⟩).symm)
  unfold spec_ReadBlock.f
  by_cases c1 : (s.size : Int) < 8
  · exact Ev.pos c1 (jt fun h => by omega)
  · refine Ev.neg c1 ?_
    by_cases c2 : (s.size : Int) > 60000
    · rw [decide_eq_true c2]
      exact jt fun h => by omega
    · rw [decide_eq_false c2]
      have h1 := f4_range (s.extract (s.size - 8) s.size)
      have h2 := f4_range ((s.extract (s.size - 8) s.size).extract 4 8)
      have t8 := tail_size s (by omega)
      have t4 : ((s.extract (s.size - 8) s.size).extract 4 8).size = 4 := by rw [ByteArray.size_extract, t8]; omega
      obtain ⟨t1, t2⟩ := tf_tail2 s (by omega)
      refine Ev.step (fun k => spec_ReadBlock.j0.eq_2 ..) ?_
      rw [wid (x := (s.size : Int) - 8) (by omega) (by omega), show ((s.size : Int) - 8).toNat = s.size - 8 from by omega]
      refine Ev.neg (by decide) (Ev.pos (by omega) (Ev.pos (by omega) ?_))
      refine Ev.bindS (sTakeFixed_ev _) ?_
      rw [tf_tail s (by omega)]
      refine Ev.bindS (sTakeFixed_ev _) ?_
      rw [t1]
      simp only []
      rw [wid (x := f4 (s.extract (s.size - 8) s.size)) (by omega) (by omega), Int.tdiv_eq_ediv_of_nonneg (by omega), wid (x := ((s.size : Int) - 8) / 4) (by omega) (by omega)]
      by_cases c3 : f4 (s.extract (s.size - 8) s.size) > ((s.size : Int) - 8) / 4
      · exact Ev.pos c3 ((Ev.now _).eqr (if_neg fun h => by omega).symm)
      · refine Ev.neg c3 ?_
        rw [wid (x := 4 * f4 (s.extract (s.size - 8) s.size)) (by omega) (by omega), wid (x := (s.size : Int) - 8 - 4 * f4 (s.extract (s.size - 8) s.size)) (by omega) (by omega), show ((s.size : Int) - 8 - 4 * f4 (s.extract (s.size - 8) s.size)).toNat = s.size - 8 - 4 * (f4 (s.extract (s.size - 8) s.size)).toNat from by omega]
        refine Ev.pos (by omega) (Ev.pos (by omega) ?_)
        exact (sReadEntries_ev s _ h2.1 h2.2 _ _ [] ⟨#[]⟩ (by rw [ByteArray.size_extract]; omega) (by omega) (by simp) (by simp [empty_size])).eqr (if_pos ⟨by omega, by omega, by omega⟩).symm
end Go.Proofs.Ytidjdkodgddfcaa.Pure
end

section
namespace Go.Proofs.Ytidjdkodgddfcaa.Pure
open Go.RowKit Go.Proofs.YtidjdkodgddfcaaW.PrintWords Go.Proofs.YtidjdkodgddfcaaW.PrintLast Go.Proofs.YtidjdkodgddfcaaW.PrintMore
open Go.Proofs.Ytidjdkodgddfcaa.P
set_option linter.unusedVariables false
set_option linter.unusedSimpArgs false
theorem rdGo_len : ∀ (d : Nat) (left : ByteArray) (acc : List S64) (last : ByteArray) (r : List S64), acc.length ≤ 400 → rdGo d left acc last = some r → r.length ≤ 400 := by
  intro d
  induction d with
  | zero =>
    intro left acc last r ha h
    unfold rdGo at h
    split at h
    · injection h with h; rw [← h]; exact ha
    · cases h
  | succ d ih =>
    intro left acc last r ha h
    unfold rdGo at h
    split at h
    · injection h with h; rw [← h]; exact ha
    · split at h
      · rename_i c
        refine ih _ _ _ _ ?_ h
        rw [List.length_append]
        simp only [List.length_cons, List.length_nil]
        omega
      · cases h
theorem rbkV_len (s : ByteArray) : (rbkV s).1.length ≤ 400 := by
  unfold rbkV
  split
  · generalize hg : rdGo _ _ _ _ = o
    cases o with
    | none => simp [rdEnd]
    | some r =>
      have := rdGo_len _ _ _ _ _ (by simp) hg
      unfold rdEnd
      simp only []
      split
      · exact this
      · simp
  · simp
end Go.Proofs.Ytidjdkodgddfcaa.Pure
end

section
namespace Go.Proofs.Ytidjdkodgddfcaa.Pure
open Go.RowKit Go.Proofs.YtidjdkodgddfcaaW.PrintWords Go.Proofs.YtidjdkodgddfcaaW.PrintLast Go.Proofs.YtidjdkodgddfcaaW.PrintMore
open Go.Proofs.Ytidjdkodgddfcaa.P
set_option linter.unusedVariables false
set_option linter.unusedSimpArgs false
noncomputable def bskV (s : ByteArray) (u : ByteArray) (q d : Int) : Int × Bool := if (rbkV s).2 = true ∧ isK u q d then (seekV (rbkV s).1 u q d, true) else (0, false)
theorem blockSeek_ev (s : ByteArray) (hs : s.size ≤ 2097152) (u : ByteArray) (q d : Int) : Ev (fun k => impl_BlockSeek.f k s u q d) (bskV s u q d) := by
  unfold impl_BlockSeek.f bskV
  have hl := rbkV_len s
  refine Ev.bind (readBlock_ev s hs) ?_
  by_cases c : (rbkV s).2 = true
  case neg => exact Ev.neg c ((Ev.now _).eqr (if_neg (fun h => c h.1)).symm)
  refine Ev.pos c (Ev.bindS (keyOk_ev u q d) ?_)
  by_cases c2 : isK u q d
  case neg => exact Ev.neg (by simp [c2]) ((Ev.now _).eqr (if_neg (fun h => c2 h.2)).symm)
  exact Ev.pos (decide_eq_true c2) (Ev.bind (seek_ev _ (by omega) u q d) ((Ev.now _).eqr (if_pos ⟨c, c2⟩).symm))
theorem sBlockSeek_ev (s : ByteArray) (hs : s.size ≤ 2097152) (u : ByteArray) (q d : Int) : Ev (fun k => spec_BlockSeek.f k s u q d) (bskV s u q d) := by
  unfold spec_BlockSeek.f bskV
  have hl := rbkV_len s
  refine Ev.bind (sReadBlock_ev s hs) ?_
  by_cases c : (rbkV s).2 = true
  case neg => exact Ev.neg c ((Ev.now _).eqr (if_neg (fun h => c h.1)).symm)
  refine Ev.pos c (Ev.bindS (sKeyOk_ev u q d) ?_)
  by_cases c2 : isK u q d
  case neg => exact Ev.neg (by simp [c2]) ((Ev.now _).eqr (if_neg (fun h => c2 h.2)).symm)
  exact Ev.pos (decide_eq_true c2) (Ev.bind (sSeek_ev _ (by omega) u q d) ((Ev.now _).eqr (if_pos ⟨c, c2⟩).symm))
end Go.Proofs.Ytidjdkodgddfcaa.Pure
end

section
namespace Go.Proofs.Ytidjdkodgddfcaa.Pure
open Go.RowKit Go.Proofs.YtidjdkodgddfcaaW.PrintWords Go.Proofs.YtidjdkodgddfcaaW.PrintLast Go.Proofs.YtidjdkodgddfcaaW.PrintMore
open Go.Proofs.Ytidjdkodgddfcaa.P
set_option linter.unusedVariables false
set_option linter.unusedSimpArgs false
theorem byteOk {l : List Int} (h1 : l.length ≤ 1048576) (h2 : ∀ x ∈ l, (Lit.int .u8 x).wf = true) : okc l := by
  refine ⟨h1, fun x hx => ?_⟩
  have := h2 x hx
  simpa [Lit.wf, IntKind.min, IntKind.max, IntKind.signed, IntKind.bits] using this
theorem okp0 (l : List Int) : okp l 0 := ⟨by omega, by omega⟩
end Go.Proofs.Ytidjdkodgddfcaa.Pure
end

section
namespace Go.Proofs.Ytidjdkodgddfcaa.P
open Go.RowKit Go.Proofs.YtidjdkodgddfcaaW.PrintWords Go.Proofs.YtidjdkodgddfcaaW.PrintLast Go.Proofs.YtidjdkodgddfcaaW.PrintMore
attribute [local go_sem] qh1 qg1 qi1 qf1 qd1 qk1 qj1 qy qx qe1 qc1
set_option linter.unusedVariables false
set_option linter.unusedSimpArgs false
theorem eqA64 (d : Nat) (w : World) (x0 y0 : ByteArray) (x1 y1 : Int) (x2 y2 : Int) (x3 y3 : ByteArray) :
  (Op.equalIn (d + 3) 64 (.agg #[.string x0, .int .i64 x1, .int .i64 x2, .string x3]) (.agg #[.string y0, .int .i64 y1, .int .i64 y2, .string y3])).run Try.prog w = .ok ((x0.toList == y0.toList && (x1 == y1 && (x2 == y2))) && (x3.toList == y3.toList)) w := by
 refine eqA_of Try.underlying64 (by kernel_rfl) ?_
 refine eqf_cons (by rfl) (by go_simp) (by go_simp) (eqA35 (d + 0) w _ _ _ _ _ _) ?_
 exact eqf_last (by rfl) (by go_simp; rfl) (by go_simp; rfl) (by go_simp)
theorem eqA148 (d : Nat) (w : World) (x0 y0 : Int) (x1 y1 : ByteArray) (x2 y2 : ByteArray) :
  (Op.equalIn (d + 2) 148 (.agg #[.int .i64 x0, .string x1, .string x2]) (.agg #[.int .i64 y0, .string y1, .string y2])).run Try.prog w = .ok (x0 == y0 && (x1.toList == y1.toList && (x2.toList == y2.toList))) w := by
 refine eqA_of Try.underlying148 (by kernel_rfl) ?_
 refine eqf_cons (by rfl) (by go_simp; rfl) (by go_simp; rfl) (by go_simp) ?_
 refine eqf_cons (by rfl) (by go_simp; rfl) (by go_simp; rfl) (by go_simp) ?_
 exact eqf_last (by rfl) (by go_simp; rfl) (by go_simp; rfl) (by go_simp)
end Go.Proofs.Ytidjdkodgddfcaa.P
end

section
namespace Go.Proofs.Ytidjdkodgddfcaa.Pure
open Go.RowKit Go.Proofs.YtidjdkodgddfcaaW.PrintWords Go.Proofs.YtidjdkodgddfcaaW.PrintLast Go.Proofs.YtidjdkodgddfcaaW.PrintMore
open Go.Proofs.Ytidjdkodgddfcaa.P
set_option linter.unusedVariables false
set_option linter.unusedSimpArgs false
theorem blkV_good {l : List S64} {ev : Int} (h : (blkV l ev).2 = true) : (isRow l ∧ l.length ≠ 0 ∧ 1 ≤ ev ∧ ev ≤ 16) ∧ (blkV l ev).1 = blkT l ev ∧ (blkT l ev).size ≤ 60000 := by
  unfold blkV at h ⊢
  by_cases q : isRow l ∧ l.length ≠ 0 ∧ 1 ≤ ev ∧ ev ≤ 16
  · rw [if_pos q] at h ⊢
    refine ⟨q, ?_⟩
    split
    · rename_i q2; rw [if_pos q2] at h; cases h
    · rename_i q2; exact ⟨rfl, by omega⟩
  · rw [if_neg q] at h; cases h
theorem dblock_ev {l : List Int} {p : Int} (h : okc l) (hp : okp l p) : ∃ r, Ev (fun k => spec_l1Rd_block.f k l p) r ∧ r.1.size ≤ 70000 ∧ okp l r.2 := by
  unfold spec_l1Rd_block.f
  obtain ⟨a, ha, ha1, ha2⟩ := dentries_ev h hp 9 (by omega) (by omega)
  obtain ⟨b, hb, hb1, hb2⟩ := below_ev h ha2 5 (by omega)
  have hB := sBlockOf_ev a.1 (by omega) (wrap64 (1 + b.1))
  obtain ⟨d, hd, hd1, hd2⟩ := below_ev h hb2 8 (by omega)
  have hz : (blkV a.1 (wrap64 (1 + b.1))).1.size ≤ 60000 := by
    by_cases c : (blkV a.1 (wrap64 (1 + b.1))).2 = true
    · obtain ⟨_, g1, g2⟩ := blkV_good c
      rw [g1]
      exact g2
    · unfold blkV at c ⊢
      split
      · rename_i q
        rw [if_pos q] at c
        split
        · simp [empty_size]
        · rename_i q2; rw [if_neg q2] at c; exact absurd rfl c
      · simp [empty_size]
  generalize blkV a.1 (wrap64 (1 + b.1)) = V at hB hz
  by_cases c0 : d.1 = 0
  · obtain ⟨e, he, he1, he2⟩ := bytes_ev h hd2 2 (by omega) (by omega)
    exact ⟨_, Ev.bind ha (Ev.bindS hb (Ev.bind hB (Ev.bindS hd (Ev.pos c0 (Ev.bind he (Ev.pos (by omega) (Ev.now _))))))), by simp only [ByteArray.size_append]; omega, he2⟩
  · by_cases c1 : d.1 = 1
    · by_cases cz : (V.1.size : Int) > 0
      · obtain ⟨f, hf, hf1, hf2⟩ := below_ev h hd2 (V.1.size : Int) (by omega)
        obtain ⟨e, he, he1, he2⟩ := bytes_ev h hf2 1 (by omega) (by omega)
        have hw : wrap64 (f.1 + 1) = f.1 + 1 := wid (by omega) (by omega)
        refine ⟨((V.1.extract 0 (f.1 : Int).toNat ++ e.1) ++ V.1.extract (f.1 + 1).toNat V.1.size, e.2), Ev.bind ha (Ev.bindS hb (Ev.bind hB (Ev.bindS hd (Ev.neg c0 (Ev.pos c1 (Ev.pos cz (Ev.bindS hf (Ev.pos hf1.1 (Ev.pos (by omega) (Ev.bind he (Ev.pos (by omega) ?_))))))))))), ?_, he2⟩
        · rw [hw]
          exact Ev.pos (by omega) (Ev.pos (by omega) (Ev.pos (by omega) (Ev.now _)))
        · simp only [ByteArray.size_append, ByteArray.size_extract]; omega
      · exact ⟨_, Ev.bind ha (Ev.bindS hb (Ev.bind hB (Ev.bindS hd (Ev.neg c0 (Ev.pos c1 (Ev.neg cz (Ev.now _))))))), by show V.1.size ≤ _; omega, hd2⟩
    · by_cases c2 : d.1 = 2
      · obtain ⟨e, he, he1, he2⟩ := bytes_ev h hd2 20 (by omega) (by omega)
        exact ⟨_, Ev.bind ha (Ev.bindS hb (Ev.bind hB (Ev.bindS hd (Ev.neg c0 (Ev.neg c1 (Ev.pos c2 (Ev.bind he (Ev.now _)))))))), by show e.1.size ≤ _; omega, he2⟩
      · exact ⟨_, Ev.bind ha (Ev.bindS hb (Ev.bind hB (Ev.bindS hd (Ev.neg c0 (Ev.neg c1 (Ev.neg c2 (Ev.now _))))))), by show V.1.size ≤ _; omega, hd2⟩
end Go.Proofs.Ytidjdkodgddfcaa.Pure
end

section
namespace Go.Proofs.Ytidjdkodgddfcaa.Pure
open Go.RowKit Go.Proofs.YtidjdkodgddfcaaW.PrintWords Go.Proofs.YtidjdkodgddfcaaW.PrintLast Go.Proofs.YtidjdkodgddfcaaW.PrintMore
open Go.Proofs.Ytidjdkodgddfcaa.P
set_option linter.unusedVariables false
set_option linter.unusedSimpArgs false
theorem drawSought_ev {l : List Int} (h : okc l) : ∃ r, Ev (fun k => spec_DrawBlockSeek.f k l) r ∧ r.1.size ≤ 70000 := by
  unfold spec_DrawBlockSeek.f
  obtain ⟨a, ha, ha1, ha2⟩ := dblock_ev h (okp0 l)
  obtain ⟨b, hb, hb2⟩ := dkey_ev h ha2
  exact ⟨_, Ev.bindS rfl (Ev.bind ha (Ev.bind hb (Ev.now _))), ha1⟩
theorem FnBlockSought : laws_FnBlockSought.Pure := by
  intro l _ _ hb
  refine Ev.rounds (g := fun k => laws_FnBlockSought.f k l) ?_
  unfold laws_FnBlockSought.f
  refine Ev.bindS (a := decide ((l.length : Int) > 1048576)) rfl ?_
  by_cases big : (l.length : Int) > 1048576
  · exact Ev.pos (decide_eq_true big) (Ev.now _)
  have hc := byteOk (l := l) (by omega) hb
  refine Ev.neg (by simpa using big) ?_
  obtain ⟨d, hd, hd1⟩ := drawSought_ev hc
  obtain ⟨s, u, q, e⟩ := d
  simp only [] at hd1
  have hl := rbkV_len s
  have hsk := seek_ev (rbkV s).1 (by omega) u q e
  refine Ev.bind hd (Ev.bind (blockSeek_ev s (by omega) u q e) (Ev.bind (sBlockSeek_ev s (by omega) u q e) (Ev.bind (readBlock_ev s (by omega)) (Ev.pos rfl (Ev.pos (by simp) ?_)))))
  by_cases c : (rbkV s).2 = true
  · refine Ev.pos c (Ev.bindS (keyOk_ev u q e) ?_)
    by_cases c2 : isK u q e
    · have hv : bskV s u q e = (seekV (rbkV s).1 u q e, true) := if_pos ⟨c, c2⟩
      rw [hv, decide_eq_true c2]
      exact Ev.pos rfl (Ev.pos rfl (Ev.bind hsk ((Ev.now _).eqr (by simp))))
    · have hv : bskV s u q e = (0, false) := if_neg fun h => c2 h.2
      rw [hv, decide_eq_false c2]
      exact Ev.pos rfl (Ev.neg (by simp) (Ev.now _))
  · have hv : bskV s u q e = (0, false) := if_neg fun h => c h.1
    rw [hv]
    exact Ev.neg c (Ev.pos rfl (Ev.neg (by simp) (Ev.now _)))
end Go.Proofs.Ytidjdkodgddfcaa.Pure
end
