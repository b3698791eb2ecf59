/- Proved: the law FnVersionTexts of the given program returns true for every input of its Go types and leaves each argument as it was; no condition. (Part 12 of 15.) -/
import Derived.Test.YtcgejabkjljeeaaCFnVersionTexts4
import Derived.Test.YtcgejabkjljeeaaCFnVersionTexts7
import Derived.Test.YtcgejabkjljeeaaCFnVersionTexts8
import Derived.Lib.EndianBits
section
namespace Go.Proofs.Ytcgejabkjljeeaa.P
open Go.RowKit Go.Proofs.YtcgejabkjljeeaaW.PrintWords Go.Proofs.YtcgejabkjljeeaaW.PrintLast Go.Proofs.YtcgejabkjljeeaaW.PrintMore
attribute [local go_sem] qk1 qj1 ql1 qf1 qd1 qn1 qm1 qa1 qz qe1 qc1
set_option linter.unusedVariables false
set_option linter.unusedSimpArgs false
def pvl (n : Nat) : List Int := if n < 128 then [(n : Int)] else ((n % 128 + 128 : Nat) : Int) :: pvl (n / 128)
termination_by n
decreasing_by omega
def pv (n : Nat) : ByteArray := strOfNums (pvl n)
theorem pvl_small {n : Nat} (h : n < 128) : pvl n = [(n : Int)] := by rw [pvl, if_pos h]
theorem pvl_big {n : Nat} (h : ¬ n < 128) : pvl n = ((n % 128 + 128 : Nat) : Int) :: pvl (n / 128) := by rw [pvl, if_neg h]
theorem pvl_range (n : Nat) : ∀ x ∈ pvl n, 0 ≤ x ∧ x < 256 := by
 induction n using Nat.strongRecOn with
 | _ n ih =>
  by_cases h : n < 128
  ·rw [pvl_small h]
   intro x hx
   rw [List.mem_singleton] at hx
   omega
  ·rw [pvl_big h]
   intro x hx
   rcases List.mem_cons.1 hx with rfl | hx
   ·omega
   ·exact ih (n / 128) (by omega) x hx
theorem pvl_len (d : Nat) : ∀ n, n < 128 ^ (d + 1) → 1 ≤ (pvl n).length ∧ (pvl n).length ≤ d + 1 := by
 induction d with
 | zero =>
  intro n h
  rw [pvl_small (by simpa using h)]
  simp
 | succ d ih =>
  intro n h
  by_cases c : n < 128
  ·rw [pvl_small c]
   simp
  ·rw [pvl_big c, List.length_cons]
   have := ih (n / 128) (Nat.div_lt_of_lt_mul (by rw [Nat.pow_succ, Nat.mul_comm] at h; exact h))
   omega
theorem pv_size {n : Nat} (h : n < 18446744073709551616) : 1 ≤ (pv n).size ∧ (pv n).size ≤ 10 := by
 have e : (pv n).size = (pvl n).length := by unfold pv strOfNums; simp [ByteArray.size]
 rw [e]
 exact pvl_len 9 n (by omega)
theorem or128 : ∀ x : Fin 256, Go.bits .or .u8 ((x.val : Nat) : Int) 128 = ((x.val % 128 + 128 : Nat) : Int) := by decide +kernel
theorem and127 : ∀ x : Fin 256, Go.bits .and .u8 ((x.val : Nat) : Int) 127 = ((x.val % 128 : Nat) : Int) := by decide +kernel
theorem putVar_ev (n : Nat) (h : n < 18446744073709551616) : Ev (fun k => impl_PutVar.f k (n : Int)) (pv n) := by
 have key : ∀ (d n : Nat) (acc : List Int), n < 128 ^ (d + 1) → acc.length + d ≤ 100 → Ev (fun k => impl_PutVar.l0 k (n : Int) acc) (strOfNums (acc ++ pvl n)) := by
  intro d
  induction d with
  | zero =>
   intro n acc hn ha
   have hn' : n < 128 := by simpa using hn
   rw [pvl_small hn']
   refine Ev.step (fun k => rfl) (Ev.neg (by omega) (Ev.pos (by omega) ?_))
   rw [Int.emod_eq_of_lt (by omega) (by omega)]
   exact Ev.now _
  | succ d ih =>
   intro n acc hn ha
   by_cases c : n < 128
   ·rw [pvl_small c]
    refine Ev.step (fun k => rfl) (Ev.neg (by omega) (Ev.pos (by omega) ?_))
    rw [Int.emod_eq_of_lt (by omega) (by omega)]
    exact Ev.now _
   ·rw [pvl_big c]
    refine Ev.step (fun k => rfl) (Ev.pos (by omega) (Ev.pos (by omega) ?_))
    have e : Go.bits .or .u8 ((n : Int) % 256) 128 = ((n % 128 + 128 : Nat) : Int) := by
     have := or128 ⟨n % 256, by omega⟩
     simp only at this
     rw [show ((n : Int) % 256) = ((n % 256 : Nat) : Int) from by omega, this]
     omega
    rw [e, show ((n : Int) / 128) = ((n / 128 : Nat) : Int) from by omega]
    refine (ih (n / 128) _ (Nat.div_lt_of_lt_mul (by rw [Nat.pow_succ, Nat.mul_comm] at hn; exact hn)) (by rw [List.length_append]; simp; omega)).eqr ?_
    rw [List.append_assoc]
    rfl
 have := key 9 n [] (by omega) (by simp)
 rw [List.nil_append] at this
 exact this
theorem sPutVar_ev (n : Nat) (h : n < 18446744073709551616) : Ev (fun k => spec_PutVar.f k (n : Int)) (pv n) := by
 have key : ∀ (d n : Nat) (acc : List Int), n < 18446744073709551616 → n < 128 ^ (d + 1) → acc.length + d ≤ 100 → Ev (fun k => spec_PutVar.l0 k (n : Int) acc) (strOfNums (acc ++ pvl n)) := by
  intro d
  induction d with
  | zero =>
   intro n acc h hn ha
   have hn' : n < 128 := by simpa using hn
   rw [pvl_small hn']
   refine Ev.step (fun k => rfl) (Ev.neg (by omega) (Ev.pos (by omega) ?_))
   rw [Int.emod_eq_of_lt (by omega) (by omega)]
   exact Ev.now _
  | succ d ih =>
   intro n acc h hn ha
   by_cases c : n < 128
   ·rw [pvl_small c]
    refine Ev.step (fun k => rfl) (Ev.neg (by omega) (Ev.pos (by omega) ?_))
    rw [Int.emod_eq_of_lt (by omega) (by omega)]
    exact Ev.now _
   ·rw [pvl_big c]
    refine Ev.step (fun k => rfl) (Ev.pos (by omega) (Ev.pos (by omega) ?_))
    have e : (IntKind.u64.wrap ((Int.tmod (n : Int) 128) + 128)) % 256 = ((n % 128 + 128 : Nat) : Int) := by
     rw [Int.tmod_eq_emod_of_nonneg (by omega), uid (by omega) (by omega)]
     omega
    have e2 : IntKind.u64.wrap (Int.tdiv (n : Int) 128) = ((n / 128 : Nat) : Int) := by
     rw [Int.tdiv_eq_ediv_of_nonneg (by omega), uid (by omega) (by omega)]
     omega
    rw [e, e2]
    refine (ih (n / 128) _ (by omega) (Nat.div_lt_of_lt_mul (by rw [Nat.pow_succ, Nat.mul_comm] at hn; exact hn)) (by rw [List.length_append]; simp; omega)).eqr ?_
    rw [List.append_assoc]
    rfl
 have := key 9 n [] h (by omega) (by simp)
 rw [List.nil_append] at this
 exact this
theorem putInt_ev (n : Nat) (h : n < 9223372036854775808) : Ev (fun k => impl_putInt.f k (n : Int)) (pv n) := by
 unfold impl_putInt.f
 rw [uid (by omega) (by omega)]
 exact Ev.bind (putVar_ev n (by omega)) (Ev.now _)
def pt (s : ByteArray) : ByteArray := pv s.size ++ s
theorem putText_ev (t : ByteArray) (h : t.size ≤ 4611686018427387904) : Ev (fun k => impl_PutText.f k t) (pt t) := by
 unfold impl_PutText.f
 rw [uid (by omega) (by omega)]
 have := (pv_size (n := t.size) (by omega)).2
 exact Ev.bind (putVar_ev t.size (by omega)) (Ev.pos (by omega) (Ev.now _))
theorem sPutText_ev (t : ByteArray) (h : t.size ≤ 4611686018427387904) : Ev (fun k => spec_PutText.f k t) (pt t) := by
 unfold spec_PutText.f
 rw [uid (by omega) (by omega)]
 have := (pv_size (n := t.size) (by omega)).2
 exact Ev.bind (sPutVar_ev t.size (by omega)) (Ev.pos (by omega) (Ev.now _))
theorem pt_size (t : ByteArray) (h : t.size ≤ 4611686018427387904) : t.size + 1 ≤ (pt t).size ∧ (pt t).size ≤ t.size + 10 := by
 have := pv_size (n := t.size) (by omega)
 unfold pt
 rw [ByteArray.size_append]
 omega
def tvGo (s : ByteArray) : Nat → Nat → Int → Int × ByteArray × Bool
 | 0, _, _ => (0, ⟨#[]⟩, false)
 | d + 1, i, acc => if i < s.size then
   (if i = 9 ∧ 1 < bt s i then (0, ⟨#[]⟩, false)
   else if bt s i < 128 then (if 0 < i ∧ bt s i = 0 then (0, ⟨#[]⟩, false) else (acc + bt s i * 128 ^ i, s.extract (i + 1) s.size, true))
   else tvGo s d (i + 1) (acc + (bt s i - 128) * 128 ^ i))
  else (0, ⟨#[]⟩, false)
def tv (s : ByteArray) : Int × ByteArray × Bool := tvGo s 10 0 0
theorem or_step (i : Nat) (hi : i < 10) (acc b : Int) (h0 : 0 ≤ acc) (h1 : acc < 128 ^ i) (b0 : 0 ≤ b) (b1 : b < 128) (b2 : i = 9 → b < 2) :
  Go.bits .or .u64 acc (shl .u64 b (7 * (i : Int))) = acc + b * 128 ^ i := by
 have hp : (128 : Int) ^ i = 2 ^ (7 * i) := by rw [Int.pow_mul]; rfl
 have hpos : (0 : Int) < 128 ^ i := Int.pow_pos (by decide)
 have hlt : b * 128 ^ i < 2 ^ 64 := by
  by_cases c : i = 9
  ·subst c
   have := b2 rfl
   have : b * 128 ^ 9 ≤ 1 * 128 ^ 9 := Int.mul_le_mul_of_nonneg_right (by omega) (by decide)
   omega
  ·have h8 : (128 : Int) ^ i ≤ 128 ^ 8 := by
    have : (128 : Nat) ^ i ≤ 128 ^ 8 := Nat.pow_le_pow_right (by decide) (by omega)
    exact_mod_cast this
   have : b * 128 ^ i ≤ 127 * 128 ^ 8 := Int.mul_le_mul (by omega) h8 (by omega) (by decide)
   omega
 have hnn : 0 ≤ b * 128 ^ i := Int.mul_nonneg b0 (by omega)
 have hs : shl .u64 b (7 * (i : Int)) = b * 128 ^ i := by
  unfold shl
  rw [show min (7 * (i : Int)).toNat IntKind.u64.bits = 7 * i from by simp only [IntKind.bits]; omega, ← hp]
  exact wraps_u64 _ hnn hlt
 rw [hs]
 refine bits_join_low .u64 64 (by decide) wraps_u64 (7 * i) acc _ h0 (by rw [← hp]; exact h1) ?_ hnn (by rw [← hp]; exact Int.mul_emod_left _ _) hlt
 have : (128 : Int) ^ i ≤ 128 ^ 9 := by
  have : (128 : Nat) ^ i ≤ 128 ^ 9 := Nat.pow_le_pow_right (by decide) (by omega)
  exact_mod_cast this
 omega
theorem wrap7 (i : Nat) (h : i < 1000) : wrap64 (7 * (i : Int)) = 7 * (i : Int) := wid (by omega) (by omega)
theorem and127' (b : Int) (h0 : 0 ≤ b) (h1 : b ≤ 255) : Go.bits .and .u8 b 127 = b % 128 := by
 have := and127 ⟨b.toNat, by omega⟩
 simp only at this
 rw [show b = ((b.toNat : Nat) : Int) from by omega, this]
 omega
theorem sTakeVar_ev (s : ByteArray) (hs : s.size ≤ 4611686018427387904) : Ev (fun k => spec_TakeVar.f k s) (tv s) := by
 have key : ∀ (d i : Nat) (acc : Int), i + d = 10 → 0 ≤ acc → acc < 128 ^ i → Ev (fun k => spec_TakeVar.l0 k s acc (i : Int)) (tvGo s d i acc) := by
  intro d
  induction d with
  | zero =>
   intro i acc hi _ _
   obtain rfl : i = 10 := by omega
   refine Ev.step (fun k => spec_TakeVar.l0.eq_2 ..) ?_
   by_cases c : ((10 : Nat) : Int) < (s.size : Int)
   ·refine Ev.pos c (Ev.step (fun k => spec_TakeVar.j1.eq_2 ..) ?_)
    exact Ev.neg (by decide) (Ev.now _)
   ·refine Ev.neg c (Ev.step (fun k => spec_TakeVar.j1.eq_2 ..) ?_)
    exact Ev.neg (by decide) (Ev.now _)
  | succ d ih =>
   intro i acc hi h0 h1
   unfold tvGo
   by_cases c : i < s.size
   ·refine Ev.eqr ?_ (if_pos c).symm
    obtain ⟨r0, r1⟩ := bt_range s (i : Int)
    have hg : (IntKind.u64.wrap (Int.tmod (bt s (i : Int)) 128)) = bt s (i : Int) % 128 := by
     rw [Int.tmod_eq_emod_of_nonneg r0, uid (by omega) (by omega)]
    have hw7 : IntKind.u64.wrap (wrap64 (7 * (i : Int))) = 7 * (i : Int) := by rw [wrap7 i (by omega), uid (by omega) (by omega)]
    have hsucc : wrap64 ((i : Int) + 1) = ((i + 1 : Nat) : Int) := wsucc (by omega)
    have hn : (((i + 1 : Nat) : Int)).toNat = i + 1 := Int.toNat_natCast _
    have hpow : (128 : Int) ^ (i + 1) = 128 ^ i * 128 := Int.pow_succ 128 i
    have hpos : (0 : Int) < 128 ^ i := Int.pow_pos (by decide)
    refine Ev.step (fun k => spec_TakeVar.l0.eq_2 ..) (Ev.pos (by omega) ?_)
    refine Ev.step (fun k => spec_TakeVar.j1.eq_2 ..) ?_
    refine Ev.pos (decide_eq_true (by omega)) (Ev.pos (by omega) (Ev.pos (by omega) ?_))
    rw [hg]
    have main : (i = 9 → bt s (i : Int) % 128 < 2) → Ev (fun k => spec_TakeVar.j2 k s acc (i : Int) (bt s (i : Int) % 128) false) (if bt s (i : Int) < 128 then (if 0 < i ∧ bt s (i : Int) = 0 then ((0 : Int), (⟨#[]⟩ : ByteArray), false) else (acc + bt s (i : Int) * 128 ^ i, s.extract (i + 1) s.size, true)) else tvGo s d (i + 1) (acc + (bt s (i : Int) - 128) * 128 ^ i)) := by
     intro h9
     have hor := or_step i (by omega) acc (bt s (i : Int) % 128) h0 h1 (by omega) (by omega) (by omega)
     refine Ev.step (fun k => spec_TakeVar.j2.eq_2 ..) (Ev.neg (by decide) ?_)
     rw [hw7, hor, hsucc, hn]
     refine Ev.pos (by omega) (Ev.pos (by omega) (Ev.pos (by omega) ?_))
     by_cases c2 : bt s (i : Int) < 128
     ·refine Ev.eqr ?_ (if_pos c2).symm
      rw [show bt s (i : Int) % 128 = bt s (i : Int) from by omega]
      refine Ev.pos c2 ?_
      by_cases cz : bt s (i : Int) = 0
      ·by_cases ci : 0 < i
       ·refine Ev.eqr ?_ (if_pos ⟨ci, cz⟩).symm
        exact Ev.pos (by omega) (Ev.pos cz (Ev.now _))
       ·refine Ev.eqr ?_ (if_neg (fun h => ci h.1)).symm
        exact Ev.neg (by omega) (Ev.pos (by omega) (Ev.pos (by omega) (Ev.now _)))
      ·refine Ev.eqr ?_ (if_neg (fun h => cz h.2)).symm
       by_cases ci : 0 < i
       ·exact Ev.pos (by omega) (Ev.neg cz (Ev.pos (by omega) (Ev.pos (by omega) (Ev.now _))))
       ·exact Ev.neg (by omega) (Ev.pos (by omega) (Ev.pos (by omega) (Ev.now _)))
     ·refine Ev.eqr ?_ (if_neg c2).symm
      rw [show bt s (i : Int) % 128 = bt s (i : Int) - 128 from by omega]
      refine Ev.neg c2 ?_
      have hm : (bt s (i : Int) - 128) * 128 ^ i ≤ 127 * 128 ^ i := Int.mul_le_mul_of_nonneg_right (by omega) (by omega)
      have hm0 : 0 ≤ (bt s (i : Int) - 128) * 128 ^ i := Int.mul_nonneg (by omega) (by omega)
      exact ih (i + 1) _ (by omega) (by omega) (by omega)
    by_cases c9 : i = 9
    ·refine Ev.pos (by omega) ?_
     by_cases cb : 1 < bt s (i : Int)
     ·skip
      refine Ev.eqr ?_ (if_pos ⟨c9, cb⟩).symm
      rw [decide_eq_true (show bt s (i : Int) > 1 by omega)]
      refine Ev.step (fun k => spec_TakeVar.j2.eq_2 ..) ?_
      exact Ev.pos (by decide) (Ev.now _)
     ·refine Ev.eqr ?_ (if_neg (fun h => cb h.2)).symm
      rw [decide_eq_false (show ¬ (bt s (i : Int) > 1) by omega)]
      exact main (fun _ => by omega)
    ·refine Ev.neg (by omega) ?_
     refine Ev.eqr ?_ (if_neg (fun h => c9 h.1)).symm
     exact main (fun h => absurd h c9)
   ·refine Ev.eqr ?_ (if_neg c).symm
    refine Ev.step (fun k => spec_TakeVar.l0.eq_2 ..) (Ev.neg (by omega) ?_)
    refine Ev.step (fun k => spec_TakeVar.j1.eq_2 ..) ?_
    exact Ev.neg (by decide) (Ev.now _)
 exact key 10 0 0 rfl (by decide) (by decide)
theorem takeVar_ev (s : ByteArray) (hs : s.size ≤ 4611686018427387904) : Ev (fun k => impl_TakeVar.f k s) (tv s) := by
 have key : ∀ (d i : Nat) (acc : Int), i + d = 10 → 0 ≤ acc → acc < 128 ^ i → Ev (fun k => impl_TakeVar.l0 k s acc (i : Int)) (tvGo s d i acc) := by
  intro d
  induction d with
  | zero =>
   intro i acc hi _ _
   obtain rfl : i = 10 := by omega
   refine Ev.step (fun k => impl_TakeVar.l0.eq_2 ..) ?_
   by_cases c : ((10 : Nat) : Int) < (s.size : Int)
   ·refine Ev.pos c (Ev.step (fun k => impl_TakeVar.j1.eq_2 ..) ?_)
    exact Ev.neg (by decide) (Ev.now _)
   ·refine Ev.neg c (Ev.step (fun k => impl_TakeVar.j1.eq_2 ..) ?_)
    exact Ev.neg (by decide) (Ev.now _)
  | succ d ih =>
   intro i acc hi h0 h1
   unfold tvGo
   by_cases c : i < s.size
   ·refine Ev.eqr ?_ (if_pos c).symm
    obtain ⟨r0, r1⟩ := bt_range s (i : Int)
    have hg : (IntKind.u64.wrap (Go.bits .and .u8 (bt s (i : Int)) 127)) = bt s (i : Int) % 128 := by
     rw [and127' _ r0 r1, uid (by omega) (by omega)]
    have hw7 : wrap64 (7 * (i : Int)) = 7 * (i : Int) := by exact wrap7 i (by omega)
    have hsucc : wrap64 ((i : Int) + 1) = ((i + 1 : Nat) : Int) := wsucc (by omega)
    have hn : (((i + 1 : Nat) : Int)).toNat = i + 1 := Int.toNat_natCast _
    have hpow : (128 : Int) ^ (i + 1) = 128 ^ i * 128 := Int.pow_succ 128 i
    have hpos : (0 : Int) < 128 ^ i := Int.pow_pos (by decide)
    refine Ev.step (fun k => impl_TakeVar.l0.eq_2 ..) (Ev.pos (by omega) ?_)
    refine Ev.step (fun k => impl_TakeVar.j1.eq_2 ..) ?_
    refine Ev.pos (decide_eq_true (by omega)) (Ev.pos (by omega) (Ev.pos (by omega) ?_))
    rw [hg]
    have main : (i = 9 → bt s (i : Int) % 128 < 2) → Ev (fun k => impl_TakeVar.j2 k s acc (i : Int) (bt s (i : Int) % 128) false) (if bt s (i : Int) < 128 then (if 0 < i ∧ bt s (i : Int) = 0 then ((0 : Int), (⟨#[]⟩ : ByteArray), false) else (acc + bt s (i : Int) * 128 ^ i, s.extract (i + 1) s.size, true)) else tvGo s d (i + 1) (acc + (bt s (i : Int) - 128) * 128 ^ i)) := by
     intro h9
     have hor := or_step i (by omega) acc (bt s (i : Int) % 128) h0 h1 (by omega) (by omega) (by omega)
     refine Ev.step (fun k => impl_TakeVar.j2.eq_2 ..) (Ev.neg (by decide) ?_)
     rw [hw7, hor, hsucc, hn]
     refine Ev.pos (by omega) (Ev.pos (by omega) (Ev.pos (by omega) ?_))
     by_cases c2 : bt s (i : Int) < 128
     ·refine Ev.eqr ?_ (if_pos c2).symm
      rw [show bt s (i : Int) % 128 = bt s (i : Int) from by omega]
      refine Ev.neg (by omega) ?_
      by_cases cz : bt s (i : Int) = 0
      ·by_cases ci : 0 < i
       ·refine Ev.eqr ?_ (if_pos ⟨ci, cz⟩).symm
        exact Ev.pos cz (Ev.pos (by omega) (Ev.now _))
       ·refine Ev.eqr ?_ (if_neg (fun h => ci h.1)).symm
        exact Ev.pos cz (Ev.neg (by omega) (Ev.pos (by omega) (Ev.pos (by omega) (Ev.now _))))
      ·refine Ev.eqr ?_ (if_neg (fun h => cz h.2)).symm
       exact Ev.neg cz (Ev.pos (by omega) (Ev.pos (by omega) (Ev.now _)))
     ·refine Ev.eqr ?_ (if_neg c2).symm
      rw [show bt s (i : Int) % 128 = bt s (i : Int) - 128 from by omega]
      refine Ev.pos (by omega) ?_
      have hm : (bt s (i : Int) - 128) * 128 ^ i ≤ 127 * 128 ^ i := Int.mul_le_mul_of_nonneg_right (by omega) (by omega)
      have hm0 : 0 ≤ (bt s (i : Int) - 128) * 128 ^ i := Int.mul_nonneg (by omega) (by omega)
      exact ih (i + 1) _ (by omega) (by omega) (by omega)
    by_cases c9 : i = 9
    ·refine Ev.pos (by omega) ?_
     by_cases cb : 1 < bt s (i : Int)
     ·by_cases cg : bt s (i : Int) % 128 > 1
      case neg =>
       refine Ev.eqr ?_ (if_pos ⟨c9, cb⟩).symm
       rw [decide_eq_false cg]
       refine (main (fun _ => by omega)).eqr ?_
       obtain rfl : d = 0 := by omega
       rw [if_neg (by omega)]
       rfl
      refine Ev.eqr ?_ (if_pos ⟨c9, cb⟩).symm
      rw [decide_eq_true (show bt s (i : Int) % 128 > 1 by omega)]
      refine Ev.step (fun k => impl_TakeVar.j2.eq_2 ..) ?_
      exact Ev.pos (by decide) (Ev.now _)
     ·refine Ev.eqr ?_ (if_neg (fun h => cb h.2)).symm
      rw [decide_eq_false (show ¬ (bt s (i : Int) % 128 > 1) by omega)]
      exact main (fun _ => by omega)
    ·refine Ev.neg (by omega) ?_
     refine Ev.eqr ?_ (if_neg (fun h => c9 h.1)).symm
     exact main (fun h => absurd h c9)
   ·refine Ev.eqr ?_ (if_neg c).symm
    refine Ev.step (fun k => impl_TakeVar.l0.eq_2 ..) (Ev.neg (by omega) ?_)
    refine Ev.step (fun k => impl_TakeVar.j1.eq_2 ..) ?_
    exact Ev.neg (by decide) (Ev.now _)
 exact key 10 0 0 rfl (by decide) (by decide)
end Go.Proofs.Ytcgejabkjljeeaa.P
end

section
namespace Go.Proofs.Ytcgejabkjljeeaa.P
open Go.RowKit Go.Proofs.YtcgejabkjljeeaaW.PrintWords Go.Proofs.YtcgejabkjljeeaaW.PrintLast Go.Proofs.YtcgejabkjljeeaaW.PrintMore
attribute [local go_sem] qk1 qj1 ql1 qf1 qd1 qn1 qm1 qa1 qz qe1 qc1
set_option linter.unusedVariables false
set_option linter.unusedSimpArgs false
def tt (s : ByteArray) : ByteArray × ByteArray × Bool :=
 if (tv s).2.2 = true ∧ (tv s).1 ≤ 60000 ∧ (tv s).1 ≤ ((tv s).2.1.size : Int) then ((tv s).2.1.extract 0 (tv s).1.toNat, (tv s).2.1.extract (tv s).1.toNat (tv s).2.1.size, true) else (⟨#[]⟩, ⟨#[]⟩, false)
theorem empty_size : (⟨#[]⟩ : ByteArray).size = 0 := rfl
theorem tvGo_range (s : ByteArray) : ∀ (d i : Nat) (acc : Int), i + d = 10 → 0 ≤ acc → acc < 128 ^ i → 0 ≤ (tvGo s d i acc).1 ∧ (tvGo s d i acc).1 < 18446744073709551616 ∧ (tvGo s d i acc).2.1.size ≤ s.size ∧ ((tvGo s d i acc).2.2 = true → (tvGo s d i acc).2.1.size < s.size) := by
 intro d
 induction d with
 | zero => intro i acc _ _ _; simp [tvGo, empty_size]
 | succ d ih =>
  intro i acc hi h0 h1
  have hf : 0 ≤ ((0 : Int), (⟨#[]⟩ : ByteArray), false).1 ∧ ((0 : Int), (⟨#[]⟩ : ByteArray), false).1 < 18446744073709551616 ∧ ((0 : Int), (⟨#[]⟩ : ByteArray), false).2.1.size ≤ s.size ∧ (((0 : Int), (⟨#[]⟩ : ByteArray), false).2.2 = true → ((0 : Int), (⟨#[]⟩ : ByteArray), false).2.1.size < s.size) := by simp [empty_size]
  obtain ⟨r0, r1⟩ := bt_range s (i : Int)
  have hpos : (0 : Int) < 128 ^ i := Int.pow_pos (by decide)
  unfold tvGo
  by_cases c : i < s.size
  ·rw [if_pos c]
   by_cases c9 : i = 9 ∧ 1 < bt s (i : Int)
   ·rw [if_pos c9]; exact hf
   ·rw [if_neg c9]
    by_cases c2 : bt s (i : Int) < 128
    ·rw [if_pos c2]
     by_cases cz : 0 < i ∧ bt s (i : Int) = 0
     ·rw [if_pos cz]; exact hf
     ·rw [if_neg cz]
      have hn : 0 ≤ bt s (i : Int) * 128 ^ i := Int.mul_nonneg r0 (by omega)
      have hb : acc + bt s (i : Int) * 128 ^ i < 18446744073709551616 := by
       by_cases e : i = 9
       ·subst e
        have : bt s ((9 : Nat) : Int) ≤ 1 := by
         have := fun h => c9 ⟨rfl, h⟩
         omega
        have : bt s ((9 : Nat) : Int) * 128 ^ 9 ≤ 1 * 128 ^ 9 := Int.mul_le_mul_of_nonneg_right this (by decide)
        omega
       ·have h8 : (128 : Int) ^ i ≤ 128 ^ 8 := by
         have : (128 : Nat) ^ i ≤ 128 ^ 8 := Nat.pow_le_pow_right (by decide) (by omega)
         exact_mod_cast this
        have : bt s (i : Int) * 128 ^ i ≤ 127 * 128 ^ 8 := Int.mul_le_mul (by omega) h8 (by omega) (by decide)
        omega
      refine ⟨by show 0 ≤ acc + _; omega, hb, ?_, ?_⟩
      ·show (s.extract (i + 1) s.size).size ≤ s.size
       rw [ByteArray.size_extract]; omega
      ·intro _
       show (s.extract (i + 1) s.size).size < s.size
       rw [ByteArray.size_extract]; omega
    ·rw [if_neg c2]
     have hm : (bt s (i : Int) - 128) * 128 ^ i ≤ 127 * 128 ^ i := Int.mul_le_mul_of_nonneg_right (by omega) (by omega)
     have hm0 : 0 ≤ (bt s (i : Int) - 128) * 128 ^ i := Int.mul_nonneg (by omega) (by omega)
     have hpow : (128 : Int) ^ (i + 1) = 128 ^ i * 128 := Int.pow_succ 128 i
     exact ih (i + 1) _ (by omega) (by omega) (by omega)
  ·rw [if_neg c]; exact hf
theorem tv_range (s : ByteArray) : 0 ≤ (tv s).1 ∧ (tv s).1 < 18446744073709551616 ∧ (tv s).2.1.size ≤ s.size ∧ ((tv s).2.2 = true → (tv s).2.1.size < s.size) := tvGo_range s 10 0 0 rfl (by decide) (by decide)
theorem takeText_ev (s : ByteArray) (hs : s.size ≤ 4611686018427387904) : Ev (fun k => impl_TakeText.f k s) (tt s) := by
 unfold impl_TakeText.f tt
 obtain ⟨r0, r1, r2, _⟩ := tv_range s
 refine Ev.bind (takeVar_ev s hs) ?_
 by_cases c1 : (tv s).2.2 = true
 ·refine Ev.pos c1 ?_
  by_cases c2 : (tv s).1 > 60000
  ·exact Ev.pos c2 ((Ev.now _).eqr (if_neg (fun h => by omega)).symm)
  ·refine Ev.neg c2 ?_
   rw [uid (x := ((tv s).2.1.size : Int)) (by omega) (by omega)]
   by_cases c3 : (tv s).1 > ((tv s).2.1.size : Int)
   ·exact Ev.pos c3 ((Ev.now _).eqr (if_neg (fun h => by omega)).symm)
   ·exact Ev.neg c3 (Ev.pos r0 (Ev.pos (by omega) ((Ev.now _).eqr (if_pos ⟨c1, by omega, by omega⟩).symm)))
 ·exact Ev.neg c1 ((Ev.now _).eqr (if_neg (fun h => c1 h.1)).symm)
theorem sTakeText_ev (s : ByteArray) (hs : s.size ≤ 4611686018427387904) : Ev (fun k => spec_TakeText.f k s) (tt s) := by
 unfold spec_TakeText.f tt
 obtain ⟨r0, r1, r2, _⟩ := tv_range s
 refine Ev.bind (sTakeVar_ev s hs) ?_
 by_cases c1 : (tv s).2.2 = true
 ·refine Ev.pos c1 ?_
  by_cases c2 : (tv s).1 > 60000
  ·exact Ev.pos c2 ((Ev.now _).eqr (if_neg (fun h => by omega)).symm)
  ·refine Ev.neg c2 ?_
   rw [uid (x := ((tv s).2.1.size : Int)) (by omega) (by omega)]
   by_cases c3 : (tv s).1 > ((tv s).2.1.size : Int)
   ·exact Ev.pos c3 ((Ev.now _).eqr (if_neg (fun h => by omega)).symm)
   ·exact Ev.neg c3 (Ev.pos r0 (Ev.pos (by omega) ((Ev.now _).eqr (if_pos ⟨c1, by omega, by omega⟩).symm)))
 ·exact Ev.neg c1 ((Ev.now _).eqr (if_neg (fun h => c1 h.1)).symm)
theorem tt_range (s : ByteArray) : (tt s).1.size ≤ 60000 ∧ (tt s).1.size ≤ s.size ∧ (tt s).2.1.size ≤ s.size ∧ ((tt s).2.2 = true → (tt s).2.1.size < s.size) := by
 obtain ⟨r0, r1, r2, r3⟩ := tv_range s
 unfold tt
 by_cases c : (tv s).2.2 = true ∧ (tv s).1 ≤ 60000 ∧ (tv s).1 ≤ ((tv s).2.1.size : Int)
 ·rw [if_pos c]
  have := r3 c.1
  simp only [ByteArray.size_extract]
  exact ⟨by omega, by omega, by omega, fun _ => by omega⟩
 ·rw [if_neg c]
  simp [empty_size]
theorem toList_inj {a b : ByteArray} (h : a.toList = b.toList) : a = b := by
 rw [ByteArray.toList_eq, ByteArray.toList_eq] at h
 exact ByteArray.ext (Array.toList_inj.1 h)
theorem bytesOf_inj {a b : ByteArray} (h : bytesOf a = bytesOf b) : a = b := by
 have := List.map_inj_right (f := fun b : UInt8 => (b.toNat : Int)) (fun x y h => UInt8.toNat_inj.1 (by have h : (x.toNat : Int) = (y.toNat : Int) := h; omega)) |>.1 h
 exact ByteArray.ext (Array.toList_inj.1 this)
theorem bytesOf_append (a b : ByteArray) : bytesOf (a ++ b) = bytesOf a ++ bytesOf b := by
 unfold bytesOf
 simp
theorem bytesOf_strOfNums (l : List Int) (h : ∀ x ∈ l, 0 ≤ x ∧ x < 256) : bytesOf (strOfNums l) = l := by
 unfold bytesOf strOfNums
 simp only [List.map_map]
 conv => rhs; rw [← List.map_id l]
 refine List.map_congr_left fun x hx => ?_
 have := h x hx
 simp only [Function.comp_apply, id]
 rw [UInt8.toNat_ofNat']
 omega
theorem bytesOf_extract (s : ByteArray) (i j : Nat) (hj : j ≤ s.size) : bytesOf (s.extract i j) = ((bytesOf s).take j).drop i := by
 unfold bytesOf
 rw [← List.map_take, ← List.map_drop, ByteArray.data_extract, Array.toList_extract]
 simp [List.extract_eq_take_drop, List.drop_take]
theorem bytesOf_pv (n : Nat) : bytesOf (pv n) = pvl n := bytesOf_strOfNums _ (pvl_range n)
theorem bt_drop {s : ByteArray} {i : Nat} {x : Int} {l : List Int} (h : (bytesOf s).drop i = x :: l) : i < s.size ∧ bt s (i : Int) = x ∧ (bytesOf s).drop (i + 1) = l := by
 have hi : i < (bytesOf s).length := by
  apply Classical.byContradiction
  intro c
  rw [List.drop_eq_nil_of_le (by omega)] at h
  cases h
 rw [List.drop_eq_getElem_cons hi] at h
 injection h with h1 h2
 refine ⟨by rw [bytesOf_length] at hi; exact hi, ?_, h2⟩
 rw [← rd_bytesOf]
 unfold rd
 rw [Int.toNat_natCast, List.getD_eq_getElem?_getD, List.getElem?_eq_getElem hi]
 exact h1
theorem drop_all {s t : ByteArray} {i : Nat} (h : (bytesOf s).drop i = bytesOf t) : s.extract i s.size = t := by
 apply bytesOf_inj
 rw [bytesOf_extract _ _ _ (Nat.le_refl _), ← bytesOf_length s, List.take_length]
 exact h
theorem tvGo_pv (s t : ByteArray) : ∀ (d i n : Nat) (acc : Int), i + d = 10 → (bytesOf s).drop i = pvl n ++ bytesOf t → (0 < i → 0 < n) → n * 128 ^ i < 18446744073709551616 → tvGo s d i acc = (acc + (n : Int) * 128 ^ i, t, true) := by
 intro d
 induction d with
 | zero =>
  intro i n acc hi _ h0 hn
  obtain rfl : i = 10 := by omega
  have := h0 (by omega)
  have : 1 * 128 ^ 10 ≤ n * 128 ^ 10 := Nat.mul_le_mul_right _ this
  omega
 | succ d ih =>
  intro i n acc hi hb h0 hn
  have h9 : i = 9 → n ≤ 1 := by
   intro e
   subst e
   omega
  by_cases c : n < 128
  ·rw [pvl_small c] at hb
   obtain ⟨b1, b2, b3⟩ := bt_drop hb
   unfold tvGo
   rw [if_pos b1, b2, if_neg (fun h => by have := h9 h.1; omega), if_pos (by omega), if_neg (fun h => by have := h0 h.1; omega), drop_all b3]
  ·rw [pvl_big c] at hb
   obtain ⟨b1, b2, b3⟩ := bt_drop hb
   unfold tvGo
   rw [if_pos b1, b2, if_neg (fun h => by have := h9 h.1; omega), if_neg (by omega)]
   have hnat : n / 128 * 128 ^ (i + 1) + n % 128 * 128 ^ i = n * 128 ^ i := by
    rw [Nat.pow_succ, Nat.mul_comm (128 ^ i) 128, ← Nat.mul_assoc, ← Nat.add_mul]
    congr 1
    omega
   rw [ih (i + 1) (n / 128) _ (by omega) b3 (fun _ => by omega) (by omega)]
   congr 1
   have hint : ((n / 128 : Nat) : Int) * 128 ^ (i + 1) + ((n % 128 : Nat) : Int) * 128 ^ i = (n : Int) * 128 ^ i := by exact_mod_cast hnat
   rw [show (((n % 128 + 128 : Nat) : Int) - 128) = ((n % 128 : Nat) : Int) from by omega, Int.add_assoc, Int.add_comm (((n % 128 : Nat) : Int) * 128 ^ i), hint]
theorem tv_pv (n : Nat) (hn : n < 18446744073709551616) (t : ByteArray) : tv (pv n ++ t) = ((n : Int), t, true) := by
 have := tvGo_pv (pv n ++ t) t 10 0 n 0 rfl (by rw [List.drop_zero, bytesOf_append, bytesOf_pv]) (fun h => absurd h (by omega)) (by simpa using hn)
 unfold tv
 rw [this]
 simp
theorem tvGo_back (s : ByteArray) : ∀ (d i : Nat) (acc : Int), i + d = 10 → (tvGo s d i acc).2.2 = true → ∃ m : Nat, (tvGo s d i acc).1 = acc + (m : Int) * 128 ^ i ∧ (bytesOf s).drop i = pvl m ++ bytesOf (tvGo s d i acc).2.1 ∧ (0 < i → 0 < m) := by
 intro d
 induction d with
 | zero => intro i acc _ h; simp [tvGo] at h
 | succ d ih =>
  intro i acc hi h
  obtain ⟨r0, r1⟩ := bt_range s (i : Int)
  unfold tvGo at h ⊢
  by_cases c : i < s.size
  ·have hi2 : i < (bytesOf s).length := by rw [bytesOf_length]; exact c
   have hd : (bytesOf s).drop i = bt s (i : Int) :: (bytesOf s).drop (i + 1) := by
    rw [List.drop_eq_getElem_cons hi2]
    congr 1
    rw [← rd_bytesOf]
    unfold rd
    rw [Int.toNat_natCast, List.getD_eq_getElem?_getD, List.getElem?_eq_getElem hi2]
    rfl
   rw [if_pos c] at h ⊢
   by_cases c9 : i = 9 ∧ 1 < bt s (i : Int)
   ·rw [if_pos c9] at h; simp at h
   ·rw [if_neg c9] at h ⊢
    by_cases c2 : bt s (i : Int) < 128
    ·rw [if_pos c2] at h ⊢
     by_cases cz : 0 < i ∧ bt s (i : Int) = 0
     ·rw [if_pos cz] at h; simp at h
     ·rw [if_neg cz]
      refine ⟨(bt s (i : Int)).toNat, ?_, ?_, fun h => by have := fun e => cz ⟨h, e⟩; omega⟩
      ·show acc + bt s (i : Int) * 128 ^ i = _
       rw [Int.toNat_of_nonneg r0]
      ·show _ = _ ++ bytesOf (s.extract (i + 1) s.size)
       rw [pvl_small (by omega), Int.toNat_of_nonneg r0, hd, bytesOf_extract _ _ _ (Nat.le_refl _), ← bytesOf_length s, List.take_length]
       rfl
    ·rw [if_neg c2] at h ⊢
     obtain ⟨m, m1, m2, m3⟩ := ih (i + 1) _ (by omega) h
     have m4 := m3 (by omega)
     refine ⟨(bt s (i : Int)).toNat - 128 + 128 * m, ?_, ?_, fun _ => by omega⟩
     ·rw [m1, Int.pow_succ, show ((((bt s (i : Int)).toNat - 128 + 128 * m : Nat)) : Int) = (bt s (i : Int) - 128) + 128 * (m : Int) from by omega, Int.add_mul, Int.add_assoc]
      congr 2
      rw [Int.mul_comm (128 ^ i) 128, ← Int.mul_assoc, Int.mul_comm (m : Int) 128]
     ·rw [hd, m2, pvl_big (n := (bt s (i : Int)).toNat - 128 + 128 * m) (by omega), show ((bt s (i : Int)).toNat - 128 + 128 * m) % 128 = (bt s (i : Int)).toNat - 128 from by omega, show ((bt s (i : Int)).toNat - 128 + 128 * m) / 128 = m from by omega, show (((bt s (i : Int)).toNat - 128 + 128 : Nat) : Int) = bt s (i : Int) from by omega]
      rfl
  ·rw [if_neg c] at h
   simp at h
theorem tv_back (s : ByteArray) (h : (tv s).2.2 = true) : s = pv (tv s).1.toNat ++ (tv s).2.1 := by
 obtain ⟨m, m1, m2, _⟩ := tvGo_back s 10 0 0 rfl h
 have e : (tv s).1 = (m : Int) := by
  show (tvGo s 10 0 0).1 = _
  rw [m1]
  simp
 apply bytesOf_inj
 rw [e, Int.toNat_natCast, bytesOf_append, bytesOf_pv]
 rw [List.drop_zero] at m2
 exact m2
theorem extract_front (a b : ByteArray) : (a ++ b).extract 0 a.size = a := by
 apply bytesOf_inj
 rw [bytesOf_extract _ _ _ (by rw [ByteArray.size_append]; omega), bytesOf_append, ← bytesOf_length a, List.take_left, List.drop_zero]
theorem extract_back (a b : ByteArray) : (a ++ b).extract a.size (a ++ b).size = b := by
 apply bytesOf_inj
 rw [bytesOf_extract _ _ _ (Nat.le_refl _), ← bytesOf_length (a ++ b), List.take_length, bytesOf_append, ← bytesOf_length a, List.drop_left]
theorem extract_join (s : ByteArray) (n : Nat) (h : n ≤ s.size) : s.extract 0 n ++ s.extract n s.size = s := by
 apply bytesOf_inj
 rw [bytesOf_append, bytesOf_extract _ _ _ h, bytesOf_extract _ _ _ (Nat.le_refl _), ← bytesOf_length s, List.take_length, List.drop_zero, List.take_append_drop]
theorem tt_pt (t r : ByteArray) (h : t.size ≤ 60000) : tt (pt t ++ r) = (t, r, true) := by
 have e : pt t ++ r = pv t.size ++ (t ++ r) := by unfold pt; rw [ByteArray.append_assoc]
 unfold tt
 rw [e, tv_pv _ (by omega)]
 simp only
 rw [if_pos ⟨by simp, by omega, by rw [ByteArray.size_append]; omega⟩, Int.toNat_natCast, extract_front, extract_back]
theorem tt_back (s : ByteArray) (h : (tt s).2.2 = true) : s = pt (tt s).1 ++ (tt s).2.1 := by
 obtain ⟨r0, r1, r2, r3⟩ := tv_range s
 unfold tt at h ⊢
 by_cases c : (tv s).2.2 = true ∧ (tv s).1 ≤ 60000 ∧ (tv s).1 ≤ ((tv s).2.1.size : Int)
 ·rw [if_pos c]
  have hb := tv_back s c.1
  have hz : ((tv s).2.1.extract 0 (tv s).1.toNat).size = (tv s).1.toNat := by rw [ByteArray.size_extract]; omega
  show s = pt ((tv s).2.1.extract 0 (tv s).1.toNat) ++ (tv s).2.1.extract (tv s).1.toNat (tv s).2.1.size
  unfold pt
  rw [hz, ByteArray.append_assoc, extract_join _ _ (by omega)]
  exact hb
 ·rw [if_neg c] at h
  simp at h
end Go.Proofs.Ytcgejabkjljeeaa.P
end

section
namespace Go.Proofs.Ytcgejabkjljeeaa.P
open Go.RowKit Go.Proofs.YtcgejabkjljeeaaW.PrintWords Go.Proofs.YtcgejabkjljeeaaW.PrintLast Go.Proofs.YtcgejabkjljeeaaW.PrintMore
attribute [local go_sem] qk1 qj1 ql1 qf1 qd1 qn1 qm1 qa1 qz qe1 qc1
set_option linter.unusedVariables false
set_option linter.unusedSimpArgs false
def pf (n : Int) : ByteArray := strOfNums [n % 256, (n / 256) % 256, (n / 65536) % 256, (n / 16777216) % 256]
theorem bytesOf_pf (n : Int) : bytesOf (pf n) = [n % 256, (n / 256) % 256, (n / 65536) % 256, (n / 16777216) % 256] := by
 refine bytesOf_strOfNums _ fun x hx => ?_
 simp only [List.mem_cons, List.not_mem_nil, or_false] at hx
 omega
theorem pf_size (n : Int) : (pf n).size = 4 := by rw [← bytesOf_length, bytesOf_pf]; rfl
def f4 (s : ByteArray) : Int := bt s 0 + bt s 1 * 256 + bt s 2 * 65536 + bt s 3 * 16777216
theorem f4_range (s : ByteArray) : 0 ≤ f4 s ∧ f4 s < 4294967296 := by
 have := bt_range s 0
 have := bt_range s 1
 have := bt_range s 2
 have := bt_range s 3
 unfold f4
 omega
def tf (s : ByteArray) : Int × ByteArray × Bool := if s.size < 4 then (0, ⟨#[]⟩, false) else (f4 s, s.extract 4 s.size, true)
theorem or4 (s : ByteArray) : Go.bits .or .u32 (Go.bits .or .u32 (Go.bits .or .u32 ((bt s 0) % 4294967296) ((((bt s 1) % 4294967296) * 256) % 4294967296)) ((((bt s 2) % 4294967296) * 65536) % 4294967296)) ((((bt s 3) % 4294967296) * 16777216) % 4294967296) = f4 s := by
 have := bt_range s 0
 have := bt_range s 1
 have := bt_range s 2
 have := bt_range s 3
 have e1 : Go.bits .or .u32 ((bt s 0) % 4294967296) ((((bt s 1) % 4294967296) * 256) % 4294967296) = bt s 0 + bt s 1 * 256 := (u32_or8 _ _ (by omega) (by omega) (by omega) (by omega) (by omega)).trans (by omega)
 rw [e1]
 have e2 : Go.bits .or .u32 (bt s 0 + bt s 1 * 256) ((((bt s 2) % 4294967296) * 65536) % 4294967296) = bt s 0 + bt s 1 * 256 + bt s 2 * 65536 := (u32_or16 _ _ (by omega) (by omega) (by omega) (by omega) (by omega)).trans (by omega)
 rw [e2]
 have e3 : Go.bits .or .u32 (bt s 0 + bt s 1 * 256 + bt s 2 * 65536) ((((bt s 3) % 4294967296) * 16777216) % 4294967296) = bt s 0 + bt s 1 * 256 + bt s 2 * 65536 + bt s 3 * 16777216 := (u32_or24 _ _ (by omega) (by omega) (by omega) (by omega) (by omega)).trans (by omega)
 exact e3
theorem takeFixed_ev (s : ByteArray) : impl_TakeFixed.f s = some (tf s) := by
 unfold impl_TakeFixed.f tf
 by_cases c : s.size < 4
 ·rw [if_pos (by omega), if_pos c]
 ·rw [if_neg (by omega), if_neg c, if_pos (by omega), if_pos (by omega), if_pos (by omega), if_pos (by omega), if_pos (by omega), or4]
theorem sTakeFixed_ev (s : ByteArray) : spec_TakeFixed.f s = some (tf s) := by
 unfold spec_TakeFixed.f tf
 by_cases c : s.size < 4
 ·rw [if_pos (by omega), if_pos c]
 ·rw [if_neg (by omega), if_neg c, if_pos (by omega), if_pos (by omega), if_pos (by omega), if_pos (by omega), if_pos (by omega), or4]
theorem putFixed_ev (n : Int) : impl_PutFixed.f n = some (pf n) := rfl
theorem sPutFixed_ev (n : Int) : spec_PutFixed.f n = some (pf n) := rfl
theorem bt_append (a b : ByteArray) (i : Nat) (h : i < a.size) : bt (a ++ b) (i : Int) = (bytesOf a).getD i 0 := by
 rw [← rd_bytesOf, bytesOf_append]
 unfold rd
 rw [Int.toNat_natCast, List.getD_eq_getElem?_getD, List.getD_eq_getElem?_getD, List.getElem?_append_left (by rw [bytesOf_length]; exact h)]
theorem f4_pf (n : Int) (h0 : 0 ≤ n) (h1 : n < 4294967296) (t : ByteArray) : f4 (pf n ++ t) = n := by
 unfold f4
 have e0 := bt_append (pf n) t 0 (by rw [pf_size]; omega)
 have e1 := bt_append (pf n) t 1 (by rw [pf_size]; omega)
 have e2 := bt_append (pf n) t 2 (by rw [pf_size]; omega)
 have e3 := bt_append (pf n) t 3 (by rw [pf_size]; omega)
 rw [bytesOf_pf] at e0 e1 e2 e3
 simp only [List.getD_cons_zero, List.getD_cons_succ, Int.natCast_zero, Int.natCast_one] at e0 e1 e2 e3
 have e2 : bt (pf n ++ t) 2 = n / 65536 % 256 := e2
 have e3 : bt (pf n ++ t) 3 = n / 16777216 % 256 := e3
 rw [e0, e1, e2, e3]
 omega
theorem pf_f4 (s : ByteArray) (h : 4 ≤ s.size) : pf (f4 s) ++ s.extract 4 s.size = s := by
 apply bytesOf_inj
 have h0 := bt_range s 0
 have h1 := bt_range s 1
 have h2 := bt_range s 2
 have h3 := bt_range s 3
 rw [bytesOf_append, bytesOf_pf, bytesOf_extract _ _ _ (Nat.le_refl _), ← bytesOf_length s, List.take_length]
 have hl := bytesOf_length s
 have g : ∀ i : Nat, ∀ h : i < (bytesOf s).length, (bytesOf s)[i] = bt s (i : Int) := by
  intro i h
  rw [← rd_bytesOf]
  unfold rd
  rw [Int.toNat_natCast, List.getD_eq_getElem?_getD, List.getElem?_eq_getElem h]
  rfl
 have e : bytesOf s = [bt s 0, bt s 1, bt s 2, bt s 3] ++ (bytesOf s).drop 4 := by
  conv => lhs; rw [← List.drop_zero (l := bytesOf s)]
  rw [List.drop_eq_getElem_cons (by omega), g 0 (by omega), List.drop_eq_getElem_cons (by omega), g 1 (by omega), List.drop_eq_getElem_cons (by omega), g 2 (by omega), List.drop_eq_getElem_cons (by omega), g 3 (by omega)]
  rfl
 conv => rhs; rw [e]
 congr 1
 unfold f4
 congr 1
 ·omega
 ·congr 1
  ·omega
  ·congr 1
   ·omega
   ·congr 1
    omega
end Go.Proofs.Ytcgejabkjljeeaa.P
end
