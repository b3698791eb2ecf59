/- Proved: the law FnBatches of the given program returns true for every input of its Go types and leaves each argument as it was; no condition. (Part 12 of 14.) -/
import Derived.Test.YtidjdkodgddfcaaCFnBatches4
import Derived.Test.YtidjdkodgddfcaaCFnBatches5
import Derived.Test.YtidjdkodgddfcaaCFnBatches6
import Derived.Test.YtidjdkodgddfcaaCFnBatches10
import Derived.Lib.EndianBits
import Derived.Test.YtidjdkodgddfcaaCFnBatches7
import Derived.Test.YtidjdkodgddfcaaCFnBatches9
section
namespace Go.Proofs.Ytidjdkodgddfcaa.P
open Go.RowKit Go.Proofs.YtidjdkodgddfcaaW.PrintWords Go.Proofs.YtidjdkodgddfcaaW.PrintLast Go.Proofs.YtidjdkodgddfcaaW.PrintMore
attribute [local go_sem] qi1 qh1 qj1 qd1 qb1 ql1 qk1 qx qw qc1 qa1
set_option linter.unusedVariables false
set_option linter.unusedSimpArgs false
def pvl (n : Nat) : List Int := if n < 128 then [(n : Int)] else ((n % 128 + 128 : Nat) : Int) :: pvl (n / 128)
termination_by n
decreasing_by omega
def pv (n : Nat) : ByteArray := strOfNums (pvl n)
theorem pvl_small {n : Nat} (h : n < 128) : pvl n = [(n : Int)] := by rw [pvl, if_pos h]
theorem pvl_big {n : Nat} (h : ¬ n < 128) : pvl n = ((n % 128 + 128 : Nat) : Int) :: pvl (n / 128) := by rw [pvl, if_neg h]
theorem pvl_range (n : Nat) : ∀ x ∈ pvl n, 0 ≤ x ∧ x < 256 := by
  induction n using Nat.strongRecOn with
  | _ n ih =>
    by_cases h : n < 128
    · rw [pvl_small h]
      intro x hx
      rw [List.mem_singleton] at hx
      omega
    · rw [pvl_big h]
      intro x hx
      rcases List.mem_cons.1 hx with rfl | hx
      · omega
      · exact ih (n / 128) (by omega) x hx
theorem pvl_len (d : Nat) : ∀ n, n < 128 ^ (d + 1) → 1 ≤ (pvl n).length ∧ (pvl n).length ≤ d + 1 := by
  induction d with
  | zero =>
    intro n h
    rw [pvl_small (by simpa using h)]
    simp
  | succ d ih =>
    intro n h
    by_cases c : n < 128
    · rw [pvl_small c]
      simp
    · rw [pvl_big c, List.length_cons]
      have := ih (n / 128) (Nat.div_lt_of_lt_mul (by rw [Nat.pow_succ, Nat.mul_comm] at h; exact h))
      omega
theorem pv_size {n : Nat} (h : n < 18446744073709551616) : 1 ≤ (pv n).size ∧ (pv n).size ≤ 10 := by
  have e : (pv n).size = (pvl n).length := by unfold pv strOfNums; simp [ByteArray.size]
  rw [e]
  exact pvl_len 9 n (by omega)
theorem or128 : ∀ x : Fin 256, Go.bits .or .u8 ((x.val : Nat) : Int) 128 = ((x.val % 128 + 128 : Nat) : Int) := by decide +kernel
theorem and127 : ∀ x : Fin 256, Go.bits .and .u8 ((x.val : Nat) : Int) 127 = ((x.val % 128 : Nat) : Int) := by decide +kernel
theorem putVar_ev (n : Nat) (h : n < 18446744073709551616) : Ev (fun k => impl_PutVar.f k (n : Int)) (pv n) := by
  have key : ∀ (d n : Nat) (acc : List Int), n < 128 ^ (d + 1) → acc.length + d ≤ 100 → Ev (fun k => impl_PutVar.l0 k (n : Int) acc) (strOfNums (acc ++ pvl n)) := by
    intro d
    induction d with
    | zero =>
      intro n acc hn ha
      have hn' : n < 128 := by simpa using hn
      rw [pvl_small hn']
      refine Ev.step (fun k => rfl) (Ev.neg (by omega) (Ev.pos (by omega) ?_))
      rw [Int.emod_eq_of_lt (by omega) (by omega)]
      exact Ev.now _
    | succ d ih =>
      intro n acc hn ha
      by_cases c : n < 128
      · rw [pvl_small c]
        refine Ev.step (fun k => rfl) (Ev.neg (by omega) (Ev.pos (by omega) ?_))
        rw [Int.emod_eq_of_lt (by omega) (by omega)]
        exact Ev.now _
      · rw [pvl_big c]
        refine Ev.step (fun k => rfl) (Ev.pos (by omega) (Ev.pos (by omega) ?_))
        have e : Go.bits .or .u8 ((n : Int) % 256) 128 = ((n % 128 + 128 : Nat) : Int) := by
          have := or128 ⟨n % 256, by omega⟩
          simp only at this
          rw [show ((n : Int) % 256) = ((n % 256 : Nat) : Int) from by omega, this]
          omega
        rw [e, show ((n : Int) / 128) = ((n / 128 : Nat) : Int) from by omega]
        refine (ih (n / 128) _ (Nat.div_lt_of_lt_mul (by rw [Nat.pow_succ, Nat.mul_comm] at hn; exact hn)) (by rw [List.length_append]; simp; omega)).eqr ?_
        rw [List.append_assoc]
        rfl
  have := key 9 n [] (by omega) (by simp)
  rw [List.nil_append] at this
  exact this
theorem sPutVar_ev (n : Nat) (h : n < 18446744073709551616) : Ev (fun k => spec_PutVar.f k (n : Int)) (pv n) := by
  have key : ∀ (d n : Nat) (acc : List Int), n < 18446744073709551616 → n < 128 ^ (d + 1) → acc.length + d ≤ 100 → Ev (fun k => spec_PutVar.l0 k (n : Int) acc) (strOfNums (acc ++ pvl n)) := by
    intro d
    induction d with
    | zero =>
      intro n acc h hn ha
      have hn' : n < 128 := by simpa using hn
      rw [pvl_small hn']
      refine Ev.step (fun k => rfl) (Ev.neg (by omega) (Ev.pos (by omega) ?_))
      rw [Int.emod_eq_of_lt (by omega) (by omega)]
      exact Ev.now _
    | succ d ih =>
      intro n acc h hn ha
      by_cases c : n < 128
      · rw [pvl_small c]
        refine Ev.step (fun k => rfl) (Ev.neg (by omega) (Ev.pos (by omega) ?_))
        rw [Int.emod_eq_of_lt (by omega) (by omega)]
        exact Ev.now _
      · rw [pvl_big c]
        refine Ev.step (fun k => rfl) (Ev.pos (by omega) (Ev.pos (by omega) ?_))
        have e : (IntKind.u64.wrap ((Int.tmod (n : Int) 128) + 128)) % 256 = ((n % 128 + 128 : Nat) : Int) := by
          rw [Int.tmod_eq_emod_of_nonneg (by omega), uid (by omega) (by omega)]
          omega
        have e2 : IntKind.u64.wrap (Int.tdiv (n : Int) 128) = ((n / 128 : Nat) : Int) := by
          rw [Int.tdiv_eq_ediv_of_nonneg (by omega), uid (by omega) (by omega)]
          omega
        rw [e, e2]
        refine (ih (n / 128) _ (by omega) (Nat.div_lt_of_lt_mul (by rw [Nat.pow_succ, Nat.mul_comm] at hn; exact hn)) (by rw [List.length_append]; simp; omega)).eqr ?_
        rw [List.append_assoc]
        rfl
  have := key 9 n [] h (by omega) (by simp)
  rw [List.nil_append] at this
  exact this
theorem putInt_ev (n : Nat) (h : n < 9223372036854775808) : Ev (fun k => impl_putInt.f k (n : Int)) (pv n) := by
  unfold impl_putInt.f
  rw [uid (by omega) (by omega)]
  exact Ev.bind (putVar_ev n (by omega)) (Ev.now _)
def pt (s : ByteArray) : ByteArray := pv s.size ++ s
theorem putText_ev (t : ByteArray) (h : t.size ≤ 4611686018427387904) : Ev (fun k => impl_PutText.f k t) (pt t) := by
  unfold impl_PutText.f
  rw [uid (by omega) (by omega)]
  have := (pv_size (n := t.size) (by omega)).2
  exact Ev.bind (putVar_ev t.size (by omega)) (Ev.pos (by omega) (Ev.now _))
theorem sPutText_ev (t : ByteArray) (h : t.size ≤ 4611686018427387904) : Ev (fun k => spec_PutText.f k t) (pt t) := by
  unfold spec_PutText.f
  rw [uid (by omega) (by omega)]
  have := (pv_size (n := t.size) (by omega)).2
  exact Ev.bind (sPutVar_ev t.size (by omega)) (Ev.pos (by omega) (Ev.now _))
theorem pt_size (t : ByteArray) (h : t.size ≤ 4611686018427387904) : t.size + 1 ≤ (pt t).size ∧ (pt t).size ≤ t.size + 10 := by
  have := pv_size (n := t.size) (by omega)
  unfold pt
  rw [ByteArray.size_append]
  omega
def tvGo (s : ByteArray) : Nat → Nat → Int → Int × ByteArray × Bool
  | 0, _, _ => (0, ⟨#[]⟩, false)
  | d + 1, i, acc => if i < s.size then
      (if i = 9 ∧ 1 < bt s i then (0, ⟨#[]⟩, false)
      else if bt s i < 128 then (if 0 < i ∧ bt s i = 0 then (0, ⟨#[]⟩, false) else (acc + bt s i * 128 ^ i, s.extract (i + 1) s.size, true))
      else tvGo s d (i + 1) (acc + (bt s i - 128) * 128 ^ i))
    else (0, ⟨#[]⟩, false)
def tv (s : ByteArray) : Int × ByteArray × Bool := tvGo s 10 0 0
theorem or_step (i : Nat) (hi : i < 10) (acc b : Int) (h0 : 0 ≤ acc) (h1 : acc < 128 ^ i) (b0 : 0 ≤ b) (b1 : b < 128) (b2 : i = 9 → b < 2) :
    Go.bits .or .u64 acc (shl .u64 b (7 * (i : Int))) = acc + b * 128 ^ i := by
  have hp : (128 : Int) ^ i = 2 ^ (7 * i) := by rw [Int.pow_mul]; rfl
  have hpos : (0 : Int) < 128 ^ i := Int.pow_pos (by decide)
  have hlt : b * 128 ^ i < 2 ^ 64 := by
    by_cases c : i = 9
    · subst c
      have := b2 rfl
      have : b * 128 ^ 9 ≤ 1 * 128 ^ 9 := Int.mul_le_mul_of_nonneg_right (by omega) (by decide)
      omega
    · have h8 : (128 : Int) ^ i ≤ 128 ^ 8 := by
        have : (128 : Nat) ^ i ≤ 128 ^ 8 := Nat.pow_le_pow_right (by decide) (by omega)
        exact_mod_cast this
      have : b * 128 ^ i ≤ 127 * 128 ^ 8 := Int.mul_le_mul (by omega) h8 (by omega) (by decide)
      omega
  have hnn : 0 ≤ b * 128 ^ i := Int.mul_nonneg b0 (by omega)
  have hs : shl .u64 b (7 * (i : Int)) = b * 128 ^ i := by
    unfold shl
    rw [show min (7 * (i : Int)).toNat IntKind.u64.bits = 7 * i from by simp only [IntKind.bits]; omega, ← hp]
    exact wraps_u64 _ hnn hlt
  rw [hs]
  refine bits_join_low .u64 64 (by decide) wraps_u64 (7 * i) acc _ h0 (by rw [← hp]; exact h1) ?_ hnn (by rw [← hp]; exact Int.mul_emod_left _ _) hlt
  have : (128 : Int) ^ i ≤ 128 ^ 9 := by
    have : (128 : Nat) ^ i ≤ 128 ^ 9 := Nat.pow_le_pow_right (by decide) (by omega)
    exact_mod_cast this
  omega
theorem wrap7 (i : Nat) (h : i < 1000) : wrap64 (7 * (i : Int)) = 7 * (i : Int) := wid (by omega) (by omega)
theorem and127' (b : Int) (h0 : 0 ≤ b) (h1 : b ≤ 255) : Go.bits .and .u8 b 127 = b % 128 := by
  have := and127 ⟨b.toNat, by omega⟩
  simp only at this
  rw [show b = ((b.toNat : Nat) : Int) from by omega, this]
  omega
theorem sTakeVar_ev (s : ByteArray) (hs : s.size ≤ 4611686018427387904) : Ev (fun k => spec_TakeVar.f k s) (tv s) := by
  have key : ∀ (d i : Nat) (acc : Int), i + d = 10 → 0 ≤ acc → acc < 128 ^ i → Ev (fun k => spec_TakeVar.l0 k s acc (i : Int)) (tvGo s d i acc) := by
    intro d
    induction d with
    | zero =>
      intro i acc hi _ _
      obtain rfl : i = 10 := by omega
      refine Ev.step (fun k => spec_TakeVar.l0.eq_2 ..) ?_
      by_cases c : ((10 : Nat) : Int) < (s.size : Int)
      · refine Ev.pos c (Ev.step (fun k => spec_TakeVar.j1.eq_2 ..) ?_)
        exact Ev.neg (by decide) (Ev.now _)
      · refine Ev.neg c (Ev.step (fun k => spec_TakeVar.j1.eq_2 ..) ?_)
        exact Ev.neg (by decide) (Ev.now _)
    | succ d ih =>
      intro i acc hi h0 h1
      unfold tvGo
      by_cases c : i < s.size
      · refine Ev.eqr ?_ (if_pos c).symm
        obtain ⟨r0, r1⟩ := bt_range s (i : Int)
        have hg : (IntKind.u64.wrap (Int.tmod (bt s (i : Int)) 128)) = bt s (i : Int) % 128 := by
          rw [Int.tmod_eq_emod_of_nonneg r0, uid (by omega) (by omega)]
        have hw7 : IntKind.u64.wrap (wrap64 (7 * (i : Int))) = 7 * (i : Int) := by rw [wrap7 i (by omega), uid (by omega) (by omega)]
        have hsucc : wrap64 ((i : Int) + 1) = ((i + 1 : Nat) : Int) := wsucc (by omega)
        have hn : (((i + 1 : Nat) : Int)).toNat = i + 1 := Int.toNat_natCast _
        have hpow : (128 : Int) ^ (i + 1) = 128 ^ i * 128 := Int.pow_succ 128 i
        have hpos : (0 : Int) < 128 ^ i := Int.pow_pos (by decide)
        refine Ev.step (fun k => spec_TakeVar.l0.eq_2 ..) (Ev.pos (by omega) ?_)
        refine Ev.step (fun k => spec_TakeVar.j1.eq_2 ..) ?_
        refine Ev.pos (decide_eq_true (by omega)) (Ev.pos (by omega) (Ev.pos (by omega) ?_))
        rw [hg]
        have main : (i = 9 → bt s (i : Int) % 128 < 2) → Ev (fun k => spec_TakeVar.j2 k s acc (i : Int) (bt s (i : Int) % 128) false) (if bt s (i : Int) < 128 then (if 0 < i ∧ bt s (i : Int) = 0 then ((0 : Int), (⟨#[]⟩ : ByteArray), false) else (acc + bt s (i : Int) * 128 ^ i, s.extract (i + 1) s.size, true)) else tvGo s d (i + 1) (acc + (bt s (i : Int) - 128) * 128 ^ i)) := by
          intro h9
          have hor := or_step i (by omega) acc (bt s (i : Int) % 128) h0 h1 (by omega) (by omega) (by omega)
          refine Ev.step (fun k => spec_TakeVar.j2.eq_2 ..) (Ev.neg (by decide) ?_)
          rw [hw7, hor, hsucc, hn]
          refine Ev.pos (by omega) (Ev.pos (by omega) (Ev.pos (by omega) ?_))
          by_cases c2 : bt s (i : Int) < 128
          · refine Ev.eqr ?_ (if_pos c2).symm
            rw [show bt s (i : Int) % 128 = bt s (i : Int) from by omega]
            refine Ev.pos c2 ?_
            by_cases cz : bt s (i : Int) = 0
            · by_cases ci : 0 < i
              · refine Ev.eqr ?_ (if_pos ⟨ci, cz⟩).symm
                exact Ev.pos (by omega) (Ev.pos cz (Ev.now _))
              · refine Ev.eqr ?_ (if_neg (fun h => ci h.1)).symm
                exact Ev.neg (by omega) (Ev.pos (by omega) (Ev.pos (by omega) (Ev.now _)))
            · refine Ev.eqr ?_ (if_neg (fun h => cz h.2)).symm
              by_cases ci : 0 < i
              · exact Ev.pos (by omega) (Ev.neg cz (Ev.pos (by omega) (Ev.pos (by omega) (Ev.now _))))
              · exact Ev.neg (by omega) (Ev.pos (by omega) (Ev.pos (by omega) (Ev.now _)))
          · refine Ev.eqr ?_ (if_neg c2).symm
            rw [show bt s (i : Int) % 128 = bt s (i : Int) - 128 from by omega]
            refine Ev.neg c2 ?_
            have hm : (bt s (i : Int) - 128) * 128 ^ i ≤ 127 * 128 ^ i := Int.mul_le_mul_of_nonneg_right (by omega) (by omega)
            have hm0 : 0 ≤ (bt s (i : Int) - 128) * 128 ^ i := Int.mul_nonneg (by omega) (by omega)
            exact ih (i + 1) _ (by omega) (by omega) (by omega)
        by_cases c9 : i = 9
        · refine Ev.pos (by omega) ?_
          by_cases cb : 1 < bt s (i : Int)
          · skip
            refine Ev.eqr ?_ (if_pos ⟨c9, cb⟩).symm
            rw [decide_eq_true (show bt s (i : Int) > 1 by omega)]
            refine Ev.step (fun k => spec_TakeVar.j2.eq_2 ..) ?_
            exact Ev.pos (by decide) (Ev.now _)
          · refine Ev.eqr ?_ (if_neg (fun h => cb h.2)).symm
            rw [decide_eq_false (show ¬ (bt s (i : Int) > 1) by omega)]
            exact main (fun _ => by omega)
        · refine Ev.neg (by omega) ?_
          refine Ev.eqr ?_ (if_neg (fun h => c9 h.1)).symm
          exact main (fun h => absurd h c9)
      · refine Ev.eqr ?_ (if_neg c).symm
        refine Ev.step (fun k => spec_TakeVar.l0.eq_2 ..) (Ev.neg (by omega) ?_)
        refine Ev.step (fun k => spec_TakeVar.j1.eq_2 ..) ?_
        exact Ev.neg (by decide) (Ev.now _)
  exact key 10 0 0 rfl (by decide) (by decide)
theorem takeVar_ev (s : ByteArray) (hs : s.size ≤ 4611686018427387904) : Ev (fun k => impl_TakeVar.f k s) (tv s) := by
  have key : ∀ (d i : Nat) (acc : Int), i + d = 10 → 0 ≤ acc → acc < 128 ^ i → Ev (fun k => impl_TakeVar.l0 k s acc (i : Int)) (tvGo s d i acc) := by
    intro d
    induction d with
    | zero =>
      intro i acc hi _ _
      obtain rfl : i = 10 := by omega
      refine Ev.step (fun k => impl_TakeVar.l0.eq_2 ..) ?_
      by_cases c : ((10 : Nat) : Int) < (s.size : Int)
      · refine Ev.pos c (Ev.step (fun k => impl_TakeVar.j1.eq_2 ..) ?_)
        exact Ev.neg (by decide) (Ev.now _)
      · refine Ev.neg c (Ev.step (fun k => impl_TakeVar.j1.eq_2 ..) ?_)
        exact Ev.neg (by decide) (Ev.now _)
    | succ d ih =>
      intro i acc hi h0 h1
      unfold tvGo
      by_cases c : i < s.size
      · refine Ev.eqr ?_ (if_pos c).symm
        obtain ⟨r0, r1⟩ := bt_range s (i : Int)
        have hg : (IntKind.u64.wrap (Go.bits .and .u8 (bt s (i : Int)) 127)) = bt s (i : Int) % 128 := by
          rw [and127' _ r0 r1, uid (by omega) (by omega)]
        have hw7 : wrap64 (7 * (i : Int)) = 7 * (i : Int) := by exact wrap7 i (by omega)
        have hsucc : wrap64 ((i : Int) + 1) = ((i + 1 : Nat) : Int) := wsucc (by omega)
        have hn : (((i + 1 : Nat) : Int)).toNat = i + 1 := Int.toNat_natCast _
        have hpow : (128 : Int) ^ (i + 1) = 128 ^ i * 128 := Int.pow_succ 128 i
        have hpos : (0 : Int) < 128 ^ i := Int.pow_pos (by decide)
        refine Ev.step (fun k => impl_TakeVar.l0.eq_2 ..) (Ev.pos (by omega) ?_)
        refine Ev.step (fun k => impl_TakeVar.j1.eq_2 ..) ?_
        refine Ev.pos (decide_eq_true (by omega)) (Ev.pos (by omega) (Ev.pos (by omega) ?_))
        rw [hg]
        have main : (i = 9 → bt s (i : Int) % 128 < 2) → Ev (fun k => impl_TakeVar.j2 k s acc (i : Int) (bt s (i : Int) % 128) false) (if bt s (i : Int) < 128 then (if 0 < i ∧ bt s (i : Int) = 0 then ((0 : Int), (⟨#[]⟩ : ByteArray), false) else (acc + bt s (i : Int) * 128 ^ i, s.extract (i + 1) s.size, true)) else tvGo s d (i + 1) (acc + (bt s (i : Int) - 128) * 128 ^ i)) := by
          intro h9
          have hor := or_step i (by omega) acc (bt s (i : Int) % 128) h0 h1 (by omega) (by omega) (by omega)
          refine Ev.step (fun k => impl_TakeVar.j2.eq_2 ..) (Ev.neg (by decide) ?_)
          rw [hw7, hor, hsucc, hn]
          refine Ev.pos (by omega) (Ev.pos (by omega) (Ev.pos (by omega) ?_))
          by_cases c2 : bt s (i : Int) < 128
          · refine Ev.eqr ?_ (if_pos c2).symm
            rw [show bt s (i : Int) % 128 = bt s (i : Int) from by omega]
            refine Ev.neg (by omega) ?_
            by_cases cz : bt s (i : Int) = 0
            · by_cases ci : 0 < i
              · refine Ev.eqr ?_ (if_pos ⟨ci, cz⟩).symm
                exact Ev.pos cz (Ev.pos (by omega) (Ev.now _))
              · refine Ev.eqr ?_ (if_neg (fun h => ci h.1)).symm
                exact Ev.pos cz (Ev.neg (by omega) (Ev.pos (by omega) (Ev.pos (by omega) (Ev.now _))))
            · refine Ev.eqr ?_ (if_neg (fun h => cz h.2)).symm
              exact Ev.neg cz (Ev.pos (by omega) (Ev.pos (by omega) (Ev.now _)))
          · refine Ev.eqr ?_ (if_neg c2).symm
            rw [show bt s (i : Int) % 128 = bt s (i : Int) - 128 from by omega]
            refine Ev.pos (by omega) ?_
            have hm : (bt s (i : Int) - 128) * 128 ^ i ≤ 127 * 128 ^ i := Int.mul_le_mul_of_nonneg_right (by omega) (by omega)
            have hm0 : 0 ≤ (bt s (i : Int) - 128) * 128 ^ i := Int.mul_nonneg (by omega) (by omega)
            exact ih (i + 1) _ (by omega) (by omega) (by omega)
        by_cases c9 : i = 9
        · refine Ev.pos (by omega) ?_
          by_cases cb : 1 < bt s (i : Int)
          · by_cases cg : bt s (i : Int) % 128 > 1
            case neg =>
              refine Ev.eqr ?_ (if_pos ⟨c9, cb⟩).symm
              rw [decide_eq_false cg]
              refine (main (fun _ => by omega)).eqr ?_
              obtain rfl : d = 0 := by omega
              rw [if_neg (by omega)]
              rfl
            refine Ev.eqr ?_ (if_pos ⟨c9, cb⟩).symm
            rw [decide_eq_true (show bt s (i : Int) % 128 > 1 by omega)]
            refine Ev.step (fun k => impl_TakeVar.j2.eq_2 ..) ?_
            exact Ev.pos (by decide) (Ev.now _)
          · refine Ev.eqr ?_ (if_neg (fun h => cb h.2)).symm
            rw [decide_eq_false (show ¬ (bt s (i : Int) % 128 > 1) by omega)]
            exact main (fun _ => by omega)
        · refine Ev.neg (by omega) ?_
          refine Ev.eqr ?_ (if_neg (fun h => c9 h.1)).symm
          exact main (fun h => absurd h c9)
      · refine Ev.eqr ?_ (if_neg c).symm
        refine Ev.step (fun k => impl_TakeVar.l0.eq_2 ..) (Ev.neg (by omega) ?_)
        refine Ev.step (fun k => impl_TakeVar.j1.eq_2 ..) ?_
        exact Ev.neg (by decide) (Ev.now _)
  exact key 10 0 0 rfl (by decide) (by decide)
end Go.Proofs.Ytidjdkodgddfcaa.P
end

section
namespace Go.Proofs.Ytidjdkodgddfcaa.P
open Go.RowKit Go.Proofs.YtidjdkodgddfcaaW.PrintWords Go.Proofs.YtidjdkodgddfcaaW.PrintLast Go.Proofs.YtidjdkodgddfcaaW.PrintMore
attribute [local go_sem] qi1 qh1 qj1 qd1 qb1 ql1 qk1 qx qw qc1 qa1
set_option linter.unusedVariables false
set_option linter.unusedSimpArgs false
def tt (s : ByteArray) : ByteArray × ByteArray × Bool :=
  if (tv s).2.2 = true ∧ (tv s).1 ≤ 60000 ∧ (tv s).1 ≤ ((tv s).2.1.size : Int) then ((tv s).2.1.extract 0 (tv s).1.toNat, (tv s).2.1.extract (tv s).1.toNat (tv s).2.1.size, true) else (⟨#[]⟩, ⟨#[]⟩, false)
theorem empty_size : (⟨#[]⟩ : ByteArray).size = 0 := rfl
theorem tvGo_range (s : ByteArray) : ∀ (d i : Nat) (acc : Int), i + d = 10 → 0 ≤ acc → acc < 128 ^ i → 0 ≤ (tvGo s d i acc).1 ∧ (tvGo s d i acc).1 < 18446744073709551616 ∧ (tvGo s d i acc).2.1.size ≤ s.size ∧ ((tvGo s d i acc).2.2 = true → (tvGo s d i acc).2.1.size < s.size) := by
  intro d
  induction d with
  | zero => intro i acc _ _ _; simp [tvGo, empty_size]
  | succ d ih =>
    intro i acc hi h0 h1
    have hf : 0 ≤ ((0 : Int), (⟨#[]⟩ : ByteArray), false).1 ∧ ((0 : Int), (⟨#[]⟩ : ByteArray), false).1 < 18446744073709551616 ∧ ((0 : Int), (⟨#[]⟩ : ByteArray), false).2.1.size ≤ s.size ∧ (((0 : Int), (⟨#[]⟩ : ByteArray), false).2.2 = true → ((0 : Int), (⟨#[]⟩ : ByteArray), false).2.1.size < s.size) := by simp [empty_size]
    obtain ⟨r0, r1⟩ := bt_range s (i : Int)
    have hpos : (0 : Int) < 128 ^ i := Int.pow_pos (by decide)
    unfold tvGo
    by_cases c : i < s.size
    · rw [if_pos c]
      by_cases c9 : i = 9 ∧ 1 < bt s (i : Int)
      · rw [if_pos c9]; exact hf
      · rw [if_neg c9]
        by_cases c2 : bt s (i : Int) < 128
        · rw [if_pos c2]
          by_cases cz : 0 < i ∧ bt s (i : Int) = 0
          · rw [if_pos cz]; exact hf
          · rw [if_neg cz]
            have hn : 0 ≤ bt s (i : Int) * 128 ^ i := Int.mul_nonneg r0 (by omega)
            have hb : acc + bt s (i : Int) * 128 ^ i < 18446744073709551616 := by
              by_cases e : i = 9
              · subst e
                have : bt s ((9 : Nat) : Int) ≤ 1 := by
                  have := fun h => c9 ⟨rfl, h⟩
                  omega
                have : bt s ((9 : Nat) : Int) * 128 ^ 9 ≤ 1 * 128 ^ 9 := Int.mul_le_mul_of_nonneg_right this (by decide)
                omega
              · have h8 : (128 : Int) ^ i ≤ 128 ^ 8 := by
                  have : (128 : Nat) ^ i ≤ 128 ^ 8 := Nat.pow_le_pow_right (by decide) (by omega)
                  exact_mod_cast this
                have : bt s (i : Int) * 128 ^ i ≤ 127 * 128 ^ 8 := Int.mul_le_mul (by omega) h8 (by omega) (by decide)
                omega
            refine ⟨by show 0 ≤ acc + _; omega, hb, ?_, ?_⟩
            · show (s.extract (i + 1) s.size).size ≤ s.size
              rw [ByteArray.size_extract]; omega
            · intro _
              show (s.extract (i + 1) s.size).size < s.size
              rw [ByteArray.size_extract]; omega
        · rw [if_neg c2]
          have hm : (bt s (i : Int) - 128) * 128 ^ i ≤ 127 * 128 ^ i := Int.mul_le_mul_of_nonneg_right (by omega) (by omega)
          have hm0 : 0 ≤ (bt s (i : Int) - 128) * 128 ^ i := Int.mul_nonneg (by omega) (by omega)
          have hpow : (128 : Int) ^ (i + 1) = 128 ^ i * 128 := Int.pow_succ 128 i
          exact ih (i + 1) _ (by omega) (by omega) (by omega)
    · rw [if_neg c]; exact hf
theorem tv_range (s : ByteArray) : 0 ≤ (tv s).1 ∧ (tv s).1 < 18446744073709551616 ∧ (tv s).2.1.size ≤ s.size ∧ ((tv s).2.2 = true → (tv s).2.1.size < s.size) := tvGo_range s 10 0 0 rfl (by decide) (by decide)
theorem takeText_ev (s : ByteArray) (hs : s.size ≤ 4611686018427387904) : Ev (fun k => impl_TakeText.f k s) (tt s) := by
  unfold impl_TakeText.f tt
  obtain ⟨r0, r1, r2, _⟩ := tv_range s
  refine Ev.bind (takeVar_ev s hs) ?_
  by_cases c1 : (tv s).2.2 = true
  · refine Ev.pos c1 ?_
    by_cases c2 : (tv s).1 > 60000
    · exact Ev.pos c2 ((Ev.now _).eqr (if_neg (fun h => by omega)).symm)
    · refine Ev.neg c2 ?_
      rw [uid (x := ((tv s).2.1.size : Int)) (by omega) (by omega)]
      by_cases c3 : (tv s).1 > ((tv s).2.1.size : Int)
      · exact Ev.pos c3 ((Ev.now _).eqr (if_neg (fun h => by omega)).symm)
      · exact Ev.neg c3 (Ev.pos r0 (Ev.pos (by omega) ((Ev.now _).eqr (if_pos ⟨c1, by omega, by omega⟩).symm)))
  · exact Ev.neg c1 ((Ev.now _).eqr (if_neg (fun h => c1 h.1)).symm)
theorem sTakeText_ev (s : ByteArray) (hs : s.size ≤ 4611686018427387904) : Ev (fun k => spec_TakeText.f k s) (tt s) := by
  unfold spec_TakeText.f tt
  obtain ⟨r0, r1, r2, _⟩ := tv_range s
  refine Ev.bind (sTakeVar_ev s hs) ?_
  by_cases c1 : (tv s).2.2 = true
  · refine Ev.pos c1 ?_
    by_cases c2 : (tv s).1 > 60000
    · exact Ev.pos c2 ((Ev.now _).eqr (if_neg (fun h => by omega)).symm)
    · refine Ev.neg c2 ?_
      rw [uid (x := ((tv s).2.1.size : Int)) (by omega) (by omega)]
      by_cases c3 : (tv s).1 > ((tv s).2.1.size : Int)
      · exact Ev.pos c3 ((Ev.now _).eqr (if_neg (fun h => by omega)).symm)
      · exact Ev.neg c3 (Ev.pos r0 (Ev.pos (by omega) ((Ev.now _).eqr (if_pos ⟨c1, by omega, by omega⟩).symm)))
  · exact Ev.neg c1 ((Ev.now _).eqr (if_neg (fun h => c1 h.1)).symm)
theorem tt_range (s : ByteArray) : (tt s).1.size ≤ 60000 ∧ (tt s).1.size ≤ s.size ∧ (tt s).2.1.size ≤ s.size ∧ ((tt s).2.2 = true → (tt s).2.1.size < s.size) := by
  obtain ⟨r0, r1, r2, r3⟩ := tv_range s
  unfold tt
  by_cases c : (tv s).2.2 = true ∧ (tv s).1 ≤ 60000 ∧ (tv s).1 ≤ ((tv s).2.1.size : Int)
  · rw [if_pos c]
    have := r3 c.1
    simp only [ByteArray.size_extract]
    exact ⟨by omega, by omega, by omega, fun _ => by omega⟩
  · rw [if_neg c]
    simp [empty_size]
theorem toList_inj {a b : ByteArray} (h : a.toList = b.toList) : a = b := by
  rw [ByteArray.toList_eq, ByteArray.toList_eq] at h
  exact ByteArray.ext (Array.toList_inj.1 h)
theorem bytesOf_inj {a b : ByteArray} (h : bytesOf a = bytesOf b) : a = b := by
  have := List.map_inj_right (f := fun b : UInt8 => (b.toNat : Int)) (fun x y h => UInt8.toNat_inj.1 (by have h : (x.toNat : Int) = (y.toNat : Int) := h; omega)) |>.1 h
  exact ByteArray.ext (Array.toList_inj.1 this)
theorem bytesOf_append (a b : ByteArray) : bytesOf (a ++ b) = bytesOf a ++ bytesOf b := by
  unfold bytesOf
  simp
theorem bytesOf_strOfNums (l : List Int) (h : ∀ x ∈ l, 0 ≤ x ∧ x < 256) : bytesOf (strOfNums l) = l := by
  unfold bytesOf strOfNums
  simp only [List.map_map]
  conv => rhs; rw [← List.map_id l]
  refine List.map_congr_left fun x hx => ?_
  have := h x hx
  simp only [Function.comp_apply, id]
  rw [UInt8.toNat_ofNat']
  omega
theorem bytesOf_extract (s : ByteArray) (i j : Nat) (hj : j ≤ s.size) : bytesOf (s.extract i j) = ((bytesOf s).take j).drop i := by
  unfold bytesOf
  rw [← List.map_take, ← List.map_drop, ByteArray.data_extract, Array.toList_extract]
  simp [List.extract_eq_take_drop, List.drop_take]
theorem bytesOf_pv (n : Nat) : bytesOf (pv n) = pvl n := bytesOf_strOfNums _ (pvl_range n)
theorem bt_drop {s : ByteArray} {i : Nat} {x : Int} {l : List Int} (h : (bytesOf s).drop i = x :: l) : i < s.size ∧ bt s (i : Int) = x ∧ (bytesOf s).drop (i + 1) = l := by
  have hi : i < (bytesOf s).length := by
    apply Classical.byContradiction
    intro c
    rw [List.drop_eq_nil_of_le (by omega)] at h
    cases h
  rw [List.drop_eq_getElem_cons hi] at h
  injection h with h1 h2
  refine ⟨by rw [bytesOf_length] at hi; exact hi, ?_, h2⟩
  rw [← rd_bytesOf]
  unfold rd
  rw [Int.toNat_natCast, List.getD_eq_getElem?_getD, List.getElem?_eq_getElem hi]
  exact h1
theorem drop_all {s t : ByteArray} {i : Nat} (h : (bytesOf s).drop i = bytesOf t) : s.extract i s.size = t := by
  apply bytesOf_inj
  rw [bytesOf_extract _ _ _ (Nat.le_refl _), ← bytesOf_length s, List.take_length]
  exact h
theorem tvGo_pv (s t : ByteArray) : ∀ (d i n : Nat) (acc : Int), i + d = 10 → (bytesOf s).drop i = pvl n ++ bytesOf t → (0 < i → 0 < n) → n * 128 ^ i < 18446744073709551616 → tvGo s d i acc = (acc + (n : Int) * 128 ^ i, t, true) := by
  intro d
  induction d with
  | zero =>
    intro i n acc hi _ h0 hn
    obtain rfl : i = 10 := by omega
    have := h0 (by omega)
    have : 1 * 128 ^ 10 ≤ n * 128 ^ 10 := Nat.mul_le_mul_right _ this
    omega
  | succ d ih =>
    intro i n acc hi hb h0 hn
    have h9 : i = 9 → n ≤ 1 := by
      intro e
      subst e
      omega
    by_cases c : n < 128
    · rw [pvl_small c] at hb
      obtain ⟨b1, b2, b3⟩ := bt_drop hb
      unfold tvGo
      rw [if_pos b1, b2, if_neg (fun h => by have := h9 h.1; omega), if_pos (by omega), if_neg (fun h => by have := h0 h.1; omega), drop_all b3]
    · rw [pvl_big c] at hb
      obtain ⟨b1, b2, b3⟩ := bt_drop hb
      unfold tvGo
      rw [if_pos b1, b2, if_neg (fun h => by have := h9 h.1; omega), if_neg (by omega)]
      have hnat : n / 128 * 128 ^ (i + 1) + n % 128 * 128 ^ i = n * 128 ^ i := by
        rw [Nat.pow_succ, Nat.mul_comm (128 ^ i) 128, ← Nat.mul_assoc, ← Nat.add_mul]
        congr 1
        omega
      rw [ih (i + 1) (n / 128) _ (by omega) b3 (fun _ => by omega) (by omega)]
      congr 1
      have hint : ((n / 128 : Nat) : Int) * 128 ^ (i + 1) + ((n % 128 : Nat) : Int) * 128 ^ i = (n : Int) * 128 ^ i := by exact_mod_cast hnat
      rw [show (((n % 128 + 128 : Nat) : Int) - 128) = ((n % 128 : Nat) : Int) from by omega, Int.add_assoc, Int.add_comm (((n % 128 : Nat) : Int) * 128 ^ i), hint]
theorem tv_pv (n : Nat) (hn : n < 18446744073709551616) (t : ByteArray) : tv (pv n ++ t) = ((n : Int), t, true) := by
  have := tvGo_pv (pv n ++ t) t 10 0 n 0 rfl (by rw [List.drop_zero, bytesOf_append, bytesOf_pv]) (fun h => absurd h (by omega)) (by simpa using hn)
  unfold tv
  rw [this]
  simp
theorem tvGo_back (s : ByteArray) : ∀ (d i : Nat) (acc : Int), i + d = 10 → (tvGo s d i acc).2.2 = true → ∃ m : Nat, (tvGo s d i acc).1 = acc + (m : Int) * 128 ^ i ∧ (bytesOf s).drop i = pvl m ++ bytesOf (tvGo s d i acc).2.1 ∧ (0 < i → 0 < m) := by
  intro d
  induction d with
  | zero => intro i acc _ h; simp [tvGo] at h
  | succ d ih =>
    intro i acc hi h
    obtain ⟨r0, r1⟩ := bt_range s (i : Int)
    unfold tvGo at h ⊢
    by_cases c : i < s.size
    · have hi2 : i < (bytesOf s).length := by rw [bytesOf_length]; exact c
      have hd : (bytesOf s).drop i = bt s (i : Int) :: (bytesOf s).drop (i + 1) := by
        rw [List.drop_eq_getElem_cons hi2]
        congr 1
        rw [← rd_bytesOf]
        unfold rd
        rw [Int.toNat_natCast, List.getD_eq_getElem?_getD, List.getElem?_eq_getElem hi2]
        rfl
      rw [if_pos c] at h ⊢
      by_cases c9 : i = 9 ∧ 1 < bt s (i : Int)
      · rw [if_pos c9] at h; simp at h
      · rw [if_neg c9] at h ⊢
        by_cases c2 : bt s (i : Int) < 128
        · rw [if_pos c2] at h ⊢
          by_cases cz : 0 < i ∧ bt s (i : Int) = 0
          · rw [if_pos cz] at h; simp at h
          · rw [if_neg cz]
            refine ⟨(bt s (i : Int)).toNat, ?_, ?_, fun h => by have := fun e => cz ⟨h, e⟩; omega⟩
            · show acc + bt s (i : Int) * 128 ^ i = _
              rw [Int.toNat_of_nonneg r0]
            · show _ = _ ++ bytesOf (s.extract (i + 1) s.size)
              rw [pvl_small (by omega), Int.toNat_of_nonneg r0, hd, bytesOf_extract _ _ _ (Nat.le_refl _), ← bytesOf_length s, List.take_length]
              rfl
        · rw [if_neg c2] at h ⊢
          obtain ⟨m, m1, m2, m3⟩ := ih (i + 1) _ (by omega) h
          have m4 := m3 (by omega)
          refine ⟨(bt s (i : Int)).toNat - 128 + 128 * m, ?_, ?_, fun _ => by omega⟩
          · rw [m1, Int.pow_succ, show ((((bt s (i : Int)).toNat - 128 + 128 * m : Nat)) : Int) = (bt s (i : Int) - 128) + 128 * (m : Int) from by omega, Int.add_mul, Int.add_assoc]
            congr 2
            rw [Int.mul_comm (128 ^ i) 128, ← Int.mul_assoc, Int.mul_comm (m : Int) 128]
          · rw [hd, m2, pvl_big (n := (bt s (i : Int)).toNat - 128 + 128 * m) (by omega), show ((bt s (i : Int)).toNat - 128 + 128 * m) % 128 = (bt s (i : Int)).toNat - 128 from by omega, show ((bt s (i : Int)).toNat - 128 + 128 * m) / 128 = m from by omega, show (((bt s (i : Int)).toNat - 128 + 128 : Nat) : Int) = bt s (i : Int) from by omega]
            rfl
    · rw [if_neg c] at h
      simp at h
theorem tv_back (s : ByteArray) (h : (tv s).2.2 = true) : s = pv (tv s).1.toNat ++ (tv s).2.1 := by
  obtain ⟨m, m1, m2, _⟩ := tvGo_back s 10 0 0 rfl h
  have e : (tv s).1 = (m : Int) := by
    show (tvGo s 10 0 0).1 = _
    rw [m1]
    simp
  apply bytesOf_inj
  rw [e, Int.toNat_natCast, bytesOf_append, bytesOf_pv]
  rw [List.drop_zero] at m2
  exact m2
theorem extract_front (a b : ByteArray) : (a ++ b).extract 0 a.size = a := by
  apply bytesOf_inj
  rw [bytesOf_extract _ _ _ (by rw [ByteArray.size_append]; omega), bytesOf_append, ← bytesOf_length a, List.take_left, List.drop_zero]
theorem extract_back (a b : ByteArray) : (a ++ b).extract a.size (a ++ b).size = b := by
  apply bytesOf_inj
  rw [bytesOf_extract _ _ _ (Nat.le_refl _), ← bytesOf_length (a ++ b), List.take_length, bytesOf_append, ← bytesOf_length a, List.drop_left]
theorem extract_join (s : ByteArray) (n : Nat) (h : n ≤ s.size) : s.extract 0 n ++ s.extract n s.size = s := by
  apply bytesOf_inj
  rw [bytesOf_append, bytesOf_extract _ _ _ h, bytesOf_extract _ _ _ (Nat.le_refl _), ← bytesOf_length s, List.take_length, List.drop_zero, List.take_append_drop]
theorem tt_pt (t r : ByteArray) (h : t.size ≤ 60000) : tt (pt t ++ r) = (t, r, true) := by
  have e : pt t ++ r = pv t.size ++ (t ++ r) := by unfold pt; rw [ByteArray.append_assoc]
  unfold tt
  rw [e, tv_pv _ (by omega)]
  simp only
  rw [if_pos ⟨by simp, by omega, by rw [ByteArray.size_append]; omega⟩, Int.toNat_natCast, extract_front, extract_back]
theorem tt_back (s : ByteArray) (h : (tt s).2.2 = true) : s = pt (tt s).1 ++ (tt s).2.1 := by
  obtain ⟨r0, r1, r2, r3⟩ := tv_range s
  unfold tt at h ⊢
  by_cases c : (tv s).2.2 = true ∧ (tv s).1 ≤ 60000 ∧ (tv s).1 ≤ ((tv s).2.1.size : Int)
  · rw [if_pos c]
    have hb := tv_back s c.1
    have hz : ((tv s).2.1.extract 0 (tv s).1.toNat).size = (tv s).1.toNat := by rw [ByteArray.size_extract]; omega
    show s = pt ((tv s).2.1.extract 0 (tv s).1.toNat) ++ (tv s).2.1.extract (tv s).1.toNat (tv s).2.1.size
    unfold pt
    rw [hz, ByteArray.append_assoc, extract_join _ _ (by omega)]
    exact hb
  · rw [if_neg c] at h
    simp at h
end Go.Proofs.Ytidjdkodgddfcaa.P
end

section
namespace Go.Proofs.Ytidjdkodgddfcaa.P
open Go.RowKit Go.Proofs.YtidjdkodgddfcaaW.PrintWords Go.Proofs.YtidjdkodgddfcaaW.PrintLast Go.Proofs.YtidjdkodgddfcaaW.PrintMore
attribute [local go_sem] qi1 qh1 qj1 qd1 qb1 ql1 qk1 qx qw qc1 qa1
set_option linter.unusedVariables false
set_option linter.unusedSimpArgs false
def numT (s : ByteArray) (bad : Bool) : Int × ByteArray × Bool := if (tv s).2.2 = true ∧ (tv s).1 ≤ 4611686018427387904 then ((tv s).1, (tv s).2.1, bad) else (0, s, true)
def txtT (s : ByteArray) (bad : Bool) : ByteArray × ByteArray × Bool := if (tt s).2.2 = true then ((tt s).1, (tt s).2.1, bad) else (⟨#[]⟩, s, true)
theorem number_taken (s : ByteArray) (bad : Bool) (hs : s.size ≤ 4611686018427387904) : Ev (fun k => impl_taker_number.f k s bad) (numT s bad) := by
  unfold impl_taker_number.f numT
  obtain ⟨r0, r1, _, _⟩ := tv_range s
  refine Ev.bind (takeVar_ev s hs) ?_
  by_cases c : (tv s).2.2 = true
  · refine Ev.pos c ?_
    by_cases c2 : (tv s).1 > 4611686018427387904
    · exact Ev.pos c2 ((Ev.now _).eqr (if_neg (fun h => by omega)).symm)
    · refine Ev.neg c2 ?_
      rw [wid (by omega) (by omega)]
      exact (Ev.now _).eqr (if_pos ⟨c, by omega⟩).symm
  · exact Ev.neg c ((Ev.now _).eqr (if_neg (fun h => c h.1)).symm)
theorem text_taken (s : ByteArray) (bad : Bool) (hs : s.size ≤ 4611686018427387904) : Ev (fun k => impl_taker_text.f k s bad) (txtT s bad) := by
  unfold impl_taker_text.f txtT
  refine Ev.bind (takeText_ev s hs) ?_
  by_cases c : (tt s).2.2 = true
  · exact Ev.pos c ((Ev.now _).eqr (if_pos c).symm)
  · exact Ev.neg c ((Ev.now _).eqr (if_neg c).symm)
theorem whole_taken (s : ByteArray) (bad : Bool) : impl_taker_whole.f s bad = some (!bad && (s.toList == []), s, bad) := by
  unfold impl_taker_whole.f
  cases bad <;> simp
theorem numT_size (s : ByteArray) (bad : Bool) : (numT s bad).2.1.size ≤ s.size := by
  obtain ⟨_, _, h, _⟩ := tv_range s
  unfold numT
  split
  · exact h
  · exact Nat.le_refl _
theorem txtT_size (s : ByteArray) (bad : Bool) : (txtT s bad).2.1.size ≤ s.size ∧ (txtT s bad).1.size ≤ s.size := by
  obtain ⟨_, h2, h3, _⟩ := tt_range s
  unfold txtT
  split
  · exact ⟨h3, h2⟩
  · exact ⟨Nat.le_refl _, by rw [empty_size]; omega⟩
theorem numT_bad (s : ByteArray) : (numT s true).2.2 = true := by unfold numT; split <;> rfl
theorem txtT_bad (s : ByteArray) : (txtT s true).2.2 = true := by unfold txtT; split <;> rfl
theorem numT_good {s : ByteArray} {b : Bool} (h1 : (tv s).2.2 = true) (h2 : (tv s).1 ≤ 4611686018427387904) : numT s b = ((tv s).1, (tv s).2.1, b) := by
  unfold numT
  rw [if_pos ⟨h1, h2⟩]
theorem numT_not {s : ByteArray} {b : Bool} (h : ¬ ((tv s).2.2 = true ∧ (tv s).1 ≤ 4611686018427387904)) : numT s b = (0, s, true) := by
  unfold numT
  rw [if_neg h]
theorem txtT_good {s : ByteArray} {b : Bool} (h1 : (tt s).2.2 = true) : txtT s b = ((tt s).1, (tt s).2.1, b) := by
  unfold txtT
  rw [if_pos h1]
theorem txtT_not {s : ByteArray} {b : Bool} (h : ¬ (tt s).2.2 = true) : txtT s b = (⟨#[]⟩, s, true) := by
  unfold txtT
  rw [if_neg h]
end Go.Proofs.Ytidjdkodgddfcaa.P
end

section
namespace Go.Proofs.Ytidjdkodgddfcaa.P
open Go.RowKit Go.Proofs.YtidjdkodgddfcaaW.PrintWords Go.Proofs.YtidjdkodgddfcaaW.PrintLast Go.Proofs.YtidjdkodgddfcaaW.PrintMore
attribute [local go_sem] qi1 qh1 qj1 qd1 qb1 ql1 qk1 qx qw qc1 qa1
set_option linter.unusedVariables false
set_option linter.unusedSimpArgs false
def okc (l : List Int) : Prop := l.length ≤ 1048576 ∧ ∀ x ∈ l, 0 ≤ x ∧ x ≤ 255
def okp (l : List Int) (p : Int) : Prop := 0 ≤ p ∧ p ≤ (l.length : Int)
theorem okc_rd {l : List Int} (h : okc l) (i : Int) : 0 ≤ rd l i ∧ rd l i ≤ 255 := by
  unfold rd
  rw [List.getD_eq_getElem?_getD]
  by_cases c : i.toNat < l.length
  · rw [List.getElem?_eq_getElem c]
    exact h.2 _ (List.getElem_mem c)
  · rw [List.getElem?_eq_none (by omega)]
    simp
theorem next_ev {l : List Int} {p : Int} (h : okc l) (hp : okp l p) : ∃ r, spec_l1Rd_next.f l p = some r ∧ (0 ≤ r.1 ∧ r.1 ≤ 255) ∧ okp l r.2 := by
  obtain ⟨h1, h2⟩ := hp
  have hl := h.1
  unfold spec_l1Rd_next.f
  by_cases c : p ≥ (l.length : Int)
  · exact ⟨_, if_pos c, by simp, h1, h2⟩
  · have e1 : wrap64 (p + 1) = p + 1 := wid (by omega) (by omega)
    have e2 : wrap64 (p + 1 - 1) = p := by rw [wid (by omega) (by omega)]; omega
    obtain ⟨r0, r1⟩ := okc_rd h p
    rw [if_neg c, e1, e2, if_pos h1, if_pos (by omega)]
    refine ⟨_, rfl, ?_, ?_⟩
    · show 0 ≤ wrap64 (rd l p) ∧ wrap64 (rd l p) ≤ 255
      rw [wid (by omega) (by omega)]
      exact ⟨r0, r1⟩
    · exact ⟨by show 0 ≤ p + 1; omega, by show p + 1 ≤ _; omega⟩
theorem below_ev {l : List Int} {p : Int} (h : okc l) (hp : okp l p) (n : Int) (hn : 1 ≤ n) : ∃ r, spec_l1Rd_below.f l p n = some r ∧ (0 ≤ r.1 ∧ r.1 < n) ∧ okp l r.2 := by
  unfold spec_l1Rd_below.f
  by_cases c : n ≤ 1
  · exact ⟨_, if_pos c, ⟨by simp, by show (0 : Int) < n; omega⟩, hp⟩
  · rw [if_neg c]
    obtain ⟨a, ha, ha1, ha2⟩ := next_ev h hp
    by_cases c2 : n ≤ 256
    · rw [if_pos c2, ha]
      refine ⟨(Int.tmod a.1 n, a.2), by rw [Option.bind_some, if_neg (by omega)], ?_, ha2⟩
      show 0 ≤ Int.tmod a.1 n ∧ Int.tmod a.1 n < n
      rw [Int.tmod_eq_emod_of_nonneg ha1.1]
      exact ⟨Int.emod_nonneg _ (by omega), Int.emod_lt_of_pos _ (by omega)⟩
    · obtain ⟨b, hb, hb1, hb2⟩ := next_ev h ha2
      rw [if_neg c2, ha, Option.bind_some, hb, Option.bind_some, if_neg (by omega)]
      refine ⟨_, rfl, ?_, hb2⟩
      show 0 ≤ Int.tmod (wrap64 (wrap64 (a.1 * 256) + b.1)) n ∧ Int.tmod (wrap64 (wrap64 (a.1 * 256) + b.1)) n < n
      rw [wid (x := a.1 * 256) (by omega) (by omega), wid (by omega) (by omega), Int.tmod_eq_emod_of_nonneg (by omega)]
      exact ⟨Int.emod_nonneg _ (by omega), Int.emod_lt_of_pos _ (by omega)⟩
theorem once_ev {l : List Int} {p : Int} (h : okc l) (hp : okp l p) (n : Int) (hn : 1 ≤ n) : ∃ r, spec_l1Rd_once.f l p n = some r ∧ okp l r.2 := by
  obtain ⟨a, ha, _, ha2⟩ := below_ev h hp n hn
  unfold spec_l1Rd_once.f
  rw [ha]
  exact ⟨_, rfl, ha2⟩
theorem bits_u64 (o : BinOp) (a b : Int) : 0 ≤ Go.bits o .u64 a b ∧ Go.bits o .u64 a b ≤ 18446744073709551615 := by
  unfold Go.bits
  simp only [IntKind.wrap_u64]
  omega
theorem word_ev {l : List Int} {p : Int} (h : okc l) (hp : okp l p) : ∃ r, Ev (fun k => spec_l1Rd_word.f k l p) r ∧ (0 ≤ r.1 ∧ r.1 ≤ 18446744073709551615) ∧ okp l r.2 := by
  have key : ∀ i : Nat, i ≤ 8 → ∀ (x p : Int), 0 ≤ x ∧ x ≤ 18446744073709551615 → okp l p → ∃ r, Ev (fun k => spec_l1Rd_word.l0 k x (i : Int) l p) r ∧ (0 ≤ r.1 ∧ r.1 ≤ 18446744073709551615) ∧ okp l r.2 := by
    refine downTo 8 ?_ ?_
    · intro x p hx hp
      exact ⟨(x, p), Ev.step (fun k => spec_l1Rd_word.l0.eq_2 ..) (Ev.neg (by omega) (Ev.now _)), hx, hp⟩
    · intro i hi ih x p hx hp
      obtain ⟨a, ha, _, ha2⟩ := next_ev h hp
      obtain ⟨r, hr, hr2⟩ := ih _ a.2 (bits_u64 .or (IntKind.u64.wrap (x * 256)) (IntKind.u64.wrap a.1)) ha2
      refine ⟨r, Ev.step (fun k => spec_l1Rd_word.l0.eq_2 ..) (Ev.pos (by omega) (Ev.bindS ha ?_)), hr2⟩
      rw [wsucc (by omega)]
      exact hr
  exact key 0 (by omega) 0 p (by omega) hp
theorem bytes_ev {l : List Int} {p : Int} (h : okc l) (hp : okp l p) (n : Int) (hn : 0 ≤ n) (hn2 : n ≤ 1000000) : ∃ r, Ev (fun k => spec_l1Rd_bytes.f k l p n) r ∧ (r.1.size : Int) ≤ n ∧ okp l r.2 := by
  have key : ∀ (i : Nat) (acc : List Int) (p : Int), (acc.length : Int) + i ≤ 1000000 → okp l p → ∃ r, Ev (fun k => spec_l1Rd_bytes.l0 k acc (i : Int) l p) r ∧ r.1.size = acc.length + i ∧ okp l r.2 := by
    intro i
    induction i with
    | zero =>
      intro acc p ha hp
      refine ⟨(strOfNums acc, p), Ev.step (fun k => spec_l1Rd_bytes.l0.eq_2 ..) (Ev.neg (by omega) (Ev.now _)), ?_, hp⟩
      show (strOfNums acc).size = acc.length + 0
      unfold strOfNums
      simp [ByteArray.size]
    | succ i ih =>
      intro acc p ha hp
      obtain ⟨a, ha', _, ha2⟩ := below_ev h hp 256 (by omega)
      obtain ⟨r, hr, hr1, hr2⟩ := ih (acc ++ [a.1 % 256]) a.2 (by simp only [List.length_append, List.length_cons, List.length_nil]; omega) ha2
      refine ⟨r, Ev.step (fun k => spec_l1Rd_bytes.l0.eq_2 ..) (Ev.pos (by omega) (Ev.bindS ha' (Ev.pos (by omega) ?_))), ?_, hr2⟩
      · rw [wid (by omega) (by omega), show (((i + 1 : Nat) : Int) - 1) = (i : Int) from by omega]
        exact hr
      · rw [hr1, List.length_append]
        simp only [List.length_cons, List.length_nil]
        omega
  obtain ⟨a, ha, ha1, ha2⟩ := below_ev h hp (n + 1) (by omega)
  obtain ⟨r, hr, hr1, hr2⟩ := key a.1.toNat [] a.2 (by simp; omega) ha2
  refine ⟨r, ?_, ?_, hr2⟩
  · unfold spec_l1Rd_bytes.f
    rw [wid (by omega) (by omega)]
    refine Ev.bindS ha ?_
    rw [show ((a.1.toNat : Nat) : Int) = a.1 from by omega] at hr
    exact hr
  · rw [hr1]
    simp only [List.length_nil]
    omega
theorem duser_ev {l : List Int} {p : Int} (h : okc l) (hp : okp l p) : ∃ r, spec_l1Rd_user.f l p = some r ∧ (isU r.1) ∧ okp l r.2 := by
  obtain ⟨a, ha, ha1, ha2⟩ := below_ev h hp 10 (by omega)
  unfold spec_l1Rd_user.f
  rw [Option.bind_some, ha, Option.bind_some, if_pos ha1.1, if_pos (by simp only [List.length_cons, List.length_nil]; omega)]
  refine ⟨_, rfl, ?_, ha2⟩
  obtain ⟨m, hm⟩ : ∃ m : Nat, a.1 = m := ⟨a.1.toNat, by omega⟩
  have hlt : m < 10 := by omega
  simp only [hm]
  clear hm ha1 ha ha2
  revert m
  unfold rdOf
  simp only [Int.toNat_natCast]
  decide +kernel
theorem dvalue_ev {l : List Int} {p : Int} (h : okc l) (hp : okp l p) : ∃ r, spec_l1Rd_value.f l p = some r ∧ (r.1.size ≤ 5) ∧ okp l r.2 := by
  obtain ⟨a, ha, ha1, ha2⟩ := below_ev h hp 5 (by omega)
  unfold spec_l1Rd_value.f
  rw [Option.bind_some, ha, Option.bind_some, if_pos ha1.1, if_pos (by simp only [List.length_cons, List.length_nil]; omega)]
  refine ⟨_, rfl, ?_, ha2⟩
  obtain ⟨m, hm⟩ : ∃ m : Nat, a.1 = m := ⟨a.1.toNat, by omega⟩
  have hlt : m < 5 := by omega
  simp only [hm]
  clear hm ha1 ha ha2
  revert m
  unfold rdOf
  simp only [Int.toNat_natCast]
  decide +kernel
theorem near_ev {l : List Int} {p : Int} (h : okc l) (hp : okp l p) (a b : Int) (hab : a ≤ b) (ha : -1000000000000000 ≤ a) (hb : b ≤ 1000000000000000) : ∃ r, Ev (fun k => spec_l1Rd_near.f k l p a b) r ∧ (a ≤ r.1 ∧ r.1 ≤ b) ∧ okp l r.2 := by
  unfold spec_l1Rd_near.f
  obtain ⟨x, hx, hx1, hx2⟩ := below_ev h hp 8 (by omega)
  by_cases c0 : x.1 = 0
  · exact ⟨_, Ev.bindS hx (Ev.pos c0 (Ev.now _)), ⟨Int.le_refl _, hab⟩, hx2⟩
  · by_cases c1 : x.1 = 1
    · exact ⟨_, Ev.bindS hx (Ev.neg c0 (Ev.pos c1 (Ev.now _))), ⟨hab, Int.le_refl _⟩, hx2⟩
    · obtain ⟨y, hy, hy1, hy2⟩ := word_ev h hx2
      have e : IntKind.u64.wrap (wrap64 (wrap64 (b - a) + 1)) = b - a + 1 := by
        rw [wid (x := b - a) (by omega) (by omega), wid (by omega) (by omega), uid (by omega) (by omega)]
      have m0 : 0 ≤ Int.tmod (y.1 / 2) (b - a + 1) ∧ Int.tmod (y.1 / 2) (b - a + 1) < b - a + 1 := by
        rw [Int.tmod_eq_emod_of_nonneg (by omega)]
        exact ⟨Int.emod_nonneg _ (by omega), Int.emod_lt_of_pos _ (by omega)⟩
      refine ⟨(a + Int.tmod (y.1 / 2) (b - a + 1), y.2), Ev.bindS hx (Ev.neg c0 (Ev.neg c1 (Ev.neg (by omega) (Ev.bind hy ?_)))), ⟨by show a ≤ a + _; omega, by show a + _ ≤ b; omega⟩, hy2⟩
      rw [e, wid (x := Int.tmod (y.1 / 2) (b - a + 1)) (by omega) (by omega), wid (by omega) (by omega)]
      exact Ev.neg (by omega) (Ev.now _)
theorem off_ev {l : List Int} {p : Int} (h : okc l) (hp : okp l p) (a b : Int) (hab : a ≤ b) (ha : -1000000000000000 ≤ a) (hb : b ≤ 1000000000000000) : ∃ r, Ev (fun k => spec_l1Rd_off.f k l p a b) r ∧ (-9223372036854775808 ≤ r.1 ∧ r.1 ≤ 9223372036854775807) ∧ okp l r.2 := by
  unfold spec_l1Rd_off.f
  obtain ⟨x, hx, hx2⟩ := once_ev h hp 24 (by omega)
  by_cases c0 : x.1 = true
  · obtain ⟨y, hy, hy1, hy2⟩ := below_ev h hx2 4 (by omega)
    refine ⟨_, Ev.bindS hx (Ev.pos c0 (Ev.bindS rfl (Ev.bindS hy (Ev.pos hy1.1 (Ev.pos (by simp only [List.length_cons, List.length_nil]; omega) (Ev.now _)))))), ?_, hy2⟩
    rw [wid (x := a - 1) (by omega) (by omega), wid (x := b + 1) (by omega) (by omega)]
    obtain ⟨m, hm⟩ : ∃ m : Nat, y.1 = m := ⟨y.1.toNat, by omega⟩
    have hlt : m < 4 := by omega
    simp only [hm]
    unfold rd
    rw [Int.toNat_natCast]
    match m, hlt with
    | 0, _ => show -9223372036854775808 ≤ a - 1 ∧ a - 1 ≤ 9223372036854775807; omega
    | 1, _ => show -9223372036854775808 ≤ b + 1 ∧ b + 1 ≤ 9223372036854775807; omega
    | 2, _ => show (-9223372036854775808 : Int) ≤ -9223372036854775808 ∧ (-9223372036854775808 : Int) ≤ 9223372036854775807; omega
    | 3, _ => show (-9223372036854775808 : Int) ≤ 9223372036854775807 ∧ (9223372036854775807 : Int) ≤ 9223372036854775807; omega
  · obtain ⟨y, hy, hy1, hy2⟩ := near_ev h hx2 a b hab ha hb
    exact ⟨_, Ev.bindS hx (Ev.neg c0 (Ev.bind hy (Ev.now _))), ⟨by omega, by omega⟩, hy2⟩
theorem eqA64 (d : Nat) (w : World) (x0 y0 : ByteArray) (x1 y1 : Int) (x2 y2 : Int) (x3 y3 : ByteArray) :
  (Op.equalIn (d + 3) 64 (.agg #[.string x0, .int .i64 x1, .int .i64 x2, .string x3]) (.agg #[.string y0, .int .i64 y1, .int .i64 y2, .string y3])).run Try.prog w = .ok ((x0.toList == y0.toList && (x1 == y1 && (x2 == y2))) && (x3.toList == y3.toList)) w := by
 refine eqA_of Try.underlying64 (by kernel_rfl) ?_
 refine eqf_cons (by rfl) (by go_simp) (by go_simp) (eqA35 (d + 0) w _ _ _ _ _ _) ?_
 exact eqf_last (by rfl) (by go_simp; rfl) (by go_simp; rfl) (by go_simp)
end Go.Proofs.Ytidjdkodgddfcaa.P
end

section
namespace Go.Proofs.Ytidjdkodgddfcaa.P
open Go.RowKit Go.Proofs.YtidjdkodgddfcaaW.PrintWords Go.Proofs.YtidjdkodgddfcaaW.PrintLast Go.Proofs.YtidjdkodgddfcaaW.PrintMore
attribute [local go_sem] qi1 qh1 qj1 qd1 qb1 ql1 qk1 qx qw qc1 qa1
set_option linter.unusedVariables false
set_option linter.unusedSimpArgs false
theorem sameOps_self (l : List S148) (h : l.length < 2097152) : Ev (fun k => laws_sameOps.f k l l) true := by
  unfold laws_sameOps.f
  have key : ∀ i, i ≤ l.length → Ev (fun k => laws_sameOps.l0 k l l (i : Int)) true := by
    refine downTo l.length (Ev.step (fun k => laws_sameOps.l0.eq_2 ..) (Ev.neg (by omega) (Ev.now _))) ?_
    intro i hi ih
    refine Ev.step (fun k => laws_sameOps.l0.eq_2 ..) (Ev.pos (by omega) (Ev.pos (by omega) (Ev.pos (by omega) (Ev.neg (by simp) ?_))))
    rw [wsucc (by omega)]
    exact ih
  exact Ev.pos rfl (key 0 (Nat.zero_le _))
end Go.Proofs.Ytidjdkodgddfcaa.P
end

section
namespace Go.Proofs.Ytidjdkodgddfcaa.P
open Go.RowKit Go.Proofs.YtidjdkodgddfcaaW.PrintWords Go.Proofs.YtidjdkodgddfcaaW.PrintLast Go.Proofs.YtidjdkodgddfcaaW.PrintMore
attribute [local go_sem] qi1 qh1 qj1 qd1 qb1 ql1 qk1 qx qw qc1 qa1
set_option linter.unusedVariables false
set_option linter.unusedSimpArgs false
theorem ba_assoc' (a b c : ByteArray) : (a ++ b) ++ c = a ++ (b ++ c) := by
  apply ByteArray.ext
  simp [Array.append_assoc]
theorem ba_nil' (a : ByteArray) : a ++ (⟨#[]⟩ : ByteArray) = a := by
  apply ByteArray.ext
  simp
theorem toList_nil' (a : ByteArray) : a.toList = [] ↔ a.size = 0 := by
  rw [ByteArray.toList_eq]
  constructor
  · intro h
    have := congrArg List.length h
    rw [data_length] at this
    exact this
  · intro h
    exact List.eq_nil_of_length_eq_zero (by rw [data_length]; exact h)
theorem one_first (s : ByteArray) (h : 1 ≤ s.size) : s = strOfNums [bt s 0] ++ s.extract 1 s.size := by
  have hb := bt_range s 0
  have e : s.extract 0 1 = strOfNums [bt s 0] := by
    apply bytesOf_inj
    rw [bytesOf_strOfNums _ (fun x hx => by rw [List.mem_singleton] at hx; omega), bytesOf_extract s 0 1 h, List.drop_zero]
    have hl : (bytesOf s).length = s.size := bytesOf_length s
    rw [List.take_one]
    have := rd_bytesOf s 0
    cases hq : bytesOf s with
    | nil => rw [hq] at hl; simp at hl; omega
    | cons x xs =>
      rw [hq] at this
      simp [rd] at this
      rw [← this]
      rfl
  rw [← e]
  exact (extract_join s 1 h).symm
theorem first_one (x : Int) (hx : 0 ≤ x ∧ x < 256) (t : ByteArray) : bt (strOfNums [x] ++ t) 0 = x ∧ (strOfNums [x] ++ t).extract 1 (strOfNums [x] ++ t).size = t ∧ ¬ (strOfNums [x] ++ t).toList = [] := by
  have hb : bytesOf (strOfNums [x] ++ t) = x :: bytesOf t := by
    rw [bytesOf_append, bytesOf_strOfNums _ (fun y hy => by rw [List.mem_singleton] at hy; omega)]
    rfl
  obtain ⟨h1, h2, h3⟩ := bt_drop (s := strOfNums [x] ++ t) (i := 0) (x := x) (l := bytesOf t) (by rw [List.drop_zero]; exact hb)
  refine ⟨h2, drop_all h3, fun h => ?_⟩
  rw [toList_nil'] at h
  omega
end Go.Proofs.Ytidjdkodgddfcaa.P
end

section
namespace Go.Proofs.Ytidjdkodgddfcaa.P
open Go.RowKit Go.Proofs.YtidjdkodgddfcaaW.PrintWords Go.Proofs.YtidjdkodgddfcaaW.PrintLast Go.Proofs.YtidjdkodgddfcaaW.PrintMore
attribute [local go_sem] qi1 qh1 qj1 qd1 qb1 ql1 qk1 qx qw qc1 qa1
set_option linter.unusedVariables false
set_option linter.unusedSimpArgs false
open Go.Sort
def stLt (c : S64 → S64 → Int) (p q : S64 × Nat) : Bool := decide (c p.1 q.1 < 0) || (!decide (c q.1 p.1 < 0) && decide (p.2 < q.2))
structure Ord (c : S64 → S64 → Int) : Prop where
  irrefl : ∀ x, ¬ c x x < 0
  trans : ∀ x y z, c x y < 0 → c y z < 0 → c x z < 0
  ntrans : ∀ x y z, ¬ c x y < 0 → ¬ c y z < 0 → ¬ c x z < 0
theorem stLt_swo {c : S64 → S64 → Int} (h : Ord c) : SWO (stLt c) := by
  refine ⟨fun x => ?_, fun x y z h1 h2 => ?_, fun x y z h1 h2 => ?_⟩
  · simp [stLt, h.irrefl]
  · simp only [stLt, Bool.or_eq_true, Bool.and_eq_true, Bool.not_eq_true', decide_eq_true_eq, decide_eq_false_iff_not] at *
    rcases h1 with h1 | ⟨h1, h1'⟩
    · rcases h2 with h2 | ⟨h2, _⟩
      · exact .inl (h.trans _ _ _ h1 h2)
      · exact .inl (Classical.byContradiction fun k => h.ntrans _ _ _ k h2 h1)
    · rcases h2 with h2 | ⟨h2, h2'⟩
      · exact .inl (Classical.byContradiction fun k => h.ntrans _ _ _ h1 k h2)
      · exact .inr ⟨h.ntrans _ _ _ h2 h1, by omega⟩
  · simp only [stLt, Bool.or_eq_false_iff, Bool.and_eq_false_iff, Bool.not_eq_false', decide_eq_true_eq, decide_eq_false_iff_not] at *
    refine ⟨h.ntrans _ _ _ h1.1 h2.1, ?_⟩
    rcases h1.2 with k1 | k1
    · exact .inl (Classical.byContradiction fun k => h.ntrans _ _ _ h2.1 k k1)
    · rcases h2.2 with k2 | k2
      · exact .inl (Classical.byContradiction fun k => h.ntrans _ _ _ k h1.1 k2)
      · exact .inr (by omega)
theorem srt_spec {c : S64 → S64 → Int} (h : Ord c) (l : List S64) : ∃ L : List (S64 × Nat), L.Perm l.zipIdx ∧ srt c l = L.map (fun p => p.1) ∧ L.Pairwise (fun p q => stLt c q p = false) := by
  have hA : ∀ p q, p < q → q < (zipA l).size → ltOf (cfL c) (zipA l)[q]! (zipA l)[p]! = stLt c (zipA l)[q]! (zipA l)[p]! := by
    intro p q hpq hq
    rw [zipA_size] at hq
    rw [zipA_at l q hq, zipA_at l p (by omega)]
    show decide (c _ _ < 0) = (decide (c _ _ < 0) || (!decide (c _ _ < 0) && decide (q < p)))
    rw [decide_eq_false (show ¬ q < p by omega), Bool.and_false, Bool.or_false]
  obtain ⟨⟨z1, _, z3⟩, z4⟩ := stab_spec (lt := ltOf (cfL c)) (stLt_swo h) hA
  refine ⟨(stab (ltOf (cfL c)) (zipA l)).toList, ?_, rfl, ?_⟩
  · rw [Array.extract_eq_self_of_le (by omega), Array.extract_eq_self_of_le (by omega)] at z3
    exact z3
  · rw [List.pairwise_iff_getElem]
    intro i j hi hj hij
    have := z4 i j (Nat.zero_le _) hij (by rw [← z1]; simpa using hj)
    rw [getElem!_pos _ i (by simpa using hi), getElem!_pos _ j (by simpa using hj)] at this
    simpa using this
theorem srt_perm {c : S64 → S64 → Int} (h : Ord c) (l : List S64) : (srt c l).Perm l := by
  obtain ⟨L, h1, h2, _⟩ := srt_spec h l
  rw [h2]
  have := h1.map (fun p => p.1)
  rwa [List.zipIdx_map_fst] at this
theorem srt_sorted {c : S64 → S64 → Int} (h : Ord c) (l : List S64) : (srt c l).Pairwise (fun x y => ¬ c y x < 0) := by
  obtain ⟨L, _, h2, h3⟩ := srt_spec h l
  rw [h2, List.pairwise_map]
  refine h3.imp fun {p q} hpq => ?_
  simp only [stLt, Bool.or_eq_false_iff, decide_eq_false_iff_not] at hpq
  exact hpq.1
theorem tless_ntrans {a b c : ByteArray} (h1 : ¬ tless a b = true) (h2 : ¬ tless b c = true) : ¬ tless a c = true := by
  intro h
  unfold tless at *
  by_cases k : Op.bytesLess b.toList a.toList = true
  · exact h2 (bl_trans k h)
  · have e : a.toList = b.toList := bl_eq (by simpa using h1) (by simpa using k)
    rw [e] at h
    exact h2 h
theorem ecmp_ord : Ord ecmp := by
  refine ⟨fun x h => ?_, fun x y z h1 h2 => ?_, fun x y z h1 h2 h => ?_⟩
  · have := (kcmp_zero x.f0.f0 x.f0.f1 x.f0.f2 x.f0.f0 x.f0.f1 x.f0.f2).2 ⟨rfl, rfl, rfl⟩
    unfold ecmp at h
    omega
  · unfold ecmp at *
    rw [kcmp_lt] at *
    rcases h1 with h1 | ⟨e1, h1⟩
    · rcases h2 with h2 | ⟨e2, h2⟩
      · exact .inl (bl_trans h1 h2)
      · rw [e2] at h1; exact .inl h1
    · rcases h2 with h2 | ⟨e2, h2⟩
      · rw [e1]; exact .inl h2
      · exact .inr ⟨e1.trans e2, by omega⟩
  · unfold ecmp at *
    rw [kcmp_lt] at h1 h2 h
    have u1 : ¬ tless x.f0.f0 y.f0.f0 = true := fun k => h1 (.inl k)
    have u2 : ¬ tless y.f0.f0 z.f0.f0 = true := fun k => h2 (.inl k)
    have ueq : ∀ a b : ByteArray, ¬ tless a b = true → ¬ tless b a = true → a = b := fun a b p q => by
      have := bl_eq (a := a.toList) (b := b.toList) (by simpa [tless] using p) (by simpa [tless] using q)
      rw [ByteArray.toList_eq, ByteArray.toList_eq] at this
      exact ByteArray.ext (Array.toList_inj.1 this)
    rcases h with h | ⟨e, h⟩
    · exact tless_ntrans u1 u2 h
    · have v1 : ¬ tless y.f0.f0 x.f0.f0 = true := fun k => u2 (by rw [← e]; exact k)
      have e1 := ueq _ _ u1 v1
      have e2 : y.f0.f0 = z.f0.f0 := e1.symm.trans e
      have w1 : ¬ (y.f0.f1 < x.f0.f1 ∨ x.f0.f1 = y.f0.f1 ∧ y.f0.f2 < x.f0.f2) := fun k => h1 (.inr ⟨e1, k⟩)
      have w2 : ¬ (z.f0.f1 < y.f0.f1 ∨ y.f0.f1 = z.f0.f1 ∧ z.f0.f2 < y.f0.f2) := fun k => h2 (.inr ⟨e2, k⟩)
      omega
theorem ecmp_zero (x y : S64) (h1 : ¬ ecmp x y < 0) (h2 : ¬ ecmp y x < 0) : x.f0 = y.f0 := by
  have h0 : ecmp x y = 0 := by
    rcases kcmp_cases x.f0.f0 x.f0.f1 x.f0.f2 y.f0.f0 y.f0.f1 y.f0.f2 with h | h | h
    · exact absurd (show ecmp x y < 0 by unfold ecmp; omega) h1
    · exact h
    · exfalso
      apply h2
      unfold ecmp at h1 ⊢
      rw [kcmp_lt] at h1 ⊢
      by_cases k1 : tless y.f0.f0 x.f0.f0 = true
      · exact .inl k1
      · have e : x.f0.f0 = y.f0.f0 := by
          have := bl_eq (a := x.f0.f0.toList) (b := y.f0.f0.toList) (by have : ¬ tless x.f0.f0 y.f0.f0 = true := fun k => h1 (.inl k); simpa [tless] using this) (by simpa [tless] using k1)
          rw [ByteArray.toList_eq, ByteArray.toList_eq] at this
          exact ByteArray.ext (Array.toList_inj.1 this)
        have w : ¬ (y.f0.f1 < x.f0.f1 ∨ x.f0.f1 = y.f0.f1 ∧ y.f0.f2 < x.f0.f2) := fun k => h1 (.inr ⟨e, k⟩)
        have nz : ¬ (x.f0.f1 = y.f0.f1 ∧ x.f0.f2 = y.f0.f2) := fun k => by
          have := (kcmp_zero x.f0.f0 x.f0.f1 x.f0.f2 y.f0.f0 y.f0.f1 y.f0.f2).2 ⟨e, k.1, k.2⟩
          omega
        exact .inr ⟨e.symm, by omega⟩
  have := (kcmp_zero x.f0.f0 x.f0.f1 x.f0.f2 y.f0.f0 y.f0.f1 y.f0.f2).1 h0
  obtain ⟨⟨u, q, d⟩, v⟩ := x
  obtain ⟨⟨u', q', d'⟩, v'⟩ := y
  obtain ⟨rfl, rfl, rfl⟩ := this
  rfl
end Go.Proofs.Ytidjdkodgddfcaa.P
end

section
namespace Go.Proofs.Ytidjdkodgddfcaa.Pure
open Go.RowKit Go.Proofs.YtidjdkodgddfcaaW.PrintWords Go.Proofs.YtidjdkodgddfcaaW.PrintLast Go.Proofs.YtidjdkodgddfcaaW.PrintMore
open Go.Proofs.Ytidjdkodgddfcaa.P
set_option linter.unusedVariables false
set_option linter.unusedSimpArgs false
theorem rdOp (l : List S148) (i : Nat) (h : i < l.length) : qj l (i : Int) = l[i] := by
  unfold qj
  rw [Int.toNat_natCast, List.getD_eq_getElem?_getD, List.getElem?_eq_getElem h]
  rfl
def entOf (q : Int) (i : Nat) (o : S148) : S64 := ⟨⟨o.f1, wrap64 (q + (i : Int)), o.f0⟩, o.f2⟩
def entsFrom (q : Int) : Nat → List S148 → List S64
  | _, [] => []
  | i, o :: os => entOf q i o :: entsFrom q (i + 1) os
theorem entries_ev (q : Int) (l : List S148) (hl : l.length < 2097152) : Ev (fun k => impl_Batch_entries.f k q l) (entsFrom q 0 l) := by
  have key : ∀ i, i ≤ l.length → ∀ acc : List S64, acc.length = i → Ev (fun k => impl_Batch_entries.l0 k acc l (l.length : Int) (i : Int) q l) (acc ++ entsFrom q i (l.drop i)) := by
    refine downTo l.length ?_ ?_
    · intro acc ha
      rw [List.drop_length]
      refine Ev.step (fun k => impl_Batch_entries.l0.eq_2 ..) ?_
      refine Ev.neg (by omega) ?_
      rw [entsFrom, List.append_nil]
      exact Ev.now _
    · intro i hi ih acc ha
      rw [List.drop_eq_getElem_cons hi]
      refine Ev.step (fun k => impl_Batch_entries.l0.eq_2 ..) ?_
      refine Ev.pos (by omega) (Ev.pos (by omega) (Ev.pos (by omega) (Ev.pos (by omega) ?_)))
      rw [wsucc (by omega), rdOp l i hi]
      refine (ih (acc ++ [entOf q i l[i]]) (by simp [ha])).eqr ?_
      rw [List.append_assoc]
      rfl
  exact key 0 (Nat.zero_le _) [] rfl
def isB (q : Int) (l : List S148) : Prop := (1 ≤ l.length ∧ l.length ≤ 20) ∧ (1 ≤ q ∧ q ≤ 999999999980) ∧ ∀ x ∈ entsFrom q 0 l, isE x.f0.f0 x.f0.f1 x.f0.f2 x.f1
noncomputable instance (q : Int) (l : List S148) : Decidable (isB q l) := Classical.propDecidable _
theorem notEntryOk_p (x : S64) : containsFunc_notEntryOk.p x = !decide (isE x.f0.f0 x.f0.f1 x.f0.f2 x.f1) := by
  unfold containsFunc_notEntryOk.p impl_BatchOk_1.f
  rw [entryOk_ev]
  rfl
theorem any_not {α : Type} (l : List α) (p : α → Prop) [DecidablePred p] : (!l.any fun x => !decide (p x)) = decide (∀ x ∈ l, p x) := by
  induction l with
  | nil => simp
  | cons a l ih =>
    rw [List.any_cons, Bool.not_or, Bool.not_not, ih]
    simp
theorem batchOk_ev (q : Int) (l : List S148) (hl : l.length < 2097152) : Ev (fun k => impl_BatchOk.f k q l) (decide (isB q l)) := by
  have h1 := within_ev (l.length : Int) 1 20
  have h2 := within_ev q 1 999999999980
  unfold impl_BatchOk.f
  refine Ev.bindS h1 ?_
  by_cases c1 : 1 ≤ l.length ∧ l.length ≤ 20
  · refine Ev.pos (decide_eq_true (by omega)) (Ev.bindS h2 ?_)
    by_cases c2 : 1 ≤ q ∧ q ≤ 999999999980
    · refine Ev.pos (decide_eq_true c2) (Ev.bind (entries_ev q l hl) (Ev.bindS rfl ((Ev.now _).eqr ?_)))
      rw [show containsFunc_notEntryOk.p = fun x => !decide (isE x.f0.f0 x.f0.f1 x.f0.f2 x.f1) from funext notEntryOk_p, any_not]
      exact decide_eq_decide.2 ⟨fun h => ⟨c1, c2, h⟩, fun h => h.2.2⟩
    · exact Ev.neg (by simpa using c2) ((Ev.now _).eqr (decide_eq_false fun h => c2 h.2.1).symm)
  · exact Ev.neg (by simp only [decide_eq_true_eq]; omega) ((Ev.now _).eqr (decide_eq_false fun h => c1 h.1).symm)
theorem sBatchOk_ev (q : Int) (l : List S148) (hl : l.length < 2097152) : Ev (fun k => spec_BatchOk.f k q l) (decide (isB q l)) := by
  have h2 := in_ev q 1 999999999980
  have jt : Ev (fun k => spec_BatchOk.j0 k true q l) false := by
    refine Ev.step (fun k => spec_BatchOk.j0.eq_2 ..) ?_
    exact Ev.pos rfl (Ev.now _)
  unfold spec_BatchOk.f
  by_cases c1 : (l.length : Int) < 1
  · exact Ev.pos c1 (jt.eqr (decide_eq_false fun h => by have := h.1; omega).symm)
  · refine Ev.neg c1 ?_
    by_cases c3 : (l.length : Int) > 20
    · exact Ev.pos c3 (jt.eqr (decide_eq_false fun h => by have := h.1; omega).symm)
    · refine Ev.neg c3 (Ev.bindS h2 ?_)
      by_cases c2 : 1 ≤ q ∧ q ≤ 999999999980
      · rw [decide_eq_true c2]
        refine Ev.step (fun k => spec_BatchOk.j0.eq_2 ..) ?_
        refine Ev.neg (by decide) ?_
        have key : ∀ i, i ≤ l.length → Ev (fun k => spec_BatchOk.l0 k (i : Int) q l) (decide (∀ x ∈ entsFrom q i (l.drop i), isE x.f0.f0 x.f0.f1 x.f0.f2 x.f1)) := by
          refine downTo l.length ?_ ?_
          · refine Ev.step (fun k => spec_BatchOk.l0.eq_2 ..) ?_
            rw [List.drop_length]
            exact Ev.neg (by omega) ((Ev.now _).eqr (decide_eq_true (fun x h => by simp [entsFrom] at h)).symm)
          · intro i hi ih
            rw [List.drop_eq_getElem_cons hi]
            refine Ev.step (fun k => spec_BatchOk.l0.eq_2 ..) ?_
            refine Ev.pos (by omega) (Ev.bindS (a := (l[i].f1, wrap64 (q + (i : Int)), l[i].f0, l[i].f2)) ?_ (Ev.bindS (sEntryOk_ev _ _ _ _) ?_))
            · unfold spec_l7Entry.f
              rw [if_pos (by omega), if_pos (by omega), rdOp l i hi]
            · by_cases ce : isE l[i].f1 (wrap64 (q + (i : Int))) l[i].f0 l[i].f2
              · refine Ev.pos (decide_eq_true ce) ?_
                rw [wsucc (by omega)]
                refine ih.eqr (decide_eq_decide.2 ⟨fun h x hx => ?_, fun h x hx => h x (List.mem_cons_of_mem _ hx)⟩)
                rcases List.mem_cons.1 hx with rfl | hx
                · exact ce
                · exact h x hx
              · refine Ev.neg (by simpa using ce) ((Ev.now _).eqr (decide_eq_false fun h => ce ?_).symm)
                exact h (entOf q i l[i]) (List.mem_cons_self ..)
        refine (key 0 (Nat.zero_le _)).eqr (decide_eq_decide.2 ⟨fun h => ⟨by omega, c2, h⟩, fun h => h.2.2⟩)
      · rw [decide_eq_false c2]
        exact jt.eqr (decide_eq_false fun h => c2 h.2.1).symm
def opText (o : S148) : ByteArray := strOfNums [o.f0 % 256] ++ pt o.f1 ++ pt o.f2
def opsText : List S148 → ByteArray
  | [] => ⟨#[]⟩
  | o :: os => opText o ++ opsText os
def batchT (q : Int) (l : List S148) : ByteArray := pv q.toNat ++ pv l.length ++ opsText l
theorem op_small {q : Int} {i : Nat} : ∀ {l : List S148}, (∀ x ∈ entsFrom q i l, isE x.f0.f0 x.f0.f1 x.f0.f2 x.f1) → ∀ o ∈ l, (1 ≤ o.f1.size ∧ o.f1.size ≤ 40) ∧ o.f2.size ≤ 200 ∧ (o.f0 = 0 ∨ o.f0 = 1) := by
  intro l
  induction l generalizing i with
  | nil => intro _ o ho; simp at ho
  | cons a l ih =>
    intro h o ho
    rcases List.mem_cons.1 ho with rfl | ho
    · have := h (entOf q i o) (List.mem_cons_self ..)
      unfold isE isK isU entOf at this
      simp only at this
      refine ⟨this.1.1, this.2.1, by omega⟩
    · exact ih (i := i + 1) (fun x hx => h x (List.mem_cons_of_mem _ hx)) o ho
theorem strOfNums_size' (l : List Int) : (strOfNums l).size = l.length := by
  unfold strOfNums
  simp [ByteArray.size]
theorem opText_size (o : S148) (h1 : o.f1.size ≤ 40) (h2 : o.f2.size ≤ 200) : (opText o).size ≤ 300 := by
  have a := pt_size o.f1 (by omega)
  have b := pt_size o.f2 (by omega)
  unfold opText
  rw [ByteArray.size_append, ByteArray.size_append, strOfNums_size']
  simp only [List.length_cons, List.length_nil]
  omega
theorem byteArray_append_nil (a : ByteArray) : a ++ (⟨#[]⟩ : ByteArray) = a := by
  apply ByteArray.ext
  simp
theorem sText_ev (q : Int) (l : List S148) (hs : ∀ o ∈ l, (1 ≤ o.f1.size ∧ o.f1.size ≤ 40) ∧ o.f2.size ≤ 200 ∧ (o.f0 = 0 ∨ o.f0 = 1)) (hl : l.length ≤ 20) (acc : ByteArray) (ha : acc.size ≤ 100) :
    Ev (fun k => spec_BatchText.l0 k acc 0 q l) (acc ++ opsText l) := by
  have key : ∀ i, i ≤ l.length → ∀ acc : ByteArray, acc.size ≤ 100 + 300 * i → Ev (fun k => spec_BatchText.l0 k acc (i : Int) q l) (acc ++ opsText (l.drop i)) := by
    refine downTo l.length ?_ ?_
    · intro acc _
      refine Ev.step (fun k => spec_BatchText.l0.eq_2 ..) ?_
      refine Ev.neg (by omega) ((Ev.now _).eqr ?_)
      rw [List.drop_length, opsText, byteArray_append_nil]
    · intro i hi ih acc ha
      obtain ⟨m1, m2, m3⟩ := hs l[i] (List.getElem_mem hi)
      have e1 := sPutText_ev l[i].f1 (by omega)
      have e2 := sPutText_ev l[i].f2 (by omega)
      have z1 := pt_size l[i].f1 (by omega)
      have z2 := pt_size l[i].f2 (by omega)
      have z0 : (strOfNums [l[i].f0 % 256]).size = 1 := strOfNums_size' _
      have zo := opText_size l[i] m1.2 m2
      rw [List.drop_eq_getElem_cons hi]
      refine Ev.step (fun k => spec_BatchText.l0.eq_2 ..) ?_
      rw [rdOp l i hi]
      refine Ev.pos (by omega) (Ev.pos (by omega) (Ev.bindS rfl (Ev.pos (by omega) (Ev.bind e1 (Ev.pos (by omega) (Ev.bind e2 (Ev.pos (by omega) ?_)))))))
      rw [wsucc (by omega)]
      have e : acc ++ strOfNums [l[i].f0 % 256] ++ pt l[i].f1 ++ pt l[i].f2 = acc ++ opText l[i] := by
        unfold opText
        simp only [ByteArray.append_assoc]
      rw [e]
      refine (ih (acc ++ opText l[i]) (by rw [ByteArray.size_append]; omega)).eqr ?_
      rw [ByteArray.append_assoc]
      rfl
  exact key 0 (Nat.zero_le _) acc (by omega)
theorem text_ev (l : List S148) (hs : ∀ o ∈ l, (1 ≤ o.f1.size ∧ o.f1.size ≤ 40) ∧ o.f2.size ≤ 200 ∧ (o.f0 = 0 ∨ o.f0 = 1)) (hl : l.length ≤ 20) (acc : ByteArray) (ha : acc.size ≤ 100) :
    Ev (fun k => impl_Batch_text.l0 k acc l (l.length : Int) 0) (acc ++ opsText l) := by
  have key : ∀ i, i ≤ l.length → ∀ acc : ByteArray, acc.size ≤ 100 + 300 * i → Ev (fun k => impl_Batch_text.l0 k acc l (l.length : Int) (i : Int)) (acc ++ opsText (l.drop i)) := by
    refine downTo l.length ?_ ?_
    · intro acc _
      refine Ev.step (fun k => impl_Batch_text.l0.eq_2 ..) ?_
      refine Ev.neg (by omega) ((Ev.now _).eqr ?_)
      rw [List.drop_length, opsText, byteArray_append_nil]
    · intro i hi ih acc ha
      obtain ⟨m1, m2, m3⟩ := hs l[i] (List.getElem_mem hi)
      have e1 := putText_ev l[i].f1 (by omega)
      have e2 := putText_ev l[i].f2 (by omega)
      have z1 := pt_size l[i].f1 (by omega)
      have z2 := pt_size l[i].f2 (by omega)
      have z0 : (strOfNums [l[i].f0 % 256]).size = 1 := strOfNums_size' _
      have zo := opText_size l[i] m1.2 m2
      rw [List.drop_eq_getElem_cons hi]
      refine Ev.step (fun k => impl_Batch_text.l0.eq_2 ..) ?_
      rw [rdOp l i hi]
      refine Ev.pos (by omega) (Ev.pos (by omega) (Ev.pos (by omega) (Ev.bindS rfl (Ev.bind e1 (Ev.pos (by omega) (Ev.bind e2 (Ev.pos (by omega) (Ev.pos (by omega) ?_))))))))
      rw [wsucc (by omega)]
      refine (ih (acc ++ opText l[i]) (by rw [ByteArray.size_append]; omega)).eqr ?_
      rw [ByteArray.append_assoc]
      rfl
  exact key 0 (Nat.zero_le _) acc (by omega)
theorem isB_ops {q : Int} {l : List S148} (h : isB q l) : ∀ o ∈ l, (1 ≤ o.f1.size ∧ o.f1.size ≤ 40) ∧ o.f2.size ≤ 200 ∧ (o.f0 = 0 ∨ o.f0 = 1) := op_small h.2.2
theorem batchText_ev (q : Int) (l : List S148) (hl : l.length < 2097152) : Ev (fun k => impl_BatchText.f k q l) (if isB q l then batchT q l else ⟨#[]⟩) := by
  unfold impl_BatchText.f
  refine Ev.bind (batchOk_ev q l hl) ?_
  by_cases c : isB q l
  · refine Ev.pos (decide_eq_true c) ?_
    rw [if_pos c]
    have hq := c.2.1
    have p1 := putInt_ev q.toNat (by omega)
    have p2 := putInt_ev l.length (by omega)
    rw [show ((q.toNat : Nat) : Int) = q from by omega] at p1
    have s1 := pv_size (n := q.toNat) (by omega)
    have s2 := pv_size (n := l.length) (by omega)
    refine Ev.bind (a := batchT q l) ?_ (Ev.now _)
    unfold impl_Batch_text.f
    exact Ev.bind p1 (Ev.bind p2 (Ev.pos (by omega) (text_ev l (isB_ops c) c.1.2 _ (by rw [ByteArray.size_append]; omega))))
  · refine Ev.neg (by simpa using c) ?_
    rw [if_neg c]
    exact Ev.now _
theorem sBatchText_ev (q : Int) (l : List S148) (hl : l.length < 2097152) : Ev (fun k => spec_BatchText.f k q l) (if isB q l then batchT q l else ⟨#[]⟩) := by
  unfold spec_BatchText.f
  refine Ev.bind (sBatchOk_ev q l hl) ?_
  by_cases c : isB q l
  · refine Ev.pos (decide_eq_true c) ?_
    rw [if_pos c]
    have hq := c.2.1
    have p1 := sPutVar_ev q.toNat (by omega)
    have p2 := sPutVar_ev l.length (by omega)
    rw [show ((q.toNat : Nat) : Int) = q from by omega] at p1
    have s1 := pv_size (n := q.toNat) (by omega)
    have s2 := pv_size (n := l.length) (by omega)
    rw [uid (by omega) (by omega), uid (by omega) (by omega)]
    exact Ev.bind p1 (Ev.bind p2 (Ev.pos (by omega) (sText_ev q l (isB_ops c) c.1.2 _ (by rw [ByteArray.size_append]; omega))))
  · refine Ev.neg (by simpa using c) ?_
    rw [if_neg c]
    exact Ev.now _
end Go.Proofs.Ytidjdkodgddfcaa.Pure
end

section
namespace Go.Proofs.Ytidjdkodgddfcaa.Pure
open Go.RowKit Go.Proofs.YtidjdkodgddfcaaW.PrintWords Go.Proofs.YtidjdkodgddfcaaW.PrintLast Go.Proofs.YtidjdkodgddfcaaW.PrintMore
open Go.Proofs.Ytidjdkodgddfcaa.P
set_option linter.unusedVariables false
set_option linter.unusedSimpArgs false
def rbGo : Nat → ByteArray → List S148 → Option (List S148 × ByteArray)
  | 0, s, acc => some (acc, s)
  | n + 1, s, acc => if s.toList = [] then none else
      if (tt (s.extract 1 s.size)).2.2 = true ∧ (tt (tt (s.extract 1 s.size)).2.1).2.2 = true then rbGo n (tt (tt (s.extract 1 s.size)).2.1).2.1 (acc ++ [⟨bt s 0, (tt (s.extract 1 s.size)).1, (tt (tt (s.extract 1 s.size)).2.1).1⟩]) else none
noncomputable def rbEnd (q : Int) : Option (List S148 × ByteArray) → Int × List S148 × Bool
  | some (ops, r) => if r.toList = [] ∧ isB q ops then (q, ops, true) else (0, [], false)
  | none => (0, [], false)
theorem ne_size {s : ByteArray} (h : ¬ s.toList = []) : 1 ≤ s.size := by
  apply Classical.byContradiction
  intro c
  apply h
  rw [ByteArray.toList_eq]
  exact List.eq_nil_of_length_eq_zero (by rw [data_length]; omega)
theorem sReadOps_ev (n : Nat) (hn : n ≤ 20) (q : Int) : ∀ (d i : Nat) (s : ByteArray) (acc : List S148), i + d = n → s.size ≤ 4611686018427387904 → acc.length ≤ i → Ev (fun k => spec_ReadBatch.l0 k (n : Int) s (i : Int) q acc) (rbEnd q (rbGo d s acc)) := by
  intro d
  induction d with
  | zero =>
    intro i s acc hi hs ha
    refine Ev.step (fun k => spec_ReadBatch.l0.eq_2 ..) ?_
    refine Ev.neg (by omega) ?_
    by_cases c : s.toList = []
    · refine Ev.pos c (Ev.bind (sBatchOk_ev q acc (by omega)) ?_)
      by_cases cb : isB q acc
      · exact Ev.pos (decide_eq_true cb) ((Ev.now _).eqr (if_pos ⟨c, cb⟩).symm)
      · exact Ev.neg (by simpa using cb) ((Ev.now _).eqr (if_neg fun h => cb h.2).symm)
    · exact Ev.neg c ((Ev.now _).eqr (if_neg fun h => c h.1).symm)
  | succ d ih =>
    intro i s acc hi hs ha
    refine Ev.step (fun k => spec_ReadBatch.l0.eq_2 ..) ?_
    refine Ev.pos (by omega) ?_
    unfold rbGo
    by_cases c : s.toList = []
    · rw [if_pos c]
      exact Ev.pos c (Ev.now _)
    · have hz := ne_size c
      have hx : (s.extract 1 s.size).size = s.size - 1 := by rw [ByteArray.size_extract]; omega
      obtain ⟨_, t1, t2, _⟩ := tt_range (s.extract 1 s.size)
      obtain ⟨_, u1, u2, _⟩ := tt_range (tt (s.extract 1 s.size)).2.1
      have hb := bt_range s 0
      rw [if_neg c]
      refine Ev.neg c (Ev.pos (by omega) (Ev.pos (by omega) (Ev.bind (sTakeText_ev _ (by omega)) (Ev.bind (sTakeText_ev _ (by omega)) ?_))))
      by_cases c1 : (tt (s.extract 1 s.size)).2.2 = true
      · refine Ev.pos c1 ?_
        by_cases c2 : (tt (tt (s.extract 1 s.size)).2.1).2.2 = true
        · refine Ev.pos c2 (Ev.pos (by omega) ?_)
          refine Ev.eqr ?_ (congrArg (rbEnd q) (if_pos ⟨c1, c2⟩).symm)
          rw [uid (by omega) (by omega), wid (x := bt s 0) (by omega) (by omega), show (i : Int) + 1 = ((i + 1 : Nat) : Int) from by omega]
          exact ih (i + 1) _ _ (by omega) (by omega) (by rw [List.length_append]; simp only [List.length_cons, List.length_nil]; omega)
        · refine Ev.neg c2 ((Ev.now _).eqr ?_)
          rw [if_neg (fun h => c2 h.2)]
          rfl
      · refine Ev.neg c1 ((Ev.now _).eqr ?_)
        rw [if_neg (fun h => c1 h.1)]
        rfl
theorem badOps_ev (n : Nat) (hn : n ≤ 20) (q : Int) : ∀ (d i : Nat) (s : ByteArray) (acc : List S148), i + d = n → s.size ≤ 4611686018427387904 → acc.length ≤ i → Ev (fun k => impl_ReadBatch.l0 k (n : Int) (i : Int) s true q acc) (0, [], false) := by
  intro d
  induction d with
  | zero =>
    intro i s acc hi hs ha
    refine Ev.step (fun k => impl_ReadBatch.l0.eq_2 ..) ?_
    exact Ev.neg (by omega) (Ev.bindS (whole_taken s true) (Ev.neg (by simp) (Ev.now _)))
  | succ d ih =>
    intro i s acc hi hs ha
    refine Ev.step (fun k => impl_ReadBatch.l0.eq_2 ..) ?_
    refine Ev.pos (by omega) ?_
    by_cases c : s.toList = []
    · exact Ev.pos c (Ev.now _)
    · have hz := ne_size c
      have hx : (s.extract 1 s.size).size = s.size - 1 := by rw [ByteArray.size_extract]; omega
      obtain ⟨t1, _⟩ := txtT_size (s.extract 1 s.size) true
      obtain ⟨u1, _⟩ := txtT_size (txtT (s.extract 1 s.size) true).2.1 true
      refine Ev.neg c (Ev.pos (by omega) (Ev.pos (by omega) (Ev.bind (text_taken _ true (by omega)) ?_)))
      rw [txtT_bad]
      refine Ev.bind (text_taken _ true (by omega)) ?_
      rw [txtT_bad, wsucc (by omega)]
      refine Ev.pos (by omega) ?_
      exact ih (i + 1) _ _ (by omega) (by omega) (by rw [List.length_append]; simp only [List.length_cons, List.length_nil]; omega)
theorem readOps_ev (n : Nat) (hn : n ≤ 20) (q : Int) : ∀ (d i : Nat) (s : ByteArray) (acc : List S148), i + d = n → s.size ≤ 4611686018427387904 → acc.length ≤ i → Ev (fun k => impl_ReadBatch.l0 k (n : Int) (i : Int) s false q acc) (rbEnd q (rbGo d s acc)) := by
  intro d
  induction d with
  | zero =>
    intro i s acc hi hs ha
    refine Ev.step (fun k => impl_ReadBatch.l0.eq_2 ..) ?_
    refine Ev.neg (by omega) (Ev.bindS (whole_taken s false) ?_)
    by_cases c : s.toList = []
    · refine Ev.pos (by simp [c]) (Ev.bind (batchOk_ev q acc (by omega)) ?_)
      by_cases cb : isB q acc
      · exact Ev.pos (decide_eq_true cb) ((Ev.now _).eqr (if_pos ⟨c, cb⟩).symm)
      · exact Ev.neg (by simpa using cb) ((Ev.now _).eqr (if_neg fun h => cb h.2).symm)
    · exact Ev.neg (by simpa using c) ((Ev.now _).eqr (if_neg fun h => c h.1).symm)
  | succ d ih =>
    intro i s acc hi hs ha
    refine Ev.step (fun k => impl_ReadBatch.l0.eq_2 ..) ?_
    refine Ev.pos (by omega) ?_
    unfold rbGo
    by_cases c : s.toList = []
    · rw [if_pos c]
      exact Ev.pos c (Ev.now _)
    · have hz := ne_size c
      have hx : (s.extract 1 s.size).size = s.size - 1 := by rw [ByteArray.size_extract]; omega
      obtain ⟨_, t1, t2, _⟩ := tt_range (s.extract 1 s.size)
      obtain ⟨_, u1, u2, _⟩ := tt_range (tt (s.extract 1 s.size)).2.1
      have hb := bt_range s 0
      rw [if_neg c]
      refine Ev.neg c (Ev.pos (by omega) (Ev.pos (by omega) (Ev.bind (text_taken _ false (by omega)) ?_)))
      by_cases c1 : (tt (s.extract 1 s.size)).2.2 = true
      · rw [txtT_good c1]
        refine Ev.bind (text_taken _ false (by simp only []; omega)) ?_
        by_cases c2 : (tt (tt (s.extract 1 s.size)).2.1).2.2 = true
        · simp only []
          rw [txtT_good c2]
          refine Ev.pos (by omega) ?_
          refine Ev.eqr ?_ (congrArg (rbEnd q) (if_pos ⟨c1, c2⟩).symm)
          rw [wsucc (by omega), wid (x := bt s 0) (by omega) (by omega)]
          simp only []
          refine ih (i + 1) _ _ ?_ ?_ ?_
          · omega
          · omega
          · rw [List.length_append]
            simp only [List.length_cons, List.length_nil]
            omega
        · simp only []
          rw [txtT_not c2]
          refine Ev.pos (by omega) ?_
          rw [wsucc (by omega)]
          simp only []
          rw [if_neg (fun h => c2 h.2)]
          refine badOps_ev n hn q d (i + 1) _ _ ?_ ?_ ?_
          · omega
          · omega
          · rw [List.length_append]
            simp only [List.length_cons, List.length_nil]
            omega
      · rw [txtT_not c1]
        obtain ⟨u1, _⟩ := txtT_size (s.extract 1 s.size) true
        refine Ev.bind (text_taken _ true (by simp only []; omega)) ?_
        simp only []
        rw [txtT_bad, wsucc (by omega)]
        refine Ev.pos (by omega) ?_
        rw [if_neg (fun h => c1 h.1)]
        refine badOps_ev n hn q d (i + 1) _ _ ?_ ?_ ?_
        · omega
        · have u2 := (txtT_size (txtT (s.extract 1 s.size) true).2.1 true).1
          have u3 := (txtT_size (s.extract 1 s.size) true).1
          have u4 := (txtT_size (s.extract 1 s.size) true).1
          omega
        · rw [List.length_append]
          simp only [List.length_cons, List.length_nil]
          omega
noncomputable def rbV (s : ByteArray) : Int × List S148 × Bool :=
  if (tv s).2.2 = true ∧ (tv (tv s).2.1).2.2 = true ∧ (tv s).1 ≤ 1000000000000 ∧ (tv (tv s).2.1).1 ≤ 20 then rbEnd (tv s).1 (rbGo (tv (tv s).2.1).1.toNat (tv (tv s).2.1).2.1 []) else (0, [], false)
theorem sReadBatch_ev (s : ByteArray) (hs : s.size ≤ 4611686018427387904) : Ev (fun k => spec_ReadBatch.f k s) (rbV s) := by
  obtain ⟨p0, p1, p2, _⟩ := tv_range s
  obtain ⟨q0, q1, q2, _⟩ := tv_range (tv s).2.1
  unfold spec_ReadBatch.f
  refine Ev.bind (sTakeVar_ev s hs) (Ev.bind (sTakeVar_ev _ (by omega)) ?_)
  have jt : ¬ ((tv s).2.2 = true ∧ (tv (tv s).2.1).2.2 = true ∧ (tv s).1 ≤ 1000000000000 ∧ (tv (tv s).2.1).1 ≤ 20) → Ev (fun k => spec_ReadBatch.j0 k (tv s).1 (tv (tv s).2.1).1 (tv (tv s).2.1).2.1 true) (rbV s) := fun h => by
    refine Ev.step (fun k => spec_ReadBatch.j0.eq_2 ..) ?_
    exact Ev.pos rfl ((Ev.now _).eqr (if_neg h).symm)
  by_cases c1 : (tv s).2.2 = true
  case neg => exact Ev.neg c1 (jt fun h => c1 h.1)
  refine Ev.pos c1 ?_
  by_cases c2 : (tv (tv s).2.1).2.2 = true
  case neg => exact Ev.neg c2 (jt fun h => c2 h.2.1)
  refine Ev.pos c2 ?_
  by_cases c3 : (tv s).1 > 1000000000000
  case pos => exact Ev.pos c3 (jt fun h => by omega)
  refine Ev.neg c3 ?_
  by_cases c4 : (tv (tv s).2.1).1 > 20
  · rw [decide_eq_true c4]
    exact jt fun h => by omega
  · rw [decide_eq_false c4]
    refine Ev.step (fun k => spec_ReadBatch.j0.eq_2 ..) ?_
    refine Ev.neg (by decide) ?_
    refine Ev.eqr ?_ (if_pos ⟨c1, c2, by omega, by omega⟩).symm
    have := sReadOps_ev (tv (tv s).2.1).1.toNat (by omega) (tv s).1 (tv (tv s).2.1).1.toNat 0 (tv (tv s).2.1).2.1 [] (by omega) (by omega) (by simp)
    rw [wid (by omega) (by omega)]
    rw [Int.toNat_of_nonneg q0] at this
    exact this
theorem isB_small {q : Int} {l : List S148} (h : isB q l) : q ≤ 999999999980 := h.2.1.2
theorem rbEnd_big {q : Int} (h : 1000000000000 < q) (o : Option (List S148 × ByteArray)) : rbEnd q o = (0, [], false) := by
  cases o with
  | none => rfl
  | some x => exact if_neg fun c => by have := isB_small c.2; omega
theorem readBatch_ev (s : ByteArray) (hs : s.size ≤ 4611686018427387904) : Ev (fun k => impl_ReadBatch.f k s) (rbV s) := by
  obtain ⟨p0, p1, p2, _⟩ := tv_range s
  obtain ⟨q0, q1, q2, _⟩ := tv_range (tv s).2.1
  have z1 := numT_size s false
  unfold impl_ReadBatch.f
  refine Ev.bind (number_taken s false hs) (Ev.bind (number_taken _ _ (by omega)) ?_)
  have jt : ∀ (n : Int) (r : ByteArray) (b : Bool) (q : Int), ¬ ((tv s).2.2 = true ∧ (tv (tv s).2.1).2.2 = true ∧ (tv s).1 ≤ 1000000000000 ∧ (tv (tv s).2.1).1 ≤ 20) → Ev (fun k => impl_ReadBatch.j0 k n true r b q) (rbV s) := fun n r b q h => by
    refine Ev.step (fun k => impl_ReadBatch.j0.eq_2 ..) ?_
    exact Ev.pos rfl ((Ev.now _).eqr (if_neg h).symm)
  by_cases c1 : (tv s).2.2 = true ∧ (tv s).1 ≤ 4611686018427387904
  case neg =>
    rw [numT_not c1]
    simp only []
    rw [numT_bad]
    exact Ev.pos rfl (jt _ _ _ _ fun h => c1 ⟨h.1, by omega⟩)
  rw [numT_good c1.1 c1.2]
  simp only []
  by_cases c2 : (tv (tv s).2.1).2.2 = true ∧ (tv (tv s).2.1).1 ≤ 4611686018427387904
  case neg =>
    rw [numT_not c2]
    exact Ev.pos rfl (jt _ _ _ _ fun h => c2 ⟨h.2.1, by omega⟩)
  rw [numT_good c2.1 c2.2]
  refine Ev.neg (by simp) ?_
  simp only []
  by_cases c4 : (tv (tv s).2.1).1 > 20
  · rw [decide_eq_true c4]
    exact jt _ _ _ _ fun h => by omega
  · rw [decide_eq_false c4]
    refine Ev.step (fun k => impl_ReadBatch.j0.eq_2 ..) ?_
    refine Ev.neg (by decide) ?_
    have := readOps_ev (tv (tv s).2.1).1.toNat (by omega) (tv s).1 (tv (tv s).2.1).1.toNat 0 (tv (tv s).2.1).2.1 [] (by omega) (by omega) (by simp)
    rw [Int.toNat_of_nonneg q0] at this
    by_cases c3 : (tv s).1 ≤ 1000000000000
    · exact this.eqr (if_pos ⟨c1.1, c2.1, c3, by omega⟩).symm
    · refine this.eqr ?_
      rw [rbEnd_big (by omega)]
      exact (if_neg fun h => c3 h.2.2.1).symm
theorem rbV_len (s : ByteArray) : (rbV s).2.1.length ≤ 20 := by
  unfold rbV
  split
  · rename_i c
    unfold rbEnd
    split
    · split
      · rename_i h h2
        exact h2.2.1.2
      · simp
    · simp
  · simp
end Go.Proofs.Ytidjdkodgddfcaa.Pure
end

section
namespace Go.Proofs.Ytidjdkodgddfcaa.Pure
open Go.RowKit Go.Proofs.YtidjdkodgddfcaaW.PrintWords Go.Proofs.YtidjdkodgddfcaaW.PrintLast Go.Proofs.YtidjdkodgddfcaaW.PrintMore
open Go.Proofs.Ytidjdkodgddfcaa.P
set_option linter.unusedVariables false
set_option linter.unusedSimpArgs false
theorem byteOk {l : List Int} (h1 : l.length ≤ 1048576) (h2 : ∀ x ∈ l, (Lit.int .u8 x).wf = true) : okc l := by
  refine ⟨by omega, fun x hx => ?_⟩
  have := h2 x hx
  simpa [Lit.wf, IntKind.min, IntKind.max, IntKind.signed, IntKind.bits] using this
theorem okp0 (l : List Int) : okp l 0 := ⟨by omega, by omega⟩
theorem rbGo_round : ∀ (l acc : List S148) (r : ByteArray), (∀ o ∈ l, (1 ≤ o.f1.size ∧ o.f1.size ≤ 40) ∧ o.f2.size ≤ 200 ∧ (o.f0 = 0 ∨ o.f0 = 1)) → rbGo l.length (opsText l ++ r) acc = some (acc ++ l, r)
  | [], acc, r, _ => by
    rw [List.append_nil, List.length_nil, rbGo, opsText, show (⟨#[]⟩ : ByteArray) ++ r = r from by apply ByteArray.ext; simp]
  | o :: os, acc, r, h => by
    obtain ⟨h1, h2, h3⟩ := h o (List.mem_cons_self ..)
    have e : opsText (o :: os) ++ r = strOfNums [o.f0 % 256] ++ (pt o.f1 ++ (pt o.f2 ++ (opsText os ++ r))) := by
      rw [opsText, opText]
      simp only [ba_assoc']
    have hm : o.f0 % 256 = o.f0 := by omega
    obtain ⟨f1, f2, f3⟩ := first_one (o.f0 % 256) (by omega) (pt o.f1 ++ (pt o.f2 ++ (opsText os ++ r)))
    have t1 := tt_pt o.f1 (pt o.f2 ++ (opsText os ++ r)) (by omega)
    have t2 := tt_pt o.f2 (opsText os ++ r) (by omega)
    rw [List.length_cons, e, rbGo, if_neg f3, f1, f2, t1]
    simp only []
    rw [t2, if_pos (by simp), hm]
    have ih := rbGo_round os (acc ++ [o]) r (fun x hx => h x (List.mem_cons_of_mem _ hx))
    rw [List.append_assoc] at ih
    exact ih
theorem rbGo_back : ∀ (d : Nat) (s : ByteArray) (acc ops : List S148) (r : ByteArray), rbGo d s acc = some (ops, r) → ∃ l, ops = acc ++ l ∧ l.length = d ∧ s = opsText l ++ r
  | 0, s, acc, ops, r, h => by
    rw [rbGo] at h
    injection h with h
    injection h with h1 h2
    exact ⟨[], by rw [List.append_nil]; exact h1.symm, rfl, by rw [h2, opsText]; apply ByteArray.ext; simp⟩
  | d + 1, s, acc, ops, r, h => by
    rw [rbGo] at h
    split at h
    · cases h
    rename_i c0
    split at h
    case isFalse => cases h
    rename_i c
    obtain ⟨l, h1, h2, h3⟩ := rbGo_back d _ _ _ _ h
    have hs : 1 ≤ s.size := by
      have : ¬ s.size = 0 := fun k => c0 ((toList_nil' s).2 k)
      omega
    have o1 := one_first s hs
    have hb := bt_range s 0
    have b1 := tt_back _ c.1
    have b2 := tt_back _ c.2
    refine ⟨⟨bt s 0, (tt (s.extract 1 s.size)).1, (tt (tt (s.extract 1 s.size)).2.1).1⟩ :: l, by rw [h1, List.append_assoc]; rfl, by rw [List.length_cons, h2], ?_⟩
    rw [opsText, opText]
    show s = strOfNums [bt s 0 % 256] ++ pt _ ++ pt _ ++ opsText l ++ r
    rw [show bt s 0 % 256 = bt s 0 from by omega]
    simp only [ba_assoc']
    rw [← h3, ← b2, ← b1]
    exact o1
theorem rbV_round {q : Int} {l : List S148} (h : isB q l) : rbV (batchT q l) = (q, l, true) := by
  have e : batchT q l = pv q.toNat ++ (pv l.length ++ (opsText l ++ (⟨#[]⟩ : ByteArray))) := by
    unfold batchT
    rw [ba_assoc', ba_nil']
  have h1 := h.1
  have h2 := h.2.1
  have a := tv_pv q.toNat (by omega) (pv l.length ++ (opsText l ++ (⟨#[]⟩ : ByteArray)))
  have b := tv_pv l.length (by omega) (opsText l ++ (⟨#[]⟩ : ByteArray))
  rw [Int.toNat_of_nonneg (by omega)] at a
  unfold rbV
  rw [e, a]
  simp only []
  rw [b]
  simp only []
  rw [if_pos ⟨by simp, by simp, by omega, by omega⟩, Int.toNat_natCast, rbGo_round l [] _ (isB_ops h)]
  unfold rbEnd
  exact if_pos ⟨(toList_nil' _).2 rfl, h⟩
theorem rbV_back (t : ByteArray) (h : (rbV t).2.2 = true) : isB (rbV t).1 (rbV t).2.1 ∧ batchT (rbV t).1 (rbV t).2.1 = t := by
  unfold rbV at h ⊢
  split at h
  case isFalse => cases h
  rename_i c
  rw [if_pos c]
  obtain ⟨c1, c2, c3, c4⟩ := c
  have b1 := tv_back _ c1
  have r1 := tv_range t
  generalize tv t = A at *
  have b2 := tv_back _ c2
  have r2 := tv_range A.2.1
  generalize tv A.2.1 = B at *
  cases hg : rbGo B.1.toNat B.2.1 [] with
  | none => rw [hg] at h; cases h
  | some x =>
    obtain ⟨ops, r⟩ := x
    obtain ⟨l, h1, h2, h3⟩ := rbGo_back _ _ _ _ _ hg
    rw [hg] at h
    unfold rbEnd at h ⊢
    simp only [] at h ⊢
    split at h
    case isFalse => cases h
    rename_i k
    rw [if_pos k]
    refine ⟨k.2, ?_⟩
    show batchT A.1 ops = t
    rw [List.nil_append] at h1
    subst h1
    have hr : r = (⟨#[]⟩ : ByteArray) := toList_inj (by rw [k.1, (toList_nil' _).2 rfl])
    rw [hr, ba_nil'] at h3
    rw [b1, b2, h3]
    unfold batchT
    rw [h2, ba_assoc']
theorem batchT_size {q : Int} {l : List S148} (h : isB q l) : (batchT q l).size ≤ 6020 := by
  have a := (pv_size (n := q.toNat) (by have := h.2.1; omega)).2
  have b := (pv_size (n := l.length) (by have := h.1; omega)).2
  have c : ∀ l : List S148, (∀ o ∈ l, (1 ≤ o.f1.size ∧ o.f1.size ≤ 40) ∧ o.f2.size ≤ 200 ∧ (o.f0 = 0 ∨ o.f0 = 1)) → (opsText l).size ≤ 300 * l.length := by
    intro l
    induction l with
    | nil => intro _; exact Nat.le_refl _
    | cons o os ih =>
      intro h
      have h1 := h o (List.mem_cons_self ..)
      have := ih (fun x hx => h x (List.mem_cons_of_mem _ hx))
      have := opText_size o h1.1.2 h1.2.1
      rw [opsText, ByteArray.size_append, List.length_cons]
      omega
  have := c l (isB_ops h)
  have := h.1
  unfold batchT
  rw [ByteArray.size_append, ByteArray.size_append]
  omega
theorem entsFrom_len (q : Int) : ∀ (i : Nat) (l : List S148), (entsFrom q i l).length = l.length
  | _, [] => rfl
  | i, o :: os => by
    rw [entsFrom, List.length_cons, List.length_cons, entsFrom_len q (i + 1) os]
theorem entsFrom_seq (q : Int) (hq : 1 ≤ q ∧ q ≤ 999999999980) : ∀ (i : Nat) (l : List S148), i + l.length ≤ 20 → (∀ x ∈ entsFrom q i l, q + (i : Int) ≤ x.f0.f1) ∧ (entsFrom q i l).Pairwise fun x y => x.f0.f1 < y.f0.f1
  | _, [], _ => ⟨fun x hx => (by cases hx), List.Pairwise.nil⟩
  | i, o :: os, h => by
    rw [List.length_cons] at h
    obtain ⟨h1, h2⟩ := entsFrom_seq q hq (i + 1) os (by omega)
    have e : (entOf q i o).f0.f1 = q + (i : Int) := wid (by omega) (by omega)
    rw [entsFrom]
    refine ⟨fun x hx => ?_, List.Pairwise.cons (fun x hx => ?_) h2⟩
    · rcases List.mem_cons.1 hx with hx | hx
      · rw [hx, e]; exact Int.le_refl _
      · have := h1 x hx
        omega
    · have := h1 x hx
      rw [e]
      omega
theorem pairwise_row {l : List S64} (h1 : ∀ x ∈ l, isEx x) (h2 : l.Pairwise fun x y => ecmp x y < 0) : rowFrom l 0 := by
  intro j _ hl
  refine ⟨h1 _ (List.getElem_mem _), fun h0 => ?_⟩
  exact List.pairwise_iff_getElem.1 h2 (j - 1) j (by omega) hl (by omega)
theorem sorted_row {q : Int} {l : List S148} (h : isB q l) : isRow (srt ecmp (entsFrom q 0 l)) ∧ (srt ecmp (entsFrom q 0 l)).length = l.length := by
  have hl : (srt ecmp (entsFrom q 0 l)).length = l.length := by rw [srt_len, entsFrom_len]
  have hp := srt_perm ecmp_ord (entsFrom q 0 l)
  have hs := srt_sorted ecmp_ord (entsFrom q 0 l)
  have hd := (entsFrom_seq q h.2.1 0 l (by have := h.1; omega)).2
  have hd2 : (srt ecmp (entsFrom q 0 l)).Pairwise fun x y => x.f0 ≠ y.f0 := by
    refine (hp.symm.pairwise_iff ?_).1 (hd.imp ?_)
    · intro a b hab e
      exact hab e.symm
    · intro a b hab e
      rw [e] at hab
      omega
  refine ⟨⟨by have := h.1; omega, pairwise_row (fun x hx => h.2.2 x (hp.mem_iff.1 hx)) ?_⟩, hl⟩
  refine (hs.and hd2).imp fun {x y} hxy => ?_
  exact Classical.byContradiction fun k => hxy.2 (ecmp_zero x y k hxy.1)
theorem dop_ev {l : List Int} {p : Int} (h : okc l) (hp : okp l p) : ∃ r, Ev (fun k => spec_l1Rd_op.f k l p) r ∧ okp l r.2.2.2 := by
  unfold spec_l1Rd_op.f
  obtain ⟨a, ha, _, ha2⟩ := below_ev h hp 3 (by omega)
  obtain ⟨b, hb, _, hb2⟩ := duser_ev h ha2
  obtain ⟨c, hc, _, hc2⟩ := dvalue_ev h hb2
  have jt : ∀ (x : Int) (u v : ByteArray), ∃ r, Ev (fun k => spec_l1Rd_op.j0 k l c.2 x u v) r ∧ okp l r.2.2.2 := by
    intro x u v
    obtain ⟨d, hd, hd2⟩ := once_ev h hc2 30 (by omega)
    by_cases c0 : d.1 = true
    · obtain ⟨e, he, _, he2⟩ := off_ev h hd2 0 1 (by omega) (by omega) (by omega)
      obtain ⟨f, hf, _, hf2⟩ := bytes_ev h he2 44 (by omega) (by omega)
      obtain ⟨g, hg, _, hg2⟩ := bytes_ev h hf2 9 (by omega) (by omega)
      exact ⟨_, Ev.step (fun k => spec_l1Rd_op.j0.eq_2 ..) (Ev.bindS hd (Ev.pos c0 (Ev.bind he (Ev.bind hf (Ev.bind hg (Ev.now _)))))), hg2⟩
    · exact ⟨_, Ev.step (fun k => spec_l1Rd_op.j0.eq_2 ..) (Ev.bindS hd (Ev.neg c0 (Ev.now _))), hd2⟩
  by_cases c0 : Int.tmod a.1 2 = 0
  · obtain ⟨r, hr, hr2⟩ := jt (Int.tmod a.1 2) b.1 ⟨#[]⟩
    exact ⟨r, Ev.bindS ha (Ev.bindS hb (Ev.bindS hc (Ev.pos c0 hr))), hr2⟩
  · obtain ⟨r, hr, hr2⟩ := jt (Int.tmod a.1 2) b.1 c.1
    exact ⟨r, Ev.bindS ha (Ev.bindS hb (Ev.bindS hc (Ev.neg c0 hr))), hr2⟩
theorem dops_ev {l : List Int} {p : Int} (h : okc l) (hp : okp l p) : ∃ r, Ev (fun k => spec_l1Rd_ops.f k l p) r ∧ r.1.length ≤ 10 ∧ okp l r.2 := by
  have key : ∀ (i : Nat) (acc : List S148) (p : Int), acc.length + i ≤ 10 → okp l p → ∃ r, Ev (fun k => spec_l1Rd_ops.l0 k acc (i : Int) l p) r ∧ r.1.length ≤ 10 ∧ okp l r.2 := by
    intro i
    induction i with
    | zero =>
      intro acc p ha hp
      obtain ⟨d, hd, hd2⟩ := once_ev h hp 30 (by omega)
      by_cases c0 : d.1 = true
      · exact ⟨_, Ev.step (fun k => spec_l1Rd_ops.l0.eq_2 ..) (Ev.neg (by omega) (Ev.bindS hd (Ev.pos c0 (Ev.now _)))), by simp, hd2⟩
      · exact ⟨_, Ev.step (fun k => spec_l1Rd_ops.l0.eq_2 ..) (Ev.neg (by omega) (Ev.bindS hd (Ev.neg c0 (Ev.now _)))), by simpa using ha, hd2⟩
    | succ i ih =>
      intro acc p ha hp
      obtain ⟨a, ha', ha2⟩ := dop_ev h hp
      obtain ⟨r, hr, hr1, hr2⟩ := ih (acc ++ [⟨a.1, a.2.1, a.2.2.1⟩]) a.2.2.2 (by simp only [List.length_append, List.length_cons, List.length_nil]; omega) ha2
      refine ⟨r, Ev.step (fun k => spec_l1Rd_ops.l0.eq_2 ..) (Ev.pos (by omega) (Ev.bind ha' (Ev.pos (by omega) ?_))), hr1, hr2⟩
      rw [wid (by omega) (by omega), show (((i + 1 : Nat) : Int) - 1) = (i : Int) from by omega]
      exact hr
  obtain ⟨a, ha, ha1, ha2⟩ := below_ev h hp 4 (by omega)
  obtain ⟨r, hr, hr1, hr2⟩ := key (1 + a.1.toNat) [] a.2 (by simp; omega) ha2
  refine ⟨r, ?_, hr1, hr2⟩
  unfold spec_l1Rd_ops.f
  rw [show ((1 + a.1.toNat : Nat) : Int) = wrap64 (1 + a.1) from by rw [wid (by omega) (by omega)]; omega] at hr
  exact Ev.bindS ha hr
theorem dbatch_ev {l : List Int} {p : Int} (h : okc l) (hp : okp l p) : ∃ r, Ev (fun k => spec_l1Rd_batch.f k l p) r ∧ r.2.1.length ≤ 10 ∧ okp l r.2.2 := by
  unfold spec_l1Rd_batch.f
  obtain ⟨a, ha, ha1, ha2⟩ := near_ev h hp 0 20 (by omega) (by omega) (by omega)
  obtain ⟨b, hb, hb1, hb2⟩ := dops_ev h ha2
  exact ⟨_, Ev.bind ha (Ev.bind hb (Ev.now _)), hb1, hb2⟩
theorem drawBatch_ev {l : List Int} (h : okc l) : ∃ r, Ev (fun k => spec_DrawBatchText.f k l) r ∧ r.2.length ≤ 10 := by
  obtain ⟨b, hb, hb1, hb2⟩ := dbatch_ev h (okp0 l)
  obtain ⟨c, hc, hc2⟩ := once_ev h hb2 10 (by omega)
  have : ∃ r, Ev (fun k => spec_DrawBatchOk.f k l) r ∧ r.2.length ≤ 10 := by
    unfold spec_DrawBatchOk.f
    by_cases c0 : c.1 = true
    · obtain ⟨d, hd, _, hd2⟩ := off_ev h hc2 1 999999999980 (by omega) (by omega) (by omega)
      exact ⟨_, Ev.bindS rfl (Ev.bind hb (Ev.bindS hc (Ev.pos c0 (Ev.bind hd (Ev.now _))))), hb1⟩
    · exact ⟨_, Ev.bindS rfl (Ev.bind hb (Ev.bindS hc (Ev.neg c0 (Ev.now _)))), hb1⟩
  obtain ⟨r, hr, hr1⟩ := this
  exact ⟨_, Ev.bind hr (Ev.now _), hr1⟩
theorem btV_size (q : Int) (l : List S148) : (if isB q l then batchT q l else ⟨#[]⟩ : ByteArray).size ≤ 6020 := by
  split
  · exact batchT_size (by assumption)
  · exact Nat.zero_le _
theorem drawRBatch_ev {l : List Int} (h : okc l) : ∃ r : ByteArray, Ev (fun k => spec_DrawReadBatch.f k l) r ∧ r.size ≤ 1048576 := by
  obtain ⟨v, hv, hl, hp⟩ := dbatch_ev h (okp0 l)
  have ht := sBatchText_ev v.1 v.2.1 (by omega)
  have hz := btV_size v.1 v.2.1
  generalize (if isB v.1 v.2.1 then batchT v.1 v.2.1 else ⟨#[]⟩ : ByteArray) = t at ht hz
  obtain ⟨a, ha, ha1, ha2⟩ := below_ev h hp 6 (by omega)
  unfold spec_DrawReadBatch.f
  by_cases c0 : a.1 = 0
  · obtain ⟨b, hb, hb1, hb2⟩ := bytes_ev h ha2 2 (by omega) (by omega)
    refine ⟨_, Ev.bindS rfl (Ev.bind hv (Ev.bind ht (Ev.bindS ha (Ev.pos c0 (Ev.bind hb (Ev.pos (by omega) (Ev.now _))))))), ?_⟩
    rw [ByteArray.size_append]
    omega
  by_cases c1 : a.1 = 1
  · have hw : wrap64 ((t.size : Int) + 1) = (t.size : Int) + 1 := wid (by omega) (by omega)
    obtain ⟨i, hi, hi1, hi2⟩ := below_ev h ha2 ((t.size : Int) + 1) (by omega)
    rw [← hw] at hi
    refine ⟨t.extract 0 i.1.toNat, Ev.bindS rfl (Ev.bind hv (Ev.bind ht (Ev.bindS ha (Ev.neg c0 (Ev.pos c1 (Ev.bindS hi (Ev.pos hi1.1 (Ev.pos (by omega) (Ev.now _))))))))), ?_⟩
    rw [ByteArray.size_extract]
    omega
  by_cases c3 : a.1 = 2
  · obtain ⟨b, hb, hb1, hb2⟩ := bytes_ev h ha2 9 (by omega) (by omega)
    exact ⟨b.1, Ev.bindS rfl (Ev.bind hv (Ev.bind ht (Ev.bindS ha (Ev.neg c0 (Ev.neg c1 (Ev.pos c3 (Ev.bind hb (Ev.now _)))))))), by omega⟩
  · exact ⟨t, Ev.bindS rfl (Ev.bind hv (Ev.bind ht (Ev.bindS ha (Ev.neg c0 (Ev.neg c1 (Ev.neg c3 (Ev.now _))))))), by omega⟩
theorem rbV_empty : (rbV ⟨#[]⟩).2.2 = false := by
  cases h : (rbV ⟨#[]⟩).2.2 with
  | false => rfl
  | true =>
    obtain ⟨h1, h2⟩ := rbV_back _ h
    have := congrArg ByteArray.size h2
    have a := (pv_size (n := (rbV ⟨#[]⟩).1.toNat) (by have := h1.2.1; omega)).1
    unfold batchT at this
    rw [ByteArray.size_append, ByteArray.size_append, empty_size] at this
    omega
theorem batchEntries_ev (q : Int) (l : List S148) (hl : l.length ≤ 10) : Ev (fun k => impl_BatchEntries.f k q l) (if isB q l then srt ecmp (entsFrom q 0 l) else []) := by
  unfold impl_BatchEntries.f
  refine Ev.bind (batchOk_ev q l (by omega)) ?_
  by_cases c : isB q l
  · rw [if_pos c]
    refine Ev.pos (decide_eq_true c) (Ev.bind (entries_ev q l (by omega)) (Ev.bindS (show impl_ordered.f _ = some _ from if_pos (by rw [entsFrom_len]; omega)) (Ev.now _)))
  · rw [if_neg c]
    exact Ev.neg (by simpa using c) (Ev.now _)
theorem FnBatches : laws_FnBatches.Pure := by
  intro l _ _ hb
  refine Ev.rounds (g := fun k => laws_FnBatches.f k l) ?_
  unfold laws_FnBatches.f
  refine Ev.bindS (a := decide ((l.length : Int) > 1048576)) rfl ?_
  by_cases big : (l.length : Int) > 1048576
  · exact Ev.pos (decide_eq_true big) (Ev.now _)
  have hc := byteOk (l := l) (by omega) hb
  refine Ev.neg (by simpa using big) ?_
  have second : Ev (fun k => laws_FnBatches.j1 k l false) true := by
    refine Ev.step (fun k => laws_FnBatches.j1.eq_2 ..) ?_
    refine Ev.neg (by decide) ?_
    obtain ⟨t, ht, htz⟩ := drawRBatch_ev hc
    have h1 := readBatch_ev t (by omega)
    have h2 := sReadBatch_ev t (by omega)
    have hbk := rbV_back t
    have hln := rbV_len t
    generalize rbV t = v at h1 h2 hbk hln
    refine Ev.bind ht (Ev.bind h1 (Ev.bind h2 (Ev.pos (by simp) ?_)))
    by_cases c : v.2.2 = true
    · obtain ⟨k1, k2⟩ := hbk c
      refine Ev.pos c (Ev.bind (batchText_ev _ _ (by omega)) ((Ev.now _).eqr ?_))
      rw [if_pos k1, k2]
      simp
    · exact Ev.neg c (Ev.now _)
  obtain ⟨d, hd, hd1⟩ := drawBatch_ev hc
  obtain ⟨q, ops⟩ := d
  simp only [] at hd1
  have h1 := batchText_ev q ops (by omega)
  have h2 := sBatchText_ev q ops (by omega)
  have he := batchEntries_ev q ops hd1
  have hok := batchOk_ev q ops (by omega)
  by_cases cv : isB q ops
  · rw [if_pos cv] at h1 h2 he
    rw [decide_eq_true cv] at hok
    have hr := readBatch_ev (batchT q ops) (by have := batchT_size cv; omega)
    rw [rbV_round cv] at hr
    obtain ⟨s1, s2⟩ := sorted_row cv
    refine Ev.bind hd (Ev.bind h1 (Ev.bind hr (Ev.bind h2 (Ev.pos rfl (Ev.bind hok (Ev.neg (by simp) (Ev.pos rfl (Ev.pos rfl (Ev.bind (sameOps_self ops (by omega)) ?_)))))))))
    refine Ev.step (fun k => laws_FnBatches.j0.eq_2 ..) ?_
    refine Ev.neg (by simp) (Ev.bind he (Ev.pos rfl (Ev.pos (by rw [s2]) (Ev.bind (entriesOk_ev _ (by omega)) (Ev.pos (decide_eq_true s1) (Ev.neg (by have := batchT_size cv; omega) second))))))
  · rw [if_neg cv] at h1 h2 he
    rw [decide_eq_false cv] at hok
    have hr := readBatch_ev ⟨#[]⟩ (by rw [empty_size]; omega)
    have hz := rbV_empty
    generalize rbV ⟨#[]⟩ = v at hr hz
    refine Ev.bind hd (Ev.bind h1 (Ev.bind hr (Ev.bind h2 (Ev.pos rfl (Ev.bind hok (Ev.neg (by rw [hz]; decide) (Ev.neg (by rw [hz]; decide) ?_)))))))
    refine Ev.step (fun k => laws_FnBatches.j0.eq_2 ..) ?_
    refine Ev.neg (by decide) (Ev.bind he (Ev.neg (by rw [hz]; decide) ?_))
    exact second
end Go.Proofs.Ytidjdkodgddfcaa.Pure
end
