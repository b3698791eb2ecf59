/- Proved: the law FnFilterTexts of the given program returns true for every input of its Go types and leaves each argument as it was; no condition. (Part 9 of 11.) -/
import Derived.Test.YtedgdnkbojjbmaaCFnFilterTexts4
import Derived.Test.YtedgdnkbojjbmaaCFnFilterTexts6
import Derived.Test.YtedgdnkbojjbmaaCFnFilterTexts7
import Derived.Lib.EndianBits
import Derived.Test.YtedgdnkbojjbmaaCFnFilterTexts5
section
namespace Go.Proofs.Ytedgdnkbojjbmaa.P
open Go.RowKit Go.Proofs.YtedgdnkbojjbmaaW.PrintWords Go.Proofs.YtedgdnkbojjbmaaW.PrintLast Go.Proofs.YtedgdnkbojjbmaaW.PrintMore
attribute [local go_sem] str_gtr str_leq str_geq max2_int min2_int max_two min_two max_three min_three max_four min_four
set_option linter.unusedVariables false
set_option linter.unusedSimpArgs false
def pvl (n : Nat) : List Int := if n < 128 then [(n : Int)] else ((n % 128 + 128 : Nat) : Int) :: pvl (n / 128)
termination_by n
decreasing_by omega
def pv (n : Nat) : ByteArray := strOfNums (pvl n)
theorem pvl_small {n : Nat} (h : n < 128) : pvl n = [(n : Int)] := by rw [pvl, if_pos h]
theorem pvl_big {n : Nat} (h : ¬ n < 128) : pvl n = ((n % 128 + 128 : Nat) : Int) :: pvl (n / 128) := by rw [pvl, if_neg h]
theorem pvl_range (n : Nat) : ∀ x ∈ pvl n, 0 ≤ x ∧ x < 256 := by
  induction n using Nat.strongRecOn with
  | _ n ih =>
    by_cases h : n < 128
    · rw [pvl_small h]
      intro x hx
      rw [List.mem_singleton] at hx
      omega
    · rw [pvl_big h]
      intro x hx
      rcases List.mem_cons.1 hx with rfl | hx
      · omega
      · exact ih (n / 128) (by omega) x hx
theorem pvl_len (d : Nat) : ∀ n, n < 128 ^ (d + 1) → 1 ≤ (pvl n).length ∧ (pvl n).length ≤ d + 1 := by
  induction d with
  | zero =>
    intro n h
    rw [pvl_small (by simpa using h)]
    simp
  | succ d ih =>
    intro n h
    by_cases c : n < 128
    · rw [pvl_small c]
      simp
    · rw [pvl_big c, List.length_cons]
      have := ih (n / 128) (Nat.div_lt_of_lt_mul (by rw [Nat.pow_succ, Nat.mul_comm] at h; exact h))
      omega
theorem pv_size {n : Nat} (h : n < 18446744073709551616) : 1 ≤ (pv n).size ∧ (pv n).size ≤ 10 := by
  have e : (pv n).size = (pvl n).length := by unfold pv strOfNums; simp [ByteArray.size]
  rw [e]
  exact pvl_len 9 n (by omega)
theorem or128 : ∀ x : Fin 256, Go.bits .or .u8 ((x.val : Nat) : Int) 128 = ((x.val % 128 + 128 : Nat) : Int) := by decide +kernel
theorem and127 : ∀ x : Fin 256, Go.bits .and .u8 ((x.val : Nat) : Int) 127 = ((x.val % 128 : Nat) : Int) := by decide +kernel
theorem putVar_ev (n : Nat) (h : n < 18446744073709551616) : Ev (fun k => impl_PutVar.f k (n : Int)) (pv n) := by
  have key : ∀ (d n : Nat) (acc : List Int), n < 128 ^ (d + 1) → acc.length + d ≤ 100 → Ev (fun k => impl_PutVar.l0 k (n : Int) acc) (strOfNums (acc ++ pvl n)) := by
    intro d
    induction d with
    | zero =>
      intro n acc hn ha
      have hn' : n < 128 := by simpa using hn
      rw [pvl_small hn']
      refine Ev.step (fun k => rfl) (Ev.neg (by omega) (Ev.pos (by omega) ?_))
      rw [Int.emod_eq_of_lt (by omega) (by omega)]
      exact Ev.now _
    | succ d ih =>
      intro n acc hn ha
      by_cases c : n < 128
      · rw [pvl_small c]
        refine Ev.step (fun k => rfl) (Ev.neg (by omega) (Ev.pos (by omega) ?_))
        rw [Int.emod_eq_of_lt (by omega) (by omega)]
        exact Ev.now _
      · rw [pvl_big c]
        refine Ev.step (fun k => rfl) (Ev.pos (by omega) (Ev.pos (by omega) ?_))
        have e : Go.bits .or .u8 ((n : Int) % 256) 128 = ((n % 128 + 128 : Nat) : Int) := by
          have := or128 ⟨n % 256, by omega⟩
          simp only at this
          rw [show ((n : Int) % 256) = ((n % 256 : Nat) : Int) from by omega, this]
          omega
        rw [e, show ((n : Int) / 128) = ((n / 128 : Nat) : Int) from by omega]
        refine (ih (n / 128) _ (Nat.div_lt_of_lt_mul (by rw [Nat.pow_succ, Nat.mul_comm] at hn; exact hn)) (by rw [List.length_append]; simp; omega)).eqr ?_
        rw [List.append_assoc]
        rfl
  have := key 9 n [] (by omega) (by simp)
  rw [List.nil_append] at this
  exact this
theorem sPutVar_ev (n : Nat) (h : n < 18446744073709551616) : Ev (fun k => spec_PutVar.f k (n : Int)) (pv n) := by
  have key : ∀ (d n : Nat) (acc : List Int), n < 18446744073709551616 → n < 128 ^ (d + 1) → acc.length + d ≤ 100 → Ev (fun k => spec_PutVar.l0 k (n : Int) acc) (strOfNums (acc ++ pvl n)) := by
    intro d
    induction d with
    | zero =>
      intro n acc h hn ha
      have hn' : n < 128 := by simpa using hn
      rw [pvl_small hn']
      refine Ev.step (fun k => rfl) (Ev.neg (by omega) (Ev.pos (by omega) ?_))
      rw [Int.emod_eq_of_lt (by omega) (by omega)]
      exact Ev.now _
    | succ d ih =>
      intro n acc h hn ha
      by_cases c : n < 128
      · rw [pvl_small c]
        refine Ev.step (fun k => rfl) (Ev.neg (by omega) (Ev.pos (by omega) ?_))
        rw [Int.emod_eq_of_lt (by omega) (by omega)]
        exact Ev.now _
      · rw [pvl_big c]
        refine Ev.step (fun k => rfl) (Ev.pos (by omega) (Ev.pos (by omega) ?_))
        have e : (IntKind.u64.wrap ((Int.tmod (n : Int) 128) + 128)) % 256 = ((n % 128 + 128 : Nat) : Int) := by
          rw [Int.tmod_eq_emod_of_nonneg (by omega), uid (by omega) (by omega)]
          omega
        have e2 : IntKind.u64.wrap (Int.tdiv (n : Int) 128) = ((n / 128 : Nat) : Int) := by
          rw [Int.tdiv_eq_ediv_of_nonneg (by omega), uid (by omega) (by omega)]
          omega
        rw [e, e2]
        refine (ih (n / 128) _ (by omega) (Nat.div_lt_of_lt_mul (by rw [Nat.pow_succ, Nat.mul_comm] at hn; exact hn)) (by rw [List.length_append]; simp; omega)).eqr ?_
        rw [List.append_assoc]
        rfl
  have := key 9 n [] h (by omega) (by simp)
  rw [List.nil_append] at this
  exact this
theorem putInt_ev (n : Nat) (h : n < 9223372036854775808) : Ev (fun k => impl_putInt.f k (n : Int)) (pv n) := by
  unfold impl_putInt.f
  rw [uid (by omega) (by omega)]
  exact Ev.bind (putVar_ev n (by omega)) (Ev.now _)
def pt (s : ByteArray) : ByteArray := pv s.size ++ s
theorem putText_ev (t : ByteArray) (h : t.size ≤ 4611686018427387904) : Ev (fun k => impl_PutText.f k t) (pt t) := by
  unfold impl_PutText.f
  rw [uid (by omega) (by omega)]
  have := (pv_size (n := t.size) (by omega)).2
  exact Ev.bind (putVar_ev t.size (by omega)) (Ev.pos (by omega) (Ev.now _))
theorem sPutText_ev (t : ByteArray) (h : t.size ≤ 4611686018427387904) : Ev (fun k => spec_PutText.f k t) (pt t) := by
  unfold spec_PutText.f
  rw [uid (by omega) (by omega)]
  have := (pv_size (n := t.size) (by omega)).2
  exact Ev.bind (sPutVar_ev t.size (by omega)) (Ev.pos (by omega) (Ev.now _))
theorem pt_size (t : ByteArray) (h : t.size ≤ 4611686018427387904) : t.size + 1 ≤ (pt t).size ∧ (pt t).size ≤ t.size + 10 := by
  have := pv_size (n := t.size) (by omega)
  unfold pt
  rw [ByteArray.size_append]
  omega
def tvGo (s : ByteArray) : Nat → Nat → Int → Int × ByteArray × Bool
  | 0, _, _ => (0, ⟨#[]⟩, false)
  | d + 1, i, acc => if i < s.size then
      (if i = 9 ∧ 1 < bt s i then (0, ⟨#[]⟩, false)
      else if bt s i < 128 then (if 0 < i ∧ bt s i = 0 then (0, ⟨#[]⟩, false) else (acc + bt s i * 128 ^ i, s.extract (i + 1) s.size, true))
      else tvGo s d (i + 1) (acc + (bt s i - 128) * 128 ^ i))
    else (0, ⟨#[]⟩, false)
def tv (s : ByteArray) : Int × ByteArray × Bool := tvGo s 10 0 0
theorem or_step (i : Nat) (hi : i < 10) (acc b : Int) (h0 : 0 ≤ acc) (h1 : acc < 128 ^ i) (b0 : 0 ≤ b) (b1 : b < 128) (b2 : i = 9 → b < 2) :
    Go.bits .or .u64 acc (shl .u64 b (7 * (i : Int))) = acc + b * 128 ^ i := by
  have hp : (128 : Int) ^ i = 2 ^ (7 * i) := by rw [Int.pow_mul]; rfl
  have hpos : (0 : Int) < 128 ^ i := Int.pow_pos (by decide)
  have hlt : b * 128 ^ i < 2 ^ 64 := by
    by_cases c : i = 9
    · subst c
      have := b2 rfl
      have : b * 128 ^ 9 ≤ 1 * 128 ^ 9 := Int.mul_le_mul_of_nonneg_right (by omega) (by decide)
      omega
    · have h8 : (128 : Int) ^ i ≤ 128 ^ 8 := by
        have : (128 : Nat) ^ i ≤ 128 ^ 8 := Nat.pow_le_pow_right (by decide) (by omega)
        exact_mod_cast this
      have : b * 128 ^ i ≤ 127 * 128 ^ 8 := Int.mul_le_mul (by omega) h8 (by omega) (by decide)
      omega
  have hnn : 0 ≤ b * 128 ^ i := Int.mul_nonneg b0 (by omega)
  have hs : shl .u64 b (7 * (i : Int)) = b * 128 ^ i := by
    unfold shl
    rw [show min (7 * (i : Int)).toNat IntKind.u64.bits = 7 * i from by simp only [IntKind.bits]; omega, ← hp]
    exact wraps_u64 _ hnn hlt
  rw [hs]
  refine bits_join_low .u64 64 (by decide) wraps_u64 (7 * i) acc _ h0 (by rw [← hp]; exact h1) ?_ hnn (by rw [← hp]; exact Int.mul_emod_left _ _) hlt
  have : (128 : Int) ^ i ≤ 128 ^ 9 := by
    have : (128 : Nat) ^ i ≤ 128 ^ 9 := Nat.pow_le_pow_right (by decide) (by omega)
    exact_mod_cast this
  omega
theorem wrap7 (i : Nat) (h : i < 1000) : wrap64 (7 * (i : Int)) = 7 * (i : Int) := wid (by omega) (by omega)
theorem and127' (b : Int) (h0 : 0 ≤ b) (h1 : b ≤ 255) : Go.bits .and .u8 b 127 = b % 128 := by
  have := and127 ⟨b.toNat, by omega⟩
  simp only at this
  rw [show b = ((b.toNat : Nat) : Int) from by omega, this]
  omega
theorem sTakeVar_ev (s : ByteArray) (hs : s.size ≤ 4611686018427387904) : Ev (fun k => spec_TakeVar.f k s) (tv s) := by
  have key : ∀ (d i : Nat) (acc : Int), i + d = 10 → 0 ≤ acc → acc < 128 ^ i → Ev (fun k => spec_TakeVar.l0 k s acc (i : Int)) (tvGo s d i acc) := by
    intro d
    induction d with
    | zero =>
      intro i acc hi _ _
      obtain rfl : i = 10 := by omega
      refine Ev.step (fun k => spec_TakeVar.l0.eq_2 ..) ?_
      by_cases c : ((10 : Nat) : Int) < (s.size : Int)
      · refine Ev.pos c (Ev.step (fun k => spec_TakeVar.j1.eq_2 ..) ?_)
        exact Ev.neg (by decide) (Ev.now _)
      · refine Ev.neg c (Ev.step (fun k => spec_TakeVar.j1.eq_2 ..) ?_)
        exact Ev.neg (by decide) (Ev.now _)
    | succ d ih =>
      intro i acc hi h0 h1
      unfold tvGo
      by_cases c : i < s.size
      · refine Ev.eqr ?_ (if_pos c).symm
        obtain ⟨r0, r1⟩ := bt_range s (i : Int)
        have hg : (IntKind.u64.wrap (Int.tmod (bt s (i : Int)) 128)) = bt s (i : Int) % 128 := by
          rw [Int.tmod_eq_emod_of_nonneg r0, uid (by omega) (by omega)]
        have hw7 : IntKind.u64.wrap (wrap64 (7 * (i : Int))) = 7 * (i : Int) := by rw [wrap7 i (by omega), uid (by omega) (by omega)]
        have hsucc : wrap64 ((i : Int) + 1) = ((i + 1 : Nat) : Int) := wsucc (by omega)
        have hn : (((i + 1 : Nat) : Int)).toNat = i + 1 := Int.toNat_natCast _
        have hpow : (128 : Int) ^ (i + 1) = 128 ^ i * 128 := Int.pow_succ 128 i
        have hpos : (0 : Int) < 128 ^ i := Int.pow_pos (by decide)
        refine Ev.step (fun k => spec_TakeVar.l0.eq_2 ..) (Ev.pos (by omega) ?_)
        refine Ev.step (fun k => spec_TakeVar.j1.eq_2 ..) ?_
        refine Ev.pos (decide_eq_true (by omega)) (Ev.pos (by omega) (Ev.pos (by omega) ?_))
        rw [hg]
        have main : (i = 9 → bt s (i : Int) % 128 < 2) → Ev (fun k => spec_TakeVar.j2 k s acc (i : Int) (bt s (i : Int) % 128) false) (if bt s (i : Int) < 128 then (if 0 < i ∧ bt s (i : Int) = 0 then ((0 : Int), (⟨#[]⟩ : ByteArray), false) else (acc + bt s (i : Int) * 128 ^ i, s.extract (i + 1) s.size, true)) else tvGo s d (i + 1) (acc + (bt s (i : Int) - 128) * 128 ^ i)) := by
          intro h9
          have hor := or_step i (by omega) acc (bt s (i : Int) % 128) h0 h1 (by omega) (by omega) (by omega)
          refine Ev.step (fun k => spec_TakeVar.j2.eq_2 ..) (Ev.neg (by decide) ?_)
          rw [hw7, hor, hsucc, hn]
          refine Ev.pos (by omega) (Ev.pos (by omega) (Ev.pos (by omega) ?_))
          by_cases c2 : bt s (i : Int) < 128
          · refine Ev.eqr ?_ (if_pos c2).symm
            rw [show bt s (i : Int) % 128 = bt s (i : Int) from by omega]
            refine Ev.pos c2 ?_
            by_cases cz : bt s (i : Int) = 0
            · by_cases ci : 0 < i
              · refine Ev.eqr ?_ (if_pos ⟨ci, cz⟩).symm
                exact Ev.pos (by omega) (Ev.pos cz (Ev.now _))
              · refine Ev.eqr ?_ (if_neg (fun h => ci h.1)).symm
                exact Ev.neg (by omega) (Ev.pos (by omega) (Ev.pos (by omega) (Ev.now _)))
            · refine Ev.eqr ?_ (if_neg (fun h => cz h.2)).symm
              by_cases ci : 0 < i
              · exact Ev.pos (by omega) (Ev.neg cz (Ev.pos (by omega) (Ev.pos (by omega) (Ev.now _))))
              · exact Ev.neg (by omega) (Ev.pos (by omega) (Ev.pos (by omega) (Ev.now _)))
          · refine Ev.eqr ?_ (if_neg c2).symm
            rw [show bt s (i : Int) % 128 = bt s (i : Int) - 128 from by omega]
            refine Ev.neg c2 ?_
            have hm : (bt s (i : Int) - 128) * 128 ^ i ≤ 127 * 128 ^ i := Int.mul_le_mul_of_nonneg_right (by omega) (by omega)
            have hm0 : 0 ≤ (bt s (i : Int) - 128) * 128 ^ i := Int.mul_nonneg (by omega) (by omega)
            exact ih (i + 1) _ (by omega) (by omega) (by omega)
        by_cases c9 : i = 9
        · refine Ev.pos (by omega) ?_
          by_cases cb : 1 < bt s (i : Int)
          · skip
            refine Ev.eqr ?_ (if_pos ⟨c9, cb⟩).symm
            rw [decide_eq_true (show bt s (i : Int) > 1 by omega)]
            refine Ev.step (fun k => spec_TakeVar.j2.eq_2 ..) ?_
            exact Ev.pos (by decide) (Ev.now _)
          · refine Ev.eqr ?_ (if_neg (fun h => cb h.2)).symm
            rw [decide_eq_false (show ¬ (bt s (i : Int) > 1) by omega)]
            exact main (fun _ => by omega)
        · refine Ev.neg (by omega) ?_
          refine Ev.eqr ?_ (if_neg (fun h => c9 h.1)).symm
          exact main (fun h => absurd h c9)
      · refine Ev.eqr ?_ (if_neg c).symm
        refine Ev.step (fun k => spec_TakeVar.l0.eq_2 ..) (Ev.neg (by omega) ?_)
        refine Ev.step (fun k => spec_TakeVar.j1.eq_2 ..) ?_
        exact Ev.neg (by decide) (Ev.now _)
  exact key 10 0 0 rfl (by decide) (by decide)
theorem takeVar_ev (s : ByteArray) (hs : s.size ≤ 4611686018427387904) : Ev (fun k => impl_TakeVar.f k s) (tv s) := by
  have key : ∀ (d i : Nat) (acc : Int), i + d = 10 → 0 ≤ acc → acc < 128 ^ i → Ev (fun k => impl_TakeVar.l0 k s acc (i : Int)) (tvGo s d i acc) := by
    intro d
    induction d with
    | zero =>
      intro i acc hi _ _
      obtain rfl : i = 10 := by omega
      refine Ev.step (fun k => impl_TakeVar.l0.eq_2 ..) ?_
      by_cases c : ((10 : Nat) : Int) < (s.size : Int)
      · refine Ev.pos c (Ev.step (fun k => impl_TakeVar.j1.eq_2 ..) ?_)
        exact Ev.neg (by decide) (Ev.now _)
      · refine Ev.neg c (Ev.step (fun k => impl_TakeVar.j1.eq_2 ..) ?_)
        exact Ev.neg (by decide) (Ev.now _)
    | succ d ih =>
      intro i acc hi h0 h1
      unfold tvGo
      by_cases c : i < s.size
      · refine Ev.eqr ?_ (if_pos c).symm
        obtain ⟨r0, r1⟩ := bt_range s (i : Int)
        have hg : (IntKind.u64.wrap (Go.bits .and .u8 (bt s (i : Int)) 127)) = bt s (i : Int) % 128 := by
          rw [and127' _ r0 r1, uid (by omega) (by omega)]
        have hw7 : wrap64 (7 * (i : Int)) = 7 * (i : Int) := by exact wrap7 i (by omega)
        have hsucc : wrap64 ((i : Int) + 1) = ((i + 1 : Nat) : Int) := wsucc (by omega)
        have hn : (((i + 1 : Nat) : Int)).toNat = i + 1 := Int.toNat_natCast _
        have hpow : (128 : Int) ^ (i + 1) = 128 ^ i * 128 := Int.pow_succ 128 i
        have hpos : (0 : Int) < 128 ^ i := Int.pow_pos (by decide)
        refine Ev.step (fun k => impl_TakeVar.l0.eq_2 ..) (Ev.pos (by omega) ?_)
        refine Ev.step (fun k => impl_TakeVar.j1.eq_2 ..) ?_
        refine Ev.pos (decide_eq_true (by omega)) (Ev.pos (by omega) (Ev.pos (by omega) ?_))
        rw [hg]
        have main : (i = 9 → bt s (i : Int) % 128 < 2) → Ev (fun k => impl_TakeVar.j2 k s acc (i : Int) (bt s (i : Int) % 128) false) (if bt s (i : Int) < 128 then (if 0 < i ∧ bt s (i : Int) = 0 then ((0 : Int), (⟨#[]⟩ : ByteArray), false) else (acc + bt s (i : Int) * 128 ^ i, s.extract (i + 1) s.size, true)) else tvGo s d (i + 1) (acc + (bt s (i : Int) - 128) * 128 ^ i)) := by
          intro h9
          have hor := or_step i (by omega) acc (bt s (i : Int) % 128) h0 h1 (by omega) (by omega) (by omega)
          refine Ev.step (fun k => impl_TakeVar.j2.eq_2 ..) (Ev.neg (by decide) ?_)
          rw [hw7, hor, hsucc, hn]
          refine Ev.pos (by omega) (Ev.pos (by omega) (Ev.pos (by omega) ?_))
          by_cases c2 : bt s (i : Int) < 128
          · refine Ev.eqr ?_ (if_pos c2).symm
            rw [show bt s (i : Int) % 128 = bt s (i : Int) from by omega]
            refine Ev.neg (by omega) ?_
            by_cases cz : bt s (i : Int) = 0
            · by_cases ci : 0 < i
              · refine Ev.eqr ?_ (if_pos ⟨ci, cz⟩).symm
                exact Ev.pos cz (Ev.pos (by omega) (Ev.now _))
              · refine Ev.eqr ?_ (if_neg (fun h => ci h.1)).symm
                exact Ev.pos cz (Ev.neg (by omega) (Ev.pos (by omega) (Ev.pos (by omega) (Ev.now _))))
            · refine Ev.eqr ?_ (if_neg (fun h => cz h.2)).symm
              exact Ev.neg cz (Ev.pos (by omega) (Ev.pos (by omega) (Ev.now _)))
          · refine Ev.eqr ?_ (if_neg c2).symm
            rw [show bt s (i : Int) % 128 = bt s (i : Int) - 128 from by omega]
            refine Ev.pos (by omega) ?_
            have hm : (bt s (i : Int) - 128) * 128 ^ i ≤ 127 * 128 ^ i := Int.mul_le_mul_of_nonneg_right (by omega) (by omega)
            have hm0 : 0 ≤ (bt s (i : Int) - 128) * 128 ^ i := Int.mul_nonneg (by omega) (by omega)
            exact ih (i + 1) _ (by omega) (by omega) (by omega)
        by_cases c9 : i = 9
        · refine Ev.pos (by omega) ?_
          by_cases cb : 1 < bt s (i : Int)
          · by_cases cg : bt s (i : Int) % 128 > 1
            case neg =>
              refine Ev.eqr ?_ (if_pos ⟨c9, cb⟩).symm
              rw [decide_eq_false cg]
              refine (main (fun _ => by omega)).eqr ?_
              obtain rfl : d = 0 := by omega
              rw [if_neg (by omega)]
              rfl
            refine Ev.eqr ?_ (if_pos ⟨c9, cb⟩).symm
            rw [decide_eq_true (show bt s (i : Int) % 128 > 1 by omega)]
            refine Ev.step (fun k => impl_TakeVar.j2.eq_2 ..) ?_
            exact Ev.pos (by decide) (Ev.now _)
          · refine Ev.eqr ?_ (if_neg (fun h => cb h.2)).symm
            rw [decide_eq_false (show ¬ (bt s (i : Int) % 128 > 1) by omega)]
            exact main (fun _ => by omega)
        · refine Ev.neg (by omega) ?_
          refine Ev.eqr ?_ (if_neg (fun h => c9 h.1)).symm
          exact main (fun h => absurd h c9)
      · refine Ev.eqr ?_ (if_neg c).symm
        refine Ev.step (fun k => impl_TakeVar.l0.eq_2 ..) (Ev.neg (by omega) ?_)
        refine Ev.step (fun k => impl_TakeVar.j1.eq_2 ..) ?_
        exact Ev.neg (by decide) (Ev.now _)
  exact key 10 0 0 rfl (by decide) (by decide)
end Go.Proofs.Ytedgdnkbojjbmaa.P
end

section
namespace Go.Proofs.Ytedgdnkbojjbmaa.P
open Go.RowKit Go.Proofs.YtedgdnkbojjbmaaW.PrintWords Go.Proofs.YtedgdnkbojjbmaaW.PrintLast Go.Proofs.YtedgdnkbojjbmaaW.PrintMore
attribute [local go_sem] str_gtr str_leq str_geq max2_int min2_int max_two min_two max_three min_three max_four min_four
set_option linter.unusedVariables false
set_option linter.unusedSimpArgs false
def tt (s : ByteArray) : ByteArray × ByteArray × Bool :=
  if (tv s).2.2 = true ∧ (tv s).1 ≤ 60000 ∧ (tv s).1 ≤ ((tv s).2.1.size : Int) then ((tv s).2.1.extract 0 (tv s).1.toNat, (tv s).2.1.extract (tv s).1.toNat (tv s).2.1.size, true) else (⟨#[]⟩, ⟨#[]⟩, false)
theorem empty_size : (⟨#[]⟩ : ByteArray).size = 0 := rfl
theorem tvGo_range (s : ByteArray) : ∀ (d i : Nat) (acc : Int), i + d = 10 → 0 ≤ acc → acc < 128 ^ i → 0 ≤ (tvGo s d i acc).1 ∧ (tvGo s d i acc).1 < 18446744073709551616 ∧ (tvGo s d i acc).2.1.size ≤ s.size ∧ ((tvGo s d i acc).2.2 = true → (tvGo s d i acc).2.1.size < s.size) := by
  intro d
  induction d with
  | zero => intro i acc _ _ _; simp [tvGo, empty_size]
  | succ d ih =>
    intro i acc hi h0 h1
    have hf : 0 ≤ ((0 : Int), (⟨#[]⟩ : ByteArray), false).1 ∧ ((0 : Int), (⟨#[]⟩ : ByteArray), false).1 < 18446744073709551616 ∧ ((0 : Int), (⟨#[]⟩ : ByteArray), false).2.1.size ≤ s.size ∧ (((0 : Int), (⟨#[]⟩ : ByteArray), false).2.2 = true → ((0 : Int), (⟨#[]⟩ : ByteArray), false).2.1.size < s.size) := by simp [empty_size]
    obtain ⟨r0, r1⟩ := bt_range s (i : Int)
    have hpos : (0 : Int) < 128 ^ i := Int.pow_pos (by decide)
    unfold tvGo
    by_cases c : i < s.size
    · rw [if_pos c]
      by_cases c9 : i = 9 ∧ 1 < bt s (i : Int)
      · rw [if_pos c9]; exact hf
      · rw [if_neg c9]
        by_cases c2 : bt s (i : Int) < 128
        · rw [if_pos c2]
          by_cases cz : 0 < i ∧ bt s (i : Int) = 0
          · rw [if_pos cz]; exact hf
          · rw [if_neg cz]
            have hn : 0 ≤ bt s (i : Int) * 128 ^ i := Int.mul_nonneg r0 (by omega)
            have hb : acc + bt s (i : Int) * 128 ^ i < 18446744073709551616 := by
              by_cases e : i = 9
              · subst e
                have : bt s ((9 : Nat) : Int) ≤ 1 := by
                  have := fun h => c9 ⟨rfl, h⟩
                  omega
                have : bt s ((9 : Nat) : Int) * 128 ^ 9 ≤ 1 * 128 ^ 9 := Int.mul_le_mul_of_nonneg_right this (by decide)
                omega
              · have h8 : (128 : Int) ^ i ≤ 128 ^ 8 := by
                  have : (128 : Nat) ^ i ≤ 128 ^ 8 := Nat.pow_le_pow_right (by decide) (by omega)
                  exact_mod_cast this
                have : bt s (i : Int) * 128 ^ i ≤ 127 * 128 ^ 8 := Int.mul_le_mul (by omega) h8 (by omega) (by decide)
                omega
            refine ⟨by show 0 ≤ acc + _; omega, hb, ?_, ?_⟩
            · show (s.extract (i + 1) s.size).size ≤ s.size
              rw [ByteArray.size_extract]; omega
            · intro _
              show (s.extract (i + 1) s.size).size < s.size
              rw [ByteArray.size_extract]; omega
        · rw [if_neg c2]
          have hm : (bt s (i : Int) - 128) * 128 ^ i ≤ 127 * 128 ^ i := Int.mul_le_mul_of_nonneg_right (by omega) (by omega)
          have hm0 : 0 ≤ (bt s (i : Int) - 128) * 128 ^ i := Int.mul_nonneg (by omega) (by omega)
          have hpow : (128 : Int) ^ (i + 1) = 128 ^ i * 128 := Int.pow_succ 128 i
          exact ih (i + 1) _ (by omega) (by omega) (by omega)
    · rw [if_neg c]; exact hf
theorem tv_range (s : ByteArray) : 0 ≤ (tv s).1 ∧ (tv s).1 < 18446744073709551616 ∧ (tv s).2.1.size ≤ s.size ∧ ((tv s).2.2 = true → (tv s).2.1.size < s.size) := tvGo_range s 10 0 0 rfl (by decide) (by decide)
theorem takeText_ev (s : ByteArray) (hs : s.size ≤ 4611686018427387904) : Ev (fun k => impl_TakeText.f k s) (tt s) := by
  unfold impl_TakeText.f tt
  obtain ⟨r0, r1, r2, _⟩ := tv_range s
  refine Ev.bind (takeVar_ev s hs) ?_
  by_cases c1 : (tv s).2.2 = true
  · refine Ev.pos c1 ?_
    by_cases c2 : (tv s).1 > 60000
    · exact Ev.pos c2 ((Ev.now _).eqr (if_neg (fun h => by omega)).symm)
    · refine Ev.neg c2 ?_
      rw [uid (x := ((tv s).2.1.size : Int)) (by omega) (by omega)]
      by_cases c3 : (tv s).1 > ((tv s).2.1.size : Int)
      · exact Ev.pos c3 ((Ev.now _).eqr (if_neg (fun h => by omega)).symm)
      · exact Ev.neg c3 (Ev.pos r0 (Ev.pos (by omega) ((Ev.now _).eqr (if_pos ⟨c1, by omega, by omega⟩).symm)))
  · exact Ev.neg c1 ((Ev.now _).eqr (if_neg (fun h => c1 h.1)).symm)
theorem sTakeText_ev (s : ByteArray) (hs : s.size ≤ 4611686018427387904) : Ev (fun k => spec_TakeText.f k s) (tt s) := by
  unfold spec_TakeText.f tt
  obtain ⟨r0, r1, r2, _⟩ := tv_range s
  refine Ev.bind (sTakeVar_ev s hs) ?_
  by_cases c1 : (tv s).2.2 = true
  · refine Ev.pos c1 ?_
    by_cases c2 : (tv s).1 > 60000
    · exact Ev.pos c2 ((Ev.now _).eqr (if_neg (fun h => by omega)).symm)
    · refine Ev.neg c2 ?_
      rw [uid (x := ((tv s).2.1.size : Int)) (by omega) (by omega)]
      by_cases c3 : (tv s).1 > ((tv s).2.1.size : Int)
      · exact Ev.pos c3 ((Ev.now _).eqr (if_neg (fun h => by omega)).symm)
      · exact Ev.neg c3 (Ev.pos r0 (Ev.pos (by omega) ((Ev.now _).eqr (if_pos ⟨c1, by omega, by omega⟩).symm)))
  · exact Ev.neg c1 ((Ev.now _).eqr (if_neg (fun h => c1 h.1)).symm)
theorem tt_range (s : ByteArray) : (tt s).1.size ≤ 60000 ∧ (tt s).1.size ≤ s.size ∧ (tt s).2.1.size ≤ s.size ∧ ((tt s).2.2 = true → (tt s).2.1.size < s.size) := by
  obtain ⟨r0, r1, r2, r3⟩ := tv_range s
  unfold tt
  by_cases c : (tv s).2.2 = true ∧ (tv s).1 ≤ 60000 ∧ (tv s).1 ≤ ((tv s).2.1.size : Int)
  · rw [if_pos c]
    have := r3 c.1
    simp only [ByteArray.size_extract]
    exact ⟨by omega, by omega, by omega, fun _ => by omega⟩
  · rw [if_neg c]
    simp [empty_size]
theorem toList_inj {a b : ByteArray} (h : a.toList = b.toList) : a = b := by
  rw [ByteArray.toList_eq, ByteArray.toList_eq] at h
  exact ByteArray.ext (Array.toList_inj.1 h)
theorem bytesOf_inj {a b : ByteArray} (h : bytesOf a = bytesOf b) : a = b := by
  have := List.map_inj_right (f := fun b : UInt8 => (b.toNat : Int)) (fun x y h => UInt8.toNat_inj.1 (by have h : (x.toNat : Int) = (y.toNat : Int) := h; omega)) |>.1 h
  exact ByteArray.ext (Array.toList_inj.1 this)
theorem bytesOf_append (a b : ByteArray) : bytesOf (a ++ b) = bytesOf a ++ bytesOf b := by
  unfold bytesOf
  simp
theorem bytesOf_strOfNums (l : List Int) (h : ∀ x ∈ l, 0 ≤ x ∧ x < 256) : bytesOf (strOfNums l) = l := by
  unfold bytesOf strOfNums
  simp only [List.map_map]
  conv => rhs; rw [← List.map_id l]
  refine List.map_congr_left fun x hx => ?_
  have := h x hx
  simp only [Function.comp_apply, id]
  rw [UInt8.toNat_ofNat']
  omega
theorem bytesOf_extract (s : ByteArray) (i j : Nat) (hj : j ≤ s.size) : bytesOf (s.extract i j) = ((bytesOf s).take j).drop i := by
  unfold bytesOf
  rw [← List.map_take, ← List.map_drop, ByteArray.data_extract, Array.toList_extract]
  simp [List.extract_eq_take_drop, List.drop_take]
theorem bytesOf_pv (n : Nat) : bytesOf (pv n) = pvl n := bytesOf_strOfNums _ (pvl_range n)
theorem bt_drop {s : ByteArray} {i : Nat} {x : Int} {l : List Int} (h : (bytesOf s).drop i = x :: l) : i < s.size ∧ bt s (i : Int) = x ∧ (bytesOf s).drop (i + 1) = l := by
  have hi : i < (bytesOf s).length := by
    apply Classical.byContradiction
    intro c
    rw [List.drop_eq_nil_of_le (by omega)] at h
    cases h
  rw [List.drop_eq_getElem_cons hi] at h
  injection h with h1 h2
  refine ⟨by rw [bytesOf_length] at hi; exact hi, ?_, h2⟩
  rw [← rd_bytesOf]
  unfold rd
  rw [Int.toNat_natCast, List.getD_eq_getElem?_getD, List.getElem?_eq_getElem hi]
  exact h1
theorem drop_all {s t : ByteArray} {i : Nat} (h : (bytesOf s).drop i = bytesOf t) : s.extract i s.size = t := by
  apply bytesOf_inj
  rw [bytesOf_extract _ _ _ (Nat.le_refl _), ← bytesOf_length s, List.take_length]
  exact h
theorem tvGo_pv (s t : ByteArray) : ∀ (d i n : Nat) (acc : Int), i + d = 10 → (bytesOf s).drop i = pvl n ++ bytesOf t → (0 < i → 0 < n) → n * 128 ^ i < 18446744073709551616 → tvGo s d i acc = (acc + (n : Int) * 128 ^ i, t, true) := by
  intro d
  induction d with
  | zero =>
    intro i n acc hi _ h0 hn
    obtain rfl : i = 10 := by omega
    have := h0 (by omega)
    have : 1 * 128 ^ 10 ≤ n * 128 ^ 10 := Nat.mul_le_mul_right _ this
    omega
  | succ d ih =>
    intro i n acc hi hb h0 hn
    have h9 : i = 9 → n ≤ 1 := by
      intro e
      subst e
      omega
    by_cases c : n < 128
    · rw [pvl_small c] at hb
      obtain ⟨b1, b2, b3⟩ := bt_drop hb
      unfold tvGo
      rw [if_pos b1, b2, if_neg (fun h => by have := h9 h.1; omega), if_pos (by omega), if_neg (fun h => by have := h0 h.1; omega), drop_all b3]
    · rw [pvl_big c] at hb
      obtain ⟨b1, b2, b3⟩ := bt_drop hb
      unfold tvGo
      rw [if_pos b1, b2, if_neg (fun h => by have := h9 h.1; omega), if_neg (by omega)]
      have hnat : n / 128 * 128 ^ (i + 1) + n % 128 * 128 ^ i = n * 128 ^ i := by
        rw [Nat.pow_succ, Nat.mul_comm (128 ^ i) 128, ← Nat.mul_assoc, ← Nat.add_mul]
        congr 1
        omega
      rw [ih (i + 1) (n / 128) _ (by omega) b3 (fun _ => by omega) (by omega)]
      congr 1
      have hint : ((n / 128 : Nat) : Int) * 128 ^ (i + 1) + ((n % 128 : Nat) : Int) * 128 ^ i = (n : Int) * 128 ^ i := by exact_mod_cast hnat
      rw [show (((n % 128 + 128 : Nat) : Int) - 128) = ((n % 128 : Nat) : Int) from by omega, Int.add_assoc, Int.add_comm (((n % 128 : Nat) : Int) * 128 ^ i), hint]
theorem tv_pv (n : Nat) (hn : n < 18446744073709551616) (t : ByteArray) : tv (pv n ++ t) = ((n : Int), t, true) := by
  have := tvGo_pv (pv n ++ t) t 10 0 n 0 rfl (by rw [List.drop_zero, bytesOf_append, bytesOf_pv]) (fun h => absurd h (by omega)) (by simpa using hn)
  unfold tv
  rw [this]
  simp
theorem tvGo_back (s : ByteArray) : ∀ (d i : Nat) (acc : Int), i + d = 10 → (tvGo s d i acc).2.2 = true → ∃ m : Nat, (tvGo s d i acc).1 = acc + (m : Int) * 128 ^ i ∧ (bytesOf s).drop i = pvl m ++ bytesOf (tvGo s d i acc).2.1 ∧ (0 < i → 0 < m) := by
  intro d
  induction d with
  | zero => intro i acc _ h; simp [tvGo] at h
  | succ d ih =>
    intro i acc hi h
    obtain ⟨r0, r1⟩ := bt_range s (i : Int)
    unfold tvGo at h ⊢
    by_cases c : i < s.size
    · have hi2 : i < (bytesOf s).length := by rw [bytesOf_length]; exact c
      have hd : (bytesOf s).drop i = bt s (i : Int) :: (bytesOf s).drop (i + 1) := by
        rw [List.drop_eq_getElem_cons hi2]
        congr 1
        rw [← rd_bytesOf]
        unfold rd
        rw [Int.toNat_natCast, List.getD_eq_getElem?_getD, List.getElem?_eq_getElem hi2]
        rfl
      rw [if_pos c] at h ⊢
      by_cases c9 : i = 9 ∧ 1 < bt s (i : Int)
      · rw [if_pos c9] at h; simp at h
      · rw [if_neg c9] at h ⊢
        by_cases c2 : bt s (i : Int) < 128
        · rw [if_pos c2] at h ⊢
          by_cases cz : 0 < i ∧ bt s (i : Int) = 0
          · rw [if_pos cz] at h; simp at h
          · rw [if_neg cz]
            refine ⟨(bt s (i : Int)).toNat, ?_, ?_, fun h => by have := fun e => cz ⟨h, e⟩; omega⟩
            · show acc + bt s (i : Int) * 128 ^ i = _
              rw [Int.toNat_of_nonneg r0]
            · show _ = _ ++ bytesOf (s.extract (i + 1) s.size)
              rw [pvl_small (by omega), Int.toNat_of_nonneg r0, hd, bytesOf_extract _ _ _ (Nat.le_refl _), ← bytesOf_length s, List.take_length]
              rfl
        · rw [if_neg c2] at h ⊢
          obtain ⟨m, m1, m2, m3⟩ := ih (i + 1) _ (by omega) h
          have m4 := m3 (by omega)
          refine ⟨(bt s (i : Int)).toNat - 128 + 128 * m, ?_, ?_, fun _ => by omega⟩
          · rw [m1, Int.pow_succ, show ((((bt s (i : Int)).toNat - 128 + 128 * m : Nat)) : Int) = (bt s (i : Int) - 128) + 128 * (m : Int) from by omega, Int.add_mul, Int.add_assoc]
            congr 2
            rw [Int.mul_comm (128 ^ i) 128, ← Int.mul_assoc, Int.mul_comm (m : Int) 128]
          · rw [hd, m2, pvl_big (n := (bt s (i : Int)).toNat - 128 + 128 * m) (by omega), show ((bt s (i : Int)).toNat - 128 + 128 * m) % 128 = (bt s (i : Int)).toNat - 128 from by omega, show ((bt s (i : Int)).toNat - 128 + 128 * m) / 128 = m from by omega, show (((bt s (i : Int)).toNat - 128 + 128 : Nat) : Int) = bt s (i : Int) from by omega]
            rfl
    · rw [if_neg c] at h
      simp at h
theorem tv_back (s : ByteArray) (h : (tv s).2.2 = true) : s = pv (tv s).1.toNat ++ (tv s).2.1 := by
  obtain ⟨m, m1, m2, _⟩ := tvGo_back s 10 0 0 rfl h
  have e : (tv s).1 = (m : Int) := by
    show (tvGo s 10 0 0).1 = _
    rw [m1]
    simp
  apply bytesOf_inj
  rw [e, Int.toNat_natCast, bytesOf_append, bytesOf_pv]
  rw [List.drop_zero] at m2
  exact m2
theorem extract_front (a b : ByteArray) : (a ++ b).extract 0 a.size = a := by
  apply bytesOf_inj
  rw [bytesOf_extract _ _ _ (by rw [ByteArray.size_append]; omega), bytesOf_append, ← bytesOf_length a, List.take_left, List.drop_zero]
theorem extract_back (a b : ByteArray) : (a ++ b).extract a.size (a ++ b).size = b := by
  apply bytesOf_inj
  rw [bytesOf_extract _ _ _ (Nat.le_refl _), ← bytesOf_length (a ++ b), List.take_length, bytesOf_append, ← bytesOf_length a, List.drop_left]
theorem extract_join (s : ByteArray) (n : Nat) (h : n ≤ s.size) : s.extract 0 n ++ s.extract n s.size = s := by
  apply bytesOf_inj
  rw [bytesOf_append, bytesOf_extract _ _ _ h, bytesOf_extract _ _ _ (Nat.le_refl _), ← bytesOf_length s, List.take_length, List.drop_zero, List.take_append_drop]
theorem tt_pt (t r : ByteArray) (h : t.size ≤ 60000) : tt (pt t ++ r) = (t, r, true) := by
  have e : pt t ++ r = pv t.size ++ (t ++ r) := by unfold pt; rw [ByteArray.append_assoc]
  unfold tt
  rw [e, tv_pv _ (by omega)]
  simp only
  rw [if_pos ⟨by simp, by omega, by rw [ByteArray.size_append]; omega⟩, Int.toNat_natCast, extract_front, extract_back]
theorem tt_back (s : ByteArray) (h : (tt s).2.2 = true) : s = pt (tt s).1 ++ (tt s).2.1 := by
  obtain ⟨r0, r1, r2, r3⟩ := tv_range s
  unfold tt at h ⊢
  by_cases c : (tv s).2.2 = true ∧ (tv s).1 ≤ 60000 ∧ (tv s).1 ≤ ((tv s).2.1.size : Int)
  · rw [if_pos c]
    have hb := tv_back s c.1
    have hz : ((tv s).2.1.extract 0 (tv s).1.toNat).size = (tv s).1.toNat := by rw [ByteArray.size_extract]; omega
    show s = pt ((tv s).2.1.extract 0 (tv s).1.toNat) ++ (tv s).2.1.extract (tv s).1.toNat (tv s).2.1.size
    unfold pt
    rw [hz, ByteArray.append_assoc, extract_join _ _ (by omega)]
    exact hb
  · rw [if_neg c] at h
    simp at h
end Go.Proofs.Ytedgdnkbojjbmaa.P
end

section
namespace Go.Proofs.Ytedgdnkbojjbmaa.P
open Go.RowKit Go.Proofs.YtedgdnkbojjbmaaW.PrintWords Go.Proofs.YtedgdnkbojjbmaaW.PrintLast Go.Proofs.YtedgdnkbojjbmaaW.PrintMore
attribute [local go_sem] str_gtr str_leq str_geq max2_int min2_int max_two min_two max_three min_three max_four min_four
set_option linter.unusedVariables false
set_option linter.unusedSimpArgs false
def numT (s : ByteArray) (bad : Bool) : Int × ByteArray × Bool := if (tv s).2.2 = true ∧ (tv s).1 ≤ 4611686018427387904 then ((tv s).1, (tv s).2.1, bad) else (0, s, true)
def txtT (s : ByteArray) (bad : Bool) : ByteArray × ByteArray × Bool := if (tt s).2.2 = true then ((tt s).1, (tt s).2.1, bad) else (⟨#[]⟩, s, true)
theorem number_taken (s : ByteArray) (bad : Bool) (hs : s.size ≤ 4611686018427387904) : Ev (fun k => impl_taker_number.f k s bad) (numT s bad) := by
  unfold impl_taker_number.f numT
  obtain ⟨r0, r1, _, _⟩ := tv_range s
  refine Ev.bind (takeVar_ev s hs) ?_
  by_cases c : (tv s).2.2 = true
  · refine Ev.pos c ?_
    by_cases c2 : (tv s).1 > 4611686018427387904
    · exact Ev.pos c2 ((Ev.now _).eqr (if_neg (fun h => by omega)).symm)
    · refine Ev.neg c2 ?_
      rw [wid (by omega) (by omega)]
      exact (Ev.now _).eqr (if_pos ⟨c, by omega⟩).symm
  · exact Ev.neg c ((Ev.now _).eqr (if_neg (fun h => c h.1)).symm)
theorem text_taken (s : ByteArray) (bad : Bool) (hs : s.size ≤ 4611686018427387904) : Ev (fun k => impl_taker_text.f k s bad) (txtT s bad) := by
  unfold impl_taker_text.f txtT
  refine Ev.bind (takeText_ev s hs) ?_
  by_cases c : (tt s).2.2 = true
  · exact Ev.pos c ((Ev.now _).eqr (if_pos c).symm)
  · exact Ev.neg c ((Ev.now _).eqr (if_neg c).symm)
theorem whole_taken (s : ByteArray) (bad : Bool) : impl_taker_whole.f s bad = some (!bad && (s.toList == []), s, bad) := by
  unfold impl_taker_whole.f
  cases bad <;> simp
theorem numT_size (s : ByteArray) (bad : Bool) : (numT s bad).2.1.size ≤ s.size := by
  obtain ⟨_, _, h, _⟩ := tv_range s
  unfold numT
  split
  · exact h
  · exact Nat.le_refl _
theorem numT_bad (s : ByteArray) : (numT s true).2.2 = true := by unfold numT; split <;> rfl
theorem txtT_bad (s : ByteArray) : (txtT s true).2.2 = true := by unfold txtT; split <;> rfl
theorem numT_good {s : ByteArray} {b : Bool} (h1 : (tv s).2.2 = true) (h2 : (tv s).1 ≤ 4611686018427387904) : numT s b = ((tv s).1, (tv s).2.1, b) := by
  unfold numT
  rw [if_pos ⟨h1, h2⟩]
theorem numT_not {s : ByteArray} {b : Bool} (h : ¬ ((tv s).2.2 = true ∧ (tv s).1 ≤ 4611686018427387904)) : numT s b = (0, s, true) := by
  unfold numT
  rw [if_neg h]
theorem txtT_good {s : ByteArray} {b : Bool} (h1 : (tt s).2.2 = true) : txtT s b = ((tt s).1, (tt s).2.1, b) := by
  unfold txtT
  rw [if_pos h1]
theorem txtT_not {s : ByteArray} {b : Bool} (h : ¬ (tt s).2.2 = true) : txtT s b = (⟨#[]⟩, s, true) := by
  unfold txtT
  rw [if_neg h]
end Go.Proofs.Ytedgdnkbojjbmaa.P
end

section
namespace Go.Proofs.Ytedgdnkbojjbmaa.P
open Go.RowKit Go.Proofs.YtedgdnkbojjbmaaW.PrintWords Go.Proofs.YtedgdnkbojjbmaaW.PrintLast Go.Proofs.YtedgdnkbojjbmaaW.PrintMore
attribute [local go_sem] str_gtr str_leq str_geq max2_int min2_int max_two min_two max_three min_three max_four min_four
set_option linter.unusedVariables false
set_option linter.unusedSimpArgs false
def okc (l : List Int) : Prop := l.length ≤ 1048576 ∧ ∀ x ∈ l, 0 ≤ x ∧ x ≤ 255
def okp (l : List Int) (p : Int) : Prop := 0 ≤ p ∧ p ≤ (l.length : Int)
theorem okc_rd {l : List Int} (h : okc l) (i : Int) : 0 ≤ rd l i ∧ rd l i ≤ 255 := by
  unfold rd
  rw [List.getD_eq_getElem?_getD]
  by_cases c : i.toNat < l.length
  · rw [List.getElem?_eq_getElem c]
    exact h.2 _ (List.getElem_mem c)
  · rw [List.getElem?_eq_none (by omega)]
    simp
theorem next_ev {l : List Int} {p : Int} (h : okc l) (hp : okp l p) : ∃ r, spec_l1Rd_next.f l p = some r ∧ (0 ≤ r.1 ∧ r.1 ≤ 255) ∧ okp l r.2 := by
  obtain ⟨h1, h2⟩ := hp
  have hl := h.1
  unfold spec_l1Rd_next.f
  by_cases c : p ≥ (l.length : Int)
  · exact ⟨_, if_pos c, by simp, h1, h2⟩
  · have e1 : wrap64 (p + 1) = p + 1 := wid (by omega) (by omega)
    have e2 : wrap64 (p + 1 - 1) = p := by rw [wid (by omega) (by omega)]; omega
    obtain ⟨r0, r1⟩ := okc_rd h p
    rw [if_neg c, e1, e2, if_pos h1, if_pos (by omega)]
    refine ⟨_, rfl, ?_, ?_⟩
    · show 0 ≤ wrap64 (rd l p) ∧ wrap64 (rd l p) ≤ 255
      rw [wid (by omega) (by omega)]
      exact ⟨r0, r1⟩
    · exact ⟨by show 0 ≤ p + 1; omega, by show p + 1 ≤ _; omega⟩
theorem below_ev {l : List Int} {p : Int} (h : okc l) (hp : okp l p) (n : Int) (hn : 1 ≤ n) : ∃ r, spec_l1Rd_below.f l p n = some r ∧ (0 ≤ r.1 ∧ r.1 < n) ∧ okp l r.2 := by
  unfold spec_l1Rd_below.f
  by_cases c : n ≤ 1
  · exact ⟨_, if_pos c, ⟨by simp, by show (0 : Int) < n; omega⟩, hp⟩
  · rw [if_neg c]
    obtain ⟨a, ha, ha1, ha2⟩ := next_ev h hp
    by_cases c2 : n ≤ 256
    · rw [if_pos c2, ha]
      refine ⟨(Int.tmod a.1 n, a.2), by rw [Option.bind_some, if_neg (by omega)], ?_, ha2⟩
      show 0 ≤ Int.tmod a.1 n ∧ Int.tmod a.1 n < n
      rw [Int.tmod_eq_emod_of_nonneg ha1.1]
      exact ⟨Int.emod_nonneg _ (by omega), Int.emod_lt_of_pos _ (by omega)⟩
    · obtain ⟨b, hb, hb1, hb2⟩ := next_ev h ha2
      rw [if_neg c2, ha, Option.bind_some, hb, Option.bind_some, if_neg (by omega)]
      refine ⟨_, rfl, ?_, hb2⟩
      show 0 ≤ Int.tmod (wrap64 (wrap64 (a.1 * 256) + b.1)) n ∧ Int.tmod (wrap64 (wrap64 (a.1 * 256) + b.1)) n < n
      rw [wid (x := a.1 * 256) (by omega) (by omega), wid (by omega) (by omega), Int.tmod_eq_emod_of_nonneg (by omega)]
      exact ⟨Int.emod_nonneg _ (by omega), Int.emod_lt_of_pos _ (by omega)⟩
theorem once_ev {l : List Int} {p : Int} (h : okc l) (hp : okp l p) (n : Int) (hn : 1 ≤ n) : ∃ r, spec_l1Rd_once.f l p n = some r ∧ okp l r.2 := by
  obtain ⟨a, ha, _, ha2⟩ := below_ev h hp n hn
  unfold spec_l1Rd_once.f
  rw [ha]
  exact ⟨_, rfl, ha2⟩
theorem bits_u64 (o : BinOp) (a b : Int) : 0 ≤ Go.bits o .u64 a b ∧ Go.bits o .u64 a b ≤ 18446744073709551615 := by
  unfold Go.bits
  simp only [IntKind.wrap_u64]
  omega
theorem word_ev {l : List Int} {p : Int} (h : okc l) (hp : okp l p) : ∃ r, Ev (fun k => spec_l1Rd_word.f k l p) r ∧ (0 ≤ r.1 ∧ r.1 ≤ 18446744073709551615) ∧ okp l r.2 := by
  have key : ∀ i : Nat, i ≤ 8 → ∀ (x p : Int), 0 ≤ x ∧ x ≤ 18446744073709551615 → okp l p → ∃ r, Ev (fun k => spec_l1Rd_word.l0 k x (i : Int) l p) r ∧ (0 ≤ r.1 ∧ r.1 ≤ 18446744073709551615) ∧ okp l r.2 := by
    refine downTo 8 ?_ ?_
    · intro x p hx hp
      exact ⟨(x, p), Ev.step (fun k => spec_l1Rd_word.l0.eq_2 ..) (Ev.neg (by omega) (Ev.now _)), hx, hp⟩
    · intro i hi ih x p hx hp
      obtain ⟨a, ha, _, ha2⟩ := next_ev h hp
      obtain ⟨r, hr, hr2⟩ := ih _ a.2 (bits_u64 .or (IntKind.u64.wrap (x * 256)) (IntKind.u64.wrap a.1)) ha2
      refine ⟨r, Ev.step (fun k => spec_l1Rd_word.l0.eq_2 ..) (Ev.pos (by omega) (Ev.bindS ha ?_)), hr2⟩
      rw [wsucc (by omega)]
      exact hr
  exact key 0 (by omega) 0 p (by omega) hp
theorem bytes_ev {l : List Int} {p : Int} (h : okc l) (hp : okp l p) (n : Int) (hn : 0 ≤ n) (hn2 : n ≤ 1000000) : ∃ r, Ev (fun k => spec_l1Rd_bytes.f k l p n) r ∧ (r.1.size : Int) ≤ n ∧ okp l r.2 := by
  have key : ∀ (i : Nat) (acc : List Int) (p : Int), (acc.length : Int) + i ≤ 1000000 → okp l p → ∃ r, Ev (fun k => spec_l1Rd_bytes.l0 k acc (i : Int) l p) r ∧ r.1.size = acc.length + i ∧ okp l r.2 := by
    intro i
    induction i with
    | zero =>
      intro acc p ha hp
      refine ⟨(strOfNums acc, p), Ev.step (fun k => spec_l1Rd_bytes.l0.eq_2 ..) (Ev.neg (by omega) (Ev.now _)), ?_, hp⟩
      show (strOfNums acc).size = acc.length + 0
      unfold strOfNums
      simp [ByteArray.size]
    | succ i ih =>
      intro acc p ha hp
      obtain ⟨a, ha', _, ha2⟩ := below_ev h hp 256 (by omega)
      obtain ⟨r, hr, hr1, hr2⟩ := ih (acc ++ [a.1 % 256]) a.2 (by simp only [List.length_append, List.length_cons, List.length_nil]; omega) ha2
      refine ⟨r, Ev.step (fun k => spec_l1Rd_bytes.l0.eq_2 ..) (Ev.pos (by omega) (Ev.bindS ha' (Ev.pos (by omega) ?_))), ?_, hr2⟩
      · rw [wid (by omega) (by omega), show (((i + 1 : Nat) : Int) - 1) = (i : Int) from by omega]
        exact hr
      · rw [hr1, List.length_append]
        simp only [List.length_cons, List.length_nil]
        omega
  obtain ⟨a, ha, ha1, ha2⟩ := below_ev h hp (n + 1) (by omega)
  obtain ⟨r, hr, hr1, hr2⟩ := key a.1.toNat [] a.2 (by simp; omega) ha2
  refine ⟨r, ?_, ?_, hr2⟩
  · unfold spec_l1Rd_bytes.f
    rw [wid (by omega) (by omega)]
    refine Ev.bindS ha ?_
    rw [show ((a.1.toNat : Nat) : Int) = a.1 from by omega] at hr
    exact hr
  · rw [hr1]
    simp only [List.length_nil]
    omega
theorem duser_ev {l : List Int} {p : Int} (h : okc l) (hp : okp l p) : ∃ r, spec_l1Rd_user.f l p = some r ∧ (isU r.1) ∧ okp l r.2 := by
  obtain ⟨a, ha, ha1, ha2⟩ := below_ev h hp 10 (by omega)
  unfold spec_l1Rd_user.f
  rw [Option.bind_some, ha, Option.bind_some, if_pos ha1.1, if_pos (by simp only [List.length_cons, List.length_nil]; omega)]
  refine ⟨_, rfl, ?_, ha2⟩
  obtain ⟨m, hm⟩ : ∃ m : Nat, a.1 = m := ⟨a.1.toNat, by omega⟩
  have hlt : m < 10 := by omega
  simp only [hm]
  clear hm ha1 ha ha2
  revert m
  unfold rdOf
  simp only [Int.toNat_natCast]
  decide +kernel
theorem near_ev {l : List Int} {p : Int} (h : okc l) (hp : okp l p) (a b : Int) (hab : a ≤ b) (ha : -1000000000000000 ≤ a) (hb : b ≤ 1000000000000000) : ∃ r, Ev (fun k => spec_l1Rd_near.f k l p a b) r ∧ (a ≤ r.1 ∧ r.1 ≤ b) ∧ okp l r.2 := by
  unfold spec_l1Rd_near.f
  obtain ⟨x, hx, hx1, hx2⟩ := below_ev h hp 8 (by omega)
  by_cases c0 : x.1 = 0
  · exact ⟨_, Ev.bindS hx (Ev.pos c0 (Ev.now _)), ⟨Int.le_refl _, hab⟩, hx2⟩
  · by_cases c1 : x.1 = 1
    · exact ⟨_, Ev.bindS hx (Ev.neg c0 (Ev.pos c1 (Ev.now _))), ⟨hab, Int.le_refl _⟩, hx2⟩
    · obtain ⟨y, hy, hy1, hy2⟩ := word_ev h hx2
      have e : IntKind.u64.wrap (wrap64 (wrap64 (b - a) + 1)) = b - a + 1 := by
        rw [wid (x := b - a) (by omega) (by omega), wid (by omega) (by omega), uid (by omega) (by omega)]
      have m0 : 0 ≤ Int.tmod (y.1 / 2) (b - a + 1) ∧ Int.tmod (y.1 / 2) (b - a + 1) < b - a + 1 := by
        rw [Int.tmod_eq_emod_of_nonneg (by omega)]
        exact ⟨Int.emod_nonneg _ (by omega), Int.emod_lt_of_pos _ (by omega)⟩
      refine ⟨(a + Int.tmod (y.1 / 2) (b - a + 1), y.2), Ev.bindS hx (Ev.neg c0 (Ev.neg c1 (Ev.neg (by omega) (Ev.bind hy ?_)))), ⟨by show a ≤ a + _; omega, by show a + _ ≤ b; omega⟩, hy2⟩
      rw [e, wid (x := Int.tmod (y.1 / 2) (b - a + 1)) (by omega) (by omega), wid (by omega) (by omega)]
      exact Ev.neg (by omega) (Ev.now _)
theorem off_ev {l : List Int} {p : Int} (h : okc l) (hp : okp l p) (a b : Int) (hab : a ≤ b) (ha : -1000000000000000 ≤ a) (hb : b ≤ 1000000000000000) : ∃ r, Ev (fun k => spec_l1Rd_off.f k l p a b) r ∧ (-9223372036854775808 ≤ r.1 ∧ r.1 ≤ 9223372036854775807) ∧ okp l r.2 := by
  unfold spec_l1Rd_off.f
  obtain ⟨x, hx, hx2⟩ := once_ev h hp 24 (by omega)
  by_cases c0 : x.1 = true
  · obtain ⟨y, hy, hy1, hy2⟩ := below_ev h hx2 4 (by omega)
    refine ⟨_, Ev.bindS hx (Ev.pos c0 (Ev.bindS rfl (Ev.bindS hy (Ev.pos hy1.1 (Ev.pos (by simp only [List.length_cons, List.length_nil]; omega) (Ev.now _)))))), ?_, hy2⟩
    rw [wid (x := a - 1) (by omega) (by omega), wid (x := b + 1) (by omega) (by omega)]
    obtain ⟨m, hm⟩ : ∃ m : Nat, y.1 = m := ⟨y.1.toNat, by omega⟩
    have hlt : m < 4 := by omega
    simp only [hm]
    unfold rd
    rw [Int.toNat_natCast]
    match m, hlt with
    | 0, _ => show -9223372036854775808 ≤ a - 1 ∧ a - 1 ≤ 9223372036854775807; omega
    | 1, _ => show -9223372036854775808 ≤ b + 1 ∧ b + 1 ≤ 9223372036854775807; omega
    | 2, _ => show (-9223372036854775808 : Int) ≤ -9223372036854775808 ∧ (-9223372036854775808 : Int) ≤ 9223372036854775807; omega
    | 3, _ => show (-9223372036854775808 : Int) ≤ 9223372036854775807 ∧ (9223372036854775807 : Int) ≤ 9223372036854775807; omega
  · obtain ⟨y, hy, hy1, hy2⟩ := near_ev h hx2 a b hab ha hb
    exact ⟨_, Ev.bindS hx (Ev.neg c0 (Ev.bind hy (Ev.now _))), ⟨by omega, by omega⟩, hy2⟩
end Go.Proofs.Ytedgdnkbojjbmaa.P
end

section
namespace Go.Proofs.Ytedgdnkbojjbmaa.Pure
open Go.RowKit Go.Proofs.YtedgdnkbojjbmaaW.PrintWords Go.Proofs.YtedgdnkbojjbmaaW.PrintLast Go.Proofs.YtedgdnkbojjbmaaW.PrintMore
open Go.Proofs.Ytedgdnkbojjbmaa.P
set_option linter.unusedVariables false
set_option linter.unusedSimpArgs false
def fOk (a b c : Int) (t : ByteArray) : Prop := (a = 0 ∧ b = 0 ∧ c = 0 ∧ t.toList = []) ∨ (a = 1 ∧ b = 0 ∧ (1 ≤ c ∧ c ≤ 30) ∧ 1 ≤ t.size ∧ t.size ≤ 1000) ∨ (a = 2 ∧ c = 0 ∧ (0 ≤ b ∧ b ≤ 3) ∧ (20 ≤ t.size ∧ t.size ≤ 600) ∧ ∀ i : Nat, i < t.size → bt t (i : Int) ≤ 127)
noncomputable instance (a b c : Int) (t : ByteArray) : Decidable (fOk a b c t) := Classical.propDecidable _
def low7 (t : ByteArray) (i : Nat) : Prop := ∀ j : Nat, i ≤ j → j < t.size → bt t (j : Int) ≤ 127
noncomputable instance (t : ByteArray) (i : Nat) : Decidable (low7 t i) := Classical.propDecidable _
theorem nil_size {t : ByteArray} (h : t.toList = []) : t.size = 0 := by
  rw [ByteArray.toList_eq] at h
  have := congrArg List.length h
  simpa using this
theorem nil_eq {t : ByteArray} (h : t.toList = []) : t = ⟨#[]⟩ := toList_inj (by rw [h, ByteArray.toList_eq])
theorem filterOk_ev (a b c : Int) (t : ByteArray) (ht : t.size ≤ 4611686018427387904) : Ev (fun k => impl_FilterOk.f k a b c t) (decide (fOk a b c t)) := by
  have fw1 := within_ev c 1 30
  have fw2 := within_ev (t.size : Int) 1 1000
  have fw3 := within_ev b 0 3
  have fw4 := within_ev (t.size : Int) 20 600
  unfold impl_FilterOk.f
  by_cases c0 : a = 0
  · refine Ev.pos c0 ((Ev.now _).eqr ?_)
    subst c0
    unfold fOk
    by_cases h1 : b = 0 <;> by_cases h2 : c = 0 <;> by_cases h3 : t.toList = [] <;> simp [h1, h2, h3]
  · refine Ev.neg c0 ?_
    by_cases c1 : a = 1
    · refine Ev.pos c1 ?_
      by_cases cb : b = 0
      · refine Ev.pos cb (Ev.bindS fw1 ?_)
        by_cases cc : 1 ≤ c ∧ c ≤ 30
        · refine Ev.pos (decide_eq_true cc) (Ev.bindS fw2 ((Ev.now _).eqr ?_))
          exact decide_eq_decide.2 ⟨fun h => .inr (.inl ⟨c1, cb, cc, by omega, by omega⟩), fun h => by unfold fOk at h; omega⟩
        · exact Ev.neg (by simpa using cc) ((Ev.now _).eqr (decide_eq_false fun h => by unfold fOk at h; omega).symm)
      · exact Ev.neg cb ((Ev.now _).eqr (decide_eq_false fun h => by unfold fOk at h; omega).symm)
    · refine Ev.neg c1 ?_
      by_cases c2 : a = 2
      · refine Ev.pos c2 ?_
        have jt : ¬ fOk a b c t → Ev (fun k => impl_FilterOk.j0 k true a b c t) (decide (fOk a b c t)) := fun h => by
          refine Ev.step (fun k => impl_FilterOk.j0.eq_2 ..) ?_
          exact Ev.pos rfl ((Ev.now _).eqr (decide_eq_false h).symm)
        by_cases cc : c = 0
        · refine Ev.pos cc (Ev.bindS fw3 ?_)
          by_cases cb : 0 ≤ b ∧ b ≤ 3
          · refine Ev.pos (decide_eq_true cb) (Ev.bindS fw4 ?_)
            by_cases cs : 20 ≤ (t.size : Int) ∧ (t.size : Int) ≤ 600
            · rw [decide_eq_true cs]
              refine Ev.step (fun k => impl_FilterOk.j0.eq_2 ..) ?_
              refine Ev.neg (by decide) ?_
              have key : ∀ i, i ≤ t.size → Ev (fun k => impl_FilterOk.l0 k (t.size : Int) (i : Int) a b c t) (decide (low7 t i)) := by
                refine downTo t.size ?_ ?_
                · refine Ev.step (fun k => impl_FilterOk.l0.eq_2 ..) ?_
                  exact Ev.neg (by omega) ((Ev.now _).eqr (decide_eq_true (show low7 t t.size from fun j h1 h2 => by omega)).symm)
                · intro i hi ih
                  refine Ev.step (fun k => impl_FilterOk.l0.eq_2 ..) ?_
                  refine Ev.pos (by omega) (Ev.pos (by omega) (Ev.pos (by omega) ?_))
                  by_cases cz : bt t (i : Int) > 127
                  · exact Ev.pos cz ((Ev.now _).eqr (decide_eq_false (fun h => by have := h i (Nat.le_refl _) hi; omega)).symm)
                  · refine Ev.neg cz ?_
                    rw [wsucc (by omega)]
                    refine ih.eqr (decide_eq_decide.2 ⟨fun h j h1 h2 => ?_, fun h j h1 h2 => h j (by omega) h2⟩)
                    by_cases e : j = i
                    · subst e; omega
                    · exact h j (by omega) h2
              refine (key 0 (Nat.zero_le _)).eqr (decide_eq_decide.2 ⟨fun h => .inr (.inr ⟨c2, cc, cb, by omega, fun i hi => h i (Nat.zero_le _) hi⟩), fun h => ?_⟩)
              rcases h with h | h | h
              · omega
              · omega
              · exact fun j _ hj => h.2.2.2.2 j hj
            · rw [decide_eq_false cs]
              exact jt fun h => by unfold fOk at h; omega
          · exact Ev.neg (by simpa using cb) (jt fun h => by unfold fOk at h; omega)
        · exact Ev.neg cc (jt fun h => by unfold fOk at h; omega)
      · exact Ev.neg c2 ((Ev.now _).eqr (decide_eq_false fun h => by unfold fOk at h; omega).symm)
theorem sFilterOk_ev (a b c : Int) (t : ByteArray) (ht : t.size ≤ 4611686018427387904) : Ev (fun k => spec_FilterOk.f k a b c t) (decide (fOk a b c t)) := by
  have fw1 := in_ev c 1 30
  have fw2 := in_ev (t.size : Int) 1 1000
  have fw3 := in_ev b 0 3
  have fw4 := in_ev (t.size : Int) 20 600
  unfold spec_FilterOk.f
  by_cases c0 : a = 0
  · refine Ev.pos c0 ((Ev.now _).eqr ?_)
    subst c0
    unfold fOk
    by_cases h1 : b = 0 <;> by_cases h2 : c = 0 <;> by_cases h3 : t.toList = [] <;> simp [h1, h2, h3]
  · refine Ev.neg c0 ?_
    by_cases c1 : a = 1
    · refine Ev.pos c1 ?_
      by_cases cb : b = 0
      · refine Ev.pos cb (Ev.bindS fw1 ?_)
        by_cases cc : 1 ≤ c ∧ c ≤ 30
        · refine Ev.pos (decide_eq_true cc) (Ev.bindS fw2 ((Ev.now _).eqr ?_))
          exact decide_eq_decide.2 ⟨fun h => .inr (.inl ⟨c1, cb, cc, by omega, by omega⟩), fun h => by unfold fOk at h; omega⟩
        · exact Ev.neg (by simpa using cc) ((Ev.now _).eqr (decide_eq_false fun h => by unfold fOk at h; omega).symm)
      · exact Ev.neg cb ((Ev.now _).eqr (decide_eq_false fun h => by unfold fOk at h; omega).symm)
    · refine Ev.neg c1 ?_
      by_cases c2 : a = 2
      · refine Ev.pos c2 ?_
        have jt : ¬ fOk a b c t → Ev (fun k => spec_FilterOk.j0 k true a b c t) (decide (fOk a b c t)) := fun h => by
          refine Ev.step (fun k => spec_FilterOk.j0.eq_2 ..) ?_
          exact Ev.pos rfl ((Ev.now _).eqr (decide_eq_false h).symm)
        by_cases cc : c = 0
        · refine Ev.pos cc (Ev.bindS fw3 ?_)
          by_cases cb : 0 ≤ b ∧ b ≤ 3
          · refine Ev.pos (decide_eq_true cb) (Ev.bindS fw4 ?_)
            by_cases cs : 20 ≤ (t.size : Int) ∧ (t.size : Int) ≤ 600
            · rw [decide_eq_true cs]
              refine Ev.step (fun k => spec_FilterOk.j0.eq_2 ..) ?_
              refine Ev.neg (by decide) ?_
              have key : ∀ i, i ≤ t.size → Ev (fun k => spec_FilterOk.l0 k (i : Int) a b c t) (decide (low7 t i)) := by
                refine downTo t.size ?_ ?_
                · refine Ev.step (fun k => spec_FilterOk.l0.eq_2 ..) ?_
                  exact Ev.neg (by omega) ((Ev.now _).eqr (decide_eq_true (show low7 t t.size from fun j h1 h2 => by omega)).symm)
                · intro i hi ih
                  refine Ev.step (fun k => spec_FilterOk.l0.eq_2 ..) ?_
                  refine Ev.pos (by omega) (Ev.pos (by omega) ?_)
                  by_cases cz : bt t (i : Int) > 127
                  · exact Ev.pos cz ((Ev.now _).eqr (decide_eq_false (fun h => by have := h i (Nat.le_refl _) hi; omega)).symm)
                  · refine Ev.neg cz ?_
                    rw [wsucc (by omega)]
                    refine ih.eqr (decide_eq_decide.2 ⟨fun h j h1 h2 => ?_, fun h j h1 h2 => h j (by omega) h2⟩)
                    by_cases e : j = i
                    · subst e; omega
                    · exact h j (by omega) h2
              refine (key 0 (Nat.zero_le _)).eqr (decide_eq_decide.2 ⟨fun h => .inr (.inr ⟨c2, cc, cb, by omega, fun i hi => h i (Nat.zero_le _) hi⟩), fun h => ?_⟩)
              rcases h with h | h | h
              · omega
              · omega
              · exact fun j _ hj => h.2.2.2.2 j hj
            · rw [decide_eq_false cs]
              exact jt fun h => by unfold fOk at h; omega
          · exact Ev.neg (by simpa using cb) (jt fun h => by unfold fOk at h; omega)
        · exact Ev.neg cc (jt fun h => by unfold fOk at h; omega)
      · exact Ev.neg c2 ((Ev.now _).eqr (decide_eq_false fun h => by unfold fOk at h; omega).symm)
def rfP (s : ByteArray) : Prop := (tv s).2.2 = true ∧ (tv (tv s).2.1).2.2 = true ∧ (tv (tv (tv s).2.1).2.1).2.2 = true ∧ (tt (tv (tv (tv s).2.1).2.1).2.1).2.2 = true ∧ (tt (tv (tv (tv s).2.1).2.1).2.1).2.1.toList = [] ∧
  fOk (tv s).1 (tv (tv s).2.1).1 (tv (tv (tv s).2.1).2.1).1 (tt (tv (tv (tv s).2.1).2.1).2.1).1
noncomputable instance (s : ByteArray) : Decidable (rfP s) := Classical.propDecidable _
noncomputable def rfV (s : ByteArray) : Int × Int × Int × ByteArray × Bool := if rfP s then ((tv s).1, (tv (tv s).2.1).1, (tv (tv (tv s).2.1).2.1).1, (tt (tv (tv (tv s).2.1).2.1).2.1).1, true) else (0, 0, 0, ⟨#[]⟩, false)
theorem fOk_small {a b c : Int} {t : ByteArray} (h : fOk a b c t) : (0 ≤ a ∧ a ≤ 2) ∧ (0 ≤ b ∧ b ≤ 3) ∧ (0 ≤ c ∧ c ≤ 30) ∧ t.size ≤ 1000 := by
  rcases h with h | h | h
  · have := nil_size h.2.2.2
    omega
  · omega
  · omega
theorem sReadFilter_ev (s : ByteArray) (hs : s.size ≤ 4611686018427387904) : Ev (fun k => spec_ReadFilter.f k s) (rfV s) := by
  obtain ⟨p0, p1, p2, _⟩ := tv_range s
  obtain ⟨q0, q1, q2, _⟩ := tv_range (tv s).2.1
  obtain ⟨r0, r1, r2, _⟩ := tv_range (tv (tv s).2.1).2.1
  obtain ⟨t0, t1, t2, _⟩ := tt_range (tv (tv (tv s).2.1).2.1).2.1
  unfold spec_ReadFilter.f
  refine Ev.bind (sTakeVar_ev s hs) (Ev.bind (sTakeVar_ev _ (by omega)) (Ev.bind (sTakeVar_ev _ (by omega)) (Ev.bind (sTakeText_ev _ (by omega)) ?_)))
  have jt : ¬ rfP s → Ev (fun k => spec_ReadFilter.j0 k (tv s).1 (tv (tv s).2.1).1 (tv (tv (tv s).2.1).2.1).1 (tt (tv (tv (tv s).2.1).2.1).2.1).1 true) (rfV s) := fun h => by
    refine Ev.step (fun k => spec_ReadFilter.j0.eq_2 ..) ?_
    exact Ev.pos rfl ((Ev.now _).eqr (if_neg h).symm)
  by_cases c1 : (tv s).2.2 = true
  case neg => exact Ev.neg c1 (jt fun h => c1 h.1)
  refine Ev.pos c1 ?_
  by_cases c2 : (tv (tv s).2.1).2.2 = true
  case neg => exact Ev.neg c2 (jt fun h => c2 h.2.1)
  refine Ev.pos c2 ?_
  by_cases c3 : (tv (tv (tv s).2.1).2.1).2.2 = true
  case neg => exact Ev.neg c3 (jt fun h => c3 h.2.2.1)
  refine Ev.pos c3 ?_
  by_cases c4 : (tt (tv (tv (tv s).2.1).2.1).2.1).2.2 = true
  case neg => exact Ev.neg c4 (jt fun h => c4 h.2.2.2.1)
  refine Ev.pos c4 ?_
  by_cases c5 : (tt (tv (tv (tv s).2.1).2.1).2.1).2.1.toList = []
  case neg => exact Ev.neg c5 (jt fun h => c5 h.2.2.2.2.1)
  refine Ev.pos c5 ?_
  by_cases c6 : (tv s).1 > 2
  case pos => exact Ev.pos c6 (jt fun h => by have := fOk_small h.2.2.2.2.2; omega)
  refine Ev.neg c6 ?_
  by_cases c7 : (tv (tv s).2.1).1 > 100
  case pos => exact Ev.pos c7 (jt fun h => by have := fOk_small h.2.2.2.2.2; omega)
  refine Ev.neg c7 ?_
  by_cases c8 : (tv (tv (tv s).2.1).2.1).1 > 100
  · rw [decide_eq_true c8]
    exact jt fun h => by have := fOk_small h.2.2.2.2.2; omega
  · rw [decide_eq_false c8]
    refine Ev.step (fun k => spec_ReadFilter.j0.eq_2 ..) ?_
    rw [wid (x := (tv s).1) (by omega) (by omega), wid (x := (tv (tv s).2.1).1) (by omega) (by omega), wid (x := (tv (tv (tv s).2.1).2.1).1) (by omega) (by omega)]
    refine Ev.neg (by decide) (Ev.bind (sFilterOk_ev _ _ _ _ (by omega)) ?_)
    by_cases c : fOk (tv s).1 (tv (tv s).2.1).1 (tv (tv (tv s).2.1).2.1).1 (tt (tv (tv (tv s).2.1).2.1).2.1).1
    · exact Ev.pos (decide_eq_true c) ((Ev.now _).eqr (if_pos ⟨c1, c2, c3, c4, c5, c⟩).symm)
    · exact Ev.neg (by simpa using c) ((Ev.now _).eqr (if_neg fun h => c h.2.2.2.2.2).symm)
theorem readFilter_ev (s : ByteArray) (hs : s.size ≤ 4611686018427387904) : Ev (fun k => impl_ReadFilter.f k s) (rfV s) := by
  have z1 := numT_size s false
  have z2 := numT_size (numT s false).2.1 (numT s false).2.2
  have z3 := numT_size (numT (numT s false).2.1 (numT s false).2.2).2.1 (numT (numT s false).2.1 (numT s false).2.2).2.2
  unfold impl_ReadFilter.f
  refine Ev.bind (number_taken s false hs) (Ev.bind (number_taken _ _ (by omega)) (Ev.bind (number_taken _ _ (by omega)) (Ev.bind (text_taken _ _ (by omega)) (Ev.bindS (whole_taken _ _) ?_))))
  have nb : ∀ (b1 : Bool) (b2 b3 : ByteArray) (x y z : Int) (t : ByteArray), b1 = true → ¬ rfP s → Ev (fun k => if (!b1 && (b2.toList == [])) = true then (impl_FilterOk.f k x y z t).bind fun t119 => (if t119 = true then (some (x, y, z, t, true)) else (some (0, 0, 0, (⟨#[]⟩ : ByteArray), false))) else (some (0, 0, 0, (⟨#[]⟩ : ByteArray), false))) (rfV s) := by
    intro b1 b2 b3 x y z t hb hn
    subst hb
    exact Ev.neg (by simp) ((Ev.now _).eqr (if_neg hn).symm)
  by_cases c1 : (tv s).2.2 = true ∧ (tv s).1 ≤ 4611686018427387904
  case neg => exact nb _ _ ⟨#[]⟩ _ _ _ _ (by rw [numT_not c1]; simp only [numT_bad, txtT_bad]) fun h => c1 ⟨h.1, by have := fOk_small h.2.2.2.2.2; omega⟩
  rw [numT_good c1.1 c1.2]
  by_cases c2 : (tv (tv s).2.1).2.2 = true ∧ (tv (tv s).2.1).1 ≤ 4611686018427387904
  case neg => exact nb _ _ ⟨#[]⟩ _ _ _ _ (by simp only []; rw [numT_not c2]; simp only [numT_bad, txtT_bad]) fun h => c2 ⟨h.2.1, by have := fOk_small h.2.2.2.2.2; omega⟩
  simp only []
  rw [numT_good c2.1 c2.2]
  by_cases c3 : (tv (tv (tv s).2.1).2.1).2.2 = true ∧ (tv (tv (tv s).2.1).2.1).1 ≤ 4611686018427387904
  case neg => exact nb _ _ ⟨#[]⟩ _ _ _ _ (by simp only []; rw [numT_not c3]; simp only [numT_bad, txtT_bad]) fun h => c3 ⟨h.2.2.1, by have := fOk_small h.2.2.2.2.2; omega⟩
  simp only []
  rw [numT_good c3.1 c3.2]
  by_cases c4 : (tt (tv (tv (tv s).2.1).2.1).2.1).2.2 = true
  case neg => exact nb _ _ ⟨#[]⟩ _ _ _ _ (by simp only []; rw [txtT_not c4]) fun h => c4 h.2.2.2.1
  simp only []
  rw [txtT_good c4]
  simp only []
  by_cases c5 : (tt (tv (tv (tv s).2.1).2.1).2.1).2.1.toList = []
  case neg => exact Ev.neg (by simpa using c5) ((Ev.now _).eqr (if_neg fun h => c5 h.2.2.2.2.1).symm)
  obtain ⟨_, _, p2, _⟩ := tv_range s
  obtain ⟨_, _, q2, _⟩ := tv_range (tv s).2.1
  obtain ⟨_, _, r2, _⟩ := tv_range (tv (tv s).2.1).2.1
  obtain ⟨_, t1, t2, _⟩ := tt_range (tv (tv (tv s).2.1).2.1).2.1
  refine Ev.pos (by simpa using c5) (Ev.bind (filterOk_ev _ _ _ _ (by omega)) ?_)
  by_cases c : fOk (tv s).1 (tv (tv s).2.1).1 (tv (tv (tv s).2.1).2.1).1 (tt (tv (tv (tv s).2.1).2.1).2.1).1
  · exact Ev.pos (decide_eq_true c) ((Ev.now _).eqr (if_pos ⟨c1.1, c2.1, c3.1, c4, c5, c⟩).symm)
  · exact Ev.neg (by simpa using c) ((Ev.now _).eqr (if_neg fun h => c h.2.2.2.2.2).symm)
end Go.Proofs.Ytedgdnkbojjbmaa.Pure
end

section
namespace Go.Proofs.Ytedgdnkbojjbmaa.Pure
open Go.RowKit Go.Proofs.YtedgdnkbojjbmaaW.PrintWords Go.Proofs.YtedgdnkbojjbmaaW.PrintLast Go.Proofs.YtedgdnkbojjbmaaW.PrintMore
open Go.Proofs.Ytedgdnkbojjbmaa.P
set_option linter.unusedVariables false
set_option linter.unusedSimpArgs false
theorem fba_assoc (a b c : ByteArray) : (a ++ b) ++ c = a ++ (b ++ c) := by
  apply ByteArray.ext
  simp [ByteArray.data_append, Array.append_assoc]
theorem fba_nil (a : ByteArray) : a ++ (⟨#[]⟩ : ByteArray) = a := by
  apply ByteArray.ext
  simp [ByteArray.data_append]
def fbody (a b c : Int) (t : ByteArray) : ByteArray := ((pv a.toNat ++ pv b.toNat) ++ pv c.toNat) ++ pt t
noncomputable def ftV (a b c : Int) (t : ByteArray) : ByteArray := if fOk a b c t then fbody a b c t else ⟨#[]⟩
theorem ftV_size (a b c : Int) (t : ByteArray) : (ftV a b c t).size ≤ 1100 := by
  unfold ftV
  split
  · rename_i h
    obtain ⟨h1, h2, h3, h4⟩ := fOk_small h
    have e1 := pv_size (n := a.toNat) (by omega)
    have e2 := pv_size (n := b.toNat) (by omega)
    have e3 := pv_size (n := c.toNat) (by omega)
    have e4 := pt_size t (by omega)
    unfold fbody
    simp only [ByteArray.size_append]
    omega
  · exact Nat.zero_le _
theorem fputI_ev (n : Int) (h : 0 ≤ n) (h1 : n < 9223372036854775808) : Ev (fun k => impl_putInt.f k n) (pv n.toNat) := by
  have := putInt_ev n.toNat (by omega)
  rw [Int.toNat_of_nonneg h] at this
  exact this
theorem fsPutI_ev (n : Int) (h : 0 ≤ n) (h1 : n < 9223372036854775808) : Ev (fun k => spec_PutVar.f k (IntKind.u64.wrap n)) (pv n.toNat) := by
  have := sPutVar_ev n.toNat (by omega)
  rw [Int.toNat_of_nonneg h] at this
  rw [uid h (by omega)]
  exact this
theorem filterText_ev (a b c : Int) (t : ByteArray) (ht : t.size ≤ 4611686018427387904) : Ev (fun k => impl_FilterText.f k a b c t) (ftV a b c t) := by
  unfold impl_FilterText.f ftV
  refine Ev.bind (filterOk_ev a b c t ht) ?_
  by_cases h : fOk a b c t
  case neg =>
    rw [if_neg h]
    exact Ev.neg (by simp [h]) (Ev.now _)
  rw [if_pos h]
  obtain ⟨h1, h2, h3, h4⟩ := fOk_small h
  have e1 := pv_size (n := a.toNat) (by omega)
  have e2 := pv_size (n := b.toNat) (by omega)
  have e3 := pv_size (n := c.toNat) (by omega)
  have e4 := pt_size t (by omega)
  unfold fbody
  refine Ev.pos (decide_eq_true h) (Ev.bind (fputI_ev a (by omega) (by omega)) (Ev.bind (fputI_ev b (by omega) (by omega)) (Ev.pos (by omega) (Ev.bind (fputI_ev c (by omega) (by omega)) (Ev.pos ?_ (Ev.bind (putText_ev t (by omega)) (Ev.pos ?_ (Ev.now _))))))))
  all_goals (first | omega | (simp only [ByteArray.size_append]; omega))
theorem sFilterText_ev (a b c : Int) (t : ByteArray) (ht : t.size ≤ 4611686018427387904) : Ev (fun k => spec_FilterText.f k a b c t) (ftV a b c t) := by
  unfold spec_FilterText.f ftV
  refine Ev.bind (sFilterOk_ev a b c t ht) ?_
  by_cases h : fOk a b c t
  case neg =>
    rw [if_neg h]
    exact Ev.neg (by simp [h]) (Ev.now _)
  rw [if_pos h]
  obtain ⟨h1, h2, h3, h4⟩ := fOk_small h
  have e1 := pv_size (n := a.toNat) (by omega)
  have e2 := pv_size (n := b.toNat) (by omega)
  have e3 := pv_size (n := c.toNat) (by omega)
  have e4 := pt_size t (by omega)
  unfold fbody
  refine Ev.pos (decide_eq_true h) (Ev.bind (fsPutI_ev a (by omega) (by omega)) (Ev.bind (fsPutI_ev b (by omega) (by omega)) (Ev.pos (by omega) (Ev.bind (fsPutI_ev c (by omega) (by omega)) (Ev.pos ?_ (Ev.bind (sPutText_ev t (by omega)) (Ev.pos ?_ (Ev.now _))))))))
  all_goals (first | omega | (simp only [ByteArray.size_append]; omega))
theorem rfV_round {a b c : Int} {t : ByteArray} (h : fOk a b c t) : rfV (fbody a b c t) = (a, b, c, t, true) := by
  obtain ⟨h1, h2, h3, h4⟩ := fOk_small h
  have e : fbody a b c t = pv a.toNat ++ (pv b.toNat ++ (pv c.toNat ++ (pt t ++ ⟨#[]⟩))) := by
    unfold fbody
    rw [fba_nil]
    simp only [fba_assoc]
  have q1 := tv_pv a.toNat (by omega) (pv b.toNat ++ (pv c.toNat ++ (pt t ++ ⟨#[]⟩)))
  have q2 := tv_pv b.toNat (by omega) (pv c.toNat ++ (pt t ++ ⟨#[]⟩))
  have q3 := tv_pv c.toNat (by omega) (pt t ++ ⟨#[]⟩)
  have q4 := tt_pt t ⟨#[]⟩ (by omega)
  rw [Int.toNat_of_nonneg (by omega)] at q1 q2 q3
  rw [e]
  have hp : rfP (pv a.toNat ++ (pv b.toNat ++ (pv c.toNat ++ (pt t ++ ⟨#[]⟩)))) := by
    unfold rfP
    rw [q1, q2, q3, q4]
    exact ⟨rfl, rfl, rfl, rfl, by simp [ByteArray.toList_eq], h⟩
  unfold rfV
  rw [if_pos hp, q1, q2, q3, q4]
theorem rfV_empty : rfV ⟨#[]⟩ = (0, 0, 0, ⟨#[]⟩, false) := by
  unfold rfV
  rw [if_neg]
  intro h
  have := (tv_range (⟨#[]⟩ : ByteArray)).2.2.2 h.1
  rw [empty_size] at this
  omega
theorem rfV_back (s : ByteArray) (h : (rfV s).2.2.2.2 = true) : ftV (rfV s).1 (rfV s).2.1 (rfV s).2.2.1 (rfV s).2.2.2.1 = s := by
  unfold rfV at h ⊢
  split at h
  case isFalse => cases h
  rename_i c
  rw [if_pos c]
  obtain ⟨c1, c2, c3, c4, c5, c6⟩ := c
  show ftV (tv s).1 (tv (tv s).2.1).1 (tv (tv (tv s).2.1).2.1).1 (tt (tv (tv (tv s).2.1).2.1).2.1).1 = s
  unfold ftV
  rw [if_pos c6]
  have b1 := tv_back s c1
  generalize tv s = A at *
  have b2 := tv_back _ c2
  generalize tv A.2.1 = B at *
  have b3 := tv_back _ c3
  generalize tv B.2.1 = C at *
  have b4 := tt_back _ c4
  generalize tt C.2.1 = D at *
  have e : D.2.1 = ⟨#[]⟩ := nil_eq c5
  unfold fbody
  rw [b1, b2, b3, b4, e, fba_nil]
  simp only [fba_assoc]
end Go.Proofs.Ytedgdnkbojjbmaa.Pure
end

section
namespace Go.Proofs.Ytedgdnkbojjbmaa.Pure
open Go.RowKit Go.Proofs.YtedgdnkbojjbmaaW.PrintWords Go.Proofs.YtedgdnkbojjbmaaW.PrintLast Go.Proofs.YtedgdnkbojjbmaaW.PrintMore
open Go.Proofs.Ytedgdnkbojjbmaa.P
set_option linter.unusedVariables false
set_option linter.unusedSimpArgs false
theorem u64w (n : Int) : IntKind.u64.wrap n = n % 18446744073709551616 := by simp [IntKind.wrap, IntKind.bits, IntKind.signed]
theorem toNat64 (a : Nat) (ha : a < 18446744073709551616) : (BitVec.ofInt 64 (a : Int)).toNat = a := by
  rw [BitVec.ofInt_natCast, BitVec.toNat_ofNat]
  exact Nat.mod_eq_of_lt (by omega)
theorem xorN (a b : Nat) (ha : a < 18446744073709551616) (hb : b < 18446744073709551616) : Go.bits .xor .u64 (a : Int) (b : Int) = ((a ^^^ b : Nat) : Int) := by
  have hx : a ^^^ b < 2 ^ 64 := Nat.xor_lt_two_pow (by omega) (by omega)
  show IntKind.u64.wrap ((BitVec.ofInt 64 (a : Int) ^^^ BitVec.ofInt 64 (b : Int)).toNat : Int) = _
  rw [BitVec.toNat_xor, toNat64 a ha, toNat64 b hb, u64w]
  omega
theorem orN (a b : Nat) (ha : a < 18446744073709551616) (hb : b < 18446744073709551616) : Go.bits .or .u64 (a : Int) (b : Int) = ((a ||| b : Nat) : Int) := by
  have hx : a ||| b < 2 ^ 64 := Nat.or_lt_two_pow (by omega) (by omega)
  show IntKind.u64.wrap ((BitVec.ofInt 64 (a : Int) ||| BitVec.ofInt 64 (b : Int)).toNat : Int) = _
  rw [BitVec.toNat_or, toNat64 a ha, toNat64 b hb, u64w]
  omega
theorem or1N (a m : Nat) (h : a < 2 ^ m) (hm : 1 ≤ m) : (a ||| 1) < 2 ^ m ∧ (a ||| 1) % 2 = 1 := by
  refine ⟨Nat.or_lt_two_pow h (Nat.one_lt_two_pow (by omega)), ?_⟩
  have := Nat.or_mod_two_pow (a := a) (b := 1) (n := 1)
  rw [Nat.pow_one] at this
  rw [this]
  rcases Nat.mod_two_eq_zero_or_one a with h | h <;> rw [h] <;> rfl
theorem xorEven (a b : Nat) (ha : a % 2 = 1) (hb : b % 2 = 1) : (a ^^^ b) % 2 = 0 := by
  have := Nat.xor_mod_two_pow (a := a) (b := b) (n := 1)
  rw [Nat.pow_one] at this
  rw [this, ha, hb]
  rfl
theorem hash_ev (a : Int) (t : ByteArray) (ht : t.size ≤ 1000000) : ∃ r : Nat, r < 18446744073709551616 ∧ Ev (fun k => spec_Hash.f k a t) (r : Int) := by
  have bn : ∀ o x y, ∃ r : Nat, r < 18446744073709551616 ∧ Go.bits o .u64 x y = (r : Int) := fun o x y => by
    obtain ⟨h1, h2⟩ := bits_u64 o x y
    exact ⟨(Go.bits o .u64 x y).toNat, by omega, by omega⟩
  have key : ∀ i, i ≤ t.size → ∀ h : Int, ∃ r : Nat, r < 18446744073709551616 ∧ Ev (fun k => spec_Hash.l0 k t h (i : Int)) (r : Int) := by
    refine downTo t.size ?_ ?_
    · intro h
      obtain ⟨r, hr, he⟩ := bn .xor (IntKind.u64.wrap ((Go.bits .xor .u64 (IntKind.u64.wrap ((Go.bits .xor .u64 h (h / 1073741824)) * 13787848793156543929)) ((IntKind.u64.wrap ((Go.bits .xor .u64 h (h / 1073741824)) * 13787848793156543929)) / 134217728)) * 10723151780598845931)) ((IntKind.u64.wrap ((Go.bits .xor .u64 (IntKind.u64.wrap ((Go.bits .xor .u64 h (h / 1073741824)) * 13787848793156543929)) ((IntKind.u64.wrap ((Go.bits .xor .u64 h (h / 1073741824)) * 13787848793156543929)) / 134217728)) * 10723151780598845931)) / 2147483648)
      refine ⟨r, hr, ?_⟩
      refine Ev.step (fun k => spec_Hash.l0.eq_2 ..) ?_
      exact Ev.neg (by omega) ((Ev.now _).eqr he)
    · intro i hi ih h
      obtain ⟨r, hr, he⟩ := ih (IntKind.u64.wrap ((Go.bits .xor .u64 h (IntKind.u64.wrap (bt t (i : Int)))) * 1099511628211))
      refine ⟨r, hr, ?_⟩
      refine Ev.step (fun k => spec_Hash.l0.eq_2 ..) ?_
      rw [wsucc (by omega)]
      exact Ev.pos (by omega) (Ev.pos (by omega) he)
  exact key 0 (Nat.zero_le _) _
theorem sUsersOk_ev (us : List ByteArray) (h : us.length ≤ 15) : ∃ b, Ev (fun k => spec_UsersOk.f k us) b := by
  unfold spec_UsersOk.f
  have key : ∀ i, i ≤ us.length → ∃ b, Ev (fun k => spec_UsersOk.l0 k us (i : Int)) b := by
    refine downTo us.length ?_ ?_
    · exact ⟨true, Ev.step (fun k => spec_UsersOk.l0.eq_2 ..) (Ev.neg (by omega) (Ev.now _))⟩
    · intro i hi ih
      obtain ⟨b, hb⟩ := ih
      by_cases c : isU (rdOf ByteArray.empty us (i : Int))
      · refine ⟨b, ?_⟩
        refine Ev.step (fun k => spec_UsersOk.l0.eq_2 ..) ?_
        rw [wsucc (by omega)]
        exact Ev.pos (by omega) (Ev.pos (by omega) (Ev.bindS (l2User_ev _) (Ev.pos (decide_eq_true c) hb)))
      · refine ⟨false, ?_⟩
        refine Ev.step (fun k => spec_UsersOk.l0.eq_2 ..) ?_
        exact Ev.pos (by omega) (Ev.pos (by omega) (Ev.bindS (l2User_ev _) (Ev.neg (by simp [c]) (Ev.now _))))
  obtain ⟨b, hb⟩ := key 0 (Nat.zero_le _)
  exact ⟨b, Ev.neg (by omega) hb⟩
theorem rdOf_mem {us : List ByteArray} {i : Nat} (h : i < us.length) (n : Nat) (hs : ∀ u ∈ us, u.size ≤ n) : (rdOf ByteArray.empty us (i : Int)).size ≤ n := by
  unfold rdOf
  rw [Int.toNat_natCast, List.getD_eq_getElem?_getD, List.getElem?_eq_getElem h]
  exact hs _ (List.getElem_mem h)
theorem bloom_ev (us : List ByteArray) (h : us.length ≤ 15) (hs : ∀ u ∈ us, u.size ≤ 100) : ∃ r, Ev (fun k => spec_BloomOf.f k us 10) r ∧ r.2.2.2.1.size ≤ 1000 := by
  obtain ⟨b, hb⟩ := sUsersOk_ev us h
  unfold spec_BloomOf.f
  have bad : ∃ r, Ev (fun k => spec_BloomOf.j0 k us 10 true) r ∧ r.2.2.2.1.size ≤ 1000 := by
    refine ⟨(0, 0, 0, ⟨#[]⟩, false), ?_, Nat.zero_le _⟩
    refine Ev.step (fun k => spec_BloomOf.j0.eq_2 ..) ?_
    exact Ev.pos rfl (Ev.now _)
  cases b with
  | false =>
    obtain ⟨r, hr, h2⟩ := bad
    exact ⟨r, Ev.bind hb (Ev.neg (by decide) hr), h2⟩
  | true =>
  have hin := in_ev 10 1 20
  rw [show decide ((1 : Int) ≤ 10 ∧ (10 : Int) ≤ 20) = true from by decide] at hin
  have e1 : ∃ n : Nat, 8 ≤ n ∧ n ≤ 100 ∧ wrap64 (Int.tdiv (wrap64 ((mx 64 (wrap64 ((us.length : Int) * 10))) + 7)) 8) = (n : Int) := by
    rw [wid (x := (us.length : Int) * 10) (by omega) (by omega)]
    have hm : 64 ≤ mx 64 ((us.length : Int) * 10) ∧ mx 64 ((us.length : Int) * 10) ≤ 150 := by
      unfold mx
      split <;> omega
    generalize mx 64 ((us.length : Int) * 10) = m at hm
    rw [wid (x := m + 7) (by omega) (by omega), Int.tdiv_eq_ediv_of_nonneg (by omega), wid (by omega) (by omega)]
    exact ⟨((m + 7) / 8).toNat, by omega, by omega, by omega⟩
  obtain ⟨n, n1, n2, en⟩ := e1
  have e2 : mn (mx 1 (wrap64 (Int.tdiv (wrap64 ((10 : Int) * 69)) 100))) 30 = 6 := by
    rw [wid (x := (10 : Int) * 69) (by decide) (by decide), wid (by decide) (by decide)]
    rfl
  have key : ∀ i, i ≤ us.length → ∀ bits : List Int, bits.length = n → ∃ r, Ev (fun k => spec_BloomOf.l0 k us (n : Int) 6 bits (i : Int)) r ∧ r.2.2.2.1.size ≤ 1000 := by
    refine downTo us.length ?_ ?_
    · intro bits hl
      refine ⟨(1, 0, 6, strOfNums bits, true), ?_, ?_⟩
      · refine Ev.step (fun k => spec_BloomOf.l0.eq_2 ..) ?_
        exact Ev.neg (by omega) (Ev.now _)
      · show (strOfNums bits).size ≤ 1000
        unfold strOfNums
        simp [ByteArray.size, hl]
        omega
    · intro i hi ih bits hl
      obtain ⟨x, hx, he⟩ := hash_ev 0 (rdOf ByteArray.empty us (i : Int)) (by have := rdOf_mem hi 100 hs; omega)
      have inner : ∀ j : Nat, j ≤ 6 → ∀ bits : List Int, bits.length = n → ∃ r, Ev (fun k => spec_BloomOf.l1 k us (n : Int) 6 bits (i : Int) (j : Int)) r ∧ r.2.2.2.1.size ≤ 1000 := by
        refine downTo 6 ?_ ?_
        · intro bits hl
          obtain ⟨r, hr, h2⟩ := ih bits hl
          refine ⟨r, ?_, h2⟩
          refine Ev.step (fun k => spec_BloomOf.l1.eq_2 ..) ?_
          rw [wsucc (i := i) (by omega)]
          exact Ev.neg (by omega) hr
        · intro j hj ih2 bits hl
          have w8 : IntKind.u64.wrap (wrap64 (8 * (n : Int))) = 8 * (n : Int) := by rw [wid (by omega) (by omega), uid (by omega) (by omega)]
          have hp : ∃ y : Int, spec_l3Place.f = spec_l3Place.f ∧ Ev (fun k => spec_l3Place.f k (rdOf ByteArray.empty us (i : Int)) (j : Int) (IntKind.u64.wrap (wrap64 (8 * (n : Int))))) y ∧ 0 ≤ y ∧ y < 8 * (n : Int) := by
            rw [w8]
            unfold spec_l3Place.f
            refine ⟨_, rfl, Ev.bind he (Ev.neg (by omega) (Ev.now _)), ?_, ?_⟩
            · rw [u64w, Int.tmod_eq_emod_of_nonneg (Int.emod_nonneg _ (by decide))]
              exact Int.emod_nonneg _ (by omega)
            · rw [u64w, Int.tmod_eq_emod_of_nonneg (Int.emod_nonneg _ (by decide))]
              exact Int.emod_lt_of_pos _ (by omega)
          obtain ⟨y, _, hy, y0, y1⟩ := hp
          have d8 : IntKind.u64.wrap (Int.tdiv y 8) = y / 8 := by rw [Int.tdiv_eq_ediv_of_nonneg y0, uid (by omega) (by omega)]
          obtain ⟨r, hr, h2⟩ := ih2 (bits.set (y / 8).toNat (Go.bits .or .u8 (rd bits (y / 8)) (shl .u8 1 (Int.tmod y 8)))) (by rw [List.length_set]; exact hl)
          refine ⟨r, ?_, h2⟩
          refine Ev.step (fun k => spec_BloomOf.l1.eq_2 ..) ?_
          rw [wsucc (by omega)]
          refine Ev.pos (by omega) (Ev.pos (by omega) (Ev.pos (by omega) (Ev.bind hy ?_)))
          rw [d8]
          exact Ev.pos (by omega) (Ev.pos (by omega) (Ev.pos (Int.tmod_nonneg _ y0) hr))
      obtain ⟨r, hr, h2⟩ := inner 0 (by omega) bits hl
      refine ⟨r, ?_, h2⟩
      refine Ev.step (fun k => spec_BloomOf.l0.eq_2 ..) ?_
      exact Ev.pos (by omega) hr
  obtain ⟨r, hr, h2⟩ := key 0 (Nat.zero_le _) (List.replicate n 0) (by simp)
  refine ⟨r, Ev.bind hb (Ev.pos rfl (Ev.bindS hin ?_)), h2⟩
  refine Ev.step (fun k => spec_BloomOf.j0.eq_2 ..) ?_
  rw [en, e2, Int.toNat_natCast]
  exact Ev.neg (by decide) (Ev.pos (by omega) (Ev.pos (by omega) hr))
def okB (n : Nat) (b : List Int) : Prop := b.length = n ∧ ∀ j : Nat, j < n → ∃ x : Nat, rd b (j : Int) = (x : Int) ∧ (x = 0 ∨ x % 2 = 1) ∧ x < 2 ^ (n - j) ∧ x < 2 ^ 16
theorem rd_set (b : List Int) (i j : Nat) (x : Int) (h : i < b.length) : rd (b.set i x) (j : Int) = if i = j then x else rd b (j : Int) := by
  unfold rd
  rw [Int.toNat_natCast, List.getD_eq_getElem?_getD, List.getD_eq_getElem?_getD]
  by_cases e : i = j
  · subst e
    rw [if_pos rfl, List.getElem?_set_self h]
    rfl
  · rw [if_neg e, List.getElem?_set_ne e]
theorem l4Row_ev (u : ByteArray) (hu : u.size ≤ 100) (seed : Int) (n : Nat) (n0 : 20 ≤ n) (n1 : n ≤ 100) : ∃ (at_ row sum : Nat), Ev (fun k => spec_l4Row.f k u seed (n : Int)) ((at_ : Int), (row : Int), (sum : Int)) ∧ at_ ≤ n - 16 ∧ row < 2 ^ 16 ∧ row % 2 = 1 ∧ sum < 128 := by
  obtain ⟨x, hx, he⟩ := hash_ev (seed % 4294967296) u (by omega)
  have e1 : IntKind.u64.wrap (wrap64 ((n : Int) - 15)) = ((n - 15 : Nat) : Int) := by rw [wid (by omega) (by omega), uid (by omega) (by omega)]; omega
  obtain ⟨o1, o2⟩ := or1N (x % 65536) 16 (by omega) (by omega)
  refine ⟨x / 4294967296 % (n - 15), (x % 65536) ||| 1, x / 65536 % 128, ?_, ?_, o1, o2, Nat.mod_lt _ (by decide)⟩
  · unfold spec_l4Row.f
    rw [e1]
    refine Ev.bind he (Ev.neg (by omega) ((Ev.now _).eqr ?_))
    have a1 : Int.tmod ((x : Int) / 4294967296) ((n - 15 : Nat) : Int) = ((x / 4294967296 % (n - 15) : Nat) : Int) := by
      rw [Int.tmod_eq_emod_of_nonneg (by omega), Int.natCast_emod, Int.natCast_ediv]
      rfl
    have a2 : Int.tmod (x : Int) 65536 = ((x % 65536 : Nat) : Int) := by rw [Int.tmod_eq_emod_of_nonneg (by omega)]; omega
    have a3 : Int.tmod ((x : Int) / 65536) 128 = ((x / 65536 % 128 : Nat) : Int) := by rw [Int.tmod_eq_emod_of_nonneg (by omega)]; omega
    have lt : x / 4294967296 % (n - 15) < n - 15 := Nat.mod_lt _ (by omega)
    rw [a1, a2, a3, wid (by omega) (by omega), show (1 : Int) = ((1 : Nat) : Int) from rfl, orN _ _ (by omega) (by omega)]
  · have lt : x / 4294967296 % (n - 15) < n - 15 := Nat.mod_lt _ (by omega)
    omega
set_option maxHeartbeats 1000000 in
theorem rib_back (seed : Int) (n : Nat) (n1 : n ≤ 100) (band sums : List Int) (hB : okB n band) (hsl : sums.length = n) : ∀ (m : Nat) (out : List Int), m ≤ n → out.length = n → ∃ r, Ev (fun k => spec_RibbonOf.l2 k seed band sums out ((m : Int) - 1)) r ∧ r.2.2.2.1.size ≤ 1000 := by
  intro m
  induction m with
  | zero =>
    intro out _ ho
    refine ⟨(2, seed, 0, strOfNums out, true), ?_, ?_⟩
    · refine Ev.step (fun k => spec_RibbonOf.l2.eq_2 ..) ?_
      exact Ev.neg (by omega) (Ev.now _)
    · show (strOfNums out).size ≤ 1000
      unfold strOfNums
      simp [ByteArray.size, ho]
      omega
  | succ m ih =>
    intro out hm ho
    obtain ⟨x, hx, _, x1, x2⟩ := hB.2 m (by omega)
    have hpos : (((m + 1 : Nat) : Int) - 1) = (m : Int) := by omega
    have inner : ∀ j : Nat, j ≤ 16 → 1 ≤ j → ∀ acc : Int, ∃ r, Ev (fun k => spec_RibbonOf.l3 k seed band sums out (m : Int) acc (j : Int)) r ∧ r.2.2.2.1.size ≤ 1000 := by
      refine downTo 16 ?_ ?_
      · intro _ acc
        obtain ⟨r, hr, h2⟩ := ih (out.set m (acc % 256)) (by omega) (by rw [List.length_set]; exact ho)
        refine ⟨r, ?_, h2⟩
        refine Ev.step (fun k => spec_RibbonOf.l3.eq_2 ..) ?_
        rw [wid (x := (m : Int) - 1) (by omega) (by omega), Int.toNat_natCast]
        exact Ev.neg (by omega) (Ev.pos (by omega) (Ev.pos (by omega) hr))
      · intro j hj ih2 hj1 acc
        have hw : IntKind.u64.wrap (j : Int) = (j : Int) := uid (by omega) (by omega)
        have hsh : shr .u64 (rd band (m : Int)) (j : Int) = ((x / 2 ^ j : Nat) : Int) := by
          unfold shr
          rw [hx, show min (j : Int).toNat IntKind.u64.bits = j from by simp only [IntKind.bits]; omega, Int.natCast_ediv]
          norm_cast
        have ht : Int.tmod (shr .u64 (rd band (m : Int)) (j : Int)) 2 = ((x / 2 ^ j % 2 : Nat) : Int) := by
          rw [hsh]
          generalize x / 2 ^ j = y
          rw [Int.tmod_eq_emod_of_nonneg (by omega)]
          omega
        have hbit : x / 2 ^ j % 2 = 1 → j < n - m := by
          intro cb
          apply Nat.lt_of_not_le
          intro hge
          have : x < 2 ^ j := Nat.lt_of_lt_of_le x1 (Nat.pow_le_pow_right (by decide) hge)
          rw [Nat.div_eq_of_lt this] at cb
          cases cb
        generalize x / 2 ^ j % 2 = y at ht hbit
        clear hsh x1 x2 hx
        by_cases cb : y = 1
        · have hlt := hbit cb
          have q0 : m + j < n := by omega
          have q1 : 0 ≤ (m : Int) + (j : Int) := Int.add_nonneg (Int.natCast_nonneg _) (Int.natCast_nonneg _)
          have q2 : (m : Int) + (j : Int) < (out.length : Int) := by rw [ho]; exact_mod_cast q0
          obtain ⟨r, hr, h2⟩ := ih2 (by omega) (Go.bits .xor .u64 acc (IntKind.u64.wrap (rd out (wrap64 ((m : Int) + (j : Int))))))
          refine ⟨r, ?_, h2⟩
          refine Ev.step (fun k => spec_RibbonOf.l3.eq_2 ..) ?_
          rw [hw, ht, wsucc (i := j) (by omega)]
          refine Ev.pos (by omega) (Ev.pos (by omega) (Ev.pos (by rw [hB.1]; omega) (Ev.pos (by omega) (Ev.pos (by rw [cb]; rfl) ?_))))
          have hwa : wrap64 ((m : Int) + (j : Int)) = (m : Int) + (j : Int) := wid (by omega) (by omega)
          rw [hwa] at hr ⊢
          exact Ev.pos q1 (Ev.pos q2 hr)
        · obtain ⟨r, hr, h2⟩ := ih2 (by omega) acc
          refine ⟨r, ?_, h2⟩
          refine Ev.step (fun k => spec_RibbonOf.l3.eq_2 ..) ?_
          rw [hw, ht, wsucc (i := j) (by omega)]
          exact Ev.pos (by omega) (Ev.pos (by omega) (Ev.pos (by rw [hB.1]; omega) (Ev.pos (by omega) (Ev.neg (fun hh => cb (by exact_mod_cast hh)) hr))))
    obtain ⟨r, hr, h2⟩ := inner 1 (by omega) (Nat.le_refl _) (rd sums (m : Int))
    refine ⟨r, ?_, h2⟩
    refine Ev.step (fun k => spec_RibbonOf.l2.eq_2 ..) ?_
    rw [hpos]
    exact Ev.pos (by omega) (Ev.pos (by omega) (Ev.pos (by omega) hr))
set_option maxHeartbeats 1000000 in
theorem ribbon_ev (us : List ByteArray) (h : us.length ≤ 15) (hs : ∀ u ∈ us, u.size ≤ 100) (seed : Int) : ∃ r, Ev (fun k => spec_RibbonOf.f k us seed) r ∧ r.2.2.2.1.size ≤ 1000 := by
  obtain ⟨b, hb⟩ := sUsersOk_ev us h
  unfold spec_RibbonOf.f
  have bad : ∃ r, Ev (fun k => spec_RibbonOf.j0 k us seed true) r ∧ r.2.2.2.1.size ≤ 1000 := by
    refine ⟨(0, 0, 0, ⟨#[]⟩, false), ?_, Nat.zero_le _⟩
    refine Ev.step (fun k => spec_RibbonOf.j0.eq_2 ..) ?_
    exact Ev.pos rfl (Ev.now _)
  cases b with
  | false =>
    obtain ⟨r, hr, h2⟩ := bad
    exact ⟨r, Ev.bind hb (Ev.neg (by decide) hr), h2⟩
  | true =>
  have hin := in_ev seed 0 3
  by_cases c : 0 ≤ seed ∧ seed ≤ 3
  case neg =>
    rw [decide_eq_false c] at hin
    obtain ⟨r, hr, h2⟩ := bad
    exact ⟨r, Ev.bind hb (Ev.pos rfl (Ev.bindS hin hr)), h2⟩
  rw [decide_eq_true c] at hin
  have e1 : ∃ n : Nat, 20 ≤ n ∧ n ≤ 100 ∧ wrap64 ((wrap64 ((us.length : Int) + (wrap64 ((us.length : Int) / 4)))) + 20) = (n : Int) := by
    rw [wid (x := (us.length : Int) / 4) (by omega) (by omega), wid (x := (us.length : Int) + (us.length : Int) / 4) (by omega) (by omega), wid (by omega) (by omega)]
    exact ⟨us.length + us.length / 4 + 20, by omega, by omega, by omega⟩
  obtain ⟨n, n0, n1, en⟩ := e1
  have key : ∀ i, i ≤ us.length → ∀ band sums : List Int, okB n band → (sums.length = n ∧ ∀ j : Nat, ∃ y : Nat, rd sums (j : Int) = (y : Int) ∧ y < 128) → ∃ r, Ev (fun k => spec_RibbonOf.l0 k us seed (n : Int) band sums (i : Int)) r ∧ r.2.2.2.1.size ≤ 1000 := by
    refine downTo us.length ?_ ?_
    · intro band sums hB hS
      obtain ⟨r, hr, h2⟩ := rib_back seed n n1 band sums hB hS.1 n (List.replicate n 0) (Nat.le_refl _) (by simp)
      refine ⟨r, ?_, h2⟩
      refine Ev.step (fun k => spec_RibbonOf.l0.eq_2 ..) ?_
      rw [wid (x := (n : Int) - 1) (by omega) (by omega), Int.toNat_natCast]
      exact Ev.neg (by omega) (Ev.pos (by omega) (Ev.pos (by omega) hr))
    · intro i hi ih band sums hB hS
      obtain ⟨at0, row0, sum0, he, ha, hr16, hr1, hs1⟩ := l4Row_ev (rdOf ByteArray.empty us (i : Int)) (rdOf_mem hi 100 hs) seed n n0 n1
      have inner : ∀ (d : Nat) (at_ row sum : Nat) (band sums : List Int), okB n band → (sums.length = n ∧ ∀ j : Nat, ∃ y : Nat, rd sums (j : Int) = (y : Int) ∧ y < 128) → at_ ≤ n → row < 2 ^ (n - at_) → row < 2 ^ 16 → sum < 128 → 2 * (n - at_) + row % 2 ≤ d →
          ∃ r, Ev (fun k => spec_RibbonOf.l1 k us seed (n : Int) band sums (i : Int) (at_ : Int) (row : Int) (sum : Int)) r ∧ r.2.2.2.1.size ≤ 1000 := by
        have fin : ∀ (at_ sum : Nat) (band sums : List Int), okB n band → (sums.length = n ∧ ∀ j : Nat, ∃ y : Nat, rd sums (j : Int) = (y : Int) ∧ y < 128) → ∃ r, Ev (fun k => spec_RibbonOf.l1 k us seed (n : Int) band sums (i : Int) (at_ : Int) ((0 : Nat) : Int) (sum : Int)) r ∧ r.2.2.2.1.size ≤ 1000 := by
          intro at_ sum band sums hB hS
          by_cases c0 : sum = 0
          · subst c0
            obtain ⟨r, hr, h2⟩ := ih band sums hB hS
            refine ⟨r, ?_, h2⟩
            refine Ev.step (fun k => spec_RibbonOf.l1.eq_2 ..) ?_
            rw [wsucc (i := i) (by omega)]
            exact Ev.neg (by omega) (Ev.pos rfl hr)
          · refine ⟨(0, 0, 0, ⟨#[]⟩, false), ?_, Nat.zero_le _⟩
            refine Ev.step (fun k => spec_RibbonOf.l1.eq_2 ..) ?_
            exact Ev.neg (by omega) (Ev.neg (by omega) (Ev.now _))
        intro d
        induction d with
        | zero =>
          intro at_ row sum band sums hB hS h1 h2 h3 h4 h5
          have : row = 0 := by
            have e : n - at_ = 0 := by omega
            rw [e] at h2
            omega
          subst this
          exact fin at_ sum band sums hB hS
        | succ d ihd =>
          intro at_ row sum band sums hB hS h1 h2 h3 h4 h5
          by_cases c0 : row = 0
          · subst c0
            exact fin at_ sum band sums hB hS
          have hlt : at_ < n := by
            apply Nat.lt_of_not_le
            intro hge
            rw [show n - at_ = 0 from by omega] at h2
            omega
          have htm : Int.tmod (row : Int) 2 = ((row % 2 : Nat) : Int) := by rw [Int.tmod_eq_emod_of_nonneg (by omega)]; omega
          by_cases c2 : row % 2 = 0
          · have hd2 : row / 2 < 2 ^ (n - (at_ + 1)) := by
              rw [show n - at_ = (n - (at_ + 1)) + 1 from by omega, Nat.pow_succ] at h2
              omega
            obtain ⟨r, hr, h6⟩ := ihd (at_ + 1) (row / 2) sum band sums hB hS (by omega) hd2 (by omega) h4 (by omega)
            refine ⟨r, ?_, h6⟩
            have e2 : IntKind.u64.wrap (Int.tdiv (row : Int) 2) = ((row / 2 : Nat) : Int) := by rw [Int.tdiv_eq_ediv_of_nonneg (by omega), uid (by omega) (by omega)]; omega
            refine Ev.step (fun k => spec_RibbonOf.l1.eq_2 ..) ?_
            rw [htm, e2, wsucc (i := at_) (by omega)]
            exact Ev.pos (by omega) (Ev.pos (by omega) hr)
          · obtain ⟨x, hx, x0, x1, x2⟩ := hB.2 at_ hlt
            by_cases cx : x = 0
            · subst cx
              have hB' : okB n (band.set at_ (row : Int)) := by
                refine ⟨by rw [List.length_set]; exact hB.1, fun j hj => ?_⟩
                rw [rd_set band at_ j _ (by rw [hB.1]; exact hlt)]
                by_cases e : at_ = j
                · subst e
                  exact ⟨row, if_pos rfl, .inr (by omega), h2, h3⟩
                · rw [if_neg e]
                  exact hB.2 j hj
              have hS' : (sums.set at_ (sum : Int)).length = n ∧ ∀ j : Nat, ∃ y : Nat, rd (sums.set at_ (sum : Int)) (j : Int) = (y : Int) ∧ y < 128 := by
                refine ⟨by rw [List.length_set]; exact hS.1, fun j => ?_⟩
                rw [rd_set sums at_ j _ (by rw [hS.1]; exact hlt)]
                by_cases e : at_ = j
                · exact ⟨sum, if_pos e, h4⟩
                · rw [if_neg e]
                  exact hS.2 j
              obtain ⟨r, hr, h6⟩ := fin at_ 0 (band.set at_ (row : Int)) (sums.set at_ (sum : Int)) hB' hS'
              refine ⟨r, ?_, h6⟩
              refine Ev.step (fun k => spec_RibbonOf.l1.eq_2 ..) ?_
              rw [htm, hx, Int.toNat_natCast]
              exact Ev.pos (by omega) (Ev.neg (by omega) (Ev.pos (by omega) (Ev.pos (by rw [hB.1]; omega) (Ev.pos rfl (Ev.pos (by rw [hS.1]; omega) hr)))))
            · obtain ⟨y, hy, y1⟩ := hS.2 at_
              have hodd : x % 2 = 1 := by omega
              have p1 : row ^^^ x < 2 ^ (n - at_) := Nat.xor_lt_two_pow h2 x1
              have p2 : row ^^^ x < 2 ^ 16 := Nat.xor_lt_two_pow h3 x2
              have p3 : sum ^^^ y < 2 ^ 7 := Nat.xor_lt_two_pow h4 y1
              have p4 := xorEven row x (by omega) hodd
              obtain ⟨r, hr, h6⟩ := ihd at_ (row ^^^ x) (sum ^^^ y) band sums hB hS h1 p1 p2 p3 (by omega)
              refine ⟨r, ?_, h6⟩
              refine Ev.step (fun k => spec_RibbonOf.l1.eq_2 ..) ?_
              rw [htm, hx, hy, xorN row x (by omega) (by omega), xorN sum y (by omega) (by omega)]
              exact Ev.pos (by omega) (Ev.neg (by omega) (Ev.pos (by omega) (Ev.pos (by rw [hB.1]; omega) (Ev.neg (by omega) (Ev.pos (by rw [hS.1]; omega) hr)))))
      obtain ⟨r, hr, h2⟩ := inner (2 * n + 2) at0 row0 sum0 band sums hB hS (by omega) (Nat.lt_of_lt_of_le hr16 (Nat.pow_le_pow_right (by decide) (by omega))) hr16 hs1 (by omega)
      refine ⟨r, ?_, h2⟩
      refine Ev.step (fun k => spec_RibbonOf.l0.eq_2 ..) ?_
      exact Ev.pos (by omega) (Ev.pos (by omega) (Ev.bind he hr))
  have z0 : ∀ j : Nat, rd (List.replicate n 0) (j : Int) = 0 := fun j => by
    unfold rd
    rw [Int.toNat_natCast, List.getD_eq_getElem?_getD, List.getElem?_replicate]
    split <;> rfl
  obtain ⟨r, hr, h2⟩ := key 0 (Nat.zero_le _) (List.replicate n 0) (List.replicate n 0) ⟨by simp, fun j hj => ⟨0, z0 j, .inl rfl, Nat.two_pow_pos _, by decide⟩⟩ ⟨by simp, fun j => ⟨0, z0 j, by decide⟩⟩
  refine ⟨r, Ev.bind hb (Ev.pos rfl (Ev.bindS hin ?_)), h2⟩
  refine Ev.step (fun k => spec_RibbonOf.j0.eq_2 ..) ?_
  rw [en, Int.toNat_natCast]
  exact Ev.neg (by decide) (Ev.pos (by omega) (Ev.pos (by omega) hr))
theorem filterOf_ev (us : List ByteArray) (h : us.length ≤ 15) (hs : ∀ u ∈ us, u.size ≤ 100) (kind : Int) : ∃ r, Ev (fun k => spec_FilterOf.f k us kind) r ∧ r.2.2.2.1.size ≤ 1000 := by
  obtain ⟨b, hb⟩ := sUsersOk_ev us h
  unfold spec_FilterOf.f
  have bad : ∃ r, Ev (fun k => spec_FilterOf.j0 k us kind true) r ∧ r.2.2.2.1.size ≤ 1000 := by
    refine ⟨(0, 0, 0, ⟨#[]⟩, false), ?_, Nat.zero_le _⟩
    refine Ev.step (fun k => spec_FilterOf.j0.eq_2 ..) ?_
    exact Ev.pos rfl (Ev.now _)
  cases b with
  | false =>
    obtain ⟨r, hr, h2⟩ := bad
    exact ⟨r, Ev.bind hb (Ev.neg (by decide) hr), h2⟩
  | true =>
  have hin := in_ev kind 0 2
  by_cases c : 0 ≤ kind ∧ kind ≤ 2
  case neg =>
    rw [decide_eq_false c] at hin
    obtain ⟨r, hr, h2⟩ := bad
    exact ⟨r, Ev.bind hb (Ev.pos rfl (Ev.bindS hin hr)), h2⟩
  rw [decide_eq_true c] at hin
  by_cases cz : kind = 0
  · refine ⟨(0, 0, 0, ⟨#[]⟩, true), Ev.bind hb (Ev.pos rfl (Ev.bindS hin ?_)), Nat.zero_le _⟩
    refine Ev.step (fun k => spec_FilterOf.j0.eq_2 ..) ?_
    exact Ev.neg (by decide) (Ev.pos cz (Ev.now _))
  obtain ⟨q, hq, hq2⟩ := bloom_ev us h hs
  have last : ∀ i : Int, ∃ r, Ev (fun k => spec_FilterOf.j2 k us kind i false) r ∧ r.2.2.2.1.size ≤ 1000 := by
    intro i
    refine ⟨(q.1, q.2.1, q.2.2.1, q.2.2.2.1, q.2.2.2.2), ?_, hq2⟩
    refine Ev.step (fun k => spec_FilterOf.j2.eq_2 ..) ?_
    exact Ev.neg (by decide) (Ev.bind hq (Ev.now _))
  have key : ∀ i : Nat, i ≤ 4 → ∃ r, Ev (fun k => spec_FilterOf.l0 k us kind (i : Int)) r ∧ r.2.2.2.1.size ≤ 1000 := by
    refine downTo 4 ?_ ?_
    · obtain ⟨r, hr, h2⟩ := last ((4 : Nat) : Int)
      refine ⟨r, ?_, h2⟩
      refine Ev.step (fun k => spec_FilterOf.l0.eq_2 ..) ?_
      by_cases c2 : kind = 2
      · exact Ev.pos c2 hr
      · exact Ev.neg c2 hr
    · intro i hi ih
      by_cases c2 : kind = 2
      · obtain ⟨x, hx, hx2⟩ := ribbon_ev us h hs (i : Int)
        by_cases cx : x.2.2.2.2 = true
        · refine ⟨(x.1, x.2.1, x.2.2.1, x.2.2.2.1, true), ?_, hx2⟩
          refine Ev.step (fun k => spec_FilterOf.l0.eq_2 ..) ?_
          refine Ev.pos c2 ?_
          rw [decide_eq_true (show (i : Int) < 4 by omega)]
          refine Ev.step (fun k => spec_FilterOf.j2.eq_2 ..) ?_
          exact Ev.pos rfl (Ev.bind hx (Ev.pos cx (Ev.now _)))
        · obtain ⟨r, hr, h2⟩ := ih
          refine ⟨r, ?_, h2⟩
          refine Ev.step (fun k => spec_FilterOf.l0.eq_2 ..) ?_
          refine Ev.pos c2 ?_
          rw [decide_eq_true (show (i : Int) < 4 by omega)]
          refine Ev.step (fun k => spec_FilterOf.j2.eq_2 ..) ?_
          rw [wsucc (by omega)]
          exact Ev.pos rfl (Ev.bind hx (Ev.neg cx hr))
      · obtain ⟨r, hr, h2⟩ := last (i : Int)
        refine ⟨r, ?_, h2⟩
        refine Ev.step (fun k => spec_FilterOf.l0.eq_2 ..) ?_
        exact Ev.neg c2 hr
  obtain ⟨r, hr, h2⟩ := key 0 (by omega)
  refine ⟨r, Ev.bind hb (Ev.pos rfl (Ev.bindS hin ?_)), h2⟩
  refine Ev.step (fun k => spec_FilterOf.j0.eq_2 ..) ?_
  exact Ev.neg (by decide) (Ev.neg cz hr)
theorem dusers_ev {l : List Int} {p : Int} (h : okc l) (hp : okp l p) : ∃ r, Ev (fun k => spec_l1Rd_users.f k l p 14) r ∧ (r.1.length ≤ 15 ∧ ∀ u ∈ r.1, u.size ≤ 100) ∧ okp l r.2 := by
  obtain ⟨a, ha, ha1, ha2⟩ := below_ev h hp 15 (by omega)
  unfold spec_l1Rd_users.f
  rw [wid (x := 14 + 1) (by decide) (by decide), show (14 + 1 : Int) = 15 from rfl]
  have key : ∀ (m : Nat) (acc : List ByteArray) (p : Int), acc.length + m ≤ 14 → (∀ u ∈ acc, u.size ≤ 100) → okp l p → ∃ r, Ev (fun k => spec_l1Rd_users.l0 k acc (m : Int) l p) r ∧ (r.1.length ≤ 15 ∧ ∀ u ∈ r.1, u.size ≤ 100) ∧ okp l r.2 := by
    intro m
    induction m with
    | zero =>
      intro acc p hm hs hp
      obtain ⟨b, hb, hb2⟩ := once_ev h hp 24 (by omega)
      by_cases c : b.1 = true
      · obtain ⟨t, ht, ht1, ht2⟩ := bytes_ev h hb2 44 (by omega) (by omega)
        refine ⟨(acc ++ [t.1], t.2), ?_, ⟨by simp; omega, fun u hu => ?_⟩, ht2⟩
        · refine Ev.step (fun k => spec_l1Rd_users.l0.eq_2 ..) ?_
          exact Ev.neg (by omega) (Ev.bindS hb (Ev.pos c (Ev.bind ht (Ev.pos (by omega) (Ev.now _)))))
        · rcases List.mem_append.1 hu with hu | hu
          · exact hs u hu
          · rw [List.mem_singleton] at hu
            subst hu
            omega
      · refine ⟨(acc, b.2), ?_, ⟨by simp only []; omega, hs⟩, hb2⟩
        refine Ev.step (fun k => spec_l1Rd_users.l0.eq_2 ..) ?_
        exact Ev.neg (by omega) (Ev.bindS hb (Ev.neg c (Ev.now _)))
    | succ m ih =>
      intro acc p hm hs hp
      have hw : wrap64 (((m + 1 : Nat) : Int) - 1) = (m : Int) := by rw [wid (by omega) (by omega)]; omega
      obtain ⟨b, hb, hb2⟩ := once_ev h hp 3 (by omega)
      by_cases c : b.1 = true
      · obtain ⟨t, ht, ht1, ht2⟩ := bytes_ev h hb2 3 (by omega) (by omega)
        obtain ⟨r, hr, hr2⟩ := ih (acc ++ [(⟨#[107]⟩ : ByteArray) ++ t.1]) t.2 (by simp; omega) (fun u hu => by
          rcases List.mem_append.1 hu with hu | hu
          · exact hs u hu
          · rw [List.mem_singleton] at hu
            subst hu
            rw [ByteArray.size_append, show (⟨#[107]⟩ : ByteArray).size = 1 from rfl]
            omega) ht2
        refine ⟨r, ?_, hr2⟩
        refine Ev.step (fun k => spec_l1Rd_users.l0.eq_2 ..) ?_
        rw [hw]
        exact Ev.pos (by omega) (Ev.bindS hb (Ev.pos c (Ev.bind ht (Ev.pos (by omega) (Ev.pos (by omega) hr)))))
      · obtain ⟨t, ht, ht1, ht2⟩ := duser_ev h hb2
        obtain ⟨r, hr, hr2⟩ := ih (acc ++ [t.1]) t.2 (by simp; omega) (fun u hu => by
          rcases List.mem_append.1 hu with hu | hu
          · exact hs u hu
          · rw [List.mem_singleton] at hu
            subst hu
            unfold isU at ht1
            omega) ht2
        refine ⟨r, ?_, hr2⟩
        refine Ev.step (fun k => spec_l1Rd_users.l0.eq_2 ..) ?_
        rw [hw]
        exact Ev.pos (by omega) (Ev.bindS hb (Ev.neg c (Ev.bindS ht (Ev.pos (by omega) hr))))
  obtain ⟨r, hr, hr2⟩ := key a.1.toNat [] a.2 (by simp; omega) (by simp) ha2
  rw [Int.toNat_of_nonneg ha1.1] at hr
  exact ⟨r, Ev.bindS ha hr, hr2⟩
theorem dfilter_ev {l : List Int} {p : Int} (h : okc l) (hp : okp l p) : ∃ r, Ev (fun k => spec_l1Rd_filter.f k l p) r ∧ r.2.2.2.1.size ≤ 2000 ∧ okp l r.2.2.2.2 := by
  obtain ⟨u, hu, hu1, hu2⟩ := dusers_ev h hp
  obtain ⟨a, ha, ha1, ha2⟩ := below_ev h hu2 3 (by omega)
  obtain ⟨f, hf, hf1⟩ := filterOf_ev u.1 hu1.1 hu1.2 a.1
  obtain ⟨b, hb, hb1, hb2⟩ := below_ev h ha2 20 (by omega)
  unfold spec_l1Rd_filter.f
  by_cases c0 : b.1 = 0
  · obtain ⟨x, hx, hx1, hx2⟩ := off_ev h hb2 0 3 (by omega) (by omega) (by omega)
    exact ⟨_, Ev.bind hu (Ev.bindS ha (Ev.bind hf (Ev.bindS hb (Ev.pos c0 (Ev.bind hx (Ev.now _)))))), by show f.2.2.2.1.size ≤ 2000; omega, hx2⟩
  by_cases c1 : b.1 = 1
  · obtain ⟨x, hx, hx1, hx2⟩ := bytes_ev h hb2 3 (by omega) (by omega)
    refine ⟨(f.1, f.2.1, f.2.2.1, f.2.2.2.1 ++ x.1, x.2), Ev.bind hu (Ev.bindS ha (Ev.bind hf (Ev.bindS hb (Ev.neg c0 (Ev.pos c1 (Ev.bind hx (Ev.pos (by omega) (Ev.now _)))))))), ?_, hx2⟩
    show (f.2.2.2.1 ++ x.1).size ≤ 2000
    rw [ByteArray.size_append]
    omega
  by_cases c2 : b.1 = 2
  · obtain ⟨x, hx, hx1, hx2⟩ := off_ev h hb2 0 2 (by omega) (by omega) (by omega)
    exact ⟨_, Ev.bind hu (Ev.bindS ha (Ev.bind hf (Ev.bindS hb (Ev.neg c0 (Ev.neg c1 (Ev.pos c2 (Ev.bind hx (Ev.now _)))))))), by show f.2.2.2.1.size ≤ 2000; omega, hx2⟩
  · exact ⟨_, Ev.bind hu (Ev.bindS ha (Ev.bind hf (Ev.bindS hb (Ev.neg c0 (Ev.neg c1 (Ev.neg c2 (Ev.now _))))))), by show f.2.2.2.1.size ≤ 2000; omega, hb2⟩
end Go.Proofs.Ytedgdnkbojjbmaa.Pure
end

section
namespace Go.Proofs.Ytedgdnkbojjbmaa.Pure
open Go.RowKit Go.Proofs.YtedgdnkbojjbmaaW.PrintWords Go.Proofs.YtedgdnkbojjbmaaW.PrintLast Go.Proofs.YtedgdnkbojjbmaaW.PrintMore
open Go.Proofs.Ytedgdnkbojjbmaa.P
set_option linter.unusedVariables false
set_option linter.unusedSimpArgs false
theorem byteOk {l : List Int} (h1 : l.length ≤ 1048576) (h2 : ∀ x ∈ l, (Lit.int .u8 x).wf = true) : okc l := by
  refine ⟨h1, fun x hx => ?_⟩
  have := h2 x hx
  simpa [Lit.wf, IntKind.min, IntKind.max, IntKind.signed, IntKind.bits] using this
theorem okp0 (l : List Int) : okp l 0 := ⟨by omega, by omega⟩
theorem drawFText_ev {l : List Int} (h : okc l) : ∃ r, Ev (fun k => spec_DrawFilterText.f k l) r ∧ r.2.2.2.size ≤ 2000 := by
  obtain ⟨f, hf, h1, _⟩ := dfilter_ev h (okp0 l)
  unfold spec_DrawFilterText.f
  exact ⟨_, Ev.bindS rfl (Ev.bind hf (Ev.now _)), h1⟩
theorem drawRFilter_ev {l : List Int} (h : okc l) : ∃ r : ByteArray, Ev (fun k => spec_DrawReadFilter.f k l) r ∧ r.size ≤ 1048576 := by
  obtain ⟨f, hf, h1, hp⟩ := dfilter_ev h (okp0 l)
  have ht := sFilterText_ev f.1 f.2.1 f.2.2.1 f.2.2.2.1 (by omega)
  have hz := ftV_size f.1 f.2.1 f.2.2.1 f.2.2.2.1
  generalize ftV f.1 f.2.1 f.2.2.1 f.2.2.2.1 = t at ht hz
  obtain ⟨a, ha, ha1, ha2⟩ := below_ev h hp 6 (by omega)
  unfold spec_DrawReadFilter.f
  by_cases c0 : a.1 = 0
  · obtain ⟨b, hb, hb1, hb2⟩ := bytes_ev h ha2 2 (by omega) (by omega)
    refine ⟨_, Ev.bindS rfl (Ev.bind hf (Ev.bind ht (Ev.bindS ha (Ev.pos c0 (Ev.bind hb (Ev.pos (by omega) (Ev.now _))))))), ?_⟩
    rw [ByteArray.size_append]
    omega
  by_cases c1 : a.1 = 1
  · obtain ⟨b, hb, hb1, hb2⟩ := bytes_ev h ha2 9 (by omega) (by omega)
    exact ⟨b.1, Ev.bindS rfl (Ev.bind hf (Ev.bind ht (Ev.bindS ha (Ev.neg c0 (Ev.pos c1 (Ev.bind hb (Ev.now _))))))), by omega⟩
  by_cases c3 : a.1 = 2
  · by_cases c2 : (t.size : Int) > 0
    · obtain ⟨i, hi, hi1, hi2⟩ := below_ev h ha2 (t.size : Int) (by omega)
      obtain ⟨b, hb, hb1, hb2⟩ := bytes_ev h hi2 1 (by omega) (by omega)
      have hw : wrap64 (i.1 + 1) = i.1 + 1 := wid (by omega) (by omega)
      refine ⟨((t.extract 0 i.1.toNat) ++ b.1) ++ (t.extract (i.1 + 1).toNat t.size), Ev.bindS rfl (Ev.bind hf (Ev.bind ht (Ev.bindS ha (Ev.neg c0 (Ev.neg c1 (Ev.pos c3 (Ev.pos c2 (Ev.bindS hi (Ev.pos hi1.1 (Ev.pos (by omega) (Ev.bind hb (Ev.pos (by omega) ?_)))))))))))), ?_⟩
      · rw [hw]
        exact Ev.pos (by omega) (Ev.pos (by omega) (Ev.pos (by omega) (Ev.now _)))
      · rw [ByteArray.size_append, ByteArray.size_append, ByteArray.size_extract, ByteArray.size_extract]
        omega
    · exact ⟨t, Ev.bindS rfl (Ev.bind hf (Ev.bind ht (Ev.bindS ha (Ev.neg c0 (Ev.neg c1 (Ev.pos c3 (Ev.neg c2 (Ev.now _)))))))), by omega⟩
  · exact ⟨t, Ev.bindS rfl (Ev.bind hf (Ev.bind ht (Ev.bindS ha (Ev.neg c0 (Ev.neg c1 (Ev.neg c3 (Ev.now _))))))), by omega⟩
theorem FnFilterTexts : laws_FnFilterTexts.Pure := by
  intro l _ _ hb
  refine Ev.rounds (g := fun k => laws_FnFilterTexts.f k l) ?_
  unfold laws_FnFilterTexts.f
  refine Ev.bindS (a := decide ((l.length : Int) > 1048576)) rfl ?_
  by_cases big : (l.length : Int) > 1048576
  · exact Ev.pos (decide_eq_true big) (Ev.now _)
  have hc := byteOk (l := l) (by omega) hb
  refine Ev.neg (by simpa using big) ?_
  have second : Ev (fun k => laws_FnFilterTexts.j0 k l false) true := by
    refine Ev.step (fun k => laws_FnFilterTexts.j0.eq_2 ..) ?_
    refine Ev.neg (by decide) ?_
    obtain ⟨t, ht, htz⟩ := drawRFilter_ev hc
    have h1 := readFilter_ev t (by omega)
    have h2 := sReadFilter_ev t (by omega)
    have hbk := rfV_back t
    have hsz : (rfV t).2.2.2.1.size ≤ 4611686018427387904 := by
      unfold rfV
      split
      · rename_i c
        have := (fOk_small c.2.2.2.2.2).2.2.2
        simp only []
        omega
      · exact Nat.zero_le _
    generalize rfV t = v at h1 h2 hbk hsz
    refine Ev.bind ht (Ev.bind h1 (Ev.bind h2 (Ev.pos (by simp) ?_)))
    by_cases c : v.2.2.2.2 = true
    · refine Ev.pos c (Ev.bind (filterText_ev _ _ _ _ hsz) ((Ev.now _).eqr ?_))
      rw [hbk c]
      simp
    · exact Ev.neg c (Ev.now _)
  obtain ⟨d, hd, hd1⟩ := drawFText_ev hc
  obtain ⟨a, b, c, t⟩ := d
  simp only [] at hd1
  have h1 := filterText_ev a b c t (by omega)
  have h2 := sFilterText_ev a b c t (by omega)
  have h3 := filterOk_ev a b c t (by omega)
  have hz := ftV_size a b c t
  have hr := readFilter_ev (ftV a b c t) (by omega)
  by_cases cv : fOk a b c t
  · have hround : rfV (ftV a b c t) = (a, b, c, t, true) := by
      unfold ftV
      rw [if_pos cv]
      exact rfV_round cv
    rw [hround] at hr
    rw [decide_eq_true cv] at h3
    refine Ev.bind hd (Ev.bind h1 (Ev.bind hr (Ev.bind h2 (Ev.pos rfl (Ev.bind h3 (Ev.neg (by simp) (Ev.pos rfl ?_)))))))
    simp only [beq_self_eq_true, Bool.not_true, Bool.or_false]
    exact second
  · have he : ftV a b c t = ⟨#[]⟩ := if_neg cv
    rw [he, rfV_empty] at hr
    rw [he] at h1 h2
    rw [decide_eq_false cv] at h3
    exact Ev.bind hd (Ev.bind h1 (Ev.bind hr (Ev.bind h2 (Ev.pos rfl (Ev.bind h3 (Ev.neg (by simp) (Ev.neg (by simp) second)))))))
end Go.Proofs.Ytedgdnkbojjbmaa.Pure
end
