/- Proved: the law FnShort of the given program returns true for every input of its Go types and leaves each argument as it was; no condition. (Part 10 of 12.) -/
import Derived.Test.YtidjdkodgddfcaaCFnShort4
import Derived.Test.YtidjdkodgddfcaaCFnShort6
import Derived.Test.YtidjdkodgddfcaaCFnShort8
import Derived.Lib.EndianBits
import Derived.Test.YtidjdkodgddfcaaCFnShort5
import Derived.Test.YtidjdkodgddfcaaCFnShort0
import Derived.Test.YtidjdkodgddfcaaCFnShort7
section
namespace Go.Proofs.Ytidjdkodgddfcaa.P
open Go.RowKit Go.Proofs.YtidjdkodgddfcaaW.PrintWords Go.Proofs.YtidjdkodgddfcaaW.PrintLast Go.Proofs.YtidjdkodgddfcaaW.PrintMore
attribute [local go_sem] str_gtr str_leq str_geq max2_int min2_int max_two min_two max_three min_three max_four min_four
set_option linter.unusedVariables false
set_option linter.unusedSimpArgs false
def pvl (n : Nat) : List Int := if n < 128 then [(n : Int)] else ((n % 128 + 128 : Nat) : Int) :: pvl (n / 128)
termination_by n
decreasing_by omega
def pv (n : Nat) : ByteArray := strOfNums (pvl n)
theorem pvl_small {n : Nat} (h : n < 128) : pvl n = [(n : Int)] := by rw [pvl, if_pos h]
theorem pvl_big {n : Nat} (h : ¬ n < 128) : pvl n = ((n % 128 + 128 : Nat) : Int) :: pvl (n / 128) := by rw [pvl, if_neg h]
theorem pvl_range (n : Nat) : ∀ x ∈ pvl n, 0 ≤ x ∧ x < 256 := by
  induction n using Nat.strongRecOn with
  | _ n ih =>
    by_cases h : n < 128
    · rw [pvl_small h]
      intro x hx
      rw [List.mem_singleton] at hx
      omega
    · rw [pvl_big h]
      intro x hx
      rcases List.mem_cons.1 hx with rfl | hx
      · omega
      · exact ih (n / 128) (by omega) x hx
theorem pvl_len (d : Nat) : ∀ n, n < 128 ^ (d + 1) → 1 ≤ (pvl n).length ∧ (pvl n).length ≤ d + 1 := by
  induction d with
  | zero =>
    intro n h
    rw [pvl_small (by simpa using h)]
    simp
  | succ d ih =>
    intro n h
    by_cases c : n < 128
    · rw [pvl_small c]
      simp
    · rw [pvl_big c, List.length_cons]
      have := ih (n / 128) (Nat.div_lt_of_lt_mul (by rw [Nat.pow_succ, Nat.mul_comm] at h; exact h))
      omega
theorem pv_size {n : Nat} (h : n < 18446744073709551616) : 1 ≤ (pv n).size ∧ (pv n).size ≤ 10 := by
  have e : (pv n).size = (pvl n).length := by unfold pv strOfNums; simp [ByteArray.size]
  rw [e]
  exact pvl_len 9 n (by omega)
theorem or128 : ∀ x : Fin 256, Go.bits .or .u8 ((x.val : Nat) : Int) 128 = ((x.val % 128 + 128 : Nat) : Int) := by decide +kernel
theorem putVar_ev (n : Nat) (h : n < 18446744073709551616) : Ev (fun k => impl_PutVar.f k (n : Int)) (pv n) := by
  have key : ∀ (d n : Nat) (acc : List Int), n < 128 ^ (d + 1) → acc.length + d ≤ 100 → Ev (fun k => impl_PutVar.l0 k (n : Int) acc) (strOfNums (acc ++ pvl n)) := by
    intro d
    induction d with
    | zero =>
      intro n acc hn ha
      have hn' : n < 128 := by simpa using hn
      rw [pvl_small hn']
      refine Ev.step (fun k => rfl) (Ev.neg (by omega) (Ev.pos (by omega) ?_))
      rw [Int.emod_eq_of_lt (by omega) (by omega)]
      exact Ev.now _
    | succ d ih =>
      intro n acc hn ha
      by_cases c : n < 128
      · rw [pvl_small c]
        refine Ev.step (fun k => rfl) (Ev.neg (by omega) (Ev.pos (by omega) ?_))
        rw [Int.emod_eq_of_lt (by omega) (by omega)]
        exact Ev.now _
      · rw [pvl_big c]
        refine Ev.step (fun k => rfl) (Ev.pos (by omega) (Ev.pos (by omega) ?_))
        have e : Go.bits .or .u8 ((n : Int) % 256) 128 = ((n % 128 + 128 : Nat) : Int) := by
          have := or128 ⟨n % 256, by omega⟩
          simp only at this
          rw [show ((n : Int) % 256) = ((n % 256 : Nat) : Int) from by omega, this]
          omega
        rw [e, show ((n : Int) / 128) = ((n / 128 : Nat) : Int) from by omega]
        refine (ih (n / 128) _ (Nat.div_lt_of_lt_mul (by rw [Nat.pow_succ, Nat.mul_comm] at hn; exact hn)) (by rw [List.length_append]; simp; omega)).eqr ?_
        rw [List.append_assoc]
        rfl
  have := key 9 n [] (by omega) (by simp)
  rw [List.nil_append] at this
  exact this
theorem sPutVar_ev (n : Nat) (h : n < 18446744073709551616) : Ev (fun k => spec_PutVar.f k (n : Int)) (pv n) := by
  have key : ∀ (d n : Nat) (acc : List Int), n < 18446744073709551616 → n < 128 ^ (d + 1) → acc.length + d ≤ 100 → Ev (fun k => spec_PutVar.l0 k (n : Int) acc) (strOfNums (acc ++ pvl n)) := by
    intro d
    induction d with
    | zero =>
      intro n acc h hn ha
      have hn' : n < 128 := by simpa using hn
      rw [pvl_small hn']
      refine Ev.step (fun k => rfl) (Ev.neg (by omega) (Ev.pos (by omega) ?_))
      rw [Int.emod_eq_of_lt (by omega) (by omega)]
      exact Ev.now _
    | succ d ih =>
      intro n acc h hn ha
      by_cases c : n < 128
      · rw [pvl_small c]
        refine Ev.step (fun k => rfl) (Ev.neg (by omega) (Ev.pos (by omega) ?_))
        rw [Int.emod_eq_of_lt (by omega) (by omega)]
        exact Ev.now _
      · rw [pvl_big c]
        refine Ev.step (fun k => rfl) (Ev.pos (by omega) (Ev.pos (by omega) ?_))
        have e : (IntKind.u64.wrap ((Int.tmod (n : Int) 128) + 128)) % 256 = ((n % 128 + 128 : Nat) : Int) := by
          rw [Int.tmod_eq_emod_of_nonneg (by omega), uid (by omega) (by omega)]
          omega
        have e2 : IntKind.u64.wrap (Int.tdiv (n : Int) 128) = ((n / 128 : Nat) : Int) := by
          rw [Int.tdiv_eq_ediv_of_nonneg (by omega), uid (by omega) (by omega)]
          omega
        rw [e, e2]
        refine (ih (n / 128) _ (by omega) (Nat.div_lt_of_lt_mul (by rw [Nat.pow_succ, Nat.mul_comm] at hn; exact hn)) (by rw [List.length_append]; simp; omega)).eqr ?_
        rw [List.append_assoc]
        rfl
  have := key 9 n [] h (by omega) (by simp)
  rw [List.nil_append] at this
  exact this
theorem putInt_ev (n : Nat) (h : n < 9223372036854775808) : Ev (fun k => impl_putInt.f k (n : Int)) (pv n) := by
  unfold impl_putInt.f
  rw [uid (by omega) (by omega)]
  exact Ev.bind (putVar_ev n (by omega)) (Ev.now _)
def pt (s : ByteArray) : ByteArray := pv s.size ++ s
theorem putText_ev (t : ByteArray) (h : t.size ≤ 4611686018427387904) : Ev (fun k => impl_PutText.f k t) (pt t) := by
  unfold impl_PutText.f
  rw [uid (by omega) (by omega)]
  have := (pv_size (n := t.size) (by omega)).2
  exact Ev.bind (putVar_ev t.size (by omega)) (Ev.pos (by omega) (Ev.now _))
theorem sPutText_ev (t : ByteArray) (h : t.size ≤ 4611686018427387904) : Ev (fun k => spec_PutText.f k t) (pt t) := by
  unfold spec_PutText.f
  rw [uid (by omega) (by omega)]
  have := (pv_size (n := t.size) (by omega)).2
  exact Ev.bind (sPutVar_ev t.size (by omega)) (Ev.pos (by omega) (Ev.now _))
theorem pt_size (t : ByteArray) (h : t.size ≤ 4611686018427387904) : t.size + 1 ≤ (pt t).size ∧ (pt t).size ≤ t.size + 10 := by
  have := pv_size (n := t.size) (by omega)
  unfold pt
  rw [ByteArray.size_append]
  omega
end Go.Proofs.Ytidjdkodgddfcaa.P
end

section
namespace Go.Proofs.Ytidjdkodgddfcaa.P
open Go.RowKit Go.Proofs.YtidjdkodgddfcaaW.PrintWords Go.Proofs.YtidjdkodgddfcaaW.PrintLast Go.Proofs.YtidjdkodgddfcaaW.PrintMore
attribute [local go_sem] str_gtr str_leq str_geq max2_int min2_int max_two min_two max_three min_three max_four min_four
set_option linter.unusedVariables false
set_option linter.unusedSimpArgs false
def okc (l : List Int) : Prop := l.length ≤ 1048576 ∧ ∀ x ∈ l, 0 ≤ x ∧ x ≤ 255
def okp (l : List Int) (p : Int) : Prop := 0 ≤ p ∧ p ≤ (l.length : Int)
theorem okc_rd {l : List Int} (h : okc l) (i : Int) : 0 ≤ rd l i ∧ rd l i ≤ 255 := by
  unfold rd
  rw [List.getD_eq_getElem?_getD]
  by_cases c : i.toNat < l.length
  · rw [List.getElem?_eq_getElem c]
    exact h.2 _ (List.getElem_mem c)
  · rw [List.getElem?_eq_none (by omega)]
    simp
theorem next_ev {l : List Int} {p : Int} (h : okc l) (hp : okp l p) : ∃ r, spec_l1Rd_next.f l p = some r ∧ (0 ≤ r.1 ∧ r.1 ≤ 255) ∧ okp l r.2 := by
  obtain ⟨h1, h2⟩ := hp
  have hl := h.1
  unfold spec_l1Rd_next.f
  by_cases c : p ≥ (l.length : Int)
  · exact ⟨_, if_pos c, by simp, h1, h2⟩
  · have e1 : wrap64 (p + 1) = p + 1 := wid (by omega) (by omega)
    have e2 : wrap64 (p + 1 - 1) = p := by rw [wid (by omega) (by omega)]; omega
    obtain ⟨r0, r1⟩ := okc_rd h p
    rw [if_neg c, e1, e2, if_pos h1, if_pos (by omega)]
    refine ⟨_, rfl, ?_, ?_⟩
    · show 0 ≤ wrap64 (rd l p) ∧ wrap64 (rd l p) ≤ 255
      rw [wid (by omega) (by omega)]
      exact ⟨r0, r1⟩
    · exact ⟨by show 0 ≤ p + 1; omega, by show p + 1 ≤ _; omega⟩
theorem below_ev {l : List Int} {p : Int} (h : okc l) (hp : okp l p) (n : Int) (hn : 1 ≤ n) : ∃ r, spec_l1Rd_below.f l p n = some r ∧ (0 ≤ r.1 ∧ r.1 < n) ∧ okp l r.2 := by
  unfold spec_l1Rd_below.f
  by_cases c : n ≤ 1
  · exact ⟨_, if_pos c, ⟨by simp, by show (0 : Int) < n; omega⟩, hp⟩
  · rw [if_neg c]
    obtain ⟨a, ha, ha1, ha2⟩ := next_ev h hp
    by_cases c2 : n ≤ 256
    · rw [if_pos c2, ha]
      refine ⟨(Int.tmod a.1 n, a.2), by rw [Option.bind_some, if_neg (by omega)], ?_, ha2⟩
      show 0 ≤ Int.tmod a.1 n ∧ Int.tmod a.1 n < n
      rw [Int.tmod_eq_emod_of_nonneg ha1.1]
      exact ⟨Int.emod_nonneg _ (by omega), Int.emod_lt_of_pos _ (by omega)⟩
    · obtain ⟨b, hb, hb1, hb2⟩ := next_ev h ha2
      rw [if_neg c2, ha, Option.bind_some, hb, Option.bind_some, if_neg (by omega)]
      refine ⟨_, rfl, ?_, hb2⟩
      show 0 ≤ Int.tmod (wrap64 (wrap64 (a.1 * 256) + b.1)) n ∧ Int.tmod (wrap64 (wrap64 (a.1 * 256) + b.1)) n < n
      rw [wid (x := a.1 * 256) (by omega) (by omega), wid (by omega) (by omega), Int.tmod_eq_emod_of_nonneg (by omega)]
      exact ⟨Int.emod_nonneg _ (by omega), Int.emod_lt_of_pos _ (by omega)⟩
theorem once_ev {l : List Int} {p : Int} (h : okc l) (hp : okp l p) (n : Int) (hn : 1 ≤ n) : ∃ r, spec_l1Rd_once.f l p n = some r ∧ okp l r.2 := by
  obtain ⟨a, ha, _, ha2⟩ := below_ev h hp n hn
  unfold spec_l1Rd_once.f
  rw [ha]
  exact ⟨_, rfl, ha2⟩
theorem bits_u64 (o : BinOp) (a b : Int) : 0 ≤ Go.bits o .u64 a b ∧ Go.bits o .u64 a b ≤ 18446744073709551615 := by
  unfold Go.bits
  simp only [IntKind.wrap_u64]
  omega
theorem word_ev {l : List Int} {p : Int} (h : okc l) (hp : okp l p) : ∃ r, Ev (fun k => spec_l1Rd_word.f k l p) r ∧ (0 ≤ r.1 ∧ r.1 ≤ 18446744073709551615) ∧ okp l r.2 := by
  have key : ∀ i : Nat, i ≤ 8 → ∀ (x p : Int), 0 ≤ x ∧ x ≤ 18446744073709551615 → okp l p → ∃ r, Ev (fun k => spec_l1Rd_word.l0 k x (i : Int) l p) r ∧ (0 ≤ r.1 ∧ r.1 ≤ 18446744073709551615) ∧ okp l r.2 := by
    refine downTo 8 ?_ ?_
    · intro x p hx hp
      exact ⟨(x, p), Ev.step (fun k => spec_l1Rd_word.l0.eq_2 ..) (Ev.neg (by omega) (Ev.now _)), hx, hp⟩
    · intro i hi ih x p hx hp
      obtain ⟨a, ha, _, ha2⟩ := next_ev h hp
      obtain ⟨r, hr, hr2⟩ := ih _ a.2 (bits_u64 .or (IntKind.u64.wrap (x * 256)) (IntKind.u64.wrap a.1)) ha2
      refine ⟨r, Ev.step (fun k => spec_l1Rd_word.l0.eq_2 ..) (Ev.pos (by omega) (Ev.bindS ha ?_)), hr2⟩
      rw [wsucc (by omega)]
      exact hr
  exact key 0 (by omega) 0 p (by omega) hp
theorem bytes_ev {l : List Int} {p : Int} (h : okc l) (hp : okp l p) (n : Int) (hn : 0 ≤ n) (hn2 : n ≤ 1000000) : ∃ r, Ev (fun k => spec_l1Rd_bytes.f k l p n) r ∧ (r.1.size : Int) ≤ n ∧ okp l r.2 := by
  have key : ∀ (i : Nat) (acc : List Int) (p : Int), (acc.length : Int) + i ≤ 1000000 → okp l p → ∃ r, Ev (fun k => spec_l1Rd_bytes.l0 k acc (i : Int) l p) r ∧ r.1.size = acc.length + i ∧ okp l r.2 := by
    intro i
    induction i with
    | zero =>
      intro acc p ha hp
      refine ⟨(strOfNums acc, p), Ev.step (fun k => spec_l1Rd_bytes.l0.eq_2 ..) (Ev.neg (by omega) (Ev.now _)), ?_, hp⟩
      show (strOfNums acc).size = acc.length + 0
      unfold strOfNums
      simp [ByteArray.size]
    | succ i ih =>
      intro acc p ha hp
      obtain ⟨a, ha', _, ha2⟩ := below_ev h hp 256 (by omega)
      obtain ⟨r, hr, hr1, hr2⟩ := ih (acc ++ [a.1 % 256]) a.2 (by simp only [List.length_append, List.length_cons, List.length_nil]; omega) ha2
      refine ⟨r, Ev.step (fun k => spec_l1Rd_bytes.l0.eq_2 ..) (Ev.pos (by omega) (Ev.bindS ha' (Ev.pos (by omega) ?_))), ?_, hr2⟩
      · rw [wid (by omega) (by omega), show (((i + 1 : Nat) : Int) - 1) = (i : Int) from by omega]
        exact hr
      · rw [hr1, List.length_append]
        simp only [List.length_cons, List.length_nil]
        omega
  obtain ⟨a, ha, ha1, ha2⟩ := below_ev h hp (n + 1) (by omega)
  obtain ⟨r, hr, hr1, hr2⟩ := key a.1.toNat [] a.2 (by simp; omega) ha2
  refine ⟨r, ?_, ?_, hr2⟩
  · unfold spec_l1Rd_bytes.f
    rw [wid (by omega) (by omega)]
    refine Ev.bindS ha ?_
    rw [show ((a.1.toNat : Nat) : Int) = a.1 from by omega] at hr
    exact hr
  · rw [hr1]
    simp only [List.length_nil]
    omega
theorem duser_ev {l : List Int} {p : Int} (h : okc l) (hp : okp l p) : ∃ r, spec_l1Rd_user.f l p = some r ∧ (isU r.1) ∧ okp l r.2 := by
  obtain ⟨a, ha, ha1, ha2⟩ := below_ev h hp 10 (by omega)
  unfold spec_l1Rd_user.f
  rw [Option.bind_some, ha, Option.bind_some, if_pos ha1.1, if_pos (by simp only [List.length_cons, List.length_nil]; omega)]
  refine ⟨_, rfl, ?_, ha2⟩
  obtain ⟨m, hm⟩ : ∃ m : Nat, a.1 = m := ⟨a.1.toNat, by omega⟩
  have hlt : m < 10 := by omega
  simp only [hm]
  clear hm ha1 ha ha2
  revert m
  unfold rdOf
  simp only [Int.toNat_natCast]
  decide +kernel
theorem dvalue_ev {l : List Int} {p : Int} (h : okc l) (hp : okp l p) : ∃ r, spec_l1Rd_value.f l p = some r ∧ (r.1.size ≤ 5) ∧ okp l r.2 := by
  obtain ⟨a, ha, ha1, ha2⟩ := below_ev h hp 5 (by omega)
  unfold spec_l1Rd_value.f
  rw [Option.bind_some, ha, Option.bind_some, if_pos ha1.1, if_pos (by simp only [List.length_cons, List.length_nil]; omega)]
  refine ⟨_, rfl, ?_, ha2⟩
  obtain ⟨m, hm⟩ : ∃ m : Nat, a.1 = m := ⟨a.1.toNat, by omega⟩
  have hlt : m < 5 := by omega
  simp only [hm]
  clear hm ha1 ha ha2
  revert m
  unfold rdOf
  simp only [Int.toNat_natCast]
  decide +kernel
theorem near_ev {l : List Int} {p : Int} (h : okc l) (hp : okp l p) (a b : Int) (hab : a ≤ b) (ha : -1000000000000000 ≤ a) (hb : b ≤ 1000000000000000) : ∃ r, Ev (fun k => spec_l1Rd_near.f k l p a b) r ∧ (a ≤ r.1 ∧ r.1 ≤ b) ∧ okp l r.2 := by
  unfold spec_l1Rd_near.f
  obtain ⟨x, hx, hx1, hx2⟩ := below_ev h hp 8 (by omega)
  by_cases c0 : x.1 = 0
  · exact ⟨_, Ev.bindS hx (Ev.pos c0 (Ev.now _)), ⟨Int.le_refl _, hab⟩, hx2⟩
  · by_cases c1 : x.1 = 1
    · exact ⟨_, Ev.bindS hx (Ev.neg c0 (Ev.pos c1 (Ev.now _))), ⟨hab, Int.le_refl _⟩, hx2⟩
    · obtain ⟨y, hy, hy1, hy2⟩ := word_ev h hx2
      have e : IntKind.u64.wrap (wrap64 (wrap64 (b - a) + 1)) = b - a + 1 := by
        rw [wid (x := b - a) (by omega) (by omega), wid (by omega) (by omega), uid (by omega) (by omega)]
      have m0 : 0 ≤ Int.tmod (y.1 / 2) (b - a + 1) ∧ Int.tmod (y.1 / 2) (b - a + 1) < b - a + 1 := by
        rw [Int.tmod_eq_emod_of_nonneg (by omega)]
        exact ⟨Int.emod_nonneg _ (by omega), Int.emod_lt_of_pos _ (by omega)⟩
      refine ⟨(a + Int.tmod (y.1 / 2) (b - a + 1), y.2), Ev.bindS hx (Ev.neg c0 (Ev.neg c1 (Ev.neg (by omega) (Ev.bind hy ?_)))), ⟨by show a ≤ a + _; omega, by show a + _ ≤ b; omega⟩, hy2⟩
      rw [e, wid (x := Int.tmod (y.1 / 2) (b - a + 1)) (by omega) (by omega), wid (by omega) (by omega)]
      exact Ev.neg (by omega) (Ev.now _)
theorem off_ev {l : List Int} {p : Int} (h : okc l) (hp : okp l p) (a b : Int) (hab : a ≤ b) (ha : -1000000000000000 ≤ a) (hb : b ≤ 1000000000000000) : ∃ r, Ev (fun k => spec_l1Rd_off.f k l p a b) r ∧ (-9223372036854775808 ≤ r.1 ∧ r.1 ≤ 9223372036854775807) ∧ okp l r.2 := by
  unfold spec_l1Rd_off.f
  obtain ⟨x, hx, hx2⟩ := once_ev h hp 24 (by omega)
  by_cases c0 : x.1 = true
  · obtain ⟨y, hy, hy1, hy2⟩ := below_ev h hx2 4 (by omega)
    refine ⟨_, Ev.bindS hx (Ev.pos c0 (Ev.bindS rfl (Ev.bindS hy (Ev.pos hy1.1 (Ev.pos (by simp only [List.length_cons, List.length_nil]; omega) (Ev.now _)))))), ?_, hy2⟩
    rw [wid (x := a - 1) (by omega) (by omega), wid (x := b + 1) (by omega) (by omega)]
    obtain ⟨m, hm⟩ : ∃ m : Nat, y.1 = m := ⟨y.1.toNat, by omega⟩
    have hlt : m < 4 := by omega
    simp only [hm]
    unfold rd
    rw [Int.toNat_natCast]
    match m, hlt with
    | 0, _ => show -9223372036854775808 ≤ a - 1 ∧ a - 1 ≤ 9223372036854775807; omega
    | 1, _ => show -9223372036854775808 ≤ b + 1 ∧ b + 1 ≤ 9223372036854775807; omega
    | 2, _ => show (-9223372036854775808 : Int) ≤ -9223372036854775808 ∧ (-9223372036854775808 : Int) ≤ 9223372036854775807; omega
    | 3, _ => show (-9223372036854775808 : Int) ≤ 9223372036854775807 ∧ (9223372036854775807 : Int) ≤ 9223372036854775807; omega
  · obtain ⟨y, hy, hy1, hy2⟩ := near_ev h hx2 a b hab ha hb
    exact ⟨_, Ev.bindS hx (Ev.neg c0 (Ev.bind hy (Ev.now _))), ⟨by omega, by omega⟩, hy2⟩
end Go.Proofs.Ytidjdkodgddfcaa.P
end

section
namespace Go.Proofs.Ytidjdkodgddfcaa.P
open Go.RowKit Go.Proofs.YtidjdkodgddfcaaW.PrintWords Go.Proofs.YtidjdkodgddfcaaW.PrintLast Go.Proofs.YtidjdkodgddfcaaW.PrintMore
attribute [local go_sem] str_gtr str_leq str_geq max2_int min2_int max_two min_two max_three min_three max_four min_four
set_option linter.unusedVariables false
set_option linter.unusedSimpArgs false
def isK (u : ByteArray) (seq kind : Int) : Prop := isU u ∧ (0 ≤ seq ∧ seq ≤ 1000000000000) ∧ 0 ≤ kind ∧ kind ≤ 1
instance (u : ByteArray) (seq kind : Int) : Decidable (isK u seq kind) := by unfold isK; infer_instance
def isE (u : ByteArray) (seq kind : Int) (v : ByteArray) : Prop := isK u seq kind ∧ v.size ≤ 200 ∧ (kind = 1 ∨ v.toList = [])
instance (u : ByteArray) (seq kind : Int) (v : ByteArray) : Decidable (isE u seq kind v) := by unfold isE; infer_instance
theorem beq_dec (a b : List UInt8) : (a == b) = decide (a = b) := by
  by_cases h : a = b <;> simp [h]
theorem keyOk_ev (u : ByteArray) (q d : Int) : impl_KeyOk.f u q d = some (decide (isK u q d)) := by
  unfold impl_KeyOk.f isK
  rw [isUser_ev, within_ev, within_ev]
  by_cases h : isU u
  · by_cases h2 : 0 ≤ q ∧ q ≤ 1000000000000
    · simp [h, h2]
    · simp [h, h2]
  · simp [h]
theorem sKeyOk_ev (u : ByteArray) (q d : Int) : spec_KeyOk.f u q d = some (decide (isK u q d)) := by
  unfold spec_KeyOk.f isK
  rw [l2User_ev, in_ev, in_ev]
  by_cases h : isU u
  · by_cases h2 : 0 ≤ q ∧ q ≤ 1000000000000
    · simp [h, h2]
    · simp [h, h2]
  · simp [h]
theorem entryOk_ev (u : ByteArray) (q d : Int) (v : ByteArray) : impl_EntryOk.f u q d v = some (decide (isE u q d v)) := by
  unfold impl_EntryOk.f isE
  rw [keyOk_ev]
  by_cases h : isK u q d
  · by_cases h2 : v.size ≤ 200
    · have h2' : (v.size : Int) ≤ 200 := by omega
      by_cases h3 : d = 1
      · subst h3
        simp [h, h2, h2']
      · simp only [h, h2, h2', h3, decide_true, Option.bind_some, if_true, if_false, true_and, false_or]
        congr 1
        exact beq_dec _ _
    · have h2' : ¬ (v.size : Int) ≤ 200 := by omega
      simp [h, h2, h2']
  · simp [h]
theorem sEntryOk_ev (u : ByteArray) (q d : Int) (v : ByteArray) : spec_EntryOk.f u q d v = some (decide (isE u q d v)) := by
  unfold spec_EntryOk.f isE
  rw [sKeyOk_ev]
  by_cases h : isK u q d
  · by_cases h2 : v.size ≤ 200
    · have h2' : (v.size : Int) ≤ 200 := by omega
      by_cases h3 : d = 1
      · subst h3
        simp [h, h2, h2']
      · simp only [h, h2, h2', h3, decide_true, Option.bind_some, if_true, if_false, true_and, false_or]
        congr 1
        exact beq_dec _ _
    · have h2' : ¬ (v.size : Int) ≤ 200 := by omega
      simp [h, h2, h2']
  · simp [h]
end Go.Proofs.Ytidjdkodgddfcaa.P
end

section
namespace Go.Proofs.Ytidjdkodgddfcaa.P
open Go.RowKit Go.Proofs.YtidjdkodgddfcaaW.PrintWords Go.Proofs.YtidjdkodgddfcaaW.PrintLast Go.Proofs.YtidjdkodgddfcaaW.PrintMore
attribute [local go_sem] str_gtr str_leq str_geq max2_int min2_int max_two min_two max_three min_three max_four min_four
set_option linter.unusedVariables false
set_option linter.unusedSimpArgs false
theorem bl_irrefl : ∀ a : List UInt8, Op.bytesLess a a = false
  | [] => by simp [Op.bytesLess]
  | a :: x => by
    have ih := bl_irrefl x
    have h1 : ¬ a < a := fun h => by have := UInt8.lt_iff_toNat_lt.1 h; omega
    simp [Op.bytesLess, ih, h1]
theorem bl_eq {a b : List UInt8} (h : Op.bytesLess a b = false) (h' : Op.bytesLess b a = false) : a = b := by
  rw [← bytesLess_swap, h] at h'
  simpa using h'
def tless (a b : ByteArray) : Bool := Op.bytesLess a.toList b.toList
theorem compareS_ev (a b : ByteArray) : cmp_Compare_string.f a b = some (if tless a b = true then -1 else if tless b a = true then 1 else 0) := by
  unfold cmp_Compare_string.f cmp_isNaN_string.f tless
  simp only [bne_self_eq_false, Option.bind_some, Bool.false_eq_true, if_false]
  split
  · rfl
  · split <;> rfl
theorem compareI_ev (a b : Int) : cmp_Compare_int64.f a b = some (if a < b then -1 else if b < a then 1 else 0) := by
  unfold cmp_Compare_int64.f cmp_isNaN_int64.f
  simp only [bne_self_eq_false, Option.bind_some, Bool.false_eq_true, if_false]
  split
  · rfl
  · by_cases h : b < a
    · rw [if_pos h, if_pos h]
    · rw [if_neg h, if_neg h]
theorem orInt_ev : ∀ (n : Nat) (l : List Int), l.length = n → n < 1000 → Ev (fun k => cmp_Or_int.f k l) ((l.find? fun x => x != 0).getD 0) := by
  intro n l hn hb
  have key : ∀ i, i ≤ l.length → Ev (fun k => cmp_Or_int.l0 k 0 l (l.length : Int) (i : Int)) (((l.drop i).find? fun x => x != 0).getD 0) := by
    refine downTo l.length ?_ ?_
    · refine Ev.step (fun k => cmp_Or_int.l0.eq_2 ..) (Ev.neg (by omega) ?_)
      rw [List.drop_length]
      exact Ev.now _
    · intro i hi ih
      have hr : rd l (i : Int) = l[i] := by
        unfold rd
        rw [Int.toNat_natCast, List.getD_eq_getElem?_getD, List.getElem?_eq_getElem hi]
        rfl
      rw [List.drop_eq_getElem_cons hi]
      refine Ev.step (fun k => cmp_Or_int.l0.eq_2 ..) (Ev.pos (by omega) (Ev.pos (by omega) (Ev.pos (by omega) ?_)))
      rw [hr, wsucc (by omega)]
      by_cases c : l[i] = 0
      · refine Ev.pos c ?_
        rw [List.find?_cons_of_neg (by simp [c])]
        exact ih
      · refine Ev.neg c ?_
        rw [List.find?_cons_of_pos (by simp [c])]
        exact Ev.now _
  exact key 0 (Nat.zero_le _)
def kcmp (u : ByteArray) (q d : Int) (u' : ByteArray) (q' d' : Int) : Int :=
  if tless u u' = true then -1 else if tless u' u = true then 1 else if q' < q then -1 else if q < q' then 1 else if d' < d then -1 else if d < d' then 1 else 0
theorem cmpKeys_ev (u : ByteArray) (q d : Int) (u' : ByteArray) (q' d' : Int) : Ev (fun k => impl_cmpKeys.f k u q d u' q' d') (kcmp u q d u' q' d') := by
  have h1 := compareS_ev u u'
  have h2 := compareI_ev q' q
  have h3 := compareI_ev d' d
  unfold impl_cmpKeys.f
  refine Ev.bindS h1 (Ev.bindS h2 (Ev.bindS h3 (Ev.bind (orInt_ev 3 _ rfl (by omega)) ((Ev.now _).eqr ?_))))
  unfold kcmp
  by_cases c1 : tless u u' = true
  · simp [c1]
  · by_cases c2 : tless u' u = true
    · simp [c1, c2]
    · by_cases c3 : q' < q
      · simp [c1, c2, c3]
      · by_cases c4 : q < q'
        · simp [c1, c2, c3, c4]
        · by_cases c5 : d' < d
          · simp [c1, c2, c3, c4, c5]
          · by_cases c6 : d < d'
            · simp [c1, c2, c3, c4, c5, c6]
            · simp [c1, c2, c3, c4, c5, c6]
theorem sKeyCmp_ev (u : ByteArray) (q d : Int) (u' : ByteArray) (q' d' : Int) : Ev (fun k => spec_KeyCmp.f k u q d u' q' d') (if isK u q d ∧ isK u' q' d' then kcmp u q d u' q' d' else 0) := by
  have h1 := sKeyOk_ev u q d
  have h2 := sKeyOk_ev u' q' d'
  have jt : Ev (fun k => spec_KeyCmp.j0 k true u q d u' q' d') 0 := Ev.step (fun k => spec_KeyCmp.j0.eq_2 ..) (Ev.pos rfl (Ev.now _))
  unfold spec_KeyCmp.f
  refine Ev.bindS h1 ?_
  by_cases c1 : isK u q d
  · refine Ev.pos (decide_eq_true c1) (Ev.bindS h2 ?_)
    by_cases c2 : isK u' q' d'
    · rw [decide_eq_true c2]
      refine Ev.eqr ?_ (if_pos ⟨c1, c2⟩).symm
      refine Ev.step (fun k => spec_KeyCmp.j0.eq_2 ..) (Ev.neg (by decide) ?_)
      have e : ∀ a b : ByteArray, Op.bytesLess a.toList b.toList = tless a b := fun _ _ => rfl
      rw [e]
      unfold kcmp
      by_cases k1 : tless u u' = true
      · have hne : u.toList ≠ u'.toList := fun h => by rw [← e, h, bl_irrefl] at k1; cases k1
        exact Ev.neg (by simp [hne]) (Ev.pos k1 ((Ev.now _).eqr (if_pos k1).symm))
      · by_cases k2 : tless u' u = true
        · have hne : u.toList ≠ u'.toList := fun h => by rw [← e, h, bl_irrefl] at k2; cases k2
          exact Ev.neg (by simp [hne]) (Ev.neg k1 (Ev.neg hne ((Ev.now _).eqr (by rw [if_neg k1, if_pos k2]))))
        · have heq : u.toList = u'.toList := bl_eq (by simpa [tless] using k1) (by simpa [tless] using k2)
          refine Ev.eqr ?_ (show (if q' < q then (-1 : Int) else if q < q' then 1 else if d' < d then -1 else if d < d' then 1 else 0) = _ from by rw [if_neg k1, if_neg k2])
          by_cases ce : q = q' ∧ d = d'
          · refine Ev.pos (by simp [heq, ce.1, ce.2]) ((Ev.now _).eqr ?_)
            rw [if_neg (by omega), if_neg (by omega), if_neg (by omega), if_neg (by omega)]
          · refine Ev.neg (by simp [heq]; omega) (Ev.neg k1 (Ev.pos heq ?_))
            by_cases k3 : q > q'
            · exact Ev.pos k3 ((Ev.now _).eqr (by rw [if_pos (by omega)]))
            · refine Ev.neg k3 ?_
              by_cases k4 : q = q'
              · refine Ev.pos k4 ?_
                by_cases k5 : d > d'
                · exact Ev.pos k5 ((Ev.now _).eqr (by rw [if_neg (by omega), if_neg (by omega), if_pos (by omega)]))
                · exact Ev.neg k5 ((Ev.now _).eqr (by rw [if_neg (by omega), if_neg (by omega), if_neg (by omega), if_pos (by omega)]))
              · exact Ev.neg k4 ((Ev.now _).eqr (by rw [if_neg (by omega), if_pos (by omega)]))
    · rw [decide_eq_false c2]
      exact jt.eqr (if_neg fun h => c2 h.2).symm
  · exact Ev.neg (by simpa using c1) (jt.eqr (if_neg fun h => c1 h.1).symm)
def isEx (x : S64) : Prop := isE x.f0.f0 x.f0.f1 x.f0.f2 x.f1
instance (x : S64) : Decidable (isEx x) := by unfold isEx; infer_instance
def ecmp (x y : S64) : Int := kcmp x.f0.f0 x.f0.f1 x.f0.f2 y.f0.f0 y.f0.f1 y.f0.f2
theorem rdE (l : List S64) (i : Nat) (h : i < l.length) : rd_T64 l (i : Int) = l[i] := by
  unfold rd_T64
  rw [Int.toNat_natCast, List.getD_eq_getElem?_getD, List.getElem?_eq_getElem h]
  rfl
def rowFrom (l : List S64) (i : Nat) : Prop := ∀ j, i ≤ j → ∀ h : j < l.length, isEx l[j] ∧ (0 < j → ecmp (l[j - 1]'(by omega)) l[j] < 0)
noncomputable instance (l : List S64) (i : Nat) : Decidable (rowFrom l i) := Classical.propDecidable _
def isRow (l : List S64) : Prop := l.length ≤ 400 ∧ rowFrom l 0
noncomputable instance (l : List S64) : Decidable (isRow l) := Classical.propDecidable _
theorem rowFrom_step (l : List S64) (i : Nat) (h : i < l.length) : rowFrom l i ↔ (isEx l[i] ∧ (0 < i → ecmp (l[i - 1]'(by omega)) l[i] < 0)) ∧ rowFrom l (i + 1) := by
  constructor
  · exact fun hr => ⟨hr i (Nat.le_refl _) h, fun j hj hl => hr j (by omega) hl⟩
  · rintro ⟨h1, h2⟩ j hj hl
    by_cases e : j = i
    · subst e; exact h1
    · exact h2 j (by omega) hl
theorem entriesOk_ev (l : List S64) (hl : l.length < 2097152) : Ev (fun k => impl_EntriesOk.f k l) (decide (isRow l)) := by
  unfold impl_EntriesOk.f
  by_cases c : (l.length : Int) > 400
  · exact Ev.pos c ((Ev.now _).eqr (decide_eq_false fun h => by have := h.1; omega).symm)
  · have key : ∀ i, i ≤ l.length → (∀ h : 0 < i, isEx (l.getD (i - 1) z64)) → Ev (fun k => impl_EntriesOk.l0 k l l (l.length : Int) (i : Int)) (decide (rowFrom l i)) := by
      refine downTo l.length ?_ ?_
      · intro _
        exact Ev.step (fun k => impl_EntriesOk.l0.eq_2 ..) (Ev.neg (by omega) ((Ev.now _).eqr (decide_eq_true (show rowFrom l l.length from fun j h1 h2 => by omega)).symm))
      · intro i hi ih hp
        have hg : l.getD (i + 1 - 1) z64 = l[i] := by rw [Nat.add_sub_cancel, List.getD_eq_getElem?_getD, List.getElem?_eq_getElem hi]; rfl
        refine Ev.step (fun k => impl_EntriesOk.l0.eq_2 ..) (Ev.pos (by omega) (Ev.pos (by omega) ?_))
        refine Ev.pos (by omega) ?_
        rw [rdE l i hi]
        refine Ev.bindS (entryOk_ev l[i].f0.f0 l[i].f0.f1 l[i].f0.f2 l[i].f1) ?_
        by_cases ce : isE l[i].f0.f0 l[i].f0.f1 l[i].f0.f2 l[i].f1
        · refine Ev.pos (decide_eq_true ce) ?_
          have ih := ih (fun _ => by rw [hg]; exact ce)
          by_cases c0 : (i : Int) > 0
          · have hw : wrap64 ((i : Int) - 1) = ((i - 1 : Nat) : Int) := by rw [wid (by omega) (by omega)]; omega
            rw [hw, rdE l (i - 1) (by omega)]
            have hq := hp (by omega)
            rw [show l.getD (i - 1) z64 = l[i - 1]'(by omega) from by rw [List.getD_eq_getElem?_getD, List.getElem?_eq_getElem (by omega)]; rfl] at hq
            refine Ev.pos c0 (Ev.pos (by omega) (Ev.pos (by omega) (Ev.bind (cmpKeys_ev _ _ _ _ _ _) ?_)))
            skip
            by_cases cc : ecmp (l[i - 1]'(by omega)) l[i] ≥ 0
            · exact Ev.pos cc ((Ev.now _).eqr (decide_eq_false fun h => by have := ((rowFrom_step l i hi).1 h).1.2 (by omega); omega).symm)
            · refine Ev.neg cc ?_
              rw [wsucc (by omega)]
              exact ih.eqr (decide_eq_decide.2 ⟨fun h => (rowFrom_step l i hi).2 ⟨⟨ce, fun _ => by omega⟩, h⟩, fun h => ((rowFrom_step l i hi).1 h).2⟩)
          · refine Ev.neg c0 ?_
            rw [wsucc (by omega)]
            exact ih.eqr (decide_eq_decide.2 ⟨fun h => (rowFrom_step l i hi).2 ⟨⟨ce, fun _ => by omega⟩, h⟩, fun h => ((rowFrom_step l i hi).1 h).2⟩)
        · exact Ev.neg (by simpa using ce) ((Ev.now _).eqr (decide_eq_false fun h => ce ((rowFrom_step l i hi).1 h).1.1).symm)
    exact Ev.neg c ((key 0 (Nat.zero_le _) (fun h => absurd h (by omega))).eqr (decide_eq_decide.2 ⟨fun h => ⟨by omega, h⟩, fun h => h.2⟩))
theorem sEntriesOk_ev (l : List S64) (hl : l.length < 2097152) : Ev (fun k => spec_EntriesOk.f k l) (decide (isRow l)) := by
  unfold spec_EntriesOk.f
  by_cases c : (l.length : Int) > 400
  · exact Ev.pos c ((Ev.now _).eqr (decide_eq_false fun h => by have := h.1; omega).symm)
  · have key : ∀ i, i ≤ l.length → (∀ h : 0 < i, isEx (l.getD (i - 1) z64)) → Ev (fun k => spec_EntriesOk.l0 k l (i : Int)) (decide (rowFrom l i)) := by
      refine downTo l.length ?_ ?_
      · intro _
        exact Ev.step (fun k => spec_EntriesOk.l0.eq_2 ..) (Ev.neg (by omega) ((Ev.now _).eqr (decide_eq_true (show rowFrom l l.length from fun j h1 h2 => by omega)).symm))
      · intro i hi ih hp
        have hg : l.getD (i + 1 - 1) z64 = l[i] := by rw [Nat.add_sub_cancel, List.getD_eq_getElem?_getD, List.getElem?_eq_getElem hi]; rfl
        refine Ev.step (fun k => spec_EntriesOk.l0.eq_2 ..) (Ev.pos (by omega) (Ev.pos (by omega) ?_))
        rw [rdE l i hi]
        refine Ev.bindS (sEntryOk_ev l[i].f0.f0 l[i].f0.f1 l[i].f0.f2 l[i].f1) ?_
        by_cases ce : isE l[i].f0.f0 l[i].f0.f1 l[i].f0.f2 l[i].f1
        · refine Ev.pos (decide_eq_true ce) ?_
          have ih := ih (fun _ => by rw [hg]; exact ce)
          by_cases c0 : (i : Int) > 0
          · have hw : wrap64 ((i : Int) - 1) = ((i - 1 : Nat) : Int) := by rw [wid (by omega) (by omega)]; omega
            rw [hw, rdE l (i - 1) (by omega)]
            have hq := hp (by omega)
            rw [show l.getD (i - 1) z64 = l[i - 1]'(by omega) from by rw [List.getD_eq_getElem?_getD, List.getElem?_eq_getElem (by omega)]; rfl] at hq
            refine Ev.pos c0 (Ev.pos (by omega) (Ev.pos (by omega) (Ev.bind (sKeyCmp_ev _ _ _ _ _ _) ?_)))
            rw [if_pos ⟨hq.1, ce.1⟩]
            by_cases cc : ecmp (l[i - 1]'(by omega)) l[i] ≥ 0
            · exact Ev.pos cc ((Ev.now _).eqr (decide_eq_false fun h => by have := ((rowFrom_step l i hi).1 h).1.2 (by omega); omega).symm)
            · refine Ev.neg cc ?_
              rw [wsucc (by omega)]
              exact ih.eqr (decide_eq_decide.2 ⟨fun h => (rowFrom_step l i hi).2 ⟨⟨ce, fun _ => by omega⟩, h⟩, fun h => ((rowFrom_step l i hi).1 h).2⟩)
          · refine Ev.neg c0 ?_
            rw [wsucc (by omega)]
            exact ih.eqr (decide_eq_decide.2 ⟨fun h => (rowFrom_step l i hi).2 ⟨⟨ce, fun _ => by omega⟩, h⟩, fun h => ((rowFrom_step l i hi).1 h).2⟩)
        · exact Ev.neg (by simpa using ce) ((Ev.now _).eqr (decide_eq_false fun h => ce ((rowFrom_step l i hi).1 h).1.1).symm)
    exact Ev.neg c ((key 0 (Nat.zero_le _) (fun h => absurd h (by omega))).eqr (decide_eq_decide.2 ⟨fun h => ⟨by omega, h⟩, fun h => h.2⟩))
end Go.Proofs.Ytidjdkodgddfcaa.P
end

section
namespace Go.Proofs.Ytidjdkodgddfcaa.P
open Go.RowKit Go.Proofs.YtidjdkodgddfcaaW.PrintWords Go.Proofs.YtidjdkodgddfcaaW.PrintLast Go.Proofs.YtidjdkodgddfcaaW.PrintMore
attribute [local go_sem] str_gtr str_leq str_geq max2_int min2_int max_two min_two max_three min_three max_four min_four
set_option linter.unusedVariables false
set_option linter.unusedSimpArgs false
theorem dkey_ev {l : List Int} {p : Int} (h : okc l) (hp : okp l p) : ∃ r, Ev (fun k => spec_l1Rd_key.f k l p) r ∧ okp l r.2.2.2 := by
  unfold spec_l1Rd_key.f
  obtain ⟨a, ha, _, ha2⟩ := duser_ev h hp
  obtain ⟨b, hb, _, hb2⟩ := near_ev h ha2 0 12 (by omega) (by omega) (by omega)
  obtain ⟨c, hc, _, hc2⟩ := below_ev h hb2 2 (by omega)
  obtain ⟨d, hd, _, hd2⟩ := below_ev h hc2 24 (by omega)
  by_cases c0 : d.1 = 0
  · obtain ⟨e, he, _, he2⟩ := off_ev h hd2 0 1000000000000 (by omega) (by omega) (by omega)
    exact ⟨_, Ev.bindS ha (Ev.bind hb (Ev.bindS hc (Ev.bindS hd (Ev.pos c0 (Ev.bind he (Ev.now _)))))), he2⟩
  · by_cases c1 : d.1 = 1
    · obtain ⟨e, he, _, he2⟩ := off_ev h hd2 0 1 (by omega) (by omega) (by omega)
      exact ⟨_, Ev.bindS ha (Ev.bind hb (Ev.bindS hc (Ev.bindS hd (Ev.neg c0 (Ev.pos c1 (Ev.bind he (Ev.now _))))))), he2⟩
    · by_cases c2 : d.1 = 2
      · obtain ⟨e, he, _, he2⟩ := bytes_ev h hd2 45 (by omega) (by omega)
        exact ⟨_, Ev.bindS ha (Ev.bind hb (Ev.bindS hc (Ev.bindS hd (Ev.neg c0 (Ev.neg c1 (Ev.pos c2 (Ev.bind he (Ev.now _)))))))), he2⟩
      · exact ⟨_, Ev.bindS ha (Ev.bind hb (Ev.bindS hc (Ev.bindS hd (Ev.neg c0 (Ev.neg c1 (Ev.neg c2 (Ev.now _))))))), hd2⟩
theorem dentry_ev {l : List Int} {p : Int} (h : okc l) (hp : okp l p) : ∃ r, Ev (fun k => spec_l1Rd_entry.f k l p) r ∧ okp l r.2.2.2.2 := by
  unfold spec_l1Rd_entry.f
  obtain ⟨a, ha, ha2⟩ := dkey_ev h hp
  obtain ⟨b, hb, _, hb2⟩ := dvalue_ev h ha2
  by_cases c0 : a.2.2.1 = 0
  · obtain ⟨c, hc, hc2⟩ := once_ev h hb2 12 (by omega)
    by_cases c1 : c.1 = true
    · exact ⟨_, Ev.bind ha (Ev.bindS hb (Ev.pos c0 (Ev.bindS hc (Ev.pos c1 (Ev.now _))))), hc2⟩
    · exact ⟨_, Ev.bind ha (Ev.bindS hb (Ev.pos c0 (Ev.bindS hc (Ev.neg c1 (Ev.now _))))), hc2⟩
  · exact ⟨_, Ev.bind ha (Ev.bindS hb (Ev.neg c0 (Ev.now _))), hb2⟩
theorem dentries_ev {l : List Int} {p : Int} (h : okc l) (hp : okp l p) (n : Int) (hn : 0 ≤ n) (hn2 : n ≤ 1000) : ∃ r, Ev (fun k => spec_l1Rd_entries.f k l p n) r ∧ (r.1.length : Int) ≤ n + 1 ∧ okp l r.2 := by
  have key : ∀ (j : Nat) (acc : List S64) (p : Int), acc.length + j ≤ 2000 → okp l p → ∃ r, Ev (fun k => spec_l1Rd_entries.l0 k acc (j : Int) l p) r ∧ r.1.length ≤ acc.length + j + 1 ∧ okp l r.2 := by
    intro j
    induction j with
    | zero =>
      intro acc p ha hp
      obtain ⟨a, ha', ha2⟩ := once_ev h hp 24 (by omega)
      by_cases c : a.1 = true
      · obtain ⟨b, hb, hb2⟩ := dentry_ev h ha2
        refine ⟨_, Ev.step (fun k => spec_l1Rd_entries.l0.eq_2 ..) (Ev.neg (by omega) (Ev.bindS ha' (Ev.pos c (Ev.bind hb (Ev.pos (by omega) (Ev.now _)))))), ?_, hb2⟩
        show (acc ++ [_]).length ≤ _
        rw [List.length_append]
        simp only [List.length_cons, List.length_nil]
        omega
      · exact ⟨_, Ev.step (fun k => spec_l1Rd_entries.l0.eq_2 ..) (Ev.neg (by omega) (Ev.bindS ha' (Ev.neg c (Ev.now _)))), by show acc.length ≤ _; omega, ha2⟩
    | succ j ih =>
      intro acc p ha hp
      obtain ⟨e, he, he2⟩ := dentry_ev h hp
      have hw : wrap64 (((j + 1 : Nat) : Int) - 1) = (j : Int) := by rw [wid (by omega) (by omega)]; omega
      by_cases c : isE e.1 e.2.1 e.2.2.1 e.2.2.2.1
      ·
        have seek : ∀ d i : Nat, i + d = acc.length → ∃ r, Ev (fun k => spec_l1Rd_entries.l1 k acc ((j + 1 : Nat) : Int) (i : Int) l e.2.2.2.2 e.1 e.2.1 e.2.2.1 e.2.2.2.1) r ∧ r.1.length ≤ acc.length + (j + 1) + 1 ∧ okp l r.2 := by
          intro d
          induction d with
          | zero =>
            intro i hi
            obtain ⟨r, hr, hr1, hr2⟩ := ih ((([] ++ acc.take i) ++ [⟨⟨e.1, e.2.1, e.2.2.1⟩, e.2.2.2.1⟩]) ++ acc.drop i) e.2.2.2.2 (by simp; omega) he2
            refine ⟨r, Ev.step (fun k => spec_l1Rd_entries.l1.eq_2 ..) (Ev.neg (by omega) (Ev.bindS rfl (Ev.pos (by omega) (Ev.pos (by omega) (Ev.bindS rfl (Ev.pos (by simp; omega) (Ev.bindS rfl (Ev.pos (by simp; omega) (Ev.bindS rfl (Ev.bindS rfl (Ev.pos (by simp; omega) ?_))))))))))), ?_, hr2⟩
            · rw [hw, Int.toNat_natCast]
              exact hr
            · refine Nat.le_trans hr1 ?_
              simp
              omega
          | succ d ihd =>
            intro i hi
            have hc := sKeyCmp_ev (rd_T64 acc (i : Int)).f0.f0 (rd_T64 acc (i : Int)).f0.f1 (rd_T64 acc (i : Int)).f0.f2 e.1 e.2.1 e.2.2.1
            generalize (if isK (rd_T64 acc (i : Int)).f0.f0 (rd_T64 acc (i : Int)).f0.f1 (rd_T64 acc (i : Int)).f0.f2 ∧ isK e.1 e.2.1 e.2.2.1 then kcmp (rd_T64 acc (i : Int)).f0.f0 (rd_T64 acc (i : Int)).f0.f1 (rd_T64 acc (i : Int)).f0.f2 e.1 e.2.1 e.2.2.1 else 0) = cv at hc
            by_cases c1 : cv < 0
            · obtain ⟨r, hr, hr2⟩ := ihd (i + 1) (by omega)
              refine ⟨r, Ev.step (fun k => spec_l1Rd_entries.l1.eq_2 ..) (Ev.pos (by omega) (Ev.pos (by omega) (Ev.bind hc (Ev.pos c1 ?_)))), hr2⟩
              rw [wsucc (by omega)]
              exact hr
            · generalize hb : (((rd_T64 acc (i : Int)).f0.f0.toList == e.1.toList) && ((rd_T64 acc (i : Int)).f0.f1 == e.2.1 && ((rd_T64 acc (i : Int)).f0.f2 == e.2.2.1))) = bb
              cases bb with
              | true =>
                obtain ⟨r, hr, hr1, hr2⟩ := ih acc e.2.2.2.2 (by omega) he2
                refine ⟨r, Ev.step (fun k => spec_l1Rd_entries.l1.eq_2 ..) (Ev.pos (by omega) (Ev.pos (by omega) (Ev.bind hc (Ev.neg c1 (Ev.pos hb ?_))))), by omega, hr2⟩
                rw [hw]
                exact hr
              | false =>
                obtain ⟨r, hr, hr1, hr2⟩ := ih ((([] ++ acc.take i) ++ [⟨⟨e.1, e.2.1, e.2.2.1⟩, e.2.2.2.1⟩]) ++ acc.drop i) e.2.2.2.2 (by simp; omega) he2
                refine ⟨r, Ev.step (fun k => spec_l1Rd_entries.l1.eq_2 ..) (Ev.pos (by omega) (Ev.pos (by omega) (Ev.bind hc (Ev.neg c1 (Ev.neg (by rw [hb]; simp) (Ev.bindS rfl (Ev.pos (by omega) (Ev.bindS rfl (Ev.pos (by simp; omega) (Ev.bindS rfl (Ev.pos (by simp; omega) (Ev.bindS rfl (Ev.bindS rfl (Ev.pos (by simp; omega) ?_)))))))))))))), ?_, hr2⟩
                · rw [hw, Int.toNat_natCast]
                  exact hr
                · refine Nat.le_trans hr1 ?_
                  simp
                  omega
        obtain ⟨r, hr, hr2⟩ := seek acc.length 0 (by omega)
        exact ⟨r, Ev.step (fun k => spec_l1Rd_entries.l0.eq_2 ..) (Ev.pos (by omega) (Ev.bind he (Ev.bindS (sEntryOk_ev _ _ _ _) (Ev.pos (decide_eq_true c) hr)))), hr2⟩
      · obtain ⟨r, hr, hr1, hr2⟩ := ih acc e.2.2.2.2 (by omega) he2
        refine ⟨r, Ev.step (fun k => spec_l1Rd_entries.l0.eq_2 ..) (Ev.pos (by omega) (Ev.bind he (Ev.bindS (sEntryOk_ev _ _ _ _) (Ev.neg (by simpa using c) ?_)))), by omega, hr2⟩
        rw [hw]
        exact hr
  obtain ⟨a, ha, ha1, ha2⟩ := below_ev h hp (n + 1) (by omega)
  obtain ⟨r, hr, hr1, hr2⟩ := key a.1.toNat [] a.2 (by simp; omega) ha2
  refine ⟨r, ?_, ?_, hr2⟩
  · unfold spec_l1Rd_entries.f
    rw [wid (by omega) (by omega)]
    refine Ev.bindS ha ?_
    rw [show ((a.1.toNat : Nat) : Int) = a.1 from by omega] at hr
    exact hr
  · simp only [List.length_nil] at hr1
    omega
end Go.Proofs.Ytidjdkodgddfcaa.P
end

section
namespace Go.Proofs.Ytidjdkodgddfcaa.P
open Go.RowKit Go.Proofs.YtidjdkodgddfcaaW.PrintWords Go.Proofs.YtidjdkodgddfcaaW.PrintLast Go.Proofs.YtidjdkodgddfcaaW.PrintMore
attribute [local go_sem] str_gtr str_leq str_geq max2_int min2_int max_two min_two max_three min_three max_four min_four
set_option linter.unusedVariables false
set_option linter.unusedSimpArgs false
theorem empty_size : (⟨#[]⟩ : ByteArray).size = 0 := rfl
theorem bytesOf_strOfNums (l : List Int) (h : ∀ x ∈ l, 0 ≤ x ∧ x < 256) : bytesOf (strOfNums l) = l := by
  unfold bytesOf strOfNums
  simp only [List.map_map]
  conv => rhs; rw [← List.map_id l]
  refine List.map_congr_left fun x hx => ?_
  have := h x hx
  simp only [Function.comp_apply, id]
  rw [UInt8.toNat_ofNat']
  omega
theorem bytesOf_pv (n : Nat) : bytesOf (pv n) = pvl n := bytesOf_strOfNums _ (pvl_range n)
end Go.Proofs.Ytidjdkodgddfcaa.P
end

section
namespace Go.Proofs.Ytidjdkodgddfcaa.P
open Go.RowKit Go.Proofs.YtidjdkodgddfcaaW.PrintWords Go.Proofs.YtidjdkodgddfcaaW.PrintLast Go.Proofs.YtidjdkodgddfcaaW.PrintMore
attribute [local go_sem] str_gtr str_leq str_geq max2_int min2_int max_two min_two max_three min_three max_four min_four
set_option linter.unusedVariables false
set_option linter.unusedSimpArgs false
def pf (n : Int) : ByteArray := strOfNums [n % 256, (n / 256) % 256, (n / 65536) % 256, (n / 16777216) % 256]
theorem bytesOf_pf (n : Int) : bytesOf (pf n) = [n % 256, (n / 256) % 256, (n / 65536) % 256, (n / 16777216) % 256] := by
  refine bytesOf_strOfNums _ fun x hx => ?_
  simp only [List.mem_cons, List.not_mem_nil, or_false] at hx
  omega
theorem pf_size (n : Int) : (pf n).size = 4 := by rw [← bytesOf_length, bytesOf_pf]; rfl
theorem putFixed_ev (n : Int) : impl_PutFixed.f n = some (pf n) := rfl
theorem sPutFixed_ev (n : Int) : spec_PutFixed.f n = some (pf n) := rfl
end Go.Proofs.Ytidjdkodgddfcaa.P
end

section
namespace Go.Proofs.Ytidjdkodgddfcaa.Pure
open Go.RowKit Go.Proofs.YtidjdkodgddfcaaW.PrintWords Go.Proofs.YtidjdkodgddfcaaW.PrintLast Go.Proofs.YtidjdkodgddfcaaW.PrintMore
open Go.Proofs.Ytidjdkodgddfcaa.P
set_option linter.unusedVariables false
set_option linter.unusedSimpArgs false
def cpl : List Int → List Int → Nat
  | a :: x, b :: y => if a = b then cpl x y + 1 else 0
  | _, _ => 0
def shv (a b : ByteArray) : Nat := cpl (bytesOf a) (bytesOf b)
theorem cpl_le : ∀ a b : List Int, cpl a b ≤ a.length ∧ cpl a b ≤ b.length
  | [], _ => by simp [cpl]
  | _ :: _, [] => by simp [cpl]
  | a :: x, b :: y => by
    have := cpl_le x y
    unfold cpl
    split
    · simp only [List.length_cons]; omega
    · simp
theorem shv_le (a b : ByteArray) : shv a b ≤ a.size ∧ shv a b ≤ b.size := by
  have := cpl_le (bytesOf a) (bytesOf b)
  rw [bytesOf_length, bytesOf_length] at this
  exact this
theorem drop_bt (s : ByteArray) (i : Nat) (h : i < s.size) : (bytesOf s).drop i = bt s (i : Int) :: (bytesOf s).drop (i + 1) := by
  have hl : i < (bytesOf s).length := by rw [bytesOf_length]; exact h
  rw [List.drop_eq_getElem_cons hl]
  congr 1
  rw [← rd_bytesOf]
  unfold rd
  rw [Int.toNat_natCast, List.getD_eq_getElem?_getD, List.getElem?_eq_getElem hl]
  rfl
theorem shared_ev (a b : ByteArray) (ha : a.size ≤ 2097152) : Ev (fun k => impl_SharedWith.f k a b) ((shv a b : Nat) : Int) := by
  have key : ∀ i, i ≤ a.size → Ev (fun k => impl_SharedWith.l0 k a b (i : Int)) ((i + cpl ((bytesOf a).drop i) ((bytesOf b).drop i) : Nat) : Int) := by
    refine downTo a.size ?_ ?_
    · refine Ev.step (fun k => impl_SharedWith.l0.eq_2 ..) (Ev.neg (by omega) ((Ev.now _).eqr ?_))
      rw [← bytesOf_length a, List.drop_length]
      simp [cpl]
    · intro i hi ih
      refine Ev.step (fun k => impl_SharedWith.l0.eq_2 ..) (Ev.pos (by omega) ?_)
      rw [drop_bt a i hi]
      by_cases h1 : i < b.size
      · rw [drop_bt b i h1]
        refine Ev.pos (by omega) (Ev.pos (by omega) ?_)
        by_cases h2 : bt a i = bt b i
        · refine Ev.pos h2 ?_
          rw [wsucc (by omega)]
          refine ih.eqr ?_
          rw [cpl, if_pos h2]
          omega
        · refine Ev.neg h2 ((Ev.now _).eqr ?_)
          rw [cpl, if_neg h2]
          rfl
      · refine Ev.neg (by omega) ((Ev.now _).eqr ?_)
        rw [show (bytesOf b).drop i = [] from List.drop_eq_nil_of_le (by rw [bytesOf_length]; omega)]
        simp [cpl]
  have := key 0 (Nat.zero_le _)
  rw [List.drop_zero, List.drop_zero, Nat.zero_add] at this
  exact this
theorem sShared_ev (a b : ByteArray) (ha : a.size ≤ 2097152) : Ev (fun k => spec_SharedWith.f k a b) ((shv a b : Nat) : Int) := by
  have key : ∀ i, i ≤ a.size → Ev (fun k => spec_SharedWith.l0 k a b (i : Int)) ((i + cpl ((bytesOf a).drop i) ((bytesOf b).drop i) : Nat) : Int) := by
    refine downTo a.size ?_ ?_
    · refine Ev.step (fun k => spec_SharedWith.l0.eq_2 ..) (Ev.neg (by omega) ((Ev.now _).eqr ?_))
      rw [← bytesOf_length a, List.drop_length]
      simp [cpl]
    · intro i hi ih
      refine Ev.step (fun k => spec_SharedWith.l0.eq_2 ..) (Ev.pos (by omega) ?_)
      rw [drop_bt a i hi]
      by_cases h1 : i < b.size
      · rw [drop_bt b i h1]
        refine Ev.pos (by omega) (Ev.pos (by omega) ?_)
        by_cases h2 : bt a i = bt b i
        · refine Ev.pos h2 ?_
          rw [wsucc (by omega)]
          refine ih.eqr ?_
          rw [cpl, if_pos h2]
          omega
        · refine Ev.neg h2 ((Ev.now _).eqr ?_)
          rw [cpl, if_neg h2]
          rfl
      · refine Ev.neg (by omega) ((Ev.now _).eqr ?_)
        rw [show (bytesOf b).drop i = [] from List.drop_eq_nil_of_le (by rw [bytesOf_length]; omega)]
        simp [cpl]
  have := key 0 (Nat.zero_le _)
  rw [List.drop_zero, List.drop_zero, Nat.zero_add] at this
  exact this
def kn (q d : Int) : Int := 2 * q + d
def kt (u : ByteArray) (q d : Int) : ByteArray := (u ++ pf (kn q d % 4294967296)) ++ pf (kn q d / 4294967296 % 4294967296)
theorem kt_size (u : ByteArray) (q d : Int) : (kt u q d).size = u.size + 8 := by
  unfold kt
  rw [ByteArray.size_append, ByteArray.size_append, pf_size, pf_size]
theorem keyText_ev {u : ByteArray} {q d : Int} (h : isK u q d) : impl_keyText.f u q d = some (kt u q d) := by
  obtain ⟨⟨h1, h2⟩, h3, h4⟩ := h
  have e : IntKind.u64.wrap (wrap64 (wrap64 (2 * q) + d)) = kn q d := by
    rw [wid (x := 2 * q) (by omega) (by omega), wid (by omega) (by omega), uid (by omega) (by omega)]
    rfl
  unfold impl_keyText.f
  have z1 := pf_size (kn q d % 4294967296)
  have z2 := pf_size (kn q d / 4294967296 % 4294967296)
  rw [e, putFixed_ev, putFixed_ev, Option.bind_some, if_pos (by omega), Option.bind_some, if_pos (by omega)]
  rfl
theorem sKeyText_ev {u : ByteArray} {q d : Int} (h : isK u q d) : spec_KeyText.f u q d = some (kt u q d) := by
  have hk := sKeyOk_ev u q d
  rw [decide_eq_true h] at hk
  obtain ⟨⟨h1, h2⟩, h3, h4⟩ := h
  have e : IntKind.u64.wrap (wrap64 (wrap64 (2 * q) + d)) = kn q d := by
    rw [wid (x := 2 * q) (by omega) (by omega), wid (by omega) (by omega), uid (by omega) (by omega)]
    rfl
  unfold spec_KeyText.f
  have z1 := pf_size (kn q d % 4294967296)
  have z2 := pf_size (kn q d / 4294967296 % 4294967296)
  rw [hk, Option.bind_some, if_pos rfl, e, sPutFixed_ev, sPutFixed_ev, Option.bind_some, if_pos (by omega), Option.bind_some, if_pos (by omega)]
  rfl
def ekt (e : S64) : ByteArray := kt e.f0.f0 e.f0.f1 e.f0.f2
def blkGo (every : Int) : Nat → List S64 → ByteArray → ByteArray → ByteArray → Int → ByteArray
  | _, [], out, _, anew, many => ((out ++ anew) ++ pf many) ++ pf (every % 4294967296)
  | i, e :: es, out, ahead, anew, many =>
    if Int.tmod (i : Int) every = 0 then blkGo every (i + 1) es (out ++ (pv 0 ++ pt (ekt e) ++ pt e.f1)) (ekt e) (anew ++ pf ((out.size : Int) % 4294967296)) ((many + 1) % 4294967296)
    else blkGo every (i + 1) es (out ++ (pv (shv ahead (ekt e)) ++ pt ((ekt e).extract (shv ahead (ekt e)) (ekt e).size) ++ pt e.f1)) (ekt e) anew many
def blkT (l : List S64) (every : Int) : ByteArray := blkGo every 0 l ⟨#[]⟩ ⟨#[]⟩ ⟨#[]⟩ 0
noncomputable def blkV (l : List S64) (every : Int) : ByteArray × Bool :=
  if isRow l ∧ l.length ≠ 0 ∧ 1 ≤ every ∧ every ≤ 16 then (if ((blkT l every).size : Int) > 60000 then (⟨#[]⟩, false) else (blkT l every, true)) else (⟨#[]⟩, false)
theorem row_small {l : List S64} (h : isRow l) (i : Nat) (hi : i < l.length) : isK l[i].f0.f0 l[i].f0.f1 l[i].f0.f2 ∧ l[i].f0.f0.size ≤ 40 ∧ l[i].f1.size ≤ 200 := by
  have := (h.2 i (Nat.zero_le _) hi).1
  unfold isEx isE at this
  refine ⟨this.1, this.1.1.2, this.2.1⟩
theorem block_ev (l : List S64) (h : isRow l) (every : Int) (h1 : 1 ≤ every) (h2 : every ≤ 16) : Ev (fun k => impl_block.f k l every) (blkT l every) := by
  have key : ∀ i, i ≤ l.length → ∀ (out ahead anew : ByteArray) (many : Int), out.size ≤ 400 * i → ahead.size ≤ 48 → anew.size ≤ 4 * i → Ev (fun k => impl_block.l0 k every out ahead anew many l (l.length : Int) (i : Int)) (blkGo every i (l.drop i) out ahead anew many) := by
    have hlen := h.1
    refine downTo l.length ?_ ?_
    · intro out ahead anew many z1 z2 z3
      rw [List.drop_length]
      refine Ev.step (fun k => impl_block.l0.eq_2 ..) ?_
      have p1 := pf_size many
      have p2 := pf_size (every % 4294967296)
      exact Ev.neg (by omega) (Ev.pos (by omega) (Ev.bindS (putFixed_ev _) (Ev.pos (by omega) (Ev.bindS (putFixed_ev _) (Ev.pos (by omega) (Ev.now _))))))
    · intro i hi ih out ahead anew many z1 z2 z3
      obtain ⟨hk, hu, hv⟩ := row_small h i hi
      have hz := kt_size l[i].f0.f0 l[i].f0.f1 l[i].f0.f2
      rw [List.drop_eq_getElem_cons hi]
      refine Ev.step (fun k => impl_block.l0.eq_2 ..) ?_
      refine Ev.pos (by omega) (Ev.pos (by omega) (Ev.pos (by omega) ?_))
      rw [rdE l i hi]
      refine Ev.bindS (keyText_ev hk) (Ev.neg (by omega) ?_)
      have pv0 := pv_size (n := 0) (by omega)
      have v1 := putText_ev l[i].f1 (by omega)
      have v2 := pt_size l[i].f1 (by omega)
      have ee : ekt l[i] = kt l[i].f0.f0 l[i].f0.f1 l[i].f0.f2 := rfl
      by_cases c : Int.tmod (i : Int) every = 0
      · have k1 := putText_ev (ekt l[i]) (by rw [ee]; omega)
        have k2 := pt_size (ekt l[i]) (by rw [ee]; omega)
        have n0 := putInt_ev 0 (by omega)
        have pfz := pf_size ((out.size : Int) % 4294967296)
        rw [← ee] at hz ⊢
        refine Ev.pos c (Ev.bindS (putFixed_ev _) (Ev.pos (by omega) (Ev.bind n0 (Ev.pos (by omega) ?_))))
        rw [ByteArray.extract_zero_size]
        refine Ev.bind k1 (Ev.pos (by omega) (Ev.bind v1 (Ev.pos (by omega) (Ev.pos (by omega) ?_))))
        rw [wsucc (by omega)]
        refine (ih _ (ekt l[i]) _ _ ?_ (by omega) ?_).eqr ?_
        · rw [ByteArray.size_append, ByteArray.size_append, ByteArray.size_append]; omega
        · rw [ByteArray.size_append]; omega
        · rw [blkGo, if_pos c]
      · obtain ⟨s1, s2⟩ := shv_le ahead (ekt l[i])
        have hsh := shared_ev ahead (ekt l[i]) (by omega)
        have ns := putInt_ev (shv ahead (ekt l[i])) (by omega)
        have nz := pv_size (n := shv ahead (ekt l[i])) (by omega)
        have ez : ((ekt l[i]).extract (shv ahead (ekt l[i])) (ekt l[i]).size).size ≤ 48 := by rw [ByteArray.size_extract]; rw [ee]; omega
        have k1 := putText_ev ((ekt l[i]).extract (shv ahead (ekt l[i])) (ekt l[i]).size) (by omega)
        have k2 := pt_size ((ekt l[i]).extract (shv ahead (ekt l[i])) (ekt l[i]).size) (by omega)
        rw [← ee] at hz ⊢
        refine Ev.neg c (Ev.bind hsh (Ev.bind ns (Ev.pos (by omega) (Ev.pos (by omega) ?_))))
        rw [Int.toNat_natCast]
        refine Ev.bind k1 (Ev.pos (by omega) (Ev.bind v1 (Ev.pos (by omega) (Ev.pos (by omega) ?_))))
        rw [wsucc (by omega)]
        refine (ih _ (ekt l[i]) _ _ ?_ (by omega) (by omega)).eqr ?_
        · rw [ByteArray.size_append, ByteArray.size_append, ByteArray.size_append]; omega
        · rw [blkGo, if_neg c]
  exact key 0 (Nat.zero_le _) _ _ _ _ (by simp [empty_size]) (by simp [empty_size]) (by simp [empty_size])
theorem sBlock_ev (l : List S64) (h : isRow l) (every : Int) (h1 : 1 ≤ every) (h2 : every ≤ 16) : Ev (fun k => spec_BlockOf.l0 k l every ⟨#[]⟩ ⟨#[]⟩ 0 ⟨#[]⟩ 0) (if ((blkT l every).size : Int) > 60000 then (⟨#[]⟩, false) else (blkT l every, true)) := by
  have key : ∀ i, i ≤ l.length → ∀ (out ahead anew : ByteArray) (many : Int), out.size ≤ 400 * i → ahead.size ≤ 48 → anew.size ≤ 4 * i → Ev (fun k => spec_BlockOf.l0 k l every out anew many ahead (i : Int)) (if ((blkGo every i (l.drop i) out ahead anew many).size : Int) > 60000 then (⟨#[]⟩, false) else (blkGo every i (l.drop i) out ahead anew many, true)) := by
    have hlen := h.1
    refine downTo l.length ?_ ?_
    · intro out ahead anew many z1 z2 z3
      rw [List.drop_length]
      refine Ev.step (fun k => spec_BlockOf.l0.eq_2 ..) ?_
      have p1 := pf_size many
      have p2 := pf_size (every % 4294967296)
      refine Ev.neg (by omega) (Ev.pos (by omega) (Ev.bindS (sPutFixed_ev _) (Ev.pos (by omega) (Ev.bindS (sPutFixed_ev _) (Ev.pos (by omega) ?_)))))
      rw [blkGo]
      by_cases c : (((((out ++ anew) ++ pf many) ++ pf (every % 4294967296)).size : Nat) : Int) > 60000
      · exact Ev.pos c ((Ev.now _).eqr (if_pos c).symm)
      · exact Ev.neg c ((Ev.now _).eqr (if_neg c).symm)
    · intro i hi ih out ahead anew many z1 z2 z3
      obtain ⟨hk, hu, hv⟩ := row_small h i hi
      have hz := kt_size l[i].f0.f0 l[i].f0.f1 l[i].f0.f2
      rw [List.drop_eq_getElem_cons hi]
      refine Ev.step (fun k => spec_BlockOf.l0.eq_2 ..) ?_
      refine Ev.pos (by omega) (Ev.pos (by omega) ?_)
      rw [rdE l i hi]
      have pv0 := pv_size (n := 0) (by omega)
      have v1 := sPutText_ev l[i].f1 (by omega)
      have v2 := pt_size l[i].f1 (by omega)
      have ee : ekt l[i] = kt l[i].f0.f0 l[i].f0.f1 l[i].f0.f2 := rfl
      obtain ⟨s1, s2⟩ := shv_le ahead (ekt l[i])
      have hsh := sShared_ev ahead (ekt l[i]) (by omega)
      refine Ev.bindS (sKeyText_ev hk) ?_
      rw [← ee] at hz ⊢
      refine Ev.bind hsh (Ev.neg (by omega) ?_)
      by_cases c : Int.tmod (i : Int) every = 0
      · have k1 := sPutText_ev (ekt l[i]) (by rw [ee]; rw [ee] at hz; omega)
        have k2 := pt_size (ekt l[i]) (by rw [ee]; rw [ee] at hz; omega)
        have n0 := sPutVar_ev 0 (by omega)
        have pfz := pf_size ((out.size : Int) % 4294967296)
        refine Ev.pos c (Ev.bindS (sPutFixed_ev _) (Ev.pos (by omega) (Ev.bind n0 (Ev.pos (by omega) (Ev.pos (by omega) ?_)))))
        rw [ByteArray.extract_zero_size]
        refine Ev.bind k1 (Ev.pos (by omega) (Ev.bind v1 (Ev.pos (by omega) ?_)))
        rw [wsucc (by omega), show ((out ++ pv 0) ++ pt (ekt l[i])) ++ pt l[i].f1 = out ++ (pv 0 ++ pt (ekt l[i]) ++ pt l[i].f1) from by simp only [ByteArray.append_assoc]]
        refine (ih _ (ekt l[i]) _ _ ?_ (by omega) ?_).eqr ?_
        · rw [ByteArray.size_append, ByteArray.size_append, ByteArray.size_append]; omega
        · rw [ByteArray.size_append]; omega
        · rw [blkGo, if_pos c]
      · have ns := sPutVar_ev (shv ahead (ekt l[i])) (by omega)
        have nz := pv_size (n := shv ahead (ekt l[i])) (by omega)
        have ez : ((ekt l[i]).extract (shv ahead (ekt l[i])) (ekt l[i]).size).size ≤ 48 := by rw [ByteArray.size_extract]; omega
        have k1 := sPutText_ev ((ekt l[i]).extract (shv ahead (ekt l[i])) (ekt l[i]).size) (by omega)
        have k2 := pt_size ((ekt l[i]).extract (shv ahead (ekt l[i])) (ekt l[i]).size) (by omega)
        refine Ev.neg c ?_
        rw [uid (by omega) (by omega)]
        refine Ev.bind ns (Ev.pos (by omega) (Ev.pos (by omega) (Ev.pos (by omega) ?_)))
        rw [Int.toNat_natCast]
        refine Ev.bind k1 (Ev.pos (by omega) (Ev.bind v1 (Ev.pos (by omega) ?_)))
        rw [wsucc (by omega), show ((out ++ pv (shv ahead (ekt l[i]))) ++ pt ((ekt l[i]).extract (shv ahead (ekt l[i])) (ekt l[i]).size)) ++ pt l[i].f1 = out ++ (pv (shv ahead (ekt l[i])) ++ pt ((ekt l[i]).extract (shv ahead (ekt l[i])) (ekt l[i]).size) ++ pt l[i].f1) from by simp only [ByteArray.append_assoc]]
        refine (ih _ (ekt l[i]) _ _ ?_ (by omega) (by omega)).eqr ?_
        · rw [ByteArray.size_append, ByteArray.size_append, ByteArray.size_append]; omega
        · rw [blkGo, if_neg c]
  exact key 0 (Nat.zero_le _) _ _ _ _ (by simp [empty_size]) (by simp [empty_size]) (by simp [empty_size])
theorem blockOf_ev (l : List S64) (hl : l.length < 2097152) (every : Int) : Ev (fun k => impl_BlockOf.f k l every) (blkV l every) := by
  have hw := within_ev every 1 16
  have jt : ¬ (isRow l ∧ l.length ≠ 0 ∧ 1 ≤ every ∧ every ≤ 16) → Ev (fun k => impl_BlockOf.j0 k l every true) (blkV l every) := fun h => by
    refine Ev.step (fun k => impl_BlockOf.j0.eq_2 ..) ?_
    exact Ev.pos rfl ((Ev.now _).eqr (if_neg h).symm)
  unfold impl_BlockOf.f
  refine Ev.bind (entriesOk_ev l hl) ?_
  by_cases c1 : isRow l
  · refine Ev.pos (decide_eq_true c1) ?_
    by_cases c2 : l.length = 0
    · exact Ev.pos (by omega) (jt fun h => h.2.1 c2)
    · refine Ev.neg (by omega) (Ev.bindS hw ?_)
      by_cases c3 : 1 ≤ every ∧ every ≤ 16
      · rw [decide_eq_true c3]
        refine Ev.step (fun k => impl_BlockOf.j0.eq_2 ..) ?_
        refine Ev.neg (by decide) (Ev.eqr ?_ (if_pos ⟨c1, c2, c3.1, c3.2⟩).symm)
        refine Ev.bind (block_ev l c1 every c3.1 c3.2) ?_
        by_cases c4 : ((blkT l every).size : Int) > 60000
        · exact Ev.pos c4 ((Ev.now _).eqr (if_pos c4).symm)
        · exact Ev.neg c4 ((Ev.now _).eqr (if_neg c4).symm)
      · rw [decide_eq_false c3]
        exact jt fun h => c3 h.2.2
  · exact Ev.neg (by simpa using c1) (jt fun h => c1 h.1)
theorem sBlockOf_ev (l : List S64) (hl : l.length < 2097152) (every : Int) : Ev (fun k => spec_BlockOf.f k l every) (blkV l every) := by
  have hw := in_ev every 1 16
  have jt : ¬ (isRow l ∧ l.length ≠ 0 ∧ 1 ≤ every ∧ every ≤ 16) → Ev (fun k => spec_BlockOf.j0 k l every true) (blkV l every) := fun h => by
    refine Ev.step (fun k => spec_BlockOf.j0.eq_2 ..) ?_
    exact Ev.pos rfl ((Ev.now _).eqr (if_neg h).symm)
  unfold spec_BlockOf.f
  refine Ev.bind (sEntriesOk_ev l hl) ?_
  by_cases c1 : isRow l
  · refine Ev.pos (decide_eq_true c1) ?_
    by_cases c2 : l.length = 0
    · exact Ev.pos (by omega) (jt fun h => h.2.1 c2)
    · refine Ev.neg (by omega) (Ev.bindS hw ?_)
      by_cases c3 : 1 ≤ every ∧ every ≤ 16
      · rw [decide_eq_true c3]
        refine Ev.step (fun k => spec_BlockOf.j0.eq_2 ..) ?_
        refine Ev.neg (by decide) (Ev.eqr ?_ (if_pos ⟨c1, c2, c3.1, c3.2⟩).symm)
        exact sBlock_ev l c1 every c3.1 c3.2
      · rw [decide_eq_false c3]
        exact jt fun h => c3 h.2.2
  · exact Ev.neg (by simpa using c1) (jt fun h => c1 h.1)
end Go.Proofs.Ytidjdkodgddfcaa.Pure
end

section
namespace Go.Proofs.Ytidjdkodgddfcaa.Pure
open Go.RowKit Go.Proofs.YtidjdkodgddfcaaW.PrintWords Go.Proofs.YtidjdkodgddfcaaW.PrintLast Go.Proofs.YtidjdkodgddfcaaW.PrintMore
open Go.Proofs.Ytidjdkodgddfcaa.P
set_option linter.unusedVariables false
set_option linter.unusedSimpArgs false
theorem byteOk {l : List Int} (h1 : l.length ≤ 1048576) (h2 : ∀ x ∈ l, (Lit.int .u8 x).wf = true) : okc l := by
  refine ⟨h1, fun x hx => ?_⟩
  have := h2 x hx
  simpa [Lit.wf, IntKind.min, IntKind.max, IntKind.signed, IntKind.bits] using this
theorem okp0 (l : List Int) : okp l 0 := ⟨by omega, by omega⟩
theorem pv_one {n : Nat} (h : n < 128) : (pv n).size = 1 := by
  rw [← bytesOf_length, bytesOf_pv, pvl_small h]
  rfl
theorem blk_short (every : Int) : ∀ (l : List S64) (i : Nat) (o1 o2 h1 h2 a1 a2 : ByteArray) (m1 m2 : Int), (∀ e ∈ l, (ekt e).size ≤ 48) → h1.size ≤ 48 → o1.size ≤ o2.size → a1.size ≤ a2.size →
    (blkGo every i l o1 h1 a1 m1).size ≤ (blkGo 1 i l o2 h2 a2 m2).size := by
  intro l
  induction l with
  | nil =>
    intro i o1 o2 h1 h2 a1 a2 m1 m2 _ _ ho ha
    unfold blkGo
    simp only [ByteArray.size_append, pf_size]
    omega
  | cons e es ih =>
    intro i o1 o2 h1 h2 a1 a2 m1 m2 hk hh ho ha
    have he := hk e (List.mem_cons_self ..)
    have hes := fun x hx => hk x (List.mem_cons_of_mem _ hx)
    conv => rhs; rw [blkGo, if_pos (by simp)]
    rw [blkGo]
    by_cases c : Int.tmod (i : Int) every = 0
    · rw [if_pos c]
      refine ih _ _ _ _ _ _ _ _ _ hes he ?_ ?_
      · simp only [ByteArray.size_append]; omega
      · simp only [ByteArray.size_append, pf_size]; omega
    · rw [if_neg c]
      obtain ⟨s1, s2⟩ := shv_le h1 (ekt e)
      refine ih _ _ _ _ _ _ _ _ _ hes he ?_ ?_
      · have e1 : (pv (shv h1 (ekt e))).size = 1 := pv_one (by omega)
        have e2 : (pv 0).size = 1 := pv_one (by omega)
        have e3 : ((ekt e).extract (shv h1 (ekt e)) (ekt e).size).size ≤ (ekt e).size := by rw [ByteArray.size_extract]; omega
        have e4 : (pv ((ekt e).extract (shv h1 (ekt e)) (ekt e).size).size).size = 1 := pv_one (by omega)
        have e5 : (pv (ekt e).size).size = 1 := pv_one (by omega)
        unfold pt
        simp only [ByteArray.size_append]
        omega
      · simp only [ByteArray.size_append, pf_size]; omega
theorem drawBlockOf_ev {l : List Int} (h : okc l) : ∃ r, Ev (fun k => spec_DrawBlockOf.f k l) r ∧ r.1.length ≤ 10 := by
  unfold spec_DrawBlockOf.f
  obtain ⟨a, ha, ha1, ha2⟩ := dentries_ev h (okp0 l) 9 (by omega) (by omega)
  obtain ⟨b, hb, _, hb2⟩ := off_ev h ha2 1 5 (by omega) (by omega) (by omega)
  exact ⟨_, Ev.bindS rfl (Ev.bind ha (Ev.bind hb (Ev.now _))), by show a.1.length ≤ 10; omega⟩
theorem FnShort : laws_FnShort.Pure := by
  intro l _ _ hb
  refine Ev.rounds (g := fun k => laws_FnShort.f k l) ?_
  unfold laws_FnShort.f
  refine Ev.bindS (a := decide ((l.length : Int) > 1048576)) rfl ?_
  by_cases big : (l.length : Int) > 1048576
  · exact Ev.pos (decide_eq_true big) (Ev.now _)
  · have hc := byteOk (l := l) (by omega) hb
    refine Ev.neg (by simpa using big) ?_
    obtain ⟨d, hd, hd1⟩ := drawBlockOf_ev hc
    refine Ev.bind hd (Ev.bind (blockOf_ev d.1 (by omega) d.2) (Ev.bind (blockOf_ev d.1 (by omega) 1) (Ev.bind (sBlockOf_ev d.1 (by omega) d.2) (Ev.pos (by simp) ?_))))
    by_cases c1 : (blkV d.1 d.2).2 = true
    · refine Ev.pos c1 ?_
      by_cases c2 : (blkV d.1 1).2 = true
      · refine Ev.pos c2 ((Ev.now _).eqr (decide_eq_true ?_))
        have g : ∀ ev, (blkV d.1 ev).2 = true → (isRow d.1 ∧ d.1.length ≠ 0 ∧ 1 ≤ ev ∧ ev ≤ 16) ∧ (blkV d.1 ev).1 = blkT d.1 ev := by
          intro ev h
          unfold blkV at h ⊢
          by_cases q : isRow d.1 ∧ d.1.length ≠ 0 ∧ 1 ≤ ev ∧ ev ≤ 16
          · rw [if_pos q] at h ⊢
            refine ⟨q, ?_⟩
            split
            · rename_i q2; rw [if_pos q2] at h; cases h
            · rfl
          · rw [if_neg q] at h; cases h
        obtain ⟨g1, g2⟩ := g _ c1
        obtain ⟨g3, g4⟩ := g _ c2
        rw [g2, g4]
        have := blk_short d.2 d.1 0 ⟨#[]⟩ ⟨#[]⟩ ⟨#[]⟩ ⟨#[]⟩ ⟨#[]⟩ ⟨#[]⟩ 0 0 (fun e he => by
          obtain ⟨i, hi, rfl⟩ := List.getElem_of_mem he
          have := (row_small g1.1 i hi).2.1
          have hz := kt_size d.1[i].f0.f0 d.1[i].f0.f1 d.1[i].f0.f2
          show (kt _ _ _).size ≤ 48
          omega) (by simp [empty_size]) (Nat.le_refl _) (Nat.le_refl _)
        unfold blkT
        omega
      · exact Ev.neg c2 (Ev.now _)
    · exact Ev.neg c1 (Ev.now _)
end Go.Proofs.Ytidjdkodgddfcaa.Pure
end
