/- Proved: the law FnFilters of the given program returns true for every input of its Go types and leaves each argument as it was; no condition. (Part 6 of 10.) -/
import Derived.Test.YtedgdnkbojjbmaaCFnFilters4
import Derived.Lib.EndianBits
section
namespace Go.Proofs.Ytedgdnkbojjbmaa.P
open Go.RowKit Go.Proofs.YtedgdnkbojjbmaaW.PrintWords Go.Proofs.YtedgdnkbojjbmaaW.PrintLast Go.Proofs.YtedgdnkbojjbmaaW.PrintMore
attribute [local go_sem] str_gtr str_leq str_geq max2_int min2_int max_two min_two max_three min_three max_four min_four
set_option linter.unusedVariables false
set_option linter.unusedSimpArgs false
def tvGo (s : ByteArray) : Nat → Nat → Int → Int × ByteArray × Bool
  | 0, _, _ => (0, ⟨#[]⟩, false)
  | d + 1, i, acc => if i < s.size then
      (if i = 9 ∧ 1 < bt s i then (0, ⟨#[]⟩, false)
      else if bt s i < 128 then (if 0 < i ∧ bt s i = 0 then (0, ⟨#[]⟩, false) else (acc + bt s i * 128 ^ i, s.extract (i + 1) s.size, true))
      else tvGo s d (i + 1) (acc + (bt s i - 128) * 128 ^ i))
    else (0, ⟨#[]⟩, false)
def tv (s : ByteArray) : Int × ByteArray × Bool := tvGo s 10 0 0
end Go.Proofs.Ytedgdnkbojjbmaa.P
end

section
namespace Go.Proofs.Ytedgdnkbojjbmaa.P
open Go.RowKit Go.Proofs.YtedgdnkbojjbmaaW.PrintWords Go.Proofs.YtedgdnkbojjbmaaW.PrintLast Go.Proofs.YtedgdnkbojjbmaaW.PrintMore
attribute [local go_sem] str_gtr str_leq str_geq max2_int min2_int max_two min_two max_three min_three max_four min_four
set_option linter.unusedVariables false
set_option linter.unusedSimpArgs false
def okc (l : List Int) : Prop := l.length ≤ 1048576 ∧ ∀ x ∈ l, 0 ≤ x ∧ x ≤ 255
def okp (l : List Int) (p : Int) : Prop := 0 ≤ p ∧ p ≤ (l.length : Int)
theorem okc_rd {l : List Int} (h : okc l) (i : Int) : 0 ≤ rd l i ∧ rd l i ≤ 255 := by
  unfold rd
  rw [List.getD_eq_getElem?_getD]
  by_cases c : i.toNat < l.length
  · rw [List.getElem?_eq_getElem c]
    exact h.2 _ (List.getElem_mem c)
  · rw [List.getElem?_eq_none (by omega)]
    simp
theorem next_ev {l : List Int} {p : Int} (h : okc l) (hp : okp l p) : ∃ r, spec_l1Rd_next.f l p = some r ∧ (0 ≤ r.1 ∧ r.1 ≤ 255) ∧ okp l r.2 := by
  obtain ⟨h1, h2⟩ := hp
  have hl := h.1
  unfold spec_l1Rd_next.f
  by_cases c : p ≥ (l.length : Int)
  · exact ⟨_, if_pos c, by simp, h1, h2⟩
  · have e1 : wrap64 (p + 1) = p + 1 := wid (by omega) (by omega)
    have e2 : wrap64 (p + 1 - 1) = p := by rw [wid (by omega) (by omega)]; omega
    obtain ⟨r0, r1⟩ := okc_rd h p
    rw [if_neg c, e1, e2, if_pos h1, if_pos (by omega)]
    refine ⟨_, rfl, ?_, ?_⟩
    · show 0 ≤ wrap64 (rd l p) ∧ wrap64 (rd l p) ≤ 255
      rw [wid (by omega) (by omega)]
      exact ⟨r0, r1⟩
    · exact ⟨by show 0 ≤ p + 1; omega, by show p + 1 ≤ _; omega⟩
theorem below_ev {l : List Int} {p : Int} (h : okc l) (hp : okp l p) (n : Int) (hn : 1 ≤ n) : ∃ r, spec_l1Rd_below.f l p n = some r ∧ (0 ≤ r.1 ∧ r.1 < n) ∧ okp l r.2 := by
  unfold spec_l1Rd_below.f
  by_cases c : n ≤ 1
  · exact ⟨_, if_pos c, ⟨by simp, by show (0 : Int) < n; omega⟩, hp⟩
  · rw [if_neg c]
    obtain ⟨a, ha, ha1, ha2⟩ := next_ev h hp
    by_cases c2 : n ≤ 256
    · rw [if_pos c2, ha]
      refine ⟨(Int.tmod a.1 n, a.2), by rw [Option.bind_some, if_neg (by omega)], ?_, ha2⟩
      show 0 ≤ Int.tmod a.1 n ∧ Int.tmod a.1 n < n
      rw [Int.tmod_eq_emod_of_nonneg ha1.1]
      exact ⟨Int.emod_nonneg _ (by omega), Int.emod_lt_of_pos _ (by omega)⟩
    · obtain ⟨b, hb, hb1, hb2⟩ := next_ev h ha2
      rw [if_neg c2, ha, Option.bind_some, hb, Option.bind_some, if_neg (by omega)]
      refine ⟨_, rfl, ?_, hb2⟩
      show 0 ≤ Int.tmod (wrap64 (wrap64 (a.1 * 256) + b.1)) n ∧ Int.tmod (wrap64 (wrap64 (a.1 * 256) + b.1)) n < n
      rw [wid (x := a.1 * 256) (by omega) (by omega), wid (by omega) (by omega), Int.tmod_eq_emod_of_nonneg (by omega)]
      exact ⟨Int.emod_nonneg _ (by omega), Int.emod_lt_of_pos _ (by omega)⟩
theorem once_ev {l : List Int} {p : Int} (h : okc l) (hp : okp l p) (n : Int) (hn : 1 ≤ n) : ∃ r, spec_l1Rd_once.f l p n = some r ∧ okp l r.2 := by
  obtain ⟨a, ha, _, ha2⟩ := below_ev h hp n hn
  unfold spec_l1Rd_once.f
  rw [ha]
  exact ⟨_, rfl, ha2⟩
theorem bits_u64 (o : BinOp) (a b : Int) : 0 ≤ Go.bits o .u64 a b ∧ Go.bits o .u64 a b ≤ 18446744073709551615 := by
  unfold Go.bits
  simp only [IntKind.wrap_u64]
  omega
theorem word_ev {l : List Int} {p : Int} (h : okc l) (hp : okp l p) : ∃ r, Ev (fun k => spec_l1Rd_word.f k l p) r ∧ (0 ≤ r.1 ∧ r.1 ≤ 18446744073709551615) ∧ okp l r.2 := by
  have key : ∀ i : Nat, i ≤ 8 → ∀ (x p : Int), 0 ≤ x ∧ x ≤ 18446744073709551615 → okp l p → ∃ r, Ev (fun k => spec_l1Rd_word.l0 k x (i : Int) l p) r ∧ (0 ≤ r.1 ∧ r.1 ≤ 18446744073709551615) ∧ okp l r.2 := by
    refine downTo 8 ?_ ?_
    · intro x p hx hp
      exact ⟨(x, p), Ev.step (fun k => spec_l1Rd_word.l0.eq_2 ..) (Ev.neg (by omega) (Ev.now _)), hx, hp⟩
    · intro i hi ih x p hx hp
      obtain ⟨a, ha, _, ha2⟩ := next_ev h hp
      obtain ⟨r, hr, hr2⟩ := ih _ a.2 (bits_u64 .or (IntKind.u64.wrap (x * 256)) (IntKind.u64.wrap a.1)) ha2
      refine ⟨r, Ev.step (fun k => spec_l1Rd_word.l0.eq_2 ..) (Ev.pos (by omega) (Ev.bindS ha ?_)), hr2⟩
      rw [wsucc (by omega)]
      exact hr
  exact key 0 (by omega) 0 p (by omega) hp
theorem bytes_ev {l : List Int} {p : Int} (h : okc l) (hp : okp l p) (n : Int) (hn : 0 ≤ n) (hn2 : n ≤ 1000000) : ∃ r, Ev (fun k => spec_l1Rd_bytes.f k l p n) r ∧ (r.1.size : Int) ≤ n ∧ okp l r.2 := by
  have key : ∀ (i : Nat) (acc : List Int) (p : Int), (acc.length : Int) + i ≤ 1000000 → okp l p → ∃ r, Ev (fun k => spec_l1Rd_bytes.l0 k acc (i : Int) l p) r ∧ r.1.size = acc.length + i ∧ okp l r.2 := by
    intro i
    induction i with
    | zero =>
      intro acc p ha hp
      refine ⟨(strOfNums acc, p), Ev.step (fun k => spec_l1Rd_bytes.l0.eq_2 ..) (Ev.neg (by omega) (Ev.now _)), ?_, hp⟩
      show (strOfNums acc).size = acc.length + 0
      unfold strOfNums
      simp [ByteArray.size]
    | succ i ih =>
      intro acc p ha hp
      obtain ⟨a, ha', _, ha2⟩ := below_ev h hp 256 (by omega)
      obtain ⟨r, hr, hr1, hr2⟩ := ih (acc ++ [a.1 % 256]) a.2 (by simp only [List.length_append, List.length_cons, List.length_nil]; omega) ha2
      refine ⟨r, Ev.step (fun k => spec_l1Rd_bytes.l0.eq_2 ..) (Ev.pos (by omega) (Ev.bindS ha' (Ev.pos (by omega) ?_))), ?_, hr2⟩
      · rw [wid (by omega) (by omega), show (((i + 1 : Nat) : Int) - 1) = (i : Int) from by omega]
        exact hr
      · rw [hr1, List.length_append]
        simp only [List.length_cons, List.length_nil]
        omega
  obtain ⟨a, ha, ha1, ha2⟩ := below_ev h hp (n + 1) (by omega)
  obtain ⟨r, hr, hr1, hr2⟩ := key a.1.toNat [] a.2 (by simp; omega) ha2
  refine ⟨r, ?_, ?_, hr2⟩
  · unfold spec_l1Rd_bytes.f
    rw [wid (by omega) (by omega)]
    refine Ev.bindS ha ?_
    rw [show ((a.1.toNat : Nat) : Int) = a.1 from by omega] at hr
    exact hr
  · rw [hr1]
    simp only [List.length_nil]
    omega
theorem duser_ev {l : List Int} {p : Int} (h : okc l) (hp : okp l p) : ∃ r, spec_l1Rd_user.f l p = some r ∧ (isU r.1) ∧ okp l r.2 := by
  obtain ⟨a, ha, ha1, ha2⟩ := below_ev h hp 10 (by omega)
  unfold spec_l1Rd_user.f
  rw [Option.bind_some, ha, Option.bind_some, if_pos ha1.1, if_pos (by simp only [List.length_cons, List.length_nil]; omega)]
  refine ⟨_, rfl, ?_, ha2⟩
  obtain ⟨m, hm⟩ : ∃ m : Nat, a.1 = m := ⟨a.1.toNat, by omega⟩
  have hlt : m < 10 := by omega
  simp only [hm]
  clear hm ha1 ha ha2
  revert m
  unfold rdOf
  simp only [Int.toNat_natCast]
  decide +kernel
theorem near_ev {l : List Int} {p : Int} (h : okc l) (hp : okp l p) (a b : Int) (hab : a ≤ b) (ha : -1000000000000000 ≤ a) (hb : b ≤ 1000000000000000) : ∃ r, Ev (fun k => spec_l1Rd_near.f k l p a b) r ∧ (a ≤ r.1 ∧ r.1 ≤ b) ∧ okp l r.2 := by
  unfold spec_l1Rd_near.f
  obtain ⟨x, hx, hx1, hx2⟩ := below_ev h hp 8 (by omega)
  by_cases c0 : x.1 = 0
  · exact ⟨_, Ev.bindS hx (Ev.pos c0 (Ev.now _)), ⟨Int.le_refl _, hab⟩, hx2⟩
  · by_cases c1 : x.1 = 1
    · exact ⟨_, Ev.bindS hx (Ev.neg c0 (Ev.pos c1 (Ev.now _))), ⟨hab, Int.le_refl _⟩, hx2⟩
    · obtain ⟨y, hy, hy1, hy2⟩ := word_ev h hx2
      have e : IntKind.u64.wrap (wrap64 (wrap64 (b - a) + 1)) = b - a + 1 := by
        rw [wid (x := b - a) (by omega) (by omega), wid (by omega) (by omega), uid (by omega) (by omega)]
      have m0 : 0 ≤ Int.tmod (y.1 / 2) (b - a + 1) ∧ Int.tmod (y.1 / 2) (b - a + 1) < b - a + 1 := by
        rw [Int.tmod_eq_emod_of_nonneg (by omega)]
        exact ⟨Int.emod_nonneg _ (by omega), Int.emod_lt_of_pos _ (by omega)⟩
      refine ⟨(a + Int.tmod (y.1 / 2) (b - a + 1), y.2), Ev.bindS hx (Ev.neg c0 (Ev.neg c1 (Ev.neg (by omega) (Ev.bind hy ?_)))), ⟨by show a ≤ a + _; omega, by show a + _ ≤ b; omega⟩, hy2⟩
      rw [e, wid (x := Int.tmod (y.1 / 2) (b - a + 1)) (by omega) (by omega), wid (by omega) (by omega)]
      exact Ev.neg (by omega) (Ev.now _)
theorem off_ev {l : List Int} {p : Int} (h : okc l) (hp : okp l p) (a b : Int) (hab : a ≤ b) (ha : -1000000000000000 ≤ a) (hb : b ≤ 1000000000000000) : ∃ r, Ev (fun k => spec_l1Rd_off.f k l p a b) r ∧ (-9223372036854775808 ≤ r.1 ∧ r.1 ≤ 9223372036854775807) ∧ okp l r.2 := by
  unfold spec_l1Rd_off.f
  obtain ⟨x, hx, hx2⟩ := once_ev h hp 24 (by omega)
  by_cases c0 : x.1 = true
  · obtain ⟨y, hy, hy1, hy2⟩ := below_ev h hx2 4 (by omega)
    refine ⟨_, Ev.bindS hx (Ev.pos c0 (Ev.bindS rfl (Ev.bindS hy (Ev.pos hy1.1 (Ev.pos (by simp only [List.length_cons, List.length_nil]; omega) (Ev.now _)))))), ?_, hy2⟩
    rw [wid (x := a - 1) (by omega) (by omega), wid (x := b + 1) (by omega) (by omega)]
    obtain ⟨m, hm⟩ : ∃ m : Nat, y.1 = m := ⟨y.1.toNat, by omega⟩
    have hlt : m < 4 := by omega
    simp only [hm]
    unfold rd
    rw [Int.toNat_natCast]
    match m, hlt with
    | 0, _ => show -9223372036854775808 ≤ a - 1 ∧ a - 1 ≤ 9223372036854775807; omega
    | 1, _ => show -9223372036854775808 ≤ b + 1 ∧ b + 1 ≤ 9223372036854775807; omega
    | 2, _ => show (-9223372036854775808 : Int) ≤ -9223372036854775808 ∧ (-9223372036854775808 : Int) ≤ 9223372036854775807; omega
    | 3, _ => show (-9223372036854775808 : Int) ≤ 9223372036854775807 ∧ (9223372036854775807 : Int) ≤ 9223372036854775807; omega
  · obtain ⟨y, hy, hy1, hy2⟩ := near_ev h hx2 a b hab ha hb
    exact ⟨_, Ev.bindS hx (Ev.neg c0 (Ev.bind hy (Ev.now _))), ⟨by omega, by omega⟩, hy2⟩
end Go.Proofs.Ytedgdnkbojjbmaa.P
end

section
namespace Go.Proofs.Ytedgdnkbojjbmaa.Pure
open Go.RowKit Go.Proofs.YtedgdnkbojjbmaaW.PrintWords Go.Proofs.YtedgdnkbojjbmaaW.PrintLast Go.Proofs.YtedgdnkbojjbmaaW.PrintMore
open Go.Proofs.Ytedgdnkbojjbmaa.P
set_option linter.unusedVariables false
set_option linter.unusedSimpArgs false
def sol (B : Nat → Nat) : Nat → Nat → Nat → Nat
  | 0, _, _ => 0
  | f + 1, p, r => (if r % 2 = 1 then B p else 0) ^^^ sol B f (p + 1) (r / 2)
theorem xor_mod2 (a b : Nat) : (a ^^^ b) % 2 = (a % 2) ^^^ (b % 2) := by
  have := Nat.xor_mod_two_pow (a := a) (b := b) (n := 1)
  rwa [Nat.pow_one] at this
theorem xor_div2 (a b : Nat) : (a ^^^ b) / 2 = (a / 2) ^^^ (b / 2) := by
  have := Nat.xor_div_two_pow (a := a) (b := b) (n := 1)
  rwa [Nat.pow_one] at this
theorem xor_left (a b c : Nat) : a ^^^ (b ^^^ c) = b ^^^ (a ^^^ c) := by rw [← Nat.xor_assoc, Nat.xor_comm a b, Nat.xor_assoc]
theorem sol_zero (B : Nat → Nat) : ∀ f p, sol B f p 0 = 0
  | 0, _ => rfl
  | f + 1, p => by rw [sol, Nat.zero_div, sol_zero B f, if_neg (by decide), Nat.xor_self]
theorem sol_xor (B : Nat → Nat) : ∀ f p r s, sol B f p (r ^^^ s) = sol B f p r ^^^ sol B f p s
  | 0, _, _, _ => by rw [sol, sol, sol, Nat.xor_self]
  | f + 1, p, r, s => by
    rw [sol, sol, sol, xor_div2, sol_xor B f, xor_mod2]
    generalize sol B f (p + 1) (r / 2) = x
    generalize sol B f (p + 1) (s / 2) = y
    rcases Nat.mod_two_eq_zero_or_one r with h | h <;> rcases Nat.mod_two_eq_zero_or_one s with h' | h' <;> rw [h, h']
    · simp
    · simp
      exact xor_left _ _ _
    · simp [Nat.xor_assoc]
    · simp only [Nat.xor_self, if_true]
      rw [if_neg (by decide), Nat.zero_xor, Nat.xor_assoc, xor_left x, ← Nat.xor_assoc (B p), Nat.xor_self, Nat.zero_xor]
theorem sol_more (B : Nat → Nat) : ∀ f p r, r < 2 ^ f → sol B (f + 1) p r = sol B f p r
  | 0, p, r, h => by
    have : r = 0 := by simpa using h
    subst this
    rw [sol_zero, sol_zero]
  | f + 1, p, r, h => by
    rw [sol, sol_more B f (p + 1) (r / 2) (by rw [Nat.pow_succ] at h; omega), sol]
theorem sol_even (B : Nat → Nat) (p r : Nat) (h : r < 2 ^ 16) (he : r % 2 = 0) : sol B 16 p r = sol B 16 (p + 1) (r / 2) := by
  rw [sol, if_neg (by omega), Nat.zero_xor, sol_more B 15 (p + 1) (r / 2) (by omega)]
theorem sol_odd (B : Nat → Nat) (p r : Nat) (h : r < 2 ^ 16) (ho : r % 2 = 1) : sol B 16 p r = B p ^^^ sol B 16 (p + 1) (r / 2) := by
  rw [sol, if_pos ho, sol_more B 15 (p + 1) (r / 2) (by omega)]
theorem sol_cong (B B' : Nat → Nat) : ∀ f p r, (∀ j, p ≤ j → B j = B' j) → sol B f p r = sol B' f p r
  | 0, _, _, _ => rfl
  | f + 1, p, r, h => by rw [sol, sol, h p (Nat.le_refl _), sol_cong B B' f (p + 1) (r / 2) (fun j hj => h j (by omega))]
def red : Nat → List Nat → List Nat → Nat → Nat → Nat → Option (Bool × List Nat × List Nat)
  | 0, _, _, _, _, _ => none
  | f + 1, rows, sums, p, r, s => if r = 0 then some (decide (s = 0), rows, sums) else if r % 2 = 0 then red f rows sums (p + 1) (r / 2) s else if p < rows.length then (if rows.getD p 0 = 0 then some (true, rows.set p r, sums.set p s) else red f rows sums p (r ^^^ rows.getD p 0) (s ^^^ sums.getD p 0)) else none
def KH (B : Nat → Nat) (rows sums : List Nat) : Prop := ∀ j, rows.getD j 0 ≠ 0 → sol B 16 j (rows.getD j 0) = sums.getD j 0
def okK (rows sums : List Nat) : Prop := sums.length = rows.length ∧ ∀ j, rows.getD j 0 = 0 ∨ (rows.getD j 0 % 2 = 1 ∧ rows.getD j 0 < 2 ^ 16)
theorem getD_set (l : List Nat) (i j x : Nat) (h : i < l.length) : (l.set i x).getD j 0 = if i = j then x else l.getD j 0 := by
  rw [List.getD_eq_getElem?_getD, List.getElem?_set]
  by_cases e : i = j
  · subst e
    rw [if_pos rfl, if_pos h, if_pos rfl]
    rfl
  · rw [if_neg e, if_neg e, List.getD_eq_getElem?_getD]
theorem okK_set {rows sums : List Nat} (hk : okK rows sums) (p r s : Nat) (hp : p < rows.length) (ho : r % 2 = 1) (hr : r < 2 ^ 16) : okK (rows.set p r) (sums.set p s) := by
  refine ⟨by rw [List.length_set, List.length_set]; exact hk.1, fun j => ?_⟩
  rw [getD_set rows p j r hp]
  split
  · exact .inr ⟨ho, hr⟩
  · exact hk.2 j
theorem red_sound (B : Nat → Nat) : ∀ (f : Nat) (rows sums : List Nat) (p r s : Nat) (rows' sums' : List Nat), okK rows sums → r < 2 ^ 16 → red f rows sums p r s = some (true, rows', sums') →
    okK rows' sums' ∧ rows'.length = rows.length ∧ (KH B rows' sums' → KH B rows sums ∧ sol B 16 p r = s)
  | 0, _, _, _, _, _, _, _, _, _, h => by cases h
  | f + 1, rows, sums, p, r, s, rows', sums', hk, hr, h => by
    rw [red] at h
    by_cases c0 : r = 0
    · rw [if_pos c0] at h
      injection h with h
      injection h with h1 h2
      injection h2 with h2 h3
      subst h2
      subst h3
      subst c0
      exact ⟨hk, rfl, fun hK => ⟨hK, by rw [sol_zero]; exact (of_decide_eq_true h1).symm⟩⟩
    rw [if_neg c0] at h
    by_cases c1 : r % 2 = 0
    · rw [if_pos c1] at h
      obtain ⟨h1, h2, h3⟩ := red_sound B f rows sums (p + 1) (r / 2) s rows' sums' hk (by omega) h
      exact ⟨h1, h2, fun hK => ⟨(h3 hK).1, by rw [sol_even B p r hr c1]; exact (h3 hK).2⟩⟩
    rw [if_neg c1] at h
    by_cases c2 : p < rows.length
    case neg =>
      rw [if_neg c2] at h
      cases h
    rw [if_pos c2] at h
    by_cases c3 : rows.getD p 0 = 0
    · rw [if_pos c3] at h
      injection h with h
      injection h with h1 h2
      injection h2 with h2 h3
      subst h2
      subst h3
      refine ⟨okK_set hk p r s c2 (by omega) hr, List.length_set, fun hK => ⟨fun j hj => ?_, ?_⟩⟩
      · have hne : ¬ p = j := fun e => hj (by rw [← e]; exact c3)
        have := hK j (by rw [getD_set rows p j r c2, if_neg hne]; exact hj)
        rw [getD_set rows p j r c2, if_neg hne, getD_set sums p j s (by rw [hk.1]; exact c2), if_neg hne] at this
        exact this
      · have := hK p (by rw [getD_set rows p p r c2, if_pos rfl]; exact c0)
        rw [getD_set rows p p r c2, if_pos rfl, getD_set sums p p s (by rw [hk.1]; exact c2), if_pos rfl] at this
        exact this
    · rw [if_neg c3] at h
      have ho := (hk.2 p).resolve_left c3
      obtain ⟨h1, h2, h3⟩ := red_sound B f rows sums p (r ^^^ rows.getD p 0) (s ^^^ sums.getD p 0) rows' sums' hk (Nat.xor_lt_two_pow hr ho.2) h
      refine ⟨h1, h2, fun hK => ⟨(h3 hK).1, ?_⟩⟩
      have e1 := (h3 hK).2
      have e2 := (h3 hK).1 p c3
      rw [sol_xor, e2] at e1
      have e3 := congrArg (fun x => x ^^^ sums.getD p 0) e1
      simp only [Nat.xor_assoc, Nat.xor_self, Nat.xor_zero] at e3
      exact e3
def back (rows sums : List Nat) : Nat → List Nat → List Nat
  | 0, bits => bits
  | m + 1, bits => back rows sums m (bits.set m (if rows.getD m 0 = 0 then 0 else sums.getD m 0 ^^^ sol (fun j => bits.getD j 0) 16 m (rows.getD m 0 - 1)))
theorem back_len (rows sums : List Nat) : ∀ m bits, (back rows sums m bits).length = bits.length
  | 0, _ => rfl
  | m + 1, bits => by rw [back, back_len rows sums m, List.length_set]
theorem back_solves {rows sums : List Nat} (hk : okK rows sums) : ∀ m bits, m ≤ bits.length → (∀ j, m ≤ j → rows.getD j 0 ≠ 0 → sol (fun i => bits.getD i 0) 16 j (rows.getD j 0) = sums.getD j 0) → KH (fun i => (back rows sums m bits).getD i 0) rows sums
  | 0, bits, _, h => fun j hj => h j (Nat.zero_le _) hj
  | m + 1, bits, hm, h => by
    rw [back]
    refine back_solves hk m _ (by rw [List.length_set]; omega) (fun j hj hne => ?_)
    by_cases e : j = m
    · subst e
      have ho := (hk.2 j).resolve_left hne
      have hd : (rows.getD j 0 - 1) / 2 = rows.getD j 0 / 2 := by omega
      rw [sol_odd _ j _ ho.2 ho.1]
      rw [getD_set bits j j _ (by omega), if_pos rfl, if_neg hne, sol_even _ j (rows.getD j 0 - 1) (by omega) (by omega), hd]
      rw [sol_cong (fun i => (bits.set j (sums.getD j 0 ^^^ sol (fun j => bits.getD j 0) 16 (j + 1) (rows.getD j 0 / 2))).getD i 0) (fun i => bits.getD i 0) 16 (j + 1) _ (fun i hi => by
        show (bits.set j _).getD i 0 = bits.getD i 0
        rw [getD_set bits j i _ (by omega), if_neg (by omega)])]
      rw [Nat.xor_assoc, Nat.xor_self, Nat.xor_zero]
    · rw [sol_cong _ (fun i => bits.getD i 0) 16 j _ (fun i hi => by
        show (bits.set m _).getD i 0 = bits.getD i 0
        rw [getD_set bits m i _ (by omega), if_neg (by omega)])]
      exact h j (by omega) hne
end Go.Proofs.Ytedgdnkbojjbmaa.Pure
end

section
namespace Go.Proofs.Ytedgdnkbojjbmaa.P
open Go.RowKit Go.Proofs.YtedgdnkbojjbmaaW.PrintWords Go.Proofs.YtedgdnkbojjbmaaW.PrintLast Go.Proofs.YtedgdnkbojjbmaaW.PrintMore
attribute [local go_sem] str_gtr str_leq str_geq max2_int min2_int max_two min_two max_three min_three max_four min_four
set_option linter.unusedVariables false
set_option linter.unusedSimpArgs false
def spec_UsersOk.l0 : Nat → List ByteArray → Int → Option (Bool)
  | 0, _, _ => none
  | k + 1, x0, x3 => if x3 < (x0.length : Int) then (if 0 ≤ x3 then ((spec_l2User.f (rdOf ByteArray.empty x0 x3)).bind fun t102 => (if t102 = true then (spec_UsersOk.l0 k x0 (wrap64 (x3 + 1))) else (some false))) else (none)) else (some true)
def spec_UsersOk.f (k : Nat) (l0 : List ByteArray) : Option (Bool) := if (l0.length : Int) > 400 then (some false) else (spec_UsersOk.l0 k l0 0)
set_option maxHeartbeats 8000000 in
set_option maxRecDepth 100000 in
theorem spec_UsersOk.calls (k : Nat) (A0 : Option Addr) (c0 : Nat) (l0 : List ByteArray) (r : Bool) (w : World) (hr0 : Kd.C Kd.string w A0 l0.length l0) (hc0 : l0.length ≤ c0) (h : spec_UsersOk.f k l0 = some r) :
    Calls Try.prog 101 #[.slice A0 l0.length c0] w fun e w' => e = .returned (.bool r) ∧ Drawn0 w w' := by
  have HR0 := Aside0.mk hr0
  have HC0 := Aside0.mk hc0
  clear hr0 hc0
  have H : (if (l0.length : Int) > 400 then (some false) else (spec_UsersOk.l0 k l0 0)) = some r := h
  clear h
  by_cases c2 : (l0.length : Int) > 400
  · rw [if_pos c2] at H
    have c2b0 : decide (400 < (l0.length : Int)) = true := decide_eq_true c2
    have c2b1 : decide (400 < l0.length) = true := decide_eq_true (by omega)
    clear c2
    obtain rfl := Option.some.inj H
    go_enter Try.func101, Try.ntmps101
    go_wp2
    go_ret
    exact ⟨by first | rfl | (simp; done) | (simp [*]; done), by repeat (first | exact Drawn0.refl _ | apply Drawn0.step)⟩
  · rw [if_neg c2] at H
    have c2b0 : decide (400 < (l0.length : Int)) = false := decide_eq_false c2
    have c2b1 : decide (400 < l0.length) = false := decide_eq_false (by omega)
    clear c2
    have H' := Aside0.mk H
    clear H
    go_enter Try.func101, Try.ntmps101
    go_wp2
    go_loopg [3] k (fun kq v3 w' => ∃ (x3_1 : Int), v3 = .int .i64 x3_1 ∧ Aside0 (spec_UsersOk.l0 kq l0 x3_1 = some r) ∧ Aside0 (kq ≤ k) ∧ Drawn0 w w')
    case atStart => exact ⟨(0), (by first | rfl | (simp; done) | (simp [*]; done)), H', ⟨Nat.le_refl _⟩, by repeat (first | exact Drawn0.refl _ | apply Drawn0.step)⟩
    case round =>
      clear H'
      try clear c1
      try clear c2
      try clear c2b0
      try clear c2b1
      try clear p2
      obtain ⟨x3_1, rfl, HA, HK1, ⟨m1, rfl⟩⟩ := hrel
      cases gk with
      | zero => exact absurd HA.out (by simp [spec_UsersOk.l0])
      | succ k1 =>
        have H := HA.out
        clear HA
        simp only [spec_UsersOk.l0] at H
        by_cases c3 : x3_1 < (l0.length : Int)
        · rw [if_pos c3] at H
          have c3b0 : decide (x3_1 < (l0.length : Int)) = true := decide_eq_true c3
          clear c3
          by_cases c4 : 0 ≤ x3_1
          · rw [if_pos c4] at H
            have c4b0 : decide (0 ≤ x3_1) = true := decide_eq_true c4
            clear c4
            replace H := Option.bind_eq_some_iff.mp H
            obtain ⟨t102, A50, H⟩ := H
            replace H : (if t102 = true then (spec_UsersOk.l0 k1 l0 (wrap64 (x3_1 + 1))) else (some false)) = some r := H
            have A5 := Aside0.mk A50
            clear A50
            by_cases c6 : t102 = true
            · subst c6
              have H1 : (spec_UsersOk.l0 k1 l0 (wrap64 (x3_1 + 1))) = some r := by rw [if_pos rfl] at H; exact H
              clear H
              have H := H1
              clear H1
              have H' := Aside0.mk H
              clear H
              have p101 : 0 ≤ (x3_1 : Int) := of_decide_eq_true (by first | (with_reducible assumption) | assumption)
              have q101 : x3_1 < (l0.length : Int) := of_decide_eq_true (by first | (with_reducible assumption) | assumption)
              obtain ⟨ad101, e101, hx101_0⟩ := Kd.at_string HR0.out x3_1 p101 q101
              cases e101
              replace p101 := eq_true p101
              replace q101 := eq_true q101
              go_wp2_with (first | ((with_reducible refine gate_callee (f := 64) rfl ?_); refine goesL_ (some 17) rfl rfl Try.func64 (by kernel_rfl) rfl #[.string (rdOf ByteArray.empty l0 x3_1)] rfl (by (try simp only [List.map_toArray, List.map_cons, List.map_nil]); first | done | rfl | (simp only [List.length_drop, List.length_take]; rfl) | (rw [IntWalk.u64_in _ (by omega)] <;> rfl)) ?_; (with_reducible refine (spec_l2User.calls (rdOf ByteArray.empty l0 x3_1) true _ A5.out).mono ?_); rintro e w' ⟨rfl, ⟨nd, rfl⟩⟩; refine ⟨_, rfl, ?_⟩))
              go_roundg k1
              case measure => have := HK1.out; omega
              case rel => exact ⟨(wrap64 (x3_1 + 1)), (by first | rfl | (simp; done) | (simp [*]; done)), H', ⟨by have := HK1.out; omega⟩, by repeat (first | exact Drawn0.refl _ | apply Drawn0.step)⟩
            · replace c6 := Bool.eq_false_iff.mpr c6
              subst c6
              have H1 : (some false) = some r := by rw [if_neg (show ¬ (false = true) by decide)] at H; exact H
              clear H
              have H := H1
              clear H1
              obtain rfl := Option.some.inj H
              have p101 : 0 ≤ (x3_1 : Int) := of_decide_eq_true (by first | (with_reducible assumption) | assumption)
              have q101 : x3_1 < (l0.length : Int) := of_decide_eq_true (by first | (with_reducible assumption) | assumption)
              obtain ⟨ad101, e101, hx101_0⟩ := Kd.at_string HR0.out x3_1 p101 q101
              cases e101
              replace p101 := eq_true p101
              replace q101 := eq_true q101
              go_wp2_with (first | ((with_reducible refine gate_callee (f := 64) rfl ?_); refine goesL_ (some 17) rfl rfl Try.func64 (by kernel_rfl) rfl #[.string (rdOf ByteArray.empty l0 x3_1)] rfl (by (try simp only [List.map_toArray, List.map_cons, List.map_nil]); first | done | rfl | (simp only [List.length_drop, List.length_take]; rfl) | (rw [IntWalk.u64_in _ (by omega)] <;> rfl)) ?_; (with_reducible refine (spec_l2User.calls (rdOf ByteArray.empty l0 x3_1) false _ A5.out).mono ?_); rintro e w' ⟨rfl, ⟨nd, rfl⟩⟩; refine ⟨_, rfl, ?_⟩))
              go_ret
              exact ⟨by first | rfl | (simp; done) | (simp [*]; done), by repeat (first | exact Drawn0.refl _ | apply Drawn0.step)⟩
          · rw [if_neg c4] at H
            exact absurd H (by simp)
        · rw [if_neg c3] at H
          have c3b0 : decide (x3_1 < (l0.length : Int)) = false := decide_eq_false c3
          clear c3
          obtain rfl := Option.some.inj H
          go_wp2
          go_ret
          exact ⟨by first | rfl | (simp; done) | (simp [*]; done), by repeat (first | exact Drawn0.refl _ | apply Drawn0.step)⟩
def spec_Hash.l0 : Nat → ByteArray → Int → Int → Option (Int)
  | 0, _, _, _ => none
  | k + 1, x1, x5, x6 => if x6 < (x1.size : Int) then (if 0 ≤ x6 then (spec_Hash.l0 k x1 (IntKind.u64.wrap ((Go.bits .xor .u64 x5 (IntKind.u64.wrap (bt x1 x6))) * 1099511628211)) (wrap64 (x6 + 1))) else (none)) else (some (Go.bits .xor .u64 (IntKind.u64.wrap ((Go.bits .xor .u64 (IntKind.u64.wrap ((Go.bits .xor .u64 x5 (x5 / 1073741824)) * 13787848793156543929)) ((IntKind.u64.wrap ((Go.bits .xor .u64 x5 (x5 / 1073741824)) * 13787848793156543929)) / 134217728)) * 10723151780598845931)) ((IntKind.u64.wrap ((Go.bits .xor .u64 (IntKind.u64.wrap ((Go.bits .xor .u64 x5 (x5 / 1073741824)) * 13787848793156543929)) ((IntKind.u64.wrap ((Go.bits .xor .u64 x5 (x5 / 1073741824)) * 13787848793156543929)) / 134217728)) * 10723151780598845931)) / 2147483648)))
def spec_Hash.f (k : Nat) (a0 : Int) (a1 : ByteArray) : Option (Int) := spec_Hash.l0 k a1 (Go.bits .xor .u64 14695981039346656037 (IntKind.u64.wrap ((IntKind.u64.wrap (a0)) * 11400714819323198485))) 0
set_option maxHeartbeats 8000000 in
set_option maxRecDepth 100000 in
theorem spec_Hash.calls (k : Nat) (a0 : Int) (a1 : ByteArray) (r : Int) (w : World) (h : spec_Hash.f k a0 a1 = some r) :
    Calls Try.prog 138 #[.int .u32 a0, .string a1] w fun e w' => e = .returned (.int .u64 r) ∧ Drawn0 w w' := by
  have H : (spec_Hash.l0 k a1 (Go.bits .xor .u64 14695981039346656037 (IntKind.u64.wrap ((IntKind.u64.wrap (a0)) * 11400714819323198485))) 0) = some r := h
  clear h
  have H' := Aside0.mk H
  clear H
  go_enter Try.func138, Try.ntmps138
  go_wp2
  go_loopg [5, 6] k (fun kq v5 v6 w' => ∃ (x5_1 : Int) (x6_1 : Int), v5 = .int .u64 x5_1 ∧ v6 = .int .i64 x6_1 ∧ Aside0 (spec_Hash.l0 kq a1 x5_1 x6_1 = some r) ∧ Aside0 (kq ≤ k) ∧ Drawn0 w w')
  case atStart => exact ⟨(Go.bits .xor .u64 14695981039346656037 (IntKind.u64.wrap ((IntKind.u64.wrap (a0)) * 11400714819323198485))), (0), (by first | rfl | (simp; done) | (simp [*]; done)), (by first | rfl | (simp; done) | (simp [*]; done)), H', ⟨Nat.le_refl _⟩, by repeat (first | exact Drawn0.refl _ | apply Drawn0.step)⟩
  case round =>
    clear H'
    try clear c1
    try clear p2
    obtain ⟨x5_1, x6_1, rfl, rfl, HA, HK1, ⟨m1, rfl⟩⟩ := hrel
    cases gk with
    | zero => exact absurd HA.out (by simp [spec_Hash.l0])
    | succ k1 =>
      have H := HA.out
      clear HA
      simp only [spec_Hash.l0] at H
      by_cases c3 : x6_1 < (a1.size : Int)
      · rw [if_pos c3] at H
        have c3b0 : decide (x6_1 < (a1.size : Int)) = true := decide_eq_true c3
        clear c3
        by_cases c4 : 0 ≤ x6_1
        · rw [if_pos c4] at H
          have c4b0 : decide (0 ≤ x6_1) = true := decide_eq_true c4
          clear c4
          have H' := Aside0.mk H
          clear H
          have p5 : 0 ≤ (x6_1 : Int) := of_decide_eq_true (by first | (with_reducible assumption) | assumption)
          have q5 : x6_1 < (a1.size : Int) := of_decide_eq_true (by first | (with_reducible assumption) | assumption)
          have hx5 := bt_at a1 x6_1
          replace p5 := eq_true p5
          replace q5 := eq_true q5
          go_wp2
          go_roundg k1
          case measure => have := HK1.out; omega
          case rel => exact ⟨(IntKind.u64.wrap ((Go.bits .xor .u64 x5_1 (IntKind.u64.wrap (bt a1 x6_1))) * 1099511628211)), (wrap64 (x6_1 + 1)), (by first | rfl | (simp; done) | (simp [*]; done)), (by first | rfl | (simp; done) | (simp [*]; done)), H', ⟨by have := HK1.out; omega⟩, by repeat (first | exact Drawn0.refl _ | apply Drawn0.step)⟩
        · rw [if_neg c4] at H
          exact absurd H (by simp)
      · rw [if_neg c3] at H
        have c3b0 : decide (x6_1 < (a1.size : Int)) = false := decide_eq_false c3
        clear c3
        obtain rfl := Option.some.inj H
        go_wp2
        go_ret
        exact ⟨by first | rfl | (simp; done) | (simp [*]; done), by repeat (first | exact Drawn0.refl _ | apply Drawn0.step)⟩
def spec_l4Row.f (k : Nat) (a0 : ByteArray) (a1 : Int) (a2 : Int) : Option (Int × Int × Int) := (spec_Hash.f k ((a1) % 4294967296) a0).bind fun t101 => (if (IntKind.u64.wrap (wrap64 (a2 - 15))) = 0 then (none) else (some (wrap64 (Int.tmod (t101 / 4294967296) (IntKind.u64.wrap (wrap64 (a2 - 15)))), Go.bits .or .u64 (Int.tmod t101 65536) 1, Int.tmod (t101 / 65536) 128)))
set_option maxHeartbeats 8000000 in
set_option maxRecDepth 100000 in
theorem spec_l4Row.calls (k : Nat) (a0 : ByteArray) (a1 : Int) (a2 : Int) (r1 : Int) (r2 : Int) (r3 : Int) (w : World) (h : spec_l4Row.f k a0 a1 a2 = some (r1, r2, r3)) :
    Calls Try.prog 131 #[.string a0, .int .i64 a1, .int .i64 a2] w fun e w' => e = .returned (.tuple #[.int .i64 r1, .int .u64 r2, .int .u64 r3]) ∧ Drawn0 w w' := by
  have H : ((spec_Hash.f k ((a1) % 4294967296) a0).bind fun t101 => (if (IntKind.u64.wrap (wrap64 (a2 - 15))) = 0 then (none) else (some (wrap64 (Int.tmod (t101 / 4294967296) (IntKind.u64.wrap (wrap64 (a2 - 15)))), Go.bits .or .u64 (Int.tmod t101 65536) 1, Int.tmod (t101 / 65536) 128)))) = some (r1, r2, r3) := h
  clear h
  replace H := Option.bind_eq_some_iff.mp H
  obtain ⟨t101, A40, H⟩ := H
  replace H : (if (IntKind.u64.wrap (wrap64 (a2 - 15))) = 0 then (none) else (some (wrap64 (Int.tmod (t101 / 4294967296) (IntKind.u64.wrap (wrap64 (a2 - 15)))), Go.bits .or .u64 (Int.tmod t101 65536) 1, Int.tmod (t101 / 65536) 128))) = some (r1, r2, r3) := H
  have A4 := Aside0.mk A40
  clear A40
  by_cases c5 : (IntKind.u64.wrap (wrap64 (a2 - 15))) = 0
  · rw [if_pos c5] at H
    exact absurd H (by simp)
  · rw [if_neg c5] at H
    have c5b0 : ((IntKind.u64.wrap (wrap64 (a2 - 15))) == 0) = false := beq_eq_false_iff_ne.mpr c5
    have c5b1 : ((IntKind.u64.wrap (wrap64 (a2 - 15))) != 0) = true := bne_iff_ne.mpr c5
    simp only [Option.some.injEq, Prod.mk.injEq] at H
    obtain ⟨rfl, rfl, rfl⟩ := H
    go_enter Try.func131, Try.ntmps131
    go_wp2_with (first | ((with_reducible refine gate_callee (f := 138) rfl ?_); refine goesL_ (some 13) rfl rfl Try.func138 (by kernel_rfl) rfl #[.int .u32 ((a1) % 4294967296), .string a0] rfl (by (try simp only [List.map_toArray, List.map_cons, List.map_nil]); first | done | rfl | (simp only [List.length_drop, List.length_take]; rfl) | (rw [IntWalk.u64_in _ (by omega)] <;> rfl)) ?_; (with_reducible refine (spec_Hash.calls k ((a1) % 4294967296) a0 t101 _ A4.out).mono ?_); rintro e w' ⟨rfl, ⟨nd, rfl⟩⟩; refine ⟨_, rfl, ?_⟩))
    go_ret3
    exact ⟨by first | rfl | (simp; done) | (simp [*]; done), by repeat (first | exact Drawn0.refl _ | apply Drawn0.step)⟩
mutual
def spec_RibbonOf.j0 : Nat → List ByteArray → Int → Bool → Option (Int × Int × Int × ByteArray × Bool)
  | 0, _, _, _ => none
  | k + 1, x0, x1, x25 => if x25 = true then (some (0, 0, 0, (⟨#[]⟩ : ByteArray), false)) else (if 0 ≤ (wrap64 ((wrap64 ((x0.length : Int) + (wrap64 ((x0.length : Int) / 4)))) + 20)) then (if (wrap64 ((wrap64 ((x0.length : Int) + (wrap64 ((x0.length : Int) / 4)))) + 20) : Int).toNat ≤ 35184372088832 then (spec_RibbonOf.l0 k x0 x1 (wrap64 ((wrap64 ((x0.length : Int) + (wrap64 ((x0.length : Int) / 4)))) + 20)) (List.replicate (wrap64 ((wrap64 ((x0.length : Int) + (wrap64 ((x0.length : Int) / 4)))) + 20) : Int).toNat 0) (List.replicate (wrap64 ((wrap64 ((x0.length : Int) + (wrap64 ((x0.length : Int) / 4)))) + 20) : Int).toNat 0) 0) else (none)) else (none))
def spec_RibbonOf.l0 : Nat → List ByteArray → Int → Int → List Int → List Int → Int → Option (Int × Int × Int × ByteArray × Bool)
  | 0, _, _, _, _, _, _ => none
  | k + 1, x0, x1, x7, x8, x9, x10 => if x10 < (x0.length : Int) then (if 0 ≤ x10 then ((spec_l4Row.f k (rdOf ByteArray.empty x0 x10) x1 x7).bind fun bt111 => (spec_RibbonOf.l1 k x0 x1 x7 x8 x9 x10 bt111.1 bt111.2.1 bt111.2.2)) else (none)) else (if 0 ≤ x7 then (if (x7 : Int).toNat ≤ 281474976710656 then (spec_RibbonOf.l2 k x1 x8 x9 (List.replicate (x7 : Int).toNat 0) (wrap64 (x7 - 1))) else (none)) else (none))
def spec_RibbonOf.l1 : Nat → List ByteArray → Int → Int → List Int → List Int → Int → Int → Int → Int → Option (Int × Int × Int × ByteArray × Bool)
  | 0, _, _, _, _, _, _, _, _, _ => none
  | k + 1, x0, x1, x7, x8, x9, x10, x11, x12, x13 => if x12 > 0 then (if (Int.tmod x12 2) = 0 then (spec_RibbonOf.l1 k x0 x1 x7 x8 x9 x10 (wrap64 (x11 + 1)) (IntKind.u64.wrap (Int.tdiv x12 2)) x13) else (if 0 ≤ x11 then (if x11 < (x8.length : Int) then (if (rd x8 x11) = 0 then (if x11 < (x9.length : Int) then (spec_RibbonOf.l1 k x0 x1 x7 (x8.set (x11 : Int).toNat x12) (x9.set (x11 : Int).toNat x13) x10 x11 0 0) else (none)) else (if x11 < (x9.length : Int) then (spec_RibbonOf.l1 k x0 x1 x7 x8 x9 x10 x11 (Go.bits .xor .u64 x12 (rd x8 x11)) (Go.bits .xor .u64 x13 (rd x9 x11))) else (none))) else (none)) else (none))) else (if x13 = 0 then (spec_RibbonOf.l0 k x0 x1 x7 x8 x9 (wrap64 (x10 + 1))) else (some (0, 0, 0, (⟨#[]⟩ : ByteArray), false)))
def spec_RibbonOf.l2 : Nat → Int → List Int → List Int → List Int → Int → Option (Int × Int × Int × ByteArray × Bool)
  | 0, _, _, _, _, _ => none
  | k + 1, x1, x8, x9, x14, x15 => if x15 ≥ 0 then (if 0 ≤ x15 then (if x15 < (x9.length : Int) then (spec_RibbonOf.l3 k x1 x8 x9 x14 x15 (rd x9 x15) 1) else (none)) else (none)) else (some (2, x1, 0, strOfNums x14, true))
def spec_RibbonOf.l3 : Nat → Int → List Int → List Int → List Int → Int → Int → Int → Option (Int × Int × Int × ByteArray × Bool)
  | 0, _, _, _, _, _, _, _ => none
  | k + 1, x1, x8, x9, x14, x15, x16, x17 => if x17 < 16 then (if 0 ≤ x15 then (if x15 < (x8.length : Int) then (if 0 ≤ (IntKind.u64.wrap (x17)) then (if (Int.tmod (shr .u64 (rd x8 x15) (IntKind.u64.wrap (x17))) 2) = 1 then (if 0 ≤ (wrap64 (x15 + x17)) then (if (wrap64 (x15 + x17)) < (x14.length : Int) then (spec_RibbonOf.l3 k x1 x8 x9 x14 x15 (Go.bits .xor .u64 x16 (IntKind.u64.wrap (rd x14 (wrap64 (x15 + x17))))) (wrap64 (x17 + 1))) else (none)) else (none)) else (spec_RibbonOf.l3 k x1 x8 x9 x14 x15 x16 (wrap64 (x17 + 1)))) else (none)) else (none)) else (none)) else (if 0 ≤ x15 then (if x15 < (x14.length : Int) then (spec_RibbonOf.l2 k x1 x8 x9 (x14.set (x15 : Int).toNat ((x16) % 256)) (wrap64 (x15 - 1))) else (none)) else (none))
end
def spec_RibbonOf.f (k : Nat) (l0 : List ByteArray) (a1 : Int) : Option (Int × Int × Int × ByteArray × Bool) := (spec_UsersOk.f k l0).bind fun t102 => (if t102 = true then ((spec_l1In.f a1 0 3).bind fun t103 => (spec_RibbonOf.j0 k l0 a1 (!t103))) else (spec_RibbonOf.j0 k l0 a1 true))
set_option maxHeartbeats 8000000 in
set_option maxRecDepth 100000 in
theorem spec_RibbonOf.calls (k : Nat) (A0 : Option Addr) (c0 : Nat) (l0 : List ByteArray) (a1 : Int) (r1 : Int) (r2 : Int) (r3 : Int) (r4 : ByteArray) (r5 : Bool) (w : World) (hr0 : Kd.C Kd.string w A0 l0.length l0) (hc0 : l0.length ≤ c0) (h : spec_RibbonOf.f k l0 a1 = some (r1, r2, r3, r4, r5)) :
    Calls Try.prog 102 #[.slice A0 l0.length c0, .int .i64 a1] w fun e w' => e = .returned (.tuple #[.agg #[.int .i64 r1, .int .i64 r2, .int .i64 r3, .string r4], .bool r5]) ∧ Below w.heap.size w w' := by
  have hu46 := Try.underlying46
  have HR0 := Aside0.mk hr0
  have HC0 := Aside0.mk hc0
  clear hr0 hc0
  have HB := Aside0.mk (Below.refl w.heap.size w)
  have H : ((spec_UsersOk.f k l0).bind fun t102 => (if t102 = true then ((spec_l1In.f a1 0 3).bind fun t103 => (spec_RibbonOf.j0 k l0 a1 (!t103))) else (spec_RibbonOf.j0 k l0 a1 true))) = some (r1, r2, r3, r4, r5) := h
  clear h
  have HC3 := Aside0.mk H
  clear H
  go_enter Try.func102, Try.ntmps102
  go_upto_region 1 with (first | ((with_reducible refine gate_dst (N := 4) rfl ?_); refine box_event ?hg (N := 4) ?hd (cs := #[.int .i64 0, .int .i64 0, .int .i64 0, .string (⟨#[]⟩ : ByteArray)]) (t := 46) ?hr ?_; (case hd => rfl); (case hg => rfl); (case hr => first | (go_simp; done) | (go_simp; rfl)); intro gb101 hg w4 hbox hb; have n0_ := Aside0.mk (below_step (by repeat (first | (with_reducible first | exact HB.out | apply below_alloc | apply pw_below_drewN | apply below_drew1) | exact HB.out)) hb); have n1_ := Aside0.mk (hbox); have n2_ := Aside0.mk ((by rw [hg]; exact (below_size (by repeat (first | (with_reducible first | exact HB.out | apply below_alloc | apply pw_below_drewN | apply below_drew1) | exact HB.out))) : w.heap.size ≤ gb101)); have n3_ := Aside0.mk ((by rw [hg]; exact (below_size (by repeat (first | (with_reducible first | exact HB.out | apply below_alloc | apply pw_below_drewN | apply below_drew1) | exact HB.out))) : w.heap.size ≤ gb101)); clear HB; have HB := n0_; have BK101 := n1_; have GW101 := n2_; have GE101 := n3_; clear n0_ n1_ n2_ n3_; clear hb hbox hg))
  (try simp only [Act.put, List.setIfInBounds_toArray, List.set_cons_zero, List.set_cons_succ])
  go_cut [25] (fun v25 wc => ∃ (kq : Nat) (x25_2 : Bool), v25 = .bool x25_2 ∧ Aside0 (spec_RibbonOf.j0 kq l0 a1 x25_2 = some (r1, r2, r3, r4, r5)) ∧ Aside0 (kq ≤ k) ∧ Aside0 (wc.heap[gb101]? = some (.cells #[.int .i64 0, .int .i64 0, .int .i64 0, .string (⟨#[]⟩ : ByteArray)] 46 (0, 0))) ∧ Aside0 (Below w.heap.size w wc))
  case first =>
    have H := HC3.out
    clear HC3
    replace H := Option.bind_eq_some_iff.mp H
    obtain ⟨t102, A50, H⟩ := H
    replace H : (if t102 = true then ((spec_l1In.f a1 0 3).bind fun t103 => (spec_RibbonOf.j0 k l0 a1 (!t103))) else (spec_RibbonOf.j0 k l0 a1 true)) = some (r1, r2, r3, r4, r5) := H
    have A5 := Aside0.mk A50
    clear A50
    by_cases c6 : t102 = true
    · subst c6
      have H1 : ((spec_l1In.f a1 0 3).bind fun t103 => (spec_RibbonOf.j0 k l0 a1 (!t103))) = some (r1, r2, r3, r4, r5) := by rw [if_pos rfl] at H; exact H
      clear H
      have H := H1
      clear H1
      replace H := Option.bind_eq_some_iff.mp H
      obtain ⟨t103, A70, H⟩ := H
      replace H : (spec_RibbonOf.j0 k l0 a1 (!t103)) = some (r1, r2, r3, r4, r5) := H
      have A7 := Aside0.mk A70
      clear A70
      have H' := Aside0.mk H
      clear H
      go_wp2_with (first | ((with_reducible refine gate_callee (f := 101) rfl ?_); refine goesL_ (some 19) rfl rfl Try.func101 (by kernel_rfl) rfl #[.slice A0 l0.length c0] rfl (by (try simp only [List.map_toArray, List.map_cons, List.map_nil]); first | done | rfl | (simp only [List.length_drop, List.length_take]; rfl) | (rw [IntWalk.u64_in _ (by omega)] <;> rfl)) ?_; (with_reducible refine (spec_UsersOk.calls k _ _ l0 true _ ?side1 ?side2 A5.out).mono ?_); (case side1 => repeat (first | exact (Kd.C_below HR0.out HB.out) | (with_reducible refine Kd.C_alloc ?_ _) | (with_reducible refine Kd.C_drewN ?_ _) | (with_reducible refine Kd.C_drew ?_))); (case side2 => exact HC0.out); rintro e w' ⟨rfl, ⟨nd, rfl⟩⟩; refine ⟨_, rfl, ?_⟩) | (go_at_call 61; (with_reducible refine (spec_l1In.calls a1 0 3 t103 _ A7.out).mono ?_); rintro e w' ⟨rfl, ⟨nd, rfl⟩⟩))
      go_meet
      case rel => exact ⟨_, (!t103), (by first | rfl | (simp; done) | (simp [*]; done)), H', ⟨by first | omega | exact Nat.le_refl _⟩, ⟨by (with_reducible repeat (first | refine blk_drewN ?_ _ | refine blk_drew ?_ | refine blk_alloc ?_ _)); exact BK101.out⟩, ⟨by repeat (first | (with_reducible first | exact HB.out | apply below_alloc | apply pw_below_drewN | apply below_drew1 | refine below_set ?_ GE101.out) | exact HB.out)⟩⟩
    · replace c6 := Bool.eq_false_iff.mpr c6
      subst c6
      have H1 : (spec_RibbonOf.j0 k l0 a1 true) = some (r1, r2, r3, r4, r5) := by rw [if_neg (show ¬ (false = true) by decide)] at H; exact H
      clear H
      have H := H1
      clear H1
      have H' := Aside0.mk H
      clear H
      go_wp2_with (first | ((with_reducible refine gate_callee (f := 101) rfl ?_); refine goesL_ (some 19) rfl rfl Try.func101 (by kernel_rfl) rfl #[.slice A0 l0.length c0] rfl (by (try simp only [List.map_toArray, List.map_cons, List.map_nil]); first | done | rfl | (simp only [List.length_drop, List.length_take]; rfl) | (rw [IntWalk.u64_in _ (by omega)] <;> rfl)) ?_; (with_reducible refine (spec_UsersOk.calls k _ _ l0 false _ ?side1 ?side2 A5.out).mono ?_); (case side1 => repeat (first | exact (Kd.C_below HR0.out HB.out) | (with_reducible refine Kd.C_alloc ?_ _) | (with_reducible refine Kd.C_drewN ?_ _) | (with_reducible refine Kd.C_drew ?_))); (case side2 => exact HC0.out); rintro e w' ⟨rfl, ⟨nd, rfl⟩⟩; refine ⟨_, rfl, ?_⟩))
      go_meet
      case rel => exact ⟨_, (true), (by first | rfl | (simp; done) | (simp [*]; done)), H', ⟨by first | omega | exact Nat.le_refl _⟩, ⟨by (with_reducible repeat (first | refine blk_drewN ?_ _ | refine blk_drew ?_ | refine blk_alloc ?_ _)); exact BK101.out⟩, ⟨by repeat (first | (with_reducible first | exact HB.out | apply below_alloc | apply pw_below_drewN | apply below_drew1 | refine below_set ?_ GE101.out) | exact HB.out)⟩⟩
  case rest =>
    clear HC3
    try clear c1
    try clear p2
    try clear c6
    obtain ⟨kq, x25_2, rfl, HA, HJ2, BK101, HB⟩ := hcut
    cases kq with
    | zero => exact absurd HA.out (by simp [spec_RibbonOf.j0])
    | succ kj2 =>
      have H := HA.out
      clear HA
      simp only [spec_RibbonOf.j0] at H
      by_cases c8 : x25_2 = true
      · subst c8
        have H1 : (some (0, 0, 0, (⟨#[]⟩ : ByteArray), false)) = some (r1, r2, r3, r4, r5) := by rw [if_pos rfl] at H; exact H
        clear H
        have H := H1
        clear H1
        simp only [Option.some.injEq, Prod.mk.injEq] at H
        obtain ⟨rfl, rfl, rfl, rfl, rfl⟩ := H
        have hcz9_0 : wc.cell? ⟨gb101, 0, none⟩ = some (.int .i64 0) := (blk_cell BK101.out 0).trans rfl
        have hcz9_1 : wc.cell? ⟨gb101, 1, none⟩ = some (.int .i64 0) := (blk_cell BK101.out 1).trans rfl
        have hcz9_2 : wc.cell? ⟨gb101, 2, none⟩ = some (.int .i64 0) := (blk_cell BK101.out 2).trans rfl
        have hcz9_3 : wc.cell? ⟨gb101, 3, none⟩ = some (.string (⟨#[]⟩ : ByteArray)) := (blk_cell BK101.out 3).trans rfl
        have hfz9_0 := blk_frozen BK101.out 0
        have hfz9_1 := blk_frozen BK101.out 1
        have hfz9_2 := blk_frozen BK101.out 2
        have hfz9_3 := blk_frozen BK101.out 3
        go_wp2
        refine bodyPost_ret (results_ct rfl _ _ gb101 46 #[.int .i64 0, .int .i64 0, .int .i64 0, .string (⟨#[]⟩ : ByteArray)] (0, 0) _ rfl (by (with_reducible repeat (first | refine blk_drewN ?_ _ | refine blk_drew ?_ | refine blk_alloc ?_ _)); refine blk_put (cs := #[.int .i64 0, .int .i64 0, .int .i64 0, .string (⟨#[]⟩ : ByteArray)]) ?_ 3 _ rfl; (with_reducible repeat (first | refine blk_drewN ?_ _ | refine blk_drew ?_ | refine blk_alloc ?_ _)); refine blk_put (cs := #[.int .i64 0, .int .i64 0, .int .i64 0, .string (⟨#[]⟩ : ByteArray)]) ?_ 2 _ rfl; (with_reducible repeat (first | refine blk_drewN ?_ _ | refine blk_drew ?_ | refine blk_alloc ?_ _)); refine blk_put (cs := #[.int .i64 0, .int .i64 0, .int .i64 0, .string (⟨#[]⟩ : ByteArray)]) ?_ 1 _ rfl; (with_reducible repeat (first | refine blk_drewN ?_ _ | refine blk_drew ?_ | refine blk_alloc ?_ _)); refine blk_put (cs := #[.int .i64 0, .int .i64 0, .int .i64 0, .string (⟨#[]⟩ : ByteArray)]) ?_ 0 _ rfl; (with_reducible repeat (first | refine blk_drewN ?_ _ | refine blk_drew ?_ | refine blk_alloc ?_ _)); exact BK101.out) Try.underlying46 rfl (by kernel_rfl)) rfl ?_
        exact ⟨by first | rfl | (simp [errW_none, errW_some] <;> rfl) | (simp [*, errW_none, errW_some] <;> rfl), by repeat (first | (with_reducible first | exact HB.out | apply below_alloc | apply pw_below_drewN | apply below_drew1 | refine below_set ?_ GE101.out) | exact HB.out)⟩
      · replace c8 := Bool.eq_false_iff.mpr c8
        subst c8
        have H1 : (if 0 ≤ (wrap64 ((wrap64 ((l0.length : Int) + (wrap64 ((l0.length : Int) / 4)))) + 20)) then (if (wrap64 ((wrap64 ((l0.length : Int) + (wrap64 ((l0.length : Int) / 4)))) + 20) : Int).toNat ≤ 35184372088832 then (spec_RibbonOf.l0 kj2 l0 a1 (wrap64 ((wrap64 ((l0.length : Int) + (wrap64 ((l0.length : Int) / 4)))) + 20)) (List.replicate (wrap64 ((wrap64 ((l0.length : Int) + (wrap64 ((l0.length : Int) / 4)))) + 20) : Int).toNat 0) (List.replicate (wrap64 ((wrap64 ((l0.length : Int) + (wrap64 ((l0.length : Int) / 4)))) + 20) : Int).toNat 0) 0) else (none)) else (none)) = some (r1, r2, r3, r4, r5) := by rw [if_neg (show ¬ (false = true) by decide)] at H; exact H
        clear H
        have H := H1
        clear H1
        obtain ⟨ji10, hji10⟩ : ∃ j_ : Int, (wrap64 ((wrap64 ((l0.length : Int) + (wrap64 ((l0.length : Int) / 4)))) + 20)) = j_ := ⟨_, rfl⟩
        replace H : (if 0 ≤ (ji10) then (if (ji10 : Int).toNat ≤ 35184372088832 then (spec_RibbonOf.l0 kj2 l0 a1 ji10 (List.replicate (ji10 : Int).toNat 0) (List.replicate (ji10 : Int).toNat 0) 0) else (none)) else (none)) = some (r1, r2, r3, r4, r5) := by first | (rw [hji10] at H; exact H) | (simp only [hji10] at H ⊢; exact H)
        have hji10w : (IntKind.i64.wrap ((wrap64 ((l0.length : Int) + (wrap64 ((l0.length : Int) / 4)))) + 20)) = ji10 := (i64_w _).trans hji10
        by_cases c11 : 0 ≤ (ji10)
        · rw [if_pos c11] at H
          have c11b0 := eq_true c11
          have c11b1 : decide (0 ≤ (ji10)) = true := decide_eq_true c11
          clear c11
          by_cases c12 : (ji10 : Int).toNat ≤ 35184372088832
          · rw [if_pos c12] at H
            have c12b0 := eq_true c12
            have c12b1 : decide ((ji10 : Int).toNat ≤ 35184372088832) = true := decide_eq_true c12
            clear c12
            obtain ⟨y104, hy104⟩ : ∃ y_ : List Int, y_ = (List.replicate (ji10 : Int).toNat 0) := ⟨_, rfl⟩
            replace H : (spec_RibbonOf.l0 kj2 l0 a1 ji10 y104 (List.replicate (ji10 : Int).toNat 0) 0) = some (r1, r2, r3, r4, r5) := by first | (rw [hy104]; with_reducible exact H) | (have H2_ := (Option.bind_some _ _).symm.trans H; rw [hy104]; with_reducible exact H2_) | (have H2_ := (Option.bind_some _ _).symm.trans H; with_reducible exact H2_) | with_reducible exact H | (rw [hy104]; exact H) | exact H
            have Ny104 := Aside0.mk hy104
            clear hy104
            obtain ⟨y107, hy107⟩ : ∃ y_ : List Int, y_ = (List.replicate (ji10 : Int).toNat 0) := ⟨_, rfl⟩
            replace H : (spec_RibbonOf.l0 kj2 l0 a1 ji10 y104 y107 0) = some (r1, r2, r3, r4, r5) := by first | (rw [hy107]; with_reducible exact H) | (have H2_ := (Option.bind_some _ _).symm.trans H; rw [hy107]; with_reducible exact H2_) | (have H2_ := (Option.bind_some _ _).symm.trans H; with_reducible exact H2_) | with_reducible exact H | (rw [hy107]; exact H) | exact H
            have Ny107 := Aside0.mk hy107
            clear hy107
            have H' := Aside0.mk H
            clear H
            go_wp2_with (first | ((with_reducible refine gate_dst (N := 35) rfl ?_); refine Kd.R_make (Kd.int .u64) _ 96 rfl (N := 35) rfl 132 _ _ rfl ji10 rfl rfl Try.underlying132 (.int .u64 0) 8 info96 rfl (by decide) (by omega) 0 (ok := fun _ => True) (okp := fun _ => True) rfl (fun _ hk => hk) trivial (of_decide_eq_true (by first | (with_reducible assumption) | assumption)) (Nat.le_trans (Nat.mul_le_mul_right _ (of_decide_eq_true (by first | (with_reducible assumption) | assumption) : ji10.toNat ≤ 35184372088832)) (by omega)) (Below.refl _ _) (Nat.le_refl _) ?_; intro v105 w13 ho14 hb hg_ hnew_; clear hg_ hnew_; (first | rw [← Ny104.out] at ho14 | (simp only [Int.reduceToNat] at ho14; rw [← Ny104.out] at ho14)); have n0_ := Aside0.mk (Kd.R_lower ho14 (below_size (by repeat (first | (with_reducible first | exact HB.out | apply below_alloc | apply pw_below_drewN | apply below_drew1 | refine below_set ?_ GE101.out) | exact HB.out)))); have n1_ := Aside0.mk (blk_below (g := gb101) (o := .cells #[.int .i64 0, .int .i64 0, .int .i64 0, .string (⟨#[]⟩ : ByteArray)] 46 (0, 0)) (by (with_reducible repeat (first | refine blk_drewN ?_ _ | refine blk_drew ?_ | refine blk_alloc ?_ _)); exact BK101.out) hb); have n2_ := Aside0.mk (below_step (by repeat (first | (with_reducible first | exact HB.out | apply below_alloc | apply pw_below_drewN | apply below_drew1 | refine below_set ?_ GE101.out) | exact HB.out)) hb); clear BK101; clear HB; have HO106 := n0_; have BK101 := n1_; have HB := n2_; clear n0_ n1_ n2_; clear hb ho14) | ((with_reducible refine gate_dst (N := 37) rfl ?_); refine Kd.R_make (Kd.int .u64) _ 96 rfl (N := 37) rfl 132 _ _ rfl ji10 rfl rfl Try.underlying132 (.int .u64 0) 8 info96 rfl (by decide) (by omega) 0 (ok := fun _ => True) (okp := fun _ => True) rfl (fun _ hk => hk) trivial (of_decide_eq_true (by first | (with_reducible assumption) | assumption)) (Nat.le_trans (Nat.mul_le_mul_right _ (of_decide_eq_true (by first | (with_reducible assumption) | assumption) : ji10.toNat ≤ 35184372088832)) (by omega)) (Below.refl _ _) (Nat.le_refl _) ?_; intro v108 w15 ho16 hb hg_ hnew_; clear hg_ hnew_; (first | rw [← Ny107.out] at ho16 | (simp only [Int.reduceToNat] at ho16; rw [← Ny107.out] at ho16)); have n0_ := Aside0.mk (Kd.R_elder' (by (with_reducible repeat (first | apply Kd.R_alloc | apply Kd.R_drewN | apply Kd.R_drew)); exact HO106.out) (Kd.R_base ho16) hb); have n1_ := Aside0.mk (Kd.R_lower (Kd.R_new' ho16 (Kd.R_lt (by (with_reducible repeat (first | apply Kd.R_alloc | apply Kd.R_drewN | apply Kd.R_drew)); exact HO106.out))) (below_size (by repeat (first | (with_reducible first | exact HB.out | apply below_alloc | apply pw_below_drewN | apply below_drew1 | refine below_set ?_ GE101.out) | exact HB.out)))); have n2_ := Aside0.mk (blk_below (g := gb101) (o := .cells #[.int .i64 0, .int .i64 0, .int .i64 0, .string (⟨#[]⟩ : ByteArray)] 46 (0, 0)) (by (with_reducible repeat (first | refine blk_drewN ?_ _ | refine blk_drew ?_ | refine blk_alloc ?_ _)); exact BK101.out) hb); have n3_ := Aside0.mk (below_step (by repeat (first | (with_reducible first | exact HB.out | apply below_alloc | apply pw_below_drewN | apply below_drew1 | refine below_set ?_ GE101.out) | exact HB.out)) hb); clear HO106; clear BK101; clear HB; have HO106 := n0_; have HO109 := n1_; have BK101 := n2_; have HB := n3_; clear n0_ n1_ n2_ n3_; clear hb ho16))
            go_loopg [10] kj2 (fun kq v10 w' => ∃ (x8_2 : List Int) (x9_2 : List Int) (x10_2 : Int) (x102000_2 : Int) (x102001_2 : Int) (x102002_2 : Int) (x102003_2 : ByteArray), v10 = .int .i64 x10_2 ∧ Aside0 (spec_RibbonOf.l0 kq l0 a1 ji10 x8_2 x9_2 x10_2 = some (r1, r2, r3, r4, r5)) ∧ Aside0 (kq ≤ kj2) ∧ Aside0 (Kd.R (Kd.int .u64) 96 w' w.heap.size (fun k_ => some k_ ≠ (v108 : Value).ownBlock) v105 x8_2) ∧ Aside0 (Kd.R (Kd.int .u64) 96 w' w.heap.size (fun k_ => some k_ ≠ (v105 : Value).ownBlock) v108 x9_2) ∧ Aside0 (w'.heap[gb101]? = some (.cells #[.int .i64 x102000_2, .int .i64 x102001_2, .int .i64 x102002_2, .string x102003_2] 46 (0, 0))) ∧ Aside0 (Below w.heap.size w w'))
            case atStart => exact ⟨(y104), (y107), (0), (0), (0), (0), ((⟨#[]⟩ : ByteArray)), (by first | rfl | (simp; done) | (simp [*]; done)), H', ⟨Nat.le_refl _⟩, ⟨by (with_reducible repeat (first | apply Kd.R_alloc | apply Kd.R_drewN | apply Kd.R_drew)); exact Kd.R_mono HO106.out (fun _ hk => hk.2)⟩, ⟨by (with_reducible repeat (first | apply Kd.R_alloc | apply Kd.R_drewN | apply Kd.R_drew)); exact Kd.R_mono HO109.out (fun _ hk => hk.2)⟩, ⟨by (with_reducible repeat (first | refine blk_drewN ?_ _ | refine blk_drew ?_ | refine blk_alloc ?_ _)); exact BK101.out⟩, ⟨by repeat (first | (with_reducible first | exact HB.out | apply below_alloc | apply pw_below_drewN | apply below_drew1 | refine below_set ?_ GE101.out) | exact HB.out)⟩⟩
            case round =>
              clear H'
              try clear c1
              try clear p2
              try clear c6
              try clear p6
              try clear c8
              try clear c10
              try clear c11
              try clear c11b0
              try clear c11b1
              try clear c12
              try clear c12b0
              try clear c12b1
              try clear hcz9_0
              try clear hcz9_1
              try clear hcz9_2
              try clear hcz9_3
              try clear hfz9_0
              try clear hfz9_1
              try clear hfz9_2
              try clear hfz9_3
              try clear p2
              obtain ⟨x8_2, x9_2, x10_2, x102000_2, x102001_2, x102002_2, x102003_2, rfl, HA, HK2, HO_8, HO_9, BK101, HB⟩ := hrel
              cases gk with
              | zero => exact absurd HA.out (by simp [spec_RibbonOf.l0])
              | succ k2 =>
                have H := HA.out
                clear HA
                simp only [spec_RibbonOf.l0] at H
                by_cases c17 : x10_2 < (l0.length : Int)
                · rw [if_pos c17] at H
                  have c17b0 : decide (x10_2 < (l0.length : Int)) = true := decide_eq_true c17
                  clear c17
                  by_cases c18 : 0 ≤ x10_2
                  · rw [if_pos c18] at H
                    have c18b0 : decide (0 ≤ x10_2) = true := decide_eq_true c18
                    clear c18
                    replace H := Option.bind_eq_some_iff.mp H
                    obtain ⟨⟨t111, t112, t113⟩, A190, H⟩ := H
                    replace H : (spec_RibbonOf.l1 k2 l0 a1 ji10 x8_2 x9_2 x10_2 t111 t112 t113) = some (r1, r2, r3, r4, r5) := H
                    have A19 := Aside0.mk A190
                    clear A190
                    have H' := Aside0.mk H
                    clear H
                    have p110 : 0 ≤ (x10_2 : Int) := of_decide_eq_true (by first | (with_reducible assumption) | assumption)
                    have q110 : x10_2 < (l0.length : Int) := of_decide_eq_true (by first | (with_reducible assumption) | assumption)
                    obtain ⟨ad110, e110, hx110_0⟩ := Kd.at_string HR0.out x10_2 p110 q110
                    cases e110
                    replace hx110_0 := (HB.out.cell (World.block_lt_of_cell? w _ hx110_0)).trans hx110_0
                    replace p110 := eq_true p110
                    replace q110 := eq_true q110
                    go_wp2_with (first | ((with_reducible refine gate_callee (f := 131) rfl ?_); refine goesL_ (some 51) rfl rfl Try.func131 (by kernel_rfl) rfl #[.string (rdOf ByteArray.empty l0 x10_2), .int .i64 a1, .int .i64 ji10] rfl (by (try simp only [List.map_toArray, List.map_cons, List.map_nil]); first | done | (simp only [hji10]; rfl) | rfl | (simp only [List.length_drop, List.length_take]; rfl) | (rw [IntWalk.u64_in _ (by omega)] <;> rfl)) ?_; (with_reducible refine (spec_l4Row.calls k2 (rdOf ByteArray.empty l0 x10_2) a1 ji10 t111 t112 t113 _ A19.out).mono ?_); rintro e w' ⟨rfl, ⟨nd, rfl⟩⟩; refine ⟨_, rfl, ?_⟩))
                    go_loopg [11, 12, 13] k2 (fun kq v11 v12 v13 w' => ∃ (x8_3 : List Int) (x9_3 : List Int) (x11_3 : Int) (x12_3 : Int) (x13_3 : Int), v11 = .int .i64 x11_3 ∧ v12 = .int .u64 x12_3 ∧ v13 = .int .u64 x13_3 ∧ Aside0 (spec_RibbonOf.l1 kq l0 a1 ji10 x8_3 x9_3 x10_2 x11_3 x12_3 x13_3 = some (r1, r2, r3, r4, r5)) ∧ Aside0 (kq ≤ k2) ∧ Aside0 (Kd.R (Kd.int .u64) 96 w' w.heap.size (fun k_ => some k_ ≠ (v108 : Value).ownBlock) v105 x8_3) ∧ Aside0 (Kd.R (Kd.int .u64) 96 w' w.heap.size (fun k_ => some k_ ≠ (v105 : Value).ownBlock) v108 x9_3) ∧ Aside0 (w'.heap[gb101]? = some (.cells #[.int .i64 x102000_2, .int .i64 x102001_2, .int .i64 x102002_2, .string x102003_2] 46 (0, 0))) ∧ Aside0 (Below w.heap.size w w'))
                    case atStart => exact ⟨(x8_2), (x9_2), (t111), (t112), (t113), (by first | rfl | (simp; done) | (simp [*]; done)), (by first | rfl | (simp; done) | (simp [*]; done)), (by first | rfl | (simp; done) | (simp [*]; done)), H', ⟨Nat.le_refl _⟩, ⟨by (with_reducible repeat (first | apply Kd.R_alloc | apply Kd.R_drewN | apply Kd.R_drew)); exact HO_8.out⟩, ⟨by (with_reducible repeat (first | apply Kd.R_alloc | apply Kd.R_drewN | apply Kd.R_drew)); exact HO_9.out⟩, ⟨by (with_reducible repeat (first | refine blk_drewN ?_ _ | refine blk_drew ?_ | refine blk_alloc ?_ _)); exact BK101.out⟩, ⟨by repeat (first | (with_reducible first | exact HB.out | apply below_alloc | apply pw_below_drewN | apply below_drew1 | refine below_set ?_ GE101.out) | exact HB.out)⟩⟩
                    case round =>
                      clear H'
                      try clear c1
                      try clear p1
                      try clear q1
                      try clear hx1
                      try clear p2
                      try clear c6
                      try clear p6
                      try clear c8
                      try clear c10
                      try clear c11
                      try clear c11b0
                      try clear c11b1
                      try clear p11
                      try clear q11
                      try clear hx11
                      try clear c12
                      try clear c12b0
                      try clear c12b1
                      try clear c13
                      try clear c17
                      try clear c17b0
                      try clear c18
                      try clear c18b0
                      try clear hcz9_0
                      try clear hcz9_1
                      try clear hcz9_2
                      try clear hcz9_3
                      try clear hfz9_0
                      try clear hfz9_1
                      try clear hfz9_2
                      try clear hfz9_3
                      try clear hx110_0
                      try clear p110
                      try clear p2
                      try clear p6
                      try clear q110
                      obtain ⟨x8_3, x9_3, x11_3, x12_3, x13_3, rfl, rfl, rfl, HA, HK3, HO_8, HO_9, BK101, HB⟩ := hrel
                      cases gk with
                      | zero => exact absurd HA.out (by simp [spec_RibbonOf.l1])
                      | succ k3 =>
                        have H := HA.out
                        clear HA
                        simp only [spec_RibbonOf.l1] at H
                        by_cases c20 : x12_3 > 0
                        · rw [if_pos c20] at H
                          have c20b0 : decide (0 < x12_3) = true := decide_eq_true c20
                          clear c20
                          by_cases c21 : (Int.tmod x12_3 2) = 0
                          · rw [if_pos c21] at H
                            have c21b0 : ((Int.tmod x12_3 2) == 0) = true := beq_iff_eq.mpr c21
                            have c21b1 : ((Int.tmod x12_3 2) != 0) = false := bne_eq_false_iff_eq.mpr c21
                            clear c21
                            have H' := Aside0.mk H
                            clear H
                            go_wp2
                            go_roundg k3
                            case measure => have := HJ2.out; have := HK2.out; have := HK3.out; omega
                            case rel => exact ⟨(x8_3), (x9_3), (wrap64 (x11_3 + 1)), (IntKind.u64.wrap (Int.tdiv x12_3 2)), (x13_3), (by first | rfl | (simp; done) | (simp [*]; done)), (by first | rfl | (simp; done) | (simp [*]; done)), (by first | rfl | (simp; done) | (simp [*]; done)), H', ⟨by have := HJ2.out; have := HK2.out; have := HK3.out; omega⟩, ⟨by (with_reducible repeat (first | apply Kd.R_alloc | apply Kd.R_drewN | apply Kd.R_drew)); exact HO_8.out⟩, ⟨by (with_reducible repeat (first | apply Kd.R_alloc | apply Kd.R_drewN | apply Kd.R_drew)); exact HO_9.out⟩, ⟨by (with_reducible repeat (first | refine blk_drewN ?_ _ | refine blk_drew ?_ | refine blk_alloc ?_ _)); exact BK101.out⟩, ⟨by repeat (first | (with_reducible first | exact HB.out | apply below_alloc | apply pw_below_drewN | apply below_drew1 | refine below_set ?_ GE101.out) | exact HB.out)⟩⟩
                          · rw [if_neg c21] at H
                            have c21b0 : ((Int.tmod x12_3 2) == 0) = false := beq_eq_false_iff_ne.mpr c21
                            have c21b1 : ((Int.tmod x12_3 2) != 0) = true := bne_iff_ne.mpr c21
                            by_cases c22 : 0 ≤ x11_3
                            · rw [if_pos c22] at H
                              have c22b0 : decide (0 ≤ x11_3) = true := decide_eq_true c22
                              clear c22
                              by_cases c23 : x11_3 < (x8_3.length : Int)
                              · rw [if_pos c23] at H
                                have c23b0 : decide (x11_3 < (x8_3.length : Int)) = true := decide_eq_true c23
                                clear c23
                                by_cases c24 : (rd x8_3 x11_3) = 0
                                · rw [if_pos c24] at H
                                  have c24b0 : ((rd x8_3 x11_3) == 0) = true := beq_iff_eq.mpr c24
                                  have c24b1 : ((rd x8_3 x11_3) != 0) = false := bne_eq_false_iff_eq.mpr c24
                                  clear c24
                                  obtain ⟨y115, hy115⟩ : ∃ y_ : List Int, y_ = (x8_3.set (x11_3 : Int).toNat x12_3) := ⟨_, rfl⟩
                                  replace H : (if x11_3 < (x9_3.length : Int) then (spec_RibbonOf.l1 k3 l0 a1 ji10 y115 (x9_3.set (x11_3 : Int).toNat x13_3) x10_2 x11_3 0 0) else (none)) = some (r1, r2, r3, r4, r5) := by first | (rw [hy115]; with_reducible exact H) | (have H2_ := (Option.bind_some _ _).symm.trans H; rw [hy115]; with_reducible exact H2_) | (have H2_ := (Option.bind_some _ _).symm.trans H; with_reducible exact H2_) | with_reducible exact H | (rw [hy115]; exact H) | exact H
                                  have Ny115 := Aside0.mk hy115
                                  clear hy115
                                  by_cases c26 : x11_3 < (x9_3.length : Int)
                                  · rw [if_pos c26] at H
                                    have c26b0 : decide (x11_3 < (x9_3.length : Int)) = true := decide_eq_true c26
                                    clear c26
                                    obtain ⟨y116, hy116⟩ : ∃ y_ : List Int, y_ = (x9_3.set (x11_3 : Int).toNat x13_3) := ⟨_, rfl⟩
                                    replace H : (spec_RibbonOf.l1 k3 l0 a1 ji10 y115 y116 x10_2 x11_3 0 0) = some (r1, r2, r3, r4, r5) := by first | (rw [hy116]; with_reducible exact H) | (have H2_ := (Option.bind_some _ _).symm.trans H; rw [hy116]; with_reducible exact H2_) | (have H2_ := (Option.bind_some _ _).symm.trans H; with_reducible exact H2_) | with_reducible exact H | (rw [hy116]; exact H) | exact H
                                    have Ny116 := Aside0.mk hy116
                                    clear hy116
                                    have H' := Aside0.mk H
                                    clear H
                                    obtain ⟨Ao28, co28, eo28⟩ := Kd.R_slice HO_8.out
                                    subst eo28
                                    have p114 : 0 ≤ (x11_3 : Int) := of_decide_eq_true (by first | (with_reducible assumption) | assumption)
                                    have q114 : x11_3 < (x8_3.length : Int) := of_decide_eq_true (by first | (with_reducible assumption) | assumption)
                                    obtain ⟨ad114, e114, hx114_0⟩ := Kd.at_int (Kd.R_reads' HO_8.out).2.2 x11_3 p114 q114
                                    cases e114
                                    replace p114 := eq_true p114
                                    replace q114 := eq_true q114
                                    have p25 : 0 ≤ (x11_3 : Int) := of_decide_eq_true (by first | (with_reducible assumption) | assumption)
                                    have q25 : (x11_3 : Int) < ((x8_3.length : Int) : Int) := of_decide_eq_true (by first | (with_reducible assumption) | assumption)
                                    obtain ⟨go25, co25, eo25, gb25, gl25, cl25, HG25⟩ := Kd.R_form HO_8.out (by omega)
                                    (first | cases eo25 | (injection eo25 with ea_ en_ ec_; (first | subst ea_ | (injection ea_ with ea_; subst ea_)); subst ec_; clear en_))
                                    have GB25 := Aside0.mk gb25
                                    have GG25 := Aside0.mk HG25
                                    clear gb25 gl25 HG25
                                    (first | simp only [add_plain] at hx114_0 | skip)
                                    obtain ⟨hx25_0, hf25_0⟩ := Kd.R_celln 0 HO_8.out (x11_3 : Int) p25 q25
                                    replace p25 := eq_true p25
                                    replace q25 := eq_true q25
                                    have HP29 := Kd.R_putg HO_8.out (x11_3 : Int) x12_3
                                    go_wp2_with (first | ((with_reducible refine gate_store (t := 96) (p := 72) rfl ?_); refine store_event (t := 96) (p := 72) (v := ?vo_w30) (w1 := (wr.setCell ⟨go25, (x11_3 : Int).toNat, none⟩ (.int .u64 x12_3))) ?hg ?ho ?hn ?hr ?_; (case ho => rfl); (case hg => rfl); (case hn => rfl); (case hr => first | (go_simp; done) | (go_simp; rfl)); intro w30 hw; have hg : wr.grownBy w30 (some go25) := (by rw [hw]; exact HP29.2); have hp_ : Kd.R (Kd.int .u64) 96 w30 w.heap.size (fun k_ => some k_ ≠ (v108 : Value).ownBlock) (.slice (some ⟨go25, 0, none⟩) x8_3.length co28) y115 := (by rw [hw, Ny115.out]; exact HP29.1); clear HP29; have n0_ := Aside0.mk (hp_); have n1_ := Aside0.mk (Kd.R_after (v := (.slice (some ⟨go25, 0, none⟩) x8_3.length co28)) (v1 := (.slice (some ⟨go25, 0, none⟩) x8_3.length co28)) (ok := (fun _ => True)) (by (with_reducible repeat (first | apply Kd.R_alloc | apply Kd.R_drewN | apply Kd.R_drew)); exact Kd.R_mono HO_9.out (fun _ hk => ⟨trivial, hk⟩)) hg (.inl rfl)); have n2_ := Aside0.mk (blk_grown (g := gb101) (o := .cells #[.int .i64 x102000_2, .int .i64 x102001_2, .int .i64 x102002_2, .string x102003_2] 46 (0, 0)) (by (with_reducible repeat (first | refine blk_drewN ?_ _ | refine blk_drew ?_ | refine blk_alloc ?_ _)); exact BK101.out) hg (Kd.R_ne HO_8.out BK101.out (by decide))); have n3_ := Aside0.mk ((by rw [hw]; exact below_set (HB.out) GB25.out : Below w.heap.size w w30)); clear HO_8; clear HO_9; clear BK101; clear HB; have HO_8 := n0_; have HO_9 := n1_; have BK101 := n2_; have HB := n3_; clear n0_ n1_ n2_ n3_; clear hg hw hp_; have p27 : 0 ≤ (x11_3 : Int) := of_decide_eq_true (by first | (with_reducible assumption) | assumption); have q27 : (x11_3 : Int) < ((x9_3.length : Int) : Int) := of_decide_eq_true (by first | (with_reducible assumption) | assumption); obtain ⟨go27, co27, eo27, gb27, gl27, cl27, HG27⟩ := Kd.R_form HO_9.out (by omega); (first | cases eo27 | (injection eo27 with ea_ en_ ec_; (first | subst ea_ | (injection ea_ with ea_; subst ea_)); subst ec_; clear en_)); have GB27 := Aside0.mk gb27; have GG27 := Aside0.mk HG27; clear gb27 gl27 HG27; obtain ⟨hx27_0, hf27_0⟩ := Kd.R_celln 0 HO_9.out (x11_3 : Int) p27 q27; replace p27 := eq_true p27; replace q27 := eq_true q27; have n_ := Aside0.mk (Kd.R_mono (ok' := (fun k_ => some k_ ≠ (.slice (some ⟨go25, 0, none⟩) x8_3.length co28 : Value).ownBlock)) HO_9.out (fun k_ hk => hk.2)); clear HO_9; have HO_9 := n_; clear n_; obtain ⟨hy31_, hz31_⟩ := Kd.R_celln 0 HO_9.out (x11_3 : Int) (of_decide_eq_true (by first | (with_reducible assumption) | assumption)) (of_decide_eq_true (by first | (with_reducible assumption) | assumption)); have HP31 := Kd.R_putg HO_9.out (x11_3 : Int) x13_3) | ((with_reducible refine gate_store (t := 96) (p := 76) rfl ?_); refine store_event (t := 96) (p := 76) (v := ?vo_w32) (w1 := (w30.setCell ⟨go27, (x11_3 : Int).toNat, none⟩ (.int .u64 x13_3))) ?hg ?ho ?hn ?hr ?_; (case ho => rfl); (case hg => rfl); (case hn => rfl); (case hr => first | (go_simp; done) | (go_simp; rfl)); intro w32 hw; have hg : w30.grownBy w32 (some go27) := (by rw [hw]; exact HP31.2); have hp_ : Kd.R (Kd.int .u64) 96 w32 w.heap.size (fun k_ => some k_ ≠ (.slice (some ⟨go25, 0, none⟩) x8_3.length co28 : Value).ownBlock) (.slice (some ⟨go27, 0, none⟩) x9_3.length co27) y116 := (by rw [hw, Ny116.out]; exact HP31.1); clear HP31; have n0_ := Aside0.mk (Kd.R_after (v := (.slice (some ⟨go27, 0, none⟩) x9_3.length co27)) (v1 := (.slice (some ⟨go27, 0, none⟩) x9_3.length co27)) (ok := (fun _ => True)) (by (with_reducible repeat (first | apply Kd.R_alloc | apply Kd.R_drewN | apply Kd.R_drew)); exact Kd.R_mono HO_8.out (fun _ hk => ⟨trivial, hk⟩)) hg (.inl rfl)); have n1_ := Aside0.mk (hp_); have n2_ := Aside0.mk (blk_grown (g := gb101) (o := .cells #[.int .i64 x102000_2, .int .i64 x102001_2, .int .i64 x102002_2, .string x102003_2] 46 (0, 0)) (by (with_reducible repeat (first | refine blk_drewN ?_ _ | refine blk_drew ?_ | refine blk_alloc ?_ _)); exact BK101.out) hg (Kd.R_ne HO_9.out BK101.out (by decide))); have n3_ := Aside0.mk ((by rw [hw]; exact below_set (HB.out) GB27.out : Below w.heap.size w w32)); clear HO_8; clear HO_9; clear BK101; clear HB; have HO_8 := n0_; have HO_9 := n1_; have BK101 := n2_; have HB := n3_; clear n0_ n1_ n2_ n3_; clear hg hw hp_))
                                    go_roundg k3
                                    case measure => have := HJ2.out; have := HK2.out; have := HK3.out; omega
                                    case rel => exact ⟨(y115), (y116), (x11_3), (0), (0), (by first | rfl | (simp; done) | (simp [*]; done)), (by first | rfl | (simp; done) | (simp [*]; done)), (by first | rfl | (simp; done) | (simp [*]; done)), H', ⟨by have := HJ2.out; have := HK2.out; have := HK3.out; omega⟩, ⟨by (with_reducible repeat (first | apply Kd.R_alloc | apply Kd.R_drewN | apply Kd.R_drew)); exact Kd.R_mono HO_8.out (fun _ hk => hk.2)⟩, ⟨by (with_reducible repeat (first | apply Kd.R_alloc | apply Kd.R_drewN | apply Kd.R_drew)); exact HO_9.out⟩, ⟨by (with_reducible repeat (first | refine blk_drewN ?_ _ | refine blk_drew ?_ | refine blk_alloc ?_ _)); exact BK101.out⟩, ⟨by repeat (first | (with_reducible first | exact HB.out | apply below_alloc | apply pw_below_drewN | apply below_drew1 | refine below_set ?_ GE101.out) | exact HB.out)⟩⟩
                                  · rw [if_neg c26] at H
                                    exact absurd H (by simp)
                                · rw [if_neg c24] at H
                                  have c24b0 : ((rd x8_3 x11_3) == 0) = false := beq_eq_false_iff_ne.mpr c24
                                  have c24b1 : ((rd x8_3 x11_3) != 0) = true := bne_iff_ne.mpr c24
                                  by_cases c33 : x11_3 < (x9_3.length : Int)
                                  · rw [if_pos c33] at H
                                    have c33b0 : decide (x11_3 < (x9_3.length : Int)) = true := decide_eq_true c33
                                    clear c33
                                    have H' := Aside0.mk H
                                    clear H
                                    obtain ⟨Ao34, co34, eo34⟩ := Kd.R_slice HO_8.out
                                    subst eo34
                                    have p114 : 0 ≤ (x11_3 : Int) := of_decide_eq_true (by first | (with_reducible assumption) | assumption)
                                    have q114 : x11_3 < (x8_3.length : Int) := of_decide_eq_true (by first | (with_reducible assumption) | assumption)
                                    obtain ⟨ad114, e114, hx114_0⟩ := Kd.at_int (Kd.R_reads' HO_8.out).2.2 x11_3 p114 q114
                                    cases e114
                                    replace p114 := eq_true p114
                                    replace q114 := eq_true q114
                                    have p117 : 0 ≤ (x11_3 : Int) := of_decide_eq_true (by first | (with_reducible assumption) | assumption)
                                    have q117 : x11_3 < (x8_3.length : Int) := of_decide_eq_true (by first | (with_reducible assumption) | assumption)
                                    obtain ⟨ad117, e117, hx117_0⟩ := Kd.at_int (Kd.R_reads' HO_8.out).2.2 x11_3 p117 q117
                                    obtain rfl : ad114 = ad117 := (by injection e117)
                                    replace p117 := eq_true p117
                                    replace q117 := eq_true q117
                                    obtain ⟨Ao35, co35, eo35⟩ := Kd.R_slice HO_9.out
                                    subst eo35
                                    have p118 : 0 ≤ (x11_3 : Int) := of_decide_eq_true (by first | (with_reducible assumption) | assumption)
                                    have q118 : x11_3 < (x9_3.length : Int) := of_decide_eq_true (by first | (with_reducible assumption) | assumption)
                                    obtain ⟨ad118, e118, hx118_0⟩ := Kd.at_int (Kd.R_reads' HO_9.out).2.2 x11_3 p118 q118
                                    cases e118
                                    replace p118 := eq_true p118
                                    replace q118 := eq_true q118
                                    go_wp2
                                    go_roundg k3
                                    case measure => have := HJ2.out; have := HK2.out; have := HK3.out; omega
                                    case rel => exact ⟨(x8_3), (x9_3), (x11_3), (Go.bits .xor .u64 x12_3 (rd x8_3 x11_3)), (Go.bits .xor .u64 x13_3 (rd x9_3 x11_3)), (by first | rfl | (simp; done) | (simp [*]; done)), (by first | rfl | (simp; done) | (simp [*]; done)), (by first | rfl | (simp; done) | (simp [*]; done)), H', ⟨by have := HJ2.out; have := HK2.out; have := HK3.out; omega⟩, ⟨by (with_reducible repeat (first | apply Kd.R_alloc | apply Kd.R_drewN | apply Kd.R_drew)); exact HO_8.out⟩, ⟨by (with_reducible repeat (first | apply Kd.R_alloc | apply Kd.R_drewN | apply Kd.R_drew)); exact HO_9.out⟩, ⟨by (with_reducible repeat (first | refine blk_drewN ?_ _ | refine blk_drew ?_ | refine blk_alloc ?_ _)); exact BK101.out⟩, ⟨by repeat (first | (with_reducible first | exact HB.out | apply below_alloc | apply pw_below_drewN | apply below_drew1 | refine below_set ?_ GE101.out) | exact HB.out)⟩⟩
                                  · rw [if_neg c33] at H
                                    exact absurd H (by simp)
                              · rw [if_neg c23] at H
                                exact absurd H (by simp)
                            · rw [if_neg c22] at H
                              exact absurd H (by simp)
                        · rw [if_neg c20] at H
                          have c20b0 : decide (0 < x12_3) = false := decide_eq_false c20
                          clear c20
                          by_cases c36 : x13_3 = 0
                          · rw [if_pos c36] at H
                            have c36b0 : (x13_3 == 0) = true := beq_iff_eq.mpr c36
                            have c36b1 : (x13_3 != 0) = false := bne_eq_false_iff_eq.mpr c36
                            clear c36
                            have H' := Aside0.mk H
                            clear H
                            go_wp2
                            go_roundg k3
                            case measure => have := HJ2.out; have := HK2.out; have := HK3.out; omega
                            case rel => exact ⟨(x8_3), (x9_3), (wrap64 (x10_2 + 1)), (x102000_2), (x102001_2), (x102002_2), (x102003_2), (by first | rfl | (simp; done) | (simp [*]; done)), H', ⟨by have := HJ2.out; have := HK2.out; have := HK3.out; omega⟩, ⟨by (with_reducible repeat (first | apply Kd.R_alloc | apply Kd.R_drewN | apply Kd.R_drew)); exact HO_8.out⟩, ⟨by (with_reducible repeat (first | apply Kd.R_alloc | apply Kd.R_drewN | apply Kd.R_drew)); exact HO_9.out⟩, ⟨by (with_reducible repeat (first | refine blk_drewN ?_ _ | refine blk_drew ?_ | refine blk_alloc ?_ _)); exact BK101.out⟩, ⟨by repeat (first | (with_reducible first | exact HB.out | apply below_alloc | apply pw_below_drewN | apply below_drew1 | refine below_set ?_ GE101.out) | exact HB.out)⟩⟩
                          · rw [if_neg c36] at H
                            have c36b0 : (x13_3 == 0) = false := beq_eq_false_iff_ne.mpr c36
                            have c36b1 : (x13_3 != 0) = true := bne_iff_ne.mpr c36
                            simp only [Option.some.injEq, Prod.mk.injEq] at H
                            obtain ⟨rfl, rfl, rfl, rfl, rfl⟩ := H
                            have hcz37_0 : wr.cell? ⟨gb101, 0, none⟩ = some (.int .i64 x102000_2) := (blk_cell BK101.out 0).trans rfl
                            have hcz37_1 : wr.cell? ⟨gb101, 1, none⟩ = some (.int .i64 x102001_2) := (blk_cell BK101.out 1).trans rfl
                            have hcz37_2 : wr.cell? ⟨gb101, 2, none⟩ = some (.int .i64 x102002_2) := (blk_cell BK101.out 2).trans rfl
                            have hcz37_3 : wr.cell? ⟨gb101, 3, none⟩ = some (.string x102003_2) := (blk_cell BK101.out 3).trans rfl
                            have hfz37_0 := blk_frozen BK101.out 0
                            have hfz37_1 := blk_frozen BK101.out 1
                            have hfz37_2 := blk_frozen BK101.out 2
                            have hfz37_3 := blk_frozen BK101.out 3
                            go_wp2
                            refine bodyPost_ret (results_ct rfl _ _ gb101 46 #[.int .i64 0, .int .i64 0, .int .i64 0, .string (⟨#[]⟩ : ByteArray)] (0, 0) _ rfl (by (with_reducible repeat (first | refine blk_drewN ?_ _ | refine blk_drew ?_ | refine blk_alloc ?_ _)); refine blk_put (cs := #[.int .i64 0, .int .i64 0, .int .i64 0, .string x102003_2]) ?_ 3 _ rfl; (with_reducible repeat (first | refine blk_drewN ?_ _ | refine blk_drew ?_ | refine blk_alloc ?_ _)); refine blk_put (cs := #[.int .i64 0, .int .i64 0, .int .i64 x102002_2, .string x102003_2]) ?_ 2 _ rfl; (with_reducible repeat (first | refine blk_drewN ?_ _ | refine blk_drew ?_ | refine blk_alloc ?_ _)); refine blk_put (cs := #[.int .i64 0, .int .i64 x102001_2, .int .i64 x102002_2, .string x102003_2]) ?_ 1 _ rfl; (with_reducible repeat (first | refine blk_drewN ?_ _ | refine blk_drew ?_ | refine blk_alloc ?_ _)); refine blk_put (cs := #[.int .i64 x102000_2, .int .i64 x102001_2, .int .i64 x102002_2, .string x102003_2]) ?_ 0 _ rfl; (with_reducible repeat (first | refine blk_drewN ?_ _ | refine blk_drew ?_ | refine blk_alloc ?_ _)); exact BK101.out) Try.underlying46 rfl (by kernel_rfl)) rfl ?_
                            exact ⟨by first | rfl | (simp [errW_none, errW_some] <;> rfl) | (simp only [← hji10]; first | rfl | (simp [errW_none, errW_some] <;> rfl)) | (simp [*, errW_none, errW_some] <;> rfl), by repeat (first | (with_reducible first | exact HB.out | apply below_alloc | apply pw_below_drewN | apply below_drew1 | refine below_set ?_ GE101.out) | exact HB.out)⟩
                  · rw [if_neg c18] at H
                    exact absurd H (by simp)
                · rw [if_neg c17] at H
                  have c17b0 : decide (x10_2 < (l0.length : Int)) = false := decide_eq_false c17
                  clear c17
                  by_cases c38 : 0 ≤ ji10
                  · rw [if_pos c38] at H
                    have c38b0 := eq_true c38
                    have c38b1 : decide (0 ≤ ji10) = true := decide_eq_true c38
                    clear c38
                    by_cases c39 : (ji10 : Int).toNat ≤ 281474976710656
                    · rw [if_pos c39] at H
                      have c39b0 := eq_true c39
                      have c39b1 : decide ((ji10 : Int).toNat ≤ 281474976710656) = true := decide_eq_true c39
                      clear c39
                      obtain ⟨y119, hy119⟩ : ∃ y_ : List Int, y_ = (List.replicate (ji10 : Int).toNat 0) := ⟨_, rfl⟩
                      replace H : (spec_RibbonOf.l2 k2 a1 x8_2 x9_2 y119 (wrap64 (ji10 - 1))) = some (r1, r2, r3, r4, r5) := by first | (rw [hy119]; with_reducible exact H) | (have H2_ := (Option.bind_some _ _).symm.trans H; rw [hy119]; with_reducible exact H2_) | (have H2_ := (Option.bind_some _ _).symm.trans H; with_reducible exact H2_) | with_reducible exact H | (rw [hy119]; exact H) | exact H
                      have Ny119 := Aside0.mk hy119
                      clear hy119
                      have H' := Aside0.mk H
                      clear H
                      go_wp2_with (first | ((with_reducible refine gate_dst (N := 93) rfl ?_); refine Kd.R_make (Kd.int .u8) _ 5 rfl (N := 93) rfl 51 _ _ rfl ji10 rfl rfl Try.underlying51 (.int .u8 0) 1 info5 rfl (by decide) (by omega) 0 (ok := fun _ => True) (okp := fun _ => True) rfl (fun _ hk => hk) trivial (of_decide_eq_true (by first | (with_reducible assumption) | assumption)) (Nat.le_trans (Nat.mul_le_mul_right _ (of_decide_eq_true (by first | (with_reducible assumption) | assumption) : ji10.toNat ≤ 281474976710656)) (by omega)) (Below.refl _ _) (Nat.le_refl _) ?_; intro v120 w40 ho41 hb hg_ hnew_; clear hg_ hnew_; (first | rw [← Ny119.out] at ho41 | (simp only [Int.reduceToNat] at ho41; rw [← Ny119.out] at ho41)); have n0_ := Aside0.mk (Kd.R_below (by (with_reducible repeat (first | apply Kd.R_alloc | apply Kd.R_drewN | apply Kd.R_drew)); exact HO_8.out) hb); have n1_ := Aside0.mk (Kd.R_below (by (with_reducible repeat (first | apply Kd.R_alloc | apply Kd.R_drewN | apply Kd.R_drew)); exact HO_9.out) hb); have n2_ := Aside0.mk (Kd.R_lower ho41 (below_size (by repeat (first | (with_reducible first | exact HB.out | apply below_alloc | apply pw_below_drewN | apply below_drew1 | refine below_set ?_ GE101.out) | exact HB.out)))); have n3_ := Aside0.mk (blk_below (g := gb101) (o := .cells #[.int .i64 x102000_2, .int .i64 x102001_2, .int .i64 x102002_2, .string x102003_2] 46 (0, 0)) (by (with_reducible repeat (first | refine blk_drewN ?_ _ | refine blk_drew ?_ | refine blk_alloc ?_ _)); exact BK101.out) hb); have n4_ := Aside0.mk (below_step (by repeat (first | (with_reducible first | exact HB.out | apply below_alloc | apply pw_below_drewN | apply below_drew1 | refine below_set ?_ GE101.out) | exact HB.out)) hb); clear HO_8; clear HO_9; clear BK101; clear HB; have HO_8 := n0_; have HO_9 := n1_; have HO121 := n2_; have BK101 := n3_; have HB := n4_; clear n0_ n1_ n2_ n3_ n4_; clear hb ho41))
                      go_loopg [15] k2 (fun kq v15 w' => ∃ (x14_3 : List Int) (x15_3 : Int), v15 = .int .i64 x15_3 ∧ Aside0 (spec_RibbonOf.l2 kq a1 x8_2 x9_2 x14_3 x15_3 = some (r1, r2, r3, r4, r5)) ∧ Aside0 (kq ≤ k2) ∧ Aside0 (Kd.R (Kd.int .u64) 96 w' w.heap.size (fun k_ => some k_ ≠ (v108 : Value).ownBlock) v105 x8_2) ∧ Aside0 (Kd.R (Kd.int .u64) 96 w' w.heap.size (fun k_ => some k_ ≠ (v105 : Value).ownBlock) v108 x9_2) ∧ Aside0 (Kd.R (Kd.int .u8) 5 w' w.heap.size (fun _ => True) v120 x14_3) ∧ Aside0 (w'.heap[gb101]? = some (.cells #[.int .i64 x102000_2, .int .i64 x102001_2, .int .i64 x102002_2, .string x102003_2] 46 (0, 0))) ∧ Aside0 (Below w.heap.size w w'))
                      case atStart => exact ⟨(y119), (wrap64 (ji10 - 1)), (by first | rfl | (simp; done) | (simp only [← hji10] <;> (first | rfl | simp)) | (simp [*]; done)), H', ⟨Nat.le_refl _⟩, ⟨by (with_reducible repeat (first | apply Kd.R_alloc | apply Kd.R_drewN | apply Kd.R_drew)); exact HO_8.out⟩, ⟨by (with_reducible repeat (first | apply Kd.R_alloc | apply Kd.R_drewN | apply Kd.R_drew)); exact HO_9.out⟩, ⟨by (with_reducible repeat (first | apply Kd.R_alloc | apply Kd.R_drewN | apply Kd.R_drew)); exact HO121.out⟩, ⟨by (with_reducible repeat (first | refine blk_drewN ?_ _ | refine blk_drew ?_ | refine blk_alloc ?_ _)); exact BK101.out⟩, ⟨by repeat (first | (with_reducible first | exact HB.out | apply below_alloc | apply pw_below_drewN | apply below_drew1 | refine below_set ?_ GE101.out) | exact HB.out)⟩⟩
                      case round =>
                        clear H'
                        try clear c1
                        try clear p1
                        try clear q1
                        try clear hx1
                        try clear c2
                        try clear p2
                        try clear q2
                        try clear hx2
                        try clear hf2
                        try clear c3
                        try clear c6
                        try clear p6
                        try clear c8
                        try clear c10
                        try clear c11
                        try clear c11b0
                        try clear c11b1
                        try clear p11
                        try clear q11
                        try clear hx11
                        try clear c12
                        try clear c12b0
                        try clear c12b1
                        try clear c13
                        try clear c17
                        try clear c17b0
                        try clear c18
                        try clear c18b0
                        try clear c20
                        try clear c20b0
                        try clear c21
                        try clear c21b0
                        try clear c21b1
                        try clear c22
                        try clear c22b0
                        try clear c23
                        try clear c23b0
                        try clear c24
                        try clear c24b0
                        try clear c24b1
                        try clear p25
                        try clear q25
                        try clear hx25
                        try clear hf25
                        try clear c26
                        try clear c26b0
                        try clear p27
                        try clear q27
                        try clear hx27
                        try clear hf27
                        try clear c33
                        try clear c33b0
                        try clear c36
                        try clear c36b0
                        try clear c36b1
                        try clear c38
                        try clear c38b0
                        try clear c38b1
                        try clear c39
                        try clear c39b0
                        try clear c39b1
                        try clear hcz37_0
                        try clear hcz37_1
                        try clear hcz37_2
                        try clear hcz37_3
                        try clear hcz9_0
                        try clear hcz9_1
                        try clear hcz9_2
                        try clear hcz9_3
                        try clear hfz37_0
                        try clear hfz37_1
                        try clear hfz37_2
                        try clear hfz37_3
                        try clear hfz9_0
                        try clear hfz9_1
                        try clear hfz9_2
                        try clear hfz9_3
                        try clear hx110_0
                        try clear hx114_0
                        try clear hx117_0
                        try clear hx118_0
                        try clear hx25_0
                        try clear hx27_0
                        try clear p1
                        try clear p11
                        try clear p110
                        try clear p114
                        try clear p117
                        try clear p118
                        try clear p2
                        try clear p25
                        try clear p27
                        try clear p6
                        try clear q1
                        try clear q11
                        try clear q110
                        try clear q114
                        try clear q117
                        try clear q118
                        try clear q25
                        try clear q27
                        obtain ⟨x14_3, x15_3, rfl, HA, HK3, HO_8, HO_9, HO_14, BK101, HB⟩ := hrel
                        cases gk with
                        | zero => exact absurd HA.out (by simp [spec_RibbonOf.l2])
                        | succ k3 =>
                          have H := HA.out
                          clear HA
                          simp only [spec_RibbonOf.l2] at H
                          by_cases c42 : x15_3 ≥ 0
                          · rw [if_pos c42] at H
                            have c42b0 : decide (0 ≤ x15_3) = true := decide_eq_true c42
                            clear c42
                            by_cases c43 : 0 ≤ x15_3
                            · rw [if_pos c43] at H
                              have c43b0 : decide (0 ≤ x15_3) = true := decide_eq_true c43
                              clear c43
                              by_cases c44 : x15_3 < (x9_2.length : Int)
                              · rw [if_pos c44] at H
                                have c44b0 : decide (x15_3 < (x9_2.length : Int)) = true := decide_eq_true c44
                                clear c44
                                have H' := Aside0.mk H
                                clear H
                                obtain ⟨Ao45, co45, eo45⟩ := Kd.R_slice HO_9.out
                                subst eo45
                                have p122 : 0 ≤ (x15_3 : Int) := of_decide_eq_true (by first | (with_reducible assumption) | assumption)
                                have q122 : x15_3 < (x9_2.length : Int) := of_decide_eq_true (by first | (with_reducible assumption) | assumption)
                                obtain ⟨ad122, e122, hx122_0⟩ := Kd.at_int (Kd.R_reads' HO_9.out).2.2 x15_3 p122 q122
                                cases e122
                                replace p122 := eq_true p122
                                replace q122 := eq_true q122
                                go_wp2
                                go_loopg [16, 17] k3 (fun kq v16 v17 w' => ∃ (x16_4 : Int) (x17_4 : Int), v16 = .int .u64 x16_4 ∧ v17 = .int .i64 x17_4 ∧ Aside0 (spec_RibbonOf.l3 kq a1 x8_2 x9_2 x14_3 x15_3 x16_4 x17_4 = some (r1, r2, r3, r4, r5)) ∧ Aside0 (kq ≤ k3) ∧ Aside0 (Kd.R (Kd.int .u64) 96 w' w.heap.size (fun k_ => some k_ ≠ ((.slice (some ad122) x9_2.length co45) : Value).ownBlock) v105 x8_2) ∧ Aside0 (Kd.R (Kd.int .u64) 96 w' w.heap.size (fun k_ => some k_ ≠ (v105 : Value).ownBlock) (.slice (some ad122) x9_2.length co45) x9_2) ∧ Aside0 (Kd.R (Kd.int .u8) 5 w' w.heap.size (fun _ => True) v120 x14_3) ∧ Aside0 (w'.heap[gb101]? = some (.cells #[.int .i64 x102000_2, .int .i64 x102001_2, .int .i64 x102002_2, .string x102003_2] 46 (0, 0))) ∧ Aside0 (Below w.heap.size w w'))
                                case atStart => exact ⟨(rd x9_2 x15_3), (1), (by first | rfl | (simp; done) | (simp [*]; done)), (by first | rfl | (simp; done) | (simp [*]; done)), H', ⟨Nat.le_refl _⟩, ⟨by (with_reducible repeat (first | apply Kd.R_alloc | apply Kd.R_drewN | apply Kd.R_drew)); exact HO_8.out⟩, ⟨by (with_reducible repeat (first | apply Kd.R_alloc | apply Kd.R_drewN | apply Kd.R_drew)); exact HO_9.out⟩, ⟨by (with_reducible repeat (first | apply Kd.R_alloc | apply Kd.R_drewN | apply Kd.R_drew)); exact HO_14.out⟩, ⟨by (with_reducible repeat (first | refine blk_drewN ?_ _ | refine blk_drew ?_ | refine blk_alloc ?_ _)); exact BK101.out⟩, ⟨by repeat (first | (with_reducible first | exact HB.out | apply below_alloc | apply pw_below_drewN | apply below_drew1 | refine below_set ?_ GE101.out) | exact HB.out)⟩⟩
                                case round =>
                                  clear H'
                                  try clear c1
                                  try clear p1
                                  try clear q1
                                  try clear hx1
                                  try clear c2
                                  try clear p2
                                  try clear q2
                                  try clear hx2
                                  try clear hf2
                                  try clear c3
                                  try clear c4
                                  try clear c6
                                  try clear p6
                                  try clear c8
                                  try clear c10
                                  try clear c11
                                  try clear c11b0
                                  try clear c11b1
                                  try clear p11
                                  try clear q11
                                  try clear hx11
                                  try clear c12
                                  try clear c12b0
                                  try clear c12b1
                                  try clear p12
                                  try clear q12
                                  try clear hx12
                                  try clear c13
                                  try clear c17
                                  try clear c17b0
                                  try clear c18
                                  try clear c18b0
                                  try clear c20
                                  try clear c20b0
                                  try clear c21
                                  try clear c21b0
                                  try clear c21b1
                                  try clear c22
                                  try clear c22b0
                                  try clear c23
                                  try clear c23b0
                                  try clear c24
                                  try clear c24b0
                                  try clear c24b1
                                  try clear p25
                                  try clear q25
                                  try clear hx25
                                  try clear hf25
                                  try clear c26
                                  try clear c26b0
                                  try clear p27
                                  try clear q27
                                  try clear hx27
                                  try clear hf27
                                  try clear c33
                                  try clear c33b0
                                  try clear c36
                                  try clear c36b0
                                  try clear c36b1
                                  try clear c38
                                  try clear c38b0
                                  try clear c38b1
                                  try clear c39
                                  try clear c39b0
                                  try clear c39b1
                                  try clear c42
                                  try clear c42b0
                                  try clear c43
                                  try clear c43b0
                                  try clear c44
                                  try clear c44b0
                                  try clear hcz37_0
                                  try clear hcz37_1
                                  try clear hcz37_2
                                  try clear hcz37_3
                                  try clear hcz9_0
                                  try clear hcz9_1
                                  try clear hcz9_2
                                  try clear hcz9_3
                                  try clear hfz37_0
                                  try clear hfz37_1
                                  try clear hfz37_2
                                  try clear hfz37_3
                                  try clear hfz9_0
                                  try clear hfz9_1
                                  try clear hfz9_2
                                  try clear hfz9_3
                                  try clear hx110_0
                                  try clear hx114_0
                                  try clear hx117_0
                                  try clear hx118_0
                                  try clear hx122_0
                                  try clear hx25_0
                                  try clear hx27_0
                                  try clear p1
                                  try clear p11
                                  try clear p110
                                  try clear p114
                                  try clear p117
                                  try clear p118
                                  try clear p122
                                  try clear p2
                                  try clear p25
                                  try clear p27
                                  try clear p6
                                  try clear q1
                                  try clear q11
                                  try clear q110
                                  try clear q114
                                  try clear q117
                                  try clear q118
                                  try clear q122
                                  try clear q2
                                  try clear q25
                                  try clear q27
                                  obtain ⟨x16_4, x17_4, rfl, rfl, HA, HK4, HO_8, HO_9, HO_14, BK101, HB⟩ := hrel
                                  cases gk with
                                  | zero => exact absurd HA.out (by simp [spec_RibbonOf.l3])
                                  | succ k4 =>
                                    have H := HA.out
                                    clear HA
                                    simp only [spec_RibbonOf.l3] at H
                                    by_cases c46 : x17_4 < 16
                                    · rw [if_pos c46] at H
                                      have c46b0 : decide (x17_4 < 16) = true := decide_eq_true c46
                                      clear c46
                                      by_cases c47 : 0 ≤ x15_3
                                      · rw [if_pos c47] at H
                                        have c47b0 : decide (0 ≤ x15_3) = true := decide_eq_true c47
                                        clear c47
                                        by_cases c48 : x15_3 < (x8_2.length : Int)
                                        · rw [if_pos c48] at H
                                          have c48b0 : decide (x15_3 < (x8_2.length : Int)) = true := decide_eq_true c48
                                          clear c48
                                          obtain ⟨ji49, hji49⟩ : ∃ j_ : Int, (IntKind.u64.wrap (x17_4)) = j_ := ⟨_, rfl⟩
                                          replace H : (if 0 ≤ (ji49) then (if (Int.tmod (shr .u64 (rd x8_2 x15_3) (ji49)) 2) = 1 then (if 0 ≤ (wrap64 (x15_3 + x17_4)) then (if (wrap64 (x15_3 + x17_4)) < (x14_3.length : Int) then (spec_RibbonOf.l3 k4 a1 x8_2 x9_2 x14_3 x15_3 (Go.bits .xor .u64 x16_4 (IntKind.u64.wrap (rd x14_3 (wrap64 (x15_3 + x17_4))))) (wrap64 (x17_4 + 1))) else (none)) else (none)) else (spec_RibbonOf.l3 k4 a1 x8_2 x9_2 x14_3 x15_3 x16_4 (wrap64 (x17_4 + 1)))) else (none)) = some (r1, r2, r3, r4, r5) := by first | (rw [hji49] at H; exact H) | (simp only [hji49] at H ⊢; exact H)
                                          by_cases c50 : 0 ≤ (ji49)
                                          · rw [if_pos c50] at H
                                            have c50b0 := eq_true c50
                                            have c50b1 : decide (0 ≤ (ji49)) = true := decide_eq_true c50
                                            clear c50
                                            obtain ⟨ji51, hji51⟩ : ∃ j_ : Int, (shr .u64 (rd x8_2 x15_3) (ji49)) = j_ := ⟨_, rfl⟩
                                            replace H : (if (Int.tmod (ji51) 2) = 1 then (if 0 ≤ (wrap64 (x15_3 + x17_4)) then (if (wrap64 (x15_3 + x17_4)) < (x14_3.length : Int) then (spec_RibbonOf.l3 k4 a1 x8_2 x9_2 x14_3 x15_3 (Go.bits .xor .u64 x16_4 (IntKind.u64.wrap (rd x14_3 (wrap64 (x15_3 + x17_4))))) (wrap64 (x17_4 + 1))) else (none)) else (none)) else (spec_RibbonOf.l3 k4 a1 x8_2 x9_2 x14_3 x15_3 x16_4 (wrap64 (x17_4 + 1)))) = some (r1, r2, r3, r4, r5) := by first | (rw [hji51] at H; exact H) | (simp only [hji51] at H ⊢; exact H)
                                            have hji51_ : ((rd x8_2 x15_3) / 2 ^ min (ji49).toNat 64) = ji51 := hji51
                                            have hji51z : (ji49) ≤ 64 → ((rd x8_2 x15_3) / 2 ^ (ji49).toNat) = ji51 := shr_small hji51
                                            by_cases c52 : (Int.tmod (ji51) 2) = 1
                                            · rw [if_pos c52] at H
                                              have c52b0 : ((Int.tmod (ji51) 2) == 1) = true := beq_iff_eq.mpr c52
                                              have c52b1 : ((Int.tmod (ji51) 2) != 1) = false := bne_eq_false_iff_eq.mpr c52
                                              clear c52
                                              obtain ⟨ji53, hji53⟩ : ∃ j_ : Int, (wrap64 (x15_3 + x17_4)) = j_ := ⟨_, rfl⟩
                                              replace H : (if 0 ≤ (ji53) then (if (ji53) < (x14_3.length : Int) then (spec_RibbonOf.l3 k4 a1 x8_2 x9_2 x14_3 x15_3 (Go.bits .xor .u64 x16_4 (IntKind.u64.wrap (rd x14_3 (ji53)))) (wrap64 (x17_4 + 1))) else (none)) else (none)) = some (r1, r2, r3, r4, r5) := by first | (rw [hji53] at H; exact H) | (simp only [hji53] at H ⊢; exact H)
                                              have hji53w : (IntKind.i64.wrap (x15_3 + x17_4)) = ji53 := (i64_w _).trans hji53
                                              by_cases c54 : 0 ≤ (ji53)
                                              · rw [if_pos c54] at H
                                                have c54b0 : decide (0 ≤ (ji53)) = true := decide_eq_true c54
                                                clear c54
                                                by_cases c55 : (ji53) < (x14_3.length : Int)
                                                · rw [if_pos c55] at H
                                                  have c55b0 : decide ((ji53) < (x14_3.length : Int)) = true := decide_eq_true c55
                                                  clear c55
                                                  have H' := Aside0.mk H
                                                  clear H
                                                  obtain ⟨Ao56, co56, eo56⟩ := Kd.R_slice HO_8.out
                                                  subst eo56
                                                  have p123 : 0 ≤ (x15_3 : Int) := of_decide_eq_true (by first | (with_reducible assumption) | assumption)
                                                  have q123 : x15_3 < (x8_2.length : Int) := of_decide_eq_true (by first | (with_reducible assumption) | assumption)
                                                  obtain ⟨ad123, e123, hx123_0⟩ := Kd.at_int (Kd.R_reads' HO_8.out).2.2 x15_3 p123 q123
                                                  cases e123
                                                  replace p123 := eq_true p123
                                                  replace q123 := eq_true q123
                                                  obtain ⟨Ao57, co57, eo57⟩ := Kd.R_slice HO_14.out
                                                  subst eo57
                                                  have p124 : 0 ≤ ((ji53) : Int) := of_decide_eq_true (by first | (with_reducible assumption) | assumption)
                                                  have q124 : (ji53) < (x14_3.length : Int) := of_decide_eq_true (by first | (with_reducible assumption) | assumption)
                                                  obtain ⟨ad124, e124, hx124_0⟩ := Kd.at_int (Kd.R_reads' HO_14.out).2.2 (ji53) p124 q124
                                                  cases e124
                                                  replace p124 := eq_true p124
                                                  replace q124 := eq_true q124
                                                  go_wp2
                                                  go_roundg k4
                                                  case measure => have := HJ2.out; have := HK2.out; have := HK3.out; have := HK4.out; omega
                                                  case rel => exact ⟨(Go.bits .xor .u64 x16_4 (IntKind.u64.wrap (rd x14_3 (ji53)))), (wrap64 (x17_4 + 1)), (by first | rfl | (simp; done) | (simp only [← hji53] <;> (first | rfl | simp)) | (simp [*]; done)), (by first | rfl | (simp; done) | (simp [*]; done)), H', ⟨by have := HJ2.out; have := HK2.out; have := HK3.out; have := HK4.out; omega⟩, ⟨by (with_reducible repeat (first | apply Kd.R_alloc | apply Kd.R_drewN | apply Kd.R_drew)); exact HO_8.out⟩, ⟨by (with_reducible repeat (first | apply Kd.R_alloc | apply Kd.R_drewN | apply Kd.R_drew)); exact HO_9.out⟩, ⟨by (with_reducible repeat (first | apply Kd.R_alloc | apply Kd.R_drewN | apply Kd.R_drew)); exact HO_14.out⟩, ⟨by (with_reducible repeat (first | refine blk_drewN ?_ _ | refine blk_drew ?_ | refine blk_alloc ?_ _)); exact BK101.out⟩, ⟨by repeat (first | (with_reducible first | exact HB.out | apply below_alloc | apply pw_below_drewN | apply below_drew1 | refine below_set ?_ GE101.out) | exact HB.out)⟩⟩
                                                · rw [if_neg c55] at H
                                                  exact absurd H (by simp)
                                              · rw [if_neg c54] at H
                                                exact absurd H (by simp)
                                            · rw [if_neg c52] at H
                                              have c52b0 : ((Int.tmod (ji51) 2) == 1) = false := beq_eq_false_iff_ne.mpr c52
                                              have c52b1 : ((Int.tmod (ji51) 2) != 1) = true := bne_iff_ne.mpr c52
                                              have H' := Aside0.mk H
                                              clear H
                                              obtain ⟨Ao58, co58, eo58⟩ := Kd.R_slice HO_8.out
                                              subst eo58
                                              have p123 : 0 ≤ (x15_3 : Int) := of_decide_eq_true (by first | (with_reducible assumption) | assumption)
                                              have q123 : x15_3 < (x8_2.length : Int) := of_decide_eq_true (by first | (with_reducible assumption) | assumption)
                                              obtain ⟨ad123, e123, hx123_0⟩ := Kd.at_int (Kd.R_reads' HO_8.out).2.2 x15_3 p123 q123
                                              cases e123
                                              replace p123 := eq_true p123
                                              replace q123 := eq_true q123
                                              go_wp2
                                              go_roundg k4
                                              case measure => have := HJ2.out; have := HK2.out; have := HK3.out; have := HK4.out; omega
                                              case rel => exact ⟨(x16_4), (wrap64 (x17_4 + 1)), (by first | rfl | (simp; done) | (simp [*]; done)), (by first | rfl | (simp; done) | (simp [*]; done)), H', ⟨by have := HJ2.out; have := HK2.out; have := HK3.out; have := HK4.out; omega⟩, ⟨by (with_reducible repeat (first | apply Kd.R_alloc | apply Kd.R_drewN | apply Kd.R_drew)); exact HO_8.out⟩, ⟨by (with_reducible repeat (first | apply Kd.R_alloc | apply Kd.R_drewN | apply Kd.R_drew)); exact HO_9.out⟩, ⟨by (with_reducible repeat (first | apply Kd.R_alloc | apply Kd.R_drewN | apply Kd.R_drew)); exact HO_14.out⟩, ⟨by (with_reducible repeat (first | refine blk_drewN ?_ _ | refine blk_drew ?_ | refine blk_alloc ?_ _)); exact BK101.out⟩, ⟨by repeat (first | (with_reducible first | exact HB.out | apply below_alloc | apply pw_below_drewN | apply below_drew1 | refine below_set ?_ GE101.out) | exact HB.out)⟩⟩
                                          · rw [if_neg c50] at H
                                            exact absurd H (by simp)
                                        · rw [if_neg c48] at H
                                          exact absurd H (by simp)
                                      · rw [if_neg c47] at H
                                        exact absurd H (by simp)
                                    · rw [if_neg c46] at H
                                      have c46b0 : decide (x17_4 < 16) = false := decide_eq_false c46
                                      clear c46
                                      by_cases c59 : 0 ≤ x15_3
                                      · rw [if_pos c59] at H
                                        have c59b0 : decide (0 ≤ x15_3) = true := decide_eq_true c59
                                        clear c59
                                        by_cases c60 : x15_3 < (x14_3.length : Int)
                                        · rw [if_pos c60] at H
                                          have c60b0 : decide (x15_3 < (x14_3.length : Int)) = true := decide_eq_true c60
                                          clear c60
                                          obtain ⟨y125, hy125⟩ : ∃ y_ : List Int, y_ = (x14_3.set (x15_3 : Int).toNat ((x16_4) % 256)) := ⟨_, rfl⟩
                                          replace H : (spec_RibbonOf.l2 k4 a1 x8_2 x9_2 y125 (wrap64 (x15_3 - 1))) = some (r1, r2, r3, r4, r5) := by first | (rw [hy125]; with_reducible exact H) | (have H2_ := (Option.bind_some _ _).symm.trans H; rw [hy125]; with_reducible exact H2_) | (have H2_ := (Option.bind_some _ _).symm.trans H; with_reducible exact H2_) | with_reducible exact H | (rw [hy125]; exact H) | exact H
                                          have Ny125 := Aside0.mk hy125
                                          clear hy125
                                          have H' := Aside0.mk H
                                          clear H
                                          have p61 : 0 ≤ (x15_3 : Int) := of_decide_eq_true (by first | (with_reducible assumption) | assumption)
                                          have q61 : (x15_3 : Int) < ((x14_3.length : Int) : Int) := of_decide_eq_true (by first | (with_reducible assumption) | assumption)
                                          obtain ⟨go61, co61, eo61, gb61, gl61, cl61, HG61⟩ := Kd.R_form HO_14.out (by omega)
                                          (first | cases eo61 | (injection eo61 with ea_ en_ ec_; (first | subst ea_ | (injection ea_ with ea_; subst ea_)); subst ec_; clear en_))
                                          have GB61 := Aside0.mk gb61
                                          have GG61 := Aside0.mk HG61
                                          clear gb61 gl61 HG61
                                          obtain ⟨hx61_0, hf61_0⟩ := Kd.R_celln 0 HO_14.out (x15_3 : Int) p61 q61
                                          replace p61 := eq_true p61
                                          replace q61 := eq_true q61
                                          have HP62 := Kd.R_putg HO_14.out (x15_3 : Int) ((x16_4) % 256)
                                          go_wp2_with (first | ((with_reducible refine gate_store (t := 5) (p := 130) rfl ?_); refine store_event (t := 5) (p := 130) (v := ?vo_w63) (w1 := (wr.setCell ⟨go61, (x15_3 : Int).toNat, none⟩ (.int .u8 ((x16_4) % 256)))) ?hg ?ho ?hn ?hr ?_; (case ho => rfl); (case hg => rfl); (case hn => rfl); (case hr => first | (go_simp; done) | (go_simp; rfl)); intro w63 hw; have hg : wr.grownBy w63 (some go61) := (by rw [hw]; exact HP62.2); have hp_ : Kd.R (Kd.int .u8) 5 w63 w.heap.size (fun _ => True) (.slice (some ⟨go61, 0, none⟩) x14_3.length co61) y125 := (by rw [hw, Ny125.out]; exact HP62.1); clear HP62; have n0_ := Aside0.mk (Kd.R_over' (v := (.slice (some ⟨go61, 0, none⟩) x14_3.length co61)) (by (with_reducible repeat (first | apply Kd.R_alloc | apply Kd.R_drewN | apply Kd.R_drew)); exact HO_8.out) (Kd.R_typed HO_14.out) (by decide) hg); have n1_ := Aside0.mk (Kd.R_over' (v := (.slice (some ⟨go61, 0, none⟩) x14_3.length co61)) (by (with_reducible repeat (first | apply Kd.R_alloc | apply Kd.R_drewN | apply Kd.R_drew)); exact HO_9.out) (Kd.R_typed HO_14.out) (by decide) hg); have n2_ := Aside0.mk (hp_); have n3_ := Aside0.mk (blk_grown (g := gb101) (o := .cells #[.int .i64 x102000_2, .int .i64 x102001_2, .int .i64 x102002_2, .string x102003_2] 46 (0, 0)) (by (with_reducible repeat (first | refine blk_drewN ?_ _ | refine blk_drew ?_ | refine blk_alloc ?_ _)); exact BK101.out) hg (Kd.R_ne HO_14.out BK101.out (by decide))); have n4_ := Aside0.mk ((by rw [hw]; exact below_set (HB.out) GB61.out : Below w.heap.size w w63)); clear HO_8; clear HO_9; clear HO_14; clear BK101; clear HB; have HO_8 := n0_; have HO_9 := n1_; have HO_14 := n2_; have BK101 := n3_; have HB := n4_; clear n0_ n1_ n2_ n3_ n4_; clear hg hw hp_))
                                          go_roundg k4
                                          case measure => have := HJ2.out; have := HK2.out; have := HK3.out; have := HK4.out; omega
                                          case rel => exact ⟨(y125), (wrap64 (x15_3 - 1)), (by first | rfl | (simp; done) | (simp [*]; done)), H', ⟨by have := HJ2.out; have := HK2.out; have := HK3.out; have := HK4.out; omega⟩, ⟨by (with_reducible repeat (first | apply Kd.R_alloc | apply Kd.R_drewN | apply Kd.R_drew)); exact HO_8.out⟩, ⟨by (with_reducible repeat (first | apply Kd.R_alloc | apply Kd.R_drewN | apply Kd.R_drew)); exact HO_9.out⟩, ⟨by (with_reducible repeat (first | apply Kd.R_alloc | apply Kd.R_drewN | apply Kd.R_drew)); exact HO_14.out⟩, ⟨by (with_reducible repeat (first | refine blk_drewN ?_ _ | refine blk_drew ?_ | refine blk_alloc ?_ _)); exact BK101.out⟩, ⟨by repeat (first | (with_reducible first | exact HB.out | apply below_alloc | apply pw_below_drewN | apply below_drew1 | refine below_set ?_ GE101.out) | exact HB.out)⟩⟩
                                        · rw [if_neg c60] at H
                                          exact absurd H (by simp)
                                      · rw [if_neg c59] at H
                                        exact absurd H (by simp)
                              · rw [if_neg c44] at H
                                exact absurd H (by simp)
                            · rw [if_neg c43] at H
                              exact absurd H (by simp)
                          · rw [if_neg c42] at H
                            have c42b0 : decide (0 ≤ x15_3) = false := decide_eq_false c42
                            clear c42
                            simp only [Option.some.injEq, Prod.mk.injEq] at H
                            obtain ⟨rfl, rfl, rfl, rfl, rfl⟩ := H
                            have hcv64 := own_string (P := Try.prog) Try.underlying51 Try.underlying5 Try.underlying9 (Kd.own_of_R HO_14.out)
                            have hcz65_0 : wr.cell? ⟨gb101, 0, none⟩ = some (.int .i64 x102000_2) := (blk_cell BK101.out 0).trans rfl
                            have hcz65_1 : wr.cell? ⟨gb101, 1, none⟩ = some (.int .i64 x102001_2) := (blk_cell BK101.out 1).trans rfl
                            have hcz65_2 : wr.cell? ⟨gb101, 2, none⟩ = some (.int .i64 x102002_2) := (blk_cell BK101.out 2).trans rfl
                            have hcz65_3 : wr.cell? ⟨gb101, 3, none⟩ = some (.string x102003_2) := (blk_cell BK101.out 3).trans rfl
                            have hfz65_0 := blk_frozen BK101.out 0
                            have hfz65_1 := blk_frozen BK101.out 1
                            have hfz65_2 := blk_frozen BK101.out 2
                            have hfz65_3 := blk_frozen BK101.out 3
                            go_wp2
                            refine bodyPost_ret (results_ct rfl _ _ gb101 46 #[.int .i64 2, .int .i64 a1, .int .i64 0, .string (strOfNums x14_3)] (0, 0) _ rfl (by (with_reducible repeat (first | refine blk_drewN ?_ _ | refine blk_drew ?_ | refine blk_alloc ?_ _)); refine blk_put (cs := #[.int .i64 2, .int .i64 a1, .int .i64 0, .string x102003_2]) ?_ 3 _ rfl; (with_reducible repeat (first | refine blk_drewN ?_ _ | refine blk_drew ?_ | refine blk_alloc ?_ _)); refine blk_put (cs := #[.int .i64 2, .int .i64 a1, .int .i64 x102002_2, .string x102003_2]) ?_ 2 _ rfl; (with_reducible repeat (first | refine blk_drewN ?_ _ | refine blk_drew ?_ | refine blk_alloc ?_ _)); refine blk_put (cs := #[.int .i64 2, .int .i64 x102001_2, .int .i64 x102002_2, .string x102003_2]) ?_ 1 _ rfl; (with_reducible repeat (first | refine blk_drewN ?_ _ | refine blk_drew ?_ | refine blk_alloc ?_ _)); refine blk_put (cs := #[.int .i64 x102000_2, .int .i64 x102001_2, .int .i64 x102002_2, .string x102003_2]) ?_ 0 _ rfl; (with_reducible repeat (first | refine blk_drewN ?_ _ | refine blk_drew ?_ | refine blk_alloc ?_ _)); exact BK101.out) Try.underlying46 rfl (by kernel_rfl)) rfl ?_
                            exact ⟨by first | rfl | (simp [errW_none, errW_some] <;> rfl) | (simp only [← hji10]; first | rfl | (simp [errW_none, errW_some] <;> rfl)) | (simp [*, errW_none, errW_some] <;> rfl), by repeat (first | (with_reducible first | exact HB.out | apply below_alloc | apply pw_below_drewN | apply below_drew1 | refine below_set ?_ GE101.out) | exact HB.out)⟩
                    · rw [if_neg c39] at H
                      exact absurd H (by simp)
                  · rw [if_neg c38] at H
                    exact absurd H (by simp)
          · rw [if_neg c12] at H
            exact absurd H (by simp)
        · rw [if_neg c11] at H
          exact absurd H (by simp)
def spec_l3Place.f (k : Nat) (a0 : ByteArray) (a1 : Int) (a2 : Int) : Option (Int) := (spec_Hash.f k 0 a0).bind fun t101 => (if a2 = 0 then (none) else (some (Int.tmod (IntKind.u64.wrap (t101 + (IntKind.u64.wrap ((IntKind.u64.wrap (a1)) * (Go.bits .or .u64 (t101 / 8589934592) (IntKind.u64.wrap (t101 * 2147483648))))))) a2)))
set_option maxHeartbeats 8000000 in
set_option maxRecDepth 100000 in
theorem spec_l3Place.calls (k : Nat) (a0 : ByteArray) (a1 : Int) (a2 : Int) (r : Int) (w : World) (h : spec_l3Place.f k a0 a1 a2 = some r) :
    Calls Try.prog 132 #[.string a0, .int .i64 a1, .int .u64 a2] w fun e w' => e = .returned (.int .u64 r) ∧ Drawn0 w w' := by
  have H : ((spec_Hash.f k 0 a0).bind fun t101 => (if a2 = 0 then (none) else (some (Int.tmod (IntKind.u64.wrap (t101 + (IntKind.u64.wrap ((IntKind.u64.wrap (a1)) * (Go.bits .or .u64 (t101 / 8589934592) (IntKind.u64.wrap (t101 * 2147483648))))))) a2)))) = some r := h
  clear h
  replace H := Option.bind_eq_some_iff.mp H
  obtain ⟨t101, A40, H⟩ := H
  replace H : (if a2 = 0 then (none) else (some (Int.tmod (IntKind.u64.wrap (t101 + (IntKind.u64.wrap ((IntKind.u64.wrap (a1)) * (Go.bits .or .u64 (t101 / 8589934592) (IntKind.u64.wrap (t101 * 2147483648))))))) a2))) = some r := H
  have A4 := Aside0.mk A40
  clear A40
  by_cases c5 : a2 = 0
  · rw [if_pos c5] at H
    exact absurd H (by simp)
  · rw [if_neg c5] at H
    have c5b0 : (a2 == 0) = false := beq_eq_false_iff_ne.mpr c5
    have c5b1 : (a2 != 0) = true := bne_iff_ne.mpr c5
    obtain rfl := Option.some.inj H
    go_enter Try.func132, Try.ntmps132
    go_wp2_with (first | ((with_reducible refine gate_callee (f := 138) rfl ?_); refine goesL_ (some 9) rfl rfl Try.func138 (by kernel_rfl) rfl #[.int .u32 0, .string a0] rfl (by (try simp only [List.map_toArray, List.map_cons, List.map_nil]); first | done | rfl | (simp only [List.length_drop, List.length_take]; rfl) | (rw [IntWalk.u64_in _ (by omega)] <;> rfl)) ?_; (with_reducible refine (spec_Hash.calls k 0 a0 t101 _ A4.out).mono ?_); rintro e w' ⟨rfl, ⟨nd, rfl⟩⟩; refine ⟨_, rfl, ?_⟩))
    go_ret
    exact ⟨by first | rfl | (simp; done) | (simp [*]; done), by repeat (first | exact Drawn0.refl _ | apply Drawn0.step)⟩
mutual
def spec_BloomOf.j0 : Nat → List ByteArray → Int → Bool → Option (Int × Int × Int × ByteArray × Bool)
  | 0, _, _, _ => none
  | k + 1, x0, x1, x19 => if x19 = true then (some (0, 0, 0, (⟨#[]⟩ : ByteArray), false)) else (if 0 ≤ (wrap64 (Int.tdiv (wrap64 ((mx 64 (wrap64 ((x0.length : Int) * x1))) + 7)) 8)) then (if (wrap64 (Int.tdiv (wrap64 ((mx 64 (wrap64 ((x0.length : Int) * x1))) + 7)) 8) : Int).toNat ≤ 281474976710656 then (spec_BloomOf.l0 k x0 (wrap64 (Int.tdiv (wrap64 ((mx 64 (wrap64 ((x0.length : Int) * x1))) + 7)) 8)) (mn (mx 1 (wrap64 (Int.tdiv (wrap64 (x1 * 69)) 100))) 30) (List.replicate (wrap64 (Int.tdiv (wrap64 ((mx 64 (wrap64 ((x0.length : Int) * x1))) + 7)) 8) : Int).toNat 0) 0) else (none)) else (none))
def spec_BloomOf.l0 : Nat → List ByteArray → Int → Int → List Int → Int → Option (Int × Int × Int × ByteArray × Bool)
  | 0, _, _, _, _, _ => none
  | k + 1, x0, x6, x7, x8, x9 => if x9 < (x0.length : Int) then (spec_BloomOf.l1 k x0 x6 x7 x8 x9 0) else (some (1, 0, x7, strOfNums x8, true))
def spec_BloomOf.l1 : Nat → List ByteArray → Int → Int → List Int → Int → Int → Option (Int × Int × Int × ByteArray × Bool)
  | 0, _, _, _, _, _, _ => none
  | k + 1, x0, x6, x7, x8, x9, x10 => if x10 < x7 then (if 0 ≤ x9 then (if x9 < (x0.length : Int) then ((spec_l3Place.f k (rdOf ByteArray.empty x0 x9) x10 (IntKind.u64.wrap (wrap64 (8 * x6)))).bind fun t108 => (if 0 ≤ (IntKind.u64.wrap (Int.tdiv t108 8)) then (if (IntKind.u64.wrap (Int.tdiv t108 8)) < (x8.length : Int) then (if 0 ≤ (Int.tmod t108 8) then (spec_BloomOf.l1 k x0 x6 x7 (x8.set ((IntKind.u64.wrap (Int.tdiv t108 8)) : Int).toNat (Go.bits .or .u8 (rd x8 (IntKind.u64.wrap (Int.tdiv t108 8))) (shl .u8 1 (Int.tmod t108 8)))) x9 (wrap64 (x10 + 1))) else (none)) else (none)) else (none))) else (none)) else (none)) else (spec_BloomOf.l0 k x0 x6 x7 x8 (wrap64 (x9 + 1)))
end
def spec_BloomOf.f (k : Nat) (l0 : List ByteArray) (a1 : Int) : Option (Int × Int × Int × ByteArray × Bool) := (spec_UsersOk.f k l0).bind fun t102 => (if t102 = true then ((spec_l1In.f a1 1 20).bind fun t103 => (spec_BloomOf.j0 k l0 a1 (!t103))) else (spec_BloomOf.j0 k l0 a1 true))
set_option maxHeartbeats 8000000 in
set_option maxRecDepth 100000 in
theorem spec_BloomOf.calls (k : Nat) (A0 : Option Addr) (c0 : Nat) (l0 : List ByteArray) (a1 : Int) (r1 : Int) (r2 : Int) (r3 : Int) (r4 : ByteArray) (r5 : Bool) (w : World) (hr0 : Kd.C Kd.string w A0 l0.length l0) (hc0 : l0.length ≤ c0) (h : spec_BloomOf.f k l0 a1 = some (r1, r2, r3, r4, r5)) :
    Calls Try.prog 103 #[.slice A0 l0.length c0, .int .i64 a1] w fun e w' => e = .returned (.tuple #[.agg #[.int .i64 r1, .int .i64 r2, .int .i64 r3, .string r4], .bool r5]) ∧ Below w.heap.size w w' := by
  have hu46 := Try.underlying46
  have HR0 := Aside0.mk hr0
  have HC0 := Aside0.mk hc0
  clear hr0 hc0
  have HB := Aside0.mk (Below.refl w.heap.size w)
  have H : ((spec_UsersOk.f k l0).bind fun t102 => (if t102 = true then ((spec_l1In.f a1 1 20).bind fun t103 => (spec_BloomOf.j0 k l0 a1 (!t103))) else (spec_BloomOf.j0 k l0 a1 true))) = some (r1, r2, r3, r4, r5) := h
  clear h
  have HC3 := Aside0.mk H
  clear H
  go_enter Try.func103, Try.ntmps103
  go_upto_region 1 with (first | ((with_reducible refine gate_dst (N := 4) rfl ?_); refine box_event ?hg (N := 4) ?hd (cs := #[.int .i64 0, .int .i64 0, .int .i64 0, .string (⟨#[]⟩ : ByteArray)]) (t := 46) ?hr ?_; (case hd => rfl); (case hg => rfl); (case hr => first | (go_simp; done) | (go_simp; rfl)); intro gb101 hg w4 hbox hb; have n0_ := Aside0.mk (below_step (by repeat (first | (with_reducible first | exact HB.out | apply below_alloc | apply pw_below_drewN | apply below_drew1) | exact HB.out)) hb); have n1_ := Aside0.mk (hbox); have n2_ := Aside0.mk ((by rw [hg]; exact (below_size (by repeat (first | (with_reducible first | exact HB.out | apply below_alloc | apply pw_below_drewN | apply below_drew1) | exact HB.out))) : w.heap.size ≤ gb101)); have n3_ := Aside0.mk ((by rw [hg]; exact (below_size (by repeat (first | (with_reducible first | exact HB.out | apply below_alloc | apply pw_below_drewN | apply below_drew1) | exact HB.out))) : w.heap.size ≤ gb101)); clear HB; have HB := n0_; have BK101 := n1_; have GW101 := n2_; have GE101 := n3_; clear n0_ n1_ n2_ n3_; clear hb hbox hg))
  (try simp only [Act.put, List.setIfInBounds_toArray, List.set_cons_zero, List.set_cons_succ])
  go_cut [19] (fun v19 wc => ∃ (kq : Nat) (x19_2 : Bool), v19 = .bool x19_2 ∧ Aside0 (spec_BloomOf.j0 kq l0 a1 x19_2 = some (r1, r2, r3, r4, r5)) ∧ Aside0 (kq ≤ k) ∧ Aside0 (wc.heap[gb101]? = some (.cells #[.int .i64 0, .int .i64 0, .int .i64 0, .string (⟨#[]⟩ : ByteArray)] 46 (0, 0))) ∧ Aside0 (Below w.heap.size w wc))
  case first =>
    have H := HC3.out
    clear HC3
    replace H := Option.bind_eq_some_iff.mp H
    obtain ⟨t102, A50, H⟩ := H
    replace H : (if t102 = true then ((spec_l1In.f a1 1 20).bind fun t103 => (spec_BloomOf.j0 k l0 a1 (!t103))) else (spec_BloomOf.j0 k l0 a1 true)) = some (r1, r2, r3, r4, r5) := H
    have A5 := Aside0.mk A50
    clear A50
    by_cases c6 : t102 = true
    · subst c6
      have H1 : ((spec_l1In.f a1 1 20).bind fun t103 => (spec_BloomOf.j0 k l0 a1 (!t103))) = some (r1, r2, r3, r4, r5) := by rw [if_pos rfl] at H; exact H
      clear H
      have H := H1
      clear H1
      replace H := Option.bind_eq_some_iff.mp H
      obtain ⟨t103, A70, H⟩ := H
      replace H : (spec_BloomOf.j0 k l0 a1 (!t103)) = some (r1, r2, r3, r4, r5) := H
      have A7 := Aside0.mk A70
      clear A70
      have H' := Aside0.mk H
      clear H
      go_wp2_with (first | ((with_reducible refine gate_callee (f := 101) rfl ?_); refine goesL_ (some 13) rfl rfl Try.func101 (by kernel_rfl) rfl #[.slice A0 l0.length c0] rfl (by (try simp only [List.map_toArray, List.map_cons, List.map_nil]); first | done | rfl | (simp only [List.length_drop, List.length_take]; rfl) | (rw [IntWalk.u64_in _ (by omega)] <;> rfl)) ?_; (with_reducible refine (spec_UsersOk.calls k _ _ l0 true _ ?side1 ?side2 A5.out).mono ?_); (case side1 => repeat (first | exact (Kd.C_below HR0.out HB.out) | (with_reducible refine Kd.C_alloc ?_ _) | (with_reducible refine Kd.C_drewN ?_ _) | (with_reducible refine Kd.C_drew ?_))); (case side2 => exact HC0.out); rintro e w' ⟨rfl, ⟨nd, rfl⟩⟩; refine ⟨_, rfl, ?_⟩) | (go_at_call 61; (with_reducible refine (spec_l1In.calls a1 1 20 t103 _ A7.out).mono ?_); rintro e w' ⟨rfl, ⟨nd, rfl⟩⟩))
      go_meet
      case rel => exact ⟨_, (!t103), (by first | rfl | (simp; done) | (simp [*]; done)), H', ⟨by first | omega | exact Nat.le_refl _⟩, ⟨by (with_reducible repeat (first | refine blk_drewN ?_ _ | refine blk_drew ?_ | refine blk_alloc ?_ _)); exact BK101.out⟩, ⟨by repeat (first | (with_reducible first | exact HB.out | apply below_alloc | apply pw_below_drewN | apply below_drew1 | refine below_set ?_ GE101.out) | exact HB.out)⟩⟩
    · replace c6 := Bool.eq_false_iff.mpr c6
      subst c6
      have H1 : (spec_BloomOf.j0 k l0 a1 true) = some (r1, r2, r3, r4, r5) := by rw [if_neg (show ¬ (false = true) by decide)] at H; exact H
      clear H
      have H := H1
      clear H1
      have H' := Aside0.mk H
      clear H
      go_wp2_with (first | ((with_reducible refine gate_callee (f := 101) rfl ?_); refine goesL_ (some 13) rfl rfl Try.func101 (by kernel_rfl) rfl #[.slice A0 l0.length c0] rfl (by (try simp only [List.map_toArray, List.map_cons, List.map_nil]); first | done | rfl | (simp only [List.length_drop, List.length_take]; rfl) | (rw [IntWalk.u64_in _ (by omega)] <;> rfl)) ?_; (with_reducible refine (spec_UsersOk.calls k _ _ l0 false _ ?side1 ?side2 A5.out).mono ?_); (case side1 => repeat (first | exact (Kd.C_below HR0.out HB.out) | (with_reducible refine Kd.C_alloc ?_ _) | (with_reducible refine Kd.C_drewN ?_ _) | (with_reducible refine Kd.C_drew ?_))); (case side2 => exact HC0.out); rintro e w' ⟨rfl, ⟨nd, rfl⟩⟩; refine ⟨_, rfl, ?_⟩))
      go_meet
      case rel => exact ⟨_, (true), (by first | rfl | (simp; done) | (simp [*]; done)), H', ⟨by first | omega | exact Nat.le_refl _⟩, ⟨by (with_reducible repeat (first | refine blk_drewN ?_ _ | refine blk_drew ?_ | refine blk_alloc ?_ _)); exact BK101.out⟩, ⟨by repeat (first | (with_reducible first | exact HB.out | apply below_alloc | apply pw_below_drewN | apply below_drew1 | refine below_set ?_ GE101.out) | exact HB.out)⟩⟩
  case rest =>
    clear HC3
    try clear c1
    try clear p2
    try clear c6
    obtain ⟨kq, x19_2, rfl, HA, HJ2, BK101, HB⟩ := hcut
    cases kq with
    | zero => exact absurd HA.out (by simp [spec_BloomOf.j0])
    | succ kj2 =>
      have H := HA.out
      clear HA
      simp only [spec_BloomOf.j0] at H
      by_cases c8 : x19_2 = true
      · subst c8
        have H1 : (some (0, 0, 0, (⟨#[]⟩ : ByteArray), false)) = some (r1, r2, r3, r4, r5) := by rw [if_pos rfl] at H; exact H
        clear H
        have H := H1
        clear H1
        simp only [Option.some.injEq, Prod.mk.injEq] at H
        obtain ⟨rfl, rfl, rfl, rfl, rfl⟩ := H
        have hcz9_0 : wc.cell? ⟨gb101, 0, none⟩ = some (.int .i64 0) := (blk_cell BK101.out 0).trans rfl
        have hcz9_1 : wc.cell? ⟨gb101, 1, none⟩ = some (.int .i64 0) := (blk_cell BK101.out 1).trans rfl
        have hcz9_2 : wc.cell? ⟨gb101, 2, none⟩ = some (.int .i64 0) := (blk_cell BK101.out 2).trans rfl
        have hcz9_3 : wc.cell? ⟨gb101, 3, none⟩ = some (.string (⟨#[]⟩ : ByteArray)) := (blk_cell BK101.out 3).trans rfl
        have hfz9_0 := blk_frozen BK101.out 0
        have hfz9_1 := blk_frozen BK101.out 1
        have hfz9_2 := blk_frozen BK101.out 2
        have hfz9_3 := blk_frozen BK101.out 3
        go_wp2
        refine bodyPost_ret (results_ct rfl _ _ gb101 46 #[.int .i64 0, .int .i64 0, .int .i64 0, .string (⟨#[]⟩ : ByteArray)] (0, 0) _ rfl (by (with_reducible repeat (first | refine blk_drewN ?_ _ | refine blk_drew ?_ | refine blk_alloc ?_ _)); refine blk_put (cs := #[.int .i64 0, .int .i64 0, .int .i64 0, .string (⟨#[]⟩ : ByteArray)]) ?_ 3 _ rfl; (with_reducible repeat (first | refine blk_drewN ?_ _ | refine blk_drew ?_ | refine blk_alloc ?_ _)); refine blk_put (cs := #[.int .i64 0, .int .i64 0, .int .i64 0, .string (⟨#[]⟩ : ByteArray)]) ?_ 2 _ rfl; (with_reducible repeat (first | refine blk_drewN ?_ _ | refine blk_drew ?_ | refine blk_alloc ?_ _)); refine blk_put (cs := #[.int .i64 0, .int .i64 0, .int .i64 0, .string (⟨#[]⟩ : ByteArray)]) ?_ 1 _ rfl; (with_reducible repeat (first | refine blk_drewN ?_ _ | refine blk_drew ?_ | refine blk_alloc ?_ _)); refine blk_put (cs := #[.int .i64 0, .int .i64 0, .int .i64 0, .string (⟨#[]⟩ : ByteArray)]) ?_ 0 _ rfl; (with_reducible repeat (first | refine blk_drewN ?_ _ | refine blk_drew ?_ | refine blk_alloc ?_ _)); exact BK101.out) Try.underlying46 rfl (by kernel_rfl)) rfl ?_
        exact ⟨by first | rfl | (simp [errW_none, errW_some] <;> rfl) | (simp [*, errW_none, errW_some] <;> rfl), by repeat (first | (with_reducible first | exact HB.out | apply below_alloc | apply pw_below_drewN | apply below_drew1 | refine below_set ?_ GE101.out) | exact HB.out)⟩
      · replace c8 := Bool.eq_false_iff.mpr c8
        subst c8
        have H1 : (if 0 ≤ (wrap64 (Int.tdiv (wrap64 ((mx 64 (wrap64 ((l0.length : Int) * a1))) + 7)) 8)) then (if (wrap64 (Int.tdiv (wrap64 ((mx 64 (wrap64 ((l0.length : Int) * a1))) + 7)) 8) : Int).toNat ≤ 281474976710656 then (spec_BloomOf.l0 kj2 l0 (wrap64 (Int.tdiv (wrap64 ((mx 64 (wrap64 ((l0.length : Int) * a1))) + 7)) 8)) (mn (mx 1 (wrap64 (Int.tdiv (wrap64 (a1 * 69)) 100))) 30) (List.replicate (wrap64 (Int.tdiv (wrap64 ((mx 64 (wrap64 ((l0.length : Int) * a1))) + 7)) 8) : Int).toNat 0) 0) else (none)) else (none)) = some (r1, r2, r3, r4, r5) := by rw [if_neg (show ¬ (false = true) by decide)] at H; exact H
        clear H
        have H := H1
        clear H1
        obtain ⟨ji10, hji10⟩ : ∃ j_ : Int, (mx 64 (wrap64 ((l0.length : Int) * a1))) = j_ := ⟨_, rfl⟩
        replace H : (if 0 ≤ (wrap64 (Int.tdiv (wrap64 ((ji10) + 7)) 8)) then (if (wrap64 (Int.tdiv (wrap64 ((ji10) + 7)) 8) : Int).toNat ≤ 281474976710656 then (spec_BloomOf.l0 kj2 l0 (wrap64 (Int.tdiv (wrap64 ((ji10) + 7)) 8)) (mn (mx 1 (wrap64 (Int.tdiv (wrap64 (a1 * 69)) 100))) 30) (List.replicate (wrap64 (Int.tdiv (wrap64 ((ji10) + 7)) 8) : Int).toNat 0) 0) else (none)) else (none)) = some (r1, r2, r3, r4, r5) := by first | (rw [hji10] at H; exact H) | (simp only [hji10] at H ⊢; exact H)
        have hji10_ : (if 64 < (wrap64 ((l0.length : Int) * a1)) then (wrap64 ((l0.length : Int) * a1)) else 64) = ji10 := hji10
        obtain ⟨ji11, hji11⟩ : ∃ j_ : Int, (mx 1 (wrap64 (Int.tdiv (wrap64 (a1 * 69)) 100))) = j_ := ⟨_, rfl⟩
        replace H : (if 0 ≤ (wrap64 (Int.tdiv (wrap64 ((ji10) + 7)) 8)) then (if (wrap64 (Int.tdiv (wrap64 ((ji10) + 7)) 8) : Int).toNat ≤ 281474976710656 then (spec_BloomOf.l0 kj2 l0 (wrap64 (Int.tdiv (wrap64 ((ji10) + 7)) 8)) (mn (ji11) 30) (List.replicate (wrap64 (Int.tdiv (wrap64 ((ji10) + 7)) 8) : Int).toNat 0) 0) else (none)) else (none)) = some (r1, r2, r3, r4, r5) := by first | (rw [hji11] at H; exact H) | (simp only [hji11] at H ⊢; exact H)
        have hji11_ : (if 1 < (wrap64 (Int.tdiv (wrap64 (a1 * 69)) 100)) then (wrap64 (Int.tdiv (wrap64 (a1 * 69)) 100)) else 1) = ji11 := hji11
        obtain ⟨ji12, hji12⟩ : ∃ j_ : Int, (mn (ji11) 30) = j_ := ⟨_, rfl⟩
        replace H : (if 0 ≤ (wrap64 (Int.tdiv (wrap64 ((ji10) + 7)) 8)) then (if (wrap64 (Int.tdiv (wrap64 ((ji10) + 7)) 8) : Int).toNat ≤ 281474976710656 then (spec_BloomOf.l0 kj2 l0 (wrap64 (Int.tdiv (wrap64 ((ji10) + 7)) 8)) ji12 (List.replicate (wrap64 (Int.tdiv (wrap64 ((ji10) + 7)) 8) : Int).toNat 0) 0) else (none)) else (none)) = some (r1, r2, r3, r4, r5) := by first | (rw [hji12] at H; exact H) | (simp only [hji12] at H ⊢; exact H)
        have hji12_ : (if 30 < (ji11) then 30 else (ji11)) = ji12 := hji12
        obtain ⟨ji13, hji13⟩ : ∃ j_ : Int, (wrap64 (Int.tdiv (wrap64 ((ji10) + 7)) 8)) = j_ := ⟨_, rfl⟩
        replace H : (if 0 ≤ (ji13) then (if (ji13 : Int).toNat ≤ 281474976710656 then (spec_BloomOf.l0 kj2 l0 ji13 ji12 (List.replicate (ji13 : Int).toNat 0) 0) else (none)) else (none)) = some (r1, r2, r3, r4, r5) := by first | (rw [hji13] at H; exact H) | (simp only [hji13] at H ⊢; exact H)
        have hji13w : (IntKind.i64.wrap (Int.tdiv (wrap64 ((ji10) + 7)) 8)) = ji13 := (i64_w _).trans hji13
        by_cases c14 : 0 ≤ (ji13)
        · rw [if_pos c14] at H
          have c14b0 := eq_true c14
          have c14b1 : decide (0 ≤ (ji13)) = true := decide_eq_true c14
          clear c14
          by_cases c15 : (ji13 : Int).toNat ≤ 281474976710656
          · rw [if_pos c15] at H
            have c15b0 := eq_true c15
            have c15b1 : decide ((ji13 : Int).toNat ≤ 281474976710656) = true := decide_eq_true c15
            clear c15
            obtain ⟨y104, hy104⟩ : ∃ y_ : List Int, y_ = (List.replicate (ji13 : Int).toNat 0) := ⟨_, rfl⟩
            replace H : (spec_BloomOf.l0 kj2 l0 ji13 ji12 y104 0) = some (r1, r2, r3, r4, r5) := by first | (rw [hy104]; with_reducible exact H) | (have H2_ := (Option.bind_some _ _).symm.trans H; rw [hy104]; with_reducible exact H2_) | (have H2_ := (Option.bind_some _ _).symm.trans H; with_reducible exact H2_) | with_reducible exact H | (rw [hy104]; exact H) | exact H
            have Ny104 := Aside0.mk hy104
            clear hy104
            have H' := Aside0.mk H
            clear H
            go_wp2_with (first | ((with_reducible refine gate_dst (N := 34) rfl ?_); refine Kd.R_make (Kd.int .u8) _ 5 rfl (N := 34) rfl 51 _ _ rfl ji13 rfl rfl Try.underlying51 (.int .u8 0) 1 info5 rfl (by decide) (by omega) 0 (ok := fun _ => True) (okp := fun _ => True) rfl (fun _ hk => hk) trivial (of_decide_eq_true (by first | (with_reducible assumption) | assumption)) (Nat.le_trans (Nat.mul_le_mul_right _ (of_decide_eq_true (by first | (with_reducible assumption) | assumption) : ji13.toNat ≤ 281474976710656)) (by omega)) (Below.refl _ _) (Nat.le_refl _) ?_; intro v105 w16 ho17 hb hg_ hnew_; clear hg_ hnew_; (first | rw [← Ny104.out] at ho17 | (simp only [Int.reduceToNat] at ho17; rw [← Ny104.out] at ho17)); have n0_ := Aside0.mk (Kd.R_lower ho17 (below_size (by repeat (first | (with_reducible first | exact HB.out | apply below_alloc | apply pw_below_drewN | apply below_drew1 | refine below_set ?_ GE101.out) | exact HB.out)))); have n1_ := Aside0.mk (blk_below (g := gb101) (o := .cells #[.int .i64 0, .int .i64 0, .int .i64 0, .string (⟨#[]⟩ : ByteArray)] 46 (0, 0)) (by (with_reducible repeat (first | refine blk_drewN ?_ _ | refine blk_drew ?_ | refine blk_alloc ?_ _)); exact BK101.out) hb); have n2_ := Aside0.mk (below_step (by repeat (first | (with_reducible first | exact HB.out | apply below_alloc | apply pw_below_drewN | apply below_drew1 | refine below_set ?_ GE101.out) | exact HB.out)) hb); clear BK101; clear HB; have HO106 := n0_; have BK101 := n1_; have HB := n2_; clear n0_ n1_ n2_; clear hb ho17))
            go_loopg [9] kj2 (fun kq v9 w' => ∃ (x8_2 : List Int) (x9_2 : Int), v9 = .int .i64 x9_2 ∧ Aside0 (spec_BloomOf.l0 kq l0 ji13 ji12 x8_2 x9_2 = some (r1, r2, r3, r4, r5)) ∧ Aside0 (kq ≤ kj2) ∧ Aside0 (Kd.R (Kd.int .u8) 5 w' w.heap.size (fun _ => True) v105 x8_2) ∧ Aside0 (w'.heap[gb101]? = some (.cells #[.int .i64 0, .int .i64 0, .int .i64 0, .string (⟨#[]⟩ : ByteArray)] 46 (0, 0))) ∧ Aside0 (Below w.heap.size w w'))
            case atStart => exact ⟨(y104), (0), (by first | rfl | (simp; done) | (simp [*]; done)), H', ⟨Nat.le_refl _⟩, ⟨by (with_reducible repeat (first | apply Kd.R_alloc | apply Kd.R_drewN | apply Kd.R_drew)); exact HO106.out⟩, ⟨by (with_reducible repeat (first | refine blk_drewN ?_ _ | refine blk_drew ?_ | refine blk_alloc ?_ _)); exact BK101.out⟩, ⟨by repeat (first | (with_reducible first | exact HB.out | apply below_alloc | apply pw_below_drewN | apply below_drew1 | refine below_set ?_ GE101.out) | exact HB.out)⟩⟩
            case round =>
              clear H'
              try clear c1
              try clear p2
              try clear c6
              try clear p6
              try clear c8
              try clear c10
              try clear c14
              try clear c14b0
              try clear c14b1
              try clear c15
              try clear c15b0
              try clear c15b1
              try clear hcz9_0
              try clear hcz9_1
              try clear hcz9_2
              try clear hcz9_3
              try clear hfz9_0
              try clear hfz9_1
              try clear hfz9_2
              try clear hfz9_3
              try clear p2
              obtain ⟨x8_2, x9_2, rfl, HA, HK2, HO_8, BK101, HB⟩ := hrel
              cases gk with
              | zero => exact absurd HA.out (by simp [spec_BloomOf.l0])
              | succ k2 =>
                have H := HA.out
                clear HA
                simp only [spec_BloomOf.l0] at H
                by_cases c18 : x9_2 < (l0.length : Int)
                · rw [if_pos c18] at H
                  have c18b0 : decide (x9_2 < (l0.length : Int)) = true := decide_eq_true c18
                  clear c18
                  have H' := Aside0.mk H
                  clear H
                  go_wp2
                  go_loopg [10] k2 (fun kq v10 w' => ∃ (x8_3 : List Int) (x10_3 : Int), v10 = .int .i64 x10_3 ∧ Aside0 (spec_BloomOf.l1 kq l0 ji13 ji12 x8_3 x9_2 x10_3 = some (r1, r2, r3, r4, r5)) ∧ Aside0 (kq ≤ k2) ∧ Aside0 (Kd.R (Kd.int .u8) 5 w' w.heap.size (fun _ => True) v105 x8_3) ∧ Aside0 (w'.heap[gb101]? = some (.cells #[.int .i64 0, .int .i64 0, .int .i64 0, .string (⟨#[]⟩ : ByteArray)] 46 (0, 0))) ∧ Aside0 (Below w.heap.size w w'))
                  case atStart => exact ⟨(x8_2), (0), (by first | rfl | (simp; done) | (simp [*]; done)), H', ⟨Nat.le_refl _⟩, ⟨by (with_reducible repeat (first | apply Kd.R_alloc | apply Kd.R_drewN | apply Kd.R_drew)); exact HO_8.out⟩, ⟨by (with_reducible repeat (first | refine blk_drewN ?_ _ | refine blk_drew ?_ | refine blk_alloc ?_ _)); exact BK101.out⟩, ⟨by repeat (first | (with_reducible first | exact HB.out | apply below_alloc | apply pw_below_drewN | apply below_drew1 | refine below_set ?_ GE101.out) | exact HB.out)⟩⟩
                  case round =>
                    clear H'
                    try clear c1
                    try clear p2
                    try clear c6
                    try clear p6
                    try clear c8
                    try clear c10
                    try clear c14
                    try clear c14b0
                    try clear c14b1
                    try clear c15
                    try clear c15b0
                    try clear c15b1
                    try clear c18
                    try clear c18b0
                    try clear hcz9_0
                    try clear hcz9_1
                    try clear hcz9_2
                    try clear hcz9_3
                    try clear hfz9_0
                    try clear hfz9_1
                    try clear hfz9_2
                    try clear hfz9_3
                    try clear p2
                    try clear p6
                    obtain ⟨x8_3, x10_3, rfl, HA, HK3, HO_8, BK101, HB⟩ := hrel
                    cases gk with
                    | zero => exact absurd HA.out (by simp [spec_BloomOf.l1])
                    | succ k3 =>
                      have H := HA.out
                      clear HA
                      simp only [spec_BloomOf.l1] at H
                      by_cases c19 : x10_3 < ji12
                      · rw [if_pos c19] at H
                        have c19b0 : decide (x10_3 < ji12) = true := decide_eq_true c19
                        clear c19
                        by_cases c20 : 0 ≤ x9_2
                        · rw [if_pos c20] at H
                          have c20b0 : decide (0 ≤ x9_2) = true := decide_eq_true c20
                          clear c20
                          by_cases c21 : x9_2 < (l0.length : Int)
                          · rw [if_pos c21] at H
                            have c21b0 : decide (x9_2 < (l0.length : Int)) = true := decide_eq_true c21
                            clear c21
                            replace H := Option.bind_eq_some_iff.mp H
                            obtain ⟨t108, A220, H⟩ := H
                            replace H : (if 0 ≤ (IntKind.u64.wrap (Int.tdiv t108 8)) then (if (IntKind.u64.wrap (Int.tdiv t108 8)) < (x8_3.length : Int) then (if 0 ≤ (Int.tmod t108 8) then (spec_BloomOf.l1 k3 l0 ji13 ji12 (x8_3.set ((IntKind.u64.wrap (Int.tdiv t108 8)) : Int).toNat (Go.bits .or .u8 (rd x8_3 (IntKind.u64.wrap (Int.tdiv t108 8))) (shl .u8 1 (Int.tmod t108 8)))) x9_2 (wrap64 (x10_3 + 1))) else (none)) else (none)) else (none)) = some (r1, r2, r3, r4, r5) := H
                            have A22 := Aside0.mk A220
                            clear A220
                            obtain ⟨ji23, hji23⟩ : ∃ j_ : Int, (IntKind.u64.wrap (Int.tdiv t108 8)) = j_ := ⟨_, rfl⟩
                            replace H : (if 0 ≤ (ji23) then (if (ji23) < (x8_3.length : Int) then (if 0 ≤ (Int.tmod t108 8) then (spec_BloomOf.l1 k3 l0 ji13 ji12 (x8_3.set ((ji23) : Int).toNat (Go.bits .or .u8 (rd x8_3 (ji23)) (shl .u8 1 (Int.tmod t108 8)))) x9_2 (wrap64 (x10_3 + 1))) else (none)) else (none)) else (none)) = some (r1, r2, r3, r4, r5) := by first | (rw [hji23] at H; exact H) | (simp only [hji23] at H ⊢; exact H)
                            (try rw [hji23] at A22)
                            by_cases c24 : 0 ≤ (ji23)
                            · rw [if_pos c24] at H
                              have c24b0 : decide (0 ≤ (ji23)) = true := decide_eq_true c24
                              clear c24
                              by_cases c25 : (ji23) < (x8_3.length : Int)
                              · rw [if_pos c25] at H
                                have c25b0 : decide ((ji23) < (x8_3.length : Int)) = true := decide_eq_true c25
                                clear c25
                                obtain ⟨ji26, hji26⟩ : ∃ j_ : Int, (Int.tmod t108 8) = j_ := ⟨_, rfl⟩
                                replace H : (if 0 ≤ (ji26) then (spec_BloomOf.l1 k3 l0 ji13 ji12 (x8_3.set ((ji23) : Int).toNat (Go.bits .or .u8 (rd x8_3 (ji23)) (shl .u8 1 (ji26)))) x9_2 (wrap64 (x10_3 + 1))) else (none)) = some (r1, r2, r3, r4, r5) := by first | (rw [hji26] at H; exact H) | (simp only [hji26] at H ⊢; exact H)
                                (try rw [hji26] at A22)
                                by_cases c27 : 0 ≤ (ji26)
                                · rw [if_pos c27] at H
                                  have c27b0 := eq_true c27
                                  have c27b1 : decide (0 ≤ (ji26)) = true := decide_eq_true c27
                                  clear c27
                                  obtain ⟨ji28, hji28⟩ : ∃ j_ : Int, (shl .u8 1 (ji26)) = j_ := ⟨_, rfl⟩
                                  replace H : (spec_BloomOf.l1 k3 l0 ji13 ji12 (x8_3.set ((ji23) : Int).toNat (Go.bits .or .u8 (rd x8_3 (ji23)) (ji28))) x9_2 (wrap64 (x10_3 + 1))) = some (r1, r2, r3, r4, r5) := by first | (rw [hji28] at H; exact H) | (simp only [hji28] at H ⊢; exact H)
                                  (try rw [hji28] at A22)
                                  have hji28_ : (IntKind.u8.wrap (1 * 2 ^ min (ji26).toNat 8)) = ji28 := hji28
                                  have hji28z : (ji26) ≤ 8 → (IntKind.u8.wrap (1 * 2 ^ (ji26).toNat)) = ji28 := shl_small hji28
                                  have hji28u : (IntKind.u8.wrap (2 ^ min (ji26).toNat 8)) = ji28 := by have h_ := hji28_; rw [Int.one_mul] at h_; exact h_
                                  have hji28v : (ji26) ≤ 8 → (IntKind.u8.wrap (2 ^ (ji26).toNat)) = ji28 := fun hle_ => by have h_ := hji28z hle_; rw [Int.one_mul] at h_; exact h_
                                  obtain ⟨y110, hy110⟩ : ∃ y_ : List Int, y_ = (x8_3.set ((ji23) : Int).toNat (Go.bits .or .u8 (rd x8_3 (ji23)) (ji28))) := ⟨_, rfl⟩
                                  replace H : (spec_BloomOf.l1 k3 l0 ji13 ji12 y110 x9_2 (wrap64 (x10_3 + 1))) = some (r1, r2, r3, r4, r5) := by first | (rw [hy110]; with_reducible exact H) | (have H2_ := (Option.bind_some _ _).symm.trans H; rw [hy110]; with_reducible exact H2_) | (have H2_ := (Option.bind_some _ _).symm.trans H; with_reducible exact H2_) | with_reducible exact H | (rw [hy110]; exact H) | exact H
                                  have Ny110 := Aside0.mk hy110
                                  clear hy110
                                  have H' := Aside0.mk H
                                  clear H
                                  have p107 : 0 ≤ (x9_2 : Int) := of_decide_eq_true (by first | (with_reducible assumption) | assumption)
                                  have q107 : x9_2 < (l0.length : Int) := of_decide_eq_true (by first | (with_reducible assumption) | assumption)
                                  obtain ⟨ad107, e107, hx107_0⟩ := Kd.at_string HR0.out x9_2 p107 q107
                                  cases e107
                                  replace hx107_0 := (HB.out.cell (World.block_lt_of_cell? w _ hx107_0)).trans hx107_0
                                  replace p107 := eq_true p107
                                  replace q107 := eq_true q107
                                  go_wp2_with (first | ((with_reducible refine gate_callee (f := 132) rfl ?_); refine goesL_ (some 54) rfl rfl Try.func132 (by kernel_rfl) rfl #[.string (rdOf ByteArray.empty l0 x9_2), .int .i64 x10_3, .int .u64 (IntKind.u64.wrap (wrap64 (8 * ji13)))] rfl (by (try simp only [List.map_toArray, List.map_cons, List.map_nil]); first | done | (simp only [hji13]; rfl) | rfl | (simp only [List.length_drop, List.length_take]; rfl) | (rw [IntWalk.u64_in _ (by omega)] <;> rfl)) ?_; (with_reducible refine (spec_l3Place.calls k3 (rdOf ByteArray.empty l0 x9_2) x10_3 (IntKind.u64.wrap (wrap64 (8 * ji13))) t108 _ A22.out).mono ?_); rintro e w' ⟨rfl, ⟨nd, rfl⟩⟩; refine ⟨_, rfl, ?_⟩; (try (rw [drewN_self wr]; generalize hq_ : World.drewN wr _ = wr; have n0_ : Aside0 (Kd.R (Kd.int .u8) 5 wr w.heap.size (fun _ => True) v105 x8_3) := ⟨by rw [← hq_]; exact (by (with_reducible repeat (first | apply Kd.R_alloc | apply Kd.R_drewN | apply Kd.R_drew)); exact HO_8.out)⟩; have n1_ : Aside0 (wr.heap[gb101]? = some (.cells #[.int .i64 0, .int .i64 0, .int .i64 0, .string (⟨#[]⟩ : ByteArray)] 46 (0, 0))) := ⟨by rw [← hq_]; exact (by (with_reducible repeat (first | refine blk_drewN ?_ _ | refine blk_drew ?_ | refine blk_alloc ?_ _)); exact BK101.out)⟩; have n2_ : Aside0 (Below w.heap.size w wr) := ⟨by rw [← hq_]; exact (by repeat (first | (with_reducible first | exact HB.out | apply below_alloc | apply pw_below_drewN | apply below_drew1 | refine below_set ?_ GE101.out) | exact HB.out))⟩; clear HO_8 BK101 HB hq_; have HO_8 := n0_; have BK101 := n1_; have HB := n2_; clear n0_ n1_ n2_)); obtain ⟨Ao30, co30, eo30⟩ := Kd.R_slice HO_8.out; subst eo30; have p109 : 0 ≤ ((ji23) : Int) := of_decide_eq_true (by first | (with_reducible assumption) | assumption); have q109 : (ji23) < (x8_3.length : Int) := of_decide_eq_true (by first | (with_reducible assumption) | assumption); obtain ⟨ad109, e109, hx109_0⟩ := Kd.at_int (Kd.R_reads' HO_8.out).2.2 (ji23) p109 q109; cases e109; replace p109 := eq_true p109; replace q109 := eq_true q109; have p29 : 0 ≤ ((ji23) : Int) := of_decide_eq_true (by first | (with_reducible assumption) | assumption); have q29 : ((ji23) : Int) < ((x8_3.length : Int) : Int) := of_decide_eq_true (by first | (with_reducible assumption) | assumption); obtain ⟨go29, co29, eo29, gb29, gl29, cl29, HG29⟩ := Kd.R_form HO_8.out (by omega); (first | cases eo29 | (injection eo29 with ea_ en_ ec_; (first | subst ea_ | (injection ea_ with ea_; subst ea_)); subst ec_; clear en_)); have GB29 := Aside0.mk gb29; have GG29 := Aside0.mk HG29; clear gb29 gl29 HG29; (first | simp only [add_plain] at hx109_0 | skip); obtain ⟨hx29_0, hf29_0⟩ := Kd.R_celln 0 HO_8.out ((ji23) : Int) p29 q29; replace p29 := eq_true p29; replace q29 := eq_true q29; obtain ⟨hy31_, hz31_⟩ := Kd.R_celln 0 HO_8.out ((ji23) : Int) (of_decide_eq_true (by first | (with_reducible assumption) | assumption)) (of_decide_eq_true (by first | (with_reducible assumption) | assumption)); have HP31 := Kd.R_putg HO_8.out ((ji23) : Int) (Go.bits .or .u8 (rd x8_3 (ji23)) (ji28))) | ((with_reducible refine gate_store (t := 5) (p := 67) rfl ?_); refine store_event (t := 5) (p := 67) (v := ?vo_w32) (w1 := (wr.setCell ⟨go29, ((ji23) : Int).toNat, none⟩ (.int .u8 (Go.bits .or .u8 (rd x8_3 (ji23)) (ji28))))) ?hg ?ho ?hn ?hr ?_; (case ho => rfl); (case hg => rfl); (case hn => rfl); (case hr => first | (go_simp; done) | (go_simp; rfl)); intro w32 hw; have hg : wr.grownBy w32 (some go29) := (by rw [hw]; exact HP31.2); have hp_ : Kd.R (Kd.int .u8) 5 w32 w.heap.size (fun _ => True) (.slice (some ⟨go29, 0, none⟩) x8_3.length co30) y110 := (by rw [hw, Ny110.out]; exact HP31.1); clear HP31; have n0_ := Aside0.mk (hp_); have n1_ := Aside0.mk (blk_grown (g := gb101) (o := .cells #[.int .i64 0, .int .i64 0, .int .i64 0, .string (⟨#[]⟩ : ByteArray)] 46 (0, 0)) (by (with_reducible repeat (first | refine blk_drewN ?_ _ | refine blk_drew ?_ | refine blk_alloc ?_ _)); exact BK101.out) hg (Kd.R_ne HO_8.out BK101.out (by decide))); have n2_ := Aside0.mk ((by rw [hw]; exact below_set (HB.out) GB29.out : Below w.heap.size w w32)); clear HO_8; clear BK101; clear HB; have HO_8 := n0_; have BK101 := n1_; have HB := n2_; clear n0_ n1_ n2_; clear hg hw hp_))
                                  go_roundg k3
                                  case measure => have := HJ2.out; have := HK2.out; have := HK3.out; omega
                                  case rel => exact ⟨(y110), (wrap64 (x10_3 + 1)), (by first | rfl | (simp; done) | (simp [*]; done)), H', ⟨by have := HJ2.out; have := HK2.out; have := HK3.out; omega⟩, ⟨by (with_reducible repeat (first | apply Kd.R_alloc | apply Kd.R_drewN | apply Kd.R_drew)); exact HO_8.out⟩, ⟨by (with_reducible repeat (first | refine blk_drewN ?_ _ | refine blk_drew ?_ | refine blk_alloc ?_ _)); exact BK101.out⟩, ⟨by repeat (first | (with_reducible first | exact HB.out | apply below_alloc | apply pw_below_drewN | apply below_drew1 | refine below_set ?_ GE101.out) | exact HB.out)⟩⟩
                                · rw [if_neg c27] at H
                                  exact absurd H (by simp)
                              · rw [if_neg c25] at H
                                exact absurd H (by simp)
                            · rw [if_neg c24] at H
                              exact absurd H (by simp)
                          · rw [if_neg c21] at H
                            exact absurd H (by simp)
                        · rw [if_neg c20] at H
                          exact absurd H (by simp)
                      · rw [if_neg c19] at H
                        have c19b0 : decide (x10_3 < ji12) = false := decide_eq_false c19
                        clear c19
                        have H' := Aside0.mk H
                        clear H
                        go_wp2
                        go_roundg k3
                        case measure => have := HJ2.out; have := HK2.out; have := HK3.out; omega
                        case rel => exact ⟨(x8_3), (wrap64 (x9_2 + 1)), (by first | rfl | (simp; done) | (simp [*]; done)), H', ⟨by have := HJ2.out; have := HK2.out; have := HK3.out; omega⟩, ⟨by (with_reducible repeat (first | apply Kd.R_alloc | apply Kd.R_drewN | apply Kd.R_drew)); exact HO_8.out⟩, ⟨by (with_reducible repeat (first | refine blk_drewN ?_ _ | refine blk_drew ?_ | refine blk_alloc ?_ _)); exact BK101.out⟩, ⟨by repeat (first | (with_reducible first | exact HB.out | apply below_alloc | apply pw_below_drewN | apply below_drew1 | refine below_set ?_ GE101.out) | exact HB.out)⟩⟩
                · rw [if_neg c18] at H
                  have c18b0 : decide (x9_2 < (l0.length : Int)) = false := decide_eq_false c18
                  clear c18
                  simp only [Option.some.injEq, Prod.mk.injEq] at H
                  obtain ⟨rfl, rfl, rfl, rfl, rfl⟩ := H
                  have hcv33 := own_string (P := Try.prog) Try.underlying51 Try.underlying5 Try.underlying9 (Kd.own_of_R HO_8.out)
                  have hcz34_0 : wr.cell? ⟨gb101, 0, none⟩ = some (.int .i64 0) := (blk_cell BK101.out 0).trans rfl
                  have hcz34_1 : wr.cell? ⟨gb101, 1, none⟩ = some (.int .i64 0) := (blk_cell BK101.out 1).trans rfl
                  have hcz34_2 : wr.cell? ⟨gb101, 2, none⟩ = some (.int .i64 0) := (blk_cell BK101.out 2).trans rfl
                  have hcz34_3 : wr.cell? ⟨gb101, 3, none⟩ = some (.string (⟨#[]⟩ : ByteArray)) := (blk_cell BK101.out 3).trans rfl
                  have hfz34_0 := blk_frozen BK101.out 0
                  have hfz34_1 := blk_frozen BK101.out 1
                  have hfz34_2 := blk_frozen BK101.out 2
                  have hfz34_3 := blk_frozen BK101.out 3
                  go_wp2
                  refine bodyPost_ret (results_ct rfl _ _ gb101 46 #[.int .i64 1, .int .i64 0, .int .i64 ji12, .string (strOfNums x8_2)] (0, 0) _ rfl (by (with_reducible repeat (first | refine blk_drewN ?_ _ | refine blk_drew ?_ | refine blk_alloc ?_ _)); refine blk_put (cs := #[.int .i64 1, .int .i64 0, .int .i64 ji12, .string (⟨#[]⟩ : ByteArray)]) ?_ 3 _ rfl; (with_reducible repeat (first | refine blk_drewN ?_ _ | refine blk_drew ?_ | refine blk_alloc ?_ _)); refine blk_put (cs := #[.int .i64 1, .int .i64 0, .int .i64 0, .string (⟨#[]⟩ : ByteArray)]) ?_ 2 _ rfl; (with_reducible repeat (first | refine blk_drewN ?_ _ | refine blk_drew ?_ | refine blk_alloc ?_ _)); refine blk_put (cs := #[.int .i64 1, .int .i64 0, .int .i64 0, .string (⟨#[]⟩ : ByteArray)]) ?_ 1 _ rfl; (with_reducible repeat (first | refine blk_drewN ?_ _ | refine blk_drew ?_ | refine blk_alloc ?_ _)); refine blk_put (cs := #[.int .i64 0, .int .i64 0, .int .i64 0, .string (⟨#[]⟩ : ByteArray)]) ?_ 0 _ rfl; (with_reducible repeat (first | refine blk_drewN ?_ _ | refine blk_drew ?_ | refine blk_alloc ?_ _)); exact BK101.out) Try.underlying46 rfl (by kernel_rfl)) rfl ?_
                  exact ⟨by first | rfl | (simp [errW_none, errW_some] <;> rfl) | (simp only [← hji10, ← hji11, ← hji12, ← hji13]; first | rfl | (simp [errW_none, errW_some] <;> rfl)) | (simp [*, errW_none, errW_some] <;> rfl), by repeat (first | (with_reducible first | exact HB.out | apply below_alloc | apply pw_below_drewN | apply below_drew1 | refine below_set ?_ GE101.out) | exact HB.out)⟩
          · rw [if_neg c15] at H
            exact absurd H (by simp)
        · rw [if_neg c14] at H
          exact absurd H (by simp)
mutual
def spec_FilterOf.j0 : Nat → List ByteArray → Int → Bool → Option (Int × Int × Int × ByteArray × Bool)
  | 0, _, _, _ => none
  | k + 1, x0, x1, x16 => if x16 = true then (some (0, 0, 0, (⟨#[]⟩ : ByteArray), false)) else (if x1 = 0 then (some (0, 0, 0, (⟨#[]⟩ : ByteArray), true)) else (spec_FilterOf.l0 k x0 x1 0))
def spec_FilterOf.l0 : Nat → List ByteArray → Int → Int → Option (Int × Int × Int × ByteArray × Bool)
  | 0, _, _, _ => none
  | k + 1, x0, x1, x6 => if x1 = 2 then (spec_FilterOf.j2 k x0 x1 x6 (decide (x6 < 4))) else (spec_FilterOf.j2 k x0 x1 x6 false)
def spec_FilterOf.j2 : Nat → List ByteArray → Int → Int → Bool → Option (Int × Int × Int × ByteArray × Bool)
  | 0, _, _, _, _ => none
  | k + 1, x0, x1, x6, x26 => if x26 = true then ((spec_RibbonOf.f k x0 x6).bind fun bt104 => (if bt104.2.2.2.2 = true then (some (bt104.1, bt104.2.1, bt104.2.2.1, bt104.2.2.2.1, true)) else (spec_FilterOf.l0 k x0 x1 (wrap64 (x6 + 1))))) else ((spec_BloomOf.f k x0 10).bind fun bt110 => (some (bt110.1, bt110.2.1, bt110.2.2.1, bt110.2.2.2.1, bt110.2.2.2.2)))
end
def spec_FilterOf.f (k : Nat) (l0 : List ByteArray) (a1 : Int) : Option (Int × Int × Int × ByteArray × Bool) := (spec_UsersOk.f k l0).bind fun t102 => (if t102 = true then ((spec_l1In.f a1 0 2).bind fun t103 => (spec_FilterOf.j0 k l0 a1 (!t103))) else (spec_FilterOf.j0 k l0 a1 true))
set_option maxHeartbeats 8000000 in
set_option maxRecDepth 100000 in
theorem spec_FilterOf.calls (k : Nat) (A0 : Option Addr) (c0 : Nat) (l0 : List ByteArray) (a1 : Int) (r1 : Int) (r2 : Int) (r3 : Int) (r4 : ByteArray) (r5 : Bool) (w : World) (hr0 : Kd.C Kd.string w A0 l0.length l0) (hc0 : l0.length ≤ c0) (h : spec_FilterOf.f k l0 a1 = some (r1, r2, r3, r4, r5)) :
    Calls Try.prog 54 #[.slice A0 l0.length c0, .int .i64 a1] w fun e w' => e = .returned (.tuple #[.agg #[.int .i64 r1, .int .i64 r2, .int .i64 r3, .string r4], .bool r5]) ∧ Below w.heap.size w w' := by
  have hu46 := Try.underlying46
  have HR0 := Aside0.mk hr0
  have HC0 := Aside0.mk hc0
  clear hr0 hc0
  have HB := Aside0.mk (Below.refl w.heap.size w)
  have H : ((spec_UsersOk.f k l0).bind fun t102 => (if t102 = true then ((spec_l1In.f a1 0 2).bind fun t103 => (spec_FilterOf.j0 k l0 a1 (!t103))) else (spec_FilterOf.j0 k l0 a1 true))) = some (r1, r2, r3, r4, r5) := h
  clear h
  have HC3 := Aside0.mk H
  clear H
  go_enter Try.func54, Try.ntmps54
  go_upto_region 1 with (first | ((with_reducible refine gate_dst (N := 4) rfl ?_); refine box_event ?hg (N := 4) ?hd (cs := #[.int .i64 0, .int .i64 0, .int .i64 0, .string (⟨#[]⟩ : ByteArray)]) (t := 46) ?hr ?_; (case hd => rfl); (case hg => rfl); (case hr => first | (go_simp; done) | (go_simp; rfl)); intro gb101 hg w4 hbox hb; have n0_ := Aside0.mk (below_step (by repeat (first | (with_reducible first | exact HB.out | apply below_alloc | apply pw_below_drewN | apply below_drew1) | exact HB.out)) hb); have n1_ := Aside0.mk (hbox); have n2_ := Aside0.mk ((by rw [hg]; exact (below_size (by repeat (first | (with_reducible first | exact HB.out | apply below_alloc | apply pw_below_drewN | apply below_drew1) | exact HB.out))) : w.heap.size ≤ gb101)); have n3_ := Aside0.mk ((by rw [hg]; exact (below_size (by repeat (first | (with_reducible first | exact HB.out | apply below_alloc | apply pw_below_drewN | apply below_drew1) | exact HB.out))) : w.heap.size ≤ gb101)); clear HB; have HB := n0_; have BK101 := n1_; have GW101 := n2_; have GE101 := n3_; clear n0_ n1_ n2_ n3_; clear hb hbox hg))
  (try simp only [Act.put, List.setIfInBounds_toArray, List.set_cons_zero, List.set_cons_succ])
  go_cut [16] (fun v16 wc => ∃ (kq : Nat) (x16_2 : Bool), v16 = .bool x16_2 ∧ Aside0 (spec_FilterOf.j0 kq l0 a1 x16_2 = some (r1, r2, r3, r4, r5)) ∧ Aside0 (kq ≤ k) ∧ Aside0 (wc.heap[gb101]? = some (.cells #[.int .i64 0, .int .i64 0, .int .i64 0, .string (⟨#[]⟩ : ByteArray)] 46 (0, 0))) ∧ Aside0 (Below w.heap.size w wc))
  case first =>
    have H := HC3.out
    clear HC3
    replace H := Option.bind_eq_some_iff.mp H
    obtain ⟨t102, A50, H⟩ := H
    replace H : (if t102 = true then ((spec_l1In.f a1 0 2).bind fun t103 => (spec_FilterOf.j0 k l0 a1 (!t103))) else (spec_FilterOf.j0 k l0 a1 true)) = some (r1, r2, r3, r4, r5) := H
    have A5 := Aside0.mk A50
    clear A50
    by_cases c6 : t102 = true
    · subst c6
      have H1 : ((spec_l1In.f a1 0 2).bind fun t103 => (spec_FilterOf.j0 k l0 a1 (!t103))) = some (r1, r2, r3, r4, r5) := by rw [if_pos rfl] at H; exact H
      clear H
      have H := H1
      clear H1
      replace H := Option.bind_eq_some_iff.mp H
      obtain ⟨t103, A70, H⟩ := H
      replace H : (spec_FilterOf.j0 k l0 a1 (!t103)) = some (r1, r2, r3, r4, r5) := H
      have A7 := Aside0.mk A70
      clear A70
      have H' := Aside0.mk H
      clear H
      go_wp2_with (first | ((with_reducible refine gate_callee (f := 101) rfl ?_); refine goesL_ (some 10) rfl rfl Try.func101 (by kernel_rfl) rfl #[.slice A0 l0.length c0] rfl (by (try simp only [List.map_toArray, List.map_cons, List.map_nil]); first | done | rfl | (simp only [List.length_drop, List.length_take]; rfl) | (rw [IntWalk.u64_in _ (by omega)] <;> rfl)) ?_; (with_reducible refine (spec_UsersOk.calls k _ _ l0 true _ ?side1 ?side2 A5.out).mono ?_); (case side1 => repeat (first | exact (Kd.C_below HR0.out HB.out) | (with_reducible refine Kd.C_alloc ?_ _) | (with_reducible refine Kd.C_drewN ?_ _) | (with_reducible refine Kd.C_drew ?_))); (case side2 => exact HC0.out); rintro e w' ⟨rfl, ⟨nd, rfl⟩⟩; refine ⟨_, rfl, ?_⟩) | (go_at_call 61; (with_reducible refine (spec_l1In.calls a1 0 2 t103 _ A7.out).mono ?_); rintro e w' ⟨rfl, ⟨nd, rfl⟩⟩))
      go_meet
      case rel => exact ⟨_, (!t103), (by first | rfl | (simp; done) | (simp [*]; done)), H', ⟨by first | omega | exact Nat.le_refl _⟩, ⟨by (with_reducible repeat (first | refine blk_drewN ?_ _ | refine blk_drew ?_ | refine blk_alloc ?_ _)); exact BK101.out⟩, ⟨by repeat (first | (with_reducible first | exact HB.out | apply below_alloc | apply pw_below_drewN | apply below_drew1 | refine below_set ?_ GE101.out) | exact HB.out)⟩⟩
    · replace c6 := Bool.eq_false_iff.mpr c6
      subst c6
      have H1 : (spec_FilterOf.j0 k l0 a1 true) = some (r1, r2, r3, r4, r5) := by rw [if_neg (show ¬ (false = true) by decide)] at H; exact H
      clear H
      have H := H1
      clear H1
      have H' := Aside0.mk H
      clear H
      go_wp2_with (first | ((with_reducible refine gate_callee (f := 101) rfl ?_); refine goesL_ (some 10) rfl rfl Try.func101 (by kernel_rfl) rfl #[.slice A0 l0.length c0] rfl (by (try simp only [List.map_toArray, List.map_cons, List.map_nil]); first | done | rfl | (simp only [List.length_drop, List.length_take]; rfl) | (rw [IntWalk.u64_in _ (by omega)] <;> rfl)) ?_; (with_reducible refine (spec_UsersOk.calls k _ _ l0 false _ ?side1 ?side2 A5.out).mono ?_); (case side1 => repeat (first | exact (Kd.C_below HR0.out HB.out) | (with_reducible refine Kd.C_alloc ?_ _) | (with_reducible refine Kd.C_drewN ?_ _) | (with_reducible refine Kd.C_drew ?_))); (case side2 => exact HC0.out); rintro e w' ⟨rfl, ⟨nd, rfl⟩⟩; refine ⟨_, rfl, ?_⟩))
      go_meet
      case rel => exact ⟨_, (true), (by first | rfl | (simp; done) | (simp [*]; done)), H', ⟨by first | omega | exact Nat.le_refl _⟩, ⟨by (with_reducible repeat (first | refine blk_drewN ?_ _ | refine blk_drew ?_ | refine blk_alloc ?_ _)); exact BK101.out⟩, ⟨by repeat (first | (with_reducible first | exact HB.out | apply below_alloc | apply pw_below_drewN | apply below_drew1 | refine below_set ?_ GE101.out) | exact HB.out)⟩⟩
  case rest =>
    clear HC3
    try clear c1
    try clear p2
    try clear c5
    try clear c6
    obtain ⟨kq, x16_2, rfl, HA, HJ2, BK101, HB⟩ := hcut
    cases kq with
    | zero => exact absurd HA.out (by simp [spec_FilterOf.j0])
    | succ kj2 =>
      have H := HA.out
      clear HA
      simp only [spec_FilterOf.j0] at H
      by_cases c8 : x16_2 = true
      · subst c8
        have H1 : (some (0, 0, 0, (⟨#[]⟩ : ByteArray), false)) = some (r1, r2, r3, r4, r5) := by rw [if_pos rfl] at H; exact H
        clear H
        have H := H1
        clear H1
        simp only [Option.some.injEq, Prod.mk.injEq] at H
        obtain ⟨rfl, rfl, rfl, rfl, rfl⟩ := H
        have hcz9_0 : wc.cell? ⟨gb101, 0, none⟩ = some (.int .i64 0) := (blk_cell BK101.out 0).trans rfl
        have hcz9_1 : wc.cell? ⟨gb101, 1, none⟩ = some (.int .i64 0) := (blk_cell BK101.out 1).trans rfl
        have hcz9_2 : wc.cell? ⟨gb101, 2, none⟩ = some (.int .i64 0) := (blk_cell BK101.out 2).trans rfl
        have hcz9_3 : wc.cell? ⟨gb101, 3, none⟩ = some (.string (⟨#[]⟩ : ByteArray)) := (blk_cell BK101.out 3).trans rfl
        have hfz9_0 := blk_frozen BK101.out 0
        have hfz9_1 := blk_frozen BK101.out 1
        have hfz9_2 := blk_frozen BK101.out 2
        have hfz9_3 := blk_frozen BK101.out 3
        go_wp2
        refine bodyPost_ret (results_ct rfl _ _ gb101 46 #[.int .i64 0, .int .i64 0, .int .i64 0, .string (⟨#[]⟩ : ByteArray)] (0, 0) _ rfl (by (with_reducible repeat (first | refine blk_drewN ?_ _ | refine blk_drew ?_ | refine blk_alloc ?_ _)); refine blk_put (cs := #[.int .i64 0, .int .i64 0, .int .i64 0, .string (⟨#[]⟩ : ByteArray)]) ?_ 3 _ rfl; (with_reducible repeat (first | refine blk_drewN ?_ _ | refine blk_drew ?_ | refine blk_alloc ?_ _)); refine blk_put (cs := #[.int .i64 0, .int .i64 0, .int .i64 0, .string (⟨#[]⟩ : ByteArray)]) ?_ 2 _ rfl; (with_reducible repeat (first | refine blk_drewN ?_ _ | refine blk_drew ?_ | refine blk_alloc ?_ _)); refine blk_put (cs := #[.int .i64 0, .int .i64 0, .int .i64 0, .string (⟨#[]⟩ : ByteArray)]) ?_ 1 _ rfl; (with_reducible repeat (first | refine blk_drewN ?_ _ | refine blk_drew ?_ | refine blk_alloc ?_ _)); refine blk_put (cs := #[.int .i64 0, .int .i64 0, .int .i64 0, .string (⟨#[]⟩ : ByteArray)]) ?_ 0 _ rfl; (with_reducible repeat (first | refine blk_drewN ?_ _ | refine blk_drew ?_ | refine blk_alloc ?_ _)); exact BK101.out) Try.underlying46 rfl (by kernel_rfl)) rfl ?_
        exact ⟨by first | rfl | (simp [errW_none, errW_some] <;> rfl) | (simp [*, errW_none, errW_some] <;> rfl), by repeat (first | (with_reducible first | exact HB.out | apply below_alloc | apply pw_below_drewN | apply below_drew1 | refine below_set ?_ GE101.out) | exact HB.out)⟩
      · replace c8 := Bool.eq_false_iff.mpr c8
        subst c8
        have H1 : (if a1 = 0 then (some (0, 0, 0, (⟨#[]⟩ : ByteArray), true)) else (spec_FilterOf.l0 kj2 l0 a1 0)) = some (r1, r2, r3, r4, r5) := by rw [if_neg (show ¬ (false = true) by decide)] at H; exact H
        clear H
        have H := H1
        clear H1
        by_cases c10 : a1 = 0
        · rw [if_pos c10] at H
          have c10b0 : (a1 == 0) = true := beq_iff_eq.mpr c10
          have c10b1 : (a1 != 0) = false := bne_eq_false_iff_eq.mpr c10
          clear c10
          simp only [Option.some.injEq, Prod.mk.injEq] at H
          obtain ⟨rfl, rfl, rfl, rfl, rfl⟩ := H
          have hcz11_0 : wc.cell? ⟨gb101, 0, none⟩ = some (.int .i64 0) := (blk_cell BK101.out 0).trans rfl
          have hcz11_1 : wc.cell? ⟨gb101, 1, none⟩ = some (.int .i64 0) := (blk_cell BK101.out 1).trans rfl
          have hcz11_2 : wc.cell? ⟨gb101, 2, none⟩ = some (.int .i64 0) := (blk_cell BK101.out 2).trans rfl
          have hcz11_3 : wc.cell? ⟨gb101, 3, none⟩ = some (.string (⟨#[]⟩ : ByteArray)) := (blk_cell BK101.out 3).trans rfl
          have hfz11_0 := blk_frozen BK101.out 0
          have hfz11_1 := blk_frozen BK101.out 1
          have hfz11_2 := blk_frozen BK101.out 2
          have hfz11_3 := blk_frozen BK101.out 3
          go_wp2
          refine bodyPost_ret (results_ct rfl _ _ gb101 46 #[.int .i64 0, .int .i64 0, .int .i64 0, .string (⟨#[]⟩ : ByteArray)] (0, 0) _ rfl (by (with_reducible repeat (first | refine blk_drewN ?_ _ | refine blk_drew ?_ | refine blk_alloc ?_ _)); refine blk_put (cs := #[.int .i64 0, .int .i64 0, .int .i64 0, .string (⟨#[]⟩ : ByteArray)]) ?_ 3 _ rfl; (with_reducible repeat (first | refine blk_drewN ?_ _ | refine blk_drew ?_ | refine blk_alloc ?_ _)); refine blk_put (cs := #[.int .i64 0, .int .i64 0, .int .i64 0, .string (⟨#[]⟩ : ByteArray)]) ?_ 2 _ rfl; (with_reducible repeat (first | refine blk_drewN ?_ _ | refine blk_drew ?_ | refine blk_alloc ?_ _)); refine blk_put (cs := #[.int .i64 0, .int .i64 0, .int .i64 0, .string (⟨#[]⟩ : ByteArray)]) ?_ 1 _ rfl; (with_reducible repeat (first | refine blk_drewN ?_ _ | refine blk_drew ?_ | refine blk_alloc ?_ _)); refine blk_put (cs := #[.int .i64 0, .int .i64 0, .int .i64 0, .string (⟨#[]⟩ : ByteArray)]) ?_ 0 _ rfl; (with_reducible repeat (first | refine blk_drewN ?_ _ | refine blk_drew ?_ | refine blk_alloc ?_ _)); exact BK101.out) Try.underlying46 rfl (by kernel_rfl)) rfl ?_
          exact ⟨by first | rfl | (simp [errW_none, errW_some] <;> rfl) | (simp [*, errW_none, errW_some] <;> rfl), by repeat (first | (with_reducible first | exact HB.out | apply below_alloc | apply pw_below_drewN | apply below_drew1 | refine below_set ?_ GE101.out) | exact HB.out)⟩
        · rw [if_neg c10] at H
          have c10b0 : (a1 == 0) = false := beq_eq_false_iff_ne.mpr c10
          have c10b1 : (a1 != 0) = true := bne_iff_ne.mpr c10
          have H' := Aside0.mk H
          clear H
          go_wp2
          go_loopg [6] kj2 (fun kq v6 w' => ∃ (x6_2 : Int) (x102000_2 : Int) (x102001_2 : Int) (x102002_2 : Int) (x102003_2 : ByteArray), v6 = .int .i64 x6_2 ∧ Aside0 (spec_FilterOf.l0 kq l0 a1 x6_2 = some (r1, r2, r3, r4, r5)) ∧ Aside0 (kq ≤ kj2) ∧ Aside0 (w'.heap[gb101]? = some (.cells #[.int .i64 x102000_2, .int .i64 x102001_2, .int .i64 x102002_2, .string x102003_2] 46 (0, 0))) ∧ Aside0 (Below w.heap.size w w'))
          case atStart => exact ⟨(0), (0), (0), (0), ((⟨#[]⟩ : ByteArray)), (by first | rfl | (simp; done) | (simp [*]; done)), H', ⟨Nat.le_refl _⟩, ⟨by (with_reducible repeat (first | refine blk_drewN ?_ _ | refine blk_drew ?_ | refine blk_alloc ?_ _)); exact BK101.out⟩, ⟨by repeat (first | (with_reducible first | exact HB.out | apply below_alloc | apply pw_below_drewN | apply below_drew1 | refine below_set ?_ GE101.out) | exact HB.out)⟩⟩
          case round =>
            clear H'
            try clear c1
            try clear p2
            try clear c5
            try clear c6
            try clear c8
            try clear c10
            try clear c10b0
            try clear c10b1
            try clear hcz11_0
            try clear hcz11_1
            try clear hcz11_2
            try clear hcz11_3
            try clear hcz9_0
            try clear hcz9_1
            try clear hcz9_2
            try clear hcz9_3
            try clear hfz11_0
            try clear hfz11_1
            try clear hfz11_2
            try clear hfz11_3
            try clear hfz9_0
            try clear hfz9_1
            try clear hfz9_2
            try clear hfz9_3
            try clear p2
            obtain ⟨x6_2, x102000_2, x102001_2, x102002_2, x102003_2, rfl, HA, HK2, BK101, HB⟩ := hrel
            cases gk with
            | zero => exact absurd HA.out (by simp [spec_FilterOf.l0])
            | succ k2 =>
              have H := HA.out
              clear HA
              simp only [spec_FilterOf.l0] at H
              have HC12 := Aside0.mk H
              clear H
              go_upto_region 6 with (fail)
              go_cut [26] (fun v26 wc => ∃ (kq : Nat) (x26_11 : Bool), v26 = .bool x26_11 ∧ Aside0 (spec_FilterOf.j2 kq l0 a1 x6_2 x26_11 = some (r1, r2, r3, r4, r5)) ∧ Aside0 (kq ≤ k2) ∧ Aside0 (wc.heap[gb101]? = some (.cells #[.int .i64 x102000_2, .int .i64 x102001_2, .int .i64 x102002_2, .string x102003_2] 46 (0, 0))) ∧ Aside0 (Below w.heap.size w wc))
              case first =>
                have H := HC12.out
                clear HC12
                by_cases c13 : a1 = 2
                · rw [if_pos c13] at H
                  have c13b0 : (a1 == 2) = true := beq_iff_eq.mpr c13
                  have c13b1 : (a1 != 2) = false := bne_eq_false_iff_eq.mpr c13
                  clear c13
                  (first | rw [c13b0] | (simp only [i64_w, i32_w]; rw [c13b0]) | skip)
                  have H' := Aside0.mk H
                  clear H
                  go_wp2
                  go_meet
                  case rel => exact ⟨_, (decide (x6_2 < 4)), (by first | rfl | (simp; done) | (simp [*]; done)), H', ⟨by have := HJ2.out; have := HK2.out; first | omega | exact Nat.le_refl _⟩, ⟨by (with_reducible repeat (first | refine blk_drewN ?_ _ | refine blk_drew ?_ | refine blk_alloc ?_ _)); exact BK101.out⟩, ⟨by repeat (first | (with_reducible first | exact HB.out | apply below_alloc | apply pw_below_drewN | apply below_drew1 | refine below_set ?_ GE101.out) | exact HB.out)⟩⟩
                · rw [if_neg c13] at H
                  have c13b0 : (a1 == 2) = false := beq_eq_false_iff_ne.mpr c13
                  have c13b1 : (a1 != 2) = true := bne_iff_ne.mpr c13
                  (first | rw [c13b0] | (simp only [i64_w, i32_w]; rw [c13b0]) | skip)
                  have H' := Aside0.mk H
                  clear H
                  go_wp2
                  go_meet
                  case rel => exact ⟨_, (false), (by first | rfl | (simp; done) | (simp [*]; done)), H', ⟨by have := HJ2.out; have := HK2.out; first | omega | exact Nat.le_refl _⟩, ⟨by (with_reducible repeat (first | refine blk_drewN ?_ _ | refine blk_drew ?_ | refine blk_alloc ?_ _)); exact BK101.out⟩, ⟨by repeat (first | (with_reducible first | exact HB.out | apply below_alloc | apply pw_below_drewN | apply below_drew1 | refine below_set ?_ GE101.out) | exact HB.out)⟩⟩
              case rest =>
                clear HC12
                try clear c1
                try clear p2
                try clear c5
                try clear c6
                try clear c8
                try clear c10
                try clear c10b0
                try clear c10b1
                try clear c13
                try clear c13b0
                try clear c13b1
                try clear hcz11_0
                try clear hcz11_1
                try clear hcz11_2
                try clear hcz11_3
                try clear hcz9_0
                try clear hcz9_1
                try clear hcz9_2
                try clear hcz9_3
                try clear hfz11_0
                try clear hfz11_1
                try clear hfz11_2
                try clear hfz11_3
                try clear hfz9_0
                try clear hfz9_1
                try clear hfz9_2
                try clear hfz9_3
                try clear p2
                obtain ⟨kq, x26_11, rfl, HA, HJ11, BK101, HB⟩ := hcut
                cases kq with
                | zero => exact absurd HA.out (by simp [spec_FilterOf.j2])
                | succ kj11 =>
                  have H := HA.out
                  clear HA
                  simp only [spec_FilterOf.j2] at H
                  by_cases c14 : x26_11 = true
                  · subst c14
                    have H1 : ((spec_RibbonOf.f kj11 l0 x6_2).bind fun bt104 => (if bt104.2.2.2.2 = true then (some (bt104.1, bt104.2.1, bt104.2.2.1, bt104.2.2.2.1, true)) else (spec_FilterOf.l0 kj11 l0 a1 (wrap64 (x6_2 + 1))))) = some (r1, r2, r3, r4, r5) := by rw [if_pos rfl] at H; exact H
                    clear H
                    have H := H1
                    clear H1
                    replace H := Option.bind_eq_some_iff.mp H
                    obtain ⟨⟨t104, t105, t106, t107, t108⟩, A150, H⟩ := H
                    replace H : (if t108 = true then (some (t104, t105, t106, t107, true)) else (spec_FilterOf.l0 kj11 l0 a1 (wrap64 (x6_2 + 1)))) = some (r1, r2, r3, r4, r5) := H
                    have A15 := Aside0.mk A150
                    clear A150
                    by_cases c16 : t108 = true
                    · subst c16
                      have H1 : (some (t104, t105, t106, t107, true)) = some (r1, r2, r3, r4, r5) := by rw [if_pos rfl] at H; exact H
                      clear H
                      have H := H1
                      clear H1
                      simp only [Option.some.injEq, Prod.mk.injEq] at H
                      obtain ⟨rfl, rfl, rfl, rfl, rfl⟩ := H
                      go_wp2_with (first | ((with_reducible refine gate_callee (f := 102) rfl ?_); refine goesL_ (some 32) rfl rfl Try.func102 (by kernel_rfl) rfl #[.slice A0 l0.length c0, .int .i64 x6_2] rfl (by (try simp only [List.map_toArray, List.map_cons, List.map_nil]); first | done | rfl | (simp only [List.length_drop, List.length_take]; rfl) | (rw [IntWalk.u64_in _ (by omega)] <;> rfl)) ?_; (with_reducible refine (spec_RibbonOf.calls kj11 _ _ l0 x6_2 t104 t105 t106 t107 true _ ?side1 ?side2 A15.out).mono ?_); (case side1 => repeat (first | exact (Kd.C_below HR0.out HB.out) | (with_reducible refine Kd.C_alloc ?_ _) | (with_reducible refine Kd.C_drewN ?_ _) | (with_reducible refine Kd.C_drew ?_))); (case side2 => exact HC0.out); rintro e w17 ⟨rfl, hb⟩; refine ⟨_, rfl, ?_⟩; have n0_ := Aside0.mk (blk_below (g := gb101) (o := .cells #[.int .i64 x102000_2, .int .i64 x102001_2, .int .i64 x102002_2, .string x102003_2] 46 (0, 0)) (by (with_reducible repeat (first | refine blk_drewN ?_ _ | refine blk_drew ?_ | refine blk_alloc ?_ _)); exact BK101.out) hb); have n1_ := Aside0.mk (below_step (by repeat (first | (with_reducible first | exact HB.out | apply below_alloc | apply pw_below_drewN | apply below_drew1 | refine below_set ?_ GE101.out) | exact HB.out)) hb); clear BK101; clear HB; have BK101 := n0_; have HB := n1_; clear n0_ n1_; (try clear hb); (try clear hb2); (try clear hk); (try clear hi)) | ((with_reducible refine gate_dst (N := 7) rfl ?_); refine box_event ?hg (N := 7) ?hd (cs := #[.int .i64 0, .int .i64 0, .int .i64 0, .string (⟨#[]⟩ : ByteArray)]) (t := 46) ?hr ?_; (case hd => rfl); (case hg => rfl); (case hr => first | (go_simp; done) | (go_simp; rfl)); intro gb109 hg w18 hbox hb; have n0_ := Aside0.mk (blk_below (g := gb101) (o := .cells #[.int .i64 x102000_2, .int .i64 x102001_2, .int .i64 x102002_2, .string x102003_2] 46 (0, 0)) (by (with_reducible repeat (first | refine blk_drewN ?_ _ | refine blk_drew ?_ | refine blk_alloc ?_ _)); exact BK101.out) hb); have n1_ := Aside0.mk (below_step (by repeat (first | (with_reducible first | exact HB.out | apply below_alloc | apply pw_below_drewN | apply below_drew1 | refine below_set ?_ GE101.out) | exact HB.out)) hb); have n2_ := Aside0.mk (hbox); have n3_ := Aside0.mk ((by rw [hg]; exact (below_size (by repeat (first | (with_reducible first | exact HB.out | apply below_alloc | apply pw_below_drewN | apply below_drew1 | refine below_set ?_ GE101.out) | exact HB.out))) : w.heap.size ≤ gb109)); have n4_ := Aside0.mk ((by rw [hg]; exact (below_size (by repeat (first | (with_reducible first | exact HB.out | apply below_alloc | apply pw_below_drewN | apply below_drew1 | refine below_set ?_ GE101.out) | exact HB.out))) : w.heap.size ≤ gb109)); have n5_ := Aside0.mk ((by rw [hg]; exact Nat.ne_of_lt (blk_lt (g := gb101) (o := .cells #[.int .i64 x102000_2, .int .i64 x102001_2, .int .i64 x102002_2, .string x102003_2] 46 (0, 0)) (by (with_reducible repeat (first | refine blk_drewN ?_ _ | refine blk_drew ?_ | refine blk_alloc ?_ _)); exact BK101.out)) : gb101 ≠ gb109)); have n6_ := Aside0.mk ((by rw [hg]; exact Nat.ne_of_gt (blk_lt (g := gb101) (o := .cells #[.int .i64 x102000_2, .int .i64 x102001_2, .int .i64 x102002_2, .string x102003_2] 46 (0, 0)) (by (with_reducible repeat (first | refine blk_drewN ?_ _ | refine blk_drew ?_ | refine blk_alloc ?_ _)); exact BK101.out)) : gb109 ≠ gb101)); clear BK101; clear HB; have BK101 := n0_; have HB := n1_; have BK109 := n2_; have GW109 := n3_; have GE109 := n4_; have NB101_109 := n5_; have NB109_101 := n6_; clear n0_ n1_ n2_ n3_ n4_ n5_ n6_; clear hb hbox hg; have hnb19 := NB109_101.out; have hnc19 := NB101_109.out; have hcz20_0 : w18.cell? ⟨gb109, 0, none⟩ = some (.int .i64 0) := (blk_cell BK109.out 0).trans rfl; have hcz20_1 : w18.cell? ⟨gb109, 1, none⟩ = some (.int .i64 0) := (blk_cell BK109.out 1).trans rfl; have hcz20_2 : w18.cell? ⟨gb109, 2, none⟩ = some (.int .i64 0) := (blk_cell BK109.out 2).trans rfl; have hcz20_3 : w18.cell? ⟨gb109, 3, none⟩ = some (.string (⟨#[]⟩ : ByteArray)) := (blk_cell BK109.out 3).trans rfl; have hfz20_0 := blk_frozen BK109.out 0; have hfz20_1 := blk_frozen BK109.out 1; have hfz20_2 := blk_frozen BK109.out 2; have hfz20_3 := blk_frozen BK109.out 3; have hcz21_0 : w18.cell? ⟨gb101, 0, none⟩ = some (.int .i64 x102000_2) := (blk_cell BK101.out 0).trans rfl; have hcz21_1 : w18.cell? ⟨gb101, 1, none⟩ = some (.int .i64 x102001_2) := (blk_cell BK101.out 1).trans rfl; have hcz21_2 : w18.cell? ⟨gb101, 2, none⟩ = some (.int .i64 x102002_2) := (blk_cell BK101.out 2).trans rfl; have hcz21_3 : w18.cell? ⟨gb101, 3, none⟩ = some (.string x102003_2) := (blk_cell BK101.out 3).trans rfl; have hfz21_0 := blk_frozen BK101.out 0; have hfz21_1 := blk_frozen BK101.out 1; have hfz21_2 := blk_frozen BK101.out 2; have hfz21_3 := blk_frozen BK101.out 3))
                      refine bodyPost_ret (results_ct rfl _ _ gb101 46 #[.int .i64 t104, .int .i64 t105, .int .i64 t106, .string t107] (0, 0) _ rfl (by (with_reducible repeat (first | refine blk_drewN ?_ _ | refine blk_drew ?_ | refine blk_alloc ?_ _)); refine blk_put (cs := #[.int .i64 t104, .int .i64 t105, .int .i64 t106, .string x102003_2]) ?_ 3 _ rfl; (with_reducible repeat (first | refine blk_drewN ?_ _ | refine blk_drew ?_ | refine blk_alloc ?_ _)); refine blk_put (cs := #[.int .i64 t104, .int .i64 t105, .int .i64 x102002_2, .string x102003_2]) ?_ 2 _ rfl; (with_reducible repeat (first | refine blk_drewN ?_ _ | refine blk_drew ?_ | refine blk_alloc ?_ _)); refine blk_put (cs := #[.int .i64 t104, .int .i64 x102001_2, .int .i64 x102002_2, .string x102003_2]) ?_ 1 _ rfl; (with_reducible repeat (first | refine blk_drewN ?_ _ | refine blk_drew ?_ | refine blk_alloc ?_ _)); refine blk_put (cs := #[.int .i64 x102000_2, .int .i64 x102001_2, .int .i64 x102002_2, .string x102003_2]) ?_ 0 _ rfl; (with_reducible repeat (first | refine blk_drewN ?_ _ | refine blk_drew ?_ | refine blk_alloc ?_ _)); refine blk_far ?_ NB101_109.out _; (with_reducible repeat (first | refine blk_drewN ?_ _ | refine blk_drew ?_ | refine blk_alloc ?_ _)); refine blk_far ?_ NB101_109.out _; (with_reducible repeat (first | refine blk_drewN ?_ _ | refine blk_drew ?_ | refine blk_alloc ?_ _)); refine blk_far ?_ NB101_109.out _; (with_reducible repeat (first | refine blk_drewN ?_ _ | refine blk_drew ?_ | refine blk_alloc ?_ _)); refine blk_far ?_ NB101_109.out _; (with_reducible repeat (first | refine blk_drewN ?_ _ | refine blk_drew ?_ | refine blk_alloc ?_ _)); exact BK101.out) Try.underlying46 rfl (by kernel_rfl)) rfl ?_
                      exact ⟨by first | rfl | (simp [errW_none, errW_some] <;> rfl) | (simp [*, errW_none, errW_some] <;> rfl), by repeat (first | (with_reducible first | exact HB.out | apply below_alloc | apply pw_below_drewN | apply below_drew1 | refine below_set ?_ GE101.out | refine below_set ?_ GE109.out) | exact HB.out)⟩
                    · replace c16 := Bool.eq_false_iff.mpr c16
                      subst c16
                      have H1 : (spec_FilterOf.l0 kj11 l0 a1 (wrap64 (x6_2 + 1))) = some (r1, r2, r3, r4, r5) := by rw [if_neg (show ¬ (false = true) by decide)] at H; exact H
                      clear H
                      have H := H1
                      clear H1
                      have H' := Aside0.mk H
                      clear H
                      go_wp2_with (first | ((with_reducible refine gate_callee (f := 102) rfl ?_); refine goesL_ (some 32) rfl rfl Try.func102 (by kernel_rfl) rfl #[.slice A0 l0.length c0, .int .i64 x6_2] rfl (by (try simp only [List.map_toArray, List.map_cons, List.map_nil]); first | done | rfl | (simp only [List.length_drop, List.length_take]; rfl) | (rw [IntWalk.u64_in _ (by omega)] <;> rfl)) ?_; (with_reducible refine (spec_RibbonOf.calls kj11 _ _ l0 x6_2 t104 t105 t106 t107 false _ ?side1 ?side2 A15.out).mono ?_); (case side1 => repeat (first | exact (Kd.C_below HR0.out HB.out) | (with_reducible refine Kd.C_alloc ?_ _) | (with_reducible refine Kd.C_drewN ?_ _) | (with_reducible refine Kd.C_drew ?_))); (case side2 => exact HC0.out); rintro e w22 ⟨rfl, hb⟩; refine ⟨_, rfl, ?_⟩; have n0_ := Aside0.mk (blk_below (g := gb101) (o := .cells #[.int .i64 x102000_2, .int .i64 x102001_2, .int .i64 x102002_2, .string x102003_2] 46 (0, 0)) (by (with_reducible repeat (first | refine blk_drewN ?_ _ | refine blk_drew ?_ | refine blk_alloc ?_ _)); exact BK101.out) hb); have n1_ := Aside0.mk (below_step (by repeat (first | (with_reducible first | exact HB.out | apply below_alloc | apply pw_below_drewN | apply below_drew1 | refine below_set ?_ GE101.out) | exact HB.out)) hb); clear BK101; clear HB; have BK101 := n0_; have HB := n1_; clear n0_ n1_; (try clear hb); (try clear hb2); (try clear hk); (try clear hi)) | ((with_reducible refine gate_dst (N := 7) rfl ?_); refine box_event ?hg (N := 7) ?hd (cs := #[.int .i64 0, .int .i64 0, .int .i64 0, .string (⟨#[]⟩ : ByteArray)]) (t := 46) ?hr ?_; (case hd => rfl); (case hg => rfl); (case hr => first | (go_simp; done) | (go_simp; rfl)); intro gb109 hg w23 hbox hb; have n0_ := Aside0.mk (blk_below (g := gb101) (o := .cells #[.int .i64 x102000_2, .int .i64 x102001_2, .int .i64 x102002_2, .string x102003_2] 46 (0, 0)) (by (with_reducible repeat (first | refine blk_drewN ?_ _ | refine blk_drew ?_ | refine blk_alloc ?_ _)); exact BK101.out) hb); have n1_ := Aside0.mk (below_step (by repeat (first | (with_reducible first | exact HB.out | apply below_alloc | apply pw_below_drewN | apply below_drew1 | refine below_set ?_ GE101.out) | exact HB.out)) hb); have n2_ := Aside0.mk (hbox); have n3_ := Aside0.mk ((by rw [hg]; exact (below_size (by repeat (first | (with_reducible first | exact HB.out | apply below_alloc | apply pw_below_drewN | apply below_drew1 | refine below_set ?_ GE101.out) | exact HB.out))) : w.heap.size ≤ gb109)); have n4_ := Aside0.mk ((by rw [hg]; exact (below_size (by repeat (first | (with_reducible first | exact HB.out | apply below_alloc | apply pw_below_drewN | apply below_drew1 | refine below_set ?_ GE101.out) | exact HB.out))) : w.heap.size ≤ gb109)); have n5_ := Aside0.mk ((by rw [hg]; exact Nat.ne_of_lt (blk_lt (g := gb101) (o := .cells #[.int .i64 x102000_2, .int .i64 x102001_2, .int .i64 x102002_2, .string x102003_2] 46 (0, 0)) (by (with_reducible repeat (first | refine blk_drewN ?_ _ | refine blk_drew ?_ | refine blk_alloc ?_ _)); exact BK101.out)) : gb101 ≠ gb109)); have n6_ := Aside0.mk ((by rw [hg]; exact Nat.ne_of_gt (blk_lt (g := gb101) (o := .cells #[.int .i64 x102000_2, .int .i64 x102001_2, .int .i64 x102002_2, .string x102003_2] 46 (0, 0)) (by (with_reducible repeat (first | refine blk_drewN ?_ _ | refine blk_drew ?_ | refine blk_alloc ?_ _)); exact BK101.out)) : gb109 ≠ gb101)); clear BK101; clear HB; have BK101 := n0_; have HB := n1_; have BK109 := n2_; have GW109 := n3_; have GE109 := n4_; have NB101_109 := n5_; have NB109_101 := n6_; clear n0_ n1_ n2_ n3_ n4_ n5_ n6_; clear hb hbox hg; have hnb24 := NB109_101.out; have hnc24 := NB101_109.out; have hcz25_0 : w23.cell? ⟨gb109, 0, none⟩ = some (.int .i64 0) := (blk_cell BK109.out 0).trans rfl; have hcz25_1 : w23.cell? ⟨gb109, 1, none⟩ = some (.int .i64 0) := (blk_cell BK109.out 1).trans rfl; have hcz25_2 : w23.cell? ⟨gb109, 2, none⟩ = some (.int .i64 0) := (blk_cell BK109.out 2).trans rfl; have hcz25_3 : w23.cell? ⟨gb109, 3, none⟩ = some (.string (⟨#[]⟩ : ByteArray)) := (blk_cell BK109.out 3).trans rfl; have hfz25_0 := blk_frozen BK109.out 0; have hfz25_1 := blk_frozen BK109.out 1; have hfz25_2 := blk_frozen BK109.out 2; have hfz25_3 := blk_frozen BK109.out 3))
                      go_roundg kj11
                      case measure => have := HJ2.out; have := HK2.out; have := HJ11.out; omega
                      case rel => exact ⟨(wrap64 (x6_2 + 1)), (x102000_2), (x102001_2), (x102002_2), (x102003_2), (by first | rfl | (simp; done) | (simp [*]; done)), H', ⟨by have := HJ2.out; have := HK2.out; have := HJ11.out; omega⟩, ⟨by (with_reducible repeat (first | refine blk_drewN ?_ _ | refine blk_drew ?_ | refine blk_alloc ?_ _)); refine blk_far ?_ NB101_109.out _; (with_reducible repeat (first | refine blk_drewN ?_ _ | refine blk_drew ?_ | refine blk_alloc ?_ _)); refine blk_far ?_ NB101_109.out _; (with_reducible repeat (first | refine blk_drewN ?_ _ | refine blk_drew ?_ | refine blk_alloc ?_ _)); refine blk_far ?_ NB101_109.out _; (with_reducible repeat (first | refine blk_drewN ?_ _ | refine blk_drew ?_ | refine blk_alloc ?_ _)); refine blk_far ?_ NB101_109.out _; (with_reducible repeat (first | refine blk_drewN ?_ _ | refine blk_drew ?_ | refine blk_alloc ?_ _)); exact BK101.out⟩, ⟨by repeat (first | (with_reducible first | exact HB.out | apply below_alloc | apply pw_below_drewN | apply below_drew1 | refine below_set ?_ GE101.out | refine below_set ?_ GE109.out) | exact HB.out)⟩⟩
                  · replace c14 := Bool.eq_false_iff.mpr c14
                    subst c14
                    have H1 : ((spec_BloomOf.f kj11 l0 10).bind fun bt110 => (some (bt110.1, bt110.2.1, bt110.2.2.1, bt110.2.2.2.1, bt110.2.2.2.2))) = some (r1, r2, r3, r4, r5) := by rw [if_neg (show ¬ (false = true) by decide)] at H; exact H
                    clear H
                    have H := H1
                    clear H1
                    replace H := Option.bind_eq_some_iff.mp H
                    obtain ⟨⟨t110, t111, t112, t113, t114⟩, A260, H⟩ := H
                    replace H : (some (t110, t111, t112, t113, t114)) = some (r1, r2, r3, r4, r5) := H
                    have A26 := Aside0.mk A260
                    clear A260
                    simp only [Option.some.injEq, Prod.mk.injEq] at H
                    obtain ⟨rfl, rfl, rfl, rfl, rfl⟩ := H
                    go_wp2_with (first | ((with_reducible refine gate_callee (f := 103) rfl ?_); refine goesL_ (some 38) rfl rfl Try.func103 (by kernel_rfl) rfl #[.slice A0 l0.length c0, .int .i64 10] rfl (by (try simp only [List.map_toArray, List.map_cons, List.map_nil]); first | done | rfl | (simp only [List.length_drop, List.length_take]; rfl) | (rw [IntWalk.u64_in _ (by omega)] <;> rfl)) ?_; (with_reducible refine (spec_BloomOf.calls kj11 _ _ l0 10 t110 t111 t112 t113 t114 _ ?side1 ?side2 A26.out).mono ?_); (case side1 => repeat (first | exact (Kd.C_below HR0.out HB.out) | (with_reducible refine Kd.C_alloc ?_ _) | (with_reducible refine Kd.C_drewN ?_ _) | (with_reducible refine Kd.C_drew ?_))); (case side2 => exact HC0.out); rintro e w27 ⟨rfl, hb⟩; refine ⟨_, rfl, ?_⟩; have n0_ := Aside0.mk (blk_below (g := gb101) (o := .cells #[.int .i64 x102000_2, .int .i64 x102001_2, .int .i64 x102002_2, .string x102003_2] 46 (0, 0)) (by (with_reducible repeat (first | refine blk_drewN ?_ _ | refine blk_drew ?_ | refine blk_alloc ?_ _)); exact BK101.out) hb); have n1_ := Aside0.mk (below_step (by repeat (first | (with_reducible first | exact HB.out | apply below_alloc | apply pw_below_drewN | apply below_drew1 | refine below_set ?_ GE101.out) | exact HB.out)) hb); clear BK101; clear HB; have BK101 := n0_; have HB := n1_; clear n0_ n1_; (try clear hb); (try clear hb2); (try clear hk); (try clear hi); have hcz28_0 : w27.cell? ⟨gb101, 0, none⟩ = some (.int .i64 x102000_2) := (blk_cell BK101.out 0).trans rfl; have hcz28_1 : w27.cell? ⟨gb101, 1, none⟩ = some (.int .i64 x102001_2) := (blk_cell BK101.out 1).trans rfl; have hcz28_2 : w27.cell? ⟨gb101, 2, none⟩ = some (.int .i64 x102002_2) := (blk_cell BK101.out 2).trans rfl; have hcz28_3 : w27.cell? ⟨gb101, 3, none⟩ = some (.string x102003_2) := (blk_cell BK101.out 3).trans rfl; have hfz28_0 := blk_frozen BK101.out 0; have hfz28_1 := blk_frozen BK101.out 1; have hfz28_2 := blk_frozen BK101.out 2; have hfz28_3 := blk_frozen BK101.out 3))
                    refine bodyPost_ret (results_ct rfl _ _ gb101 46 #[.int .i64 t110, .int .i64 t111, .int .i64 t112, .string t113] (0, 0) _ rfl (by (with_reducible repeat (first | refine blk_drewN ?_ _ | refine blk_drew ?_ | refine blk_alloc ?_ _)); refine blk_put (cs := #[.int .i64 t110, .int .i64 t111, .int .i64 t112, .string x102003_2]) ?_ 3 _ rfl; (with_reducible repeat (first | refine blk_drewN ?_ _ | refine blk_drew ?_ | refine blk_alloc ?_ _)); refine blk_put (cs := #[.int .i64 t110, .int .i64 t111, .int .i64 x102002_2, .string x102003_2]) ?_ 2 _ rfl; (with_reducible repeat (first | refine blk_drewN ?_ _ | refine blk_drew ?_ | refine blk_alloc ?_ _)); refine blk_put (cs := #[.int .i64 t110, .int .i64 x102001_2, .int .i64 x102002_2, .string x102003_2]) ?_ 1 _ rfl; (with_reducible repeat (first | refine blk_drewN ?_ _ | refine blk_drew ?_ | refine blk_alloc ?_ _)); refine blk_put (cs := #[.int .i64 x102000_2, .int .i64 x102001_2, .int .i64 x102002_2, .string x102003_2]) ?_ 0 _ rfl; (with_reducible repeat (first | refine blk_drewN ?_ _ | refine blk_drew ?_ | refine blk_alloc ?_ _)); exact BK101.out) Try.underlying46 rfl (by kernel_rfl)) rfl ?_
                    exact ⟨by first | rfl | (simp [errW_none, errW_some] <;> rfl) | (simp [*, errW_none, errW_some] <;> rfl), by repeat (first | (with_reducible first | exact HB.out | apply below_alloc | apply pw_below_drewN | apply below_drew1 | refine below_set ?_ GE101.out) | exact HB.out)⟩
end Go.Proofs.Ytedgdnkbojjbmaa.P
end

section
namespace Go.Proofs.Ytedgdnkbojjbmaa.Pure
open Go.RowKit Go.Proofs.YtedgdnkbojjbmaaW.PrintWords Go.Proofs.YtedgdnkbojjbmaaW.PrintLast Go.Proofs.YtedgdnkbojjbmaaW.PrintMore
open Go.Proofs.Ytedgdnkbojjbmaa.P
set_option linter.unusedVariables false
set_option linter.unusedSimpArgs false
theorem u64w (n : Int) : IntKind.u64.wrap n = n % 18446744073709551616 := by simp [IntKind.wrap, IntKind.bits, IntKind.signed]
theorem toNat64 (a : Nat) (ha : a < 18446744073709551616) : (BitVec.ofInt 64 (a : Int)).toNat = a := by
  rw [BitVec.ofInt_natCast, BitVec.toNat_ofNat]
  exact Nat.mod_eq_of_lt (by omega)
theorem xorN (a b : Nat) (ha : a < 18446744073709551616) (hb : b < 18446744073709551616) : Go.bits .xor .u64 (a : Int) (b : Int) = ((a ^^^ b : Nat) : Int) := by
  have hx : a ^^^ b < 2 ^ 64 := Nat.xor_lt_two_pow (by omega) (by omega)
  show IntKind.u64.wrap ((BitVec.ofInt 64 (a : Int) ^^^ BitVec.ofInt 64 (b : Int)).toNat : Int) = _
  rw [BitVec.toNat_xor, toNat64 a ha, toNat64 b hb, u64w]
  omega
theorem orN (a b : Nat) (ha : a < 18446744073709551616) (hb : b < 18446744073709551616) : Go.bits .or .u64 (a : Int) (b : Int) = ((a ||| b : Nat) : Int) := by
  have hx : a ||| b < 2 ^ 64 := Nat.or_lt_two_pow (by omega) (by omega)
  show IntKind.u64.wrap ((BitVec.ofInt 64 (a : Int) ||| BitVec.ofInt 64 (b : Int)).toNat : Int) = _
  rw [BitVec.toNat_or, toNat64 a ha, toNat64 b hb, u64w]
  omega
theorem or1N (a m : Nat) (h : a < 2 ^ m) (hm : 1 ≤ m) : (a ||| 1) < 2 ^ m ∧ (a ||| 1) % 2 = 1 := by
  refine ⟨Nat.or_lt_two_pow h (Nat.one_lt_two_pow (by omega)), ?_⟩
  have := Nat.or_mod_two_pow (a := a) (b := 1) (n := 1)
  rw [Nat.pow_one] at this
  rw [this]
  rcases Nat.mod_two_eq_zero_or_one a with h | h <;> rw [h] <;> rfl
theorem xorEven (a b : Nat) (ha : a % 2 = 1) (hb : b % 2 = 1) : (a ^^^ b) % 2 = 0 := by
  have := Nat.xor_mod_two_pow (a := a) (b := b) (n := 1)
  rw [Nat.pow_one] at this
  rw [this, ha, hb]
  rfl
theorem dusers_ev {l : List Int} {p : Int} (h : okc l) (hp : okp l p) : ∃ r, Ev (fun k => spec_l1Rd_users.f k l p 14) r ∧ (r.1.length ≤ 15 ∧ ∀ u ∈ r.1, u.size ≤ 100) ∧ okp l r.2 := by
  obtain ⟨a, ha, ha1, ha2⟩ := below_ev h hp 15 (by omega)
  unfold spec_l1Rd_users.f
  rw [wid (x := 14 + 1) (by decide) (by decide), show (14 + 1 : Int) = 15 from rfl]
  have key : ∀ (m : Nat) (acc : List ByteArray) (p : Int), acc.length + m ≤ 14 → (∀ u ∈ acc, u.size ≤ 100) → okp l p → ∃ r, Ev (fun k => spec_l1Rd_users.l0 k acc (m : Int) l p) r ∧ (r.1.length ≤ 15 ∧ ∀ u ∈ r.1, u.size ≤ 100) ∧ okp l r.2 := by
    intro m
    induction m with
    | zero =>
      intro acc p hm hs hp
      obtain ⟨b, hb, hb2⟩ := once_ev h hp 24 (by omega)
      by_cases c : b.1 = true
      · obtain ⟨t, ht, ht1, ht2⟩ := bytes_ev h hb2 44 (by omega) (by omega)
        refine ⟨(acc ++ [t.1], t.2), ?_, ⟨by simp; omega, fun u hu => ?_⟩, ht2⟩
        · refine Ev.step (fun k => spec_l1Rd_users.l0.eq_2 ..) ?_
          exact Ev.neg (by omega) (Ev.bindS hb (Ev.pos c (Ev.bind ht (Ev.pos (by omega) (Ev.now _)))))
        · rcases List.mem_append.1 hu with hu | hu
          · exact hs u hu
          · rw [List.mem_singleton] at hu
            subst hu
            omega
      · refine ⟨(acc, b.2), ?_, ⟨by simp only []; omega, hs⟩, hb2⟩
        refine Ev.step (fun k => spec_l1Rd_users.l0.eq_2 ..) ?_
        exact Ev.neg (by omega) (Ev.bindS hb (Ev.neg c (Ev.now _)))
    | succ m ih =>
      intro acc p hm hs hp
      have hw : wrap64 (((m + 1 : Nat) : Int) - 1) = (m : Int) := by rw [wid (by omega) (by omega)]; omega
      obtain ⟨b, hb, hb2⟩ := once_ev h hp 3 (by omega)
      by_cases c : b.1 = true
      · obtain ⟨t, ht, ht1, ht2⟩ := bytes_ev h hb2 3 (by omega) (by omega)
        obtain ⟨r, hr, hr2⟩ := ih (acc ++ [(⟨#[107]⟩ : ByteArray) ++ t.1]) t.2 (by simp; omega) (fun u hu => by
          rcases List.mem_append.1 hu with hu | hu
          · exact hs u hu
          · rw [List.mem_singleton] at hu
            subst hu
            rw [ByteArray.size_append, show (⟨#[107]⟩ : ByteArray).size = 1 from rfl]
            omega) ht2
        refine ⟨r, ?_, hr2⟩
        refine Ev.step (fun k => spec_l1Rd_users.l0.eq_2 ..) ?_
        rw [hw]
        exact Ev.pos (by omega) (Ev.bindS hb (Ev.pos c (Ev.bind ht (Ev.pos (by omega) (Ev.pos (by omega) hr)))))
      · obtain ⟨t, ht, ht1, ht2⟩ := duser_ev h hb2
        obtain ⟨r, hr, hr2⟩ := ih (acc ++ [t.1]) t.2 (by simp; omega) (fun u hu => by
          rcases List.mem_append.1 hu with hu | hu
          · exact hs u hu
          · rw [List.mem_singleton] at hu
            subst hu
            unfold isU at ht1
            omega) ht2
        refine ⟨r, ?_, hr2⟩
        refine Ev.step (fun k => spec_l1Rd_users.l0.eq_2 ..) ?_
        rw [hw]
        exact Ev.pos (by omega) (Ev.bindS hb (Ev.neg c (Ev.bindS ht (Ev.pos (by omega) hr))))
  obtain ⟨r, hr, hr2⟩ := key a.1.toNat [] a.2 (by simp; omega) (by simp) ha2
  rw [Int.toNat_of_nonneg ha1.1] at hr
  exact ⟨r, Ev.bindS ha hr, hr2⟩
end Go.Proofs.Ytedgdnkbojjbmaa.Pure
end

section
namespace Go.Proofs.Ytedgdnkbojjbmaa.Pure
open Go.RowKit Go.Proofs.YtedgdnkbojjbmaaW.PrintWords Go.Proofs.YtedgdnkbojjbmaaW.PrintLast Go.Proofs.YtedgdnkbojjbmaaW.PrintMore
open Go.Proofs.Ytedgdnkbojjbmaa.P
set_option linter.unusedVariables false
set_option linter.unusedSimpArgs false
theorem hash2_ev (a : Int) (t : ByteArray) (ht : t.size ≤ 1000000) : ∃ r : Nat, r < 18446744073709551616 ∧ Ev (fun k => impl_Hash.f k a t) (r : Int) ∧ Ev (fun k => spec_Hash.f k a t) (r : Int) := by
  have bn : ∀ o x y, ∃ r : Nat, r < 18446744073709551616 ∧ Go.bits o .u64 x y = (r : Int) := fun o x y => by
    obtain ⟨h1, h2⟩ := bits_u64 o x y
    exact ⟨(Go.bits o .u64 x y).toNat, by omega, by omega⟩
  have key : ∀ i, i ≤ t.size → ∀ h : Int, ∃ r : Nat, r < 18446744073709551616 ∧ Ev (fun k => impl_Hash.l0 k t h (t.size : Int) (i : Int)) (r : Int) ∧ Ev (fun k => spec_Hash.l0 k t h (i : Int)) (r : Int) := by
    refine downTo t.size ?_ ?_
    · intro h
      obtain ⟨r, hr, he⟩ := bn .xor (IntKind.u64.wrap ((Go.bits .xor .u64 (IntKind.u64.wrap ((Go.bits .xor .u64 h (h / 1073741824)) * 13787848793156543929)) ((IntKind.u64.wrap ((Go.bits .xor .u64 h (h / 1073741824)) * 13787848793156543929)) / 134217728)) * 10723151780598845931)) ((IntKind.u64.wrap ((Go.bits .xor .u64 (IntKind.u64.wrap ((Go.bits .xor .u64 h (h / 1073741824)) * 13787848793156543929)) ((IntKind.u64.wrap ((Go.bits .xor .u64 h (h / 1073741824)) * 13787848793156543929)) / 134217728)) * 10723151780598845931)) / 2147483648)
      refine ⟨r, hr, ?_, ?_⟩
      · refine Ev.step (fun k => impl_Hash.l0.eq_2 ..) ?_
        exact Ev.neg (by omega) ((Ev.now _).eqr he)
      · refine Ev.step (fun k => spec_Hash.l0.eq_2 ..) ?_
        exact Ev.neg (by omega) ((Ev.now _).eqr he)
    · intro i hi ih h
      obtain ⟨r, hr, h1, h2⟩ := ih (IntKind.u64.wrap ((Go.bits .xor .u64 h (IntKind.u64.wrap (bt t (i : Int)))) * 1099511628211))
      refine ⟨r, hr, ?_, ?_⟩
      · refine Ev.step (fun k => impl_Hash.l0.eq_2 ..) ?_
        rw [wsucc (by omega)]
        exact Ev.pos (by omega) (Ev.pos (by omega) (Ev.pos (by omega) h1))
      · refine Ev.step (fun k => spec_Hash.l0.eq_2 ..) ?_
        rw [wsucc (by omega)]
        exact Ev.pos (by omega) (Ev.pos (by omega) h2)
  exact key 0 (Nat.zero_le _) _
theorem andN (a : Nat) (ha : a < 18446744073709551616) : Go.bits .and .u64 (a : Int) 65535 = ((a % 65536 : Nat) : Int) := by
  show IntKind.u64.wrap ((BitVec.ofInt 64 (a : Int) &&& BitVec.ofInt 64 ((65535 : Nat) : Int)).toNat : Int) = _
  rw [BitVec.toNat_and, toNat64 a ha, toNat64 65535 (by decide), u64w, show (65535 : Nat) = 2 ^ 16 - 1 from rfl, Nat.and_two_pow_sub_one_eq_mod]
  omega
theorem eqn_ev (u : ByteArray) (hu : u.size ≤ 1000000) (seed : Int) (n : Nat) (n0 : 20 ≤ n) (n1 : n ≤ 1000) : ∃ p r s : Nat, Ev (fun k => spec_l4Row.f k u seed (n : Int)) ((p : Int), (r : Int), (s : Int)) ∧ Ev (fun k => impl_equationOf.f k u seed (n : Int)) ((p : Int), (r : Int), (s : Int)) ∧ p ≤ n - 16 ∧ r < 2 ^ 16 ∧ r % 2 = 1 ∧ s < 128 := by
  obtain ⟨x, hx, h1, h2⟩ := hash2_ev (seed % 4294967296) u hu
  have e1 : IntKind.u64.wrap (wrap64 ((n : Int) - 15)) = ((n - 15 : Nat) : Int) := by rw [wid (by omega) (by omega), uid (by omega) (by omega)]; omega
  obtain ⟨o1, o2⟩ := or1N (x % 65536) 16 (by omega) (by omega)
  have lt : x / 4294967296 % (n - 15) < n - 15 := Nat.mod_lt _ (by omega)
  have hp : x / 4294967296 % (n - 15) ≤ n - 16 := by omega
  have hne : ¬ ((n - 15 : Nat) : Int) = 0 := by omega
  have hx6 : x % 65536 < 18446744073709551616 := by omega
  have hw0 : -9223372036854775808 ≤ ((x / 4294967296 % (n - 15) : Nat) : Int) := by omega
  have hw1 : ((x / 4294967296 % (n - 15) : Nat) : Int) ≤ 9223372036854775807 := by omega
  have a1 : Int.tmod ((x : Int) / 4294967296) ((n - 15 : Nat) : Int) = ((x / 4294967296 % (n - 15) : Nat) : Int) := by
    rw [Int.tmod_eq_emod_of_nonneg (by omega), Int.natCast_emod, Int.natCast_ediv]
    rfl
  have a2 : Int.tmod (x : Int) 65536 = ((x % 65536 : Nat) : Int) := by rw [Int.tmod_eq_emod_of_nonneg (by omega)]; omega
  have a3 : Int.tmod ((x : Int) / 65536) 128 = ((x / 65536 % 128 : Nat) : Int) := by rw [Int.tmod_eq_emod_of_nonneg (by omega)]; omega
  have a4 : ((x / 65536 % 128 : Nat) : Int) % 256 = ((x / 65536 % 128 : Nat) : Int) := by omega
  have a5 : wrap64 ((x / 4294967296 % (n - 15) : Nat) : Int) = ((x / 4294967296 % (n - 15) : Nat) : Int) := wid hw0 hw1
  have a6 : Go.bits .or .u64 ((x % 65536 : Nat) : Int) 1 = (((x % 65536) ||| 1 : Nat) : Int) := by rw [show (1 : Int) = ((1 : Nat) : Int) from rfl, orN _ _ hx6 (by decide)]
  refine ⟨x / 4294967296 % (n - 15), (x % 65536) ||| 1, x / 65536 % 128, ?_, ?_, hp, o1, o2, Nat.mod_lt _ (by decide)⟩
  · unfold spec_l4Row.f
    rw [e1]
    refine Ev.bind h2 (Ev.neg hne ((Ev.now _).eqr ?_))
    rw [a1, a2, a3, a5, a6]
  · unfold impl_equationOf.f
    rw [e1]
    refine Ev.bind h1 (Ev.neg hne ((Ev.now _).eqr ?_))
    rw [andN x hx, a1, a3, a4, a5, a6]
def castL (l : List Nat) : List Int := l.map fun x : Nat => (x : Int)
theorem castL_len (l : List Nat) : (castL l).length = l.length := List.length_map _
theorem castL_rd (l : List Nat) (j : Nat) : rd (castL l) (j : Int) = ((l.getD j 0 : Nat) : Int) := by
  rw [getD_rd]
  unfold castL
  rw [List.getD_eq_getElem?_getD, List.getD_eq_getElem?_getD, List.getElem?_map]
  cases l[j]? <;> rfl
theorem castL_set (l : List Nat) (j x : Nat) : (castL l).set j (x : Int) = castL (l.set j x) := by
  unfold castL
  rw [List.map_set]
def okS7 (sums : List Nat) : Prop := ∀ j, sums.getD j 0 < 128
set_option maxHeartbeats 2000000 in
theorem l1_red (us : List ByteArray) (seed : Int) (n i : Nat) (hi : i < 1000) (X : Int × Int × Int × ByteArray × Bool) (f : Nat) : ∀ (rows sums : List Nat) (p r s : Nat) (b : Bool) (rows' sums' : List Nat), rows.length ≤ 1000 → p ≤ 1000 + (1000 - f) → f ≤ 1000 → okK rows sums → okS7 sums → r < 65536 → s < 128 → red f rows sums p r s = some (b, rows', sums') →
    (b = true → Ev (fun k => spec_RibbonOf.l0 k us seed (n : Int) (castL rows') (castL sums') ((i + 1 : Nat) : Int)) X) → (b = false → X = (0, 0, 0, ⟨#[]⟩, false)) → Ev (fun k => spec_RibbonOf.l1 k us seed (n : Int) (castL rows) (castL sums) (i : Int) (p : Int) (r : Int) (s : Int)) X := by
  have last : ∀ (rw_ sm : List Nat) (q t : Nat), (t = 0 → Ev (fun k => spec_RibbonOf.l0 k us seed (n : Int) (castL rw_) (castL sm) ((i + 1 : Nat) : Int)) X) → (¬ t = 0 → X = (0, 0, 0, ⟨#[]⟩, false)) → Ev (fun k => spec_RibbonOf.l1 k us seed (n : Int) (castL rw_) (castL sm) (i : Int) (q : Int) ((0 : Nat) : Int) (t : Int)) X := by
    intro rw_ sm q t h1 h2
    refine Ev.step (fun k => spec_RibbonOf.l1.eq_2 ..) ?_
    rw [wsucc (i := i) (by omega)]
    refine Ev.neg (by omega) ?_
    by_cases c : t = 0
    · exact Ev.pos (by omega) (h1 c)
    · exact Ev.neg (by omega) ((Ev.now _).eqr (h2 c).symm)
  induction f with
  | zero =>
    intro rows sums p r s b rows' sums' _ _ _ _ _ _ _ h
    cases h
  | succ f ih =>
    intro rows sums p r s b rows' sums' hrl hp hf hk h7 hr hs h hT hF
    rw [red] at h
    by_cases c0 : r = 0
    · rw [if_pos c0] at h
      injection h with h
      injection h with h1 h2
      injection h2 with h2 h3
      subst h2
      subst h3
      subst c0
      exact last rows sums p s (fun c => hT (by rw [← h1]; exact decide_eq_true c)) (fun c => hF (by rw [← h1]; exact decide_eq_false c))
    rw [if_neg c0] at h
    have htm : Int.tmod (r : Int) 2 = ((r % 2 : Nat) : Int) := by rw [Int.tmod_eq_emod_of_nonneg (by omega)]; omega
    have hr0 : (r : Int) > 0 := by omega
    by_cases c1 : r % 2 = 0
    · rw [if_pos c1] at h
      have ih2 := ih rows sums (p + 1) (r / 2) s b rows' sums' hrl (by omega) (by omega) hk h7 (by omega) hs h hT hF
      have e2 : IntKind.u64.wrap (Int.tdiv (r : Int) 2) = ((r / 2 : Nat) : Int) := by rw [Int.tdiv_eq_ediv_of_nonneg (by omega), uid (by omega) (by omega)]; omega
      refine Ev.step (fun k => spec_RibbonOf.l1.eq_2 ..) ?_
      rw [htm, e2, wsucc (i := p) (by omega), c1]
      exact Ev.pos hr0 (Ev.pos rfl ih2)
    rw [if_neg c1] at h
    have c1' : ¬ ((r % 2 : Nat) : Int) = 0 := by omega
    by_cases c2 : p < rows.length
    case neg =>
      rw [if_neg c2] at h
      cases h
    rw [if_pos c2] at h
    have hl1 := castL_len rows
    have hl2 := castL_len sums
    have hsl := hk.1
    have q1 : (0 : Int) ≤ (p : Int) := by omega
    have q2 : (p : Int) < ((castL rows).length : Int) := by omega
    have q3 : (p : Int) < ((castL sums).length : Int) := by omega
    clear hl1 hl2 hsl
    by_cases c3 : rows.getD p 0 = 0
    · rw [if_pos c3] at h
      injection h with h
      injection h with h1 h2
      injection h2 with h2 h3
      subst h2
      subst h3
      have fin := last (rows.set p r) (sums.set p s) p 0 (fun _ => hT h1.symm) (fun c => absurd rfl c)
      refine Ev.step (fun k => spec_RibbonOf.l1.eq_2 ..) ?_
      rw [htm, castL_rd, c3, Int.toNat_natCast, castL_set, castL_set]
      exact Ev.pos hr0 (Ev.neg c1' (Ev.pos q1 (Ev.pos q2 (Ev.pos rfl (Ev.pos q3 fin)))))
    · rw [if_neg c3] at h
      have ho2 : rows.getD p 0 < 65536 := ((hk.2 p).resolve_left c3).2
      have hq := h7 p
      have p1 : r ^^^ rows.getD p 0 < 65536 := Nat.xor_lt_two_pow (n := 16) hr ho2
      have p2 : s ^^^ sums.getD p 0 < 128 := Nat.xor_lt_two_pow (n := 7) hs hq
      have ih2 := ih rows sums p (r ^^^ rows.getD p 0) (s ^^^ sums.getD p 0) b rows' sums' hrl (by omega) (by omega) hk h7 p1 p2 h hT hF
      have c3' : ¬ ((rows.getD p 0 : Nat) : Int) = 0 := by omega
      have x1 := xorN r (rows.getD p 0) (by omega) (by omega)
      have x2 := xorN s (sums.getD p 0) (by omega) (by omega)
      refine Ev.step (fun k => spec_RibbonOf.l1.eq_2 ..) ?_
      rw [htm, castL_rd, castL_rd, x1, x2]
      exact Ev.pos hr0 (Ev.neg c1' (Ev.pos q1 (Ev.pos q2 (Ev.neg c3' (Ev.pos q3 ih2)))))
end Go.Proofs.Ytedgdnkbojjbmaa.Pure
end

section
namespace Go.Proofs.Ytedgdnkbojjbmaa.Pure
open Go.RowKit Go.Proofs.YtedgdnkbojjbmaaW.PrintWords Go.Proofs.YtedgdnkbojjbmaaW.PrintLast Go.Proofs.YtedgdnkbojjbmaaW.PrintMore
open Go.Proofs.Ytedgdnkbojjbmaa.P
set_option linter.unusedVariables false
set_option linter.unusedSimpArgs false
theorem getD_lt {l : List Nat} {n : Nat} (h : ∀ j, l.getD j 0 < n) (i x j : Nat) (hx : x < n) : (l.set i x).getD j 0 < n := by
  by_cases c : i < l.length
  · rw [getD_set l i j x c]
    split
    · exact hx
    · exact h j
  · rw [List.set_eq_of_length_le (by omega)]
    exact h j
theorem sol_lt {B : Nat → Nat} (h : ∀ j, B j < 128) : ∀ f p r, sol B f p r < 128
  | 0, _, _ => by rw [sol]; decide
  | f + 1, p, r => by
    rw [sol]
    refine Nat.xor_lt_two_pow (n := 7) ?_ (sol_lt h f _ _)
    split
    · exact h p
    · decide
theorem sol_minus (B : Nat → Nat) (p r : Nat) (ho : r % 2 = 1) : sol B 16 p (r - 1) = sol B 15 (p + 1) (r / 2) := by
  rw [sol, if_neg (by omega), Nat.zero_xor, show (r - 1) / 2 = r / 2 from by omega]
def okZ (m : Nat) (rows sums : List Nat) : Prop := ∀ j, (rows.getD j 0 = 0 → sums.getD j 0 = 0) ∧ (j < m → rows.getD j 0 < 2 ^ (m - j))
theorem q7 (q : Nat) (hq : q < 128) : q < 18446744073709551616 ∧ ((0 : Int) ≤ (q : Int) ∧ (q : Int) ≤ 18446744073709551615) := ⟨by omega, by omega, by omega⟩
theorem wsum (m j : Nat) (h : m ≤ 1000) (h2 : j ≤ 16) : wrap64 ((m : Int) + (j : Int)) = ((m + j : Nat) : Int) := by
  rw [wid (x := (m : Int) + (j : Int)) (by omega) (by omega)]
  omega
theorem bit_in {x n m j : Nat} (hx : x < 2 ^ (n - m)) (cb : x / 2 ^ j % 2 = 1) : m + j < n := by
  have : j < n - m := by
    apply Nat.lt_of_not_le
    intro hge
    have : x < 2 ^ j := Nat.lt_of_lt_of_le hx (Nat.pow_le_pow_right (by decide) hge)
    rw [Nat.div_eq_of_lt this] at cb
    cases cb
  omega
theorem shr_bit (l : List Nat) (m j : Nat) (h : j ≤ 64) : Int.tmod (shr .u64 (rd (castL l) (m : Int)) (j : Int)) 2 = ((l.getD m 0 / 2 ^ j % 2 : Nat) : Int) := by
  have hsh : shr .u64 (rd (castL l) (m : Int)) (j : Int) = ((l.getD m 0 / 2 ^ j : Nat) : Int) := by
    unfold shr
    rw [castL_rd, show min (j : Int).toNat IntKind.u64.bits = j from by simp only [IntKind.bits]; omega, Int.natCast_ediv]
    norm_cast
  rw [hsh]
  generalize l.getD m 0 / 2 ^ j = y
  rw [Int.tmod_eq_emod_of_nonneg (by omega)]
  omega
theorem sol_step (B : Nat → Nat) (f p x j : Nat) : sol B (f + 1) p (x / 2 ^ j) = (if x / 2 ^ j % 2 = 1 then B p else 0) ^^^ sol B f (p + 1) (x / 2 ^ (j + 1)) := by
  rw [sol, Nat.pow_succ, Nat.div_div_eq_div_mul]
theorem l3_ev (seed : Int) (n : Nat) (n1 : n ≤ 1000) (rows sums bits : List Nat) (m : Nat) (hm : m < n) (hl : rows.length = n) (hbl : bits.length = n) (hb7 : ∀ j, bits.getD j 0 < 128) (hbit : ∀ j, rows.getD m 0 / 2 ^ j % 2 = 1 → m + j < n) (X : Int × Int × Int × ByteArray × Bool)
    : ∀ j, j ≤ 16 → ∀ acc : Nat, acc < 128 → Ev (fun k => spec_RibbonOf.l2 k seed (castL rows) (castL sums) (castL (bits.set m (acc ^^^ sol (fun i => bits.getD i 0) (16 - j) (m + j) (rows.getD m 0 / 2 ^ j)))) ((m : Int) - 1)) X → Ev (fun k => spec_RibbonOf.l3 k seed (castL rows) (castL sums) (castL bits) (m : Int) (acc : Int) (j : Int)) X := by
  have hl1 := castL_len rows
  have hl2 := castL_len bits
  have q1 : (0 : Int) ≤ (m : Int) := by omega
  have q2 : (m : Int) < ((castL rows).length : Int) := by omega
  have q3 : (m : Int) < ((castL bits).length : Int) := by omega
  have hw1 : wrap64 ((m : Int) - 1) = (m : Int) - 1 := wid (by omega) (by omega)
  refine downTo 16 ?_ ?_
  · intro acc ha h
    rw [Nat.sub_self, sol, Nat.xor_zero] at h
    have e8 : ((acc : Int) % 256) = (acc : Int) := by omega
    refine Ev.step (fun k => spec_RibbonOf.l3.eq_2 ..) ?_
    rw [hw1, Int.toNat_natCast, e8, castL_set]
    exact Ev.neg (by decide) (Ev.pos q1 (Ev.pos q3 h))
  · intro j hj ih acc ha h
    have hj16 : (j : Int) < 16 := by omega
    have hj0 : (0 : Int) ≤ (j : Int) := by omega
    have e16 : 16 - j = (16 - (j + 1)) + 1 := by omega
    have hm1 : m ≤ 1000 := Nat.le_of_lt (Nat.lt_of_lt_of_le hm n1)
    have hj1 : j ≤ 16 := Nat.le_of_lt hj
    have q4 : (0 : Int) ≤ ((m + j : Nat) : Int) := Int.natCast_nonneg _
    have hj64 : j ≤ 64 := Nat.le_trans hj1 (by decide)
    have hw : IntKind.u64.wrap (j : Int) = (j : Int) := uid hj0 (by omega)
    have hs : wrap64 ((j : Int) + 1) = ((j + 1 : Nat) : Int) := wsucc (Nat.lt_of_le_of_lt hj1 (by decide))
    have hwa := wsum m j hm1 hj1
    have hmlt := fun q hq => q7 q hq
    have hlen : m + j < n → ((m + j : Nat) : Int) < ((castL bits).length : Int) := fun hh => by rw [hl2, hbl]; exact_mod_cast hh
    have hb := hbit j
    have htm := shr_bit rows m j hj64
    rw [e16, sol_step, show m + j + 1 = m + (j + 1) from rfl] at h
    refine Ev.step (fun k => spec_RibbonOf.l3.eq_2 ..) ?_
    rw [hw, htm, hs]
    generalize rows.getD m 0 / 2 ^ (j + 1) = y2 at *
    generalize rows.getD m 0 / 2 ^ j = y at *
    refine Ev.pos hj16 (Ev.pos q1 (Ev.pos q2 (Ev.pos hj0 ?_)))
    by_cases cb : y % 2 = 1
    · rw [if_pos cb] at h
      have hlt := hb cb
      have hq := hb7 (m + j)
      have hxo := xorN acc (bits.getD (m + j) 0) (hmlt acc ha).1 (hmlt _ hq).1
      have hu : IntKind.u64.wrap ((bits.getD (m + j) 0 : Nat) : Int) = ((bits.getD (m + j) 0 : Nat) : Int) := uid (hmlt _ hq).2.1 (hmlt _ hq).2.2
      have q5 := hlen hlt
      rw [hwa, castL_rd, hu, hxo]
      rw [← Nat.xor_assoc] at h
      exact Ev.pos (by rw [cb]; rfl) (Ev.pos q4 (Ev.pos q5 (ih (acc ^^^ bits.getD (m + j) 0) (Nat.xor_lt_two_pow (n := 7) ha hq) h)))
    · rw [if_neg cb, Nat.zero_xor] at h
      exact Ev.neg (fun e => cb (by exact_mod_cast e)) (ih acc ha h)
end Go.Proofs.Ytedgdnkbojjbmaa.Pure
end

section
namespace Go.Proofs.Ytedgdnkbojjbmaa.Pure
open Go.RowKit Go.Proofs.YtedgdnkbojjbmaaW.PrintWords Go.Proofs.YtedgdnkbojjbmaaW.PrintLast Go.Proofs.YtedgdnkbojjbmaaW.PrintMore
open Go.Proofs.Ytedgdnkbojjbmaa.P
set_option linter.unusedVariables false
set_option linter.unusedSimpArgs false
theorem l2_ev (seed : Int) (n : Nat) (n1 : n ≤ 1000) (rows sums : List Nat) (hl : rows.length = n) (hk : okK rows sums) (h7 : okS7 sums) (hz : okZ n rows sums) : ∀ (m : Nat) (bits : List Nat), m ≤ n → bits.length = n → (∀ j, bits.getD j 0 < 128) →
    Ev (fun k => spec_RibbonOf.l2 k seed (castL rows) (castL sums) (castL bits) ((m : Int) - 1)) (2, seed, 0, strOfNums (castL (back rows sums m bits)), true)
  | 0, bits, _, _, _ => by
    refine Ev.step (fun k => spec_RibbonOf.l2.eq_2 ..) ?_
    rw [back]
    exact Ev.neg (by omega) (Ev.now _)
  | m + 1, bits, hm, hbl, hb7 => by
    have e : (((m + 1 : Nat) : Int) - 1) = (m : Int) := by omega
    have q1 : (m : Int) ≥ 0 := by omega
    have q2 : (0 : Int) ≤ (m : Int) := by omega
    have hl2 := castL_len sums
    have q3 : (m : Int) < ((castL sums).length : Int) := by have := hk.1; omega
    have hx := (hz m).2 (by omega)
    have hv : (if rows.getD m 0 = 0 then 0 else sums.getD m 0 ^^^ sol (fun j => bits.getD j 0) 16 m (rows.getD m 0 - 1)) = sums.getD m 0 ^^^ sol (fun i => bits.getD i 0) (16 - 1) (m + 1) (rows.getD m 0 / 2 ^ 1) := by
      rw [Nat.pow_one]
      by_cases c : rows.getD m 0 = 0
      · rw [if_pos c, (hz m).1 c, c, Nat.zero_div, sol_zero]
        rfl
      · rw [if_neg c, sol_minus _ m _ ((hk.2 m).resolve_left c).1]
    have hlt : (sums.getD m 0 ^^^ sol (fun i => bits.getD i 0) (16 - 1) (m + 1) (rows.getD m 0 / 2 ^ 1)) < 128 := Nat.xor_lt_two_pow (n := 7) (h7 m) (sol_lt hb7 _ _ _)
    have ih := l2_ev seed n n1 rows sums hl hk h7 hz m (bits.set m (sums.getD m 0 ^^^ sol (fun i => bits.getD i 0) (16 - 1) (m + 1) (rows.getD m 0 / 2 ^ 1))) (Nat.le_of_succ_le hm) (by rw [List.length_set]; exact hbl) (fun j => getD_lt hb7 m _ j hlt)
    have h3 := l3_ev seed n n1 rows sums bits m hm hl hbl hb7 (fun j cb => bit_in hx cb) _ 1 (by decide) (sums.getD m 0) (h7 m) ih
    rw [back, hv]
    refine Ev.step (fun k => spec_RibbonOf.l2.eq_2 ..) ?_
    rw [e, castL_rd]
    exact Ev.pos q1 (Ev.pos q2 (Ev.pos q3 h3))
def elimL (F : Nat) : List (Nat × Nat × Nat) → List Nat → List Nat → Option (Bool × List Nat × List Nat)
  | [], rows, sums => some (true, rows, sums)
  | e :: es, rows, sums => (red F rows sums e.1 e.2.1 e.2.2).bind fun t => if t.1 = true then elimL F es t.2.1 t.2.2 else some (false, t.2.1, t.2.2)
theorem elimL_sound (B : Nat → Nat) (F : Nat) : ∀ (es : List (Nat × Nat × Nat)) (rows sums rows' sums' : List Nat), okK rows sums → (∀ e ∈ es, e.2.1 < 2 ^ 16) → elimL F es rows sums = some (true, rows', sums') → okK rows' sums' ∧ rows'.length = rows.length ∧ (KH B rows' sums' → KH B rows sums ∧ ∀ e ∈ es, sol B 16 e.1 e.2.1 = e.2.2)
  | [], rows, sums, rows', sums', hk, _, h => by
    rw [elimL] at h
    injection h with h
    injection h with _ h
    injection h with h1 h2
    subst h1
    subst h2
    exact ⟨hk, rfl, fun hK => ⟨hK, fun e he => by cases he⟩⟩
  | e :: es, rows, sums, rows', sums', hk, hr, h => by
    rw [elimL] at h
    obtain ⟨⟨b, R, S⟩, ht, h⟩ := Option.bind_eq_some_iff.mp h
    cases b with
    | false =>
      replace h := (if_neg (show ¬ (false = true) by decide)).symm.trans h
      injection h with h
      injection h with h _
      cases h
    | true =>
      rw [if_pos rfl] at h
      obtain ⟨k1, l1, s1⟩ := red_sound B F rows sums e.1 e.2.1 e.2.2 R S hk (hr e (List.mem_cons_self ..)) ht
      obtain ⟨k2, l2, s2⟩ := elimL_sound B F es R S rows' sums' k1 (fun x hx => hr x (List.mem_cons_of_mem _ hx)) h
      refine ⟨k2, l2.trans l1, fun hK => ?_⟩
      obtain ⟨h1, h2⟩ := s2 hK
      obtain ⟨h3, h4⟩ := s1 h1
      refine ⟨h3, fun x hx => ?_⟩
      rcases List.mem_cons.1 hx with rfl | hx
      · exact h4
      · exact h2 x hx
theorem elimL_solves (F : Nat) (es : List (Nat × Nat × Nat)) (n : Nat) (rows' sums' : List Nat) (hr : ∀ e ∈ es, e.2.1 < 2 ^ 16) (h : elimL F es (List.replicate n 0) (List.replicate n 0) = some (true, rows', sums')) (bits : List Nat) (hb : bits.length = n) :
    ∀ e ∈ es, sol (fun i => (back rows' sums' n bits).getD i 0) 16 e.1 e.2.1 = e.2.2 := by
  have z : ∀ j, (List.replicate n 0).getD j 0 = 0 := fun j => by
    rw [List.getD_eq_getElem?_getD, List.getElem?_replicate]
    split <;> rfl
  have k0 : okK (List.replicate n 0) (List.replicate n 0) := ⟨rfl, fun j => .inl (z j)⟩
  obtain ⟨k1, l1, s1⟩ := elimL_sound (fun i => (back rows' sums' n bits).getD i 0) F es _ _ rows' sums' k0 hr h
  refine (s1 (back_solves k1 n bits (by omega) (fun j hj hne => absurd ?_ hne))).2
  rw [List.getD_eq_getElem?_getD, List.getElem?_eq_none (by rw [l1, List.length_replicate]; exact hj)]
  rfl
end Go.Proofs.Ytedgdnkbojjbmaa.Pure
end

section
namespace Go.Proofs.Ytedgdnkbojjbmaa.Pure
open Go.RowKit Go.Proofs.YtedgdnkbojjbmaaW.PrintWords Go.Proofs.YtedgdnkbojjbmaaW.PrintLast Go.Proofs.YtedgdnkbojjbmaaW.PrintMore
open Go.Proofs.Ytedgdnkbojjbmaa.P
set_option linter.unusedVariables false
set_option linter.unusedSimpArgs false
theorem half_lt {r n p : Nat} (h : r < 2 ^ (n - p)) (hp : p < n) : r / 2 < 2 ^ (n - (p + 1)) := by
  rw [show n - p = (n - (p + 1)) + 1 from by omega, Nat.pow_succ] at h
  omega
theorem pos_lt {r n p : Nat} (h : r < 2 ^ (n - p)) (h0 : ¬ r = 0) (hp : p ≤ n) : p < n := by
  apply Nat.lt_of_not_le
  intro hge
  rw [show n - p = 0 from by omega, Nat.pow_zero] at h
  omega
theorem okS7_set {sums : List Nat} (h : okS7 sums) (p s : Nat) (hs : s < 128) : okS7 (sums.set p s) := fun j => getD_lt h p s j hs
theorem okZ_set {n : Nat} {rows sums : List Nat} (hz : okZ n rows sums) (hk : okK rows sums) (p r s : Nat) (hp : p < rows.length) (h0 : ¬ r = 0) (hr : r < 2 ^ (n - p)) : okZ n (rows.set p r) (sums.set p s) := by
  intro j
  rw [getD_set rows p j r hp, getD_set sums p j s (by rw [hk.1]; exact hp)]
  by_cases e : p = j
  · subst e
    rw [if_pos rfl, if_pos rfl]
    exact ⟨fun h => absurd h h0, fun _ => hr⟩
  · rw [if_neg e, if_neg e]
    exact hz j
theorem red_total (n : Nat) : ∀ (F : Nat) (rows sums : List Nat) (p r s : Nat), rows.length = n → okK rows sums → okS7 sums → okZ n rows sums → p ≤ n → r < 2 ^ (n - p) → r < 2 ^ 16 → s < 128 → 2 * (n - p) + r % 2 < F → ∃ b R S, red F rows sums p r s = some (b, R, S) ∧ R.length = n ∧ okK R S ∧ okS7 S ∧ okZ n R S
  | 0, _, _, _, _, _, _, _, _, _, _, _, _, _, h => absurd h (Nat.not_lt_zero _)
  | F + 1, rows, sums, p, r, s, hl, hk, h7, hz, hp, hr, hr16, hs, hF => by
    rw [red]
    by_cases c0 : r = 0
    · rw [if_pos c0]
      exact ⟨_, rows, sums, rfl, hl, hk, h7, hz⟩
    rw [if_neg c0]
    have hlt := pos_lt hr c0 hp
    by_cases c1 : r % 2 = 0
    · rw [if_pos c1]
      have hh := half_lt hr hlt
      have h16 : r / 2 < 2 ^ 16 := Nat.lt_of_le_of_lt (Nat.div_le_self _ _) hr16
      have hm : 2 * (n - (p + 1)) + r / 2 % 2 < F := by
        clear hr hr16 hh h16
        omega
      exact red_total n F rows sums (p + 1) (r / 2) s hl hk h7 hz hlt hh h16 hs hm
    rw [if_neg c1, if_pos (by rw [hl]; exact hlt)]
    by_cases c3 : rows.getD p 0 = 0
    · rw [if_pos c3]
      have ho : r % 2 = 1 := by
        clear hr hr16
        omega
      exact ⟨_, _, _, rfl, by rw [List.length_set]; exact hl, okK_set hk p r s (by rw [hl]; exact hlt) ho hr16, okS7_set h7 p s hs, okZ_set hz hk p r s (by rw [hl]; exact hlt) c0 hr⟩
    · rw [if_neg c3]
      have ho := (hk.2 p).resolve_left c3
      have he := xorEven r (rows.getD p 0) (by clear hr hr16; omega) ho.1
      have hm : 2 * (n - p) + (r ^^^ rows.getD p 0) % 2 < F := by
        rw [he]
        clear hr hr16
        omega
      exact red_total n F rows sums p (r ^^^ rows.getD p 0) (s ^^^ sums.getD p 0) hl hk h7 hz hp (Nat.xor_lt_two_pow hr ((hz p).2 hlt)) (Nat.xor_lt_two_pow hr16 ho.2) (Nat.xor_lt_two_pow (n := 7) hs (h7 p)) hm
def okE (n : Nat) (e : Nat × Nat × Nat) : Prop := e.1 ≤ n - 16 ∧ e.2.1 < 2 ^ 16 ∧ e.2.1 % 2 = 1 ∧ e.2.2 < 128
theorem elimL_total (n : Nat) (hn : 16 ≤ n) (F : Nat) (hF : 2 * n + 2 ≤ F) : ∀ (es : List (Nat × Nat × Nat)) (rows sums : List Nat), rows.length = n → okK rows sums → okS7 sums → okZ n rows sums → (∀ e ∈ es, okE n e) → ∃ b R S, elimL F es rows sums = some (b, R, S) ∧ R.length = n ∧ okK R S ∧ okS7 S ∧ okZ n R S
  | [], rows, sums, hl, hk, h7, hz, _ => ⟨true, rows, sums, rfl, hl, hk, h7, hz⟩
  | e :: es, rows, sums, hl, hk, h7, hz, he => by
    obtain ⟨e1, e2, e3, e4⟩ := he e (List.mem_cons_self ..)
    obtain ⟨b, R, S, h, hl2, hk2, h72, hz2⟩ := red_total n F rows sums e.1 e.2.1 e.2.2 hl hk h7 hz (by omega) (Nat.lt_of_lt_of_le e2 (Nat.pow_le_pow_right (by decide) (by omega))) e2 e4 (by omega)
    rw [elimL, h, Option.bind_some]
    cases b with
    | true =>
      rw [if_pos rfl]
      exact elimL_total n hn F hF es R S hl2 hk2 h72 hz2 (fun x hx => he x (List.mem_cons_of_mem _ hx))
    | false => exact ⟨false, R, S, if_neg (show ¬ (false = true) by decide), hl2, hk2, h72, hz2⟩
end Go.Proofs.Ytedgdnkbojjbmaa.Pure
end

section
namespace Go.Proofs.Ytedgdnkbojjbmaa.Pure
open Go.RowKit Go.Proofs.YtedgdnkbojjbmaaW.PrintWords Go.Proofs.YtedgdnkbojjbmaaW.PrintLast Go.Proofs.YtedgdnkbojjbmaaW.PrintMore
open Go.Proofs.Ytedgdnkbojjbmaa.P
set_option linter.unusedVariables false
set_option linter.unusedSimpArgs false
def zerosN (n : Nat) : List Nat := List.replicate n 0
theorem zerosN_get (n j : Nat) : (zerosN n).getD j 0 = 0 := by
  unfold zerosN
  rw [List.getD_eq_getElem?_getD, List.getElem?_replicate]
  split <;> rfl
theorem zerosN_cast (n : Nat) : castL (zerosN n) = List.replicate n (0 : Int) := by
  unfold castL zerosN
  rw [List.map_replicate]
  rfl
def ribE (seed : Int) (n : Nat) (t : Bool × List Nat × List Nat) : Int × Int × Int × ByteArray × Bool := if t.1 = true then (2, seed, 0, strOfNums (castL (back t.2.1 t.2.2 n (zerosN n))), true) else (0, 0, 0, ⟨#[]⟩, false)
theorem l0_ev (us : List ByteArray) (hus : us.length ≤ 900) (seed : Int) (n : Nat) (n0 : 20 ≤ n) (n1 : n ≤ 490) : ∀ (es : List (Nat × Nat × Nat)) (i : Nat) (rows sums : List Nat) (t : Bool × List Nat × List Nat), i + es.length = us.length → (∀ (j : Nat) (hj : j < es.length), Ev (fun k => spec_l4Row.f k (rdOf ByteArray.empty us ((i + j : Nat) : Int)) seed (n : Int)) (((es[j]).1 : Int), ((es[j]).2.1 : Int), ((es[j]).2.2 : Int))) →
    rows.length = n → okK rows sums → okS7 sums → okZ n rows sums → (∀ e ∈ es, okE n e) → elimL (2 * n + 2) es rows sums = some t → Ev (fun k => spec_RibbonOf.l0 k us seed (n : Int) (castL rows) (castL sums) (i : Int)) (ribE seed n t)
  | [], i, rows, sums, t, hi, _, hl, hk, h7, hz, _, h => by
    rw [elimL] at h
    injection h with h
    subst h
    rw [List.length_nil, Nat.add_zero] at hi
    have h2 := l2_ev seed n (by omega) rows sums hl hk h7 hz n (zerosN n) (Nat.le_refl _) (by unfold zerosN; simp) (fun j => by rw [zerosN_get]; decide)
    rw [zerosN_cast] at h2
    have e1 : (n : Int).toNat ≤ 281474976710656 := by omega
    have e2 : ¬ ((i : Int) < (us.length : Int)) := by omega
    have e3 : (0 : Int) ≤ (n : Int) := by omega
    have hw : wrap64 ((n : Int) - 1) = (n : Int) - 1 := wid (by omega) (by omega)
    refine Ev.step (fun k => spec_RibbonOf.l0.eq_2 ..) ?_
    rw [hw]
    refine Ev.neg e2 (Ev.pos e3 (Ev.pos e1 ?_))
    rw [Int.toNat_natCast]
    exact h2
  | e :: es, i, rows, sums, t, hi, he, hl, hk, h7, hz, hE, h => by
    rw [List.length_cons] at hi
    obtain ⟨e1, e2, e3, e4⟩ := hE e (List.mem_cons_self ..)
    have hpw : 2 ^ 16 ≤ 2 ^ (n - e.1) := Nat.pow_le_pow_right (by decide) (by omega)
    obtain ⟨b, R, S, hr, hl2, hk2, h72, hz2⟩ := red_total n (2 * n + 2) rows sums e.1 e.2.1 e.2.2 hl hk h7 hz (by omega) (Nat.lt_of_lt_of_le e2 hpw) e2 e4 (by omega)
    clear hpw
    rw [elimL, hr, Option.bind_some] at h
    have h0 := he 0 (Nat.succ_pos _)
    have i1 : (i : Int) < (us.length : Int) := by omega
    have i2 : (0 : Int) ≤ (i : Int) := by omega
    have hb : b = true → Ev (fun k => spec_RibbonOf.l0 k us seed (n : Int) (castL R) (castL S) ((i + 1 : Nat) : Int)) (ribE seed n t) := by
      intro hb
      rw [if_pos hb] at h
      exact l0_ev us hus seed n n0 n1 es (i + 1) R S t (by omega) (fun j hj => by
        have := he (j + 1) (by rw [List.length_cons]; omega)
        rw [show i + (j + 1) = i + 1 + j from by omega] at this
        exact this) hl2 hk2 h72 hz2 (fun x hx => hE x (List.mem_cons_of_mem _ hx)) h
    have hb2 : b = false → ribE seed n t = (0, 0, 0, ⟨#[]⟩, false) := by
      intro hb
      subst hb
      replace h := (if_neg (show ¬ (false = true) by decide)).symm.trans h
      injection h with h
      subst h
      rfl
    have h1 := l1_red us seed n i (by omega) (ribE seed n t) (2 * n + 2) rows sums e.1 e.2.1 e.2.2 b R S (by omega) (by omega) (by omega) hk h7 e2 e4 hr hb hb2
    refine Ev.step (fun k => spec_RibbonOf.l0.eq_2 ..) ?_
    exact Ev.pos i1 (Ev.pos i2 (Ev.bind h0 h1))
end Go.Proofs.Ytedgdnkbojjbmaa.Pure
end

section
namespace Go.Proofs.Ytedgdnkbojjbmaa.Pure
open Go.RowKit Go.Proofs.YtedgdnkbojjbmaaW.PrintWords Go.Proofs.YtedgdnkbojjbmaaW.PrintLast Go.Proofs.YtedgdnkbojjbmaaW.PrintMore
open Go.Proofs.Ytedgdnkbojjbmaa.P
set_option linter.unusedVariables false
set_option linter.unusedSimpArgs false
def usOk (us : List ByteArray) : Prop := us.length ≤ 400 ∧ ∀ u ∈ us, isU u
noncomputable instance (us : List ByteArray) : Decidable (usOk us) := Classical.propDecidable _
def usFrom (us : List ByteArray) (i : Nat) : Prop := ∀ u ∈ us.drop i, isU u
noncomputable instance (us : List ByteArray) (i : Nat) : Decidable (usFrom us i) := Classical.propDecidable _
theorem rdOf_get {us : List ByteArray} {i : Nat} (h : i < us.length) : rdOf ByteArray.empty us (i : Int) = us[i] := by
  unfold rdOf
  rw [Int.toNat_natCast, List.getD_eq_getElem?_getD, List.getElem?_eq_getElem h]
  rfl
theorem usFrom_step {us : List ByteArray} {i : Nat} (h : i < us.length) : usFrom us i ↔ isU us[i] ∧ usFrom us (i + 1) := by
  unfold usFrom
  rw [List.drop_eq_getElem_cons h]
  constructor
  · exact fun hh => ⟨hh _ (List.mem_cons_self ..), fun u hu => hh u (List.mem_cons_of_mem _ hu)⟩
  · intro hh u hu
    rcases List.mem_cons.1 hu with rfl | hu
    · exact hh.1
    · exact hh.2 u hu
theorem users2_ev (us : List ByteArray) (hl : us.length ≤ 1000) : Ev (fun k => spec_UsersOk.f k us) (decide (usOk us)) ∧ Ev (fun k => impl_UsersOk.f k us) (decide (usOk us)) := by
  unfold spec_UsersOk.f impl_UsersOk.f
  by_cases c : (us.length : Int) > 400
  · have hn : ¬ usOk us := fun h => by have := h.1; omega
    rw [decide_eq_false hn]
    exact ⟨Ev.pos c (Ev.now _), Ev.pos c (Ev.now _)⟩
  have key : ∀ i, i ≤ us.length → Ev (fun k => spec_UsersOk.l0 k us (i : Int)) (decide (usFrom us i)) ∧ Ev (fun k => impl_UsersOk.l0 k us (us.length : Int) (i : Int)) (decide (usFrom us i)) := by
    refine downTo us.length ?_ ?_
    · have hd : usFrom us us.length := fun u hu => by rw [List.drop_length] at hu; cases hu
      rw [decide_eq_true hd]
      constructor
      · refine Ev.step (fun k => spec_UsersOk.l0.eq_2 ..) ?_
        exact Ev.neg (by omega) (Ev.now _)
      · refine Ev.step (fun k => impl_UsersOk.l0.eq_2 ..) ?_
        exact Ev.neg (by omega) (Ev.now _)
    · intro i hi ih
      have hs := usFrom_step hi
      have i1 : (i : Int) < (us.length : Int) := by omega
      have i2 : (0 : Int) ≤ (i : Int) := by omega
      by_cases cu : isU us[i]
      · have e : decide (usFrom us i) = decide (usFrom us (i + 1)) := decide_eq_decide.2 ⟨fun h => (hs.1 h).2, fun h => hs.2 ⟨cu, h⟩⟩
        rw [e]
        constructor
        · refine Ev.step (fun k => spec_UsersOk.l0.eq_2 ..) ?_
          rw [rdOf_get hi, wsucc (by omega)]
          exact Ev.pos i1 (Ev.pos i2 (Ev.bindS (l2User_ev _) (Ev.pos (decide_eq_true cu) ih.1)))
        · refine Ev.step (fun k => impl_UsersOk.l0.eq_2 ..) ?_
          rw [rdOf_get hi, wsucc (by omega)]
          exact Ev.pos i1 (Ev.pos i2 (Ev.pos i1 (Ev.bindS (isUser_ev _) (Ev.pos (decide_eq_true cu) ih.2))))
      · have e : decide (usFrom us i) = false := decide_eq_false (fun h => cu (hs.1 h).1)
        rw [e]
        constructor
        · refine Ev.step (fun k => spec_UsersOk.l0.eq_2 ..) ?_
          rw [rdOf_get hi]
          exact Ev.pos i1 (Ev.pos i2 (Ev.bindS (l2User_ev _) (Ev.neg (by simp [cu]) (Ev.now _))))
        · refine Ev.step (fun k => impl_UsersOk.l0.eq_2 ..) ?_
          rw [rdOf_get hi]
          exact Ev.pos i1 (Ev.pos i2 (Ev.pos i1 (Ev.bindS (isUser_ev _) (Ev.neg (by simp [cu]) (Ev.now _)))))
  have h0 := key 0 (Nat.zero_le _)
  have e : decide (usFrom us 0) = decide (usOk us) := decide_eq_decide.2 ⟨fun h => ⟨by omega, fun u hu => h u (by rw [List.drop_zero]; exact hu)⟩, fun h u hu => h.2 u (by rw [List.drop_zero] at hu; exact hu)⟩
  rw [e] at h0
  exact ⟨Ev.neg c h0.1, Ev.neg c h0.2⟩
theorem eqns_ex (seed : Int) (n : Nat) (n0 : 20 ≤ n) (n1 : n ≤ 1000) : ∀ us : List ByteArray, (∀ u ∈ us, u.size ≤ 1000000) → ∃ es : List (Nat × Nat × Nat), es.length = us.length ∧ ∀ (j : Nat) (hj : j < es.length) (hj2 : j < us.length), Ev (fun k => spec_l4Row.f k us[j] seed (n : Int)) (((es[j]).1 : Int), ((es[j]).2.1 : Int), ((es[j]).2.2 : Int)) ∧ Ev (fun k => impl_equationOf.f k us[j] seed (n : Int)) (((es[j]).1 : Int), ((es[j]).2.1 : Int), ((es[j]).2.2 : Int)) ∧ okE n es[j]
  | [], _ => ⟨[], rfl, fun j hj => absurd hj (Nat.not_lt_zero _)⟩
  | u :: us, h => by
    obtain ⟨p, r, s, h1, h2, h3, h4, h5, h6⟩ := eqn_ev u (h u (List.mem_cons_self ..)) seed n n0 n1
    obtain ⟨es, hl, he⟩ := eqns_ex seed n n0 n1 us (fun x hx => h x (List.mem_cons_of_mem _ hx))
    refine ⟨(p, r, s) :: es, by rw [List.length_cons, List.length_cons, hl], fun j hj hj2 => ?_⟩
    cases j with
    | zero => exact ⟨h1, h2, h3, h4, h5, h6⟩
    | succ j => exact he j (Nat.lt_of_succ_lt_succ hj) (Nat.lt_of_succ_lt_succ hj2)
end Go.Proofs.Ytedgdnkbojjbmaa.Pure
end

section
namespace Go.Proofs.Ytedgdnkbojjbmaa.Pure
open Go.RowKit Go.Proofs.YtedgdnkbojjbmaaW.PrintWords Go.Proofs.YtedgdnkbojjbmaaW.PrintLast Go.Proofs.YtedgdnkbojjbmaaW.PrintMore
open Go.Proofs.Ytedgdnkbojjbmaa.P
set_option linter.unusedVariables false
set_option linter.unusedSimpArgs false
def ribN (us : List ByteArray) : Nat := us.length + us.length / 4 + 20
theorem specRib_ev (us : List ByteArray) (h15 : us.length ≤ 15) (hu : usOk us) (seed : Int) (hs : 0 ≤ seed ∧ seed ≤ 3) : ∃ (es : List (Nat × Nat × Nat)) (t : Bool × List Nat × List Nat), es.length = us.length ∧ (∀ (j : Nat) (hj : j < es.length) (hj2 : j < us.length), Ev (fun k => impl_equationOf.f k us[j] seed (ribN us : Int)) (((es[j]).1 : Int), ((es[j]).2.1 : Int), ((es[j]).2.2 : Int)) ∧ okE (ribN us) es[j]) ∧
    elimL (2 * ribN us + 2) es (zerosN (ribN us)) (zerosN (ribN us)) = some t ∧ t.2.1.length = ribN us ∧ okK t.2.1 t.2.2 ∧ okS7 t.2.2 ∧ Ev (fun k => spec_RibbonOf.f k us seed) (ribE seed (ribN us) t) := by
  have n0 : 20 ≤ ribN us := by unfold ribN; omega
  have n1 : ribN us ≤ 100 := by unfold ribN; omega
  have en : wrap64 ((wrap64 ((us.length : Int) + (wrap64 ((us.length : Int) / 4)))) + 20) = (ribN us : Int) := by
    unfold ribN
    rw [wid (x := (us.length : Int) / 4) (by omega) (by omega), wid (x := (us.length : Int) + (us.length : Int) / 4) (by omega) (by omega), wid (by omega) (by omega)]
    omega
  obtain ⟨es, hl, he⟩ := eqns_ex seed (ribN us) n0 (by omega) us (fun u hx => by have := hu.2 u hx; unfold isU at this; omega)
  have hE : ∀ e ∈ es, okE (ribN us) e := by
    intro e hx
    obtain ⟨j, hj, rfl⟩ := List.getElem_of_mem hx
    exact (he j hj (by omega)).2.2
  have k0 : okK (zerosN (ribN us)) (zerosN (ribN us)) := ⟨rfl, fun j => .inl (zerosN_get _ j)⟩
  have k1 : okS7 (zerosN (ribN us)) := fun j => by rw [zerosN_get]; decide
  have k2 : okZ (ribN us) (zerosN (ribN us)) (zerosN (ribN us)) := fun j => ⟨fun _ => zerosN_get _ j, fun _ => by rw [zerosN_get]; exact Nat.two_pow_pos _⟩
  have kl : (zerosN (ribN us)).length = ribN us := by unfold zerosN; simp
  obtain ⟨b, R, S, ht, hR, hk, h7, hz⟩ := elimL_total (ribN us) (by omega) (2 * ribN us + 2) (by omega) es _ _ kl k0 k1 k2 hE
  have h0 := l0_ev us (by omega) seed (ribN us) n0 (by omega) es 0 _ _ (b, R, S) (by omega) (fun j hj => by
    have := (he j hj (by omega)).1
    rw [Nat.zero_add, rdOf_get (show j < us.length by omega)]
    exact this) kl k0 k1 k2 hE ht
  rw [zerosN_cast] at h0
  refine ⟨es, (b, R, S), hl, fun j hj hj2 => ⟨(he j hj hj2).2.1, (he j hj hj2).2.2⟩, ht, hR, hk, h7, ?_⟩
  have hin := in_ev seed 0 3
  rw [decide_eq_true hs] at hin
  have hus := (users2_ev us (by omega)).1
  rw [decide_eq_true hu] at hus
  have q1 : (0 : Int) ≤ (ribN us : Int) := by omega
  have q2 : ribN us ≤ 35184372088832 := by omega
  unfold spec_RibbonOf.f
  refine Ev.bind hus (Ev.pos rfl (Ev.bindS hin ?_))
  refine Ev.step (fun k => spec_RibbonOf.j0.eq_2 ..) ?_
  rw [en, Int.toNat_natCast]
  exact Ev.neg (by decide) (Ev.pos q1 (Ev.pos q2 h0))
theorem rib_solved {us : List ByteArray} {es : List (Nat × Nat × Nat)} {t : Bool × List Nat × List Nat} (hE : ∀ e ∈ es, okE (ribN us) e) (ht : elimL (2 * ribN us + 2) es (zerosN (ribN us)) (zerosN (ribN us)) = some t) (hb : t.1 = true) :
    ∀ e ∈ es, sol (fun i => (back t.2.1 t.2.2 (ribN us) (zerosN (ribN us))).getD i 0) 16 e.1 e.2.1 = e.2.2 := by
  obtain ⟨b, R, S⟩ := t
  replace hb : b = true := hb
  subst hb
  exact elimL_solves (2 * ribN us + 2) es (ribN us) R S (fun e he => (hE e he).2.1) ht (zerosN (ribN us)) (by unfold zerosN; simp)
end Go.Proofs.Ytedgdnkbojjbmaa.Pure
end

section
namespace Go.Proofs.Ytedgdnkbojjbmaa.Pure
open Go.RowKit Go.Proofs.YtedgdnkbojjbmaaW.PrintWords Go.Proofs.YtedgdnkbojjbmaaW.PrintLast Go.Proofs.YtedgdnkbojjbmaaW.PrintMore
open Go.Proofs.Ytedgdnkbojjbmaa.P
set_option linter.unusedVariables false
set_option linter.unusedSimpArgs false
theorem and1N (a : Nat) (ha : a < 18446744073709551616) : Go.bits .and .u64 (a : Int) 1 = ((a % 2 : Nat) : Int) := by
  show IntKind.u64.wrap ((BitVec.ofInt 64 (a : Int) &&& BitVec.ofInt 64 ((1 : Nat) : Int)).toNat : Int) = _
  rw [BitVec.toNat_and, toNat64 a ha, toNat64 1 (by decide), u64w, show (1 : Nat) = 2 ^ 1 - 1 from rfl, Nat.and_two_pow_sub_one_eq_mod, Nat.pow_one]
  omega
theorem toNat8 (a : Nat) (ha : a < 256) : (BitVec.ofInt 8 (a : Int)).toNat = a := by
  rw [BitVec.ofInt_natCast, BitVec.toNat_ofNat]
  exact Nat.mod_eq_of_lt (by omega)
theorem xor8N (a b : Nat) (ha : a < 128) (hb : b < 128) : Go.bits .xor .u8 (a : Int) (b : Int) = ((a ^^^ b : Nat) : Int) := by
  have hx : a ^^^ b < 2 ^ 7 := Nat.xor_lt_two_pow (by omega) (by omega)
  show IntKind.u8.wrap ((BitVec.ofInt 8 (a : Int) ^^^ BitVec.ofInt 8 (b : Int)).toNat : Int) = _
  rw [BitVec.toNat_xor, toNat8 a (by omega), toNat8 b (by omega), show IntKind.u8.wrap ((a ^^^ b : Nat) : Int) = ((a ^^^ b : Nat) : Int) % 256 from by simp [IntKind.wrap, IntKind.bits, IntKind.signed]]
  omega
theorem solve_ev (bits : List Nat) (hb7 : ∀ j, bits.getD j 0 < 128) : ∀ (f p r acc : Nat), f ≤ 16 → p ≤ 100000 - f → r < 2 ^ f → r < 65536 → acc < 128 → (∀ j, r / 2 ^ j % 2 = 1 → p + j < bits.length) → Ev (fun k => impl_solve.l0 k (castL bits) (p : Int) (r : Int) (acc : Int)) ((acc ^^^ sol (fun i => bits.getD i 0) f p r : Nat) : Int)
  | 0, p, r, acc, _, _, hr, _, _, _ => by
    have : r = 0 := by simpa using hr
    subst this
    refine Ev.step (fun k => impl_solve.l0.eq_2 ..) ?_
    rw [sol, Nat.xor_zero]
    exact Ev.pos rfl (Ev.now _)
  | f + 1, p, r, acc, hf, hp, hr, hr16, ha, hbit => by
    by_cases c0 : r = 0
    · subst c0
      refine Ev.step (fun k => impl_solve.l0.eq_2 ..) ?_
      rw [sol_zero, Nat.xor_zero]
      exact Ev.pos rfl (Ev.now _)
    have hh : r / 2 < 2 ^ f := by rw [Nat.pow_succ] at hr; omega
    have h16 : r / 2 < 65536 := Nat.lt_of_le_of_lt (Nat.div_le_self _ _) hr16
    have hb2 : ∀ j, r / 2 / 2 ^ j % 2 = 1 → p + 1 + j < bits.length := fun j hj => by
      have := hbit (j + 1) (by rw [Nat.pow_succ, Nat.mul_comm, ← Nat.div_div_eq_div_mul]; exact hj)
      rw [show p + 1 + j = p + (j + 1) from by rw [Nat.add_assoc, Nat.add_comm 1 j]]
      exact this
    have hf2 : f ≤ 16 := Nat.le_of_succ_le hf
    have hp2 : p + 1 ≤ 100000 - f := by clear hr hh hbit hb2; omega
    have hpl : p < 4611686018427387904 := by clear hr hh hbit hb2; omega
    have ih := solve_ev bits hb7 f (p + 1) (r / 2)
    have e1 := and1N r (Nat.lt_of_lt_of_le hr16 (by decide))
    have e2 : (r : Int) / 2 = ((r / 2 : Nat) : Int) := by omega
    have q0 : ¬ (r : Int) = 0 := by omega
    have q1 : (0 : Int) ≤ (p : Int) := by omega
    have hw := wsucc hpl
    rw [sol]
    refine Ev.step (fun k => impl_solve.l0.eq_2 ..) ?_
    rw [e1, e2, hw]
    refine Ev.neg q0 ?_
    by_cases c1 : r % 2 = 1
    · have hlt := hbit 0 (by rw [Nat.pow_zero, Nat.div_one]; exact c1)
      rw [Nat.add_zero] at hlt
      have q2 : (p : Int) < ((castL bits).length : Int) := by rw [castL_len]; exact_mod_cast hlt
      have hx := xor8N acc (bits.getD p 0) ha (hb7 p)
      rw [if_pos c1, castL_rd, hx, ← Nat.xor_assoc]
      exact Ev.pos (by rw [c1]; rfl) (Ev.pos q1 (Ev.pos q2 (ih (acc ^^^ bits.getD p 0) hf2 hp2 hh h16 (Nat.xor_lt_two_pow (n := 7) ha (hb7 p)) hb2)))
    · rw [if_neg c1, Nat.zero_xor]
      exact Ev.neg (fun e => c1 (by exact_mod_cast e)) (ih acc hf2 hp2 hh h16 ha hb2)
end Go.Proofs.Ytedgdnkbojjbmaa.Pure
end

section
namespace Go.Proofs.Ytedgdnkbojjbmaa.Pure
open Go.RowKit Go.Proofs.YtedgdnkbojjbmaaW.PrintWords Go.Proofs.YtedgdnkbojjbmaaW.PrintLast Go.Proofs.YtedgdnkbojjbmaaW.PrintMore
open Go.Proofs.Ytedgdnkbojjbmaa.P
set_option linter.unusedVariables false
set_option linter.unusedSimpArgs false
theorem bv_andnot1 (x : BitVec 64) : x &&& ~~~(1#64) = x ^^^ (x &&& 1#64) := by
  apply BitVec.eq_of_getLsbD_eq
  intro i hi
  simp only [BitVec.getLsbD_and, BitVec.getLsbD_not, BitVec.getLsbD_xor, hi, decide_true, Bool.true_and]
  cases x.getLsbD i <;> cases (1#64).getLsbD i <;> rfl
theorem xor1_odd (r : Nat) (ho : r % 2 = 1) : r ^^^ 1 = r - 1 := by
  have h1 := xor_mod2 r 1
  have h2 := xor_div2 r 1
  rw [ho, show (1 % 2) = 1 from rfl, Nat.xor_self] at h1
  rw [show 1 / 2 = 0 from rfl, Nat.xor_zero] at h2
  generalize r ^^^ 1 = y at h1 h2
  omega
theorem andNot1N (r : Nat) (hr : r < 65536) (ho : r % 2 = 1) : Go.bits .andNot .u64 (r : Int) 1 = ((r - 1 : Nat) : Int) := by
  show IntKind.u64.wrap ((BitVec.ofInt 64 (r : Int) &&& ~~~ BitVec.ofInt 64 ((1 : Nat) : Int)).toNat : Int) = _
  rw [show BitVec.ofInt 64 ((1 : Nat) : Int) = 1#64 from rfl, bv_andnot1, BitVec.toNat_xor, BitVec.toNat_and, toNat64 r (by omega), u64w, show (1#64).toNat = 2 ^ 1 - 1 from rfl, Nat.and_two_pow_sub_one_eq_mod, Nat.pow_one, ho, xor1_odd r ho]
  omega
structure InvK (n : Nat) (rows sums : List Nat) : Prop where
  hl : rows.length = n
  hk : okK rows sums
  h7 : okS7 sums
  hz : okZ n rows sums
theorem InvK.ls {n : Nat} {rows sums : List Nat} (h : InvK n rows sums) : sums.length = n := h.hk.1.trans h.hl
theorem InvK.zeros (n : Nat) : InvK n (zerosN n) (zerosN n) :=
  ⟨by unfold zerosN; simp, ⟨rfl, fun j => .inl (zerosN_get _ j)⟩, fun j => by rw [zerosN_get]; decide, fun j => ⟨fun _ => zerosN_get _ j, fun _ => by rw [zerosN_get]; exact Nat.two_pow_pos _⟩⟩
structure RedSt (n f : Nat) (rows sums : List Nat) (p r s : Nat) (t : Bool × List Nat × List Nat) : Prop where
  h : red f rows sums p r s = some t
  hp : p ≤ n
  hr : r < 2 ^ (n - p)
  h16 : r < 65536
  hs : s < 128
section
variable {n f : Nat} {rows sums : List Nat} {p r s : Nat} {t : Bool × List Nat × List Nat}
theorem RedSt.pos (h : RedSt n f rows sums p r s t) : ∃ g, f = g + 1 := by
  cases f with
  | zero => have := h.h; rw [red] at this; cases this
  | succ g => exact ⟨g, rfl⟩
theorem RedSt.done (h : RedSt n f rows sums p 0 s t) : t = (decide (s = 0), rows, sums) := by
  obtain ⟨g, rfl⟩ := h.pos
  have := h.h
  rw [red, if_pos rfl] at this
  exact (Option.some.inj this).symm
theorem RedSt.lt (h : RedSt n f rows sums p r s t) (h0 : ¬ r = 0) : p < n := pos_lt h.hr h0 h.hp
theorem RedSt.even (h : RedSt n (f + 1) rows sums p r s t) (h0 : ¬ r = 0) (he : r % 2 = 0) : RedSt n f rows sums (p + 1) (r / 2) s t := by
  have hh := h.h
  rw [red, if_neg h0, if_pos he] at hh
  exact ⟨hh, h.lt h0, half_lt h.hr (h.lt h0), Nat.lt_of_le_of_lt (Nat.div_le_self _ _) h.h16, h.hs⟩
theorem RedSt.hit (hI : InvK n rows sums) (h : RedSt n (f + 1) rows sums p r s t) (h0 : ¬ r = 0) (he : ¬ r % 2 = 0) (hz : rows.getD p 0 = 0) : t = (true, rows.set p r, sums.set p s) := by
  have hh := h.h
  rw [red, if_neg h0, if_neg he, if_pos (by rw [hI.hl]; exact h.lt h0), if_pos hz] at hh
  exact (Option.some.inj hh).symm
theorem RedSt.miss (hI : InvK n rows sums) (h : RedSt n (f + 1) rows sums p r s t) (h0 : ¬ r = 0) (he : ¬ r % 2 = 0) (hz : ¬ rows.getD p 0 = 0) : RedSt n f rows sums p (r ^^^ rows.getD p 0) (s ^^^ sums.getD p 0) t := by
  have hh := h.h
  rw [red, if_neg h0, if_neg he, if_pos (by rw [hI.hl]; exact h.lt h0), if_neg hz] at hh
  have ho := (hI.hk.2 p).resolve_left hz
  exact ⟨hh, h.hp, Nat.xor_lt_two_pow h.hr ((hI.hz p).2 (h.lt h0)), Nat.xor_lt_two_pow (n := 16) h.h16 ho.2, Nat.xor_lt_two_pow (n := 7) h.hs (hI.h7 p)⟩
theorem InvK.r16 (hI : InvK n rows sums) (j : Nat) : rows.getD j 0 < 65536 := by
  rcases hI.hk.2 j with h | h
  · rw [h]; decide
  · exact h.2
end
def EqAt (k : Nat) (us : List ByteArray) (seed : Int) (n : Nat) (es : List (Nat × Nat × Nat)) : Prop := es.length = us.length ∧ ∀ (j : Nat) (hj : j < es.length) (hj2 : j < us.length), impl_equationOf.f k us[j] seed (n : Int) = some (((es[j]).1 : Int), ((es[j]).2.1 : Int), ((es[j]).2.2 : Int)) ∧ okE n es[j]
theorem us_step {k : Nat} {us : List ByteArray} {seed : Int} {n i : Nat} {es : List (Nat × Nat × Nat)} {rows sums : List Nat} {t : Bool × List Nat × List Nat} (hE : EqAt k us seed n es) (hn : 16 ≤ n) (hi : i < us.length) (hI : InvK n rows sums) (h : elimL (2 * n + 2) (es.drop i) rows sums = some t) :
    ∃ (p r s : Nat) (b : Bool) (R S : List Nat), impl_equationOf.f k us[i] seed (n : Int) = some ((p : Int), (r : Int), (s : Int)) ∧ RedSt n (2 * n + 2) rows sums p r s (b, R, S) ∧ InvK n R S ∧ (b = true → elimL (2 * n + 2) (es.drop (i + 1)) R S = some t) ∧ (b = false → ribE seed n t = (0, 0, 0, ⟨#[]⟩, false)) := by
  have hj : i < es.length := by rw [hE.1]; exact hi
  obtain ⟨h1, e1, e2, e3, e4⟩ := hE.2 i hj hi
  rw [List.drop_eq_getElem_cons hj, elimL] at h
  generalize es[i] = e at h h1 e1 e2 e3 e4
  have hpw : e.2.1 < 2 ^ (n - e.1) := Nat.lt_of_lt_of_le e2 (Nat.pow_le_pow_right (by decide) (by omega))
  have hp : e.1 ≤ n := Nat.le_trans e1 (Nat.sub_le _ _)
  obtain ⟨b, R, S, hr, hl2, hk2, h72, hz2⟩ := red_total n (2 * n + 2) rows sums e.1 e.2.1 e.2.2 hI.hl hI.hk hI.h7 hI.hz hp hpw e2 e4 (by clear hpw e2; omega)
  rw [hr, Option.bind_some] at h
  refine ⟨e.1, e.2.1, e.2.2, b, R, S, h1, ⟨hr, hp, hpw, e2, e4⟩, ⟨hl2, hk2, h72, hz2⟩, fun hb => ?_, fun hb => ?_⟩
  · rw [if_pos hb] at h
    exact h
  · subst hb
    replace h := (if_neg (show ¬ (false = true) by decide)).symm.trans h
    rw [← Option.some.inj h]
    rfl
theorem us_end {us : List ByteArray} {seed : Int} {n : Nat} {es : List (Nat × Nat × Nat)} {rows sums : List Nat} {t : Bool × List Nat × List Nat} (hl : es.length = us.length) (h : elimL (2 * n + 2) (es.drop us.length) rows sums = some t) : ribE seed n t = (2, seed, 0, strOfNums (castL (back rows sums n (zerosN n))), true) := by
  rw [← hl, List.drop_length, elimL] at h
  rw [← Option.some.inj h]
  rfl
structure BackSt (n : Nat) (rows sums : List Nat) (m : Nat) (bits B : List Nat) : Prop where
  h : back rows sums m bits = B
  hl : bits.length = n
  h7 : ∀ j, bits.getD j 0 < 128
  h0 : ∀ j, j < m → bits.getD j 0 = 0
  hm : m ≤ n
  hn : n ≤ 1000
theorem BackSt.start (n : Nat) (hn : n ≤ 1000) (rows sums : List Nat) : BackSt n rows sums n (zerosN n) (back rows sums n (zerosN n)) :=
  ⟨rfl, by unfold zerosN; simp, fun j => by rw [zerosN_get]; decide, fun j _ => zerosN_get n j, Nat.le_refl _, hn⟩
theorem set_same (l : List Nat) (i : Nat) (h : i < l.length) : l.set i (l.getD i 0) = l := by
  apply List.ext_getElem
  · rw [List.length_set]
  · intro j h1 h2
    rw [List.getElem_set]
    split
    · rename_i e
      subst e
      rw [List.getD_eq_getElem?_getD, List.getElem?_eq_getElem h2]
      rfl
    · rfl
section
variable {n m : Nat} {rows sums bits B : List Nat}
theorem BackSt.skip (h : BackSt n rows sums (m + 1) bits B) (hz : rows.getD m 0 = 0) : BackSt n rows sums m bits B := by
  have hh := h.h
  have hm := h.hm
  have e := h.h0 m (Nat.lt_succ_self m)
  rw [back, if_pos hz, ← e, set_same bits m (by rw [h.hl]; exact hm)] at hh
  exact ⟨hh, h.hl, h.h7, fun j hj => h.h0 j (Nat.lt_succ_of_lt hj), Nat.le_of_succ_le hm, h.hn⟩
theorem BackSt.step (hI : InvK n rows sums) (h : BackSt n rows sums (m + 1) bits B) (hz : ¬ rows.getD m 0 = 0) : ∃ (x k : Nat), impl_solve.f k (castL bits) (m : Int) ((rows.getD m 0 - 1 : Nat) : Int) = some (x : Int) ∧ x < 128 ∧ BackSt n rows sums m (bits.set m (sums.getD m 0 ^^^ x)) B := by
  have hh := h.h
  have hm := h.hm
  have hml : m < bits.length := by rw [h.hl]; exact hm
  rw [back, if_neg hz] at hh
  have ho := (hI.hk.2 m).resolve_left hz
  have hlt : rows.getD m 0 - 1 < 2 ^ (n - m) := Nat.lt_of_le_of_lt (Nat.sub_le _ _) ((hI.hz m).2 hm)
  have h16 : rows.getD m 0 - 1 < 65536 := Nat.lt_of_le_of_lt (Nat.sub_le _ _) ho.2
  have hz1 := solve_ev bits h.h7
  have big : m ≤ 100000 - 16 := by
    have := h.hn
    clear hlt
    omega
  obtain ⟨k, hk⟩ := (hz1 16 m (rows.getD m 0 - 1) 0 (by decide) big h16 h16 (by decide) (fun j cb => by rw [h.hl]; exact bit_in hlt cb)).rounds
  rw [Nat.zero_xor] at hk
  have hx : sol (fun i => bits.getD i 0) 16 m (rows.getD m 0 - 1) < 128 := sol_lt h.h7 _ _ _
  have hv : sums.getD m 0 ^^^ sol (fun i => bits.getD i 0) 16 m (rows.getD m 0 - 1) < 128 := Nat.xor_lt_two_pow (n := 7) (hI.h7 m) hx
  refine ⟨_, k, hk, hx, hh, by rw [List.length_set]; exact h.hl, fun j => getD_lt h.h7 m _ j hv, fun j hj => ?_, Nat.le_of_succ_le hm, h.hn⟩
  rw [getD_set bits m j _ hml, if_neg (by omega)]
  exact h.h0 j (Nat.lt_succ_of_lt hj)
end
end Go.Proofs.Ytedgdnkbojjbmaa.Pure
end
