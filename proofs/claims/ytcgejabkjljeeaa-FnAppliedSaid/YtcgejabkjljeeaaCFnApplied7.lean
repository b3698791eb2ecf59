/- Proved: the law FnApplied of the given program returns true for every input of its Go types and leaves each argument as it was; no condition. (Part 8 of 18.) -/
import Derived.Test.YtcgejabkjljeeaaCFnApplied4
import Derived.Sort.Lot0
import Derived.Sort.LotA
import Derived.Shelf.SlSortCmp.KitK
import Derived.Test.YtcgejabkjljeeaaCFnApplied6
section
namespace Go.Proofs.Ytcgejabkjljeeaa.P
open Go.RowKit Go.Proofs.YtcgejabkjljeeaaW.PrintWords Go.Proofs.YtcgejabkjljeeaaW.PrintLast Go.Proofs.YtcgejabkjljeeaaW.PrintMore
attribute [local go_sem] str_gtr str_leq str_geq max2_int min2_int max_two min_two qc1 qb1 max_four min_four
set_option linter.unusedVariables false
set_option linter.unusedSimpArgs false
open Go.Sort
section
variable {α : Type} [Inhabited α]
def bsx (q : Nat → Bool) (i j : Nat) : Nat :=
 if i < j then (if q ((i + j) / 2) = true then bsx q ((i + j) / 2 + 1) j else bsx q i ((i + j) / 2)) else i
termination_by j - i
decreasing_by all_goals omega
theorem bsx_spec (q : Nat → Bool) : ∀ (n i j : Nat), j - i ≤ n → i ≤ j → i ≤ bsx q i j ∧ bsx q i j ≤ j ∧ (i < bsx q i j → q (bsx q i j - 1) = true) ∧ (bsx q i j < j → q (bsx q i j) = false) := by
 intro n
 induction n with
 | zero =>
  intro i j h1 h2
  obtain rfl : i = j := by omega
  rw [bsx, if_neg (by omega)]
  exact ⟨Nat.le_refl _, Nat.le_refl _, fun h => by omega, fun h => by omega⟩
 | succ n ih =>
  intro i j h1 h2
  rw [bsx]
  by_cases c : i < j
  ·rw [if_pos c]
   cases hq : q ((i + j) / 2) with
   | true =>
    rw [if_pos rfl]
    obtain ⟨a1, a2, a3, a4⟩ := ih ((i + j) / 2 + 1) j (by omega) (by omega)
    refine ⟨by omega, a2, fun h => ?_, a4⟩
    by_cases e : (i + j) / 2 + 1 < bsx q ((i + j) / 2 + 1) j
    ·exact a3 e
    ·rw [show bsx q ((i + j) / 2 + 1) j - 1 = (i + j) / 2 from by omega]
     exact hq
   | false =>
    rw [if_neg (by simp)]
    obtain ⟨a1, a2, a3, a4⟩ := ih i ((i + j) / 2) (by omega) (by omega)
    refine ⟨a1, by omega, a3, fun h => ?_⟩
    by_cases e : bsx q i ((i + j) / 2) < (i + j) / 2
    ·exact a4 e
    ·rw [show bsx q i ((i + j) / 2) = (i + j) / 2 from by omega]
     exact hq
  ·rw [if_neg c]
   exact ⟨Nat.le_refl _, h2, fun h => by omega, fun h => by omega⟩
def upL (e k : Nat) (d : Array α) : Array α := if k < e then upL e (k + 1) (swp d k (k + 1)) else d
termination_by e - k
theorem upL_spec (e : Nat) : ∀ (n k : Nat) (d : Array α), e - k ≤ n → k ≤ e → e < d.size → PermIn k (e + 1) d (upL e k d) ∧ ∀ t, (upL e k d)[t]! = if t < k ∨ e < t then d[t]! else if t = e then d[k]! else d[t + 1]! := by
 intro n
 induction n with
 | zero =>
  intro k d h1 h2 h3
  obtain rfl : k = e := by omega
  rw [upL, if_neg (by omega)]
  refine ⟨permIn_refl _ _ _, fun t => ?_⟩
  by_cases c : t < k ∨ k < t
  ·rw [if_pos c]
  ·rw [if_neg c, if_pos (by omega), show t = k from by omega]
 | succ n ih =>
  intro k d h1 h2 h3
  rw [upL]
  by_cases c : k < e
  ·rw [if_pos c]
   have g := swp_get d (show k < d.size by omega) (show k + 1 < d.size by omega)
   obtain ⟨i1, i2⟩ := ih (k + 1) (swp d k (k + 1)) (by omega) (by omega) (by rw [swp_size]; exact h3)
   refine ⟨permIn_trans _ _ _ _ _ (swp_permIn d k (e + 1) k (k + 1) (Nat.le_refl _) (by omega) (by omega) (by omega) (by omega)) (permIn_mono _ _ _ _ _ _ (by omega) (Nat.le_refl _) (by rw [swp_size]; omega) i1), fun t => ?_⟩
   rw [i2 t]
   by_cases c1 : t < k ∨ e < t
   ·rw [if_pos c1, if_pos (by omega), g, if_neg (by omega), if_neg (by omega)]
   ·rw [if_neg c1]
    by_cases c2 : t = k
    ·rw [if_pos (by omega), if_neg (by omega), g, if_neg (by omega), if_pos c2, c2]
    ·rw [if_neg (by omega)]
     by_cases c3 : t = e
     ·rw [if_pos c3, if_pos c3, g, if_pos rfl]
     ·rw [if_neg c3, if_neg c3, g, if_neg (by omega), if_neg (by omega)]
  ·rw [if_neg c]
   obtain rfl : k = e := by omega
   refine ⟨permIn_refl _ _ _, fun t => ?_⟩
   by_cases c : t < k ∨ k < t
   ·rw [if_pos c]
   ·rw [if_neg c, if_pos (by omega), show t = k from by omega]
def dnL (i : Nat) : Nat → Array α → Array α
 | 0, d => d
 | k + 1, d => if i < k + 1 then dnL i k (swp d (k + 1) k) else d
theorem dnL_spec (i : Nat) : ∀ (k : Nat) (d : Array α), i ≤ k → k < d.size → PermIn i (k + 1) d (dnL i k d) ∧ ∀ t, (dnL i k d)[t]! = if t < i ∨ k < t then d[t]! else if t = i then d[k]! else d[t - 1]! := by
 intro k
 induction k with
 | zero =>
  intro d h1 h2
  obtain rfl : i = 0 := by omega
  refine ⟨permIn_refl _ _ _, fun t => ?_⟩
  show d[t]! = _
  by_cases c : t < 0 ∨ 0 < t
  ·rw [if_pos c]
  ·rw [if_neg c, if_pos (by omega), show t = 0 from by omega]
 | succ k ih =>
  intro d h1 h2
  unfold dnL
  by_cases c : i < k + 1
  ·rw [if_pos c]
   have g := swp_get d (show k + 1 < d.size by omega) (show k < d.size by omega)
   obtain ⟨i1, i2⟩ := ih (swp d (k + 1) k) (by omega) (by rw [swp_size]; omega)
   refine ⟨permIn_trans _ _ _ _ _ (swp_permIn d i (k + 1 + 1) (k + 1) k (by omega) (by omega) (by omega) (by omega) (by omega)) (permIn_mono _ _ _ _ _ _ (Nat.le_refl _) (by omega) (by rw [swp_size]; omega) i1), fun t => ?_⟩
   rw [i2 t]
   by_cases c1 : t < i ∨ k + 1 < t
   ·rw [if_pos c1, if_pos (by omega), g, if_neg (by omega), if_neg (by omega)]
   ·rw [if_neg c1]
    by_cases c2 : t = k + 1
    ·rw [if_pos (by omega), if_neg (by omega), g, if_neg (by omega), if_pos c2, c2]
     rfl
    ·rw [if_neg (by omega)]
     by_cases c3 : t = i
     ·rw [if_pos c3, if_pos c3, g, if_pos rfl]
     ·rw [if_neg c3, if_neg c3, g, if_neg (by omega), if_neg (by omega)]
  ·rw [if_neg c]
   obtain rfl : i = k + 1 := by omega
   refine ⟨permIn_refl _ _ _, fun t => ?_⟩
   by_cases c : t < k + 1 ∨ k + 1 < t
   ·rw [if_pos c]
   ·rw [if_neg c, if_pos (by omega), show t = k + 1 from by omega]
def swR (a b n i : Nat) (d : Array α) : Array α := if i < n then swR a b n (i + 1) (swp d (a + i) (b + i)) else d
termination_by n - i
theorem swR_spec (a b n : Nat) : ∀ (m i : Nat) (d : Array α), n - i ≤ m → a + n ≤ b → b + n ≤ d.size → PermIn a (b + n) d (swR a b n i d) ∧ ∀ t, (swR a b n i d)[t]! = if a + i ≤ t ∧ t < a + n then d[t - a + b]! else if b + i ≤ t ∧ t < b + n then d[t - b + a]! else d[t]! := by
 intro m
 induction m with
 | zero =>
  intro i d h1 h2 h3
  rw [swR, if_neg (by omega)]
  exact ⟨permIn_refl _ _ _, fun t => by rw [if_neg (by omega), if_neg (by omega)]⟩
 | succ m ih =>
  intro i d h1 h2 h3
  rw [swR]
  by_cases c : i < n
  ·rw [if_pos c]
   have g := swp_get d (show a + i < d.size by omega) (show b + i < d.size by omega)
   obtain ⟨i1, i2⟩ := ih (i + 1) (swp d (a + i) (b + i)) (by omega) h2 (by rw [swp_size]; exact h3)
   refine ⟨permIn_trans _ _ _ _ _ (swp_permIn d a (b + n) (a + i) (b + i) (by omega) (by omega) (by omega) (by omega) h3) i1, fun t => ?_⟩
   rw [i2 t]
   by_cases c1 : a + i ≤ t ∧ t < a + n
   ·rw [if_pos c1]
    by_cases c2 : t = a + i
    ·rw [if_neg (by omega), if_neg (by omega), g, if_neg (by omega), if_pos c2, c2, show a + i - a + b = b + i from by omega]
    ·rw [if_pos (by omega), g, if_neg (by omega), if_neg (by omega)]
   ·rw [if_neg c1, if_neg (by omega)]
    by_cases c3 : b + i ≤ t ∧ t < b + n
    ·rw [if_pos c3]
     by_cases c4 : t = b + i
     ·rw [if_neg (by omega), g, if_pos c4, c4, show b + i - b + a = a + i from by omega]
     ·rw [if_pos (by omega), g, if_neg (by omega), if_neg (by omega)]
    ·rw [if_neg c3, if_neg (by omega), g, if_neg (by omega), if_neg (by omega)]
  ·rw [if_neg c]
   exact ⟨permIn_refl _ _ _, fun t => by rw [if_neg (by omega), if_neg (by omega)]⟩
theorem swR_size (a b n i : Nat) (d : Array α) : (swR a b n i d).size = d.size := by
 have : ∀ (m i : Nat) (d : Array α), n - i ≤ m → (swR a b n i d).size = d.size := by
  intro m
  induction m with
  | zero => intro i d h; rw [swR, if_neg (by omega)]
  | succ m ih =>
   intro i d h
   rw [swR]
   split
   ·rw [ih _ _ (by omega), swp_size]
   ·rfl
 exact this _ i d (Nat.le_refl _)
def rotL (m i j : Nat) (d : Array α) : Array α :=
 if i = j ∨ i = 0 ∨ j = 0 then swR (m - i) m i 0 d else if j < i then rotL m (i - j) j (swR (m - i) m j 0 d) else rotL m i (j - i) (swR (m - i) (m + j - i) i 0 d)
termination_by i + j
decreasing_by all_goals omega
theorem rotL_spec (m : Nat) : ∀ (n i j : Nat) (d : Array α), i + j ≤ n → 0 < i → 0 < j → i ≤ m → m + j ≤ d.size → PermIn (m - i) (m + j) d (rotL m i j d) ∧ ∀ t, (rotL m i j d)[t]! = if t < m - i ∨ m + j ≤ t then d[t]! else if t < m - i + j then d[t + i]! else d[t - j]! := by
 intro n
 induction n with
 | zero => intro i j d h1 h2; omega
 | succ n ih =>
  intro i j d h1 h2 h3 h4 h5
  rw [rotL]
  by_cases c : i = j
  ·subst c
   rw [if_pos (.inl rfl)]
   obtain ⟨s1, s2⟩ := swR_spec (m - i) m i i 0 d (by omega) (by omega) h5
   refine ⟨s1, fun t => ?_⟩
   rw [s2 t]
   by_cases c1 : t < m - i ∨ m + i ≤ t
   ·rw [if_pos c1, if_neg (by omega), if_neg (by omega)]
   ·rw [if_neg c1]
    by_cases c2 : t < m - i + i
    ·rw [if_pos c2, if_pos (by omega), show t - (m - i) + m = t + i from by omega]
    ·rw [if_neg c2, if_neg (by omega), if_pos (by omega), show t - m + (m - i) = t - i from by omega]
  ·rw [if_neg (by omega)]
   by_cases c2 : j < i
   ·rw [if_pos c2]
    obtain ⟨s1, s2⟩ := swR_spec (m - i) m j j 0 d (by omega) (by omega) h5
    obtain ⟨i1, i2⟩ := ih (i - j) j (swR (m - i) m j 0 d) (by omega) (by omega) h3 (by omega) (by rw [s1.1]; exact h5)
    refine ⟨permIn_trans _ _ _ _ _ s1 (permIn_mono _ _ _ _ _ _ (by omega) (Nat.le_refl _) (by rw [s1.1]; exact h5) i1), fun t => ?_⟩
    rw [i2 t, s2, s2, s2]
    by_cases c1 : t < m - i ∨ m + j ≤ t
    ·rw [if_pos c1, if_pos (by omega), if_neg (by omega), if_neg (by omega)]
    ·rw [if_neg c1]
     by_cases c3 : t < m - i + j
     ·rw [if_pos c3, if_pos (by omega), if_pos (by omega), show t - (m - i) + m = t + i from by omega]
     ·rw [if_neg c3, if_neg (by omega)]
      by_cases c4 : t < m - (i - j) + j
      ·rw [if_pos c4]
       by_cases c5 : t + (i - j) < m
       ·omega
       ·rw [if_neg (by omega), if_pos (by omega), show t + (i - j) - m + (m - i) = t - j from by omega]
      ·rw [if_neg c4, if_neg (by omega), if_neg (by omega)]
   ·rw [if_neg c2]
    obtain ⟨s1, s2⟩ := swR_spec (m - i) (m + j - i) i i 0 d (by omega) (by omega) (by omega)
    rw [show m + j - i + i = m + j from by omega] at s1
    obtain ⟨i1, i2⟩ := ih i (j - i) (swR (m - i) (m + j - i) i 0 d) (by omega) h2 (by omega) h4 (by rw [s1.1]; omega)
    refine ⟨permIn_trans _ _ _ _ _ s1 (permIn_mono _ _ _ _ _ _ (Nat.le_refl _) (by omega) (by rw [s1.1]; exact h5) i1), fun t => ?_⟩
    rw [i2 t, s2, s2, s2]
    by_cases c1 : t < m - i ∨ m + j ≤ t
    ·rw [if_pos c1, if_pos (by omega), if_neg (by omega), if_neg (by omega)]
    ·rw [if_neg c1]
     by_cases c3 : t < m - i + j
     ·rw [if_pos c3]
      by_cases c4 : m + (j - i) ≤ t
      ·rw [if_pos (by omega)]
       omega
      ·rw [if_neg (by omega)]
       by_cases c5 : t < m - i + (j - i)
       ·rw [if_pos c5]
        rw [if_neg (by omega), if_neg (by omega)]
       ·rw [if_neg c5, if_pos (by omega), show t - (j - i) - (m - i) + (m + j - i) = t + i from by omega]
     ·rw [if_neg c3, if_pos (by omega), if_neg (by omega), if_pos (by omega), show t - (m + j - i) + (m - i) = t - j from by omega]
theorem upL_size (e k : Nat) (d : Array α) : (upL e k d).size = d.size := by
 have : ∀ (m k : Nat) (d : Array α), e - k ≤ m → (upL e k d).size = d.size := by
  intro m
  induction m with
  | zero => intro k d h; rw [upL, if_neg (by omega)]
  | succ m ih =>
   intro k d h
   rw [upL]
   split
   ·rw [ih _ _ (by omega), swp_size]
   ·rfl
 exact this _ k d (Nat.le_refl _)
theorem dnL_size (i : Nat) : ∀ (k : Nat) (d : Array α), (dnL i k d).size = d.size
 | 0, d => rfl
 | k + 1, d => by
  unfold dnL
  split
  ·rw [dnL_size i k, swp_size]
  ·rfl
theorem rotL_size (m i j : Nat) (d : Array α) : (rotL m i j d).size = d.size := by
 have : ∀ (n i j : Nat) (d : Array α), i + j ≤ n → (rotL m i j d).size = d.size := by
  intro n
  induction n with
  | zero => intro i j d h; rw [rotL, if_pos (by omega), swR_size]
  | succ n ih =>
   intro i j d h
   rw [rotL]
   split
   ·exact swR_size ..
   ·split
    ·rw [ih _ _ _ (by omega), swR_size]
    ·rw [ih _ _ _ (by omega), swR_size]
 exact this _ i j d (Nat.le_refl _)
def symA (m st en : Nat) (d : Array α) : Array α := if st < m ∧ m < en then rotL m (m - st) (en - m) d else d
def symB (rec : Array α → Nat → Nat → Nat → Array α) (a st mid : Nat) (d : Array α) : Array α := if a < st ∧ st < mid then rec d a st mid else d
def symE (rec : Array α → Nat → Nat → Nat → Array α) (mid en b : Nat) (d : Array α) : Array α := if mid < en ∧ en < b then rec d mid en b else d
def symLo (a m b : Nat) : Nat := if (a + b) / 2 < m then (a + b) / 2 + m - b else a
def symHi (a m b : Nat) : Nat := if (a + b) / 2 < m then (a + b) / 2 else m
def symSt (lt : α → α → Bool) (d : Array α) (a m b : Nat) : Nat := bsx (fun c => !lt d[(a + b) / 2 + m - 1 - c]! d[c]!) (symLo a m b) (symHi a m b)
def symM (lt : α → α → Bool) : Nat → Array α → Nat → Nat → Nat → Array α
 | 0, d, _, _, _ => d
 | f + 1, d, a, m, b =>
  if m - a = 1 then upL (bsx (fun h => lt d[h]! d[a]!) m b - 1) a d
  else if b - m = 1 then dnL (bsx (fun h => !lt d[m]! d[h]!) a m) m d
  else symE (symM lt f) ((a + b) / 2) ((a + b) / 2 + m - symSt lt d a m b) b (symB (symM lt f) a (symSt lt d a m b) ((a + b) / 2) (symA m (symSt lt d a m b) ((a + b) / 2 + m - symSt lt d a m b) d))
theorem symM_size (lt : α → α → Bool) : ∀ (f : Nat) (d : Array α) (a m b : Nat), (symM lt f d a m b).size = d.size
 | 0, _, _, _, _ => rfl
 | f + 1, d, a, m, b => by
  unfold symM
  split
  ·exact upL_size ..
  split
  ·exact dnL_size ..
  have e1 : (symA m (symSt lt d a m b) ((a + b) / 2 + m - symSt lt d a m b) d).size = d.size := by
   unfold symA
   split
   ·exact rotL_size ..
   ·rfl
  have e2 : ∀ x : Array α, (symB (symM lt f) a (symSt lt d a m b) ((a + b) / 2) x).size = x.size := fun x => by
   unfold symB
   split
   ·exact symM_size lt f ..
   ·rfl
  have e3 : ∀ x : Array α, (symE (symM lt f) ((a + b) / 2) ((a + b) / 2 + m - symSt lt d a m b) b x).size = x.size := fun x => by
   unfold symE
   split
   ·exact symM_size lt f ..
   ·rfl
  rw [e3, e2, e1]
theorem insInner_size (lt : α → α → Bool) (a : Nat) : ∀ (j : Nat) (d : Array α), (insInner lt a j d).size = d.size
 | 0, d => rfl
 | j + 1, d => by
  unfold insInner
  split
  ·rw [insInner_size lt a j, swp_size]
  ·rfl
theorem insertionSort_size (lt : α → α → Bool) (d : Array α) (a b : Nat) : (insertionSort lt d a b).size = d.size := by
 have : ∀ (n i : Nat) (d : Array α), b - i ≤ n → (insOuter lt a b i d).size = d.size := by
  intro n
  induction n with
  | zero => intro i d h; rw [insOuter, if_neg (by omega)]
  | succ n ih =>
   intro i d h
   rw [insOuter]
   split
   ·rw [ih _ _ (by omega), insInner_size]
   ·rfl
 exact this _ _ d (Nat.le_refl _)
variable {lt lt' : α → α → Bool}
theorem symM_up (hS : SWO lt') (d : Array α) (a b i : Nat) (hi1 : a + 1 ≤ i) (hi2 : i ≤ b) (hb : b ≤ d.size) (hR : SortedIn lt' (a + 1) b d) (f1 : a + 1 < i → lt' d[i - 1]! d[a]! = true) (f2 : i < b → lt' d[i]! d[a]! = false) :
  PermIn a b d (upL (i - 1) a d) ∧ SortedIn lt' a b (upL (i - 1) a d) := by
 obtain ⟨u1, u2⟩ := upL_spec (i - 1) _ a d (Nat.le_refl _) (by omega) (by omega)
 refine ⟨permIn_mono _ _ _ _ _ _ (Nat.le_refl _) (by omega) hb u1, fun p q hp hpq hq => ?_⟩
 rw [u2 q, u2 p]
 rcases Nat.lt_trichotomy q (i - 1) with c | c | c
 ·rw [if_neg (by omega), if_neg (by omega), if_neg (by omega), if_neg (by omega)]
  exact hR (p + 1) (q + 1) (by omega) (by omega) (by omega)
 ·rw [if_neg (by omega), if_pos c, if_neg (by omega), if_neg (by omega)]
  cases hx : lt' d[a]! d[p + 1]! with
  | false => rfl
  | true =>
   have h1 := hS.trans _ _ _ (f1 (by omega)) hx
   by_cases e : p + 1 = i - 1
   ·rw [e, hS.irrefl] at h1; cases h1
   ·rw [hR (p + 1) (i - 1) (by omega) (by omega) (by omega)] at h1; cases h1
 ·rw [if_pos (by omega)]
  by_cases e : p = i - 1
  ·rw [if_neg (by omega), if_pos e]
   by_cases e2 : q = i
   ·rw [e2]; exact f2 (by omega)
   ·exact hS.ntrans _ _ _ (hR i q (by omega) (by omega) hq) (f2 (by omega))
  ·by_cases e2 : i - 1 < p
   ·rw [if_pos (by omega)]
    exact hR p q (by omega) hpq hq
   ·rw [if_neg (by omega), if_neg e]
    exact hR (p + 1) q (by omega) (by omega) hq
theorem symM_dn (hS : SWO lt') (d : Array α) (a m i : Nat) (hi1 : a ≤ i) (hi2 : i ≤ m) (hb : m + 1 ≤ d.size) (hL : SortedIn lt' a m d) (f1 : a < i → lt' d[m]! d[i - 1]! = false) (f2 : i < m → lt' d[m]! d[i]! = true) :
  PermIn a (m + 1) d (dnL i m d) ∧ SortedIn lt' a (m + 1) (dnL i m d) := by
 obtain ⟨u1, u2⟩ := dnL_spec i m d hi2 (by omega)
 refine ⟨permIn_mono _ _ _ _ _ _ hi1 (Nat.le_refl _) hb u1, fun p q hp hpq hq => ?_⟩
 rw [u2 q, u2 p]
 rcases Nat.lt_trichotomy q i with c | c | c
 ·rw [if_pos (by omega), if_pos (by omega)]
  exact hL p q hp hpq (by omega)
 ·rw [if_neg (by omega), if_pos c, if_pos (by omega)]
  by_cases e : p = i - 1
  ·rw [e]; exact f1 (by omega)
  ·exact hS.ntrans _ _ _ (f1 (by omega)) (hL p (i - 1) hp (by omega) (by omega))
 ·rw [if_neg (by omega), if_neg (by omega)]
  rcases Nat.lt_trichotomy p i with c2 | c2 | c2
  ·rw [if_pos (by omega)]
   exact hL p (q - 1) hp (by omega) (by omega)
  ·rw [if_neg (by omega), if_pos c2]
   cases hx : lt' d[q - 1]! d[m]! with
   | false => rfl
   | true =>
    have h1 := hS.trans _ _ _ hx (f2 (by omega))
    by_cases e : q - 1 = i
    ·rw [e, hS.irrefl] at h1; cases h1
    ·rw [hL i (q - 1) (by omega) (by omega) (by omega)] at h1; cases h1
  ·rw [if_neg (by omega), if_neg (by omega)]
   exact hL (p - 1) (q - 1) (by omega) (by omega) (by omega)
theorem sorted_le (hS : SWO lt') {d : Array α} {a b : Nat} (h : SortedIn lt' a b d) (i j : Nat) (h1 : a ≤ i) (h2 : i ≤ j) (h3 : j < b) : lt' d[j]! d[i]! = false := by
 by_cases e : i = j
 ·rw [e]; exact hS.irrefl _
 ·exact h i j h1 (by omega) h3
theorem symA_spec (d : Array α) (a m b st mid : Nat) (h1 : a ≤ st) (h2 : st ≤ m) (h3 : st ≤ mid) (h4 : mid + m - st ≤ b) (hb : b ≤ d.size) :
  PermIn a b d (symA m st (mid + m - st) d) ∧ (∀ t, t < st → (symA m st (mid + m - st) d)[t]! = d[t]!) ∧ (∀ t, st ≤ t → t < mid → (symA m st (mid + m - st) d)[t]! = d[t - st + m]!) ∧
  (∀ t, mid ≤ t → t < mid + m - st → (symA m st (mid + m - st) d)[t]! = d[t - mid + st]!) ∧ (∀ t, mid + m - st ≤ t → (symA m st (mid + m - st) d)[t]! = d[t]!) := by
 unfold symA
 by_cases c : st < m ∧ m < mid + m - st
 ·rw [if_pos c]
  obtain ⟨r1, r2⟩ := rotL_spec m _ (m - st) (mid + m - st - m) d (Nat.le_refl _) (by omega) (by omega) (by omega) (by omega)
  refine ⟨permIn_mono _ _ _ _ _ _ (by omega) (by omega) hb r1, fun t ht => ?_, fun t ht1 ht2 => ?_, fun t ht1 ht2 => ?_, fun t ht => ?_⟩
  ·rw [r2, if_pos (by omega)]
  ·rw [r2, if_neg (by omega), if_pos (by omega), show t + (m - st) = t - st + m from by omega]
  ·rw [r2, if_neg (by omega), if_neg (by omega), show t - (mid + m - st - m) = t - mid + st from by omega]
  ·rw [r2, if_pos (by omega)]
 ·rw [if_neg c]
  refine ⟨permIn_refl _ _ _, fun t ht => rfl, fun t ht1 ht2 => ?_, fun t ht1 ht2 => ?_, fun t ht => rfl⟩
  ·rw [show t - st + m = t from by omega]
  ·rw [show t - mid + st = t from by omega]
theorem symM_spec (hS : SWO lt') : ∀ (f : Nat) (d : Array α) (a m b : Nat), b - a ≤ f → a < m → m < b → b ≤ d.size → SortedIn lt' a m d → SortedIn lt' m b d →
  (∀ p q, a ≤ p → p < m → m ≤ q → q < b → lt d[q]! d[p]! = lt' d[q]! d[p]!) → PermIn a b d (symM lt f d a m b) ∧ SortedIn lt' a b (symM lt f d a m b) := by
 intro f
 induction f with
 | zero => intro d a m b h0 h1 h2; omega
 | succ f ih =>
  intro d a m b h0 h1 h2 hb hL hR hA
  unfold symM
  by_cases c1 : m - a = 1
  ·rw [if_pos c1]
   obtain rfl : m = a + 1 := by omega
   obtain ⟨b1, b2, b3, b4⟩ := bsx_spec (fun h => lt d[h]! d[a]!) _ (a + 1) b (Nat.le_refl _) (by omega)
   refine symM_up hS d a b _ b1 b2 hb hR (fun h => ?_) (fun h => ?_)
   ·rw [← hA a _ (by omega) (by omega) (by omega) (by omega)]; exact b3 h
   ·rw [← hA a _ (by omega) (by omega) (by omega) (by omega)]; exact b4 h
  ·rw [if_neg c1]
   by_cases c2 : b - m = 1
   ·rw [if_pos c2]
    obtain rfl : b = m + 1 := by omega
    obtain ⟨b1, b2, b3, b4⟩ := bsx_spec (fun h => !lt d[m]! d[h]!) _ a m (Nat.le_refl _) (by omega)
    refine symM_dn hS d a m _ b1 b2 hb hL (fun h => ?_) (fun h => ?_)
    ·rw [← hA _ m (by omega) (by omega) (by omega) (by omega)]; simpa using b3 h
    ·rw [← hA _ m (by omega) (by omega) (by omega) (by omega)]; simpa using b4 h
   ·rw [if_neg c2]
    obtain ⟨b1, b2, b3, b4⟩ := bsx_spec (fun c => !lt d[(a + b) / 2 + m - 1 - c]! d[c]!) _ (symLo a m b) (symHi a m b) (Nat.le_refl _) (by unfold symLo symHi; split <;> omega)
    rw [← symSt] at b1 b2 b3 b4
    generalize symSt lt d a m b = st at b1 b2 b3 b4
    have hm : a < (a + b) / 2 ∧ (a + b) / 2 < b ∧ 2 * ((a + b) / 2) ≤ a + b := by omega
    have hlo : (a + b) / 2 < m → symLo a m b = (a + b) / 2 + m - b ∧ symHi a m b = (a + b) / 2 := fun h => by unfold symLo symHi; rw [if_pos h, if_pos h]; exact ⟨rfl, rfl⟩
    have hhi : ¬ (a + b) / 2 < m → symLo a m b = a ∧ symHi a m b = m := fun h => by unfold symLo symHi; rw [if_neg h, if_neg h]; exact ⟨rfl, rfl⟩
    generalize symLo a m b = lo at b1 b2 b3 b4 hlo hhi
    generalize symHi a m b = hi at b1 b2 b3 b4 hlo hhi
    have hab : (a + b) / 2 < m → a ≤ (a + b) / 2 + m - b := fun h => by omega
    generalize (a + b) / 2 = mid at b1 b2 b3 b4 hlo hhi hm hab
    have k1 : a ≤ st := by by_cases c : mid < m; (have := hlo c; have := hab c; omega); (have := hhi c; omega)
    have k2 : st ≤ m := by by_cases c : mid < m; (have := hlo c; omega); (have := hhi c; omega)
    have k3 : st ≤ mid := by by_cases c : mid < m; (have := hlo c; omega); (have := hhi c; omega)
    have k4 : mid + m - st ≤ b := by by_cases c : mid < m; (have := hlo c; omega); (have := hhi c; omega)
    have F1 : a < st → mid + m - st < b → lt' d[mid + m - st]! d[st - 1]! = false := fun h h' => by
     have hl : lo < st := by by_cases c : mid < m; (have := hlo c; omega); (have := hhi c; omega)
     have := b3 hl
     rw [show mid + m - 1 - (st - 1) = mid + m - st from by omega, hA _ _ (by omega) (by omega) (by omega) h'] at this
     simpa using this
    have F2 : st < mid → st < m → lt' d[mid + m - st - 1]! d[st]! = true := fun h h' => by
     have hl : st < hi := by by_cases c : mid < m; (have := hlo c; omega); (have := hhi c; omega)
     have := b4 hl
     rw [show mid + m - 1 - st = mid + m - st - 1 from by omega, hA _ _ (by omega) (by omega) (by omega) (by omega)] at this
     simpa using this
    clear b1 b2 b3 b4 hlo hhi hab
    obtain ⟨p1, x1, x2, x3, x4⟩ := symA_spec d a m b st mid k1 k2 k3 k4 hb
    have ken : mid + m - st = m + (mid - st) ∧ mid + m - st = mid + (m - st) := by omega
    generalize symA m st (mid + m - st) d = d1 at p1 x1 x2 x3 x4
    generalize mid + m - st = en at k4 F1 F2 x3 x4 ken
    have z1 : d1.size = d.size := p1.1
    have S1 : SortedIn lt' a st d1 := fun p q hp hpq hq => by rw [x1 q hq, x1 p (by omega)]; exact hL p q hp hpq (by omega)
    have S2 : SortedIn lt' st mid d1 := fun p q hp hpq hq => by rw [x2 q (by omega) hq, x2 p hp (by omega)]; exact hR _ _ (by omega) (by omega) (by omega)
    have S3 : SortedIn lt' mid en d1 := fun p q hp hpq hq => by rw [x3 q (by omega) hq, x3 p hp (by omega)]; exact hL _ _ (by omega) (by omega) (by omega)
    have S4 : SortedIn lt' en b d1 := fun p q hp hpq hq => by rw [x4 q (by omega), x4 p hp]; exact hR p q (by omega) hpq hq
    have A1 : ∀ p q, a ≤ p → p < st → st ≤ q → q < mid → lt d1[q]! d1[p]! = lt' d1[q]! d1[p]! := fun p q h1 h2 h3 h4 => by rw [x1 p h2, x2 q h3 h4]; exact hA _ _ (by omega) (by omega) (by omega) (by omega)
    have A2 : ∀ p q, mid ≤ p → p < en → en ≤ q → q < b → lt d1[q]! d1[p]! = lt' d1[q]! d1[p]! := fun p q h1 h2 h3 h4 => by rw [x3 p h1 h2, x4 q h3]; exact hA _ _ (by omega) (by omega) (by omega) (by omega)
    have C : ∀ x y, a ≤ x → x < mid → mid ≤ y → y < b → lt' d1[y]! d1[x]! = false := fun x y hx1 hx2 hy1 hy2 => by
     by_cases cx : x < st
     ·rw [x1 x cx]
      by_cases cy : y < en
      ·rw [x3 y hy1 cy]
       exact hL _ _ hx1 (by omega) (by omega)
      ·rw [x4 y (by omega)]
       exact hS.ntrans _ _ _ (sorted_le hS hR en y (by omega) (by omega) hy2) (hS.ntrans _ _ _ (F1 (by omega) (by omega)) (sorted_le hS hL x (st - 1) hx1 (by omega) (by omega)))
     ·rw [x2 x (by omega) hx2]
      by_cases cy : y < en
      ·rw [x3 y hy1 cy]
       exact hS.ntrans _ _ _ (sorted_le hS hL st (y - mid + st) k1 (by omega) (by omega)) (hS.ntrans _ _ _ (hS.asymmA (F2 (by omega) (by omega))) (sorted_le hS hR (x - st + m) (en - 1) (by omega) (by omega) (by omega)))
      ·rw [x4 y (by omega)]
       exact hR _ _ (by omega) (by omega) hy2
    clear x1 x2 x3 x4 F1 F2 hA hL hR
    have B2 : PermIn a mid d1 (symB (symM lt f) a st mid d1) ∧ SortedIn lt' a mid (symB (symM lt f) a st mid d1) := by
     unfold symB
     by_cases c : a < st ∧ st < mid
     ·rw [if_pos c]
      exact ih d1 a st mid (by omega) c.1 c.2 (by omega) S1 S2 A1
     ·rw [if_neg c]
      refine ⟨permIn_refl _ _ _, ?_⟩
      by_cases c' : a < st
      ·rw [show mid = st from by omega]; exact S1
      ·rw [show a = st from by omega]; exact S2
    generalize symB (symM lt f) a st mid d1 = d2 at B2
    obtain ⟨p2, T2⟩ := B2
    have z2 : d2.size = d.size := p2.1.trans z1
    have o2 : ∀ t, mid ≤ t → d2[t]! = d1[t]! := fun t ht => p2.2.1 t (.inr ht)
    have B3 : PermIn mid b d2 (symE (symM lt f) mid en b d2) ∧ SortedIn lt' mid b (symE (symM lt f) mid en b d2) := by
     unfold symE
     have S3' : SortedIn lt' mid en d2 := fun p q hp hpq hq => by rw [o2 q (by omega), o2 p hp]; exact S3 p q hp hpq hq
     have S4' : SortedIn lt' en b d2 := fun p q hp hpq hq => by rw [o2 q (by omega), o2 p (by omega)]; exact S4 p q hp hpq hq
     by_cases c : mid < en ∧ en < b
     ·rw [if_pos c]
      exact ih d2 mid en b (by omega) c.1 c.2 (by omega) S3' S4' (fun p q h1 h2 h3 h4 => by rw [o2 q (by omega), o2 p h1]; exact A2 p q h1 h2 h3 h4)
     ·rw [if_neg c]
      refine ⟨permIn_refl _ _ _, ?_⟩
      by_cases c' : mid < en
      ·rw [show b = en from by omega]; exact S3'
      ·rw [show mid = en from by omega]; exact S4'
    generalize symE (symM lt f) mid en b d2 = d3 at B3
    obtain ⟨p3, T3⟩ := B3
    refine ⟨permIn_trans _ _ _ _ _ p1 (permIn_trans _ _ _ _ _ (permIn_mono _ _ _ _ _ _ (Nat.le_refl _) (by omega) (by omega) p2) (permIn_mono _ _ _ _ _ _ (by omega) (Nat.le_refl _) (by omega) p3)), fun p q hp hpq hq => ?_⟩
    by_cases cq : q < mid
    ·rw [p3.2.1 q (.inl cq), p3.2.1 p (.inl (by omega))]
     exact T2 p q hp hpq cq
    ·by_cases cp : p < mid
     ·rw [p3.2.1 p (.inl cp)]
      refine permIn_all d2 d3 mid b (fun y => lt' y d2[p]! = false) (by omega) p3 (fun y h1 h2 => ?_) q (by omega) hq
      rw [o2 y h1]
      exact permIn_all d1 d2 a mid (fun x => lt' d1[y]! x = false) (by omega) p2 (fun x h3 h4 => C x y h3 h4 h1 h2) p hp cp
     ·exact T3 p q (by omega) hpq hq
theorem insInner_agree (a : Nat) : ∀ (j : Nat) (d : Array α), j < d.size → (∀ p, a ≤ p → p < j → lt d[j]! d[p]! = lt' d[j]! d[p]!) → insInner lt a j d = insInner lt' a j d
 | 0, d, _, _ => rfl
 | j + 1, d, hj, h => by
  unfold insInner
  by_cases c : a < j + 1
  ·rw [h j (by omega) (by omega)]
   split
   ·have g := swp_get d hj (show j < d.size by omega)
    refine insInner_agree a j _ (by rw [swp_size]; omega) (fun p h1 h2 => ?_)
    rw [g, g, if_pos rfl, if_neg (by omega), if_neg (by omega)]
    exact h p h1 (by omega)
   ·rfl
  ·have e : decide (j + 1 > a) = false := decide_eq_false (by omega)
   rw [e]
   rfl
theorem insInner_perm (a : Nat) : ∀ (j : Nat) (d : Array α), a ≤ j → j < d.size → PermIn a (j + 1) d (insInner lt a j d)
 | 0, d, _, _ => permIn_refl _ _ _
 | j + 1, d, ha, hj => by
  unfold insInner
  split
  ·rename_i c
   have c' : a < j + 1 := by
    simp only [Bool.and_eq_true, decide_eq_true_eq] at c
    omega
   exact permIn_trans _ _ _ _ _ (swp_permIn d a (j + 1 + 1) (j + 1) j (by omega) (by omega) (by omega) (by omega) (by omega)) (permIn_mono _ _ _ _ _ _ (Nat.le_refl _) (by omega) (by rw [swp_size]; omega) (insInner_perm a j _ (by omega) (by rw [swp_size]; omega)))
  ·exact permIn_refl _ _ _
theorem insOuter_agree (a b : Nat) : ∀ (n i : Nat) (d : Array α), b - i ≤ n → a < i → b ≤ d.size → (∀ p q, a ≤ p → p < q → i ≤ q → q < b → lt d[q]! d[p]! = lt' d[q]! d[p]!) → insOuter lt a b i d = insOuter lt' a b i d := by
 intro n
 induction n with
 | zero =>
  intro i d h0 h1 h2 h
  rw [insOuter.eq_1 lt, if_neg (by omega), insOuter.eq_1 lt', if_neg (by omega)]
 | succ n ih =>
  intro i d h0 h1 h2 h
  rw [insOuter, insOuter.eq_1 lt']
  by_cases c : i < b
  ·rw [if_pos c, if_pos c, ← insInner_agree a i d (by omega) (fun p hp hq => h p i hp hq (Nat.le_refl _) c)]
   have P := insInner_perm (lt := lt) a i d (by omega) (by omega)
   refine ih (i + 1) _ (by omega) (by omega) (by rw [P.1]; exact h2) (fun p q h3 h4 h5 h6 => ?_)
   rw [P.2.1 q (.inr h5)]
   by_cases cp : i + 1 ≤ p
   ·rw [P.2.1 p (.inr cp)]
    exact h p q h3 h4 (by omega) h6
   ·exact permIn_all d _ a (i + 1) (fun x => lt d[q]! x = lt' d[q]! x) (by omega) P (fun t h7 h8 => h t q h7 (by omega) (by omega) h6) p h3 (by omega)
  ·rw [if_neg c, if_neg c]
theorem insertionSort_agree (hS : SWO lt') (d : Array α) (a b : Nat) (hab : a ≤ b) (hb : b ≤ d.size) (h : ∀ p q, a ≤ p → p < q → q < b → lt d[q]! d[p]! = lt' d[q]! d[p]!) : PermIn a b d (insertionSort lt d a b) ∧ SortedIn lt' a b (insertionSort lt d a b) := by
 have e : insertionSort lt d a b = insertionSort lt' d a b := insOuter_agree a b _ (a + 1) d (Nat.le_refl _) (by omega) hb (fun p q h1 h2 _ h4 => h p q h1 h2 h4)
 rw [e]
 exact insertionSort_holds hS d a b hab hb
def stL1 (lt : α → α → Bool) (bs n a : Nat) (d : Array α) : Array α := if bs = 0 ∨ n < a + bs then insertionSort lt d a n else stL1 lt bs n (a + bs) (insertionSort lt d a (a + bs))
termination_by n - a
decreasing_by omega
def stL2 (lt : α → α → Bool) (bs n a : Nat) (d : Array α) : Array α := if bs = 0 ∨ n < a + 2 * bs then (if a + bs < n then symM lt n d a (a + bs) n else d) else stL2 lt bs n (a + 2 * bs) (symM lt n d a (a + bs) (a + 2 * bs))
termination_by n - a
decreasing_by omega
def stL3 (lt : α → α → Bool) (bs n : Nat) (d : Array α) : Array α := if bs = 0 ∨ n ≤ bs then d else stL3 lt (2 * bs) n (stL2 lt bs n 0 d)
termination_by n - bs
decreasing_by omega
def stab (lt : α → α → Bool) (d : Array α) : Array α := stL3 lt 20 d.size (stL1 lt 20 d.size 0 d)
theorem stL1_size (lt : α → α → Bool) (bs n : Nat) : ∀ (m a : Nat) (d : Array α), n - a ≤ m → (stL1 lt bs n a d).size = d.size := by
 intro m
 induction m with
 | zero =>
  intro a d h
  rw [stL1]
  split
  ·exact insertionSort_size ..
  ·rename_i c
   omega
 | succ m ih =>
  intro a d h
  rw [stL1]
  split
  ·exact insertionSort_size ..
  ·rename_i c
   rw [ih _ _ (by omega), insertionSort_size]
theorem stL2_size (lt : α → α → Bool) (bs n : Nat) : ∀ (m a : Nat) (d : Array α), n - a ≤ m → (stL2 lt bs n a d).size = d.size := by
 intro m
 induction m with
 | zero =>
  intro a d h
  rw [stL2]
  split
  ·split
   ·exact symM_size ..
   ·rfl
  ·rename_i c
   omega
 | succ m ih =>
  intro a d h
  rw [stL2]
  split
  ·split
   ·exact symM_size ..
   ·rfl
  ·rename_i c
   rw [ih _ _ (by omega), symM_size]
theorem stL3_size (lt : α → α → Bool) (n : Nat) : ∀ (m bs : Nat) (d : Array α), n - bs ≤ m → (stL3 lt bs n d).size = d.size := by
 intro m
 induction m with
 | zero =>
  intro bs d h
  rw [stL3]
  split
  ·rfl
  ·rename_i c
   omega
 | succ m ih =>
  intro bs d h
  rw [stL3]
  split
  ·rfl
  ·rename_i c
   rw [ih _ _ (by omega), stL2_size _ _ _ _ _ _ (Nat.le_refl _)]
theorem stab_size (lt : α → α → Bool) (d : Array α) : (stab lt d).size = d.size := by
 unfold stab
 rw [stL3_size _ _ _ _ _ (Nat.le_refl _), stL1_size _ _ _ _ _ _ (Nat.le_refl _)]
def SegOK (lt' : α → α → Bool) (d0 d : Array α) (a b : Nat) : Prop := (∀ P : α → Prop, (∀ i, a ≤ i → i < b → P d0[i]!) → ∀ i, a ≤ i → i < b → P d[i]!) ∧ SortedIn lt' a b d
theorem SegOK.congr {d0 d d' : Array α} {a b : Nat} (h : SegOK lt' d0 d a b) (he : ∀ i, a ≤ i → i < b → d'[i]! = d[i]!) : SegOK lt' d0 d' a b :=
 ⟨fun P hP i h1 h2 => by rw [he i h1 h2]; exact h.1 P hP i h1 h2, fun p q h1 h2 h3 => by rw [he q (by omega) h3, he p h1 (by omega)]; exact h.2 p q h1 h2 h3⟩
variable {d0 : Array α}
theorem seg_ins (hS : SWO lt') (hA : ∀ p q, p < q → q < d0.size → lt d0[q]! d0[p]! = lt' d0[q]! d0[p]!) (d : Array α) (a b : Nat) (hz : d.size = d0.size) (hab : a ≤ b) (hb : b ≤ d.size) (he : ∀ i, a ≤ i → d[i]! = d0[i]!) :
  PermIn a b d (insertionSort lt d a b) ∧ SegOK lt' d0 (insertionSort lt d a b) a b := by
 obtain ⟨h1, h2⟩ := insertionSort_agree (lt := lt) hS d a b hab hb (fun p q hp hpq hq => by rw [he q (by omega), he p hp]; exact hA p q hpq (by omega))
 exact ⟨h1, fun P hP => permIn_all d _ a b P hb h1 (fun i hi1 hi2 => by rw [he i hi1]; exact hP i hi1 hi2), h2⟩
theorem seg_sym (hS : SWO lt') (hA : ∀ p q, p < q → q < d0.size → lt d0[q]! d0[p]! = lt' d0[q]! d0[p]!) (d : Array α) (a m b : Nat) (hz : d.size = d0.size) (h1 : a < m) (h2 : m < b) (hb : b ≤ d.size) (hL : SegOK lt' d0 d a m) (hR : SegOK lt' d0 d m b) :
  PermIn a b d (symM lt d0.size d a m b) ∧ SegOK lt' d0 (symM lt d0.size d a m b) a b := by
 obtain ⟨p1, p2⟩ := symM_spec (lt := lt) hS d0.size d a m b (by omega) h1 h2 hb hL.2 hR.2 (fun p q hp1 hp2 hq1 hq2 =>
  hL.1 (fun x => lt d[q]! x = lt' d[q]! x) (fun i hi1 hi2 => hR.1 (fun y => lt y d0[i]! = lt' y d0[i]!) (fun j hj1 hj2 => hA i j (by omega) (by omega)) q hq1 hq2) p hp1 hp2)
 refine ⟨p1, fun P hP => permIn_all d _ a b P hb p1 (fun i hi1 hi2 => ?_), p2⟩
 by_cases c : i < m
 ·exact hL.1 P (fun t h3 h4 => hP t h3 (by omega)) i hi1 c
 ·exact hR.1 P (fun t h3 h4 => hP t (by omega) h4) i (by omega) hi2
def Lvl (lt' : α → α → Bool) (d0 d : Array α) (bs n lo hi : Nat) : Prop := ∀ k, lo ≤ k * bs → k * bs < hi → SegOK lt' d0 d (k * bs) (min ((k + 1) * bs) n)
theorem stL1_spec (hS : SWO lt') (hA : ∀ p q, p < q → q < d0.size → lt d0[q]! d0[p]! = lt' d0[q]! d0[p]!) (bs : Nat) (hbs : 0 < bs) : ∀ (m k : Nat) (d : Array α), d0.size - k * bs ≤ m → k * bs ≤ d0.size → PermIn 0 d0.size d0 d → Lvl lt' d0 d bs d0.size 0 (k * bs) → (∀ i, k * bs ≤ i → d[i]! = d0[i]!) →
  PermIn 0 d0.size d0 (stL1 lt bs d0.size (k * bs) d) ∧ Lvl lt' d0 (stL1 lt bs d0.size (k * bs) d) bs d0.size 0 d0.size := by
 intro m
 induction m with
 | zero =>
  intro k d h0 h1 hp hl he
  rw [stL1, if_pos (by omega)]
  obtain ⟨s1, s2⟩ := seg_ins (lt := lt) hS hA d (k * bs) d0.size hp.1 h1 (by rw [hp.1]; exact Nat.le_refl _) he
  refine ⟨permIn_trans _ _ _ _ _ hp (permIn_mono _ _ _ _ _ _ (Nat.zero_le _) (Nat.le_refl _) (by rw [hp.1]; exact Nat.le_refl _) s1), fun j hj1 hj2 => ?_⟩
  have h5 : j < k := Nat.lt_of_mul_lt_mul_right (show j * bs < k * bs by omega)
  have h6 : (j + 1) * bs ≤ k * bs := Nat.mul_le_mul_right _ h5
  exact (hl j hj1 (by omega)).congr (fun i hi1 hi2 => s1.2.1 i (.inl (by omega)))
 | succ m ih =>
  intro k d h0 h1 hp hl he
  rw [stL1]
  by_cases c : bs = 0 ∨ d0.size < k * bs + bs
  ·rw [if_pos c]
   obtain ⟨s1, s2⟩ := seg_ins (lt := lt) hS hA d (k * bs) d0.size hp.1 h1 (by rw [hp.1]; exact Nat.le_refl _) he
   refine ⟨permIn_trans _ _ _ _ _ hp (permIn_mono _ _ _ _ _ _ (Nat.zero_le _) (Nat.le_refl _) (by rw [hp.1]; exact Nat.le_refl _) s1), fun j hj1 hj2 => ?_⟩
   have hkj : j * bs < k * bs ∨ j = k := by
    rcases Nat.lt_trichotomy j k with h | h | h
    ·exact .inl (Nat.mul_lt_mul_of_pos_right h hbs)
    ·exact .inr h
    ·have : (k + 1) * bs ≤ j * bs := Nat.mul_le_mul_right _ h
     rw [Nat.add_mul, Nat.one_mul] at this
     omega
   rcases hkj with h | h
   ·have h5 : j < k := Nat.lt_of_mul_lt_mul_right h
    have h6 : (j + 1) * bs ≤ k * bs := Nat.mul_le_mul_right _ h5
    exact (hl j hj1 h).congr (fun i hi1 hi2 => s1.2.1 i (.inl (by omega)))
   ·subst h
    rw [Nat.min_eq_right (by rw [Nat.add_mul, Nat.one_mul]; omega)]
    exact s2
  ·rw [if_neg c]
   obtain ⟨s1, s2⟩ := seg_ins (lt := lt) hS hA d (k * bs) (k * bs + bs) hp.1 (by omega) (by rw [hp.1]; omega) he
   have e : k * bs + bs = (k + 1) * bs := by rw [Nat.add_mul, Nat.one_mul]
   rw [e] at s1 s2 ⊢
   refine ih (k + 1) _ (by omega) (by omega) (permIn_trans _ _ _ _ _ hp (permIn_mono _ _ _ _ _ _ (Nat.zero_le _) (by omega) (by rw [hp.1]; exact Nat.le_refl _) s1)) (fun j hj1 hj2 => ?_) (fun i hi => (s1.2.1 i (.inr hi)).trans (he i (by omega)))
   have h5 : j < k + 1 := Nat.lt_of_mul_lt_mul_right hj2
   by_cases h : j = k
   ·subst h
    rw [Nat.min_eq_left (by omega)]
    exact s2
   ·have h6 : (j + 1) * bs ≤ k * bs := Nat.mul_le_mul_right _ (by omega)
    exact (hl j hj1 (by rw [Nat.add_mul] at h6; omega)).congr (fun i hi1 hi2 => s1.2.1 i (.inl (by omega)))
theorem stL2_spec (hS : SWO lt') (hA : ∀ p q, p < q → q < d0.size → lt d0[q]! d0[p]! = lt' d0[q]! d0[p]!) (bs : Nat) (hbs : 0 < bs) : ∀ (m k : Nat) (d : Array α), d0.size - k * (2 * bs) ≤ m → PermIn 0 d0.size d0 d → Lvl lt' d0 d (2 * bs) d0.size 0 (k * (2 * bs)) → Lvl lt' d0 d bs d0.size (k * (2 * bs)) d0.size →
  PermIn 0 d0.size d0 (stL2 lt bs d0.size (k * (2 * bs)) d) ∧ Lvl lt' d0 (stL2 lt bs d0.size (k * (2 * bs)) d) (2 * bs) d0.size 0 d0.size := by
 intro m
 have last : ∀ (k : Nat) (d : Array α), d0.size < k * (2 * bs) + 2 * bs → PermIn 0 d0.size d0 d → Lvl lt' d0 d (2 * bs) d0.size 0 (k * (2 * bs)) → Lvl lt' d0 d bs d0.size (k * (2 * bs)) d0.size →
   PermIn 0 d0.size d0 (if k * (2 * bs) + bs < d0.size then symM lt d0.size d (k * (2 * bs)) (k * (2 * bs) + bs) d0.size else d) ∧ Lvl lt' d0 (if k * (2 * bs) + bs < d0.size then symM lt d0.size d (k * (2 * bs)) (k * (2 * bs) + bs) d0.size else d) (2 * bs) d0.size 0 d0.size := by
  intro k d hn hp hl hr
  have ek : k * (2 * bs) = (2 * k) * bs := by rw [← Nat.mul_assoc, Nat.mul_comm k 2]
  have ek1 : (2 * k + 1) * bs = k * (2 * bs) + bs := by rw [Nat.add_mul, Nat.one_mul, ← ek]
  have split : ∀ j, j * (2 * bs) < d0.size → (j * (2 * bs) < k * (2 * bs) ∧ (j + 1) * (2 * bs) ≤ k * (2 * bs)) ∨ j = k := by
   intro j hj
   rcases Nat.lt_trichotomy j k with h | h | h
   ·exact .inl ⟨Nat.mul_lt_mul_of_pos_right h (by omega), Nat.mul_le_mul_right _ h⟩
   ·exact .inr h
   ·have : (k + 1) * (2 * bs) ≤ j * (2 * bs) := Nat.mul_le_mul_right _ h
    rw [Nat.add_mul, Nat.one_mul] at this
    omega
  by_cases c : k * (2 * bs) + bs < d0.size
  ·rw [if_pos c]
   have hL := hr (2 * k) (by omega) (by omega)
   have hR := hr (2 * k + 1) (by omega) (by omega)
   rw [ek1, ← ek, Nat.min_eq_left (by omega)] at hL
   rw [ek1, Nat.min_eq_right (by rw [Nat.add_mul, ek1]; omega)] at hR
   obtain ⟨s1, s2⟩ := seg_sym (lt := lt) hS hA d (k * (2 * bs)) (k * (2 * bs) + bs) d0.size hp.1 (by omega) c (by rw [hp.1]; exact Nat.le_refl _) hL hR
   refine ⟨permIn_trans _ _ _ _ _ hp (permIn_mono _ _ _ _ _ _ (Nat.zero_le _) (Nat.le_refl _) (by rw [hp.1]; exact Nat.le_refl _) s1), fun j hj1 hj2 => ?_⟩
   rcases split j hj2 with ⟨h, h'⟩ | h
   ·exact (hl j hj1 h).congr (fun i hi1 hi2 => s1.2.1 i (.inl (by omega)))
   ·subst h
    rw [Nat.min_eq_right (by rw [Nat.add_mul, Nat.one_mul]; omega)]
    exact s2
  ·rw [if_neg c]
   refine ⟨hp, fun j hj1 hj2 => ?_⟩
   rcases split j hj2 with ⟨h, h'⟩ | h
   ·exact hl j hj1 h
   ·subst h
    have := hr (2 * j) (by omega) (by omega)
    rw [ek1, ← ek, Nat.min_eq_right (by omega)] at this
    rw [Nat.min_eq_right (by rw [Nat.add_mul, Nat.one_mul]; omega)]
    exact this
 induction m with
 | zero =>
  intro k d h0 hp hl hr
  rw [stL2, if_pos (by omega)]
  exact last k d (by omega) hp hl hr
 | succ m ih =>
  intro k d h0 hp hl hr
  rw [stL2]
  by_cases c : bs = 0 ∨ d0.size < k * (2 * bs) + 2 * bs
  ·rw [if_pos c]
   exact last k d (by omega) hp hl hr
  ·rw [if_neg c]
   have ek : k * (2 * bs) = (2 * k) * bs := by rw [← Nat.mul_assoc, Nat.mul_comm k 2]
   have ek1 : (2 * k + 1) * bs = k * (2 * bs) + bs := by rw [Nat.add_mul, Nat.one_mul, ← ek]
   have ek2 : (2 * k + 1 + 1) * bs = k * (2 * bs) + 2 * bs := by rw [Nat.add_mul, ek1]; omega
   have e : k * (2 * bs) + 2 * bs = (k + 1) * (2 * bs) := by rw [Nat.add_mul, Nat.one_mul]
   have hL := hr (2 * k) (by omega) (by omega)
   have hR := hr (2 * k + 1) (by omega) (by omega)
   rw [ek1, ← ek, Nat.min_eq_left (by omega)] at hL
   rw [ek1, ek2, Nat.min_eq_left (by omega)] at hR
   obtain ⟨s1, s2⟩ := seg_sym (lt := lt) hS hA d (k * (2 * bs)) (k * (2 * bs) + bs) (k * (2 * bs) + 2 * bs) hp.1 (by omega) (by omega) (by rw [hp.1]; omega) hL hR
   rw [e] at s1 s2 ⊢
   refine ih (k + 1) _ (by omega) (permIn_trans _ _ _ _ _ hp (permIn_mono _ _ _ _ _ _ (Nat.zero_le _) (by omega) (by rw [hp.1]; exact Nat.le_refl _) s1)) (fun j hj1 hj2 => ?_) (fun j hj1 hj2 => ?_)
   ·have h5 : j < k + 1 := Nat.lt_of_mul_lt_mul_right hj2
    by_cases h : j = k
    ·subst h
     rw [Nat.min_eq_left (by omega)]
     exact s2
    ·have h6 : (j + 1) * (2 * bs) ≤ k * (2 * bs) := Nat.mul_le_mul_right _ (by omega)
     exact (hl j hj1 (by rw [Nat.add_mul] at h6; omega)).congr (fun i hi1 hi2 => s1.2.1 i (.inl (by omega)))
   ·exact (hr j (by omega) hj2).congr (fun i hi1 hi2 => s1.2.1 i (.inr (by omega)))
theorem stL3_spec (hS : SWO lt') (hA : ∀ p q, p < q → q < d0.size → lt d0[q]! d0[p]! = lt' d0[q]! d0[p]!) : ∀ (m bs : Nat) (d : Array α), d0.size - bs ≤ m → 0 < bs → PermIn 0 d0.size d0 d → Lvl lt' d0 d bs d0.size 0 d0.size → PermIn 0 d0.size d0 (stL3 lt bs d0.size d) ∧ SortedIn lt' 0 d0.size (stL3 lt bs d0.size d) := by
 intro m
 have fin : ∀ (bs : Nat) (d : Array α), 0 < bs → d0.size ≤ bs → PermIn 0 d0.size d0 d → Lvl lt' d0 d bs d0.size 0 d0.size → PermIn 0 d0.size d0 d ∧ SortedIn lt' 0 d0.size d := by
  intro bs d hb h hp hl
  refine ⟨hp, fun p q h1 h2 h3 => ?_⟩
  have := hl 0 (Nat.zero_le _) (by omega)
  rw [Nat.zero_mul, Nat.zero_add, Nat.one_mul, Nat.min_eq_right h] at this
  exact this.2 p q h1 h2 h3
 induction m with
 | zero =>
  intro bs d h0 hb hp hl
  rw [stL3, if_pos (by omega)]
  exact fin bs d hb (by omega) hp hl
 | succ m ih =>
  intro bs d h0 hb hp hl
  rw [stL3]
  by_cases c : bs = 0 ∨ d0.size ≤ bs
  ·rw [if_pos c]
   exact fin bs d hb (by omega) hp hl
  ·rw [if_neg c]
   have := stL2_spec (lt := lt) hS hA bs hb _ 0 d (Nat.le_refl _) hp (fun k h1 h2 => by rw [Nat.zero_mul] at h2; omega) (fun k _ h2 => hl k (Nat.zero_le _) h2)
   rw [Nat.zero_mul] at this
   exact ih (2 * bs) _ (by omega) (by omega) this.1 this.2
theorem stab_spec (hS : SWO lt') (hA : ∀ p q, p < q → q < d0.size → lt d0[q]! d0[p]! = lt' d0[q]! d0[p]!) : PermIn 0 d0.size d0 (stab lt d0) ∧ SortedIn lt' 0 d0.size (stab lt d0) := by
 unfold stab
 have := stL1_spec (lt := lt) hS hA 20 (by omega) _ 0 d0 (Nat.le_refl _) (by omega) (permIn_refl _ _ _) (fun k h1 h2 => by rw [Nat.zero_mul] at h2; omega) (fun i _ => rfl)
 rw [Nat.zero_mul] at this
 exact stL3_spec hS hA _ 20 _ (Nat.le_refl _) (by omega) this.1 this.2
end
section
variable {P : Program} {α : Type} [Inhabited α] {enc : α → List Value} {k : Nat} {w0 W : World} {blk off : Nat} {dk d0 : Array α}
def atD (w : World) (t : Nat) : World := { w with drawn := t }
structure GrownX where
 t : Nat
 os : Array Obj
instance : Inhabited GrownX := ⟨⟨0, #[]⟩⟩
theorem wp_region_quietX {id : Nat} {Q : Exit → Act → World → Prop} {a : Act} {w : World} {l : List Oper} (hm : P.follows .mixedOrders = true) (hB : Region.lexB .any l.toArray = true)
  (h : wpQuiet P l.toArray (fun w' => ∃ p : GrownX, w' = grow (atD w p.t) p.os) (fun a' => ∀ w', (∃ p : GrownX, w' = grow (atD w p.t) p.os) → Q .normal a' w') l a) : (Code.region id l.toArray true).wp P Q a w :=
 wp_region_quiet (C := fun w' => ∃ p : GrownX, w' = grow (atD w p.t) p.os) hm hB ⟨⟨w.drawn + 1, #[]⟩, by rw [grow_empty]; rfl⟩ (by simpa using h)
theorem callsX_of {f : FuncId} {args : Array Value} {w : World} {t : Nat} {os : Array Obj} {v : Value}
  (h : Calls P f args (grow (atD w t) os) fun e w' => e = .returned v ∧ ∃ t' os', w' = grow (atD (grow (atD w t) os) t') os') : Calls P f args (grow (atD w t) os) fun e w'' => e = .returned v ∧ ∃ p : GrownX, w'' = grow (atD w p.t) p.os :=
 h.mono fun _ _ ⟨he, t', os', hq⟩ => ⟨he, ⟨t', os ++ os'⟩, by rw [hq]; show grow (grow (atD w t') os) os' = _; rw [grow_grow]⟩
theorem grownX_of_below {w w' : World} (h : RowKit.Below w.heap.size w w') : ∃ t os, w' = grow (atD w t) os := by
 refine ⟨w'.drawn, w'.heap.extract w.heap.size w'.heap.size, ?_⟩
 obtain ⟨h1, h2, h3, h4, h5⟩ := h
 cases w with
 | mk heap tape drawn os output =>
  cases w' with
  | mk heap' tape' drawn' os' output' =>
   simp only at h1 h2 h3 h4 h5
   subst h1; subst h2; subst h3
   unfold grow atD
   congr 1
   apply Array.ext_getElem?
   intro i
   rw [Array.getElem?_append]
   by_cases c : i < heap.size
   ·rw [if_pos c, h5 i c]
   ·rw [if_neg c, Array.getElem?_extract]
    show _ = (if i - heap.size < min heap'.size heap'.size - heap.size then heap'[heap.size + (i - heap.size)]? else none)
    rw [Nat.min_self]
    by_cases c2 : i < heap'.size
    ·rw [if_pos (by omega), show heap.size + (i - heap.size) = i from by omega]
    ·rw [if_neg (by omega), Array.getElem?_eq_none (by omega)]
def CmpB (P : Program) (g : Nat) (cb : Array Value) (enc : α → List Value) (cf : α → α → Int) : Prop :=
 ∀ (W : World) (x y : α), Calls P g (#[.agg (enc x).toArray, .agg (enc y).toArray] ++ cb) W fun e w' => e = .returned (.int .i64 (cf x y)) ∧ RowKit.Below W.heap.size W w'
def SWX (enc : α → List Value) (k : Nat) (w0 : World) (blk off : Nat) (dk : Array α) (W : World) : Prop := ∃ t, SWK enc k (atD w0 t) blk off dk W
theorem rowK_at (R : RowK enc k w0 blk off d0) (t : Nat) : RowK enc k (atD w0 t) blk off d0 := ⟨R.hk, R.h1, R.hH, R.hblk⟩
theorem SWX.start (h : HoldsK enc k w0 blk off dk) : SWX enc k w0 blk off dk w0 := ⟨w0.drawn, SWK.start h⟩
theorem SWX.grownX (h : SWX enc k w0 blk off dk W) (t : Nat) (os : Array Obj) : SWX enc k w0 blk off dk (grow (atD W t) os) := by
 obtain ⟨t0, m, os0, rfl⟩ := h
 refine ⟨t, 0, os0 ++ os, ?_⟩
 unfold sortWorldK
 rw [← grow_grow]
 rfl
theorem SWX.drew (h : SWX enc k w0 blk off dk W) : SWX enc k w0 blk off dk W.drew := by
 obtain ⟨t, h⟩ := h
 exact ⟨t, h.drew⟩
theorem SWX.swapped (h : SWX enc k w0 blk off dk W) (R : RowK enc k w0 blk off d0) (i j : Nat) (hi : i < dk.size) (hj : j < dk.size) :
  SWX enc k w0 blk off (swp dk i j) ((W.drew.setCells blk (off + i * k) (enc dk[j]!)).setCells blk (off + j * k) (enc dk[i]!)) := by
 obtain ⟨t, h⟩ := h
 exact ⟨t, h.swapped (rowK_at R t) i j hi hj⟩
theorem SWX.ld1 (h : SWX enc k w0 blk off dk W) (R : RowK enc k w0 blk off d0) (hs : dk.size = d0.size) (P : Program) (i : Nat) (hi : i < dk.size) :
  Sem.run P (loadCellsFrom ⟨blk, off + i * k, none⟩ 0 k #[]) W.drew = .ok (enc dk[i]!).toArray W.drew := by
 obtain ⟨t, h⟩ := h
 exact h.ld1 (rowK_at R t) hs P i hi
theorem SWX.st1 (h : SWX enc k w0 blk off dk W) (R : RowK enc k w0 blk off d0) (hs : dk.size = d0.size) (P : Program) (i : Nat) (hi : i < dk.size) (y : α) :
  Sem.run P (storeCells ⟨blk, off + i * k, none⟩ (enc y) 0) W.drew = .ok () (W.drew.setCells blk (off + i * k) (enc y)) := by
 obtain ⟨t, h⟩ := h
 exact h.st1 (rowK_at R t) hs P i hi y
theorem SWX.st2 (h : SWX enc k w0 blk off dk W) (R : RowK enc k w0 blk off d0) (hs : dk.size = d0.size) (P : Program) (i j : Nat) (hi : i < dk.size) (hj : j < dk.size) (y x : α) :
  Sem.run P (storeCells ⟨blk, off + j * k, none⟩ (enc x) 0) (W.drew.setCells blk (off + i * k) (enc y)) = .ok () ((W.drew.setCells blk (off + i * k) (enc y)).setCells blk (off + j * k) (enc x)) := by
 obtain ⟨t, h⟩ := h
 exact h.st2 (rowK_at R t) hs P i j hi hj y x
theorem SWX.ld (h : SWX enc k w0 blk off dk W) (R : RowK enc k w0 blk off d0) (hs : dk.size = d0.size) (P : Program) (i : Nat) (hi : i < dk.size) (t : Nat) (os : Array Obj) :
  Sem.run P (loadCellsFrom ⟨blk, off + i * k, none⟩ 0 k #[]) (grow (atD W t) os) = .ok (enc dk[i]!).toArray (grow (atD W t) os) := by
 obtain ⟨t', h⟩ := h.grownX t os
 exact h.load (rowK_at R t') hs P i hi
omit [Inhabited α] in
theorem CmpB.at_ {g : Nat} {cb : Array Value} {cf : α → α → Int} (hC : CmpB P g cb enc cf) (W : World) (x y : α) (t : Nat) (os : Array Obj) :
  Calls P g (#[.agg (enc x).toArray, .agg (enc y).toArray] ++ cb) (grow (atD W t) os) fun e w' => e = .returned (.int .i64 (cf x y)) ∧ ∃ t' os', w' = grow (atD (grow (atD W t) os) t') os' :=
 (hC _ x y).mono fun _ _ ⟨he, hb⟩ => ⟨he, grownX_of_below hb⟩
end
end Go.Proofs.Ytcgejabkjljeeaa.P
end

section
namespace Go.Proofs.Ytcgejabkjljeeaa.P
open Go.RowKit Go.Proofs.YtcgejabkjljeeaaW.PrintWords Go.Proofs.YtcgejabkjljeeaaW.PrintLast Go.Proofs.YtcgejabkjljeeaaW.PrintMore
attribute [local go_sem] str_gtr str_leq str_geq max2_int min2_int max_two min_two qc1 qb1 max_four min_four
set_option linter.unusedVariables false
set_option linter.unusedSimpArgs false
theorem yq12 {P : Prop} (h : P := by repeat (first | (with_reducible first | exact HB.out | apply qi | apply qg | apply qh) | exact HB.out)) : P := h
mutual
def spec_VersionOk.j0 : Nat → Bool → List (S66) → Int → Int → Int → Option (Bool)
 | 0, _, _, _, _, _ => none
 | k + 1, x29, x102000, x102001, x102002, x102003 => if x29 = true then (some false) else (spec_VersionOk.l0 k 0 x102000 x102001 x102002 x102003)
def spec_VersionOk.l0 : Nat → Int → List (S66) → Int → Int → Int → Option (Bool)
 | 0, _, _, _, _, _ => none
 | k + 1, x3, x102000, x102001, x102002, x102003 => if x3 < (x102000.length : Int) then (if 0 ≤ x3 then ((spec_l12Meta.f ((qm x102000 x3).f0) ((qm x102000 x3).f1) ((qm x102000 x3).f2) ((qm x102000 x3).f3) ((qm x102000 x3).f4)).bind fun t106 => (if t106 = true then (if ((qm x102000 x3).f0) ≥ x102001 then (spec_VersionOk.j2 k x3 true x102000 x102001 x102002 x102003) else (if x3 > 0 then (if 0 ≤ (wrap64 (x3 - 1)) then (if (wrap64 (x3 - 1)) < (x102000.length : Int) then ((spec_l12Ahead.f ((qm x102000 (wrap64 (x3 - 1))).f0) ((qm x102000 (wrap64 (x3 - 1))).f1) ((qm x102000 (wrap64 (x3 - 1))).f2) ((qm x102000 (wrap64 (x3 - 1))).f3) ((qm x102000 (wrap64 (x3 - 1))).f4) ((qm x102000 x3).f0) ((qm x102000 x3).f1) ((qm x102000 x3).f2) ((qm x102000 x3).f3) ((qm x102000 x3).f4)).bind fun t110 => (spec_VersionOk.j2 k x3 (!t110) x102000 x102001 x102002 x102003)) else (none)) else (none)) else (spec_VersionOk.j2 k x3 false x102000 x102001 x102002 x102003))) else (spec_VersionOk.j2 k x3 true x102000 x102001 x102002 x102003))) else (none)) else (some true)
def spec_VersionOk.j2 : Nat → Int → Bool → List (S66) → Int → Int → Int → Option (Bool)
 | 0, _, _, _, _, _, _ => none
 | k + 1, x3, x73, x102000, x102001, x102002, x102003 => if x73 = true then (some false) else (spec_VersionOk.l1 k x3 0 x102000 x102001 x102002 x102003)
def spec_VersionOk.l1 : Nat → Int → Int → List (S66) → Int → Int → Int → Option (Bool)
 | 0, _, _, _, _, _, _ => none
 | k + 1, x3, x4, x102000, x102001, x102002, x102003 => if x4 < x3 then (if 0 ≤ x4 then (if x4 < (x102000.length : Int) then (if 0 ≤ x3 then (if x3 < (x102000.length : Int) then (if ((qm x102000 x4).f0) = ((qm x102000 x3).f0) then (some false) else (spec_VersionOk.l1 k x3 (wrap64 (x4 + 1)) x102000 x102001 x102002 x102003)) else (none)) else (none)) else (none)) else (none)) else (spec_VersionOk.l0 k (wrap64 (x3 + 1)) x102000 x102001 x102002 x102003)
end
def spec_VersionOk.f (k : Nat) (l0_0 : List (S66)) (a0_1 : Int) (a0_2 : Int) (a0_3 : Int) : Option (Bool) := if (l0_0.length : Int) > 30 then (spec_VersionOk.j0 k true l0_0 a0_1 a0_2 a0_3) else ((spec_l1In.f a0_1 1 1000000).bind fun t102 => (if t102 = true then ((spec_l1In.f a0_2 0 1000000000000).bind fun t103 => (if t103 = true then ((spec_l1In.f a0_3 0 (wrap64 (a0_1 - 1))).bind fun t104 => (spec_VersionOk.j0 k (!t104) l0_0 a0_1 a0_2 a0_3)) else (spec_VersionOk.j0 k true l0_0 a0_1 a0_2 a0_3))) else (spec_VersionOk.j0 k true l0_0 a0_1 a0_2 a0_3)))
open Go.Shelf Go.Lib Go.Sort
theorem cellX {w : World} {a : Addr} {v : Value} (h : w.cell? a = some v) (t : Nat) (os : Array Obj) : (grow (atD w t) os).cell? a = some v := by
 have hl := World.block_lt_of_cell? w a h
 unfold World.cell? at h ⊢
 have : (grow (atD w t) os).heap[a.block]? = w.heap[a.block]? := by
  show (w.heap ++ os)[a.block]? = _
  rw [Array.getElem?_append_left hl]
 rw [this]
 exact h
theorem below_grow (w : World) (t : Nat) (os : Array Obj) : Below w.heap.size w (grow (atD w t) os) := by
 constructor
 all_goals first
  | rfl
  | (show w.heap.size ≤ (w.heap ++ os).size; simp; done)
  | (intro k hk; show (w.heap ++ os)[k]? = _; rw [Array.getElem?_append_left hk])
theorem wpQuiet_skip {P : Program} {ops : Array Oper} {C : World → Prop} {Q : Act → Prop} {a : Act} {o : Oper} {rest : List Oper} (hw : Region.wanted o (yielded ops a.tmps) = false) (h : ∀ K : Act → Prop, (∀ a, wpQuiet P ops C Q rest a → K a) → K (a.put o.dst undef)) : wpQuiet P ops C Q (o :: rest) a := by
 unfold wpQuiet
 rw [hw]
 exact h _ (fun _ h => h)
theorem wpQuiet_want {P : Program} {ops : Array Oper} {C : World → Prop} {Q : Act → Prop} {a : Act} {o : Oper} {rest : List Oper} (hw : Region.wanted o (yielded ops a.tmps) = true) (h : ∀ K : Act → Prop, (∀ a, wpQuiet P ops C Q rest a → K a) → o.quiet P a C K) : wpQuiet P ops C Q (o :: rest) a := by
 unfold wpQuiet
 rw [if_pos hw]
 exact h _ (fun _ h => h)
theorem svT (k : Nat) (l : List S66) (n s g : Int) (r : Bool) (h : spec_VersionOk.j0 k true l n s g = some r) : r = false := by
 cases k with
 | zero => cases h
 | succ k => rw [spec_VersionOk.j0, if_pos rfl] at h; exact (Option.some.inj h).symm
theorem svT2 (k : Nat) (i : Int) (l : List S66) (n s g : Int) (r : Bool) (h : spec_VersionOk.j2 k i true l n s g = some r) : r = false := by
 cases k with
 | zero => cases h
 | succ k => rw [spec_VersionOk.j2, if_pos rfl] at h; exact (Option.some.inj h).symm
theorem svN (k : Nat) (i : Int) (l : List S66) (n s g : Int) (r : Bool) (h : spec_VersionOk.j2 k i false l n s g = some r) : ∃ k2, k = k2 + 1 ∧ spec_VersionOk.l1 k2 i 0 l n s g = some r := by
 cases k with
 | zero => cases h
 | succ k => rw [spec_VersionOk.j2, if_neg (by decide)] at h; exact ⟨k, rfl, h⟩
set_option maxHeartbeats 4000000 in
set_option maxRecDepth 100000 in
theorem spec_VersionOk.calls (k : Nat) (A0_0 : Option Addr) (c0_0 : Nat) (l0_0 : List (S66)) (a0_1 : Int) (a0_2 : Int) (a0_3 : Int) (r : Bool) (w : World) (hr0_0 : Kd.C k66 w A0_0 l0_0.length l0_0) (hc0_0 : l0_0.length ≤ c0_0) (h : spec_VersionOk.f k l0_0 a0_1 a0_2 a0_3 = some r) :
  Calls Try.prog 26 #[.agg #[.slice A0_0 l0_0.length c0_0, .int .i64 a0_1, .int .i64 a0_2, .int .i64 a0_3]] w fun e w' => e = .returned (.bool r) ∧ Below w.heap.size w w' := by
 have hu32 := Try.underlying32
 have hu66 := Try.underlying66
 have mixed : Try.prog.follows .mixedOrders = true := by kernel_rfl
 have HR := Qz.mk hr0_0
 have hlm := Kd.C_max hr0_0
 clear hr0_0 hc0_0
 have HB := Qz.mk ((Below.refl _ w).alloc (Nat.le_refl _) (.cells #[.slice A0_0 l0_0.length c0_0, .int .i64 a0_1, .int .i64 a0_2, .int .i64 a0_3] 32))
 have BK := Qz.mk (blk_new w (.cells #[.slice A0_0 l0_0.length c0_0, .int .i64 a0_1, .int .i64 a0_2, .int .i64 a0_3] 32))
 unfold spec_VersionOk.f at h
 by_cases c0 : (l0_0.length : Int) > 30
 ·have c0b : decide ((30 : Int) < (l0_0.length : Int)) = true := decide_eq_true c0
  rw [if_pos c0] at h
  obtain rfl := svT _ _ _ _ _ _ h
  clear h c0
  go_enter Try.func26, Try.ntmps26
  go_wp2
  go_ret
  exact ⟨rfl, HB.out⟩
 have c0b : decide ((30 : Int) < (l0_0.length : Int)) = false := decide_eq_false c0
 rw [if_neg c0] at h
 clear c0
 obtain ⟨t1, A1_, h⟩ := Option.bind_eq_some_iff.mp h
 have A1 := Qz.mk A1_
 clear A1_
 cases t1 with
 | false =>
  obtain rfl := svT _ _ _ _ _ _ h
  clear h
  go_enter Try.func26, Try.ntmps26
  go_wp2_with (first | (go_at_call 63; (with_reducible refine (spec_l1In.calls a0_1 1 1000000 false _ A1.out).mono ?_); rintro e w' ⟨rfl, ⟨nd, rfl⟩⟩))
  go_ret
  exact ⟨rfl, yq12⟩
 | true =>
 obtain ⟨t2, A2_, h⟩ := Option.bind_eq_some_iff.mp h
 have A2 := Qz.mk A2_
 clear A2_
 cases t2 with
 | false =>
  obtain rfl := svT _ _ _ _ _ _ h
  clear h
  go_enter Try.func26, Try.ntmps26
  go_wp2_with (first | (go_at_call 63; (with_reducible refine (spec_l1In.calls a0_1 1 1000000 true _ A1.out).mono ?_); rintro e w' ⟨rfl, ⟨nd, rfl⟩⟩) | (go_at_call 63; (with_reducible refine (spec_l1In.calls a0_2 0 1000000000000 false _ A2.out).mono ?_); rintro e w' ⟨rfl, ⟨nd, rfl⟩⟩))
  go_ret
  exact ⟨rfl, yq12⟩
 | true =>
 obtain ⟨t3, A3_, h⟩ := Option.bind_eq_some_iff.mp h
 have A3 := Qz.mk A3_
 clear A3_
 cases t3 with
 | false =>
  obtain rfl := svT _ _ _ _ _ _ h
  clear h
  go_enter Try.func26, Try.ntmps26
  go_wp2_with (first | (go_at_call 63; (with_reducible refine (spec_l1In.calls a0_1 1 1000000 true _ A1.out).mono ?_); rintro e w' ⟨rfl, ⟨nd, rfl⟩⟩) | (go_at_call 63; (with_reducible refine (spec_l1In.calls a0_2 0 1000000000000 true _ A2.out).mono ?_); rintro e w' ⟨rfl, ⟨nd, rfl⟩⟩) | (go_at_call 63; (with_reducible refine (spec_l1In.calls a0_3 0 (wrap64 (a0_1 - 1)) false _ A3.out).mono ?_); rintro e w' ⟨rfl, ⟨nd, rfl⟩⟩))
  go_ret
  exact ⟨rfl, yq12⟩
 | true =>
 cases k with
 | zero => cases h
 | succ k =>
 replace h : spec_VersionOk.l0 k 0 l0_0 a0_1 a0_2 a0_3 = some r := h
 have H' := Qz.mk h
 clear h
 go_enter Try.func26, Try.ntmps26
 go_wp2_with (first | (go_at_call 63; (with_reducible refine (spec_l1In.calls a0_1 1 1000000 true _ A1.out).mono ?_); rintro e w' ⟨rfl, ⟨nd, rfl⟩⟩) | (go_at_call 63; (with_reducible refine (spec_l1In.calls a0_2 0 1000000000000 true _ A2.out).mono ?_); rintro e w' ⟨rfl, ⟨nd, rfl⟩⟩) | (go_at_call 63; (with_reducible refine (spec_l1In.calls a0_3 0 (wrap64 (a0_1 - 1)) true _ A3.out).mono ?_); rintro e w' ⟨rfl, ⟨nd, rfl⟩⟩))
 go_loopg [3] k (fun kq v3 wr => ∃ (i : Nat), v3 = .int .i64 i ∧ Qz (spec_VersionOk.l0 kq (i : Int) l0_0 a0_1 a0_2 a0_3 = some r) ∧ i ≤ l0_0.length ∧ Qz (kq ≤ k) ∧ Qz (wr.heap[w.heap.size]? = some (.cells #[.slice A0_0 l0_0.length c0_0, .int .i64 a0_1, .int .i64 a0_2, .int .i64 a0_3] 32 (0, 0))) ∧ Qz (Below w.heap.size w wr))
 case atStart => exact ⟨0, rfl, H', Nat.zero_le _, ⟨Nat.le_refl _⟩, ⟨by (with_reducible repeat (first | exact BK.out | refine qb ?_ _ | refine qc ?_))⟩, ⟨yq12⟩⟩
 case round =>
  clear H' BK HB
  obtain ⟨i, rfl, HA, hil, HK1, BK, HB⟩ := hrel
  cases gk with
  | zero => exact absurd HA.out (by simp [spec_VersionOk.l0])
  | succ k1 =>
   have H := HA.out
   clear HA
   simp only [spec_VersionOk.l0] at H
   have hz0 := (qd BK.out 0).trans rfl
   have hz1 := (qd BK.out 1).trans rfl
   by_cases c3 : (i : Int) < (l0_0.length : Int)
   ·rw [if_pos c3, if_pos (by omega)] at H
    have c3b : decide ((i : Int) < (l0_0.length : Int)) = true := decide_eq_true c3
    obtain ⟨t106, A4_, H⟩ := Option.bind_eq_some_iff.mp H
    have A4 := Qz.mk A4_
    clear A4_
    obtain ⟨ad, e, h0, h1, h2, h3, h4⟩ := at_T66 HR.out (i : Int) (by omega) c3
    cases e
    rw [Int.toNat_natCast] at h0 h1 h2 h3 h4
    replace h0 := (HB.out.cell (World.block_lt_of_cell? w _ h0)).trans h0
    replace h1 := (HB.out.cell (World.block_lt_of_cell? w _ h1)).trans h1
    replace h2 := (HB.out.cell (World.block_lt_of_cell? w _ h2)).trans h2
    replace h3 := (HB.out.cell (World.block_lt_of_cell? w _ h3)).trans h3
    replace h4 := (HB.out.cell (World.block_lt_of_cell? w _ h4)).trans h4
    have HX : Qz (qm l0_0 i = qm l0_0 i) := ⟨rfl⟩
    generalize qm l0_0 (i : Int) = x at h0 h1 h2 h3 h4 A4 H
    cases t106 with
    | false =>
     rw [if_neg (by decide)] at H
     obtain rfl := svT2 _ _ _ _ _ _ _ H
     clear H
     have hm : ∀ t os, Calls Try.prog 64 #[.agg #[.int .i64 x.f0, .int .i64 x.f1, .string x.f2, .string x.f3, .int .i64 x.f4]] (grow (atD wr t) os) fun e w' => e = .returned (.bool false) ∧ ∃ t' os', w' = grow (atD (grow (atD wr t) os) t') os' := fun t os => (spec_l12Meta.calls x.f0 x.f1 x.f2 x.f3 x.f4 false (grow (atD wr t) os) A4.out).mono fun _ _ h => ⟨h.1, grownX_of_below h.2⟩
     have hz0' := cellX hz0
     have h0' := cellX h0
     have h1' := cellX h1
     have h2' := cellX h2
     have h3' := cellX h3
     have h4' := cellX h4
     go_wp2
     refine wp_region_quietX (by assumption) (by kernel_rfl) ?_
     iterate 8 (with_reducible refine wpQuiet_want ?want_ (fun K hK => ?_); (case want_ => kernel_rfl); go_simp; (first | (with_reducible refine hK _ ?_; clear hK K) | (apply Exists.intro; refine ⟨fun _ => ?_, hK _ ?_⟩; (go_at_call 64; (with_reducible refine callsX_of (hm _ _))); clear hK K)))
     iterate 9 (with_reducible refine wpQuiet_skip ?skip_ (fun K hK => ?_); (case skip_ => kernel_rfl); go_simp; with_reducible refine hK _ ?_; clear hK K)
     iterate 2 (with_reducible refine wpQuiet_want ?want_ (fun K hK => ?_); (case want_ => kernel_rfl); go_simp; (first | (with_reducible refine hK _ ?_; clear hK K) | (apply Exists.intro; refine ⟨fun _ => ?_, hK _ ?_⟩; (go_at_call 64; (with_reducible refine callsX_of (hm _ _))); clear hK K)))
     iterate 17 (with_reducible refine wpQuiet_skip ?skip_ (fun K hK => ?_); (case skip_ => kernel_rfl); go_simp; with_reducible refine hK _ ?_; clear hK K)
     (with_reducible refine wpQuiet_want ?want_ (fun K hK => ?_); (case want_ => kernel_rfl); go_simp; (first | (with_reducible refine hK _ ?_; clear hK K) | (apply Exists.intro; refine ⟨fun _ => ?_, hK _ ?_⟩; (go_at_call 64; (with_reducible refine callsX_of (hm _ _))); clear hK K)))
     refine wpQuiet_nil ?_
     intro _ hw_
     obtain ⟨⟨tq, osq⟩, hw_⟩ := hw_
     subst hw_
     have HB2 := Qz.mk (HB.out.trans ((below_grow wr tq osq).mono HB.out.size))
     go_wp2
     go_ret
     exact ⟨rfl, HB2.out⟩
    | true =>
     rw [if_pos rfl] at H
     have hm : ∀ t os, Calls Try.prog 64 #[.agg #[.int .i64 x.f0, .int .i64 x.f1, .string x.f2, .string x.f3, .int .i64 x.f4]] (grow (atD wr t) os) fun e w' => e = .returned (.bool true) ∧ ∃ t' os', w' = grow (atD (grow (atD wr t) os) t') os' := fun t os => (spec_l12Meta.calls x.f0 x.f1 x.f2 x.f3 x.f4 true (grow (atD wr t) os) A4.out).mono fun _ _ h => ⟨h.1, grownX_of_below h.2⟩
     have hz0' := cellX hz0
     have hz1' := cellX hz1
     have h0' := cellX h0
     have h1' := cellX h1
     have h2' := cellX h2
     have h3' := cellX h3
     have h4' := cellX h4
     by_cases cn : x.f0 ≥ a0_1
     ·have cnb : decide (a0_1 ≤ x.f0) = true := decide_eq_true cn
      rw [if_pos cn] at H
      obtain rfl := svT2 _ _ _ _ _ _ _ H
      clear H
      go_wp2
      refine wp_region_quietX (by assumption) (by kernel_rfl) ?_
      iterate 19 (with_reducible refine wpQuiet_want ?want_ (fun K hK => ?_); (case want_ => kernel_rfl); go_simp; (first | (with_reducible refine hK _ ?_; clear hK K) | (apply Exists.intro; refine ⟨fun _ => ?_, hK _ ?_⟩; (go_at_call 64; (with_reducible refine callsX_of (hm _ _))); clear hK K)))
      iterate 17 (with_reducible refine wpQuiet_skip ?skip_ (fun K hK => ?_); (case skip_ => kernel_rfl); go_simp; with_reducible refine hK _ ?_; clear hK K)
      (with_reducible refine wpQuiet_want ?want_ (fun K hK => ?_); (case want_ => kernel_rfl); go_simp; with_reducible refine hK _ ?_; clear hK K)
      refine wpQuiet_nil ?_
      intro _ hw_
      obtain ⟨⟨tq, osq⟩, hw_⟩ := hw_
      subst hw_
      have HB2 := Qz.mk (HB.out.trans ((below_grow wr tq osq).mono HB.out.size))
      go_wp2
      go_ret
      exact ⟨rfl, HB2.out⟩
     have cnb : decide (a0_1 ≤ x.f0) = false := decide_eq_false cn
     rw [if_neg cn] at H
     by_cases ci : (i : Int) > 0
     case' pos =>
      have cib : decide ((0 : Int) < (i : Int)) = true := decide_eq_true ci
      have cic : decide (0 < i) = true := decide_eq_true (by omega)
      obtain ⟨j, hij⟩ : ∃ j : Nat, i = j + 1 := ⟨i - 1, by omega⟩
      have hw1 : wrap64 ((i : Int) - 1) = (j : Int) := by unfold wrap64; omega
      have hwi : IntKind.i64.wrap ((i : Int) - 1) = (j : Int) := by rw [IntKind.wrap_i64]; omega
      have cjl : (j : Int) < (l0_0.length : Int) := by omega
      rw [if_pos ci, hw1, if_pos (by omega), if_pos cjl] at H
      obtain ⟨t110, A5_, H⟩ := Option.bind_eq_some_iff.mp H
      have A5 := Qz.mk A5_
      clear A5_
      obtain ⟨adg, e, g0, g1, g2, g3, g4⟩ := at_T66 HR.out (j : Int) (by omega) cjl
      cases e
      rw [Int.toNat_natCast] at g0 g1 g2 g3 g4
      replace g0 := (HB.out.cell (World.block_lt_of_cell? w _ g0)).trans g0
      replace g1 := (HB.out.cell (World.block_lt_of_cell? w _ g1)).trans g1
      replace g2 := (HB.out.cell (World.block_lt_of_cell? w _ g2)).trans g2
      replace g3 := (HB.out.cell (World.block_lt_of_cell? w _ g3)).trans g3
      replace g4 := (HB.out.cell (World.block_lt_of_cell? w _ g4)).trans g4
      generalize qm l0_0 (j : Int) = y at g0 g1 g2 g3 g4 A5
      have ha : ∀ t os, Calls Try.prog 56 #[.agg #[.int .i64 y.f0, .int .i64 y.f1, .string y.f2, .string y.f3, .int .i64 y.f4], .agg #[.int .i64 x.f0, .int .i64 x.f1, .string x.f2, .string x.f3, .int .i64 x.f4]] (grow (atD wr t) os) fun e w' => e = .returned (.bool t110) ∧ ∃ t' os', w' = grow (atD (grow (atD wr t) os) t') os' := fun t os => (spec_l12Ahead.calls y.f0 y.f1 y.f2 y.f3 y.f4 x.f0 x.f1 x.f2 x.f3 x.f4 t110 (grow (atD wr t) os) A5.out).mono fun _ _ h => ⟨h.1, grownX_of_below h.2⟩
      have g0' := cellX g0
      have g1' := cellX g1
      have g2' := cellX g2
      have g3' := cellX g3
      have g4' := cellX g4
      clear hij
      cases t110
      case false =>
       obtain rfl := svT2 _ _ _ _ _ _ _ H
       clear H
       go_wp2
       refine wp_region_quietX (by assumption) (by kernel_rfl) ?_
       iterate 37 (with_reducible refine wpQuiet_want ?want_ (fun K hK => ?_); (case want_ => kernel_rfl); go_simp; (first | (with_reducible refine hK _ ?_; clear hK K) | (apply Exists.intro; refine ⟨fun _ => ?_, hK _ ?_⟩; (first | (go_at_call 64; (with_reducible refine callsX_of (hm _ _))) | (go_at_call 56; (with_reducible refine callsX_of (ha _ _)))); clear hK K)))
       refine wpQuiet_nil ?_
       intro _ hw_
       obtain ⟨⟨tq, osq⟩, hw_⟩ := hw_
       subst hw_
       have HB2 := Qz.mk (HB.out.trans ((below_grow wr tq osq).mono HB.out.size))
       go_wp2
       go_ret
       exact ⟨rfl, HB2.out⟩
      replace H : spec_VersionOk.j2 k1 (i : Int) false l0_0 a0_1 a0_2 a0_3 = some r := H
      go_wp2
      refine wp_region_quietX (by assumption) (by kernel_rfl) ?_
      iterate 37 (with_reducible refine wpQuiet_want ?want_ (fun K hK => ?_); (case want_ => kernel_rfl); go_simp; (first | (with_reducible refine hK _ ?_; clear hK K) | (apply Exists.intro; refine ⟨fun _ => ?_, hK _ ?_⟩; (first | (go_at_call 64; (with_reducible refine callsX_of (hm _ _))) | (go_at_call 56; (with_reducible refine callsX_of (ha _ _)))); clear hK K)))
     case' neg =>
      have cib : decide ((0 : Int) < (i : Int)) = false := decide_eq_false ci
      have cic : decide (0 < i) = false := decide_eq_false (by omega)
      rw [if_neg ci] at H
      go_wp2
      refine wp_region_quietX (by assumption) (by kernel_rfl) ?_
      iterate 22 (with_reducible refine wpQuiet_want ?want_ (fun K hK => ?_); (case want_ => kernel_rfl); go_simp; (first | (with_reducible refine hK _ ?_; clear hK K) | (apply Exists.intro; refine ⟨fun _ => ?_, hK _ ?_⟩; (go_at_call 64; (with_reducible refine callsX_of (hm _ _))); clear hK K)))
      iterate 13 (with_reducible refine wpQuiet_skip ?skip_ (fun K hK => ?_); (case skip_ => kernel_rfl); go_simp; with_reducible refine hK _ ?_; clear hK K)
      iterate 2 (with_reducible refine wpQuiet_want ?want_ (fun K hK => ?_); (case want_ => kernel_rfl); go_simp; with_reducible refine hK _ ?_; clear hK K)
     all_goals
      refine wpQuiet_nil ?_
      intro _ hw_
      obtain ⟨⟨tq, osq⟩, hw_⟩ := hw_
      subst hw_
      have HB2 := Qz.mk (HB.out.trans ((below_grow wr tq osq).mono HB.out.size))
      obtain ⟨k2, rfl, H⟩ := svN _ _ _ _ _ _ _ H
      have HH := Qz.mk H
      have BK2 := Qz.mk (qo BK.out (below_grow wr tq osq))
      clear H h0 h1 h2 h3 h4 h0' h1' h2' h3' h4' hz0 hz1 hz0' hz1' BK HB HX A4 cnb cib cic hm
      generalize grow (atD wr tq) osq = W2 at BK2 HB2 ⊢
      go_wp2
      go_loopg [4] k2 (fun kq v4 wr2 => ∃ j : Nat, v4 = .int .i64 j ∧ Qz (spec_VersionOk.l1 kq (i : Int) (j : Int) l0_0 a0_1 a0_2 a0_3 = some r) ∧ j ≤ i ∧ Qz (kq ≤ k2) ∧ Qz (wr2.heap[w.heap.size]? = some (.cells #[.slice (some ad) l0_0.length c0_0, .int .i64 a0_1, .int .i64 a0_2, .int .i64 a0_3] 32 (0, 0))) ∧ Qz (Below w.heap.size w wr2))
      case atStart => exact ⟨0, rfl, HH, Nat.zero_le _, ⟨Nat.le_refl _⟩, BK2, HB2⟩
      case round =>
       clear HH BK2 HB2
       rename World => wr
       obtain ⟨j, rfl, HA, hji, HK2, BK, HB⟩ := hrel
       cases gk with
       | zero => exact absurd HA.out (by simp [spec_VersionOk.l1])
       | succ k3 =>
        have H := HA.out
        clear HA
        simp only [spec_VersionOk.l1] at H
        have hz0 := (qd BK.out 0).trans rfl
        by_cases c5 : (j : Int) < (i : Int)
        ·have cjl : (j : Int) < (l0_0.length : Int) := by omega
         rw [if_pos c5, if_pos (by omega), if_pos cjl, if_pos (by omega), if_pos c3] at H
         have c5b : decide ((j : Int) < (i : Int)) = true := decide_eq_true c5
         obtain ⟨adh, e, h0, h1, h2, h3, h4⟩ := at_T66 HR.out (i : Int) (by omega) c3
         cases e
         rw [Int.toNat_natCast] at h0 h1 h2 h3 h4
         replace h0 := (HB.out.cell (World.block_lt_of_cell? w _ h0)).trans h0
         replace h1 := (HB.out.cell (World.block_lt_of_cell? w _ h1)).trans h1
         replace h2 := (HB.out.cell (World.block_lt_of_cell? w _ h2)).trans h2
         replace h3 := (HB.out.cell (World.block_lt_of_cell? w _ h3)).trans h3
         replace h4 := (HB.out.cell (World.block_lt_of_cell? w _ h4)).trans h4
         obtain ⟨adg, e, g0, g1, g2, g3, g4⟩ := at_T66 HR.out (j : Int) (by omega) cjl
         cases e
         rw [Int.toNat_natCast] at g0 g1 g2 g3 g4
         replace g0 := (HB.out.cell (World.block_lt_of_cell? w _ g0)).trans g0
         replace g1 := (HB.out.cell (World.block_lt_of_cell? w _ g1)).trans g1
         replace g2 := (HB.out.cell (World.block_lt_of_cell? w _ g2)).trans g2
         replace g3 := (HB.out.cell (World.block_lt_of_cell? w _ g3)).trans g3
         replace g4 := (HB.out.cell (World.block_lt_of_cell? w _ g4)).trans g4
         have hz0' := cellX hz0
         have h0' := cellX h0
         have g0' := cellX g0
         generalize qm l0_0 (j : Int) = y at g0 g0' H
         generalize qm l0_0 (i : Int) = x at h0 h0' H
         clear h1 h2 h3 h4 g1 g2 g3 g4
         by_cases ce : y.f0 = x.f0
         ·rw [if_pos ce] at H
          obtain rfl := Option.some.inj H
          clear H
          rw [ce] at g0 g0'
          go_wp2
          refine wp_region_quietX (by assumption) (by kernel_rfl) ?_
          iterate 13 (with_reducible refine wpQuiet_want ?want_ (fun K hK => ?_); (case want_ => kernel_rfl); go_simp; with_reducible refine hK _ ?_; clear hK K)
          refine wpQuiet_nil ?_
          intro _ hw_
          obtain ⟨⟨tq, osq⟩, hw_⟩ := hw_
          subst hw_
          have HB2 := Qz.mk (HB.out.trans ((below_grow wr tq osq).mono HB.out.size))
          go_wp2
          go_ret
          exact ⟨rfl, HB2.out⟩
         ·rw [if_neg ce] at H
          have ceb : decide (y.f0 = x.f0) = false := decide_eq_false ce
          have ceq : (y.f0 == x.f0) = false := beq_eq_false_iff_ne.2 ce
          have H2 := Qz.mk H
          clear H
          go_wp2
          refine wp_region_quietX (by assumption) (by kernel_rfl) ?_
          iterate 13 (with_reducible refine wpQuiet_want ?want_ (fun K hK => ?_); (case want_ => kernel_rfl); go_simp; with_reducible refine hK _ ?_; clear hK K)
          refine wpQuiet_nil ?_
          intro _ hw_
          obtain ⟨⟨tq, osq⟩, hw_⟩ := hw_
          subst hw_
          have HB2 := Qz.mk (HB.out.trans ((below_grow wr tq osq).mono HB.out.size))
          have BK2 := Qz.mk (qo BK.out (below_grow wr tq osq))
          go_wp2
          go_roundg k3
          case measure => exact Nat.lt_succ_self _
          case rel =>
           have hw2 : wrap64 ((j : Int) + 1) = ((j + 1 : Nat) : Int) := by unfold wrap64; omega
           exact ⟨j + 1, congrArg (Value.int .i64) (by first | rfl | exact hw2 | omega), ⟨by rw [← hw2]; exact H2.out⟩, by omega, ⟨by have := HK2.out; omega⟩, BK2, HB2⟩
        ·rw [if_neg c5] at H
         have c5b : decide ((j : Int) < (i : Int)) = false := decide_eq_false c5
         have H2 := Qz.mk H
         clear H
         go_wp2
         go_roundg k3
         case measure => have := HK2.out; omega
         case rel =>
          have hw2 : wrap64 ((i : Int) + 1) = ((i + 1 : Nat) : Int) := by unfold wrap64; omega
          exact ⟨i + 1, congrArg (Value.int .i64) (by first | rfl | exact hw2 | omega), ⟨by rw [← hw2]; exact H2.out⟩, by omega, ⟨by have := HK2.out; have := HK1.out; omega⟩, BK, HB⟩
   ·rw [if_neg c3] at H
    have c3b : decide ((i : Int) < (l0_0.length : Int)) = false := decide_eq_false c3
    obtain rfl := Option.some.inj H
    go_wp2
    go_ret
    exact ⟨rfl, yq12⟩
end Go.Proofs.Ytcgejabkjljeeaa.P
end
