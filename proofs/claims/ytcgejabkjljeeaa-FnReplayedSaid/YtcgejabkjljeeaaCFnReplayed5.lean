/- Proved: the law FnReplayed of the given program returns true for every input of its Go types and leaves each argument as it was; no condition. (Part 6 of 17.) -/
import Derived.Test.YtcgejabkjljeeaaCFnReplayed4
import Derived.Sort.Lot0
import Derived.Sort.LotA
import Derived.Shelf.SlSortCmp.KitK
import Derived.Test.YtcgejabkjljeeaaCFnReplayed0
section
namespace Go.Proofs.Ytcgejabkjljeeaa.P
open Go.RowKit Go.Proofs.YtcgejabkjljeeaaW.PrintWords Go.Proofs.YtcgejabkjljeeaaW.PrintLast Go.Proofs.YtcgejabkjljeeaaW.PrintMore
attribute [local go_sem] str_gtr str_leq str_geq max2_int min2_int max_two min_two qe1 qd1 max_four min_four
set_option linter.unusedVariables false
set_option linter.unusedSimpArgs false
open Go.Sort
section
variable {α : Type} [Inhabited α]
def bsx (q : Nat → Bool) (i j : Nat) : Nat :=
 if i < j then (if q ((i + j) / 2) = true then bsx q ((i + j) / 2 + 1) j else bsx q i ((i + j) / 2)) else i
termination_by j - i
decreasing_by all_goals omega
theorem bsx_spec (q : Nat → Bool) : ∀ (n i j : Nat), j - i ≤ n → i ≤ j → i ≤ bsx q i j ∧ bsx q i j ≤ j ∧ (i < bsx q i j → q (bsx q i j - 1) = true) ∧ (bsx q i j < j → q (bsx q i j) = false) := by
 intro n
 induction n with
 | zero =>
  intro i j h1 h2
  obtain rfl : i = j := by omega
  rw [bsx, if_neg (by omega)]
  exact ⟨Nat.le_refl _, Nat.le_refl _, fun h => by omega, fun h => by omega⟩
 | succ n ih =>
  intro i j h1 h2
  rw [bsx]
  by_cases c : i < j
  ·rw [if_pos c]
   cases hq : q ((i + j) / 2) with
   | true =>
    rw [if_pos rfl]
    obtain ⟨a1, a2, a3, a4⟩ := ih ((i + j) / 2 + 1) j (by omega) (by omega)
    refine ⟨by omega, a2, fun h => ?_, a4⟩
    by_cases e : (i + j) / 2 + 1 < bsx q ((i + j) / 2 + 1) j
    ·exact a3 e
    ·rw [show bsx q ((i + j) / 2 + 1) j - 1 = (i + j) / 2 from by omega]
     exact hq
   | false =>
    rw [if_neg (by simp)]
    obtain ⟨a1, a2, a3, a4⟩ := ih i ((i + j) / 2) (by omega) (by omega)
    refine ⟨a1, by omega, a3, fun h => ?_⟩
    by_cases e : bsx q i ((i + j) / 2) < (i + j) / 2
    ·exact a4 e
    ·rw [show bsx q i ((i + j) / 2) = (i + j) / 2 from by omega]
     exact hq
  ·rw [if_neg c]
   exact ⟨Nat.le_refl _, h2, fun h => by omega, fun h => by omega⟩
def upL (e k : Nat) (d : Array α) : Array α := if k < e then upL e (k + 1) (swp d k (k + 1)) else d
termination_by e - k
theorem upL_spec (e : Nat) : ∀ (n k : Nat) (d : Array α), e - k ≤ n → k ≤ e → e < d.size → PermIn k (e + 1) d (upL e k d) ∧ ∀ t, (upL e k d)[t]! = if t < k ∨ e < t then d[t]! else if t = e then d[k]! else d[t + 1]! := by
 intro n
 induction n with
 | zero =>
  intro k d h1 h2 h3
  obtain rfl : k = e := by omega
  rw [upL, if_neg (by omega)]
  refine ⟨permIn_refl _ _ _, fun t => ?_⟩
  by_cases c : t < k ∨ k < t
  ·rw [if_pos c]
  ·rw [if_neg c, if_pos (by omega), show t = k from by omega]
 | succ n ih =>
  intro k d h1 h2 h3
  rw [upL]
  by_cases c : k < e
  ·rw [if_pos c]
   have g := swp_get d (show k < d.size by omega) (show k + 1 < d.size by omega)
   obtain ⟨i1, i2⟩ := ih (k + 1) (swp d k (k + 1)) (by omega) (by omega) (by rw [swp_size]; exact h3)
   refine ⟨permIn_trans _ _ _ _ _ (swp_permIn d k (e + 1) k (k + 1) (Nat.le_refl _) (by omega) (by omega) (by omega) (by omega)) (permIn_mono _ _ _ _ _ _ (by omega) (Nat.le_refl _) (by rw [swp_size]; omega) i1), fun t => ?_⟩
   rw [i2 t]
   by_cases c1 : t < k ∨ e < t
   ·rw [if_pos c1, if_pos (by omega), g, if_neg (by omega), if_neg (by omega)]
   ·rw [if_neg c1]
    by_cases c2 : t = k
    ·rw [if_pos (by omega), if_neg (by omega), g, if_neg (by omega), if_pos c2, c2]
    ·rw [if_neg (by omega)]
     by_cases c3 : t = e
     ·rw [if_pos c3, if_pos c3, g, if_pos rfl]
     ·rw [if_neg c3, if_neg c3, g, if_neg (by omega), if_neg (by omega)]
  ·rw [if_neg c]
   obtain rfl : k = e := by omega
   refine ⟨permIn_refl _ _ _, fun t => ?_⟩
   by_cases c : t < k ∨ k < t
   ·rw [if_pos c]
   ·rw [if_neg c, if_pos (by omega), show t = k from by omega]
def dnL (i : Nat) : Nat → Array α → Array α
 | 0, d => d
 | k + 1, d => if i < k + 1 then dnL i k (swp d (k + 1) k) else d
theorem dnL_spec (i : Nat) : ∀ (k : Nat) (d : Array α), i ≤ k → k < d.size → PermIn i (k + 1) d (dnL i k d) ∧ ∀ t, (dnL i k d)[t]! = if t < i ∨ k < t then d[t]! else if t = i then d[k]! else d[t - 1]! := by
 intro k
 induction k with
 | zero =>
  intro d h1 h2
  obtain rfl : i = 0 := by omega
  refine ⟨permIn_refl _ _ _, fun t => ?_⟩
  show d[t]! = _
  by_cases c : t < 0 ∨ 0 < t
  ·rw [if_pos c]
  ·rw [if_neg c, if_pos (by omega), show t = 0 from by omega]
 | succ k ih =>
  intro d h1 h2
  unfold dnL
  by_cases c : i < k + 1
  ·rw [if_pos c]
   have g := swp_get d (show k + 1 < d.size by omega) (show k < d.size by omega)
   obtain ⟨i1, i2⟩ := ih (swp d (k + 1) k) (by omega) (by rw [swp_size]; omega)
   refine ⟨permIn_trans _ _ _ _ _ (swp_permIn d i (k + 1 + 1) (k + 1) k (by omega) (by omega) (by omega) (by omega) (by omega)) (permIn_mono _ _ _ _ _ _ (Nat.le_refl _) (by omega) (by rw [swp_size]; omega) i1), fun t => ?_⟩
   rw [i2 t]
   by_cases c1 : t < i ∨ k + 1 < t
   ·rw [if_pos c1, if_pos (by omega), g, if_neg (by omega), if_neg (by omega)]
   ·rw [if_neg c1]
    by_cases c2 : t = k + 1
    ·rw [if_pos (by omega), if_neg (by omega), g, if_neg (by omega), if_pos c2, c2]
     rfl
    ·rw [if_neg (by omega)]
     by_cases c3 : t = i
     ·rw [if_pos c3, if_pos c3, g, if_pos rfl]
     ·rw [if_neg c3, if_neg c3, g, if_neg (by omega), if_neg (by omega)]
  ·rw [if_neg c]
   obtain rfl : i = k + 1 := by omega
   refine ⟨permIn_refl _ _ _, fun t => ?_⟩
   by_cases c : t < k + 1 ∨ k + 1 < t
   ·rw [if_pos c]
   ·rw [if_neg c, if_pos (by omega), show t = k + 1 from by omega]
def swR (a b n i : Nat) (d : Array α) : Array α := if i < n then swR a b n (i + 1) (swp d (a + i) (b + i)) else d
termination_by n - i
theorem swR_spec (a b n : Nat) : ∀ (m i : Nat) (d : Array α), n - i ≤ m → a + n ≤ b → b + n ≤ d.size → PermIn a (b + n) d (swR a b n i d) ∧ ∀ t, (swR a b n i d)[t]! = if a + i ≤ t ∧ t < a + n then d[t - a + b]! else if b + i ≤ t ∧ t < b + n then d[t - b + a]! else d[t]! := by
 intro m
 induction m with
 | zero =>
  intro i d h1 h2 h3
  rw [swR, if_neg (by omega)]
  exact ⟨permIn_refl _ _ _, fun t => by rw [if_neg (by omega), if_neg (by omega)]⟩
 | succ m ih =>
  intro i d h1 h2 h3
  rw [swR]
  by_cases c : i < n
  ·rw [if_pos c]
   have g := swp_get d (show a + i < d.size by omega) (show b + i < d.size by omega)
   obtain ⟨i1, i2⟩ := ih (i + 1) (swp d (a + i) (b + i)) (by omega) h2 (by rw [swp_size]; exact h3)
   refine ⟨permIn_trans _ _ _ _ _ (swp_permIn d a (b + n) (a + i) (b + i) (by omega) (by omega) (by omega) (by omega) h3) i1, fun t => ?_⟩
   rw [i2 t]
   by_cases c1 : a + i ≤ t ∧ t < a + n
   ·rw [if_pos c1]
    by_cases c2 : t = a + i
    ·rw [if_neg (by omega), if_neg (by omega), g, if_neg (by omega), if_pos c2, c2, show a + i - a + b = b + i from by omega]
    ·rw [if_pos (by omega), g, if_neg (by omega), if_neg (by omega)]
   ·rw [if_neg c1, if_neg (by omega)]
    by_cases c3 : b + i ≤ t ∧ t < b + n
    ·rw [if_pos c3]
     by_cases c4 : t = b + i
     ·rw [if_neg (by omega), g, if_pos c4, c4, show b + i - b + a = a + i from by omega]
     ·rw [if_pos (by omega), g, if_neg (by omega), if_neg (by omega)]
    ·rw [if_neg c3, if_neg (by omega), g, if_neg (by omega), if_neg (by omega)]
  ·rw [if_neg c]
   exact ⟨permIn_refl _ _ _, fun t => by rw [if_neg (by omega), if_neg (by omega)]⟩
theorem swR_size (a b n i : Nat) (d : Array α) : (swR a b n i d).size = d.size := by
 have : ∀ (m i : Nat) (d : Array α), n - i ≤ m → (swR a b n i d).size = d.size := by
  intro m
  induction m with
  | zero => intro i d h; rw [swR, if_neg (by omega)]
  | succ m ih =>
   intro i d h
   rw [swR]
   split
   ·rw [ih _ _ (by omega), swp_size]
   ·rfl
 exact this _ i d (Nat.le_refl _)
def rotL (m i j : Nat) (d : Array α) : Array α :=
 if i = j ∨ i = 0 ∨ j = 0 then swR (m - i) m i 0 d else if j < i then rotL m (i - j) j (swR (m - i) m j 0 d) else rotL m i (j - i) (swR (m - i) (m + j - i) i 0 d)
termination_by i + j
decreasing_by all_goals omega
theorem rotL_spec (m : Nat) : ∀ (n i j : Nat) (d : Array α), i + j ≤ n → 0 < i → 0 < j → i ≤ m → m + j ≤ d.size → PermIn (m - i) (m + j) d (rotL m i j d) ∧ ∀ t, (rotL m i j d)[t]! = if t < m - i ∨ m + j ≤ t then d[t]! else if t < m - i + j then d[t + i]! else d[t - j]! := by
 intro n
 induction n with
 | zero => intro i j d h1 h2; omega
 | succ n ih =>
  intro i j d h1 h2 h3 h4 h5
  rw [rotL]
  by_cases c : i = j
  ·subst c
   rw [if_pos (.inl rfl)]
   obtain ⟨s1, s2⟩ := swR_spec (m - i) m i i 0 d (by omega) (by omega) h5
   refine ⟨s1, fun t => ?_⟩
   rw [s2 t]
   by_cases c1 : t < m - i ∨ m + i ≤ t
   ·rw [if_pos c1, if_neg (by omega), if_neg (by omega)]
   ·rw [if_neg c1]
    by_cases c2 : t < m - i + i
    ·rw [if_pos c2, if_pos (by omega), show t - (m - i) + m = t + i from by omega]
    ·rw [if_neg c2, if_neg (by omega), if_pos (by omega), show t - m + (m - i) = t - i from by omega]
  ·rw [if_neg (by omega)]
   by_cases c2 : j < i
   ·rw [if_pos c2]
    obtain ⟨s1, s2⟩ := swR_spec (m - i) m j j 0 d (by omega) (by omega) h5
    obtain ⟨i1, i2⟩ := ih (i - j) j (swR (m - i) m j 0 d) (by omega) (by omega) h3 (by omega) (by rw [s1.1]; exact h5)
    refine ⟨permIn_trans _ _ _ _ _ s1 (permIn_mono _ _ _ _ _ _ (by omega) (Nat.le_refl _) (by rw [s1.1]; exact h5) i1), fun t => ?_⟩
    rw [i2 t, s2, s2, s2]
    by_cases c1 : t < m - i ∨ m + j ≤ t
    ·rw [if_pos c1, if_pos (by omega), if_neg (by omega), if_neg (by omega)]
    ·rw [if_neg c1]
     by_cases c3 : t < m - i + j
     ·rw [if_pos c3, if_pos (by omega), if_pos (by omega), show t - (m - i) + m = t + i from by omega]
     ·rw [if_neg c3, if_neg (by omega)]
      by_cases c4 : t < m - (i - j) + j
      ·rw [if_pos c4]
       by_cases c5 : t + (i - j) < m
       ·omega
       ·rw [if_neg (by omega), if_pos (by omega), show t + (i - j) - m + (m - i) = t - j from by omega]
      ·rw [if_neg c4, if_neg (by omega), if_neg (by omega)]
   ·rw [if_neg c2]
    obtain ⟨s1, s2⟩ := swR_spec (m - i) (m + j - i) i i 0 d (by omega) (by omega) (by omega)
    rw [show m + j - i + i = m + j from by omega] at s1
    obtain ⟨i1, i2⟩ := ih i (j - i) (swR (m - i) (m + j - i) i 0 d) (by omega) h2 (by omega) h4 (by rw [s1.1]; omega)
    refine ⟨permIn_trans _ _ _ _ _ s1 (permIn_mono _ _ _ _ _ _ (Nat.le_refl _) (by omega) (by rw [s1.1]; exact h5) i1), fun t => ?_⟩
    rw [i2 t, s2, s2, s2]
    by_cases c1 : t < m - i ∨ m + j ≤ t
    ·rw [if_pos c1, if_pos (by omega), if_neg (by omega), if_neg (by omega)]
    ·rw [if_neg c1]
     by_cases c3 : t < m - i + j
     ·rw [if_pos c3]
      by_cases c4 : m + (j - i) ≤ t
      ·rw [if_pos (by omega)]
       omega
      ·rw [if_neg (by omega)]
       by_cases c5 : t < m - i + (j - i)
       ·rw [if_pos c5]
        rw [if_neg (by omega), if_neg (by omega)]
       ·rw [if_neg c5, if_pos (by omega), show t - (j - i) - (m - i) + (m + j - i) = t + i from by omega]
     ·rw [if_neg c3, if_pos (by omega), if_neg (by omega), if_pos (by omega), show t - (m + j - i) + (m - i) = t - j from by omega]
theorem upL_size (e k : Nat) (d : Array α) : (upL e k d).size = d.size := by
 have : ∀ (m k : Nat) (d : Array α), e - k ≤ m → (upL e k d).size = d.size := by
  intro m
  induction m with
  | zero => intro k d h; rw [upL, if_neg (by omega)]
  | succ m ih =>
   intro k d h
   rw [upL]
   split
   ·rw [ih _ _ (by omega), swp_size]
   ·rfl
 exact this _ k d (Nat.le_refl _)
theorem dnL_size (i : Nat) : ∀ (k : Nat) (d : Array α), (dnL i k d).size = d.size
 | 0, d => rfl
 | k + 1, d => by
  unfold dnL
  split
  ·rw [dnL_size i k, swp_size]
  ·rfl
theorem rotL_size (m i j : Nat) (d : Array α) : (rotL m i j d).size = d.size := by
 have : ∀ (n i j : Nat) (d : Array α), i + j ≤ n → (rotL m i j d).size = d.size := by
  intro n
  induction n with
  | zero => intro i j d h; rw [rotL, if_pos (by omega), swR_size]
  | succ n ih =>
   intro i j d h
   rw [rotL]
   split
   ·exact swR_size ..
   ·split
    ·rw [ih _ _ _ (by omega), swR_size]
    ·rw [ih _ _ _ (by omega), swR_size]
 exact this _ i j d (Nat.le_refl _)
def symA (m st en : Nat) (d : Array α) : Array α := if st < m ∧ m < en then rotL m (m - st) (en - m) d else d
def symB (rec : Array α → Nat → Nat → Nat → Array α) (a st mid : Nat) (d : Array α) : Array α := if a < st ∧ st < mid then rec d a st mid else d
def symE (rec : Array α → Nat → Nat → Nat → Array α) (mid en b : Nat) (d : Array α) : Array α := if mid < en ∧ en < b then rec d mid en b else d
def symLo (a m b : Nat) : Nat := if (a + b) / 2 < m then (a + b) / 2 + m - b else a
def symHi (a m b : Nat) : Nat := if (a + b) / 2 < m then (a + b) / 2 else m
def symSt (lt : α → α → Bool) (d : Array α) (a m b : Nat) : Nat := bsx (fun c => !lt d[(a + b) / 2 + m - 1 - c]! d[c]!) (symLo a m b) (symHi a m b)
def symM (lt : α → α → Bool) : Nat → Array α → Nat → Nat → Nat → Array α
 | 0, d, _, _, _ => d
 | f + 1, d, a, m, b =>
  if m - a = 1 then upL (bsx (fun h => lt d[h]! d[a]!) m b - 1) a d
  else if b - m = 1 then dnL (bsx (fun h => !lt d[m]! d[h]!) a m) m d
  else symE (symM lt f) ((a + b) / 2) ((a + b) / 2 + m - symSt lt d a m b) b (symB (symM lt f) a (symSt lt d a m b) ((a + b) / 2) (symA m (symSt lt d a m b) ((a + b) / 2 + m - symSt lt d a m b) d))
theorem symM_size (lt : α → α → Bool) : ∀ (f : Nat) (d : Array α) (a m b : Nat), (symM lt f d a m b).size = d.size
 | 0, _, _, _, _ => rfl
 | f + 1, d, a, m, b => by
  unfold symM
  split
  ·exact upL_size ..
  split
  ·exact dnL_size ..
  have e1 : (symA m (symSt lt d a m b) ((a + b) / 2 + m - symSt lt d a m b) d).size = d.size := by
   unfold symA
   split
   ·exact rotL_size ..
   ·rfl
  have e2 : ∀ x : Array α, (symB (symM lt f) a (symSt lt d a m b) ((a + b) / 2) x).size = x.size := fun x => by
   unfold symB
   split
   ·exact symM_size lt f ..
   ·rfl
  have e3 : ∀ x : Array α, (symE (symM lt f) ((a + b) / 2) ((a + b) / 2 + m - symSt lt d a m b) b x).size = x.size := fun x => by
   unfold symE
   split
   ·exact symM_size lt f ..
   ·rfl
  rw [e3, e2, e1]
theorem insInner_size (lt : α → α → Bool) (a : Nat) : ∀ (j : Nat) (d : Array α), (insInner lt a j d).size = d.size
 | 0, d => rfl
 | j + 1, d => by
  unfold insInner
  split
  ·rw [insInner_size lt a j, swp_size]
  ·rfl
theorem insertionSort_size (lt : α → α → Bool) (d : Array α) (a b : Nat) : (insertionSort lt d a b).size = d.size := by
 have : ∀ (n i : Nat) (d : Array α), b - i ≤ n → (insOuter lt a b i d).size = d.size := by
  intro n
  induction n with
  | zero => intro i d h; rw [insOuter, if_neg (by omega)]
  | succ n ih =>
   intro i d h
   rw [insOuter]
   split
   ·rw [ih _ _ (by omega), insInner_size]
   ·rfl
 exact this _ _ d (Nat.le_refl _)
variable {lt lt' : α → α → Bool}
theorem symM_up (hS : SWO lt') (d : Array α) (a b i : Nat) (hi1 : a + 1 ≤ i) (hi2 : i ≤ b) (hb : b ≤ d.size) (hR : SortedIn lt' (a + 1) b d) (f1 : a + 1 < i → lt' d[i - 1]! d[a]! = true) (f2 : i < b → lt' d[i]! d[a]! = false) :
  PermIn a b d (upL (i - 1) a d) ∧ SortedIn lt' a b (upL (i - 1) a d) := by
 obtain ⟨u1, u2⟩ := upL_spec (i - 1) _ a d (Nat.le_refl _) (by omega) (by omega)
 refine ⟨permIn_mono _ _ _ _ _ _ (Nat.le_refl _) (by omega) hb u1, fun p q hp hpq hq => ?_⟩
 rw [u2 q, u2 p]
 rcases Nat.lt_trichotomy q (i - 1) with c | c | c
 ·rw [if_neg (by omega), if_neg (by omega), if_neg (by omega), if_neg (by omega)]
  exact hR (p + 1) (q + 1) (by omega) (by omega) (by omega)
 ·rw [if_neg (by omega), if_pos c, if_neg (by omega), if_neg (by omega)]
  cases hx : lt' d[a]! d[p + 1]! with
  | false => rfl
  | true =>
   have h1 := hS.trans _ _ _ (f1 (by omega)) hx
   by_cases e : p + 1 = i - 1
   ·rw [e, hS.irrefl] at h1; cases h1
   ·rw [hR (p + 1) (i - 1) (by omega) (by omega) (by omega)] at h1; cases h1
 ·rw [if_pos (by omega)]
  by_cases e : p = i - 1
  ·rw [if_neg (by omega), if_pos e]
   by_cases e2 : q = i
   ·rw [e2]; exact f2 (by omega)
   ·exact hS.ntrans _ _ _ (hR i q (by omega) (by omega) hq) (f2 (by omega))
  ·by_cases e2 : i - 1 < p
   ·rw [if_pos (by omega)]
    exact hR p q (by omega) hpq hq
   ·rw [if_neg (by omega), if_neg e]
    exact hR (p + 1) q (by omega) (by omega) hq
theorem symM_dn (hS : SWO lt') (d : Array α) (a m i : Nat) (hi1 : a ≤ i) (hi2 : i ≤ m) (hb : m + 1 ≤ d.size) (hL : SortedIn lt' a m d) (f1 : a < i → lt' d[m]! d[i - 1]! = false) (f2 : i < m → lt' d[m]! d[i]! = true) :
  PermIn a (m + 1) d (dnL i m d) ∧ SortedIn lt' a (m + 1) (dnL i m d) := by
 obtain ⟨u1, u2⟩ := dnL_spec i m d hi2 (by omega)
 refine ⟨permIn_mono _ _ _ _ _ _ hi1 (Nat.le_refl _) hb u1, fun p q hp hpq hq => ?_⟩
 rw [u2 q, u2 p]
 rcases Nat.lt_trichotomy q i with c | c | c
 ·rw [if_pos (by omega), if_pos (by omega)]
  exact hL p q hp hpq (by omega)
 ·rw [if_neg (by omega), if_pos c, if_pos (by omega)]
  by_cases e : p = i - 1
  ·rw [e]; exact f1 (by omega)
  ·exact hS.ntrans _ _ _ (f1 (by omega)) (hL p (i - 1) hp (by omega) (by omega))
 ·rw [if_neg (by omega), if_neg (by omega)]
  rcases Nat.lt_trichotomy p i with c2 | c2 | c2
  ·rw [if_pos (by omega)]
   exact hL p (q - 1) hp (by omega) (by omega)
  ·rw [if_neg (by omega), if_pos c2]
   cases hx : lt' d[q - 1]! d[m]! with
   | false => rfl
   | true =>
    have h1 := hS.trans _ _ _ hx (f2 (by omega))
    by_cases e : q - 1 = i
    ·rw [e, hS.irrefl] at h1; cases h1
    ·rw [hL i (q - 1) (by omega) (by omega) (by omega)] at h1; cases h1
  ·rw [if_neg (by omega), if_neg (by omega)]
   exact hL (p - 1) (q - 1) (by omega) (by omega) (by omega)
theorem sorted_le (hS : SWO lt') {d : Array α} {a b : Nat} (h : SortedIn lt' a b d) (i j : Nat) (h1 : a ≤ i) (h2 : i ≤ j) (h3 : j < b) : lt' d[j]! d[i]! = false := by
 by_cases e : i = j
 ·rw [e]; exact hS.irrefl _
 ·exact h i j h1 (by omega) h3
theorem symA_spec (d : Array α) (a m b st mid : Nat) (h1 : a ≤ st) (h2 : st ≤ m) (h3 : st ≤ mid) (h4 : mid + m - st ≤ b) (hb : b ≤ d.size) :
  PermIn a b d (symA m st (mid + m - st) d) ∧ (∀ t, t < st → (symA m st (mid + m - st) d)[t]! = d[t]!) ∧ (∀ t, st ≤ t → t < mid → (symA m st (mid + m - st) d)[t]! = d[t - st + m]!) ∧
  (∀ t, mid ≤ t → t < mid + m - st → (symA m st (mid + m - st) d)[t]! = d[t - mid + st]!) ∧ (∀ t, mid + m - st ≤ t → (symA m st (mid + m - st) d)[t]! = d[t]!) := by
 unfold symA
 by_cases c : st < m ∧ m < mid + m - st
 ·rw [if_pos c]
  obtain ⟨r1, r2⟩ := rotL_spec m _ (m - st) (mid + m - st - m) d (Nat.le_refl _) (by omega) (by omega) (by omega) (by omega)
  refine ⟨permIn_mono _ _ _ _ _ _ (by omega) (by omega) hb r1, fun t ht => ?_, fun t ht1 ht2 => ?_, fun t ht1 ht2 => ?_, fun t ht => ?_⟩
  ·rw [r2, if_pos (by omega)]
  ·rw [r2, if_neg (by omega), if_pos (by omega), show t + (m - st) = t - st + m from by omega]
  ·rw [r2, if_neg (by omega), if_neg (by omega), show t - (mid + m - st - m) = t - mid + st from by omega]
  ·rw [r2, if_pos (by omega)]
 ·rw [if_neg c]
  refine ⟨permIn_refl _ _ _, fun t ht => rfl, fun t ht1 ht2 => ?_, fun t ht1 ht2 => ?_, fun t ht => rfl⟩
  ·rw [show t - st + m = t from by omega]
  ·rw [show t - mid + st = t from by omega]
theorem symM_spec (hS : SWO lt') : ∀ (f : Nat) (d : Array α) (a m b : Nat), b - a ≤ f → a < m → m < b → b ≤ d.size → SortedIn lt' a m d → SortedIn lt' m b d →
  (∀ p q, a ≤ p → p < m → m ≤ q → q < b → lt d[q]! d[p]! = lt' d[q]! d[p]!) → PermIn a b d (symM lt f d a m b) ∧ SortedIn lt' a b (symM lt f d a m b) := by
 intro f
 induction f with
 | zero => intro d a m b h0 h1 h2; omega
 | succ f ih =>
  intro d a m b h0 h1 h2 hb hL hR hA
  unfold symM
  by_cases c1 : m - a = 1
  ·rw [if_pos c1]
   obtain rfl : m = a + 1 := by omega
   obtain ⟨b1, b2, b3, b4⟩ := bsx_spec (fun h => lt d[h]! d[a]!) _ (a + 1) b (Nat.le_refl _) (by omega)
   refine symM_up hS d a b _ b1 b2 hb hR (fun h => ?_) (fun h => ?_)
   ·rw [← hA a _ (by omega) (by omega) (by omega) (by omega)]; exact b3 h
   ·rw [← hA a _ (by omega) (by omega) (by omega) (by omega)]; exact b4 h
  ·rw [if_neg c1]
   by_cases c2 : b - m = 1
   ·rw [if_pos c2]
    obtain rfl : b = m + 1 := by omega
    obtain ⟨b1, b2, b3, b4⟩ := bsx_spec (fun h => !lt d[m]! d[h]!) _ a m (Nat.le_refl _) (by omega)
    refine symM_dn hS d a m _ b1 b2 hb hL (fun h => ?_) (fun h => ?_)
    ·rw [← hA _ m (by omega) (by omega) (by omega) (by omega)]; simpa using b3 h
    ·rw [← hA _ m (by omega) (by omega) (by omega) (by omega)]; simpa using b4 h
   ·rw [if_neg c2]
    obtain ⟨b1, b2, b3, b4⟩ := bsx_spec (fun c => !lt d[(a + b) / 2 + m - 1 - c]! d[c]!) _ (symLo a m b) (symHi a m b) (Nat.le_refl _) (by unfold symLo symHi; split <;> omega)
    rw [← symSt] at b1 b2 b3 b4
    generalize symSt lt d a m b = st at b1 b2 b3 b4
    have hm : a < (a + b) / 2 ∧ (a + b) / 2 < b ∧ 2 * ((a + b) / 2) ≤ a + b := by omega
    have hlo : (a + b) / 2 < m → symLo a m b = (a + b) / 2 + m - b ∧ symHi a m b = (a + b) / 2 := fun h => by unfold symLo symHi; rw [if_pos h, if_pos h]; exact ⟨rfl, rfl⟩
    have hhi : ¬ (a + b) / 2 < m → symLo a m b = a ∧ symHi a m b = m := fun h => by unfold symLo symHi; rw [if_neg h, if_neg h]; exact ⟨rfl, rfl⟩
    generalize symLo a m b = lo at b1 b2 b3 b4 hlo hhi
    generalize symHi a m b = hi at b1 b2 b3 b4 hlo hhi
    have hab : (a + b) / 2 < m → a ≤ (a + b) / 2 + m - b := fun h => by omega
    generalize (a + b) / 2 = mid at b1 b2 b3 b4 hlo hhi hm hab
    have k1 : a ≤ st := by by_cases c : mid < m; (have := hlo c; have := hab c; omega); (have := hhi c; omega)
    have k2 : st ≤ m := by by_cases c : mid < m; (have := hlo c; omega); (have := hhi c; omega)
    have k3 : st ≤ mid := by by_cases c : mid < m; (have := hlo c; omega); (have := hhi c; omega)
    have k4 : mid + m - st ≤ b := by by_cases c : mid < m; (have := hlo c; omega); (have := hhi c; omega)
    have F1 : a < st → mid + m - st < b → lt' d[mid + m - st]! d[st - 1]! = false := fun h h' => by
     have hl : lo < st := by by_cases c : mid < m; (have := hlo c; omega); (have := hhi c; omega)
     have := b3 hl
     rw [show mid + m - 1 - (st - 1) = mid + m - st from by omega, hA _ _ (by omega) (by omega) (by omega) h'] at this
     simpa using this
    have F2 : st < mid → st < m → lt' d[mid + m - st - 1]! d[st]! = true := fun h h' => by
     have hl : st < hi := by by_cases c : mid < m; (have := hlo c; omega); (have := hhi c; omega)
     have := b4 hl
     rw [show mid + m - 1 - st = mid + m - st - 1 from by omega, hA _ _ (by omega) (by omega) (by omega) (by omega)] at this
     simpa using this
    clear b1 b2 b3 b4 hlo hhi hab
    obtain ⟨p1, x1, x2, x3, x4⟩ := symA_spec d a m b st mid k1 k2 k3 k4 hb
    have ken : mid + m - st = m + (mid - st) ∧ mid + m - st = mid + (m - st) := by omega
    generalize symA m st (mid + m - st) d = d1 at p1 x1 x2 x3 x4
    generalize mid + m - st = en at k4 F1 F2 x3 x4 ken
    have z1 : d1.size = d.size := p1.1
    have S1 : SortedIn lt' a st d1 := fun p q hp hpq hq => by rw [x1 q hq, x1 p (by omega)]; exact hL p q hp hpq (by omega)
    have S2 : SortedIn lt' st mid d1 := fun p q hp hpq hq => by rw [x2 q (by omega) hq, x2 p hp (by omega)]; exact hR _ _ (by omega) (by omega) (by omega)
    have S3 : SortedIn lt' mid en d1 := fun p q hp hpq hq => by rw [x3 q (by omega) hq, x3 p hp (by omega)]; exact hL _ _ (by omega) (by omega) (by omega)
    have S4 : SortedIn lt' en b d1 := fun p q hp hpq hq => by rw [x4 q (by omega), x4 p hp]; exact hR p q (by omega) hpq hq
    have A1 : ∀ p q, a ≤ p → p < st → st ≤ q → q < mid → lt d1[q]! d1[p]! = lt' d1[q]! d1[p]! := fun p q h1 h2 h3 h4 => by rw [x1 p h2, x2 q h3 h4]; exact hA _ _ (by omega) (by omega) (by omega) (by omega)
    have A2 : ∀ p q, mid ≤ p → p < en → en ≤ q → q < b → lt d1[q]! d1[p]! = lt' d1[q]! d1[p]! := fun p q h1 h2 h3 h4 => by rw [x3 p h1 h2, x4 q h3]; exact hA _ _ (by omega) (by omega) (by omega) (by omega)
    have C : ∀ x y, a ≤ x → x < mid → mid ≤ y → y < b → lt' d1[y]! d1[x]! = false := fun x y hx1 hx2 hy1 hy2 => by
     by_cases cx : x < st
     ·rw [x1 x cx]
      by_cases cy : y < en
      ·rw [x3 y hy1 cy]
       exact hL _ _ hx1 (by omega) (by omega)
      ·rw [x4 y (by omega)]
       exact hS.ntrans _ _ _ (sorted_le hS hR en y (by omega) (by omega) hy2) (hS.ntrans _ _ _ (F1 (by omega) (by omega)) (sorted_le hS hL x (st - 1) hx1 (by omega) (by omega)))
     ·rw [x2 x (by omega) hx2]
      by_cases cy : y < en
      ·rw [x3 y hy1 cy]
       exact hS.ntrans _ _ _ (sorted_le hS hL st (y - mid + st) k1 (by omega) (by omega)) (hS.ntrans _ _ _ (hS.asymmA (F2 (by omega) (by omega))) (sorted_le hS hR (x - st + m) (en - 1) (by omega) (by omega) (by omega)))
      ·rw [x4 y (by omega)]
       exact hR _ _ (by omega) (by omega) hy2
    clear x1 x2 x3 x4 F1 F2 hA hL hR
    have B2 : PermIn a mid d1 (symB (symM lt f) a st mid d1) ∧ SortedIn lt' a mid (symB (symM lt f) a st mid d1) := by
     unfold symB
     by_cases c : a < st ∧ st < mid
     ·rw [if_pos c]
      exact ih d1 a st mid (by omega) c.1 c.2 (by omega) S1 S2 A1
     ·rw [if_neg c]
      refine ⟨permIn_refl _ _ _, ?_⟩
      by_cases c' : a < st
      ·rw [show mid = st from by omega]; exact S1
      ·rw [show a = st from by omega]; exact S2
    generalize symB (symM lt f) a st mid d1 = d2 at B2
    obtain ⟨p2, T2⟩ := B2
    have z2 : d2.size = d.size := p2.1.trans z1
    have o2 : ∀ t, mid ≤ t → d2[t]! = d1[t]! := fun t ht => p2.2.1 t (.inr ht)
    have B3 : PermIn mid b d2 (symE (symM lt f) mid en b d2) ∧ SortedIn lt' mid b (symE (symM lt f) mid en b d2) := by
     unfold symE
     have S3' : SortedIn lt' mid en d2 := fun p q hp hpq hq => by rw [o2 q (by omega), o2 p hp]; exact S3 p q hp hpq hq
     have S4' : SortedIn lt' en b d2 := fun p q hp hpq hq => by rw [o2 q (by omega), o2 p (by omega)]; exact S4 p q hp hpq hq
     by_cases c : mid < en ∧ en < b
     ·rw [if_pos c]
      exact ih d2 mid en b (by omega) c.1 c.2 (by omega) S3' S4' (fun p q h1 h2 h3 h4 => by rw [o2 q (by omega), o2 p h1]; exact A2 p q h1 h2 h3 h4)
     ·rw [if_neg c]
      refine ⟨permIn_refl _ _ _, ?_⟩
      by_cases c' : mid < en
      ·rw [show b = en from by omega]; exact S3'
      ·rw [show mid = en from by omega]; exact S4'
    generalize symE (symM lt f) mid en b d2 = d3 at B3
    obtain ⟨p3, T3⟩ := B3
    refine ⟨permIn_trans _ _ _ _ _ p1 (permIn_trans _ _ _ _ _ (permIn_mono _ _ _ _ _ _ (Nat.le_refl _) (by omega) (by omega) p2) (permIn_mono _ _ _ _ _ _ (by omega) (Nat.le_refl _) (by omega) p3)), fun p q hp hpq hq => ?_⟩
    by_cases cq : q < mid
    ·rw [p3.2.1 q (.inl cq), p3.2.1 p (.inl (by omega))]
     exact T2 p q hp hpq cq
    ·by_cases cp : p < mid
     ·rw [p3.2.1 p (.inl cp)]
      refine permIn_all d2 d3 mid b (fun y => lt' y d2[p]! = false) (by omega) p3 (fun y h1 h2 => ?_) q (by omega) hq
      rw [o2 y h1]
      exact permIn_all d1 d2 a mid (fun x => lt' d1[y]! x = false) (by omega) p2 (fun x h3 h4 => C x y h3 h4 h1 h2) p hp cp
     ·exact T3 p q (by omega) hpq hq
theorem insInner_agree (a : Nat) : ∀ (j : Nat) (d : Array α), j < d.size → (∀ p, a ≤ p → p < j → lt d[j]! d[p]! = lt' d[j]! d[p]!) → insInner lt a j d = insInner lt' a j d
 | 0, d, _, _ => rfl
 | j + 1, d, hj, h => by
  unfold insInner
  by_cases c : a < j + 1
  ·rw [h j (by omega) (by omega)]
   split
   ·have g := swp_get d hj (show j < d.size by omega)
    refine insInner_agree a j _ (by rw [swp_size]; omega) (fun p h1 h2 => ?_)
    rw [g, g, if_pos rfl, if_neg (by omega), if_neg (by omega)]
    exact h p h1 (by omega)
   ·rfl
  ·have e : decide (j + 1 > a) = false := decide_eq_false (by omega)
   rw [e]
   rfl
theorem insInner_perm (a : Nat) : ∀ (j : Nat) (d : Array α), a ≤ j → j < d.size → PermIn a (j + 1) d (insInner lt a j d)
 | 0, d, _, _ => permIn_refl _ _ _
 | j + 1, d, ha, hj => by
  unfold insInner
  split
  ·rename_i c
   have c' : a < j + 1 := by
    simp only [Bool.and_eq_true, decide_eq_true_eq] at c
    omega
   exact permIn_trans _ _ _ _ _ (swp_permIn d a (j + 1 + 1) (j + 1) j (by omega) (by omega) (by omega) (by omega) (by omega)) (permIn_mono _ _ _ _ _ _ (Nat.le_refl _) (by omega) (by rw [swp_size]; omega) (insInner_perm a j _ (by omega) (by rw [swp_size]; omega)))
  ·exact permIn_refl _ _ _
theorem insOuter_agree (a b : Nat) : ∀ (n i : Nat) (d : Array α), b - i ≤ n → a < i → b ≤ d.size → (∀ p q, a ≤ p → p < q → i ≤ q → q < b → lt d[q]! d[p]! = lt' d[q]! d[p]!) → insOuter lt a b i d = insOuter lt' a b i d := by
 intro n
 induction n with
 | zero =>
  intro i d h0 h1 h2 h
  rw [insOuter.eq_1 lt, if_neg (by omega), insOuter.eq_1 lt', if_neg (by omega)]
 | succ n ih =>
  intro i d h0 h1 h2 h
  rw [insOuter, insOuter.eq_1 lt']
  by_cases c : i < b
  ·rw [if_pos c, if_pos c, ← insInner_agree a i d (by omega) (fun p hp hq => h p i hp hq (Nat.le_refl _) c)]
   have P := insInner_perm (lt := lt) a i d (by omega) (by omega)
   refine ih (i + 1) _ (by omega) (by omega) (by rw [P.1]; exact h2) (fun p q h3 h4 h5 h6 => ?_)
   rw [P.2.1 q (.inr h5)]
   by_cases cp : i + 1 ≤ p
   ·rw [P.2.1 p (.inr cp)]
    exact h p q h3 h4 (by omega) h6
   ·exact permIn_all d _ a (i + 1) (fun x => lt d[q]! x = lt' d[q]! x) (by omega) P (fun t h7 h8 => h t q h7 (by omega) (by omega) h6) p h3 (by omega)
  ·rw [if_neg c, if_neg c]
theorem insertionSort_agree (hS : SWO lt') (d : Array α) (a b : Nat) (hab : a ≤ b) (hb : b ≤ d.size) (h : ∀ p q, a ≤ p → p < q → q < b → lt d[q]! d[p]! = lt' d[q]! d[p]!) : PermIn a b d (insertionSort lt d a b) ∧ SortedIn lt' a b (insertionSort lt d a b) := by
 have e : insertionSort lt d a b = insertionSort lt' d a b := insOuter_agree a b _ (a + 1) d (Nat.le_refl _) (by omega) hb (fun p q h1 h2 _ h4 => h p q h1 h2 h4)
 rw [e]
 exact insertionSort_holds hS d a b hab hb
def stL1 (lt : α → α → Bool) (bs n a : Nat) (d : Array α) : Array α := if bs = 0 ∨ n < a + bs then insertionSort lt d a n else stL1 lt bs n (a + bs) (insertionSort lt d a (a + bs))
termination_by n - a
decreasing_by omega
def stL2 (lt : α → α → Bool) (bs n a : Nat) (d : Array α) : Array α := if bs = 0 ∨ n < a + 2 * bs then (if a + bs < n then symM lt n d a (a + bs) n else d) else stL2 lt bs n (a + 2 * bs) (symM lt n d a (a + bs) (a + 2 * bs))
termination_by n - a
decreasing_by omega
def stL3 (lt : α → α → Bool) (bs n : Nat) (d : Array α) : Array α := if bs = 0 ∨ n ≤ bs then d else stL3 lt (2 * bs) n (stL2 lt bs n 0 d)
termination_by n - bs
decreasing_by omega
def stab (lt : α → α → Bool) (d : Array α) : Array α := stL3 lt 20 d.size (stL1 lt 20 d.size 0 d)
theorem stL1_size (lt : α → α → Bool) (bs n : Nat) : ∀ (m a : Nat) (d : Array α), n - a ≤ m → (stL1 lt bs n a d).size = d.size := by
 intro m
 induction m with
 | zero =>
  intro a d h
  rw [stL1]
  split
  ·exact insertionSort_size ..
  ·rename_i c
   omega
 | succ m ih =>
  intro a d h
  rw [stL1]
  split
  ·exact insertionSort_size ..
  ·rename_i c
   rw [ih _ _ (by omega), insertionSort_size]
theorem stL2_size (lt : α → α → Bool) (bs n : Nat) : ∀ (m a : Nat) (d : Array α), n - a ≤ m → (stL2 lt bs n a d).size = d.size := by
 intro m
 induction m with
 | zero =>
  intro a d h
  rw [stL2]
  split
  ·split
   ·exact symM_size ..
   ·rfl
  ·rename_i c
   omega
 | succ m ih =>
  intro a d h
  rw [stL2]
  split
  ·split
   ·exact symM_size ..
   ·rfl
  ·rename_i c
   rw [ih _ _ (by omega), symM_size]
theorem stL3_size (lt : α → α → Bool) (n : Nat) : ∀ (m bs : Nat) (d : Array α), n - bs ≤ m → (stL3 lt bs n d).size = d.size := by
 intro m
 induction m with
 | zero =>
  intro bs d h
  rw [stL3]
  split
  ·rfl
  ·rename_i c
   omega
 | succ m ih =>
  intro bs d h
  rw [stL3]
  split
  ·rfl
  ·rename_i c
   rw [ih _ _ (by omega), stL2_size _ _ _ _ _ _ (Nat.le_refl _)]
theorem stab_size (lt : α → α → Bool) (d : Array α) : (stab lt d).size = d.size := by
 unfold stab
 rw [stL3_size _ _ _ _ _ (Nat.le_refl _), stL1_size _ _ _ _ _ _ (Nat.le_refl _)]
def SegOK (lt' : α → α → Bool) (d0 d : Array α) (a b : Nat) : Prop := (∀ P : α → Prop, (∀ i, a ≤ i → i < b → P d0[i]!) → ∀ i, a ≤ i → i < b → P d[i]!) ∧ SortedIn lt' a b d
theorem SegOK.congr {d0 d d' : Array α} {a b : Nat} (h : SegOK lt' d0 d a b) (he : ∀ i, a ≤ i → i < b → d'[i]! = d[i]!) : SegOK lt' d0 d' a b :=
 ⟨fun P hP i h1 h2 => by rw [he i h1 h2]; exact h.1 P hP i h1 h2, fun p q h1 h2 h3 => by rw [he q (by omega) h3, he p h1 (by omega)]; exact h.2 p q h1 h2 h3⟩
variable {d0 : Array α}
theorem seg_ins (hS : SWO lt') (hA : ∀ p q, p < q → q < d0.size → lt d0[q]! d0[p]! = lt' d0[q]! d0[p]!) (d : Array α) (a b : Nat) (hz : d.size = d0.size) (hab : a ≤ b) (hb : b ≤ d.size) (he : ∀ i, a ≤ i → d[i]! = d0[i]!) :
  PermIn a b d (insertionSort lt d a b) ∧ SegOK lt' d0 (insertionSort lt d a b) a b := by
 obtain ⟨h1, h2⟩ := insertionSort_agree (lt := lt) hS d a b hab hb (fun p q hp hpq hq => by rw [he q (by omega), he p hp]; exact hA p q hpq (by omega))
 exact ⟨h1, fun P hP => permIn_all d _ a b P hb h1 (fun i hi1 hi2 => by rw [he i hi1]; exact hP i hi1 hi2), h2⟩
theorem seg_sym (hS : SWO lt') (hA : ∀ p q, p < q → q < d0.size → lt d0[q]! d0[p]! = lt' d0[q]! d0[p]!) (d : Array α) (a m b : Nat) (hz : d.size = d0.size) (h1 : a < m) (h2 : m < b) (hb : b ≤ d.size) (hL : SegOK lt' d0 d a m) (hR : SegOK lt' d0 d m b) :
  PermIn a b d (symM lt d0.size d a m b) ∧ SegOK lt' d0 (symM lt d0.size d a m b) a b := by
 obtain ⟨p1, p2⟩ := symM_spec (lt := lt) hS d0.size d a m b (by omega) h1 h2 hb hL.2 hR.2 (fun p q hp1 hp2 hq1 hq2 =>
  hL.1 (fun x => lt d[q]! x = lt' d[q]! x) (fun i hi1 hi2 => hR.1 (fun y => lt y d0[i]! = lt' y d0[i]!) (fun j hj1 hj2 => hA i j (by omega) (by omega)) q hq1 hq2) p hp1 hp2)
 refine ⟨p1, fun P hP => permIn_all d _ a b P hb p1 (fun i hi1 hi2 => ?_), p2⟩
 by_cases c : i < m
 ·exact hL.1 P (fun t h3 h4 => hP t h3 (by omega)) i hi1 c
 ·exact hR.1 P (fun t h3 h4 => hP t (by omega) h4) i (by omega) hi2
def Lvl (lt' : α → α → Bool) (d0 d : Array α) (bs n lo hi : Nat) : Prop := ∀ k, lo ≤ k * bs → k * bs < hi → SegOK lt' d0 d (k * bs) (min ((k + 1) * bs) n)
theorem stL1_spec (hS : SWO lt') (hA : ∀ p q, p < q → q < d0.size → lt d0[q]! d0[p]! = lt' d0[q]! d0[p]!) (bs : Nat) (hbs : 0 < bs) : ∀ (m k : Nat) (d : Array α), d0.size - k * bs ≤ m → k * bs ≤ d0.size → PermIn 0 d0.size d0 d → Lvl lt' d0 d bs d0.size 0 (k * bs) → (∀ i, k * bs ≤ i → d[i]! = d0[i]!) →
  PermIn 0 d0.size d0 (stL1 lt bs d0.size (k * bs) d) ∧ Lvl lt' d0 (stL1 lt bs d0.size (k * bs) d) bs d0.size 0 d0.size := by
 intro m
 induction m with
 | zero =>
  intro k d h0 h1 hp hl he
  rw [stL1, if_pos (by omega)]
  obtain ⟨s1, s2⟩ := seg_ins (lt := lt) hS hA d (k * bs) d0.size hp.1 h1 (by rw [hp.1]; exact Nat.le_refl _) he
  refine ⟨permIn_trans _ _ _ _ _ hp (permIn_mono _ _ _ _ _ _ (Nat.zero_le _) (Nat.le_refl _) (by rw [hp.1]; exact Nat.le_refl _) s1), fun j hj1 hj2 => ?_⟩
  have h5 : j < k := Nat.lt_of_mul_lt_mul_right (show j * bs < k * bs by omega)
  have h6 : (j + 1) * bs ≤ k * bs := Nat.mul_le_mul_right _ h5
  exact (hl j hj1 (by omega)).congr (fun i hi1 hi2 => s1.2.1 i (.inl (by omega)))
 | succ m ih =>
  intro k d h0 h1 hp hl he
  rw [stL1]
  by_cases c : bs = 0 ∨ d0.size < k * bs + bs
  ·rw [if_pos c]
   obtain ⟨s1, s2⟩ := seg_ins (lt := lt) hS hA d (k * bs) d0.size hp.1 h1 (by rw [hp.1]; exact Nat.le_refl _) he
   refine ⟨permIn_trans _ _ _ _ _ hp (permIn_mono _ _ _ _ _ _ (Nat.zero_le _) (Nat.le_refl _) (by rw [hp.1]; exact Nat.le_refl _) s1), fun j hj1 hj2 => ?_⟩
   have hkj : j * bs < k * bs ∨ j = k := by
    rcases Nat.lt_trichotomy j k with h | h | h
    ·exact .inl (Nat.mul_lt_mul_of_pos_right h hbs)
    ·exact .inr h
    ·have : (k + 1) * bs ≤ j * bs := Nat.mul_le_mul_right _ h
     rw [Nat.add_mul, Nat.one_mul] at this
     omega
   rcases hkj with h | h
   ·have h5 : j < k := Nat.lt_of_mul_lt_mul_right h
    have h6 : (j + 1) * bs ≤ k * bs := Nat.mul_le_mul_right _ h5
    exact (hl j hj1 h).congr (fun i hi1 hi2 => s1.2.1 i (.inl (by omega)))
   ·subst h
    rw [Nat.min_eq_right (by rw [Nat.add_mul, Nat.one_mul]; omega)]
    exact s2
  ·rw [if_neg c]
   obtain ⟨s1, s2⟩ := seg_ins (lt := lt) hS hA d (k * bs) (k * bs + bs) hp.1 (by omega) (by rw [hp.1]; omega) he
   have e : k * bs + bs = (k + 1) * bs := by rw [Nat.add_mul, Nat.one_mul]
   rw [e] at s1 s2 ⊢
   refine ih (k + 1) _ (by omega) (by omega) (permIn_trans _ _ _ _ _ hp (permIn_mono _ _ _ _ _ _ (Nat.zero_le _) (by omega) (by rw [hp.1]; exact Nat.le_refl _) s1)) (fun j hj1 hj2 => ?_) (fun i hi => (s1.2.1 i (.inr hi)).trans (he i (by omega)))
   have h5 : j < k + 1 := Nat.lt_of_mul_lt_mul_right hj2
   by_cases h : j = k
   ·subst h
    rw [Nat.min_eq_left (by omega)]
    exact s2
   ·have h6 : (j + 1) * bs ≤ k * bs := Nat.mul_le_mul_right _ (by omega)
    exact (hl j hj1 (by rw [Nat.add_mul] at h6; omega)).congr (fun i hi1 hi2 => s1.2.1 i (.inl (by omega)))
theorem stL2_spec (hS : SWO lt') (hA : ∀ p q, p < q → q < d0.size → lt d0[q]! d0[p]! = lt' d0[q]! d0[p]!) (bs : Nat) (hbs : 0 < bs) : ∀ (m k : Nat) (d : Array α), d0.size - k * (2 * bs) ≤ m → PermIn 0 d0.size d0 d → Lvl lt' d0 d (2 * bs) d0.size 0 (k * (2 * bs)) → Lvl lt' d0 d bs d0.size (k * (2 * bs)) d0.size →
  PermIn 0 d0.size d0 (stL2 lt bs d0.size (k * (2 * bs)) d) ∧ Lvl lt' d0 (stL2 lt bs d0.size (k * (2 * bs)) d) (2 * bs) d0.size 0 d0.size := by
 intro m
 have last : ∀ (k : Nat) (d : Array α), d0.size < k * (2 * bs) + 2 * bs → PermIn 0 d0.size d0 d → Lvl lt' d0 d (2 * bs) d0.size 0 (k * (2 * bs)) → Lvl lt' d0 d bs d0.size (k * (2 * bs)) d0.size →
   PermIn 0 d0.size d0 (if k * (2 * bs) + bs < d0.size then symM lt d0.size d (k * (2 * bs)) (k * (2 * bs) + bs) d0.size else d) ∧ Lvl lt' d0 (if k * (2 * bs) + bs < d0.size then symM lt d0.size d (k * (2 * bs)) (k * (2 * bs) + bs) d0.size else d) (2 * bs) d0.size 0 d0.size := by
  intro k d hn hp hl hr
  have ek : k * (2 * bs) = (2 * k) * bs := by rw [← Nat.mul_assoc, Nat.mul_comm k 2]
  have ek1 : (2 * k + 1) * bs = k * (2 * bs) + bs := by rw [Nat.add_mul, Nat.one_mul, ← ek]
  have split : ∀ j, j * (2 * bs) < d0.size → (j * (2 * bs) < k * (2 * bs) ∧ (j + 1) * (2 * bs) ≤ k * (2 * bs)) ∨ j = k := by
   intro j hj
   rcases Nat.lt_trichotomy j k with h | h | h
   ·exact .inl ⟨Nat.mul_lt_mul_of_pos_right h (by omega), Nat.mul_le_mul_right _ h⟩
   ·exact .inr h
   ·have : (k + 1) * (2 * bs) ≤ j * (2 * bs) := Nat.mul_le_mul_right _ h
    rw [Nat.add_mul, Nat.one_mul] at this
    omega
  by_cases c : k * (2 * bs) + bs < d0.size
  ·rw [if_pos c]
   have hL := hr (2 * k) (by omega) (by omega)
   have hR := hr (2 * k + 1) (by omega) (by omega)
   rw [ek1, ← ek, Nat.min_eq_left (by omega)] at hL
   rw [ek1, Nat.min_eq_right (by rw [Nat.add_mul, ek1]; omega)] at hR
   obtain ⟨s1, s2⟩ := seg_sym (lt := lt) hS hA d (k * (2 * bs)) (k * (2 * bs) + bs) d0.size hp.1 (by omega) c (by rw [hp.1]; exact Nat.le_refl _) hL hR
   refine ⟨permIn_trans _ _ _ _ _ hp (permIn_mono _ _ _ _ _ _ (Nat.zero_le _) (Nat.le_refl _) (by rw [hp.1]; exact Nat.le_refl _) s1), fun j hj1 hj2 => ?_⟩
   rcases split j hj2 with ⟨h, h'⟩ | h
   ·exact (hl j hj1 h).congr (fun i hi1 hi2 => s1.2.1 i (.inl (by omega)))
   ·subst h
    rw [Nat.min_eq_right (by rw [Nat.add_mul, Nat.one_mul]; omega)]
    exact s2
  ·rw [if_neg c]
   refine ⟨hp, fun j hj1 hj2 => ?_⟩
   rcases split j hj2 with ⟨h, h'⟩ | h
   ·exact hl j hj1 h
   ·subst h
    have := hr (2 * j) (by omega) (by omega)
    rw [ek1, ← ek, Nat.min_eq_right (by omega)] at this
    rw [Nat.min_eq_right (by rw [Nat.add_mul, Nat.one_mul]; omega)]
    exact this
 induction m with
 | zero =>
  intro k d h0 hp hl hr
  rw [stL2, if_pos (by omega)]
  exact last k d (by omega) hp hl hr
 | succ m ih =>
  intro k d h0 hp hl hr
  rw [stL2]
  by_cases c : bs = 0 ∨ d0.size < k * (2 * bs) + 2 * bs
  ·rw [if_pos c]
   exact last k d (by omega) hp hl hr
  ·rw [if_neg c]
   have ek : k * (2 * bs) = (2 * k) * bs := by rw [← Nat.mul_assoc, Nat.mul_comm k 2]
   have ek1 : (2 * k + 1) * bs = k * (2 * bs) + bs := by rw [Nat.add_mul, Nat.one_mul, ← ek]
   have ek2 : (2 * k + 1 + 1) * bs = k * (2 * bs) + 2 * bs := by rw [Nat.add_mul, ek1]; omega
   have e : k * (2 * bs) + 2 * bs = (k + 1) * (2 * bs) := by rw [Nat.add_mul, Nat.one_mul]
   have hL := hr (2 * k) (by omega) (by omega)
   have hR := hr (2 * k + 1) (by omega) (by omega)
   rw [ek1, ← ek, Nat.min_eq_left (by omega)] at hL
   rw [ek1, ek2, Nat.min_eq_left (by omega)] at hR
   obtain ⟨s1, s2⟩ := seg_sym (lt := lt) hS hA d (k * (2 * bs)) (k * (2 * bs) + bs) (k * (2 * bs) + 2 * bs) hp.1 (by omega) (by omega) (by rw [hp.1]; omega) hL hR
   rw [e] at s1 s2 ⊢
   refine ih (k + 1) _ (by omega) (permIn_trans _ _ _ _ _ hp (permIn_mono _ _ _ _ _ _ (Nat.zero_le _) (by omega) (by rw [hp.1]; exact Nat.le_refl _) s1)) (fun j hj1 hj2 => ?_) (fun j hj1 hj2 => ?_)
   ·have h5 : j < k + 1 := Nat.lt_of_mul_lt_mul_right hj2
    by_cases h : j = k
    ·subst h
     rw [Nat.min_eq_left (by omega)]
     exact s2
    ·have h6 : (j + 1) * (2 * bs) ≤ k * (2 * bs) := Nat.mul_le_mul_right _ (by omega)
     exact (hl j hj1 (by rw [Nat.add_mul] at h6; omega)).congr (fun i hi1 hi2 => s1.2.1 i (.inl (by omega)))
   ·exact (hr j (by omega) hj2).congr (fun i hi1 hi2 => s1.2.1 i (.inr (by omega)))
theorem stL3_spec (hS : SWO lt') (hA : ∀ p q, p < q → q < d0.size → lt d0[q]! d0[p]! = lt' d0[q]! d0[p]!) : ∀ (m bs : Nat) (d : Array α), d0.size - bs ≤ m → 0 < bs → PermIn 0 d0.size d0 d → Lvl lt' d0 d bs d0.size 0 d0.size → PermIn 0 d0.size d0 (stL3 lt bs d0.size d) ∧ SortedIn lt' 0 d0.size (stL3 lt bs d0.size d) := by
 intro m
 have fin : ∀ (bs : Nat) (d : Array α), 0 < bs → d0.size ≤ bs → PermIn 0 d0.size d0 d → Lvl lt' d0 d bs d0.size 0 d0.size → PermIn 0 d0.size d0 d ∧ SortedIn lt' 0 d0.size d := by
  intro bs d hb h hp hl
  refine ⟨hp, fun p q h1 h2 h3 => ?_⟩
  have := hl 0 (Nat.zero_le _) (by omega)
  rw [Nat.zero_mul, Nat.zero_add, Nat.one_mul, Nat.min_eq_right h] at this
  exact this.2 p q h1 h2 h3
 induction m with
 | zero =>
  intro bs d h0 hb hp hl
  rw [stL3, if_pos (by omega)]
  exact fin bs d hb (by omega) hp hl
 | succ m ih =>
  intro bs d h0 hb hp hl
  rw [stL3]
  by_cases c : bs = 0 ∨ d0.size ≤ bs
  ·rw [if_pos c]
   exact fin bs d hb (by omega) hp hl
  ·rw [if_neg c]
   have := stL2_spec (lt := lt) hS hA bs hb _ 0 d (Nat.le_refl _) hp (fun k h1 h2 => by rw [Nat.zero_mul] at h2; omega) (fun k _ h2 => hl k (Nat.zero_le _) h2)
   rw [Nat.zero_mul] at this
   exact ih (2 * bs) _ (by omega) (by omega) this.1 this.2
theorem stab_spec (hS : SWO lt') (hA : ∀ p q, p < q → q < d0.size → lt d0[q]! d0[p]! = lt' d0[q]! d0[p]!) : PermIn 0 d0.size d0 (stab lt d0) ∧ SortedIn lt' 0 d0.size (stab lt d0) := by
 unfold stab
 have := stL1_spec (lt := lt) hS hA 20 (by omega) _ 0 d0 (Nat.le_refl _) (by omega) (permIn_refl _ _ _) (fun k h1 h2 => by rw [Nat.zero_mul] at h2; omega) (fun i _ => rfl)
 rw [Nat.zero_mul] at this
 exact stL3_spec hS hA _ 20 _ (Nat.le_refl _) (by omega) this.1 this.2
end
section
variable {P : Program} {α : Type} [Inhabited α] {enc : α → List Value} {k : Nat} {w0 W : World} {blk off : Nat} {dk d0 : Array α}
def atD (w : World) (t : Nat) : World := { w with drawn := t }
structure GrownX where
 t : Nat
 os : Array Obj
instance : Inhabited GrownX := ⟨⟨0, #[]⟩⟩
theorem wp_region_quietX {id : Nat} {Q : Exit → Act → World → Prop} {a : Act} {w : World} {l : List Oper} (hm : P.follows .mixedOrders = true) (hB : Region.lexB .any l.toArray = true)
  (h : wpQuiet P l.toArray (fun w' => ∃ p : GrownX, w' = grow (atD w p.t) p.os) (fun a' => ∀ w', (∃ p : GrownX, w' = grow (atD w p.t) p.os) → Q .normal a' w') l a) : (Code.region id l.toArray true).wp P Q a w :=
 wp_region_quiet (C := fun w' => ∃ p : GrownX, w' = grow (atD w p.t) p.os) hm hB ⟨⟨w.drawn + 1, #[]⟩, by rw [grow_empty]; rfl⟩ (by simpa using h)
theorem callsX_of {f : FuncId} {args : Array Value} {w : World} {t : Nat} {os : Array Obj} {v : Value}
  (h : Calls P f args (grow (atD w t) os) fun e w' => e = .returned v ∧ ∃ t' os', w' = grow (atD (grow (atD w t) os) t') os') : Calls P f args (grow (atD w t) os) fun e w'' => e = .returned v ∧ ∃ p : GrownX, w'' = grow (atD w p.t) p.os :=
 h.mono fun _ _ ⟨he, t', os', hq⟩ => ⟨he, ⟨t', os ++ os'⟩, by rw [hq]; show grow (grow (atD w t') os) os' = _; rw [grow_grow]⟩
theorem grownX_of_below {w w' : World} (h : RowKit.Below w.heap.size w w') : ∃ t os, w' = grow (atD w t) os := by
 refine ⟨w'.drawn, w'.heap.extract w.heap.size w'.heap.size, ?_⟩
 obtain ⟨h1, h2, h3, h4, h5⟩ := h
 cases w with
 | mk heap tape drawn os output =>
  cases w' with
  | mk heap' tape' drawn' os' output' =>
   simp only at h1 h2 h3 h4 h5
   subst h1; subst h2; subst h3
   unfold grow atD
   congr 1
   apply Array.ext_getElem?
   intro i
   rw [Array.getElem?_append]
   by_cases c : i < heap.size
   ·rw [if_pos c, h5 i c]
   ·rw [if_neg c, Array.getElem?_extract]
    show _ = (if i - heap.size < min heap'.size heap'.size - heap.size then heap'[heap.size + (i - heap.size)]? else none)
    rw [Nat.min_self]
    by_cases c2 : i < heap'.size
    ·rw [if_pos (by omega), show heap.size + (i - heap.size) = i from by omega]
    ·rw [if_neg (by omega), Array.getElem?_eq_none (by omega)]
def CmpB (P : Program) (g : Nat) (cb : Array Value) (enc : α → List Value) (cf : α → α → Int) : Prop :=
 ∀ (W : World) (x y : α), Calls P g (#[.agg (enc x).toArray, .agg (enc y).toArray] ++ cb) W fun e w' => e = .returned (.int .i64 (cf x y)) ∧ RowKit.Below W.heap.size W w'
def SWX (enc : α → List Value) (k : Nat) (w0 : World) (blk off : Nat) (dk : Array α) (W : World) : Prop := ∃ t, SWK enc k (atD w0 t) blk off dk W
theorem rowK_at (R : RowK enc k w0 blk off d0) (t : Nat) : RowK enc k (atD w0 t) blk off d0 := ⟨R.hk, R.h1, R.hH, R.hblk⟩
theorem SWX.start (h : HoldsK enc k w0 blk off dk) : SWX enc k w0 blk off dk w0 := ⟨w0.drawn, SWK.start h⟩
theorem SWX.grownX (h : SWX enc k w0 blk off dk W) (t : Nat) (os : Array Obj) : SWX enc k w0 blk off dk (grow (atD W t) os) := by
 obtain ⟨t0, m, os0, rfl⟩ := h
 refine ⟨t, 0, os0 ++ os, ?_⟩
 unfold sortWorldK
 rw [← grow_grow]
 rfl
theorem SWX.drew (h : SWX enc k w0 blk off dk W) : SWX enc k w0 blk off dk W.drew := by
 obtain ⟨t, h⟩ := h
 exact ⟨t, h.drew⟩
theorem SWX.swapped (h : SWX enc k w0 blk off dk W) (R : RowK enc k w0 blk off d0) (i j : Nat) (hi : i < dk.size) (hj : j < dk.size) :
  SWX enc k w0 blk off (swp dk i j) ((W.drew.setCells blk (off + i * k) (enc dk[j]!)).setCells blk (off + j * k) (enc dk[i]!)) := by
 obtain ⟨t, h⟩ := h
 exact ⟨t, h.swapped (rowK_at R t) i j hi hj⟩
theorem SWX.ld1 (h : SWX enc k w0 blk off dk W) (R : RowK enc k w0 blk off d0) (hs : dk.size = d0.size) (P : Program) (i : Nat) (hi : i < dk.size) :
  Sem.run P (loadCellsFrom ⟨blk, off + i * k, none⟩ 0 k #[]) W.drew = .ok (enc dk[i]!).toArray W.drew := by
 obtain ⟨t, h⟩ := h
 exact h.ld1 (rowK_at R t) hs P i hi
theorem SWX.st1 (h : SWX enc k w0 blk off dk W) (R : RowK enc k w0 blk off d0) (hs : dk.size = d0.size) (P : Program) (i : Nat) (hi : i < dk.size) (y : α) :
  Sem.run P (storeCells ⟨blk, off + i * k, none⟩ (enc y) 0) W.drew = .ok () (W.drew.setCells blk (off + i * k) (enc y)) := by
 obtain ⟨t, h⟩ := h
 exact h.st1 (rowK_at R t) hs P i hi y
theorem SWX.st2 (h : SWX enc k w0 blk off dk W) (R : RowK enc k w0 blk off d0) (hs : dk.size = d0.size) (P : Program) (i j : Nat) (hi : i < dk.size) (hj : j < dk.size) (y x : α) :
  Sem.run P (storeCells ⟨blk, off + j * k, none⟩ (enc x) 0) (W.drew.setCells blk (off + i * k) (enc y)) = .ok () ((W.drew.setCells blk (off + i * k) (enc y)).setCells blk (off + j * k) (enc x)) := by
 obtain ⟨t, h⟩ := h
 exact h.st2 (rowK_at R t) hs P i j hi hj y x
theorem SWX.ld (h : SWX enc k w0 blk off dk W) (R : RowK enc k w0 blk off d0) (hs : dk.size = d0.size) (P : Program) (i : Nat) (hi : i < dk.size) (t : Nat) (os : Array Obj) :
  Sem.run P (loadCellsFrom ⟨blk, off + i * k, none⟩ 0 k #[]) (grow (atD W t) os) = .ok (enc dk[i]!).toArray (grow (atD W t) os) := by
 obtain ⟨t', h⟩ := h.grownX t os
 exact h.load (rowK_at R t') hs P i hi
omit [Inhabited α] in
theorem CmpB.at_ {g : Nat} {cb : Array Value} {cf : α → α → Int} (hC : CmpB P g cb enc cf) (W : World) (x y : α) (t : Nat) (os : Array Obj) :
  Calls P g (#[.agg (enc x).toArray, .agg (enc y).toArray] ++ cb) (grow (atD W t) os) fun e w' => e = .returned (.int .i64 (cf x y)) ∧ ∃ t' os', w' = grow (atD (grow (atD W t) os) t') os' :=
 (hC _ x y).mono fun _ _ ⟨he, hb⟩ => ⟨he, grownX_of_below hb⟩
end
end Go.Proofs.Ytcgejabkjljeeaa.P
end

section
namespace Go.Proofs.Ytcgejabkjljeeaa.P
open Go.RowKit Go.Proofs.YtcgejabkjljeeaaW.PrintWords Go.Proofs.YtcgejabkjljeeaaW.PrintLast Go.Proofs.YtcgejabkjljeeaaW.PrintMore
attribute [local go_sem] str_gtr str_leq str_geq max2_int min2_int max_two min_two qe1 qd1 max_four min_four
set_option linter.unusedVariables false
set_option linter.unusedSimpArgs false
theorem yq7 {P : Prop} (h : P := by repeat (first | (with_reducible first | exact HB.out | apply qh | apply qg | apply qi) | exact HB.out)) : P := h
mutual
def spec_VersionOk.j0 : Nat → Bool → List (S66) → Int → Int → Int → Option (Bool)
 | 0, _, _, _, _, _ => none
 | k + 1, x29, x102000, x102001, x102002, x102003 => if x29 = true then (some false) else (spec_VersionOk.l0 k 0 x102000 x102001 x102002 x102003)
def spec_VersionOk.l0 : Nat → Int → List (S66) → Int → Int → Int → Option (Bool)
 | 0, _, _, _, _, _ => none
 | k + 1, x3, x102000, x102001, x102002, x102003 => if x3 < (x102000.length : Int) then (if 0 ≤ x3 then ((spec_l12Meta.f ((qa1 x102000 x3).f0) ((qa1 x102000 x3).f1) ((qa1 x102000 x3).f2) ((qa1 x102000 x3).f3) ((qa1 x102000 x3).f4)).bind fun t106 => (if t106 = true then (if ((qa1 x102000 x3).f0) ≥ x102001 then (spec_VersionOk.j2 k x3 true x102000 x102001 x102002 x102003) else (if x3 > 0 then (if 0 ≤ (wrap64 (x3 - 1)) then (if (wrap64 (x3 - 1)) < (x102000.length : Int) then ((spec_l12Ahead.f ((qa1 x102000 (wrap64 (x3 - 1))).f0) ((qa1 x102000 (wrap64 (x3 - 1))).f1) ((qa1 x102000 (wrap64 (x3 - 1))).f2) ((qa1 x102000 (wrap64 (x3 - 1))).f3) ((qa1 x102000 (wrap64 (x3 - 1))).f4) ((qa1 x102000 x3).f0) ((qa1 x102000 x3).f1) ((qa1 x102000 x3).f2) ((qa1 x102000 x3).f3) ((qa1 x102000 x3).f4)).bind fun t110 => (spec_VersionOk.j2 k x3 (!t110) x102000 x102001 x102002 x102003)) else (none)) else (none)) else (spec_VersionOk.j2 k x3 false x102000 x102001 x102002 x102003))) else (spec_VersionOk.j2 k x3 true x102000 x102001 x102002 x102003))) else (none)) else (some true)
def spec_VersionOk.j2 : Nat → Int → Bool → List (S66) → Int → Int → Int → Option (Bool)
 | 0, _, _, _, _, _, _ => none
 | k + 1, x3, x73, x102000, x102001, x102002, x102003 => if x73 = true then (some false) else (spec_VersionOk.l1 k x3 0 x102000 x102001 x102002 x102003)
def spec_VersionOk.l1 : Nat → Int → Int → List (S66) → Int → Int → Int → Option (Bool)
 | 0, _, _, _, _, _, _ => none
 | k + 1, x3, x4, x102000, x102001, x102002, x102003 => if x4 < x3 then (if 0 ≤ x4 then (if x4 < (x102000.length : Int) then (if 0 ≤ x3 then (if x3 < (x102000.length : Int) then (if ((qa1 x102000 x4).f0) = ((qa1 x102000 x3).f0) then (some false) else (spec_VersionOk.l1 k x3 (wrap64 (x4 + 1)) x102000 x102001 x102002 x102003)) else (none)) else (none)) else (none)) else (none)) else (spec_VersionOk.l0 k (wrap64 (x3 + 1)) x102000 x102001 x102002 x102003)
end
def spec_VersionOk.f (k : Nat) (l0_0 : List (S66)) (a0_1 : Int) (a0_2 : Int) (a0_3 : Int) : Option (Bool) := if (l0_0.length : Int) > 30 then (spec_VersionOk.j0 k true l0_0 a0_1 a0_2 a0_3) else ((spec_l1In.f a0_1 1 1000000).bind fun t102 => (if t102 = true then ((spec_l1In.f a0_2 0 1000000000000).bind fun t103 => (if t103 = true then ((spec_l1In.f a0_3 0 (wrap64 (a0_1 - 1))).bind fun t104 => (spec_VersionOk.j0 k (!t104) l0_0 a0_1 a0_2 a0_3)) else (spec_VersionOk.j0 k true l0_0 a0_1 a0_2 a0_3))) else (spec_VersionOk.j0 k true l0_0 a0_1 a0_2 a0_3)))
open Go.Shelf Go.Lib Go.Sort
theorem cellX {w : World} {a : Addr} {v : Value} (h : w.cell? a = some v) (t : Nat) (os : Array Obj) : (grow (atD w t) os).cell? a = some v := by
 have hl := World.block_lt_of_cell? w a h
 unfold World.cell? at h ⊢
 have : (grow (atD w t) os).heap[a.block]? = w.heap[a.block]? := by
  show (w.heap ++ os)[a.block]? = _
  rw [Array.getElem?_append_left hl]
 rw [this]
 exact h
theorem below_grow (w : World) (t : Nat) (os : Array Obj) : Below w.heap.size w (grow (atD w t) os) := by
 constructor
 all_goals first
  | rfl
  | (show w.heap.size ≤ (w.heap ++ os).size; simp; done)
  | (intro k hk; show (w.heap ++ os)[k]? = _; rw [Array.getElem?_append_left hk])
theorem wpQuiet_skip {P : Program} {ops : Array Oper} {C : World → Prop} {Q : Act → Prop} {a : Act} {o : Oper} {rest : List Oper} (hw : Region.wanted o (yielded ops a.tmps) = false) (h : ∀ K : Act → Prop, (∀ a, wpQuiet P ops C Q rest a → K a) → K (a.put o.dst undef)) : wpQuiet P ops C Q (o :: rest) a := by
 unfold wpQuiet
 rw [hw]
 exact h _ (fun _ h => h)
theorem wpQuiet_want {P : Program} {ops : Array Oper} {C : World → Prop} {Q : Act → Prop} {a : Act} {o : Oper} {rest : List Oper} (hw : Region.wanted o (yielded ops a.tmps) = true) (h : ∀ K : Act → Prop, (∀ a, wpQuiet P ops C Q rest a → K a) → o.quiet P a C K) : wpQuiet P ops C Q (o :: rest) a := by
 unfold wpQuiet
 rw [if_pos hw]
 exact h _ (fun _ h => h)
theorem svT (k : Nat) (l : List S66) (n s g : Int) (r : Bool) (h : spec_VersionOk.j0 k true l n s g = some r) : r = false := by
 cases k with
 | zero => cases h
 | succ k => rw [spec_VersionOk.j0, if_pos rfl] at h; exact (Option.some.inj h).symm
theorem svT2 (k : Nat) (i : Int) (l : List S66) (n s g : Int) (r : Bool) (h : spec_VersionOk.j2 k i true l n s g = some r) : r = false := by
 cases k with
 | zero => cases h
 | succ k => rw [spec_VersionOk.j2, if_pos rfl] at h; exact (Option.some.inj h).symm
theorem svN (k : Nat) (i : Int) (l : List S66) (n s g : Int) (r : Bool) (h : spec_VersionOk.j2 k i false l n s g = some r) : ∃ k2, k = k2 + 1 ∧ spec_VersionOk.l1 k2 i 0 l n s g = some r := by
 cases k with
 | zero => cases h
 | succ k => rw [spec_VersionOk.j2, if_neg (by decide)] at h; exact ⟨k, rfl, h⟩
set_option maxHeartbeats 4000000 in
set_option maxRecDepth 100000 in
theorem spec_VersionOk.calls (k : Nat) (A0_0 : Option Addr) (c0_0 : Nat) (l0_0 : List (S66)) (a0_1 : Int) (a0_2 : Int) (a0_3 : Int) (r : Bool) (w : World) (hr0_0 : Kd.C k66 w A0_0 l0_0.length l0_0) (hc0_0 : l0_0.length ≤ c0_0) (h : spec_VersionOk.f k l0_0 a0_1 a0_2 a0_3 = some r) :
  Calls Try.prog 26 #[.agg #[.slice A0_0 l0_0.length c0_0, .int .i64 a0_1, .int .i64 a0_2, .int .i64 a0_3]] w fun e w' => e = .returned (.bool r) ∧ Below w.heap.size w w' := by
 have hu32 := Try.underlying32
 have hu66 := Try.underlying66
 have mixed : Try.prog.follows .mixedOrders = true := by kernel_rfl
 have HR := Qz.mk hr0_0
 have hlm := Kd.C_max hr0_0
 clear hr0_0 hc0_0
 have HB := Qz.mk ((Below.refl _ w).alloc (Nat.le_refl _) (.cells #[.slice A0_0 l0_0.length c0_0, .int .i64 a0_1, .int .i64 a0_2, .int .i64 a0_3] 32))
 have BK := Qz.mk (blk_new w (.cells #[.slice A0_0 l0_0.length c0_0, .int .i64 a0_1, .int .i64 a0_2, .int .i64 a0_3] 32))
 unfold spec_VersionOk.f at h
 by_cases c0 : (l0_0.length : Int) > 30
 ·have c0b : decide ((30 : Int) < (l0_0.length : Int)) = true := decide_eq_true c0
  rw [if_pos c0] at h
  obtain rfl := svT _ _ _ _ _ _ h
  clear h c0
  go_enter Try.func26, Try.ntmps26
  go_wp2
  go_ret
  exact ⟨rfl, HB.out⟩
 have c0b : decide ((30 : Int) < (l0_0.length : Int)) = false := decide_eq_false c0
 rw [if_neg c0] at h
 clear c0
 obtain ⟨t1, A1_, h⟩ := Option.bind_eq_some_iff.mp h
 have A1 := Qz.mk A1_
 clear A1_
 cases t1 with
 | false =>
  obtain rfl := svT _ _ _ _ _ _ h
  clear h
  go_enter Try.func26, Try.ntmps26
  go_wp2_with (first | (go_at_call 63; (with_reducible refine (spec_l1In.calls a0_1 1 1000000 false _ A1.out).mono ?_); rintro e w' ⟨rfl, ⟨nd, rfl⟩⟩))
  go_ret
  exact ⟨rfl, yq7⟩
 | true =>
 obtain ⟨t2, A2_, h⟩ := Option.bind_eq_some_iff.mp h
 have A2 := Qz.mk A2_
 clear A2_
 cases t2 with
 | false =>
  obtain rfl := svT _ _ _ _ _ _ h
  clear h
  go_enter Try.func26, Try.ntmps26
  go_wp2_with (first | (go_at_call 63; (with_reducible refine (spec_l1In.calls a0_1 1 1000000 true _ A1.out).mono ?_); rintro e w' ⟨rfl, ⟨nd, rfl⟩⟩) | (go_at_call 63; (with_reducible refine (spec_l1In.calls a0_2 0 1000000000000 false _ A2.out).mono ?_); rintro e w' ⟨rfl, ⟨nd, rfl⟩⟩))
  go_ret
  exact ⟨rfl, yq7⟩
 | true =>
 obtain ⟨t3, A3_, h⟩ := Option.bind_eq_some_iff.mp h
 have A3 := Qz.mk A3_
 clear A3_
 cases t3 with
 | false =>
  obtain rfl := svT _ _ _ _ _ _ h
  clear h
  go_enter Try.func26, Try.ntmps26
  go_wp2_with (first | (go_at_call 63; (with_reducible refine (spec_l1In.calls a0_1 1 1000000 true _ A1.out).mono ?_); rintro e w' ⟨rfl, ⟨nd, rfl⟩⟩) | (go_at_call 63; (with_reducible refine (spec_l1In.calls a0_2 0 1000000000000 true _ A2.out).mono ?_); rintro e w' ⟨rfl, ⟨nd, rfl⟩⟩) | (go_at_call 63; (with_reducible refine (spec_l1In.calls a0_3 0 (wrap64 (a0_1 - 1)) false _ A3.out).mono ?_); rintro e w' ⟨rfl, ⟨nd, rfl⟩⟩))
  go_ret
  exact ⟨rfl, yq7⟩
 | true =>
 cases k with
 | zero => cases h
 | succ k =>
 replace h : spec_VersionOk.l0 k 0 l0_0 a0_1 a0_2 a0_3 = some r := h
 have H' := Qz.mk h
 clear h
 go_enter Try.func26, Try.ntmps26
 go_wp2_with (first | (go_at_call 63; (with_reducible refine (spec_l1In.calls a0_1 1 1000000 true _ A1.out).mono ?_); rintro e w' ⟨rfl, ⟨nd, rfl⟩⟩) | (go_at_call 63; (with_reducible refine (spec_l1In.calls a0_2 0 1000000000000 true _ A2.out).mono ?_); rintro e w' ⟨rfl, ⟨nd, rfl⟩⟩) | (go_at_call 63; (with_reducible refine (spec_l1In.calls a0_3 0 (wrap64 (a0_1 - 1)) true _ A3.out).mono ?_); rintro e w' ⟨rfl, ⟨nd, rfl⟩⟩))
 go_loopg [3] k (fun kq v3 wr => ∃ (i : Nat), v3 = .int .i64 i ∧ Qz (spec_VersionOk.l0 kq (i : Int) l0_0 a0_1 a0_2 a0_3 = some r) ∧ i ≤ l0_0.length ∧ Qz (kq ≤ k) ∧ Qz (wr.heap[w.heap.size]? = some (.cells #[.slice A0_0 l0_0.length c0_0, .int .i64 a0_1, .int .i64 a0_2, .int .i64 a0_3] 32 (0, 0))) ∧ Qz (Below w.heap.size w wr))
 case atStart => exact ⟨0, rfl, H', Nat.zero_le _, ⟨Nat.le_refl _⟩, ⟨by (with_reducible repeat (first | exact BK.out | refine qb ?_ _ | refine qc ?_))⟩, ⟨yq7⟩⟩
 case round =>
  clear H' BK HB
  obtain ⟨i, rfl, HA, hil, HK1, BK, HB⟩ := hrel
  cases gk with
  | zero => exact absurd HA.out (by simp [spec_VersionOk.l0])
  | succ k1 =>
   have H := HA.out
   clear HA
   simp only [spec_VersionOk.l0] at H
   have hz0 := (qd BK.out 0).trans rfl
   have hz1 := (qd BK.out 1).trans rfl
   by_cases c3 : (i : Int) < (l0_0.length : Int)
   ·rw [if_pos c3, if_pos (by omega)] at H
    have c3b : decide ((i : Int) < (l0_0.length : Int)) = true := decide_eq_true c3
    obtain ⟨t106, A4_, H⟩ := Option.bind_eq_some_iff.mp H
    have A4 := Qz.mk A4_
    clear A4_
    obtain ⟨ad, e, h0, h1, h2, h3, h4⟩ := at_T66 HR.out (i : Int) (by omega) c3
    cases e
    rw [Int.toNat_natCast] at h0 h1 h2 h3 h4
    replace h0 := (HB.out.cell (World.block_lt_of_cell? w _ h0)).trans h0
    replace h1 := (HB.out.cell (World.block_lt_of_cell? w _ h1)).trans h1
    replace h2 := (HB.out.cell (World.block_lt_of_cell? w _ h2)).trans h2
    replace h3 := (HB.out.cell (World.block_lt_of_cell? w _ h3)).trans h3
    replace h4 := (HB.out.cell (World.block_lt_of_cell? w _ h4)).trans h4
    have HX : Qz (qa1 l0_0 i = qa1 l0_0 i) := ⟨rfl⟩
    generalize qa1 l0_0 (i : Int) = x at h0 h1 h2 h3 h4 A4 H
    cases t106 with
    | false =>
     rw [if_neg (by decide)] at H
     obtain rfl := svT2 _ _ _ _ _ _ _ H
     clear H
     have hm : ∀ t os, Calls Try.prog 64 #[.agg #[.int .i64 x.f0, .int .i64 x.f1, .string x.f2, .string x.f3, .int .i64 x.f4]] (grow (atD wr t) os) fun e w' => e = .returned (.bool false) ∧ ∃ t' os', w' = grow (atD (grow (atD wr t) os) t') os' := fun t os => (spec_l12Meta.calls x.f0 x.f1 x.f2 x.f3 x.f4 false (grow (atD wr t) os) A4.out).mono fun _ _ h => ⟨h.1, grownX_of_below h.2⟩
     have hz0' := cellX hz0
     have h0' := cellX h0
     have h1' := cellX h1
     have h2' := cellX h2
     have h3' := cellX h3
     have h4' := cellX h4
     go_wp2
     refine wp_region_quietX (by assumption) (by kernel_rfl) ?_
     iterate 8 (with_reducible refine wpQuiet_want ?want_ (fun K hK => ?_); (case want_ => kernel_rfl); go_simp; (first | (with_reducible refine hK _ ?_; clear hK K) | (apply Exists.intro; refine ⟨fun _ => ?_, hK _ ?_⟩; (go_at_call 64; (with_reducible refine callsX_of (hm _ _))); clear hK K)))
     iterate 9 (with_reducible refine wpQuiet_skip ?skip_ (fun K hK => ?_); (case skip_ => kernel_rfl); go_simp; with_reducible refine hK _ ?_; clear hK K)
     iterate 2 (with_reducible refine wpQuiet_want ?want_ (fun K hK => ?_); (case want_ => kernel_rfl); go_simp; (first | (with_reducible refine hK _ ?_; clear hK K) | (apply Exists.intro; refine ⟨fun _ => ?_, hK _ ?_⟩; (go_at_call 64; (with_reducible refine callsX_of (hm _ _))); clear hK K)))
     iterate 17 (with_reducible refine wpQuiet_skip ?skip_ (fun K hK => ?_); (case skip_ => kernel_rfl); go_simp; with_reducible refine hK _ ?_; clear hK K)
     (with_reducible refine wpQuiet_want ?want_ (fun K hK => ?_); (case want_ => kernel_rfl); go_simp; (first | (with_reducible refine hK _ ?_; clear hK K) | (apply Exists.intro; refine ⟨fun _ => ?_, hK _ ?_⟩; (go_at_call 64; (with_reducible refine callsX_of (hm _ _))); clear hK K)))
     refine wpQuiet_nil ?_
     intro _ hw_
     obtain ⟨⟨tq, osq⟩, hw_⟩ := hw_
     subst hw_
     have HB2 := Qz.mk (HB.out.trans ((below_grow wr tq osq).mono HB.out.size))
     go_wp2
     go_ret
     exact ⟨rfl, HB2.out⟩
    | true =>
     rw [if_pos rfl] at H
     have hm : ∀ t os, Calls Try.prog 64 #[.agg #[.int .i64 x.f0, .int .i64 x.f1, .string x.f2, .string x.f3, .int .i64 x.f4]] (grow (atD wr t) os) fun e w' => e = .returned (.bool true) ∧ ∃ t' os', w' = grow (atD (grow (atD wr t) os) t') os' := fun t os => (spec_l12Meta.calls x.f0 x.f1 x.f2 x.f3 x.f4 true (grow (atD wr t) os) A4.out).mono fun _ _ h => ⟨h.1, grownX_of_below h.2⟩
     have hz0' := cellX hz0
     have hz1' := cellX hz1
     have h0' := cellX h0
     have h1' := cellX h1
     have h2' := cellX h2
     have h3' := cellX h3
     have h4' := cellX h4
     by_cases cn : x.f0 ≥ a0_1
     ·have cnb : decide (a0_1 ≤ x.f0) = true := decide_eq_true cn
      rw [if_pos cn] at H
      obtain rfl := svT2 _ _ _ _ _ _ _ H
      clear H
      go_wp2
      refine wp_region_quietX (by assumption) (by kernel_rfl) ?_
      iterate 19 (with_reducible refine wpQuiet_want ?want_ (fun K hK => ?_); (case want_ => kernel_rfl); go_simp; (first | (with_reducible refine hK _ ?_; clear hK K) | (apply Exists.intro; refine ⟨fun _ => ?_, hK _ ?_⟩; (go_at_call 64; (with_reducible refine callsX_of (hm _ _))); clear hK K)))
      iterate 17 (with_reducible refine wpQuiet_skip ?skip_ (fun K hK => ?_); (case skip_ => kernel_rfl); go_simp; with_reducible refine hK _ ?_; clear hK K)
      (with_reducible refine wpQuiet_want ?want_ (fun K hK => ?_); (case want_ => kernel_rfl); go_simp; with_reducible refine hK _ ?_; clear hK K)
      refine wpQuiet_nil ?_
      intro _ hw_
      obtain ⟨⟨tq, osq⟩, hw_⟩ := hw_
      subst hw_
      have HB2 := Qz.mk (HB.out.trans ((below_grow wr tq osq).mono HB.out.size))
      go_wp2
      go_ret
      exact ⟨rfl, HB2.out⟩
     have cnb : decide (a0_1 ≤ x.f0) = false := decide_eq_false cn
     rw [if_neg cn] at H
     by_cases ci : (i : Int) > 0
     case' pos =>
      have cib : decide ((0 : Int) < (i : Int)) = true := decide_eq_true ci
      have cic : decide (0 < i) = true := decide_eq_true (by omega)
      obtain ⟨j, hij⟩ : ∃ j : Nat, i = j + 1 := ⟨i - 1, by omega⟩
      have hw1 : wrap64 ((i : Int) - 1) = (j : Int) := by unfold wrap64; omega
      have hwi : IntKind.i64.wrap ((i : Int) - 1) = (j : Int) := by rw [IntKind.wrap_i64]; omega
      have cjl : (j : Int) < (l0_0.length : Int) := by omega
      rw [if_pos ci, hw1, if_pos (by omega), if_pos cjl] at H
      obtain ⟨t110, A5_, H⟩ := Option.bind_eq_some_iff.mp H
      have A5 := Qz.mk A5_
      clear A5_
      obtain ⟨adg, e, g0, g1, g2, g3, g4⟩ := at_T66 HR.out (j : Int) (by omega) cjl
      cases e
      rw [Int.toNat_natCast] at g0 g1 g2 g3 g4
      replace g0 := (HB.out.cell (World.block_lt_of_cell? w _ g0)).trans g0
      replace g1 := (HB.out.cell (World.block_lt_of_cell? w _ g1)).trans g1
      replace g2 := (HB.out.cell (World.block_lt_of_cell? w _ g2)).trans g2
      replace g3 := (HB.out.cell (World.block_lt_of_cell? w _ g3)).trans g3
      replace g4 := (HB.out.cell (World.block_lt_of_cell? w _ g4)).trans g4
      generalize qa1 l0_0 (j : Int) = y at g0 g1 g2 g3 g4 A5
      have ha : ∀ t os, Calls Try.prog 56 #[.agg #[.int .i64 y.f0, .int .i64 y.f1, .string y.f2, .string y.f3, .int .i64 y.f4], .agg #[.int .i64 x.f0, .int .i64 x.f1, .string x.f2, .string x.f3, .int .i64 x.f4]] (grow (atD wr t) os) fun e w' => e = .returned (.bool t110) ∧ ∃ t' os', w' = grow (atD (grow (atD wr t) os) t') os' := fun t os => (spec_l12Ahead.calls y.f0 y.f1 y.f2 y.f3 y.f4 x.f0 x.f1 x.f2 x.f3 x.f4 t110 (grow (atD wr t) os) A5.out).mono fun _ _ h => ⟨h.1, grownX_of_below h.2⟩
      have g0' := cellX g0
      have g1' := cellX g1
      have g2' := cellX g2
      have g3' := cellX g3
      have g4' := cellX g4
      clear hij
      cases t110
      case false =>
       obtain rfl := svT2 _ _ _ _ _ _ _ H
       clear H
       go_wp2
       refine wp_region_quietX (by assumption) (by kernel_rfl) ?_
       iterate 37 (with_reducible refine wpQuiet_want ?want_ (fun K hK => ?_); (case want_ => kernel_rfl); go_simp; (first | (with_reducible refine hK _ ?_; clear hK K) | (apply Exists.intro; refine ⟨fun _ => ?_, hK _ ?_⟩; (first | (go_at_call 64; (with_reducible refine callsX_of (hm _ _))) | (go_at_call 56; (with_reducible refine callsX_of (ha _ _)))); clear hK K)))
       refine wpQuiet_nil ?_
       intro _ hw_
       obtain ⟨⟨tq, osq⟩, hw_⟩ := hw_
       subst hw_
       have HB2 := Qz.mk (HB.out.trans ((below_grow wr tq osq).mono HB.out.size))
       go_wp2
       go_ret
       exact ⟨rfl, HB2.out⟩
      replace H : spec_VersionOk.j2 k1 (i : Int) false l0_0 a0_1 a0_2 a0_3 = some r := H
      go_wp2
      refine wp_region_quietX (by assumption) (by kernel_rfl) ?_
      iterate 37 (with_reducible refine wpQuiet_want ?want_ (fun K hK => ?_); (case want_ => kernel_rfl); go_simp; (first | (with_reducible refine hK _ ?_; clear hK K) | (apply Exists.intro; refine ⟨fun _ => ?_, hK _ ?_⟩; (first | (go_at_call 64; (with_reducible refine callsX_of (hm _ _))) | (go_at_call 56; (with_reducible refine callsX_of (ha _ _)))); clear hK K)))
     case' neg =>
      have cib : decide ((0 : Int) < (i : Int)) = false := decide_eq_false ci
      have cic : decide (0 < i) = false := decide_eq_false (by omega)
      rw [if_neg ci] at H
      go_wp2
      refine wp_region_quietX (by assumption) (by kernel_rfl) ?_
      iterate 22 (with_reducible refine wpQuiet_want ?want_ (fun K hK => ?_); (case want_ => kernel_rfl); go_simp; (first | (with_reducible refine hK _ ?_; clear hK K) | (apply Exists.intro; refine ⟨fun _ => ?_, hK _ ?_⟩; (go_at_call 64; (with_reducible refine callsX_of (hm _ _))); clear hK K)))
      iterate 13 (with_reducible refine wpQuiet_skip ?skip_ (fun K hK => ?_); (case skip_ => kernel_rfl); go_simp; with_reducible refine hK _ ?_; clear hK K)
      iterate 2 (with_reducible refine wpQuiet_want ?want_ (fun K hK => ?_); (case want_ => kernel_rfl); go_simp; with_reducible refine hK _ ?_; clear hK K)
     all_goals
      refine wpQuiet_nil ?_
      intro _ hw_
      obtain ⟨⟨tq, osq⟩, hw_⟩ := hw_
      subst hw_
      have HB2 := Qz.mk (HB.out.trans ((below_grow wr tq osq).mono HB.out.size))
      obtain ⟨k2, rfl, H⟩ := svN _ _ _ _ _ _ _ H
      have HH := Qz.mk H
      have BK2 := Qz.mk (qb1 BK.out (below_grow wr tq osq))
      clear H h0 h1 h2 h3 h4 h0' h1' h2' h3' h4' hz0 hz1 hz0' hz1' BK HB HX A4 cnb cib cic hm
      generalize grow (atD wr tq) osq = W2 at BK2 HB2 ⊢
      go_wp2
      go_loopg [4] k2 (fun kq v4 wr2 => ∃ j : Nat, v4 = .int .i64 j ∧ Qz (spec_VersionOk.l1 kq (i : Int) (j : Int) l0_0 a0_1 a0_2 a0_3 = some r) ∧ j ≤ i ∧ Qz (kq ≤ k2) ∧ Qz (wr2.heap[w.heap.size]? = some (.cells #[.slice (some ad) l0_0.length c0_0, .int .i64 a0_1, .int .i64 a0_2, .int .i64 a0_3] 32 (0, 0))) ∧ Qz (Below w.heap.size w wr2))
      case atStart => exact ⟨0, rfl, HH, Nat.zero_le _, ⟨Nat.le_refl _⟩, BK2, HB2⟩
      case round =>
       clear HH BK2 HB2
       rename World => wr
       obtain ⟨j, rfl, HA, hji, HK2, BK, HB⟩ := hrel
       cases gk with
       | zero => exact absurd HA.out (by simp [spec_VersionOk.l1])
       | succ k3 =>
        have H := HA.out
        clear HA
        simp only [spec_VersionOk.l1] at H
        have hz0 := (qd BK.out 0).trans rfl
        by_cases c5 : (j : Int) < (i : Int)
        ·have cjl : (j : Int) < (l0_0.length : Int) := by omega
         rw [if_pos c5, if_pos (by omega), if_pos cjl, if_pos (by omega), if_pos c3] at H
         have c5b : decide ((j : Int) < (i : Int)) = true := decide_eq_true c5
         obtain ⟨adh, e, h0, h1, h2, h3, h4⟩ := at_T66 HR.out (i : Int) (by omega) c3
         cases e
         rw [Int.toNat_natCast] at h0 h1 h2 h3 h4
         replace h0 := (HB.out.cell (World.block_lt_of_cell? w _ h0)).trans h0
         replace h1 := (HB.out.cell (World.block_lt_of_cell? w _ h1)).trans h1
         replace h2 := (HB.out.cell (World.block_lt_of_cell? w _ h2)).trans h2
         replace h3 := (HB.out.cell (World.block_lt_of_cell? w _ h3)).trans h3
         replace h4 := (HB.out.cell (World.block_lt_of_cell? w _ h4)).trans h4
         obtain ⟨adg, e, g0, g1, g2, g3, g4⟩ := at_T66 HR.out (j : Int) (by omega) cjl
         cases e
         rw [Int.toNat_natCast] at g0 g1 g2 g3 g4
         replace g0 := (HB.out.cell (World.block_lt_of_cell? w _ g0)).trans g0
         replace g1 := (HB.out.cell (World.block_lt_of_cell? w _ g1)).trans g1
         replace g2 := (HB.out.cell (World.block_lt_of_cell? w _ g2)).trans g2
         replace g3 := (HB.out.cell (World.block_lt_of_cell? w _ g3)).trans g3
         replace g4 := (HB.out.cell (World.block_lt_of_cell? w _ g4)).trans g4
         have hz0' := cellX hz0
         have h0' := cellX h0
         have g0' := cellX g0
         generalize qa1 l0_0 (j : Int) = y at g0 g0' H
         generalize qa1 l0_0 (i : Int) = x at h0 h0' H
         clear h1 h2 h3 h4 g1 g2 g3 g4
         by_cases ce : y.f0 = x.f0
         ·rw [if_pos ce] at H
          obtain rfl := Option.some.inj H
          clear H
          rw [ce] at g0 g0'
          go_wp2
          refine wp_region_quietX (by assumption) (by kernel_rfl) ?_
          iterate 13 (with_reducible refine wpQuiet_want ?want_ (fun K hK => ?_); (case want_ => kernel_rfl); go_simp; with_reducible refine hK _ ?_; clear hK K)
          refine wpQuiet_nil ?_
          intro _ hw_
          obtain ⟨⟨tq, osq⟩, hw_⟩ := hw_
          subst hw_
          have HB2 := Qz.mk (HB.out.trans ((below_grow wr tq osq).mono HB.out.size))
          go_wp2
          go_ret
          exact ⟨rfl, HB2.out⟩
         ·rw [if_neg ce] at H
          have ceb : decide (y.f0 = x.f0) = false := decide_eq_false ce
          have ceq : (y.f0 == x.f0) = false := beq_eq_false_iff_ne.2 ce
          have H2 := Qz.mk H
          clear H
          go_wp2
          refine wp_region_quietX (by assumption) (by kernel_rfl) ?_
          iterate 13 (with_reducible refine wpQuiet_want ?want_ (fun K hK => ?_); (case want_ => kernel_rfl); go_simp; with_reducible refine hK _ ?_; clear hK K)
          refine wpQuiet_nil ?_
          intro _ hw_
          obtain ⟨⟨tq, osq⟩, hw_⟩ := hw_
          subst hw_
          have HB2 := Qz.mk (HB.out.trans ((below_grow wr tq osq).mono HB.out.size))
          have BK2 := Qz.mk (qb1 BK.out (below_grow wr tq osq))
          go_wp2
          go_roundg k3
          case measure => exact Nat.lt_succ_self _
          case rel =>
           have hw2 : wrap64 ((j : Int) + 1) = ((j + 1 : Nat) : Int) := by unfold wrap64; omega
           exact ⟨j + 1, congrArg (Value.int .i64) (by first | rfl | exact hw2 | omega), ⟨by rw [← hw2]; exact H2.out⟩, by omega, ⟨by have := HK2.out; omega⟩, BK2, HB2⟩
        ·rw [if_neg c5] at H
         have c5b : decide ((j : Int) < (i : Int)) = false := decide_eq_false c5
         have H2 := Qz.mk H
         clear H
         go_wp2
         go_roundg k3
         case measure => have := HK2.out; omega
         case rel =>
          have hw2 : wrap64 ((i : Int) + 1) = ((i + 1 : Nat) : Int) := by unfold wrap64; omega
          exact ⟨i + 1, congrArg (Value.int .i64) (by first | rfl | exact hw2 | omega), ⟨by rw [← hw2]; exact H2.out⟩, by omega, ⟨by have := HK2.out; have := HK1.out; omega⟩, BK, HB⟩
   ·rw [if_neg c3] at H
    have c3b : decide ((i : Int) < (l0_0.length : Int)) = false := decide_eq_false c3
    obtain rfl := Option.some.inj H
    go_wp2
    go_ret
    exact ⟨rfl, yq7⟩
end Go.Proofs.Ytcgejabkjljeeaa.P
end

section
namespace Go.Proofs.Ytcgejabkjljeeaa.P
open Go.RowKit Go.Proofs.YtcgejabkjljeeaaW.PrintWords Go.Proofs.YtcgejabkjljeeaaW.PrintLast Go.Proofs.YtcgejabkjljeeaaW.PrintMore
attribute [local go_sem] str_gtr str_leq str_geq max2_int min2_int max_two min_two qe1 qd1 max_four min_four
set_option linter.unusedVariables false
set_option linter.unusedSimpArgs false
mutual
def spec_Apply.j0 : Nat → Bool → List (S66) → Int → Int → Int → List (S66) → List Int → Int → Int → Int → Option ((List (S66)) × Int × Int × Int × Bool)
 | 0, _, _, _, _, _, _, _, _, _, _ => none
 | k + 1, x43, x102000, x102001, x102002, x102003, x103000, x103001, x103002, x103003, x103004 => if x43 = true then (some (([] : List (S66)), 0, 0, 0, false)) else (spec_Apply.l0 k 0 0 x102000 x102001 x102002 x102003 x103000 x103001 x103002 x103003 x103004 (([] : List (S66))) x103002 x103003 x103004)
def spec_Apply.l0 : Nat → Int → Int → List (S66) → Int → Int → Int → List (S66) → List Int → Int → Int → Int → List (S66) → Int → Int → Int → Option ((List (S66)) × Int × Int × Int × Bool)
 | 0, _, _, _, _, _, _, _, _, _, _, _, _, _, _, _ => none
 | k + 1, x7, x8, x102000, x102001, x102002, x102003, x103000, x103001, x103002, x103003, x103004, x109000, x109001, x109002, x109003 => if x8 < (x102000.length : Int) then (spec_Apply.l1 k x7 x8 false 0 x102000 x102001 x102002 x102003 x103000 x103001 x103002 x103003 x103004 x109000 x109001 x109002 x109003) else (if x7 = (x103001.length : Int) then (spec_Apply.l2 k 0 x103000 x103001 x103002 x103003 x103004 x109000 x109001 x109002 x109003) else (some (([] : List (S66)), 0, 0, 0, false)))
def spec_Apply.l1 : Nat → Int → Int → Bool → Int → List (S66) → Int → Int → Int → List (S66) → List Int → Int → Int → Int → List (S66) → Int → Int → Int → Option ((List (S66)) × Int × Int × Int × Bool)
 | 0, _, _, _, _, _, _, _, _, _, _, _, _, _, _, _, _, _ => none
 | k + 1, x7, x8, x9, x10, x102000, x102001, x102002, x102003, x103000, x103001, x103002, x103003, x103004, x109000, x109001, x109002, x109003 => if x10 < (x103001.length : Int) then (if x9 = true then (spec_Apply.l1 k x7 x8 true (wrap64 (x10 + 1)) x102000 x102001 x102002 x102003 x103000 x103001 x103002 x103003 x103004 x109000 x109001 x109002 x109003) else (if 0 ≤ x10 then (if 0 ≤ x8 then (if x8 < (x102000.length : Int) then (spec_Apply.l1 k x7 x8 ((rd x103001 x10) == ((qa1 x102000 x8).f0)) (wrap64 (x10 + 1)) x102000 x102001 x102002 x102003 x103000 x103001 x103002 x103003 x103004 x109000 x109001 x109002 x109003) else (none)) else (none)) else (none))) else (if x9 = true then (spec_Apply.l0 k (wrap64 (x7 + 1)) (wrap64 (x8 + 1)) x102000 x102001 x102002 x102003 x103000 x103001 x103002 x103003 x103004 x109000 x109001 x109002 x109003) else (if 0 ≤ x8 then (if x8 < (x102000.length : Int) then (if x109000.length < 2513169434916 then (spec_Apply.l0 k x7 (wrap64 (x8 + 1)) x102000 x102001 x102002 x102003 x103000 x103001 x103002 x103003 x103004 (x109000 ++ [(⟨(qa1 x102000 x8).f0, (qa1 x102000 x8).f1, (qa1 x102000 x8).f2, (qa1 x102000 x8).f3, (qa1 x102000 x8).f4⟩ : S66)]) x109001 x109002 x109003) else (none)) else (none)) else (none)))
def spec_Apply.l2 : Nat → Int → List (S66) → List Int → Int → Int → Int → List (S66) → Int → Int → Int → Option ((List (S66)) × Int × Int × Int × Bool)
 | 0, _, _, _, _, _, _, _, _, _, _ => none
 | k + 1, x11, x103000, x103001, x103002, x103003, x103004, x109000, x109001, x109002, x109003 => if x11 < (x103000.length : Int) then (spec_Apply.l3 k x11 0 x103000 x103001 x103002 x103003 x103004 x109000 x109001 x109002 x109003) else ((spec_VersionOk.f k x109000 x109001 x109002 x109003).bind fun t115 => (if t115 = true then (some (x109000, x109001, x109002, x109003, true)) else (some (([] : List (S66)), 0, 0, 0, false))))
def spec_Apply.l3 : Nat → Int → Int → List (S66) → List Int → Int → Int → Int → List (S66) → Int → Int → Int → Option ((List (S66)) × Int × Int × Int × Bool)
 | 0, _, _, _, _, _, _, _, _, _, _, _ => none
 | k + 1, x11, x12, x103000, x103001, x103002, x103003, x103004, x109000, x109001, x109002, x109003 => if x12 < (x109000.length : Int) then (if 0 ≤ x12 then (if 0 ≤ x11 then (if x11 < (x103000.length : Int) then ((spec_l12Ahead.f ((qa1 x109000 x12).f0) ((qa1 x109000 x12).f1) ((qa1 x109000 x12).f2) ((qa1 x109000 x12).f3) ((qa1 x109000 x12).f4) ((qa1 x103000 x11).f0) ((qa1 x103000 x11).f1) ((qa1 x103000 x11).f2) ((qa1 x103000 x11).f3) ((qa1 x103000 x11).f4)).bind fun t118 => (if t118 = true then (spec_Apply.l3 k x11 (wrap64 (x12 + 1)) x103000 x103001 x103002 x103003 x103004 x109000 x109001 x109002 x109003) else ((some (([] : List (S66)) : List (S66))).bind fun y119 => (if x12 ≤ (x109000.length : Int) then ((some (x109000.take (x12 : Int).toNat : List (S66))).bind fun y122 => (if y119.length + y122.length < 2513169434916 then ((some (y119 ++ y122 : List (S66))).bind fun y126 => (if y126.length < 2513169434916 then ((some (y126 ++ [(⟨(qa1 x103000 x11).f0, (qa1 x103000 x11).f1, (qa1 x103000 x11).f2, (qa1 x103000 x11).f3, (qa1 x103000 x11).f4⟩ : S66)] : List (S66))).bind fun y130 => ((some (x109000.drop (x12 : Int).toNat : List (S66))).bind fun y133 => (if y130.length + y133.length < 2513169434916 then (spec_Apply.l2 k (wrap64 (x11 + 1)) x103000 x103001 x103002 x103003 x103004 (y130 ++ y133) x109001 x109002 x109003) else (none)))) else (none))) else (none))) else (none))))) else (none)) else (none)) else (none)) else ((some (([] : List (S66)) : List (S66))).bind fun y140 => (if 0 ≤ x12 then (if x12 ≤ (x109000.length : Int) then ((some (x109000.take (x12 : Int).toNat : List (S66))).bind fun y143 => (if y140.length + y143.length < 2513169434916 then ((some (y140 ++ y143 : List (S66))).bind fun y147 => (if 0 ≤ x11 then (if x11 < (x103000.length : Int) then (if y147.length < 2513169434916 then ((some (y147 ++ [(⟨(qa1 x103000 x11).f0, (qa1 x103000 x11).f1, (qa1 x103000 x11).f2, (qa1 x103000 x11).f3, (qa1 x103000 x11).f4⟩ : S66)] : List (S66))).bind fun y151 => ((some (x109000.drop (x12 : Int).toNat : List (S66))).bind fun y154 => (if y151.length + y154.length < 2513169434916 then (spec_Apply.l2 k (wrap64 (x11 + 1)) x103000 x103001 x103002 x103003 x103004 (y151 ++ y154) x109001 x109002 x109003) else (none)))) else (none)) else (none)) else (none))) else (none))) else (none)) else (none)))
end
def spec_Apply.f (k : Nat) (l0_0 : List (S66)) (a0_1 : Int) (a0_2 : Int) (a0_3 : Int) (l1_0 : List (S66)) (l1_1 : List Int) (a1_2 : Int) (a1_3 : Int) (a1_4 : Int) : Option ((List (S66)) × Int × Int × Int × Bool) := (spec_VersionOk.f k l0_0 a0_1 a0_2 a0_3).bind fun t104 => (if t104 = true then (if a1_2 < a0_1 then (spec_Apply.j0 k true l0_0 a0_1 a0_2 a0_3 l1_0 l1_1 a1_2 a1_3 a1_4) else (if a1_3 < a0_2 then (spec_Apply.j0 k true l0_0 a0_1 a0_2 a0_3 l1_0 l1_1 a1_2 a1_3 a1_4) else (if a1_4 < a0_3 then (spec_Apply.j0 k true l0_0 a0_1 a0_2 a0_3 l1_0 l1_1 a1_2 a1_3 a1_4) else (spec_Apply.j0 k (decide ((l1_0.length : Int) > 30)) l0_0 a0_1 a0_2 a0_3 l1_0 l1_1 a1_2 a1_3 a1_4)))) else (spec_Apply.j0 k true l0_0 a0_1 a0_2 a0_3 l1_0 l1_1 a1_2 a1_3 a1_4))
open Go.Shelf Go.Lib Go.Sort
theorem apT (k : Nat) (l0_0 : List S66) (a0_1 a0_2 a0_3 : Int) (l1_0 : List S66) (l1_1 : List Int) (a1_2 a1_3 a1_4 : Int) (r : List S66 × Int × Int × Int × Bool) (h : spec_Apply.j0 k true l0_0 a0_1 a0_2 a0_3 l1_0 l1_1 a1_2 a1_3 a1_4 = some r) : r = ([], 0, 0, 0, false) := by
 cases k with
 | zero => cases h
 | succ k => rw [spec_Apply.j0, if_pos rfl] at h; exact (Option.some.inj h).symm
theorem apN (k : Nat) (l0_0 : List S66) (a0_1 a0_2 a0_3 : Int) (l1_0 : List S66) (l1_1 : List Int) (a1_2 a1_3 a1_4 : Int) (r : List S66 × Int × Int × Int × Bool) (h : spec_Apply.j0 k false l0_0 a0_1 a0_2 a0_3 l1_0 l1_1 a1_2 a1_3 a1_4 = some r) : ∃ k2, spec_Apply.l0 k2 0 0 l0_0 a0_1 a0_2 a0_3 l1_0 l1_1 a1_2 a1_3 a1_4 [] a1_2 a1_3 a1_4 = some r := by
 cases k with
 | zero => cases h
 | succ k => rw [spec_Apply.j0, if_neg (by decide)] at h; exact ⟨k, h⟩
theorem threeA (w : World) (X Y Z : Obj) : Below w.heap.size w (((w.alloc X).alloc Y).alloc Z) ∧ (((w.alloc X).alloc Y).alloc Z).heap[w.heap.size]? = some X ∧ (((w.alloc X).alloc Y).alloc Z).heap[w.heap.size + 1]? = some Y ∧ (((w.alloc X).alloc Y).alloc Z).heap[w.heap.size + 1 + 1]? = some Z ∧ (((w.alloc X).alloc Y).alloc Z).heap.size = w.heap.size + 3 := by
 have e1 : (w.alloc X).heap.size = w.heap.size + 1 := by simp
 have e2 : ((w.alloc X).alloc Y).heap.size = w.heap.size + 1 + 1 := by simp
 refine ⟨(((Below.refl _ w).alloc (Nat.le_refl _) _).alloc (by omega) _).alloc (by omega) _, qa (qa (blk_new _ _) _) _, ?_, ?_, by simp⟩
 ·rw [← e1]; exact qa (blk_new _ _) _
 ·rw [← e2]; exact blk_new _ _
theorem putA {w : World} {g t : Nat} {x0 x1 x2 x3 a b c d : Value} (h : w.heap[g]? = some (.cells #[x0, x1, x2, x3] t (0, 0))) : ((((w.setCell ⟨g, 0, none⟩ a).setCell ⟨g, 1, none⟩ b).setCell ⟨g, 2, none⟩ c).setCell ⟨g, 3, none⟩ d).heap[g]? = some (.cells #[a, b, c, d] t (0, 0)) :=
 qt (qt (qt (qt h 0 a rfl) 1 b rfl) 2 c rfl) 3 d rfl
theorem belowA {w W : World} {g : Nat} {a b c d : Value} (h : Below w.heap.size w W) (hg : w.heap.size ≤ g) : Below w.heap.size w ((((W.setCell ⟨g, 0, none⟩ a).setCell ⟨g, 1, none⟩ b).setCell ⟨g, 2, none⟩ c).setCell ⟨g, 3, none⟩ d) :=
 qe (qe (qe (qe h hg) hg) hg) hg
theorem R_setA {α : Type} {dk : Kd α} {e base g t : Nat} {ok : Nat → Prop} {W : World} {v : Value} {xs : List α} {x0 x1 x2 x3 a b c d : Value} (h : dk.R e W base ok v xs) (hb : W.heap[g]? = some (.cells #[x0, x1, x2, x3] t (0, 0))) (ht : ∀ q, q ∈ e :: dk.E → q ≠ t) : dk.R e ((((W.setCell ⟨g, 0, none⟩ a).setCell ⟨g, 1, none⟩ b).setCell ⟨g, 2, none⟩ c).setCell ⟨g, 3, none⟩ d) base ok v xs :=
 Kd.R_set (Kd.R_set (Kd.R_set (Kd.R_set h hb ht 0 a) (qt hb 0 a rfl) ht 1 b) (qt (qt hb 0 a rfl) 1 b rfl) ht 2 c) (qt (qt (qt hb 0 a rfl) 1 b rfl) 2 c rfl) ht 3 d
theorem R_emptyA {α : Type} (d : Kd α) (e : Nat) (w : World) (base : Nat) (hb : base ≤ w.heap.size) : d.R e (w.alloc (.cells #[] e)) base (fun _ => True) (.slice (some ⟨w.heap.size, 0, none⟩) 0 0) [] :=
 ⟨fun _ _ => trivial, [], World.ownsRow_made w #[] 0 hb (Nat.zero_le _) (by simp), Reps.none _ _⟩
theorem ite_some {α : Type} {c : Prop} [Decidable c] {a : Option α} {r : α} (h : (if c then a else none) = some r) : c ∧ a = some r := by
 split at h
 ·rename_i hc; exact ⟨hc, h⟩
 ·cases h
theorem lenA {α : Type} (l : List α) (x : α) (j : Nat) (hj : j ≤ l.length) (q : ([] ++ l.take j ++ [x]).length + (l.drop j).length < 2513169434916) : l.length + 1 < 2513169434916 := by
 simp only [List.nil_append, List.length_append, List.length_take, List.length_drop, List.length_cons, List.length_nil] at q
 omega
structure ApB (w : World) (b : Nat) (cv ce : Array Value) (n s q : Int) (vf : Value) (W : World) : Prop where
 hb : Below w.heap.size w W
 hv : W.heap[w.heap.size]? = some (.cells cv 32 (0, 0))
 he : W.heap[w.heap.size + 1]? = some (.cells ce 37 (0, 0))
 hr : W.heap[w.heap.size + 1 + 1]? = some (.cells #[.slice none 0 0, .int .i64 0, .int .i64 0, .int .i64 0] 32 (0, 0))
 ho : W.heap[b]? = some (.cells #[vf, .int .i64 n, .int .i64 s, .int .i64 q] 32 (0, 0))
 hs : w.heap.size + 1 + 1 < b
theorem ApB.below {w W W' : World} {b : Nat} {cv ce : Array Value} {n s q : Int} {vf : Value} (h : ApB w b cv ce n s q vf W) (hB : Below W.heap.size W W') : ApB w b cv ce n s q vf W' :=
 ⟨h.hb.trans (hB.mono h.hb.size), qb1 h.hv hB, qb1 h.he hB, qb1 h.hr hB, qb1 h.ho hB, h.hs⟩
theorem ApB.grown {w W W' : World} {b : Nat} {cv ce : Array Value} {n s q : Int} {vf v : Value} (h : ApB w b cv ce n s q vf W) (hB : Below w.heap.size w W') (hg : W.grownBy W' v.ownBlock) {base : Nat} {ok : Nat → Prop} {xs : List S66} (hx : Kd.R k66 66 W base ok v xs) : ApB w b cv ce n s q vf W' :=
 ⟨hB, blk_grown h.hv hg (Kd.R_ne hx h.hv (by decide)), blk_grown h.he hg (Kd.R_ne hx h.he (by decide)), blk_grown h.hr hg (Kd.R_ne hx h.hr (by decide)), blk_grown h.ho hg (Kd.R_ne hx h.ho (by decide)), h.hs⟩
theorem ApB.put {w W : World} {b : Nat} {cv ce : Array Value} {n s q : Int} {vf : Value} (h : ApB w b cv ce n s q vf W) (v : Value) : ApB w b cv ce n s q v (W.setCell ⟨b, 0, none⟩ v) :=
 ⟨qe h.hb (by have := h.hs; omega), qp h.hv (by have := h.hs; show _ ≠ b; omega) _, qp h.he (by have := h.hs; show _ ≠ b; omega) _, qp h.hr (by have := h.hs; show _ ≠ b; omega) _, qt h.ho 0 v rfl, h.hs⟩
theorem ApB.start {w w1 : World} {cv ce : Array Value} {n s q : Int} (hb : Below w.heap.size w w1) (hv : w1.heap[w.heap.size]? = some (.cells cv 32 (0, 0))) (he : w1.heap[w.heap.size + 1]? = some (.cells ce 37 (0, 0))) (hr : w1.heap[w.heap.size + 1 + 1]? = some (.cells #[.slice none 0 0, .int .i64 0, .int .i64 0, .int .i64 0] 32 (0, 0))) :
  ApB w (w1.heap.size + 1) cv ce n s q (.slice (some ⟨w1.heap.size, 0, none⟩) 0 0) ((w1.alloc (.cells #[] 66)).alloc (.cells #[.slice (some ⟨w1.heap.size, 0, none⟩) 0 0, .int .i64 n, .int .i64 s, .int .i64 q] 32)) ∧
  Kd.R k66 66 ((w1.alloc (.cells #[] 66)).alloc (.cells #[.slice (some ⟨w1.heap.size, 0, none⟩) 0 0, .int .i64 n, .int .i64 s, .int .i64 q] 32)) w.heap.size (fun _ => True) (.slice (some ⟨w1.heap.size, 0, none⟩) 0 0) [] := by
 have e1 : (w1.alloc (.cells #[] 66)).heap.size = w1.heap.size + 1 := by simp
 have l1 := qv hr
 exact ⟨⟨qh (qh hb _) _, qa (qa hv _) _, qa (qa he _) _, qa (qa hr _) _, by rw [← e1]; exact blk_new _ _, by omega⟩, Kd.R_alloc (R_emptyA _ _ w1 _ hb.size) _⟩
set_option maxHeartbeats 8000000 in
set_option maxRecDepth 100000 in
theorem spec_Apply.calls (k : Nat) (A0_0 : Option Addr) (c0_0 : Nat) (l0_0 : List (S66)) (a0_1 : Int) (a0_2 : Int) (a0_3 : Int) (A1_0 : Option Addr) (c1_0 : Nat) (l1_0 : List (S66)) (A1_1 : Option Addr) (c1_1 : Nat) (l1_1 : List Int) (a1_2 : Int) (a1_3 : Int) (a1_4 : Int) (r1 : List (S66)) (r2 : Int) (r3 : Int) (r4 : Int) (r5 : Bool) (w : World) (hr0_0 : Kd.C k66 w A0_0 l0_0.length l0_0) (hc0_0 : l0_0.length ≤ c0_0) (hr1_0 : Kd.C k66 w A1_0 l1_0.length l1_0) (hc1_0 : l1_0.length ≤ c1_0) (hr1_1 : Kd.C (Kd.int .i64) w A1_1 l1_1.length l1_1) (hc1_1 : l1_1.length ≤ c1_1) (h : spec_Apply.f k l0_0 a0_1 a0_2 a0_3 l1_0 l1_1 a1_2 a1_3 a1_4 = some (r1, r2, r3, r4, r5)) :
  Calls Try.prog 17 #[.agg #[.slice A0_0 l0_0.length c0_0, .int .i64 a0_1, .int .i64 a0_2, .int .i64 a0_3], .agg #[.slice A1_0 l1_0.length c1_0, .slice A1_1 l1_1.length c1_1, .int .i64 a1_2, .int .i64 a1_3, .int .i64 a1_4]] w fun e w' => ∃ v0_ : Value, e = .returned (.tuple #[.agg #[v0_, .int .i64 r2, .int .i64 r3, .int .i64 r4], .bool r5]) ∧ Kd.R k66 66 w' w.heap.size (fun _ => True) v0_ r1 ∧ Below w.heap.size w w' := by
 have hu30 := Try.underlying30
 have hu32 := Try.underlying32
 have hu37 := Try.underlying37
 have hu66 := Try.underlying66
 have mixed : Try.prog.follows .mixedOrders = true := by kernel_rfl
 have H00 := Qz.mk hr0_0
 have H10 := Qz.mk hr1_0
 have H11 := Qz.mk hr1_1
 have C00 := Qz.mk hc0_0
 have hl0 := Kd.C_max hr0_0
 have hl1 := Kd.C_max hr1_0
 have hl2 := Kd.C_max hr1_1
 clear hr0_0 hr1_0 hr1_1 hc0_0 hc1_0 hc1_1
 have hf : ∀ W' : World, W'.heap[w.heap.size + 1 + 1]? = some (.cells #[.slice none 0 0, .int .i64 0, .int .i64 0, .int .i64 0] 32 (0, 0)) → Below w.heap.size w W' → ∀ tmps : Array Value, tmps.getD 4 undef = .pointer (some ⟨w.heap.size + 1 + 1, 0, none⟩) → tmps.getD 5 undef = .bool false → (r1, r2, r3, r4, r5) = (([] : List S66), (0 : Int), (0 : Int), (0 : Int), false) →
   bodyPost Try.prog Try.f17 (fun e w' => ∃ v0_ : Value, e = .returned (.tuple #[.agg #[v0_, .int .i64 r2, .int .i64 r3, .int .i64 r4], .bool r5]) ∧ Kd.R k66 66 w' w.heap.size (fun _ => True) v0_ r1 ∧ Below w.heap.size w w') Exit.ret ⟨tmps, []⟩ W' := by
  intro W' hb hB tmps h4 h5 hr
  simp only [Prod.mk.injEq] at hr
  obtain ⟨rfl, rfl, rfl, rfl, rfl⟩ := hr
  refine bodyPost_ret (results_ct rfl _ _ (w.heap.size + 1 + 1) 32 _ (0, 0) _ h4 hb Try.underlying32 rfl (by kernel_rfl)) rfl ?_
  rw [h5]
  exact ⟨_, rfl, Kd.R_nil _ _ _ _ _, hB⟩
 have HF := Qz.mk hf
 clear hf
 unfold spec_Apply.f at h
 replace h := Option.bind_eq_some_iff.mp h
 obtain ⟨t, A1_, h⟩ := h
 have A1 := Qz.mk A1_
 have HH := Qz.mk h
 clear A1_ h
 go_enter Try.func17, Try.ntmps17
 go_wp2_with fail
 have h3 := threeA w (.cells #[.slice A0_0 l0_0.length c0_0, .int .i64 a0_1, .int .i64 a0_2, .int .i64 a0_3] 32) (.cells #[.slice A1_0 l1_0.length c1_0, .slice A1_1 l1_1.length c1_1, .int .i64 a1_2, .int .i64 a1_3, .int .i64 a1_4] 37) (.cells #[.slice none 0 0, .int .i64 0, .int .i64 0, .int .i64 0] 32)
 generalize ((w.alloc (.cells #[.slice A0_0 l0_0.length c0_0, .int .i64 a0_1, .int .i64 a0_2, .int .i64 a0_3] 32)).alloc (.cells #[.slice A1_0 l1_0.length c1_0, .slice A1_1 l1_1.length c1_1, .int .i64 a1_2, .int .i64 a1_3, .int .i64 a1_4] 37)).alloc (.cells #[.slice none 0 0, .int .i64 0, .int .i64 0, .int .i64 0] 32) = W0 at h3 ⊢
 (with_reducible refine (spec_VersionOk.calls k A0_0 c0_0 l0_0 a0_1 a0_2 a0_3 t W0 (Kd.C_below H00.out h3.1) C00.out A1.out).mono ?_)
 rintro e w1 ⟨rfl, hb1⟩
 have BV := Qz.mk (qb1 h3.2.1 hb1)
 have BE := Qz.mk (qb1 h3.2.2.1 hb1)
 have BR := Qz.mk (qb1 h3.2.2.2.1 hb1)
 have HB := Qz.mk (h3.1.trans (hb1.mono h3.1.size))
 clear h3 hb1 A1
 have hq0 := (qd BR.out 0).trans rfl
 have hq1 := (qd BR.out 1).trans rfl
 have hq2 := (qd BR.out 2).trans rfl
 have hq3 := (qd BR.out 3).trans rfl
 have hf0 := qf BR.out 0
 have hf1 := qf BR.out 1
 have hf2 := qf BR.out 2
 have hf3 := qf BR.out 3
 have hv1 := (qd BV.out 1).trans rfl
 have hv2 := (qd BV.out 2).trans rfl
 have hv3 := (qd BV.out 3).trans rfl
 have he0 := (qd BE.out 0).trans rfl
 have he2 := (qd BE.out 2).trans rfl
 have he3 := (qd BE.out 3).trans rfl
 have he4 := (qd BE.out 4).trans rfl
 cases t with
 | false =>
  have hr := apT _ _ _ _ _ _ _ _ _ _ _ (show spec_Apply.j0 k true l0_0 a0_1 a0_2 a0_3 l1_0 l1_1 a1_2 a1_3 a1_4 = _ from HH.out)
  have HH := Qz.mk hr
  clear hr
  go_wp2
  exact HF.out _ (putA BR.out) (belowA HB.out (by omega)) _ rfl rfl HH.out
 | true =>
 have h := HH.out
 clear HH
 simp only [if_true] at h
 by_cases z1 : a1_2 < a0_1
 ·have z1b : decide (a1_2 < a0_1) = true := decide_eq_true z1
  rw [if_pos z1] at h
  have HH := Qz.mk (apT _ _ _ _ _ _ _ _ _ _ _ h)
  clear h z1
  go_wp2
  exact HF.out _ (putA BR.out) (belowA HB.out (by omega)) _ rfl rfl HH.out
 have z1b : decide (a1_2 < a0_1) = false := decide_eq_false z1
 rw [if_neg z1] at h
 by_cases z2 : a1_3 < a0_2
 ·have z2b : decide (a1_3 < a0_2) = true := decide_eq_true z2
  rw [if_pos z2] at h
  have HH := Qz.mk (apT _ _ _ _ _ _ _ _ _ _ _ h)
  clear h z1 z2
  go_wp2
  exact HF.out _ (putA BR.out) (belowA HB.out (by omega)) _ rfl rfl HH.out
 have z2b : decide (a1_3 < a0_2) = false := decide_eq_false z2
 rw [if_neg z2] at h
 by_cases z3 : a1_4 < a0_3
 ·have z3b : decide (a1_4 < a0_3) = true := decide_eq_true z3
  rw [if_pos z3] at h
  have HH := Qz.mk (apT _ _ _ _ _ _ _ _ _ _ _ h)
  clear h z1 z2 z3
  go_wp2
  exact HF.out _ (putA BR.out) (belowA HB.out (by omega)) _ rfl rfl HH.out
 have z3b : decide (a1_4 < a0_3) = false := decide_eq_false z3
 rw [if_neg z3] at h
 by_cases z4 : (l1_0.length : Int) > 30
 ·have z4b : decide ((30 : Int) < (l1_0.length : Int)) = true := decide_eq_true z4
  rw [decide_eq_true z4] at h
  have HH := Qz.mk (apT _ _ _ _ _ _ _ _ _ _ _ h)
  clear h z1 z2 z3
  go_wp2
  exact HF.out _ (putA BR.out) (belowA HB.out (by omega)) _ rfl rfl HH.out
 have z4b : decide ((30 : Int) < (l1_0.length : Int)) = false := decide_eq_false z4
 rw [decide_eq_false z4] at h
 replace h := apN _ _ _ _ _ _ _ _ _ _ _ h
 obtain ⟨k2, h⟩ := h
 have HH := Qz.mk h
 have hlt1 := Nat.lt_succ_of_lt (qv BR.out)
 have HS := Qz.mk (ApB.start (n := a1_2) (s := a1_3) (q := a1_4) HB.out BV.out BE.out BR.out)
 clear h z1 z2 z3
 go_wp2
 have hbb : w.heap.size + 1 + 1 < w1.heap.size + 1 := hlt1
 generalize w1.heap.size + 1 = b at HS hbb ⊢
 go_loopg [7, 8] k2 (fun kq v7 v8 wr => ∃ (x7 : Int) (i : Nat) (m : List S66) (vf : Value), v7 = .int .i64 x7 ∧ v8 = .int .i64 i ∧ Qz (spec_Apply.l0 kq x7 i l0_0 a0_1 a0_2 a0_3 l1_0 l1_1 a1_2 a1_3 a1_4 m a1_2 a1_3 a1_4 = some (r1, r2, r3, r4, r5)) ∧ i ≤ l0_0.length ∧ Qz (kq ≤ k2) ∧ Qz (ApB w b #[.slice A0_0 l0_0.length c0_0, .int .i64 a0_1, .int .i64 a0_2, .int .i64 a0_3] #[.slice A1_0 l1_0.length c1_0, .slice A1_1 l1_1.length c1_1, .int .i64 a1_2, .int .i64 a1_3, .int .i64 a1_4] a1_2 a1_3 a1_4 vf wr) ∧ Qz (Kd.R k66 66 wr w.heap.size (fun _ => True) vf m))
 case atStart => exact ⟨0, 0, [], _, rfl, rfl, HH, Nat.zero_le _, ⟨Nat.le_refl _⟩, ⟨HS.out.1⟩, ⟨HS.out.2⟩⟩
 case round =>
  clear HH HS HB BV BE BR hq0 hq1 hq2 hq3 hf0 hf1 hf2 hf3 hv1 hv2 hv3 he0 he2 he3 he4 z1b z2b z3b z4b
  obtain ⟨x7, i, m, vf, rfl, rfl, HA, hil, HK, HP, HM⟩ := hrel
  cases gk with
  | zero => exact absurd HA.out (by simp [spec_Apply.l0])
  | succ k1 =>
  have H := HA.out
  clear HA
  simp only [spec_Apply.l0] at H
  obtain ⟨Af, cf, ef⟩ := Kd.R_slice HM.out
  subst ef
  have hv0 := (qd HP.out.hv 0).trans rfl
  have he0 := (qd HP.out.he 0).trans rfl
  have he1 := (qd HP.out.he 1).trans rfl
  have ho0 := (qd HP.out.ho 0).trans rfl
  by_cases c : (i : Int) < (l0_0.length : Int)
  ·rw [if_pos c] at H
   have cb : decide ((i : Int) < (l0_0.length : Int)) = true := decide_eq_true c
   have HH := Qz.mk H
   clear H
   go_wp2
   go_loopg [9, 10] k1 (fun kq v9 v10 w2 => ∃ (bb : Bool) (j : Nat), v9 = .bool bb ∧ v10 = .int .i64 j ∧ Qz (spec_Apply.l1 kq x7 i bb j l0_0 a0_1 a0_2 a0_3 l1_0 l1_1 a1_2 a1_3 a1_4 m a1_2 a1_3 a1_4 = some (r1, r2, r3, r4, r5)) ∧ j ≤ l1_1.length ∧ Qz (kq ≤ k1) ∧ Qz (ApB w b #[.slice A0_0 l0_0.length c0_0, .int .i64 a0_1, .int .i64 a0_2, .int .i64 a0_3] #[.slice A1_0 l1_0.length c1_0, .slice A1_1 l1_1.length c1_1, .int .i64 a1_2, .int .i64 a1_3, .int .i64 a1_4] a1_2 a1_3 a1_4 (.slice Af m.length cf) w2) ∧ Qz (Kd.R k66 66 w2 w.heap.size (fun _ => True) (.slice Af m.length cf) m))
   case atStart => exact ⟨false, 0, rfl, rfl, HH, Nat.zero_le _, ⟨Nat.le_refl _⟩, HP, HM⟩
   case round =>
    clear HH HP HM hv0 he0 he1 ho0
    rename World => wr
    obtain ⟨bb, j, rfl, rfl, HA, hjl, HK1, HP, HM⟩ := hrel
    cases gk with
    | zero => exact absurd HA.out (by simp [spec_Apply.l1])
    | succ k3 =>
    have H := HA.out
    clear HA
    simp only [spec_Apply.l1] at H
    have hv0 := (qd HP.out.hv 0).trans rfl
    have he1 := (qd HP.out.he 1).trans rfl
    have ho0 := (qd HP.out.ho 0).trans rfl
    by_cases cj : (j : Int) < (l1_1.length : Int)
    ·rw [if_pos cj] at H
     have cjb : decide ((j : Int) < (l1_1.length : Int)) = true := decide_eq_true cj
     have hw2 : wrap64 ((j : Int) + 1) = ((j + 1 : Nat) : Int) := by unfold wrap64; omega
     cases bb
     case' true =>
      rw [if_pos rfl, hw2] at H
      have HH := Qz.mk H
      clear H
      go_wp2
      refine wp_region_quietX (by assumption) (by kernel_rfl) ?_
      iterate 2 (with_reducible refine wpQuiet_want ?want_ (fun K hK => ?_); (case want_ => kernel_rfl); go_simp; with_reducible refine hK _ ?_; clear hK K)
      iterate 12 (with_reducible refine wpQuiet_skip ?skip_ (fun K hK => ?_); (case skip_ => kernel_rfl); go_simp; with_reducible refine hK _ ?_; clear hK K)
      iterate 2 (with_reducible refine wpQuiet_want ?want_ (fun K hK => ?_); (case want_ => kernel_rfl); go_simp; with_reducible refine hK _ ?_; clear hK K)
     case' false =>
      rw [if_neg (by decide), if_pos (by omega), if_pos (by omega), if_pos c, hw2] at H
      obtain ⟨adx, e, h0, _⟩ := at_T66 H00.out (i : Int) (by omega) c
      cases e
      obtain ⟨adn, cc, ead, _, hKn, hc0⟩ := Kd.C_get H11.out (0 : Int) (j : Int) (by omega) cj
      obtain rfl : cc = [.int .i64 (l1_1.getD (j : Int).toNat 0)] := hKn
      have hxi := hc0 0 _ rfl
      cases ead
      rw [show (Kd.int .i64).sz = 1 from rfl, Nat.mul_one, Nat.add_zero, Int.toNat_natCast] at hxi
      rw [Int.toNat_natCast] at h0
      replace hxi := (HP.out.hb.cell (World.block_lt_of_cell? w _ hxi)).trans hxi
      replace h0 := (HP.out.hb.cell (World.block_lt_of_cell? w _ h0)).trans h0
      have hrd : rd l1_1 (j : Int) = l1_1.getD j 0 := by unfold rd; rw [Int.toNat_natCast]
      rw [hrd] at H
      generalize l1_1.getD j 0 = nn at hxi H
      generalize qa1 l0_0 (i : Int) = x at h0 H
      obtain ⟨bq, hbq⟩ : ∃ bq, (nn == x.f0) = bq := ⟨_, rfl⟩
      have hbd : decide (nn = x.f0) = bq := by rw [← hbq]; rfl
      rw [hbq] at H
      have HH := Qz.mk H
      clear H hc0 hrd
      have hv0' := cellX hv0
      have he1' := cellX he1
      have hxi' := cellX hxi
      have h0' := cellX h0
      go_wp2
      refine wp_region_quietX (by assumption) (by kernel_rfl) ?_
      iterate 16 (with_reducible refine wpQuiet_want ?want_ (fun K hK => ?_); (case want_ => kernel_rfl); go_simp; with_reducible refine hK _ ?_; clear hK K)
     all_goals
      refine wpQuiet_nil ?_
      intro _ hw_
      obtain ⟨⟨tq, osq⟩, hw_⟩ := hw_
      subst hw_
      have HP2 := Qz.mk (HP.out.below (below_grow wr tq osq))
      have HM2 := Qz.mk (Kd.R_below HM.out (below_grow wr tq osq))
      generalize grow (atD wr tq) osq = W2 at HP2 HM2 ⊢
      go_wp2
      go_roundg k3
      case measure => exact Nat.lt_succ_self _
      case rel => exact ⟨_, j + 1, rfl, congrArg (Value.int .i64) (by first | rfl | exact hw2 | omega), HH, by omega, ⟨by have := HK1.out; omega⟩, HP2, HM2⟩
    ·rw [if_neg cj] at H
     have cjb : decide ((j : Int) < (l1_1.length : Int)) = false := decide_eq_false cj
     have hw2 : wrap64 ((i : Int) + 1) = ((i + 1 : Nat) : Int) := by unfold wrap64; omega
     cases bb with
     | true =>
      rw [if_pos rfl, hw2] at H
      have HH := Qz.mk H
      clear H
      go_wp2
      go_roundg k3
      case measure => have := HK1.out; omega
      case rel => exact ⟨_, i + 1, m, _, rfl, congrArg (Value.int .i64) (by first | rfl | exact hw2 | omega), HH, by omega, ⟨by have := HK.out; have := HK1.out; omega⟩, HP, HM⟩
     | false =>
      rw [if_neg (by decide), if_pos (by omega), if_pos c, hw2] at H
      split at H
      case isFalse => cases H
      rename_i hlm
      obtain ⟨adx, e, h0, h1, h2, h3, h4⟩ := at_T66 H00.out (i : Int) (by omega) c
      cases e
      rw [Int.toNat_natCast] at h0 h1 h2 h3 h4
      replace h0 := (HP.out.hb.cell (World.block_lt_of_cell? w _ h0)).trans h0
      replace h1 := (HP.out.hb.cell (World.block_lt_of_cell? w _ h1)).trans h1
      replace h2 := (HP.out.hb.cell (World.block_lt_of_cell? w _ h2)).trans h2
      replace h3 := (HP.out.hb.cell (World.block_lt_of_cell? w _ h3)).trans h3
      replace h4 := (HP.out.hb.cell (World.block_lt_of_cell? w _ h4)).trans h4
      generalize qa1 l0_0 (i : Int) = x at h0 h1 h2 h3 h4 H
      have HH := Qz.mk H
      clear H
      have a0' : ∀ o, (wr.alloc o).cell? ⟨b, 0, none⟩ = some (.slice Af m.length cf) := fun o => (qd (qa HP.out.ho o) 0).trans rfl
      go_wp2_with fail
      go_region_law ((rw [show (wr.alloc (.cells #[.int .i64 x.f0, .int .i64 x.f1, .string x.f2, .string x.f3, .int .i64 x.f4] 66)).drew = wr.drew.alloc (.cells #[.int .i64 x.f0, .int .i64 x.f1, .string x.f2, .string x.f3, .int .i64 x.f4] 66) from rfl]); refine Kd.R_append_step k66 (w0 := w) w.heap.size (by rfl) (.tmp 86) (.tmp 92) 30 66 (.agg #[.int .i64 0, .int .i64 0, .string ⟨#[]⟩, .string ⟨#[]⟩, .int .i64 0]) 56 (by rfl) hu30 info66 (by rfl) (by decide) (by omega) (.slice Af m.length cf) m x [.int .i64 x.f0, .int .i64 x.f1, .string x.f2, .string x.f3, .int .i64 x.f4] (fun _ => True) (fun _ => False) (by rfl) (by rfl) ?aP (fun _ hk => hk.elim) ?aF ?aO ?aB ?aS ?aL ?_; (case aP => exact k66_mkM _ _ _ x); (case aF => exact fun _ _ => trivial); (case aO => exact Kd.R_drew HM.out); (case aB => exact below_drew HP.out.hb); (case aS => exact (below_drew HP.out.hb).size); (case aL => omega); intro v1 W1 ho hb hg hat; obtain ⟨Ao, co, eo⟩ := Kd.R_slice ho; subst eo; rw [show (m ++ [x]).length = m.length + 1 from by simp] at ho; have HP1 := Qz.mk (ApB.grown (HP.out.below (below_drew (Below.refl _ wr))) hb hg (Kd.R_drew HM.out)); have HM1 := Qz.mk ho; have hs0 : W1.cell? ⟨b, 0, none⟩ = some (.slice Af m.length cf) := (qd HP1.out.ho 0).trans rfl; have hs1 : W1.frozen? ⟨b, 0, none⟩ = false := qf HP1.out.ho 0; clear ho hb hg hat)
      all_goals go_wp2
      all_goals go_roundg k3
      all_goals first
       | (have := HK1.out; omega)
       | exact ⟨_, i + 1, _, _, rfl, congrArg (Value.int .i64) (by first | rfl | exact hw2 | omega), HH, by omega, ⟨by have := HK.out; have := HK1.out; omega⟩, ⟨HP1.out.put _⟩, ⟨Kd.R_set HM1.out HP1.out.ho (by decide) 0 _⟩⟩
  ·rw [if_neg c] at H
   have cb : decide ((i : Int) < (l0_0.length : Int)) = false := decide_eq_false c
   by_cases ce : x7 = (l1_1.length : Int)
   case neg =>
    rw [if_neg ce] at H
    have ceb : (x7 == (l1_1.length : Int)) = false := beq_eq_false_iff_ne.2 ce
    have ced : decide (x7 = (l1_1.length : Int)) = false := decide_eq_false ce
    have HH := Qz.mk (Option.some.inj H).symm
    clear H
    have hq0 := (qd HP.out.hr 0).trans rfl
    have hq1 := (qd HP.out.hr 1).trans rfl
    have hq2 := (qd HP.out.hr 2).trans rfl
    have hq3 := (qd HP.out.hr 3).trans rfl
    have hf0 := qf HP.out.hr 0
    have hf1 := qf HP.out.hr 1
    have hf2 := qf HP.out.hr 2
    have hf3 := qf HP.out.hr 3
    go_wp2
    exact HF.out _ (putA HP.out.hr) (belowA HP.out.hb (by omega)) _ rfl rfl HH.out
   rw [if_pos ce] at H
   subst ce
   have HH := Qz.mk H
   clear H
   go_wp2
   go_loopg [11] k1 (fun kq v11 wr => ∃ (i : Nat) (m : List S66) (vf : Value), v11 = .int .i64 i ∧ Qz (spec_Apply.l2 kq i l1_0 l1_1 a1_2 a1_3 a1_4 m a1_2 a1_3 a1_4 = some (r1, r2, r3, r4, r5)) ∧ i ≤ l1_0.length ∧ Qz (kq ≤ k1) ∧ Qz (ApB w b #[.slice A0_0 l0_0.length c0_0, .int .i64 a0_1, .int .i64 a0_2, .int .i64 a0_3] #[.slice A1_0 l1_0.length c1_0, .slice A1_1 l1_1.length c1_1, .int .i64 a1_2, .int .i64 a1_3, .int .i64 a1_4] a1_2 a1_3 a1_4 vf wr) ∧ Qz (Kd.R k66 66 wr w.heap.size (fun _ => True) vf m))
   case atStart => exact ⟨0, m, _, rfl, HH, Nat.zero_le _, ⟨Nat.le_refl _⟩, HP, HM⟩
   case round =>
    clear HH HP HM hv0 he0 he1 ho0 cb
    rename World => wr
    obtain ⟨i, m, vf, rfl, HA, hil, HK1, HP, HM⟩ := hrel
    cases gk with
    | zero => exact absurd HA.out (by simp [spec_Apply.l2])
    | succ k3 =>
    have H := HA.out
    clear HA
    simp only [spec_Apply.l2] at H
    obtain ⟨Af, cf, ef⟩ := Kd.R_slice HM.out
    subst ef
    obtain ⟨_, hmc, hC⟩ := Kd.R_reads' HM.out
    have hml := Kd.C_max hC
    have HC := Qz.mk hC
    clear hC
    have he0 := (qd HP.out.he 0).trans rfl
    have ho0 := (qd HP.out.ho 0).trans rfl
    by_cases c : (i : Int) < (l1_0.length : Int)
    ·rw [if_pos c] at H
     have cb : decide ((i : Int) < (l1_0.length : Int)) = true := decide_eq_true c
     have HH := Qz.mk H
     clear H
     go_wp2
     go_loopg [12] k3 (fun kq v12 w2 => ∃ (j : Nat), v12 = .int .i64 j ∧ Qz (spec_Apply.l3 kq i j l1_0 l1_1 a1_2 a1_3 a1_4 m a1_2 a1_3 a1_4 = some (r1, r2, r3, r4, r5)) ∧ j ≤ m.length ∧ Qz (kq ≤ k3) ∧ Qz (ApB w b #[.slice A0_0 l0_0.length c0_0, .int .i64 a0_1, .int .i64 a0_2, .int .i64 a0_3] #[.slice A1_0 l1_0.length c1_0, .slice A1_1 l1_1.length c1_1, .int .i64 a1_2, .int .i64 a1_3, .int .i64 a1_4] a1_2 a1_3 a1_4 (.slice Af m.length cf) w2) ∧ Qz (Kd.R k66 66 w2 w.heap.size (fun _ => True) (.slice Af m.length cf) m))
     case atStart => exact ⟨0, rfl, HH, Nat.zero_le _, ⟨Nat.le_refl _⟩, HP, HM⟩
     case round =>
      clear HH HP HM HC he0 ho0
      rename World => wr
      obtain ⟨j, rfl, HA, hjl, HK2, HP, HM⟩ := hrel
      cases gk with
      | zero => exact absurd HA.out (by simp [spec_Apply.l3])
      | succ k4 =>
      have H := HA.out
      clear HA
      simp only [spec_Apply.l3] at H
      obtain ⟨_, hmc, hC⟩ := Kd.R_reads' HM.out
      have hml := Kd.C_max hC
      have HC := Qz.mk hC
      clear hC
      have he0 := (qd HP.out.he 0).trans rfl
      have ho0 := (qd HP.out.ho 0).trans rfl
      have he0' := cellX he0
      have ho0' := cellX ho0
      obtain ⟨adx, e, h0, h1, h2, h3, h4⟩ := at_T66 H10.out (i : Int) (by omega) c
      cases e
      rw [Int.toNat_natCast] at h0 h1 h2 h3 h4
      generalize qa1 l1_0 (i : Int) = x at h0 h1 h2 h3 h4 H
      have HXI : Qz (wrap64 ((i : Int) + 1) = ((i + 1 : Nat) : Int)) := ⟨by unfold wrap64; omega⟩
      by_cases cj : (j : Int) < (m.length : Int)
      case' pos =>
       replace H := (if_pos cj).symm.trans H
       replace H := (ite_some H).2
       replace H := (ite_some H).2
       replace H := (ite_some H).2
       have HW : Qz (wrap64 ((j : Int) + 1) = ((j + 1 : Nat) : Int)) := ⟨by clear H; unfold wrap64; omega⟩
       have cjn : decide (j < m.length) = true := decide_eq_true (Int.ofNat_lt.1 cj)
       have hj0 : (0 : Int) ≤ (j : Int) := Int.natCast_nonneg j
       have hi0 : (0 : Int) ≤ (i : Int) := Int.natCast_nonneg i
       have cjb : decide ((j : Int) < (m.length : Int)) = true := decide_eq_true cj
       replace H := Option.bind_eq_some_iff.mp H
       obtain ⟨t118, A5_, H⟩ := H
       have A5 := Qz.mk A5_
       clear A5_
       have g0 := (HP.out.hb.cell (World.block_lt_of_cell? w _ h0)).trans h0
       have g1 := (HP.out.hb.cell (World.block_lt_of_cell? w _ h1)).trans h1
       have g2 := (HP.out.hb.cell (World.block_lt_of_cell? w _ h2)).trans h2
       have g3 := (HP.out.hb.cell (World.block_lt_of_cell? w _ h3)).trans h3
       have g4 := (HP.out.hb.cell (World.block_lt_of_cell? w _ h4)).trans h4
       obtain ⟨ady, e, y0, y1, y2, y3, y4⟩ := at_T66 HC.out (j : Int) (by omega) cj
       subst e
       rw [Int.toNat_natCast] at y0 y1 y2 y3 y4
       generalize qa1 m (j : Int) = y at y0 y1 y2 y3 y4 A5
       have ha : ∀ t os, Calls Try.prog 56 #[.agg #[.int .i64 y.f0, .int .i64 y.f1, .string y.f2, .string y.f3, .int .i64 y.f4], .agg #[.int .i64 x.f0, .int .i64 x.f1, .string x.f2, .string x.f3, .int .i64 x.f4]] (grow (atD wr t) os) fun e w' => e = .returned (.bool t118) ∧ ∃ t' os', w' = grow (atD (grow (atD wr t) os) t') os' := fun t os => (spec_l12Ahead.calls y.f0 y.f1 y.f2 y.f3 y.f4 x.f0 x.f1 x.f2 x.f3 x.f4 t118 (grow (atD wr t) os) A5.out).mono fun _ _ h => ⟨h.1, grownX_of_below h.2⟩
       have g0' := cellX g0
       have g1' := cellX g1
       have g2' := cellX g2
       have g3' := cellX g3
       have g4' := cellX g4
       have y0' := cellX y0
       have y1' := cellX y1
       have y2' := cellX y2
       have y3' := cellX y3
       have y4' := cellX y4
       cases t118
       case true =>
        replace H := (if_pos (show true = true from rfl)).symm.trans H
        rw [HW.out] at H
        have HH := Qz.mk H
        clear H
        go_wp2
        refine wp_region_quietX (by assumption) (by kernel_rfl) ?_
        iterate 18 (with_reducible refine wpQuiet_want ?want_ (fun K hK => ?_); (case want_ => kernel_rfl); go_simp; (first | (with_reducible refine hK _ ?_; clear hK K) | (apply Exists.intro; refine ⟨fun _ => ?_, hK _ ?_⟩; (go_at_call 56; (with_reducible refine callsX_of (ha _ _))); clear hK K)))
        refine wpQuiet_nil ?_
        intro _ hw_
        obtain ⟨⟨tq, osq⟩, hw_⟩ := hw_
        subst hw_
        have HP2 := Qz.mk (HP.out.below (below_grow wr tq osq))
        have HM2 := Qz.mk (Kd.R_below HM.out (below_grow wr tq osq))
        generalize grow (atD wr tq) osq = W2 at HP2 HM2 ⊢
        clear ha g0 g1 g2 g3 g4 g0' g1' g2' g3' g4' y0 y1 y2 y3 y4 y0' y1' y2' y3' y4' A5 he0 ho0 he0' ho0' h0 h1 h2 h3 h4 HC
        go_wp2
        go_roundg k4
        case measure => exact Nat.lt_succ_self _
        case rel => exact ⟨j + 1, congrArg (Value.int .i64) (by first | rfl | exact HW.out | omega), HH, by omega, ⟨by have := HK2.out; omega⟩, HP2, HM2⟩
       replace H := (if_neg (show ¬ false = true by decide)).symm.trans H
       simp only [Option.bind_some] at H
       replace H := (ite_some H).2
       replace H := (ite_some H).2
       replace H := (ite_some H).2
       have q := (ite_some H).1
       replace H := (ite_some H).2
       have HL : Qz (m.length + 1 < 2513169434916) := ⟨lenA m _ j hjl q⟩
       have H2 : Qz (spec_Apply.l2 k4 ((i + 1 : Nat) : Int) l1_0 l1_1 a1_2 a1_3 a1_4 ([] ++ m.take j ++ [(⟨x.f0, x.f1, x.f2, x.f3, x.f4⟩ : S66)] ++ m.drop j) a1_2 a1_3 a1_4 = some (r1, r2, r3, r4, r5)) := ⟨by rw [← HXI.out]; exact H⟩
       clear H q
       go_wp2
       refine wp_region_quietX (by assumption) (by kernel_rfl) ?_
       iterate 18 (with_reducible refine wpQuiet_want ?want_ (fun K hK => ?_); (case want_ => kernel_rfl); go_simp; (first | (with_reducible refine hK _ ?_; clear hK K) | (apply Exists.intro; refine ⟨fun _ => ?_, hK _ ?_⟩; (go_at_call 56; (with_reducible refine callsX_of (ha _ _))); clear hK K)))
       clear ha g0 g1 g2 g3 g4 g0' g1' g2' g3' g4' y0 y1 y2 y3 y4 y0' y1' y2' y3' y4' A5 he0 ho0 he0' ho0'
      case' neg =>
       replace H := (if_neg cj).symm.trans H
       have cjb : decide ((j : Int) < (m.length : Int)) = false := decide_eq_false cj
       have cjn : decide (j < m.length) = false := decide_eq_false (fun h => cj (Int.ofNat_lt.2 h))
       simp only [Option.bind_some] at H
       replace H := (ite_some H).2
       replace H := (ite_some H).2
       replace H := (ite_some H).2
       replace H := (ite_some H).2
       replace H := (ite_some H).2
       replace H := (ite_some H).2
       have q := (ite_some H).1
       replace H := (ite_some H).2
       have HL : Qz (m.length + 1 < 2513169434916) := ⟨lenA m _ j hjl q⟩
       have H2 : Qz (spec_Apply.l2 k4 ((i + 1 : Nat) : Int) l1_0 l1_1 a1_2 a1_3 a1_4 ([] ++ m.take j ++ [(⟨x.f0, x.f1, x.f2, x.f3, x.f4⟩ : S66)] ++ m.drop j) a1_2 a1_3 a1_4 = some (r1, r2, r3, r4, r5)) := ⟨by rw [← HXI.out]; exact H⟩
       clear H q
       go_wp2
       refine wp_region_quietX (by assumption) (by kernel_rfl) ?_
       iterate 6 (with_reducible refine wpQuiet_want ?want_ (fun K hK => ?_); (case want_ => kernel_rfl); go_simp; with_reducible refine hK _ ?_; clear hK K)
       iterate 11 (with_reducible refine wpQuiet_skip ?skip_ (fun K hK => ?_); (case skip_ => kernel_rfl); go_simp; with_reducible refine hK _ ?_; clear hK K)
       (with_reducible refine wpQuiet_want ?want_ (fun K hK => ?_); (case want_ => kernel_rfl); go_simp; with_reducible refine hK _ ?_; clear hK K)
       clear he0 ho0 he0' ho0'
      all_goals
       refine wpQuiet_nil ?_
       intro _ hw_
       obtain ⟨⟨tq, osq⟩, hw_⟩ := hw_
       subst hw_
       have HP2 := Qz.mk (HP.out.below (below_grow wr tq osq))
       have HM2 := Qz.mk (Kd.R_below HM.out (below_grow wr tq osq))
       have HC2 := Qz.mk (Kd.C_below HC.out (below_grow wr tq osq))
       generalize grow (atD wr tq) osq = W2 at HP2 HM2 HC2 ⊢
       have HT := Qz.mk (show Kd.C k66 W2 _ j (m.take j) from by have hq := Kd.C_take HC2.out hjl; rw [List.length_take, Nat.min_eq_left hjl] at hq; exact hq)
       have hs0 := fun o => (qd (qa HP2.out.ho o) 0).trans rfl
       have hjc : (j : Int) ≤ (cf : Int) := by omega
       have hjm : (j : Int) ≤ (m.length : Int) := by omega
       rcases Classical.em (cf = j) with hcj | hcj
       all_goals (try (exfalso; omega))
       all_goals
        go_wp2_with (first
         | ((with_reducible refine gate_builtin (b := .append) (xs := #[.tmp 128, .tmp 132]) rfl ?_); at_builtin; refine Kd.R_append_rows k66 (w0 := W2) W2.heap.size rfl (.tmp 128) (.tmp 132) 30 66 (.agg #[.int .i64 0, .int .i64 0, .string ⟨#[]⟩, .string ⟨#[]⟩, .int .i64 0]) 56 rfl hu30 info66 rfl (by decide) (by omega) (.slice (some ⟨W2.heap.size, 0, none⟩) 0 0) [] (m.take j) _ _ _ (fun _ => True) (fun _ => False) rfl rfl ?aO ?aR (fun _ _ h => h) (fun _ h => h.elim) ?aF ?aB ?aS ?aL ?_; (case aO => exact R_emptyA _ _ W2 _ (Nat.le_refl _)); (case aR => exact Kd.C_below HT.out ((Below.refl _ W2).alloc (Nat.le_refl _) _)); (case aF => exact fun _ _ => trivial); (case aB => exact (Below.refl _ W2).alloc (Nat.le_refl _) _); (case aS => exact ((Below.refl _ W2).alloc (Nat.le_refl _) _).size); (case aL => have := HL.out; simp only [List.length_nil]; omega); intro v3 W3 ho3 hb3 hg3 hat3; have HR3 := Qz.mk ho3; have HB3 := Qz.mk hb3; have HP3 := Qz.mk (HP2.out.below hb3); clear ho3 hb3 hg3 hat3 hs0; have q0 := (qd HP3.out.he 0).trans rfl; have g0 := (HP3.out.hb.cell (World.block_lt_of_cell? w _ h0)).trans h0; have g1 := (HP3.out.hb.cell (World.block_lt_of_cell? w _ h1)).trans h1; have g2 := (HP3.out.hb.cell (World.block_lt_of_cell? w _ h2)).trans h2; have g3 := (HP3.out.hb.cell (World.block_lt_of_cell? w _ h3)).trans h3; have g4 := (HP3.out.hb.cell (World.block_lt_of_cell? w _ h4)).trans h4)
         | ((with_reducible refine gate_builtin (b := .append) (xs := #[.tmp 134, .tmp 140]) rfl ?_); at_builtin; refine Kd.R_append k66 (w0 := W2) W2.heap.size (by rfl) (.tmp 134) (.tmp 140) 30 66 (.agg #[.int .i64 0, .int .i64 0, .string ⟨#[]⟩, .string ⟨#[]⟩, .int .i64 0]) 56 (by rfl) hu30 info66 (by rfl) (by decide) (by omega) v3 ([] ++ m.take j) (⟨x.f0, x.f1, x.f2, x.f3, x.f4⟩) [.int .i64 x.f0, .int .i64 x.f1, .string x.f2, .string x.f3, .int .i64 x.f4] (fun _ => True) (fun _ => False) (by rfl) (by rfl) ?aP (fun _ hk => hk.elim) ?aF ?aO ?aB ?aS ?aL ?_; (case aP => exact k66_mkM _ _ _ (⟨x.f0, x.f1, x.f2, x.f3, x.f4⟩)); (case aF => exact fun _ _ => trivial); (case aO => exact HR3.out); (case aB => exact HB3.out); (case aS => exact HB3.out.size); (case aL => have := HL.out; simp only [List.nil_append, List.length_take]; omega); intro v4 W4 ho4 hb4 hg4 hat4; have HR4 := Qz.mk ho4; have HB4 := Qz.mk hb4; have HP4 := Qz.mk (HP2.out.below hb4); clear ho4 hb4 hg4 hat4 g0 g1 g2 g3 g4 q0; have hs0 := (qd HP4.out.ho 0).trans rfl)
         | ((with_reducible refine gate_builtin (b := .append) (xs := #[.tmp 142, .tmp 146]) rfl ?_); at_builtin; refine Kd.R_append_rows k66 (w0 := W2) W2.heap.size rfl (.tmp 142) (.tmp 146) 30 66 (.agg #[.int .i64 0, .int .i64 0, .string ⟨#[]⟩, .string ⟨#[]⟩, .int .i64 0]) 56 rfl hu30 info66 rfl (by decide) (by omega) v4 ([] ++ m.take j ++ [(⟨x.f0, x.f1, x.f2, x.f3, x.f4⟩ : S66)]) (m.drop j) _ _ _ (fun _ => True) (fun _ => False) rfl rfl ?aO ?aR (fun _ _ h => h) (fun _ h => h.elim) ?aF ?aB ?aS ?aL ?_; (case aO => exact HR4.out); (case aR => have hd := Kd.C_drop (c := cf) (Kd.C_below HC2.out HB4.out) hjl hmc; rw [List.length_drop] at hd; first | (rw [if_pos hcj] at hd; exact hd) | (rw [if_neg hcj] at hd; exact hd)); (case aF => exact fun _ _ => trivial); (case aB => exact HB4.out); (case aS => exact HB4.out.size); (case aL => have := HL.out; simp only [List.nil_append, List.length_append, List.length_take, List.length_cons, List.length_nil]; omega); intro v5 W5 ho5 hb5 hg5 hat5; obtain ⟨Ao, co, eo⟩ := Kd.R_slice ho5; subst eo; have hl5 : List.length ([] ++ m.take j ++ [(⟨x.f0, x.f1, x.f2, x.f3, x.f4⟩ : S66)] ++ m.drop j) = j + (m.length - j + 1) := (by simp only [List.nil_append, List.length_append, List.length_take, List.length_drop, List.length_cons, List.length_nil]; omega); rw [hl5] at ho5; have HR5 := Qz.mk ho5; have HP5 := Qz.mk (HP2.out.below hb5); have HB5 := Qz.mk hb5; clear ho5 hb5 hg5 hat5 hs0; have hs0 := (qd HP5.out.ho 0).trans rfl; have hs1 := qf HP5.out.ho 0))
        go_roundg k4
        case measure => have := HK2.out; omega
        case rel => exact ⟨i + 1, _, _, congrArg (Value.int .i64) (by first | rfl | exact HXI.out | omega), H2, by omega, ⟨by have := HK1.out; have := HK2.out; omega⟩, ⟨HP5.out.put _⟩, ⟨Kd.R_set (Kd.R_lower HR5.out HP2.out.hb.size) HP5.out.ho (by decide) 0 _⟩⟩
    ·rw [if_neg c] at H
     have cb : decide ((i : Int) < (l1_0.length : Int)) = false := decide_eq_false c
     replace H := Option.bind_eq_some_iff.mp H
     obtain ⟨t, A1_, H⟩ := H
     have A1 := Qz.mk A1_
     have HH := Qz.mk H
     clear A1_ H
     have ho1 := (qd HP.out.ho 1).trans rfl
     have ho2 := (qd HP.out.ho 2).trans rfl
     have ho3 := (qd HP.out.ho 3).trans rfl
     go_wp2_with fail
     (with_reducible refine (spec_VersionOk.calls k3 Af cf m a1_2 a1_3 a1_4 t wr HC.out hmc A1.out).mono ?_)
     rintro e w3 ⟨rfl, hb3⟩
     have HP3 := Qz.mk (HP.out.below hb3)
     have HM3 := Qz.mk (Kd.R_below HM.out hb3)
     clear hb3 HP HM HC he0 ho0 ho1 ho2 ho3 A1
     have ho0 := (qd HP3.out.ho 0).trans rfl
     have ho1 := (qd HP3.out.ho 1).trans rfl
     have ho2 := (qd HP3.out.ho 2).trans rfl
     have ho3 := (qd HP3.out.ho 3).trans rfl
     have hq0 := (qd HP3.out.hr 0).trans rfl
     have hq1 := (qd HP3.out.hr 1).trans rfl
     have hq2 := (qd HP3.out.hr 2).trans rfl
     have hq3 := (qd HP3.out.hr 3).trans rfl
     have hf0 := qf HP3.out.hr 0
     have hf1 := qf HP3.out.hr 1
     have hf2 := qf HP3.out.hr 2
     have hf3 := qf HP3.out.hr 3
     cases t with
     | false =>
      go_wp2
      exact HF.out _ (putA HP3.out.hr) (belowA HP3.out.hb (by omega)) _ rfl rfl (Option.some.inj HH.out).symm
     | true =>
      have hr := Option.some.inj HH.out
      simp only [Prod.mk.injEq] at hr
      obtain ⟨rfl, rfl, rfl, rfl, rfl⟩ := hr
      go_wp2
      refine bodyPost_ret (results_ct rfl _ _ (w.heap.size + 1 + 1) 32 _ (0, 0) _ rfl (putA HP3.out.hr) Try.underlying32 rfl (by kernel_rfl)) rfl ?_
      exact ⟨_, rfl, R_setA HM3.out HP3.out.hr (by decide), belowA HP3.out.hb (by omega)⟩
def IsS123 (w0 W : World) (g : Nat) (f0 : List Int) (f1 : Int) : Prop := ∃ A0 c0, W.heap[g]? = some (.cells #[.slice A0 f0.length c0, .int .i64 f1] 123 (0, 0)) ∧ w0.heap.size ≤ g ∧ Kd.C (Kd.int .u8) w0 A0 f0.length f0
theorem IsS123.grown {w0 W : World} {g : Nat} {f0 : List Int} {f1 : Int} {W1 : World} {row : Option Nat} (h : IsS123 w0 W g f0 f1) (hw : W.grownBy W1 row) (hne : some g ≠ row) : IsS123 w0 W1 g f0 f1 := by
 obtain ⟨A0, c0, hb, hg, hr0⟩ := h
 exact ⟨A0, c0, blk_grown hb hw hne, hg, hr0⟩
theorem IsS123.kept {w0 W : World} {g : Nat} {f0 : List Int} {f1 : Int} {W1 : World} {S : Nat → Prop} (h : IsS123 w0 W g f0 f1) (hk : Kept W W1 S) (hne : ¬ S g) : IsS123 w0 W1 g f0 f1 := by
 obtain ⟨A0, c0, hb, hg, hr0⟩ := h
 exact ⟨A0, c0, blk_kept hb hk hne, hg, hr0⟩
theorem IsS123.below {w0 W : World} {g : Nat} {f0 : List Int} {f1 : Int} {W1 : World} (h : IsS123 w0 W g f0 f1) (hw : Below W.heap.size W W1) : IsS123 w0 W1 g f0 f1 := h.grown (grown_of_below hw none) (by simp)
theorem IsS123.alloc {w0 W : World} {g : Nat} {f0 : List Int} {f1 : Int} (h : IsS123 w0 W g f0 f1) (o : Obj) : IsS123 w0 (W.alloc o) g f0 f1 := h.below (qh (Below.refl _ _) o)
theorem IsS123.drewN {w0 W : World} {g : Nat} {f0 : List Int} {f1 : Int} (h : IsS123 w0 W g f0 f1) (m : Nat) : IsS123 w0 (W.drewN m) g f0 f1 := h
theorem IsS123.drew {w0 W : World} {g : Nat} {f0 : List Int} {f1 : Int} (h : IsS123 w0 W g f0 f1) : IsS123 w0 W.drew g f0 f1 := h
theorem IsS123.at_ {w0 W : World} {g : Nat} {f0 : List Int} {f1 : Int} {w' : World} {m : Nat} (hq : W.drewN m = w') (h : IsS123 w0 W g f0 f1) : IsS123 w0 w' g f0 f1 := by subst hq; exact IsS123.drewN h m
theorem IsS123.apart {w0 W : World} {g : Nat} {f0 : List Int} {f1 : Int} {α : Type} {d : Kd α} {e : Nat} {base : Nat} {ok : Nat → Prop} {v : Value} {xs : List α} (h : IsS123 w0 W g f0 f1) (ho : d.R e W base ok v xs) (ht : ∀ q, q ∈ e :: d.E → q ≠ 123) : d.R e W base (fun k => ok k ∧ k ≠ g) v xs := by
 obtain ⟨A0, c0, hb, hg, hr0⟩ := h
 exact Kd.R_types ho hb ht
theorem IsS123.own_ne {w0 W : World} {g : Nat} {f0 : List Int} {f1 : Int} {α : Type} {d : Kd α} {e : Nat} {base : Nat} {ok : Nat → Prop} {v : Value} {xs : List α} (h : IsS123 w0 W g f0 f1) (ho : d.R e W base ok v xs) (ht : e ≠ 123) : some g ≠ v.ownBlock := by
 obtain ⟨A0, c0, hb, hg, hr0⟩ := h
 exact Kd.R_ne ho hb ht
theorem IsS123.apartS {w0 W : World} {g : Nat} {f0 : List Int} {f1 : Int} {α : Type} {d : Kd α} {e : Nat} {base : Nat} {ok : Nat → Prop} {v : Value} {xs : List α} (h : IsS123 w0 W g f0 f1) (ho : d.S e W base ok v xs) (ht : ∀ q, q ∈ e :: d.E → q ≠ 123) : d.S e W base (fun k => ok k ∧ k ≠ g) v xs := by
 obtain ⟨A0, c0, hb, hg, hr0⟩ := h
 exact Kd.S_types ho hb ht
theorem IsS123.lt {w0 W : World} {g : Nat} {f0 : List Int} {f1 : Int} (h : IsS123 w0 W g f0 f1) : g < W.heap.size := by
 obtain ⟨A0, c0, hb, hg, hr0⟩ := h
 exact qv hb
theorem IsS123.ge {w0 W : World} {g : Nat} {f0 : List Int} {f1 : Int} (h : IsS123 w0 W g f0 f1) : w0.heap.size ≤ g := by
 obtain ⟨A0, c0, hb, hg, hr0⟩ := h
 exact hg
theorem IsS123.ne_blk {w0 W : World} {g : Nat} {f0 : List Int} {f1 : Int} {a : Nat} {cs : Array Value} {t : TypeId} {fr : Nat × Nat} (h : IsS123 w0 W g f0 f1) (hb2 : W.heap[a]? = some (.cells cs t fr)) (ht : t ≠ 123) : g ≠ a := by
 obtain ⟨A0, c0, hb, hg, hr0⟩ := h
 rintro rfl
 rw [hb] at hb2
 injection hb2 with hb2
 injection hb2 with _ ht2
 exact ht ht2.symm
theorem IsS123.far {w0 W : World} {g : Nat} {f0 : List Int} {f1 : Int} {p : Addr} (h : IsS123 w0 W g f0 f1) (hne : g ≠ p.block) (u : Value) : IsS123 w0 (W.setCell p u) g f0 f1 := by
 obtain ⟨A0, c0, hb, hg, hr0⟩ := h
 exact ⟨A0, c0, qp hb hne u, hg, hr0⟩
theorem cellS123_0 {W : World} {g : Nat} {A0 : Option Addr} {c0 : Nat} {f0 : List Int} {f1 : Int} (h : W.heap[g]? = some (.cells #[.slice A0 f0.length c0, .int .i64 f1] 123 (0, 0))) : W.cell? ⟨g, 0, none⟩ = some (.slice A0 f0.length c0) := (qd h 0).trans rfl
theorem cellS123_1 {W : World} {g : Nat} {A0 : Option Addr} {c0 : Nat} {f0 : List Int} {f1 : Int} (h : W.heap[g]? = some (.cells #[.slice A0 f0.length c0, .int .i64 f1] 123 (0, 0))) : W.cell? ⟨g, 1, none⟩ = some (.int .i64 f1) := (qd h 1).trans rfl
theorem IsS123.set_1 {w0 W : World} {g : Nat} {f0 : List Int} {f1 : Int} (h : IsS123 w0 W g f0 f1) (x : Int) : IsS123 w0 (W.setCell ⟨g, 1, none⟩ (.int .i64 x)) g f0 x := by
 obtain ⟨A0, c0, hb, hg, hr0⟩ := h
 exact ⟨A0, c0, by simpa using blk_set hb 1 (.int .i64 x), hg, hr0⟩
theorem IsS123.new (w0 W : World) (A0 : Option Addr) (c0 : Nat) (f0 : List Int) (f1 : Int) (hB : Below w0.heap.size w0 W) (hr0 : Kd.C (Kd.int .u8) w0 A0 f0.length f0) : IsS123 w0 (W.alloc (.cells #[.slice A0 f0.length c0, .int .i64 f1] 123)) W.heap.size f0 f1 := ⟨A0, c0, by simpa using heap_alloc_new W _, hB.size, hr0⟩
def spec_l1Open.f (l0 : List Int) : Option (List Int × Int) := some (l0, 0)
set_option maxHeartbeats 8000000 in
set_option maxRecDepth 100000 in
theorem spec_l1Open.calls (A0 : Option Addr) (c0 : Nat) (l0 : List Int) (r1 : List Int) (r2 : Int) (w0 w : World) (hB : Below w0.heap.size w0 w) (hr0 : Kd.C (Kd.int .u8) w0 A0 l0.length l0) (hc0 : l0.length ≤ c0) (h : spec_l1Open.f l0 = some (r1, r2)) :
  Calls Try.prog 70 #[.slice A0 l0.length c0] w fun e w' => ∃ g_ : Nat, e = .returned (.pointer (some ⟨g_, 0, none⟩)) ∧ IsS123 w0 w' g_ r1 r2 ∧ Below w0.heap.size w0 w' ∧ Below w.heap.size w w' := by
 have hu123 := Try.underlying123
 have HR0 := Qz.mk hr0
 have HC0 := Qz.mk hc0
 clear hr0 hc0
 have HBW := Qz.mk (Below.refl w.heap.size w)
 have HW0 := Qz.mk hB.size
 have HB := Qz.mk hB
 clear hB
 have H : (some (l0, 0)) = some (r1, r2) := h
 clear h
 simp only [Option.some.injEq, Prod.mk.injEq] at H
 obtain ⟨rfl, rfl⟩ := H
 go_enter Try.func70, Try.ntmps70
 go_wp2_with (first | ((with_reducible refine gate_dst (N := 5) rfl ?_); refine box_event ?hg (N := 5) ?hd (cs := #[.slice A0 l0.length c0, .int .i64 0]) (t := 123) ?hr ?_; (case hd => rfl); (case hg => rfl); (case hr => first | (go_simp; done) | (go_simp; rfl)); intro gb101 hg w2 hbox hb; replace HB := Qz.mk (qq (by repeat (first | (with_reducible first | exact HB.out | apply qh | apply qg | apply qi) | exact HB.out)) hb); have BK101 := Qz.mk (hbox); have GW101 := Qz.mk ((by rw [hg]; exact (qz (by repeat (first | (with_reducible first | exact HBW.out | apply qh | apply qg | apply qi) | exact HBW.out))) : w.heap.size ≤ gb101)); have GE101 := Qz.mk ((Nat.le_trans HW0.out (by rw [hg]; exact (qz (by repeat (first | (with_reducible first | exact HBW.out | apply qh | apply qg | apply qi) | exact HBW.out))) : w.heap.size ≤ gb101) : w0.heap.size ≤ gb101)); replace HBW := Qz.mk (qq HBW.out hb); clear hb hbox hg))
 go_ret
 exact ⟨_, rfl, (show IsS123 w0 _ gb101 l0 0 from ⟨_, _, by (with_reducible repeat (first | refine qb ?_ _ | refine qc ?_ | refine qa ?_ _)); exact BK101.out, GE101.out, HR0.out⟩), by repeat (first | (with_reducible first | exact HB.out | apply qh | apply qg | apply qi | refine qe ?_ GE101.out) | exact HB.out), by repeat (first | (with_reducible first | exact HBW.out | apply qh | apply qg | apply qi | refine qe ?_ GW101.out) | exact HBW.out)⟩
def spec_l1Rd_next.f (s0_0 : List Int) (s0_1 : Int) : Option (Int × Int) := if s0_1 ≥ (s0_0.length : Int) then (some (0, s0_1)) else (if 0 ≤ (wrap64 ((wrap64 (s0_1 + 1)) - 1)) then (if (wrap64 ((wrap64 (s0_1 + 1)) - 1)) < (s0_0.length : Int) then (some (wrap64 (rd s0_0 (wrap64 ((wrap64 (s0_1 + 1)) - 1))), wrap64 (s0_1 + 1))) else (none)) else (none))
set_option maxHeartbeats 8000000 in
set_option maxRecDepth 100000 in
theorem spec_l1Rd_next.calls (g : Nat) (s0_0 : List Int) (s0_1 : Int) (r1 : Int) (r2 : Int) (w0 w : World) (hI : IsS123 w0 w g s0_0 s0_1) (hB : Below w0.heap.size w0 w) (h : spec_l1Rd_next.f s0_0 s0_1 = some (r1, r2)) :
  Calls Try.prog 109 #[.pointer (some ⟨g, 0, none⟩)] w fun e w' => e = .returned (.int .i64 r1) ∧ IsS123 w0 w' g s0_0 r2 ∧ Below w0.heap.size w0 w' ∧ KeepBut w w' g none := by
 have HI0 := Qz.mk hI
 have HK := Qz.mk (KeepBut.refl w g none)
 have HL := Qz.mk hB.size
 clear hI
 have HW0 := Qz.mk hB.size
 have HB := Qz.mk hB
 clear hB
 have H : (if s0_1 ≥ (s0_0.length : Int) then (some (0, s0_1)) else (if 0 ≤ (wrap64 ((wrap64 (s0_1 + 1)) - 1)) then (if (wrap64 ((wrap64 (s0_1 + 1)) - 1)) < (s0_0.length : Int) then (some (wrap64 (rd s0_0 (wrap64 ((wrap64 (s0_1 + 1)) - 1))), wrap64 (s0_1 + 1))) else (none)) else (none))) = some (r1, r2) := h
 clear h
 by_cases c2 : s0_1 ≥ (s0_0.length : Int)
 ·rw [if_pos c2] at H
  have c2b0 : decide ((s0_0.length : Int) ≤ s0_1) = true := decide_eq_true c2
  clear c2
  simp only [Option.some.injEq, Prod.mk.injEq] at H
  obtain ⟨rfl, rfl⟩ := H
  obtain ⟨ASz3_0, cSz3_0, HGz3, hgz3, HSz3_0⟩ := HI0.out
  have hcz3_0 := cellS123_0 HGz3
  have hcz3_1 := cellS123_1 HGz3
  have hfz3_1 := qf HGz3 1
  clear HGz3 hgz3
  go_enter Try.func109, Try.ntmps109
  go_wp2
  repeat (go_quiet (fail); try go_wp2)
  go_ret
  exact ⟨by first | rfl | (simp [qy, qx] <;> rfl) | (simp [*, qy, qx] <;> rfl), by repeat (first | (with_reducible first | exact HI0.out | apply IsS123.alloc | apply IsS123.drewN | apply IsS123.drew | apply IsS123.set_1) | exact HI0.out), by repeat (first | (with_reducible first | exact HB.out | apply qh | apply qg | apply qi | refine qe ?_ (IsS123.ge HI0.out)) | exact HB.out), by repeat (first | (with_reducible first | exact HK.out | apply KeepBut.set_ | apply ql | apply qo | apply qm) | exact HK.out)⟩
 ·rw [if_neg c2] at H
  have c2b0 : decide ((s0_0.length : Int) ≤ s0_1) = false := decide_eq_false c2
  clear c2
  obtain ⟨ji4, hji4⟩ : ∃ j_ : Int, (wrap64 ((wrap64 (s0_1 + 1)) - 1)) = j_ := ⟨_, rfl⟩
  replace H : (if 0 ≤ (ji4) then (if (ji4) < (s0_0.length : Int) then (some (wrap64 (rd s0_0 (ji4)), wrap64 (s0_1 + 1))) else (none)) else (none)) = some (r1, r2) := by first | (rw [hji4] at H; exact H) | (simp only [hji4] at H ⊢; exact H)
  have hji4w : (IntKind.i64.wrap ((wrap64 (s0_1 + 1)) - 1)) = ji4 := (i64_w _).trans hji4
  by_cases c5 : 0 ≤ (ji4)
  ·rw [if_pos c5] at H
   have c5b0 : decide (0 ≤ (ji4)) = true := decide_eq_true c5
   clear c5
   by_cases c6 : (ji4) < (s0_0.length : Int)
   ·rw [if_pos c6] at H
    have c6b0 : decide ((ji4) < (s0_0.length : Int)) = true := decide_eq_true c6
    clear c6
    simp only [Option.some.injEq, Prod.mk.injEq] at H
    obtain ⟨rfl, rfl⟩ := H
    obtain ⟨ASz7_0, cSz7_0, HGz7, hgz7, HSz7_0⟩ := HI0.out
    have hcz7_0 := cellS123_0 HGz7
    have hcz7_1 := cellS123_1 HGz7
    have hfz7_1 := qf HGz7 1
    clear HGz7 hgz7
    have p101 : 0 ≤ ((ji4) : Int) := of_decide_eq_true (by first | (with_reducible assumption) | assumption)
    have q101 : (ji4) < (s0_0.length : Int) := of_decide_eq_true (by first | (with_reducible assumption) | assumption)
    obtain ⟨ad101, e101, hx101_0⟩ := Kd.at_int HSz7_0 (ji4) p101 q101
    cases e101
    have hn101_0 : ad101.block ≠ g := Nat.ne_of_lt (Nat.lt_of_lt_of_le (by have := World.block_lt_of_cell? _ _ hx101_0; first | rwa [qk] at this | exact this) (IsS123.ge HI0.out))
    replace hx101_0 := pw_cell_below HB.out hx101_0
    replace hx101_0 := (qr (p := ⟨g, 1, none⟩) (by first | (rw [qk]; exact hn101_0) | (show (Addr.add _ _).block ≠ _; rw [qk]; exact hn101_0) | exact hn101_0) (.int .i64 (wrap64 (s0_1 + 1)))).trans hx101_0
    (try have hy101_0 := fun (n_ : Nat) => (show (((w.drewN n_).setCell ⟨g, 1, none⟩ (.int .i64 (wrap64 (s0_1 + 1))))).cell? _ = some _ from hx101_0))
    clear hn101_0
    replace p101 := eq_true p101
    replace q101 := eq_true q101
    go_enter Try.func109, Try.ntmps109
    go_wp2
    repeat (go_quiet (fail); try go_wp2)
    go_ret
    exact ⟨by first | rfl | (simp [qy, qx] <;> rfl) | (simp only [← hji4]; first | rfl | (simp [qy, qx] <;> rfl)) | (simp [*, qy, qx] <;> rfl), by repeat (first | (with_reducible first | exact HI0.out | apply IsS123.alloc | apply IsS123.drewN | apply IsS123.drew | apply IsS123.set_1) | exact HI0.out), by repeat (first | (with_reducible first | exact HB.out | apply qh | apply qg | apply qi | refine qe ?_ (IsS123.ge HI0.out)) | exact HB.out), by repeat (first | (with_reducible first | exact HK.out | apply KeepBut.set_ | apply ql | apply qo | apply qm) | exact HK.out)⟩
   ·rw [if_neg c6] at H
    exact absurd H (by simp)
  ·rw [if_neg c5] at H
   exact absurd H (by simp)
def spec_l1Rd_word.l0 : Nat → Int → Int → List Int → Int → Option (Int × Int)
 | 0, _, _, _, _ => none
 | k + 1, x3, x4, x1000, x1001 => if x4 < 8 then ((spec_l1Rd_next.f x1000 x1001).bind fun bt101 => (spec_l1Rd_word.l0 k (Go.bits .or .u64 (IntKind.u64.wrap (x3 * 256)) (IntKind.u64.wrap (bt101.1))) (wrap64 (x4 + 1)) x1000 bt101.2)) else (some (x3, x1001))
def spec_l1Rd_word.f (k : Nat) (s0_0 : List Int) (s0_1 : Int) : Option (Int × Int) := spec_l1Rd_word.l0 k 0 0 s0_0 s0_1
set_option maxHeartbeats 8000000 in
set_option maxRecDepth 100000 in
theorem spec_l1Rd_word.calls (k : Nat) (g : Nat) (s0_0 : List Int) (s0_1 : Int) (r1 : Int) (r2 : Int) (w0 w : World) (hI : IsS123 w0 w g s0_0 s0_1) (hB : Below w0.heap.size w0 w) (h : spec_l1Rd_word.f k s0_0 s0_1 = some (r1, r2)) :
  Calls Try.prog 119 #[.pointer (some ⟨g, 0, none⟩)] w fun e w' => e = .returned (.int .u64 r1) ∧ IsS123 w0 w' g s0_0 r2 ∧ Below w0.heap.size w0 w' ∧ KeepBut w w' g none := by
 have HI0 := Qz.mk hI
 have HK := Qz.mk (KeepBut.refl w g none)
 have HL := Qz.mk hB.size
 clear hI
 have HW0 := Qz.mk hB.size
 have HB := Qz.mk hB
 clear hB
 have H : (spec_l1Rd_word.l0 k 0 0 s0_0 s0_1) = some (r1, r2) := h
 clear h
 have H' := Qz.mk H
 clear H
 go_enter Try.func119, Try.ntmps119
 go_wp2
 go_loopg [3, 4] k (fun kq v3 v4 w' => ∃ (x3_1 : Int) (x4_1 : Int) (x1001_1 : Int), v3 = .int .u64 x3_1 ∧ v4 = .int .i64 x4_1 ∧ Qz (spec_l1Rd_word.l0 kq x3_1 x4_1 s0_0 x1001_1 = some (r1, r2)) ∧ Qz (kq ≤ k) ∧ Qz (IsS123 w0 w' g s0_0 x1001_1) ∧ Qz (KeepBut w w' g none) ∧ Qz (Below w0.heap.size w0 w'))
 case atStart => exact ⟨(0), (0), (s0_1), (by first | rfl | (simp; done) | (simp [*]; done)), (by first | rfl | (simp; done) | (simp [*]; done)), H', ⟨Nat.le_refl _⟩, ⟨by repeat (first | (with_reducible first | exact HI0.out | apply IsS123.alloc | apply IsS123.drewN | apply IsS123.drew | apply IsS123.set_1) | exact HI0.out)⟩, ⟨by repeat (first | (with_reducible first | exact HK.out | apply KeepBut.set_ | apply ql | apply qo | apply qm) | exact HK.out)⟩, ⟨by repeat (first | (with_reducible first | exact HB.out | apply qh | apply qg | apply qi | refine qe ?_ (IsS123.ge HI0.out)) | exact HB.out)⟩⟩
 case round =>
  clear H'
  try clear c1
  obtain ⟨x3_1, x4_1, x1001_1, rfl, rfl, HA, HK1, HI0, HK, HB⟩ := hrel
  cases gk with
  | zero => exact absurd HA.out (by simp [spec_l1Rd_word.l0])
  | succ k1 =>
   have H := HA.out
   clear HA
   simp only [spec_l1Rd_word.l0] at H
   by_cases c2 : x4_1 < 8
   ·rw [if_pos c2] at H
    have c2b0 : decide (x4_1 < 8) = true := decide_eq_true c2
    clear c2
    replace H := Option.bind_eq_some_iff.mp H
    obtain ⟨⟨t101, t102⟩, A30, H⟩ := H
    replace H : (spec_l1Rd_word.l0 k1 (Go.bits .or .u64 (IntKind.u64.wrap (x3_1 * 256)) (IntKind.u64.wrap (t101))) (wrap64 (x4_1 + 1)) s0_0 t102) = some (r1, r2) := H
    have A3 := Qz.mk A30
    clear A30
    have H' := Qz.mk H
    clear H
    go_wp2_with (first | ((with_reducible refine qu (f := 109) rfl ?_); refine goesL_ (some 12) rfl rfl Try.func109 (by kernel_rfl) rfl #[.pointer (some ⟨g, 0, none⟩)] rfl (by (try simp only [List.map_toArray, List.map_cons, List.map_nil]); first | done | rfl) ?_; (with_reducible refine (spec_l1Rd_next.calls g s0_0 x1001_1 t101 t102 w0 _ ?side1 ?side2 A3.out).mono ?_); (case side1 => repeat (first | (with_reducible first | exact HI0.out | apply IsS123.alloc | apply IsS123.drewN | apply IsS123.drew | apply IsS123.set_1) | exact HI0.out)); (case side2 => repeat (first | (with_reducible first | exact HB.out | apply qh | apply qg | apply qi | refine qe ?_ (IsS123.ge HI0.out)) | exact HB.out)); rintro e w4 ⟨rfl, hi, hb, hk⟩; refine ⟨_, rfl, ?_⟩; replace HK := Qz.mk (KeepBut.trans (by repeat (first | (with_reducible first | exact HK.out | apply KeepBut.set_ | apply ql | apply qo | apply qm) | exact HK.out)) hk (.inl rfl)); replace HB := Qz.mk (hb); replace HI0 := Qz.mk (hi); (try clear hb); (try clear hk); (try clear hi)))
    go_roundg k1
    case measure => have := HK1.out; omega
    case rel => exact ⟨(Go.bits .or .u64 (IntKind.u64.wrap (x3_1 * 256)) (IntKind.u64.wrap (t101))), (wrap64 (x4_1 + 1)), (t102), (by first | rfl | (simp; done) | (simp [*]; done)), (by first | rfl | (simp; done) | (simp [*]; done)), H', ⟨by have := HK1.out; omega⟩, ⟨by repeat (first | (with_reducible first | exact HI0.out | apply IsS123.alloc | apply IsS123.drewN | apply IsS123.drew | apply IsS123.set_1) | exact HI0.out)⟩, ⟨by repeat (first | (with_reducible first | exact HK.out | apply KeepBut.set_ | apply ql | apply qo | apply qm) | exact HK.out)⟩, ⟨by repeat (first | (with_reducible first | exact HB.out | apply qh | apply qg | apply qi | refine qe ?_ (IsS123.ge HI0.out)) | exact HB.out)⟩⟩
   ·rw [if_neg c2] at H
    have c2b0 : decide (x4_1 < 8) = false := decide_eq_false c2
    clear c2
    simp only [Option.some.injEq, Prod.mk.injEq] at H
    obtain ⟨rfl, rfl⟩ := H
    go_wp2
    go_ret
    exact ⟨by first | rfl | (simp [qy, qx] <;> rfl) | (simp [*, qy, qx] <;> rfl), by repeat (first | (with_reducible first | exact HI0.out | apply IsS123.alloc | apply IsS123.drewN | apply IsS123.drew | apply IsS123.set_1) | exact HI0.out), by repeat (first | (with_reducible first | exact HB.out | apply qh | apply qg | apply qi | refine qe ?_ (IsS123.ge HI0.out)) | exact HB.out), by repeat (first | (with_reducible first | exact HK.out | apply KeepBut.set_ | apply ql | apply qo | apply qm) | exact HK.out)⟩
theorem yq8 {P : Prop} (h : P := by repeat (first | (with_reducible first | exact HI0.out | apply IsS123.alloc | apply IsS123.drewN | apply IsS123.drew | apply IsS123.set_1) | exact HI0.out)) : P := h
theorem yq9 {P : Prop} (h : P := by repeat (first | (with_reducible first | exact HB.out | apply qh | apply qg | apply qi | refine qe ?_ (IsS123.ge HI0.out)) | exact HB.out)) : P := h
theorem yq10 {P : Prop} (h : P := by repeat (first | (with_reducible first | exact HK.out | apply KeepBut.set_ | apply ql | apply qo | apply qm) | exact HK.out)) : P := h
def spec_l1Rd_below.f (s0_0 : List Int) (s0_1 : Int) (a1 : Int) : Option (Int × Int) := if a1 ≤ 1 then (some (0, s0_1)) else (if a1 ≤ 256 then ((spec_l1Rd_next.f s0_0 s0_1).bind fun bt101 => (if a1 = 0 then (none) else (some (Int.tmod bt101.1 a1, bt101.2)))) else ((spec_l1Rd_next.f s0_0 s0_1).bind fun bt103 => ((spec_l1Rd_next.f s0_0 bt103.2).bind fun bt105 => (if a1 = 0 then (none) else (some (Int.tmod (wrap64 ((wrap64 (bt103.1 * 256)) + bt105.1)) a1, bt105.2))))))
set_option maxHeartbeats 8000000 in
set_option maxRecDepth 100000 in
theorem spec_l1Rd_below.calls (g : Nat) (s0_0 : List Int) (s0_1 : Int) (a1 : Int) (r1 : Int) (r2 : Int) (w0 w : World) (hI : IsS123 w0 w g s0_0 s0_1) (hB : Below w0.heap.size w0 w) (h : spec_l1Rd_below.f s0_0 s0_1 a1 = some (r1, r2)) :
  Calls Try.prog 80 #[.pointer (some ⟨g, 0, none⟩), .int .i64 a1] w fun e w' => e = .returned (.int .i64 r1) ∧ IsS123 w0 w' g s0_0 r2 ∧ Below w0.heap.size w0 w' ∧ KeepBut w w' g none := by
 have HI0 := Qz.mk hI
 have HK := Qz.mk (KeepBut.refl w g none)
 have HL := Qz.mk hB.size
 clear hI
 have HW0 := Qz.mk hB.size
 have HB := Qz.mk hB
 clear hB
 have H : (if a1 ≤ 1 then (some (0, s0_1)) else (if a1 ≤ 256 then ((spec_l1Rd_next.f s0_0 s0_1).bind fun bt101 => (if a1 = 0 then (none) else (some (Int.tmod bt101.1 a1, bt101.2)))) else ((spec_l1Rd_next.f s0_0 s0_1).bind fun bt103 => ((spec_l1Rd_next.f s0_0 bt103.2).bind fun bt105 => (if a1 = 0 then (none) else (some (Int.tmod (wrap64 ((wrap64 (bt103.1 * 256)) + bt105.1)) a1, bt105.2))))))) = some (r1, r2) := h
 clear h
 by_cases c3 : a1 ≤ 1
 ·rw [if_pos c3] at H
  have c3b0 : decide (a1 ≤ 1) = true := decide_eq_true c3
  clear c3
  simp only [Option.some.injEq, Prod.mk.injEq] at H
  obtain ⟨rfl, rfl⟩ := H
  go_enter Try.func80, Try.ntmps80
  go_wp2
  go_ret
  exact ⟨by first | rfl | (simp [qy, qx] <;> rfl) | (simp [*, qy, qx] <;> rfl), by repeat (first | (with_reducible first | exact HI0.out | apply IsS123.alloc | apply IsS123.drewN | apply IsS123.drew | apply IsS123.set_1) | exact HI0.out), by repeat (first | (with_reducible first | exact HB.out | apply qh | apply qg | apply qi | refine qe ?_ (IsS123.ge HI0.out)) | exact HB.out), by repeat (first | (with_reducible first | exact HK.out | apply KeepBut.set_ | apply ql | apply qo | apply qm) | exact HK.out)⟩
 ·rw [if_neg c3] at H
  have c3b0 : decide (a1 ≤ 1) = false := decide_eq_false c3
  clear c3
  by_cases c4 : a1 ≤ 256
  ·rw [if_pos c4] at H
   have c4b0 : decide (a1 ≤ 256) = true := decide_eq_true c4
   clear c4
   replace H := Option.bind_eq_some_iff.mp H
   obtain ⟨⟨t101, t102⟩, A50, H⟩ := H
   replace H : (if a1 = 0 then (none) else (some (Int.tmod t101 a1, t102))) = some (r1, r2) := H
   have A5 := Qz.mk A50
   clear A50
   by_cases c6 : a1 = 0
   ·rw [if_pos c6] at H
    exact absurd H (by simp)
   ·rw [if_neg c6] at H
    have c6b0 : (a1 == 0) = false := beq_eq_false_iff_ne.mpr c6
    have c6b1 : (a1 != 0) = true := bne_iff_ne.mpr c6
    simp only [Option.some.injEq, Prod.mk.injEq] at H
    obtain ⟨rfl, rfl⟩ := H
    go_enter Try.func80, Try.ntmps80
    go_wp2_with (first | ((with_reducible refine qu (f := 109) rfl ?_); refine goesL_ (some 11) rfl rfl Try.func109 (by kernel_rfl) rfl #[.pointer (some ⟨g, 0, none⟩)] rfl (by (try simp only [List.map_toArray, List.map_cons, List.map_nil]); first | done | rfl) ?_; (with_reducible refine (spec_l1Rd_next.calls g s0_0 s0_1 t101 t102 w0 _ ?side1 ?side2 A5.out).mono ?_); (case side1 => exact yq8); (case side2 => exact yq9); rintro e w7 ⟨rfl, hi, hb, hk⟩; refine ⟨_, rfl, ?_⟩; replace HK := Qz.mk (KeepBut.trans yq10 hk (.inl rfl)); replace HB := Qz.mk (hb); replace HI0 := Qz.mk (hi); (try clear hb); (try clear hk); (try clear hi)))
    go_ret
    exact ⟨by first | rfl | (simp [qy, qx] <;> rfl) | (simp [*, qy, qx] <;> rfl), by repeat (first | (with_reducible first | exact HI0.out | apply IsS123.alloc | apply IsS123.drewN | apply IsS123.drew | apply IsS123.set_1) | exact HI0.out), by repeat (first | (with_reducible first | exact HB.out | apply qh | apply qg | apply qi | refine qe ?_ (IsS123.ge HI0.out)) | exact HB.out), by repeat (first | (with_reducible first | exact HK.out | apply KeepBut.set_ | apply ql | apply qo | apply qm) | exact HK.out)⟩
  ·rw [if_neg c4] at H
   have c4b0 : decide (a1 ≤ 256) = false := decide_eq_false c4
   clear c4
   replace H := Option.bind_eq_some_iff.mp H
   obtain ⟨⟨t103, t104⟩, A80, H⟩ := H
   replace H : ((spec_l1Rd_next.f s0_0 t104).bind fun bt105 => (if a1 = 0 then (none) else (some (Int.tmod (wrap64 ((wrap64 (t103 * 256)) + bt105.1)) a1, bt105.2)))) = some (r1, r2) := H
   have A8 := Qz.mk A80
   clear A80
   replace H := Option.bind_eq_some_iff.mp H
   obtain ⟨⟨t105, t106⟩, A90, H⟩ := H
   replace H : (if a1 = 0 then (none) else (some (Int.tmod (wrap64 ((wrap64 (t103 * 256)) + t105)) a1, t106))) = some (r1, r2) := H
   have A9 := Qz.mk A90
   clear A90
   by_cases c10 : a1 = 0
   ·rw [if_pos c10] at H
    exact absurd H (by simp)
   ·rw [if_neg c10] at H
    have c10b0 : (a1 == 0) = false := beq_eq_false_iff_ne.mpr c10
    have c10b1 : (a1 != 0) = true := bne_iff_ne.mpr c10
    simp only [Option.some.injEq, Prod.mk.injEq] at H
    obtain ⟨rfl, rfl⟩ := H
    go_enter Try.func80, Try.ntmps80
    go_wp2_with (first | ((with_reducible refine qu (f := 109) rfl ?_); refine goesL_ (some 15) rfl rfl Try.func109 (by kernel_rfl) rfl #[.pointer (some ⟨g, 0, none⟩)] rfl (by (try simp only [List.map_toArray, List.map_cons, List.map_nil]); first | done | rfl) ?_; (with_reducible refine (spec_l1Rd_next.calls g s0_0 s0_1 t103 t104 w0 _ ?side1 ?side2 A8.out).mono ?_); (case side1 => exact yq8); (case side2 => exact yq9); rintro e w11 ⟨rfl, hi, hb, hk⟩; refine ⟨_, rfl, ?_⟩; replace HK := Qz.mk (KeepBut.trans yq10 hk (.inl rfl)); replace HB := Qz.mk (hb); replace HI0 := Qz.mk (hi); (try clear hb); (try clear hk); (try clear hi)) | ((with_reducible refine qu (f := 109) rfl ?_); refine goesL_ (some 19) rfl rfl Try.func109 (by kernel_rfl) rfl #[.pointer (some ⟨g, 0, none⟩)] rfl (by (try simp only [List.map_toArray, List.map_cons, List.map_nil]); first | done | rfl) ?_; (with_reducible refine (spec_l1Rd_next.calls g s0_0 t104 t105 t106 w0 _ ?side1 ?side2 A9.out).mono ?_); (case side1 => exact yq8); (case side2 => exact yq9); rintro e w12 ⟨rfl, hi, hb, hk⟩; refine ⟨_, rfl, ?_⟩; replace HK := Qz.mk (KeepBut.trans yq10 hk (.inl rfl)); replace HB := Qz.mk (hb); replace HI0 := Qz.mk (hi); (try clear hb); (try clear hk); (try clear hi)))
    go_ret
    exact ⟨by first | rfl | (simp [qy, qx] <;> rfl) | (simp [*, qy, qx] <;> rfl), by repeat (first | (with_reducible first | exact HI0.out | apply IsS123.alloc | apply IsS123.drewN | apply IsS123.drew | apply IsS123.set_1) | exact HI0.out), by repeat (first | (with_reducible first | exact HB.out | apply qh | apply qg | apply qi | refine qe ?_ (IsS123.ge HI0.out)) | exact HB.out), by repeat (first | (with_reducible first | exact HK.out | apply KeepBut.set_ | apply ql | apply qo | apply qm) | exact HK.out)⟩
theorem yq11 {P : Prop} (h : P := by repeat (first | (with_reducible first | exact HI0.out | apply IsS123.alloc | apply IsS123.drewN | apply IsS123.drew | apply IsS123.set_1) | exact HI0.out)) : P := h
theorem yq12 {P : Prop} (h : P := by repeat (first | (with_reducible first | exact HB.out | apply qh | apply qg | apply qi | refine qe ?_ (IsS123.ge HI0.out)) | exact HB.out)) : P := h
theorem yq13 {P : Prop} (h : P := by repeat (first | (with_reducible first | exact HK.out | apply KeepBut.set_ | apply ql | apply qo | apply qm) | exact HK.out)) : P := h
theorem yq14 {P : Prop} (h : P := by (try simp only [List.map_toArray, List.map_cons, List.map_nil]); first | done | rfl) : P := h
def spec_l1Rd_near.f (k : Nat) (s0_0 : List Int) (s0_1 : Int) (a1 : Int) (a2 : Int) : Option (Int × Int) := (spec_l1Rd_below.f s0_0 s0_1 8).bind fun bt101 => (if bt101.1 = 0 then (some (a1, bt101.2)) else (if bt101.1 = 1 then (some (a2, bt101.2)) else (if a2 < a1 then (some (a1, bt101.2)) else ((spec_l1Rd_word.f k s0_0 bt101.2).bind fun bt103 => (if (IntKind.u64.wrap (wrap64 ((wrap64 (a2 - a1)) + 1))) = 0 then (none) else (some (wrap64 (a1 + (wrap64 (Int.tmod (bt103.1 / 2) (IntKind.u64.wrap (wrap64 ((wrap64 (a2 - a1)) + 1)))))), bt103.2)))))))
set_option maxHeartbeats 8000000 in
set_option maxRecDepth 100000 in
theorem spec_l1Rd_near.calls (k : Nat) (g : Nat) (s0_0 : List Int) (s0_1 : Int) (a1 : Int) (a2 : Int) (r1 : Int) (r2 : Int) (w0 w : World) (hI : IsS123 w0 w g s0_0 s0_1) (hB : Below w0.heap.size w0 w) (h : spec_l1Rd_near.f k s0_0 s0_1 a1 a2 = some (r1, r2)) :
  Calls Try.prog 102 #[.pointer (some ⟨g, 0, none⟩), .int .i64 a1, .int .i64 a2] w fun e w' => e = .returned (.int .i64 r1) ∧ IsS123 w0 w' g s0_0 r2 ∧ Below w0.heap.size w0 w' ∧ KeepBut w w' g none := by
 have HI0 := Qz.mk hI
 have HK := Qz.mk (KeepBut.refl w g none)
 have HL := Qz.mk hB.size
 clear hI
 have HW0 := Qz.mk hB.size
 have HB := Qz.mk hB
 clear hB
 have H : ((spec_l1Rd_below.f s0_0 s0_1 8).bind fun bt101 => (if bt101.1 = 0 then (some (a1, bt101.2)) else (if bt101.1 = 1 then (some (a2, bt101.2)) else (if a2 < a1 then (some (a1, bt101.2)) else ((spec_l1Rd_word.f k s0_0 bt101.2).bind fun bt103 => (if (IntKind.u64.wrap (wrap64 ((wrap64 (a2 - a1)) + 1))) = 0 then (none) else (some (wrap64 (a1 + (wrap64 (Int.tmod (bt103.1 / 2) (IntKind.u64.wrap (wrap64 ((wrap64 (a2 - a1)) + 1)))))), bt103.2)))))))) = some (r1, r2) := h
 clear h
 replace H := Option.bind_eq_some_iff.mp H
 obtain ⟨⟨t101, t102⟩, A40, H⟩ := H
 replace H : (if t101 = 0 then (some (a1, t102)) else (if t101 = 1 then (some (a2, t102)) else (if a2 < a1 then (some (a1, t102)) else ((spec_l1Rd_word.f k s0_0 t102).bind fun bt103 => (if (IntKind.u64.wrap (wrap64 ((wrap64 (a2 - a1)) + 1))) = 0 then (none) else (some (wrap64 (a1 + (wrap64 (Int.tmod (bt103.1 / 2) (IntKind.u64.wrap (wrap64 ((wrap64 (a2 - a1)) + 1)))))), bt103.2))))))) = some (r1, r2) := H
 have A4 := Qz.mk A40
 clear A40
 by_cases c5 : t101 = 0
 ·rw [if_pos c5] at H
  have c5b0 : (t101 == 0) = true := beq_iff_eq.mpr c5
  have c5b1 : (t101 != 0) = false := bne_eq_false_iff_eq.mpr c5
  clear c5
  simp only [Option.some.injEq, Prod.mk.injEq] at H
  obtain ⟨rfl, rfl⟩ := H
  go_enter Try.func102, Try.ntmps102
  go_wp2_with (first | ((with_reducible refine qu (f := 80) rfl ?_); refine goesL_ (some 8) rfl rfl Try.func80 (by kernel_rfl) rfl #[.pointer (some ⟨g, 0, none⟩), .int .i64 8] rfl yq14 ?_; (with_reducible refine (spec_l1Rd_below.calls g s0_0 s0_1 8 t101 t102 w0 _ ?side1 ?side2 A4.out).mono ?_); (case side1 => exact yq11); (case side2 => exact yq12); rintro e w6 ⟨rfl, hi, hb, hk⟩; refine ⟨_, rfl, ?_⟩; replace HK := Qz.mk (KeepBut.trans yq13 hk (.inl rfl)); replace HB := Qz.mk (hb); replace HI0 := Qz.mk (hi); (try clear hb); (try clear hk); (try clear hi)))
  go_ret
  exact ⟨by first | rfl | (simp [qy, qx] <;> rfl) | (simp [*, qy, qx] <;> rfl), by repeat (first | (with_reducible first | exact HI0.out | apply IsS123.alloc | apply IsS123.drewN | apply IsS123.drew | apply IsS123.set_1) | exact HI0.out), by repeat (first | (with_reducible first | exact HB.out | apply qh | apply qg | apply qi | refine qe ?_ (IsS123.ge HI0.out)) | exact HB.out), by repeat (first | (with_reducible first | exact HK.out | apply KeepBut.set_ | apply ql | apply qo | apply qm) | exact HK.out)⟩
 ·rw [if_neg c5] at H
  have c5b0 : (t101 == 0) = false := beq_eq_false_iff_ne.mpr c5
  have c5b1 : (t101 != 0) = true := bne_iff_ne.mpr c5
  by_cases c7 : t101 = 1
  ·rw [if_pos c7] at H
   have c7b0 : (t101 == 1) = true := beq_iff_eq.mpr c7
   have c7b1 : (t101 != 1) = false := bne_eq_false_iff_eq.mpr c7
   clear c7
   simp only [Option.some.injEq, Prod.mk.injEq] at H
   obtain ⟨rfl, rfl⟩ := H
   go_enter Try.func102, Try.ntmps102
   go_wp2_with (first | ((with_reducible refine qu (f := 80) rfl ?_); refine goesL_ (some 8) rfl rfl Try.func80 (by kernel_rfl) rfl #[.pointer (some ⟨g, 0, none⟩), .int .i64 8] rfl yq14 ?_; (with_reducible refine (spec_l1Rd_below.calls g s0_0 s0_1 8 t101 t102 w0 _ ?side1 ?side2 A4.out).mono ?_); (case side1 => exact yq11); (case side2 => exact yq12); rintro e w8 ⟨rfl, hi, hb, hk⟩; refine ⟨_, rfl, ?_⟩; replace HK := Qz.mk (KeepBut.trans yq13 hk (.inl rfl)); replace HB := Qz.mk (hb); replace HI0 := Qz.mk (hi); (try clear hb); (try clear hk); (try clear hi)))
   go_ret
   exact ⟨by first | rfl | (simp [qy, qx] <;> rfl) | (simp [*, qy, qx] <;> rfl), by repeat (first | (with_reducible first | exact HI0.out | apply IsS123.alloc | apply IsS123.drewN | apply IsS123.drew | apply IsS123.set_1) | exact HI0.out), by repeat (first | (with_reducible first | exact HB.out | apply qh | apply qg | apply qi | refine qe ?_ (IsS123.ge HI0.out)) | exact HB.out), by repeat (first | (with_reducible first | exact HK.out | apply KeepBut.set_ | apply ql | apply qo | apply qm) | exact HK.out)⟩
  ·rw [if_neg c7] at H
   have c7b0 : (t101 == 1) = false := beq_eq_false_iff_ne.mpr c7
   have c7b1 : (t101 != 1) = true := bne_iff_ne.mpr c7
   by_cases c9 : a2 < a1
   ·rw [if_pos c9] at H
    have c9b0 : decide (a2 < a1) = true := decide_eq_true c9
    clear c9
    simp only [Option.some.injEq, Prod.mk.injEq] at H
    obtain ⟨rfl, rfl⟩ := H
    go_enter Try.func102, Try.ntmps102
    go_wp2_with (first | ((with_reducible refine qu (f := 80) rfl ?_); refine goesL_ (some 8) rfl rfl Try.func80 (by kernel_rfl) rfl #[.pointer (some ⟨g, 0, none⟩), .int .i64 8] rfl yq14 ?_; (with_reducible refine (spec_l1Rd_below.calls g s0_0 s0_1 8 t101 t102 w0 _ ?side1 ?side2 A4.out).mono ?_); (case side1 => exact yq11); (case side2 => exact yq12); rintro e w10 ⟨rfl, hi, hb, hk⟩; refine ⟨_, rfl, ?_⟩; replace HK := Qz.mk (KeepBut.trans yq13 hk (.inl rfl)); replace HB := Qz.mk (hb); replace HI0 := Qz.mk (hi); (try clear hb); (try clear hk); (try clear hi)))
    go_ret
    exact ⟨by first | rfl | (simp [qy, qx] <;> rfl) | (simp [*, qy, qx] <;> rfl), by repeat (first | (with_reducible first | exact HI0.out | apply IsS123.alloc | apply IsS123.drewN | apply IsS123.drew | apply IsS123.set_1) | exact HI0.out), by repeat (first | (with_reducible first | exact HB.out | apply qh | apply qg | apply qi | refine qe ?_ (IsS123.ge HI0.out)) | exact HB.out), by repeat (first | (with_reducible first | exact HK.out | apply KeepBut.set_ | apply ql | apply qo | apply qm) | exact HK.out)⟩
   ·rw [if_neg c9] at H
    have c9b0 : decide (a2 < a1) = false := decide_eq_false c9
    clear c9
    replace H := Option.bind_eq_some_iff.mp H
    obtain ⟨⟨t103, t104⟩, A110, H⟩ := H
    replace H : (if (IntKind.u64.wrap (wrap64 ((wrap64 (a2 - a1)) + 1))) = 0 then (none) else (some (wrap64 (a1 + (wrap64 (Int.tmod (t103 / 2) (IntKind.u64.wrap (wrap64 ((wrap64 (a2 - a1)) + 1)))))), t104))) = some (r1, r2) := H
    have A11 := Qz.mk A110
    clear A110
    by_cases c12 : (IntKind.u64.wrap (wrap64 ((wrap64 (a2 - a1)) + 1))) = 0
    ·rw [if_pos c12] at H
     exact absurd H (by simp)
    ·rw [if_neg c12] at H
     have c12b0 : ((IntKind.u64.wrap (wrap64 ((wrap64 (a2 - a1)) + 1))) == 0) = false := beq_eq_false_iff_ne.mpr c12
     have c12b1 : ((IntKind.u64.wrap (wrap64 ((wrap64 (a2 - a1)) + 1))) != 0) = true := bne_iff_ne.mpr c12
     simp only [Option.some.injEq, Prod.mk.injEq] at H
     obtain ⟨rfl, rfl⟩ := H
     go_enter Try.func102, Try.ntmps102
     go_wp2_with (first | ((with_reducible refine qu (f := 80) rfl ?_); refine goesL_ (some 8) rfl rfl Try.func80 (by kernel_rfl) rfl #[.pointer (some ⟨g, 0, none⟩), .int .i64 8] rfl yq14 ?_; (with_reducible refine (spec_l1Rd_below.calls g s0_0 s0_1 8 t101 t102 w0 _ ?side1 ?side2 A4.out).mono ?_); (case side1 => exact yq11); (case side2 => exact yq12); rintro e w13 ⟨rfl, hi, hb, hk⟩; refine ⟨_, rfl, ?_⟩; replace HK := Qz.mk (KeepBut.trans yq13 hk (.inl rfl)); replace HB := Qz.mk (hb); replace HI0 := Qz.mk (hi); (try clear hb); (try clear hk); (try clear hi)) | ((with_reducible refine qu (f := 119) rfl ?_); refine goesL_ (some 21) rfl rfl Try.func119 (by kernel_rfl) rfl #[.pointer (some ⟨g, 0, none⟩)] rfl yq14 ?_; (with_reducible refine (spec_l1Rd_word.calls k g s0_0 t102 t103 t104 w0 _ ?side1 ?side2 A11.out).mono ?_); (case side1 => exact yq11); (case side2 => exact yq12); rintro e w14 ⟨rfl, hi, hb, hk⟩; refine ⟨_, rfl, ?_⟩; replace HK := Qz.mk (KeepBut.trans yq13 hk (.inl rfl)); replace HB := Qz.mk (hb); replace HI0 := Qz.mk (hi); (try clear hb); (try clear hk); (try clear hi)))
     go_ret
     exact ⟨by first | rfl | (simp [qy, qx] <;> rfl) | (simp [*, qy, qx] <;> rfl), by repeat (first | (with_reducible first | exact HI0.out | apply IsS123.alloc | apply IsS123.drewN | apply IsS123.drew | apply IsS123.set_1) | exact HI0.out), by repeat (first | (with_reducible first | exact HB.out | apply qh | apply qg | apply qi | refine qe ?_ (IsS123.ge HI0.out)) | exact HB.out), by repeat (first | (with_reducible first | exact HK.out | apply KeepBut.set_ | apply ql | apply qo | apply qm) | exact HK.out)⟩
def spec_l1Rd_once.f (s0_0 : List Int) (s0_1 : Int) (a1 : Int) : Option (Bool × Int) := (spec_l1Rd_below.f s0_0 s0_1 a1).bind fun bt101 => (some ((bt101.1 == (wrap64 (a1 - 1))), bt101.2))
set_option maxHeartbeats 8000000 in
set_option maxRecDepth 100000 in
theorem spec_l1Rd_once.calls (g : Nat) (s0_0 : List Int) (s0_1 : Int) (a1 : Int) (r1 : Bool) (r2 : Int) (w0 w : World) (hI : IsS123 w0 w g s0_0 s0_1) (hB : Below w0.heap.size w0 w) (h : spec_l1Rd_once.f s0_0 s0_1 a1 = some (r1, r2)) :
  Calls Try.prog 73 #[.pointer (some ⟨g, 0, none⟩), .int .i64 a1] w fun e w' => e = .returned (.bool r1) ∧ IsS123 w0 w' g s0_0 r2 ∧ Below w0.heap.size w0 w' ∧ KeepBut w w' g none := by
 have HI0 := Qz.mk hI
 have HK := Qz.mk (KeepBut.refl w g none)
 have HL := Qz.mk hB.size
 clear hI
 have HW0 := Qz.mk hB.size
 have HB := Qz.mk hB
 clear hB
 have H : ((spec_l1Rd_below.f s0_0 s0_1 a1).bind fun bt101 => (some ((bt101.1 == (wrap64 (a1 - 1))), bt101.2))) = some (r1, r2) := h
 clear h
 replace H := Option.bind_eq_some_iff.mp H
 obtain ⟨⟨t101, t102⟩, A30, H⟩ := H
 replace H : (some ((t101 == (wrap64 (a1 - 1))), t102)) = some (r1, r2) := H
 have A3 := Qz.mk A30
 clear A30
 simp only [Option.some.injEq, Prod.mk.injEq] at H
 obtain ⟨rfl, rfl⟩ := H
 go_enter Try.func73, Try.ntmps73
 go_wp2_with (first | ((with_reducible refine qu (f := 80) rfl ?_); refine goesL_ (some 7) rfl rfl Try.func80 (by kernel_rfl) rfl #[.pointer (some ⟨g, 0, none⟩), .int .i64 a1] rfl (by (try simp only [List.map_toArray, List.map_cons, List.map_nil]); first | done | rfl) ?_; (with_reducible refine (spec_l1Rd_below.calls g s0_0 s0_1 a1 t101 t102 w0 _ ?side1 ?side2 A3.out).mono ?_); (case side1 => repeat (first | (with_reducible first | exact HI0.out | apply IsS123.alloc | apply IsS123.drewN | apply IsS123.drew | apply IsS123.set_1) | exact HI0.out)); (case side2 => repeat (first | (with_reducible first | exact HB.out | apply qh | apply qg | apply qi | refine qe ?_ (IsS123.ge HI0.out)) | exact HB.out)); rintro e w4 ⟨rfl, hi, hb, hk⟩; refine ⟨_, rfl, ?_⟩; replace HK := Qz.mk (KeepBut.trans (by repeat (first | (with_reducible first | exact HK.out | apply KeepBut.set_ | apply ql | apply qo | apply qm) | exact HK.out)) hk (.inl rfl)); replace HB := Qz.mk (hb); replace HI0 := Qz.mk (hi); (try clear hb); (try clear hk); (try clear hi)))
 go_ret
 exact ⟨by first | rfl | (simp [qy, qx] <;> rfl) | (simp [*, qy, qx] <;> rfl), by repeat (first | (with_reducible first | exact HI0.out | apply IsS123.alloc | apply IsS123.drewN | apply IsS123.drew | apply IsS123.set_1) | exact HI0.out), by repeat (first | (with_reducible first | exact HB.out | apply qh | apply qg | apply qi | refine qe ?_ (IsS123.ge HI0.out)) | exact HB.out), by repeat (first | (with_reducible first | exact HK.out | apply KeepBut.set_ | apply ql | apply qo | apply qm) | exact HK.out)⟩
theorem yq15 {P : Prop} (h : P := by repeat (first | (with_reducible first | exact HI0.out | apply IsS123.alloc | apply IsS123.drewN | apply IsS123.drew | apply IsS123.set_1) | exact HI0.out)) : P := h
theorem yq16 {P : Prop} (h : P := by repeat (first | (with_reducible first | exact HK.out | apply KeepBut.set_ | apply ql | apply qo | apply qm) | exact HK.out)) : P := h
theorem yq17 {P : Prop} (h : P := by repeat (first | (with_reducible first | exact HB.out | apply qh | apply qg | apply qi | refine qe ?_ (IsS123.ge HI0.out)) | exact HB.out)) : P := h
theorem yq18 {P : Prop} (h : P := by (try simp only [List.map_toArray, List.map_cons, List.map_nil]); first | done | rfl) : P := h
def spec_l1Rd_off.f (k : Nat) (s0_0 : List Int) (s0_1 : Int) (a1 : Int) (a2 : Int) : Option (Int × Int) := (spec_l1Rd_once.f s0_0 s0_1 24).bind fun bt101 => (if bt101.1 = true then ((some (([wrap64 (a1 - 1), wrap64 (a2 + 1), (-9223372036854775808), 9223372036854775807] : List Int) : List Int)).bind fun y103 => ((spec_l1Rd_below.f s0_0 bt101.2 4).bind fun bt106 => (if 0 ≤ bt106.1 then (if bt106.1 < (y103.length : Int) then (some (rd y103 bt106.1, bt106.2)) else (none)) else (none)))) else ((spec_l1Rd_near.f k s0_0 bt101.2 a1 a2).bind fun bt109 => (some (bt109.1, bt109.2))))
set_option maxHeartbeats 8000000 in
set_option maxRecDepth 100000 in
theorem spec_l1Rd_off.calls (k : Nat) (g : Nat) (s0_0 : List Int) (s0_1 : Int) (a1 : Int) (a2 : Int) (r1 : Int) (r2 : Int) (w0 w : World) (hI : IsS123 w0 w g s0_0 s0_1) (hB : Below w0.heap.size w0 w) (h : spec_l1Rd_off.f k s0_0 s0_1 a1 a2 = some (r1, r2)) :
  Calls Try.prog 72 #[.pointer (some ⟨g, 0, none⟩), .int .i64 a1, .int .i64 a2] w fun e w' => e = .returned (.int .i64 r1) ∧ IsS123 w0 w' g s0_0 r2 ∧ Below w0.heap.size w0 w' ∧ KeepBut w w' g none := by
 have HI0 := Qz.mk hI
 have HK := Qz.mk (KeepBut.refl w g none)
 have HL := Qz.mk hB.size
 clear hI
 have HW0 := Qz.mk hB.size
 have HB := Qz.mk hB
 clear hB
 have H : ((spec_l1Rd_once.f s0_0 s0_1 24).bind fun bt101 => (if bt101.1 = true then ((some (([wrap64 (a1 - 1), wrap64 (a2 + 1), (-9223372036854775808), 9223372036854775807] : List Int) : List Int)).bind fun y103 => ((spec_l1Rd_below.f s0_0 bt101.2 4).bind fun bt106 => (if 0 ≤ bt106.1 then (if bt106.1 < (y103.length : Int) then (some (rd y103 bt106.1, bt106.2)) else (none)) else (none)))) else ((spec_l1Rd_near.f k s0_0 bt101.2 a1 a2).bind fun bt109 => (some (bt109.1, bt109.2))))) = some (r1, r2) := h
 clear h
 replace H := Option.bind_eq_some_iff.mp H
 obtain ⟨⟨t101, t102⟩, A40, H⟩ := H
 replace H : (if t101 = true then ((some (([wrap64 (a1 - 1), wrap64 (a2 + 1), (-9223372036854775808), 9223372036854775807] : List Int) : List Int)).bind fun y103 => ((spec_l1Rd_below.f s0_0 t102 4).bind fun bt106 => (if 0 ≤ bt106.1 then (if bt106.1 < (y103.length : Int) then (some (rd y103 bt106.1, bt106.2)) else (none)) else (none)))) else ((spec_l1Rd_near.f k s0_0 t102 a1 a2).bind fun bt109 => (some (bt109.1, bt109.2)))) = some (r1, r2) := H
 have A4 := Qz.mk A40
 clear A40
 by_cases c5 : t101 = true
 ·subst c5
  have H1 : ((some (([wrap64 (a1 - 1), wrap64 (a2 + 1), (-9223372036854775808), 9223372036854775807] : List Int) : List Int)).bind fun y103 => ((spec_l1Rd_below.f s0_0 t102 4).bind fun bt106 => (if 0 ≤ bt106.1 then (if bt106.1 < (y103.length : Int) then (some (rd y103 bt106.1, bt106.2)) else (none)) else (none)))) = some (r1, r2) := by rw [if_pos rfl] at H; exact H
  clear H
  have H := H1
  clear H1
  obtain ⟨y103, hy103⟩ : ∃ y_ : List Int, y_ = (([wrap64 (a1 - 1), wrap64 (a2 + 1), (-9223372036854775808), 9223372036854775807] : List Int)) := ⟨_, rfl⟩
  replace H : ((spec_l1Rd_below.f s0_0 t102 4).bind fun bt106 => (if 0 ≤ bt106.1 then (if bt106.1 < (y103.length : Int) then (some (rd y103 bt106.1, bt106.2)) else (none)) else (none))) = some (r1, r2) := by first | (rw [hy103]; with_reducible exact H) | (have H2_ := (Option.bind_some _ _).symm.trans H; rw [hy103]; with_reducible exact H2_) | (have H2_ := (Option.bind_some _ _).symm.trans H; with_reducible exact H2_) | with_reducible exact H | (rw [hy103]; exact H) | exact H
  have Ny103 := Qz.mk hy103
  clear hy103
  replace H := Option.bind_eq_some_iff.mp H
  obtain ⟨⟨t106, t107⟩, A60, H⟩ := H
  replace H : (if 0 ≤ t106 then (if t106 < (y103.length : Int) then (some (rd y103 t106, t107)) else (none)) else (none)) = some (r1, r2) := H
  have A6 := Qz.mk A60
  clear A60
  by_cases c7 : 0 ≤ t106
  ·rw [if_pos c7] at H
   have c7b0 : decide (0 ≤ t106) = true := decide_eq_true c7
   clear c7
   by_cases c8 : t106 < (y103.length : Int)
   ·rw [if_pos c8] at H
    have c8b0 : decide (t106 < (y103.length : Int)) = true := decide_eq_true c8
    clear c8
    simp only [Option.some.injEq, Prod.mk.injEq] at H
    obtain ⟨rfl, rfl⟩ := H
    go_enter Try.func72, Try.ntmps72
    go_wp2_with (first | ((with_reducible refine qu (f := 73) rfl ?_); refine goesL_ (some 8) rfl rfl Try.func73 (by kernel_rfl) rfl #[.pointer (some ⟨g, 0, none⟩), .int .i64 24] rfl yq18 ?_; (with_reducible refine (spec_l1Rd_once.calls g s0_0 s0_1 24 true t102 w0 _ ?side1 ?side2 A4.out).mono ?_); (case side1 => exact yq15); (case side2 => exact yq17); rintro e w9 ⟨rfl, hi, hb, hk⟩; refine ⟨_, rfl, ?_⟩; replace HK := Qz.mk (KeepBut.trans yq16 hk (.inl rfl)); replace HB := Qz.mk (hb); replace HI0 := Qz.mk (hi); (try clear hb); (try clear hk); (try clear hi)) | ((with_reducible refine gate_dst (N := 13) rfl ?_); refine Kd.R_lit (Kd.int .i64) _ 2 ?hg (N := 13) ?hd (xs := ([wrap64 (a1 - 1), wrap64 (a2 + 1), (-9223372036854775808), 9223372036854775807] : List Int)) (inner := [.int .i64 (wrap64 (a1 - 1)), .int .i64 (wrap64 (a2 + 1)), .int .i64 (-9223372036854775808), .int .i64 9223372036854775807]) (ok := fun _ => True) (okp := fun _ => True) ?hr ?hp (fun _ hk => hk) trivial (Below.refl _ _) (Nat.le_refl _) (by simp) ?_; (case hd => rfl); (case hg => rfl); (case hr => first | (go_simp; done) | (go_simp; rfl)); (case hp => exact (Reps.one (show Kd.M (Kd.int .i64) _ _ _ (wrap64 (a1 - 1)) [.int .i64 (wrap64 (a1 - 1))] from rfl) (Reps.one (show Kd.M (Kd.int .i64) _ _ _ (wrap64 (a2 + 1)) [.int .i64 (wrap64 (a2 + 1))] from rfl) (Reps.one (show Kd.M (Kd.int .i64) _ _ _ (-9223372036854775808) [.int .i64 (-9223372036854775808)] from rfl) (Reps.one (show Kd.M (Kd.int .i64) _ _ _ 9223372036854775807 [.int .i64 9223372036854775807] from rfl) (Reps.none _ _)))))); intro v104 w10 ho11 hb hg_ hnew_; clear hg_ hnew_; (first | rw [← Ny103.out] at ho11 | (simp only [Int.reduceToNat] at ho11; rw [← Ny103.out] at ho11)); have HO105 := Qz.mk (Kd.R_lower ho11 (qc1 (w := w) (g := g) (row := none) yq16)); replace HK := Qz.mk (KeepBut.trans yq16 (KeepBut.of_below hb g none) (.inl rfl)); replace HB := Qz.mk (qq yq17 hb); replace HI0 := Qz.mk (IsS123.below yq15 hb); clear hb ho11) | ((with_reducible refine qu (f := 80) rfl ?_); refine goesL_ (some 15) rfl rfl Try.func80 (by kernel_rfl) rfl #[.pointer (some ⟨g, 0, none⟩), .int .i64 4] rfl yq18 ?_; (with_reducible refine (spec_l1Rd_below.calls g s0_0 t102 4 t106 t107 w0 _ ?side1 ?side2 A6.out).mono ?_); (case side1 => exact yq15); (case side2 => exact yq17); rintro e w12 ⟨rfl, hi, hb, hk⟩; refine ⟨_, rfl, ?_⟩; replace HO105 := Qz.mk (Kd.R_mono (Kd.R_keep (IsS123.apart (show IsS123 w0 _ g s0_0 t102 from by repeat (first | (with_reducible first | exact HI0.out | apply IsS123.alloc | apply IsS123.drewN | apply IsS123.drew | apply IsS123.set_1) | exact HI0.out)) (by (with_reducible repeat (first | apply Kd.R_alloc | apply Kd.R_drewN | apply Kd.R_drew)); exact HO105.out) (by decide)) hk (fun _ h => h.2)) (fun _ h => h.1)); replace HK := Qz.mk (KeepBut.trans yq16 hk (.inl rfl)); replace HB := Qz.mk (hb); replace HI0 := Qz.mk (hi); (try clear hb); (try clear hk); (try clear hi); obtain ⟨Ao13, co13, eo13⟩ := Kd.R_slice HO105.out; subst eo13; have p108 : 0 ≤ (t106 : Int) := of_decide_eq_true (by first | (with_reducible assumption) | assumption); have q108 : t106 < (y103.length : Int) := of_decide_eq_true (by first | (with_reducible assumption) | assumption); obtain ⟨ad108, e108, hx108_0⟩ := Kd.at_int (Kd.R_reads' HO105.out).2.2 t106 p108 q108; cases e108; replace p108 := eq_true p108; replace q108 := eq_true q108))
    go_ret
    exact ⟨by first | rfl | (simp [qy, qx] <;> rfl) | (simp [*, qy, qx] <;> rfl), by repeat (first | (with_reducible first | exact HI0.out | apply IsS123.alloc | apply IsS123.drewN | apply IsS123.drew | apply IsS123.set_1) | exact HI0.out), by repeat (first | (with_reducible first | exact HB.out | apply qh | apply qg | apply qi | refine qe ?_ (IsS123.ge HI0.out)) | exact HB.out), by repeat (first | (with_reducible first | exact HK.out | apply KeepBut.set_ | apply ql | apply qo | apply qm) | exact HK.out)⟩
   ·rw [if_neg c8] at H
    exact absurd H (by simp)
  ·rw [if_neg c7] at H
   exact absurd H (by simp)
 ·replace c5 := Bool.eq_false_iff.mpr c5
  subst c5
  have H1 : ((spec_l1Rd_near.f k s0_0 t102 a1 a2).bind fun bt109 => (some (bt109.1, bt109.2))) = some (r1, r2) := by rw [if_neg (show ¬ (false = true) by decide)] at H; exact H
  clear H
  have H := H1
  clear H1
  replace H := Option.bind_eq_some_iff.mp H
  obtain ⟨⟨t109, t110⟩, A140, H⟩ := H
  replace H : (some (t109, t110)) = some (r1, r2) := H
  have A14 := Qz.mk A140
  clear A140
  simp only [Option.some.injEq, Prod.mk.injEq] at H
  obtain ⟨rfl, rfl⟩ := H
  go_enter Try.func72, Try.ntmps72
  go_wp2_with (first | ((with_reducible refine qu (f := 73) rfl ?_); refine goesL_ (some 8) rfl rfl Try.func73 (by kernel_rfl) rfl #[.pointer (some ⟨g, 0, none⟩), .int .i64 24] rfl yq18 ?_; (with_reducible refine (spec_l1Rd_once.calls g s0_0 s0_1 24 false t102 w0 _ ?side1 ?side2 A4.out).mono ?_); (case side1 => exact yq15); (case side2 => exact yq17); rintro e w15 ⟨rfl, hi, hb, hk⟩; refine ⟨_, rfl, ?_⟩; replace HK := Qz.mk (KeepBut.trans yq16 hk (.inl rfl)); replace HB := Qz.mk (hb); replace HI0 := Qz.mk (hi); (try clear hb); (try clear hk); (try clear hi)) | ((with_reducible refine qu (f := 102) rfl ?_); refine goesL_ (some 21) rfl rfl Try.func102 (by kernel_rfl) rfl #[.pointer (some ⟨g, 0, none⟩), .int .i64 a1, .int .i64 a2] rfl yq18 ?_; (with_reducible refine (spec_l1Rd_near.calls k g s0_0 t102 a1 a2 t109 t110 w0 _ ?side1 ?side2 A14.out).mono ?_); (case side1 => exact yq15); (case side2 => exact yq17); rintro e w16 ⟨rfl, hi, hb, hk⟩; refine ⟨_, rfl, ?_⟩; replace HK := Qz.mk (KeepBut.trans yq16 hk (.inl rfl)); replace HB := Qz.mk (hb); replace HI0 := Qz.mk (hi); (try clear hb); (try clear hk); (try clear hi)))
  go_ret
  exact ⟨by first | rfl | (simp [qy, qx] <;> rfl) | (simp [*, qy, qx] <;> rfl), by repeat (first | (with_reducible first | exact HI0.out | apply IsS123.alloc | apply IsS123.drewN | apply IsS123.drew | apply IsS123.set_1) | exact HI0.out), by repeat (first | (with_reducible first | exact HB.out | apply qh | apply qg | apply qi | refine qe ?_ (IsS123.ge HI0.out)) | exact HB.out), by repeat (first | (with_reducible first | exact HK.out | apply KeepBut.set_ | apply ql | apply qo | apply qm) | exact HK.out)⟩
theorem yq19 {P : Prop} (h : P := by repeat (first | (with_reducible first | exact HK.out | apply KeepBut.set_ | apply ql | apply qo | apply qm) | exact HK.out)) : P := h
def spec_l1Rd_user.f (s0_0 : List Int) (s0_1 : Int) : Option (ByteArray × Int) := (some (([(⟨#[97]⟩ : ByteArray), (⟨#[98]⟩ : ByteArray), (⟨#[97, 98]⟩ : ByteArray), (⟨#[97, 98, 99]⟩ : ByteArray), (⟨#[97, 98, 100]⟩ : ByteArray), (⟨#[107, 101, 121]⟩ : ByteArray), (⟨#[107, 101, 121, 49]⟩ : ByteArray), (⟨#[107, 101, 121, 50]⟩ : ByteArray), (⟨#[122, 122]⟩ : ByteArray), (⟨#[97, 0]⟩ : ByteArray)] : List ByteArray) : List ByteArray)).bind fun y101 => ((spec_l1Rd_below.f s0_0 s0_1 10).bind fun bt104 => (if 0 ≤ bt104.1 then (if bt104.1 < (y101.length : Int) then (some (rdOf ByteArray.empty y101 bt104.1, bt104.2)) else (none)) else (none)))
set_option maxHeartbeats 8000000 in
set_option maxRecDepth 100000 in
theorem spec_l1Rd_user.calls (g : Nat) (s0_0 : List Int) (s0_1 : Int) (r1 : ByteArray) (r2 : Int) (w0 w : World) (hI : IsS123 w0 w g s0_0 s0_1) (hB : Below w0.heap.size w0 w) (h : spec_l1Rd_user.f s0_0 s0_1 = some (r1, r2)) :
  Calls Try.prog 74 #[.pointer (some ⟨g, 0, none⟩)] w fun e w' => e = .returned (.string r1) ∧ IsS123 w0 w' g s0_0 r2 ∧ Below w0.heap.size w0 w' ∧ KeepBut w w' g none := by
 have HI0 := Qz.mk hI
 have HK := Qz.mk (KeepBut.refl w g none)
 have HL := Qz.mk hB.size
 clear hI
 have HW0 := Qz.mk hB.size
 have HB := Qz.mk hB
 clear hB
 have H : ((some (([(⟨#[97]⟩ : ByteArray), (⟨#[98]⟩ : ByteArray), (⟨#[97, 98]⟩ : ByteArray), (⟨#[97, 98, 99]⟩ : ByteArray), (⟨#[97, 98, 100]⟩ : ByteArray), (⟨#[107, 101, 121]⟩ : ByteArray), (⟨#[107, 101, 121, 49]⟩ : ByteArray), (⟨#[107, 101, 121, 50]⟩ : ByteArray), (⟨#[122, 122]⟩ : ByteArray), (⟨#[97, 0]⟩ : ByteArray)] : List ByteArray) : List ByteArray)).bind fun y101 => ((spec_l1Rd_below.f s0_0 s0_1 10).bind fun bt104 => (if 0 ≤ bt104.1 then (if bt104.1 < (y101.length : Int) then (some (rdOf ByteArray.empty y101 bt104.1, bt104.2)) else (none)) else (none)))) = some (r1, r2) := h
 clear h
 obtain ⟨y101, hy101⟩ : ∃ y_ : List ByteArray, y_ = (([(⟨#[97]⟩ : ByteArray), (⟨#[98]⟩ : ByteArray), (⟨#[97, 98]⟩ : ByteArray), (⟨#[97, 98, 99]⟩ : ByteArray), (⟨#[97, 98, 100]⟩ : ByteArray), (⟨#[107, 101, 121]⟩ : ByteArray), (⟨#[107, 101, 121, 49]⟩ : ByteArray), (⟨#[107, 101, 121, 50]⟩ : ByteArray), (⟨#[122, 122]⟩ : ByteArray), (⟨#[97, 0]⟩ : ByteArray)] : List ByteArray)) := ⟨_, rfl⟩
 replace H : ((spec_l1Rd_below.f s0_0 s0_1 10).bind fun bt104 => (if 0 ≤ bt104.1 then (if bt104.1 < (y101.length : Int) then (some (rdOf ByteArray.empty y101 bt104.1, bt104.2)) else (none)) else (none))) = some (r1, r2) := by first | (rw [hy101]; with_reducible exact H) | (have H2_ := (Option.bind_some _ _).symm.trans H; rw [hy101]; with_reducible exact H2_) | (have H2_ := (Option.bind_some _ _).symm.trans H; with_reducible exact H2_) | with_reducible exact H | (rw [hy101]; exact H) | exact H
 have Ny101 := Qz.mk hy101
 clear hy101
 replace H := Option.bind_eq_some_iff.mp H
 obtain ⟨⟨t104, t105⟩, A20, H⟩ := H
 replace H : (if 0 ≤ t104 then (if t104 < (y101.length : Int) then (some (rdOf ByteArray.empty y101 t104, t105)) else (none)) else (none)) = some (r1, r2) := H
 have A2 := Qz.mk A20
 clear A20
 by_cases c3 : 0 ≤ t104
 ·rw [if_pos c3] at H
  have c3b0 : decide (0 ≤ t104) = true := decide_eq_true c3
  clear c3
  by_cases c4 : t104 < (y101.length : Int)
  ·rw [if_pos c4] at H
   have c4b0 : decide (t104 < (y101.length : Int)) = true := decide_eq_true c4
   clear c4
   simp only [Option.some.injEq, Prod.mk.injEq] at H
   obtain ⟨rfl, rfl⟩ := H
   go_enter Try.func74, Try.ntmps74
   go_wp2_with (first | ((with_reducible refine gate_dst (N := 3) rfl ?_); refine Kd.R_lit Kd.string _ 9 ?hg (N := 3) ?hd (xs := ([(⟨#[97]⟩ : ByteArray), (⟨#[98]⟩ : ByteArray), (⟨#[97, 98]⟩ : ByteArray), (⟨#[97, 98, 99]⟩ : ByteArray), (⟨#[97, 98, 100]⟩ : ByteArray), (⟨#[107, 101, 121]⟩ : ByteArray), (⟨#[107, 101, 121, 49]⟩ : ByteArray), (⟨#[107, 101, 121, 50]⟩ : ByteArray), (⟨#[122, 122]⟩ : ByteArray), (⟨#[97, 0]⟩ : ByteArray)] : List ByteArray)) (inner := [.string (⟨#[97]⟩ : ByteArray), .string (⟨#[98]⟩ : ByteArray), .string (⟨#[97, 98]⟩ : ByteArray), .string (⟨#[97, 98, 99]⟩ : ByteArray), .string (⟨#[97, 98, 100]⟩ : ByteArray), .string (⟨#[107, 101, 121]⟩ : ByteArray), .string (⟨#[107, 101, 121, 49]⟩ : ByteArray), .string (⟨#[107, 101, 121, 50]⟩ : ByteArray), .string (⟨#[122, 122]⟩ : ByteArray), .string (⟨#[97, 0]⟩ : ByteArray)]) (ok := fun _ => True) (okp := fun _ => True) ?hr ?hp (fun _ hk => hk) trivial (Below.refl _ _) (Nat.le_refl _) (by simp) ?_; (case hd => rfl); (case hg => rfl); (case hr => first | (go_simp; done) | (go_simp; rfl)); (case hp => exact (Reps.one (show Kd.M Kd.string _ _ _ (⟨#[97]⟩ : ByteArray) [.string (⟨#[97]⟩ : ByteArray)] from rfl) (Reps.one (show Kd.M Kd.string _ _ _ (⟨#[98]⟩ : ByteArray) [.string (⟨#[98]⟩ : ByteArray)] from rfl) (Reps.one (show Kd.M Kd.string _ _ _ (⟨#[97, 98]⟩ : ByteArray) [.string (⟨#[97, 98]⟩ : ByteArray)] from rfl) (Reps.one (show Kd.M Kd.string _ _ _ (⟨#[97, 98, 99]⟩ : ByteArray) [.string (⟨#[97, 98, 99]⟩ : ByteArray)] from rfl) (Reps.one (show Kd.M Kd.string _ _ _ (⟨#[97, 98, 100]⟩ : ByteArray) [.string (⟨#[97, 98, 100]⟩ : ByteArray)] from rfl) (Reps.one (show Kd.M Kd.string _ _ _ (⟨#[107, 101, 121]⟩ : ByteArray) [.string (⟨#[107, 101, 121]⟩ : ByteArray)] from rfl) (Reps.one (show Kd.M Kd.string _ _ _ (⟨#[107, 101, 121, 49]⟩ : ByteArray) [.string (⟨#[107, 101, 121, 49]⟩ : ByteArray)] from rfl) (Reps.one (show Kd.M Kd.string _ _ _ (⟨#[107, 101, 121, 50]⟩ : ByteArray) [.string (⟨#[107, 101, 121, 50]⟩ : ByteArray)] from rfl) (Reps.one (show Kd.M Kd.string _ _ _ (⟨#[122, 122]⟩ : ByteArray) [.string (⟨#[122, 122]⟩ : ByteArray)] from rfl) (Reps.one (show Kd.M Kd.string _ _ _ (⟨#[97, 0]⟩ : ByteArray) [.string (⟨#[97, 0]⟩ : ByteArray)] from rfl) (Reps.none _ _)))))))))))); intro v102 w5 ho6 hb hg_ hnew_; clear hg_ hnew_; (first | rw [← Ny101.out] at ho6 | (simp only [Int.reduceToNat] at ho6; rw [← Ny101.out] at ho6)); have HO103 := Qz.mk (Kd.R_lower ho6 (qc1 (w := w) (g := g) (row := none) yq19)); replace HK := Qz.mk (KeepBut.trans yq19 (KeepBut.of_below hb g none) (.inl rfl)); replace HB := Qz.mk (qq (by repeat (first | (with_reducible first | exact HB.out | apply qh | apply qg | apply qi | refine qe ?_ (IsS123.ge HI0.out)) | exact HB.out)) hb); replace HI0 := Qz.mk (IsS123.below (by repeat (first | (with_reducible first | exact HI0.out | apply IsS123.alloc | apply IsS123.drewN | apply IsS123.drew | apply IsS123.set_1) | exact HI0.out)) hb); clear hb ho6) | ((with_reducible refine qu (f := 80) rfl ?_); refine goesL_ (some 5) rfl rfl Try.func80 (by kernel_rfl) rfl #[.pointer (some ⟨g, 0, none⟩), .int .i64 10] rfl (by (try simp only [List.map_toArray, List.map_cons, List.map_nil]); first | done | rfl) ?_; (with_reducible refine (spec_l1Rd_below.calls g s0_0 s0_1 10 t104 t105 w0 _ ?side1 ?side2 A2.out).mono ?_); (case side1 => repeat (first | (with_reducible first | exact HI0.out | apply IsS123.alloc | apply IsS123.drewN | apply IsS123.drew | apply IsS123.set_1) | exact HI0.out)); (case side2 => repeat (first | (with_reducible first | exact HB.out | apply qh | apply qg | apply qi | refine qe ?_ (IsS123.ge HI0.out)) | exact HB.out)); rintro e w7 ⟨rfl, hi, hb, hk⟩; refine ⟨_, rfl, ?_⟩; replace HO103 := Qz.mk (Kd.R_mono (Kd.R_keep (IsS123.apart (show IsS123 w0 _ g s0_0 s0_1 from by repeat (first | (with_reducible first | exact HI0.out | apply IsS123.alloc | apply IsS123.drewN | apply IsS123.drew | apply IsS123.set_1) | exact HI0.out)) (by (with_reducible repeat (first | apply Kd.R_alloc | apply Kd.R_drewN | apply Kd.R_drew)); exact HO103.out) (by decide)) hk (fun _ h => h.2)) (fun _ h => h.1)); replace HK := Qz.mk (KeepBut.trans yq19 hk (.inl rfl)); replace HB := Qz.mk (hb); replace HI0 := Qz.mk (hi); (try clear hb); (try clear hk); (try clear hi); obtain ⟨Ao8, co8, eo8⟩ := Kd.R_slice HO103.out; subst eo8; have p106 : 0 ≤ (t104 : Int) := of_decide_eq_true (by first | (with_reducible assumption) | assumption); have q106 : t104 < (y101.length : Int) := of_decide_eq_true (by first | (with_reducible assumption) | assumption); obtain ⟨ad106, e106, hx106_0⟩ := Kd.at_string (Kd.R_reads' HO103.out).2.2 t104 p106 q106; cases e106; replace p106 := eq_true p106; replace q106 := eq_true q106))
   go_ret
   exact ⟨by first | rfl | (simp [qy, qx] <;> rfl) | (simp [*, qy, qx] <;> rfl), by repeat (first | (with_reducible first | exact HI0.out | apply IsS123.alloc | apply IsS123.drewN | apply IsS123.drew | apply IsS123.set_1) | exact HI0.out), by repeat (first | (with_reducible first | exact HB.out | apply qh | apply qg | apply qi | refine qe ?_ (IsS123.ge HI0.out)) | exact HB.out), by repeat (first | (with_reducible first | exact HK.out | apply KeepBut.set_ | apply ql | apply qo | apply qm) | exact HK.out)⟩
  ·rw [if_neg c4] at H
   exact absurd H (by simp)
 ·rw [if_neg c3] at H
  exact absurd H (by simp)
end Go.Proofs.Ytcgejabkjljeeaa.P
end

section
namespace Go.Proofs.Ytcgejabkjljeeaa.P
open Go.RowKit Go.Proofs.YtcgejabkjljeeaaW.PrintWords Go.Proofs.YtcgejabkjljeeaaW.PrintLast Go.Proofs.YtcgejabkjljeeaaW.PrintMore
attribute [local go_sem] str_gtr str_leq str_geq max2_int min2_int max_two min_two qe1 qd1 max_four min_four
set_option linter.unusedVariables false
set_option linter.unusedSimpArgs false
theorem yq20 {P : Prop} (h : P := by repeat (first | (with_reducible first | exact HI0.out | apply IsS123.alloc | apply IsS123.drewN | apply IsS123.drew) | exact HI0.out)) : P := h
theorem yq21 {P : Prop} (h : P := by repeat (first | (with_reducible first | exact HK.out | apply ql | apply qo | apply qm) | exact HK.out)) : P := h
theorem yq22 {P : Prop} (h : P := by repeat (first | (with_reducible first | exact HB.out | apply qh | apply qg | apply qi) | exact HB.out)) : P := h
theorem yq23 {P : Prop} (h : P := by (try simp only [List.map_toArray, List.map_cons, List.map_nil]); first | done | rfl) : P := h
def tmin (a b : ByteArray) : ByteArray := if (!Op.bytesLess b.toList a.toList) = true then a else b
def tmax (a b : ByteArray) : ByteArray := if (!Op.bytesLess a.toList b.toList) = true then a else b
theorem min2_str (x y : ByteArray) : Builtin.min2 (.string x) (.string y) = pure (.string (tmin x y)) := by
 have e := bytesLess_swap x.toList y.toList
 simp only [Builtin.min2, Op.stringOp, tmin, ← e, Bool.not_not]
 simp [asBool]
theorem max2_str (x y : ByteArray) : Builtin.max2 (.string x) (.string y) = pure (.string (tmax x y)) := by
 simp [Builtin.max2, Op.stringOp, asBool, tmax]
attribute [local go_sem] min2_str max2_str
def spec_l1Rd_meta.f (k : Nat) (s0_0 : List Int) (s0_1 : Int) : Option (Int × Int × ByteArray × ByteArray × Int × Int) := (spec_l1Rd_user.f s0_0 s0_1).bind fun a => (spec_l1Rd_user.f s0_0 a.2).bind fun b => (spec_l1Rd_near.f k s0_0 b.2 0 12).bind fun n => (spec_l1Rd_below.f s0_0 n.2 4).bind fun e => (spec_l1Rd_near.f k s0_0 e.2 0 40).bind fun c => (spec_l1Rd_once.f s0_0 c.2 24).bind fun o => if o.1 = true then (spec_l1Rd_off.f k s0_0 o.2 0 3).bind fun v => some (wrap64 (1 + n.1), v.1, tmin a.1 b.1, tmax a.1 b.1, wrap64 (1 + c.1), v.2) else some (wrap64 (1 + n.1), e.1, tmin a.1 b.1, tmax a.1 b.1, wrap64 (1 + c.1), o.2)
set_option maxHeartbeats 8000000 in
set_option maxRecDepth 100000 in
theorem spec_l1Rd_meta.calls (k : Nat) (g : Nat) (s0_0 : List Int) (s0_1 : Int) (r1 r2 : Int) (r3 r4 : ByteArray) (r5 r6 : Int) (w0 w : World) (hI : IsS123 w0 w g s0_0 s0_1) (hB : Below w0.heap.size w0 w) (h : spec_l1Rd_meta.f k s0_0 s0_1 = some (r1, r2, r3, r4, r5, r6)) :
  Calls Try.prog 103 #[.pointer (some ⟨g, 0, none⟩)] w fun e w' => e = .returned (.agg #[.int .i64 r1, .int .i64 r2, .string r3, .string r4, .int .i64 r5]) ∧ IsS123 w0 w' g s0_0 r6 ∧ Below w0.heap.size w0 w' ∧ KeepBut w w' g none := by
 have HI0 := Qz.mk hI
 have HK := Qz.mk (KeepBut.refl w g none)
 have HB := Qz.mk hB
 have hgw := hI.lt
 have hL := Qz.mk hB.size
 clear hI hB
 have HZ := Qz.mk (blk_new w (.cells #[.int .i64 0, .int .i64 0, .string ⟨#[]⟩, .string ⟨#[]⟩, .int .i64 0] 66))
 unfold spec_l1Rd_meta.f at h
 obtain ⟨⟨a1, a2⟩, A1, h⟩ := Option.bind_eq_some_iff.mp h
 obtain ⟨⟨b1, b2⟩, A2, h⟩ := Option.bind_eq_some_iff.mp h
 obtain ⟨⟨n1, n2⟩, A3, h⟩ := Option.bind_eq_some_iff.mp h
 obtain ⟨⟨e1, e2⟩, A4, h⟩ := Option.bind_eq_some_iff.mp h
 obtain ⟨⟨c1, c2⟩, A5, h⟩ := Option.bind_eq_some_iff.mp h
 obtain ⟨⟨o1, o2⟩, A6, h⟩ := Option.bind_eq_some_iff.mp h
 replace A1 := Qz.mk A1
 replace A2 := Qz.mk A2
 replace A3 := Qz.mk A3
 replace A4 := Qz.mk A4
 replace A5 := Qz.mk A5
 replace A6 := Qz.mk A6
 cases o1 with
 | false =>
  simp only [Bool.false_eq_true, if_false, Option.some.injEq, Prod.mk.injEq] at h
  obtain ⟨rfl, rfl, rfl, rfl, rfl, rfl⟩ := h
  go_enter Try.func103, Try.ntmps103
  go_wp2_with (first | ((with_reducible refine qu (f := 74) rfl ?_); refine goesL_ (some 7) rfl rfl Try.func74 (by kernel_rfl) rfl #[.pointer (some ⟨g, 0, none⟩)] rfl yq23 ?_;  (with_reducible refine (spec_l1Rd_user.calls g s0_0 s0_1 a1 a2 w0 _ ?side1 ?side2 A1.out).mono ?_); (case side1 => exact yq20); (case side2 => exact yq22); rintro e w1 ⟨rfl, hi, hb, hk⟩; refine ⟨_, rfl, ?_⟩; clear A1; have n0_ := Qz.mk (KeepBut.trans yq21 hk (.inl rfl)); replace HZ := Qz.mk (KeepBut.blk hk HZ.out (Nat.ne_of_gt hgw) (by simp)); have n1_ := Qz.mk (hb); have n2_ := Qz.mk (hi); clear HK; clear HB; clear HI0; have HK := n0_; have HB := n1_; have HI0 := n2_; clear n0_ n1_ n2_; (try clear hb); (try clear hk); (try clear hi)) | ((with_reducible refine qu (f := 74) rfl ?_); refine goesL_ (some 9) rfl rfl Try.func74 (by kernel_rfl) rfl #[.pointer (some ⟨g, 0, none⟩)] rfl yq23 ?_;  (with_reducible refine (spec_l1Rd_user.calls g s0_0 a2 b1 b2 w0 _ ?side1 ?side2 A2.out).mono ?_); (case side1 => exact yq20); (case side2 => exact yq22); rintro e w2 ⟨rfl, hi, hb, hk⟩; refine ⟨_, rfl, ?_⟩; clear A2; have n0_ := Qz.mk (KeepBut.trans yq21 hk (.inl rfl)); replace HZ := Qz.mk (KeepBut.blk hk HZ.out (Nat.ne_of_gt hgw) (by simp)); have n1_ := Qz.mk (hb); have n2_ := Qz.mk (hi); clear HK; clear HB; clear HI0; have HK := n0_; have HB := n1_; have HI0 := n2_; clear n0_ n1_ n2_; (try clear hb); (try clear hk); (try clear hi)) | ((with_reducible refine qu (f := 102) rfl ?_); refine goesL_ (some 11) rfl rfl Try.func102 (by kernel_rfl) rfl #[.pointer (some ⟨g, 0, none⟩), .int .i64 0, .int .i64 12] rfl yq23 ?_;  (with_reducible refine (spec_l1Rd_near.calls k g s0_0 b2 0 12 n1 n2 w0 _ ?side1 ?side2 A3.out).mono ?_); (case side1 => exact yq20); (case side2 => exact yq22); rintro e w3 ⟨rfl, hi, hb, hk⟩; refine ⟨_, rfl, ?_⟩; clear A3; have n0_ := Qz.mk (KeepBut.trans yq21 hk (.inl rfl)); replace HZ := Qz.mk (KeepBut.blk hk HZ.out (Nat.ne_of_gt hgw) (by simp)); have n1_ := Qz.mk (hb); have n2_ := Qz.mk (hi); clear HK; clear HB; clear HI0; have HK := n0_; have HB := n1_; have HI0 := n2_; clear n0_ n1_ n2_; (try clear hb); (try clear hk); (try clear hi)) | ((with_reducible refine qu (f := 80) rfl ?_); refine goesL_ (some 14) rfl rfl Try.func80 (by kernel_rfl) rfl #[.pointer (some ⟨g, 0, none⟩), .int .i64 4] rfl yq23 ?_;  (with_reducible refine (spec_l1Rd_below.calls g s0_0 n2 4 e1 e2 w0 _ ?side1 ?side2 A4.out).mono ?_); (case side1 => exact yq20); (case side2 => exact yq22); rintro e w4 ⟨rfl, hi, hb, hk⟩; refine ⟨_, rfl, ?_⟩; clear A4; have n0_ := Qz.mk (KeepBut.trans yq21 hk (.inl rfl)); replace HZ := Qz.mk (KeepBut.blk hk HZ.out (Nat.ne_of_gt hgw) (by simp)); have n1_ := Qz.mk (hb); have n2_ := Qz.mk (hi); clear HK; clear HB; clear HI0; have HK := n0_; have HB := n1_; have HI0 := n2_; clear n0_ n1_ n2_; (try clear hb); (try clear hk); (try clear hi)) | ((with_reducible refine qu (f := 102) rfl ?_); refine goesL_ (some 22) rfl rfl Try.func102 (by kernel_rfl) rfl #[.pointer (some ⟨g, 0, none⟩), .int .i64 0, .int .i64 40] rfl yq23 ?_;  (with_reducible refine (spec_l1Rd_near.calls k g s0_0 e2 0 40 c1 c2 w0 _ ?side1 ?side2 A5.out).mono ?_); (case side1 => exact yq20); (case side2 => exact yq22); rintro e w5 ⟨rfl, hi, hb, hk⟩; refine ⟨_, rfl, ?_⟩; clear A5; have n0_ := Qz.mk (KeepBut.trans yq21 hk (.inl rfl)); replace HZ := Qz.mk (KeepBut.blk hk HZ.out (Nat.ne_of_gt hgw) (by simp)); have n1_ := Qz.mk (hb); have n2_ := Qz.mk (hi); clear HK; clear HB; clear HI0; have HK := n0_; have HB := n1_; have HI0 := n2_; clear n0_ n1_ n2_; (try clear hb); (try clear hk); (try clear hi)) | (go_at_call 73; have hg5 := HI0.out.lt; have hs5 := HK.out.1; have hz5 := qv HZ.out; (with_reducible refine (spec_l1Rd_once.calls g s0_0 c2 24 false o2 w0 _ ?side1 ?side2 A6.out).mono ?_); (case side1 => exact yq20); (case side2 => exact yq22); rintro e w6 ⟨rfl, hi, hb, hk⟩;  clear A6; have n0_ := Qz.mk (KeepBut.trans yq21 hk (.inl rfl)); replace HZ := Qz.mk (KeepBut.blk hk (qa HZ.out _) (Nat.ne_of_gt hgw) (by simp)); have HM := Qz.mk (KeepBut.blk hk (blk_new _ _) (Nat.ne_of_gt hg5) (by simp)); have hm0 := (qd HM.out 0).trans rfl; have hz0 := (qd HZ.out 0).trans rfl; have hf0 := qf HZ.out 0; have hm1 := (qd HM.out 1).trans rfl; have hz1 := (qd HZ.out 1).trans rfl; have hf1 := qf HZ.out 1; have hm2 := (qd HM.out 2).trans rfl; have hz2 := (qd HZ.out 2).trans rfl; have hf2 := qf HZ.out 2; have hm3 := (qd HM.out 3).trans rfl; have hz3 := (qd HZ.out 3).trans rfl; have hf3 := qf HZ.out 3; have hm4 := (qd HM.out 4).trans rfl; have hz4 := (qd HZ.out 4).trans rfl; have hf4 := qf HZ.out 4; have n1_ := Qz.mk (hb); have n2_ := Qz.mk (hi); clear HK; clear HB; clear HI0; have HK := n0_; have HB := n1_; have HI0 := n2_; clear n0_ n1_ n2_; (try clear hb); (try clear hk); (try clear hi)))
  refine bodyPost_ret (results_cell_row rfl _ _ w.heap.size 66 #[.int .i64 (wrap64 (1 + n1)), .int .i64 e1, .string (tmin a1 b1), .string (tmax a1 b1), .int .i64 (wrap64 (1 + c1))] (0, 0) _ rfl (blk_set (blk_set (blk_set (blk_set (blk_set (HZ.out) 0 (.int .i64 (wrap64 (1 + n1)))) 1 (.int .i64 e1)) 2 (.string (tmin a1 b1))) 3 (.string (tmax a1 b1))) 4 (.int .i64 (wrap64 (1 + c1)))) Try.underlying66 rfl (by kernel_rfl)) rfl ?_
  have hgz : g ≠ w.heap.size := Nat.ne_of_lt hgw
  have hgm : g ≠ w5.heap.size := Nat.ne_of_lt hg5
  have hw5 := Nat.le_trans hL.out hs5
  exact ⟨rfl, by repeat (first | with_reducible exact HI0.out | (refine IsS123.far ?_ (by first | exact hgz | exact hgm) _)), by repeat (first | with_reducible exact HB.out | (refine qe ?_ (by first | exact hL.out | exact hw5))), by repeat (first | with_reducible exact HK.out | (refine qj ?_ (by first | exact Nat.le_refl _ | exact hs5) _))⟩
 | true =>
  simp only [if_true] at h
  obtain ⟨⟨v1, v2⟩, A7, h⟩ := Option.bind_eq_some_iff.mp h
  replace A7 := Qz.mk A7
  simp only [Option.some.injEq, Prod.mk.injEq] at h
  obtain ⟨rfl, rfl, rfl, rfl, rfl, rfl⟩ := h
  go_enter Try.func103, Try.ntmps103
  go_wp2_with (first | ((with_reducible refine qu (f := 74) rfl ?_); refine goesL_ (some 7) rfl rfl Try.func74 (by kernel_rfl) rfl #[.pointer (some ⟨g, 0, none⟩)] rfl yq23 ?_;  (with_reducible refine (spec_l1Rd_user.calls g s0_0 s0_1 a1 a2 w0 _ ?side1 ?side2 A1.out).mono ?_); (case side1 => exact yq20); (case side2 => exact yq22); rintro e w1 ⟨rfl, hi, hb, hk⟩; refine ⟨_, rfl, ?_⟩; clear A1; have n0_ := Qz.mk (KeepBut.trans yq21 hk (.inl rfl)); replace HZ := Qz.mk (KeepBut.blk hk HZ.out (Nat.ne_of_gt hgw) (by simp)); have n1_ := Qz.mk (hb); have n2_ := Qz.mk (hi); clear HK; clear HB; clear HI0; have HK := n0_; have HB := n1_; have HI0 := n2_; clear n0_ n1_ n2_; (try clear hb); (try clear hk); (try clear hi)) | ((with_reducible refine qu (f := 74) rfl ?_); refine goesL_ (some 9) rfl rfl Try.func74 (by kernel_rfl) rfl #[.pointer (some ⟨g, 0, none⟩)] rfl yq23 ?_;  (with_reducible refine (spec_l1Rd_user.calls g s0_0 a2 b1 b2 w0 _ ?side1 ?side2 A2.out).mono ?_); (case side1 => exact yq20); (case side2 => exact yq22); rintro e w2 ⟨rfl, hi, hb, hk⟩; refine ⟨_, rfl, ?_⟩; clear A2; have n0_ := Qz.mk (KeepBut.trans yq21 hk (.inl rfl)); replace HZ := Qz.mk (KeepBut.blk hk HZ.out (Nat.ne_of_gt hgw) (by simp)); have n1_ := Qz.mk (hb); have n2_ := Qz.mk (hi); clear HK; clear HB; clear HI0; have HK := n0_; have HB := n1_; have HI0 := n2_; clear n0_ n1_ n2_; (try clear hb); (try clear hk); (try clear hi)) | ((with_reducible refine qu (f := 102) rfl ?_); refine goesL_ (some 11) rfl rfl Try.func102 (by kernel_rfl) rfl #[.pointer (some ⟨g, 0, none⟩), .int .i64 0, .int .i64 12] rfl yq23 ?_;  (with_reducible refine (spec_l1Rd_near.calls k g s0_0 b2 0 12 n1 n2 w0 _ ?side1 ?side2 A3.out).mono ?_); (case side1 => exact yq20); (case side2 => exact yq22); rintro e w3 ⟨rfl, hi, hb, hk⟩; refine ⟨_, rfl, ?_⟩; clear A3; have n0_ := Qz.mk (KeepBut.trans yq21 hk (.inl rfl)); replace HZ := Qz.mk (KeepBut.blk hk HZ.out (Nat.ne_of_gt hgw) (by simp)); have n1_ := Qz.mk (hb); have n2_ := Qz.mk (hi); clear HK; clear HB; clear HI0; have HK := n0_; have HB := n1_; have HI0 := n2_; clear n0_ n1_ n2_; (try clear hb); (try clear hk); (try clear hi)) | ((with_reducible refine qu (f := 80) rfl ?_); refine goesL_ (some 14) rfl rfl Try.func80 (by kernel_rfl) rfl #[.pointer (some ⟨g, 0, none⟩), .int .i64 4] rfl yq23 ?_;  (with_reducible refine (spec_l1Rd_below.calls g s0_0 n2 4 e1 e2 w0 _ ?side1 ?side2 A4.out).mono ?_); (case side1 => exact yq20); (case side2 => exact yq22); rintro e w4 ⟨rfl, hi, hb, hk⟩; refine ⟨_, rfl, ?_⟩; clear A4; have n0_ := Qz.mk (KeepBut.trans yq21 hk (.inl rfl)); replace HZ := Qz.mk (KeepBut.blk hk HZ.out (Nat.ne_of_gt hgw) (by simp)); have n1_ := Qz.mk (hb); have n2_ := Qz.mk (hi); clear HK; clear HB; clear HI0; have HK := n0_; have HB := n1_; have HI0 := n2_; clear n0_ n1_ n2_; (try clear hb); (try clear hk); (try clear hi)) | ((with_reducible refine qu (f := 102) rfl ?_); refine goesL_ (some 22) rfl rfl Try.func102 (by kernel_rfl) rfl #[.pointer (some ⟨g, 0, none⟩), .int .i64 0, .int .i64 40] rfl yq23 ?_;  (with_reducible refine (spec_l1Rd_near.calls k g s0_0 e2 0 40 c1 c2 w0 _ ?side1 ?side2 A5.out).mono ?_); (case side1 => exact yq20); (case side2 => exact yq22); rintro e w5 ⟨rfl, hi, hb, hk⟩; refine ⟨_, rfl, ?_⟩; clear A5; have n0_ := Qz.mk (KeepBut.trans yq21 hk (.inl rfl)); replace HZ := Qz.mk (KeepBut.blk hk HZ.out (Nat.ne_of_gt hgw) (by simp)); have n1_ := Qz.mk (hb); have n2_ := Qz.mk (hi); clear HK; clear HB; clear HI0; have HK := n0_; have HB := n1_; have HI0 := n2_; clear n0_ n1_ n2_; (try clear hb); (try clear hk); (try clear hi)) | (go_at_call 73; have hg5 := HI0.out.lt; have hs5 := HK.out.1; have hz5 := qv HZ.out; (with_reducible refine (spec_l1Rd_once.calls g s0_0 c2 24 true o2 w0 _ ?side1 ?side2 A6.out).mono ?_); (case side1 => exact yq20); (case side2 => exact yq22); rintro e w6 ⟨rfl, hi, hb, hk⟩;  clear A6; have n0_ := Qz.mk (KeepBut.trans yq21 hk (.inl rfl)); replace HZ := Qz.mk (KeepBut.blk hk (qa HZ.out _) (Nat.ne_of_gt hgw) (by simp)); have HM := Qz.mk (KeepBut.blk hk (blk_new _ _) (Nat.ne_of_gt hg5) (by simp)); have hm0 := (qd HM.out 0).trans rfl; have hz0 := (qd HZ.out 0).trans rfl; have hf0 := qf HZ.out 0; have hm1 := (qd HM.out 1).trans rfl; have hz1 := (qd HZ.out 1).trans rfl; have hf1 := qf HZ.out 1; have hm2 := (qd HM.out 2).trans rfl; have hz2 := (qd HZ.out 2).trans rfl; have hf2 := qf HZ.out 2; have hm3 := (qd HM.out 3).trans rfl; have hz3 := (qd HZ.out 3).trans rfl; have hf3 := qf HZ.out 3; have hm4 := (qd HM.out 4).trans rfl; have hz4 := (qd HZ.out 4).trans rfl; have hf4 := qf HZ.out 4; have n1_ := Qz.mk (hb); have n2_ := Qz.mk (hi); clear HK; clear HB; clear HI0; have HK := n0_; have HB := n1_; have HI0 := n2_; clear n0_ n1_ n2_; (try clear hb); (try clear hk); (try clear hi)) | ((with_reducible refine qu (f := 72) rfl ?_); refine goesL_ (some 28) rfl rfl Try.func72 (by kernel_rfl) rfl #[.pointer (some ⟨g, 0, none⟩), .int .i64 0, .int .i64 3] rfl yq23 ?_; clear hm0 hz0 hf0 hm1 hz1 hf1 hm2 hz2 hf2 hm3 hz3 hf3 hm4 hz4 hf4; (with_reducible refine (spec_l1Rd_off.calls k g s0_0 o2 0 3 v1 v2 w0 _ ?side1 ?side2 A7.out).mono ?_); (case side1 => exact yq20); (case side2 => exact yq22); rintro e w7 ⟨rfl, hi, hb, hk⟩; refine ⟨_, rfl, ?_⟩; clear A7; have n0_ := Qz.mk (KeepBut.trans yq21 hk (.inl rfl)); replace HZ := Qz.mk (KeepBut.blk hk HZ.out (Nat.ne_of_gt hgw) (by simp)); replace HM := Qz.mk (KeepBut.blk hk HM.out (Nat.ne_of_gt hg5) (by simp)); have hfm := qf HM.out 1; have hm0 := (qd HM.out 0).trans rfl; have hz0 := (qd HZ.out 0).trans rfl; have hf0 := qf HZ.out 0; have hm1 := (qd HM.out 1).trans rfl; have hz1 := (qd HZ.out 1).trans rfl; have hf1 := qf HZ.out 1; have hm2 := (qd HM.out 2).trans rfl; have hz2 := (qd HZ.out 2).trans rfl; have hf2 := qf HZ.out 2; have hm3 := (qd HM.out 3).trans rfl; have hz3 := (qd HZ.out 3).trans rfl; have hf3 := qf HZ.out 3; have hm4 := (qd HM.out 4).trans rfl; have hz4 := (qd HZ.out 4).trans rfl; have hf4 := qf HZ.out 4; have n1_ := Qz.mk (hb); have n2_ := Qz.mk (hi); clear HK; clear HB; clear HI0; have HK := n0_; have HB := n1_; have HI0 := n2_; clear n0_ n1_ n2_; (try clear hb); (try clear hk); (try clear hi)))
  refine bodyPost_ret (results_cell_row rfl _ _ w.heap.size 66 #[.int .i64 (wrap64 (1 + n1)), .int .i64 v1, .string (tmin a1 b1), .string (tmax a1 b1), .int .i64 (wrap64 (1 + c1))] (0, 0) _ rfl (blk_set (blk_set (blk_set (blk_set (blk_set (qp HZ.out (Nat.ne_of_lt hz5) _) 0 (.int .i64 (wrap64 (1 + n1)))) 1 (.int .i64 v1)) 2 (.string (tmin a1 b1))) 3 (.string (tmax a1 b1))) 4 (.int .i64 (wrap64 (1 + c1)))) Try.underlying66 rfl (by kernel_rfl)) rfl ?_
  have hgz : g ≠ w.heap.size := Nat.ne_of_lt hgw
  have hgm : g ≠ w5.heap.size := Nat.ne_of_lt hg5
  have hw5 := Nat.le_trans hL.out hs5
  exact ⟨rfl, by repeat (first | with_reducible exact HI0.out | (refine IsS123.far ?_ (by first | exact hgz | exact hgm) _)), by repeat (first | with_reducible exact HB.out | (refine qe ?_ (by first | exact hL.out | exact hw5))), by repeat (first | with_reducible exact HK.out | (refine qj ?_ (by first | exact Nat.le_refl _ | exact hs5) _))⟩
end Go.Proofs.Ytcgejabkjljeeaa.P
end
