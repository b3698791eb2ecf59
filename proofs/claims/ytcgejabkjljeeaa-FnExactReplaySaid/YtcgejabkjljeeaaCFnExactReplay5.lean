/- Proved: the law FnExactReplay of the given program returns true for every input of its Go types and leaves each argument as it was; no condition. (Part 6 of 15.) -/
import Derived.Test.YtcgejabkjljeeaaCFnExactReplay3
import Derived.Sort.Lot0
import Derived.Sort.LotA
import Derived.Shelf.SlSortCmp.KitK
import Derived.Test.YtcgejabkjljeeaaCFnExactReplay4
section
namespace Go.Proofs.Ytcgejabkjljeeaa.P
open Go.RowKit Go.Proofs.YtcgejabkjljeeaaW.PrintWords Go.Proofs.YtcgejabkjljeeaaW.PrintLast Go.Proofs.YtcgejabkjljeeaaW.PrintMore
attribute [local go_sem] str_gtr str_leq str_geq qe1 qc1 max_two min_two qy qx qd1 qb1
set_option linter.unusedVariables false
set_option linter.unusedSimpArgs false
open Go.Sort
section
variable {α : Type} [Inhabited α]
def bsx (q : Nat → Bool) (i j : Nat) : Nat :=
 if i < j then (if q ((i + j) / 2) = true then bsx q ((i + j) / 2 + 1) j else bsx q i ((i + j) / 2)) else i
termination_by j - i
decreasing_by all_goals omega
theorem bsx_spec (q : Nat → Bool) : ∀ (n i j : Nat), j - i ≤ n → i ≤ j → i ≤ bsx q i j ∧ bsx q i j ≤ j ∧ (i < bsx q i j → q (bsx q i j - 1) = true) ∧ (bsx q i j < j → q (bsx q i j) = false) := by
 intro n
 induction n with
 | zero =>
  intro i j h1 h2
  obtain rfl : i = j := by omega
  rw [bsx, if_neg (by omega)]
  exact ⟨Nat.le_refl _, Nat.le_refl _, fun h => by omega, fun h => by omega⟩
 | succ n ih =>
  intro i j h1 h2
  rw [bsx]
  by_cases c : i < j
  ·rw [if_pos c]
   cases hq : q ((i + j) / 2) with
   | true =>
    rw [if_pos rfl]
    obtain ⟨a1, a2, a3, a4⟩ := ih ((i + j) / 2 + 1) j (by omega) (by omega)
    refine ⟨by omega, a2, fun h => ?_, a4⟩
    by_cases e : (i + j) / 2 + 1 < bsx q ((i + j) / 2 + 1) j
    ·exact a3 e
    ·rw [show bsx q ((i + j) / 2 + 1) j - 1 = (i + j) / 2 from by omega]
     exact hq
   | false =>
    rw [if_neg (by simp)]
    obtain ⟨a1, a2, a3, a4⟩ := ih i ((i + j) / 2) (by omega) (by omega)
    refine ⟨a1, by omega, a3, fun h => ?_⟩
    by_cases e : bsx q i ((i + j) / 2) < (i + j) / 2
    ·exact a4 e
    ·rw [show bsx q i ((i + j) / 2) = (i + j) / 2 from by omega]
     exact hq
  ·rw [if_neg c]
   exact ⟨Nat.le_refl _, h2, fun h => by omega, fun h => by omega⟩
def upL (e k : Nat) (d : Array α) : Array α := if k < e then upL e (k + 1) (swp d k (k + 1)) else d
termination_by e - k
theorem upL_spec (e : Nat) : ∀ (n k : Nat) (d : Array α), e - k ≤ n → k ≤ e → e < d.size → PermIn k (e + 1) d (upL e k d) ∧ ∀ t, (upL e k d)[t]! = if t < k ∨ e < t then d[t]! else if t = e then d[k]! else d[t + 1]! := by
 intro n
 induction n with
 | zero =>
  intro k d h1 h2 h3
  obtain rfl : k = e := by omega
  rw [upL, if_neg (by omega)]
  refine ⟨permIn_refl _ _ _, fun t => ?_⟩
  by_cases c : t < k ∨ k < t
  ·rw [if_pos c]
  ·rw [if_neg c, if_pos (by omega), show t = k from by omega]
 | succ n ih =>
  intro k d h1 h2 h3
  rw [upL]
  by_cases c : k < e
  ·rw [if_pos c]
   have g := swp_get d (show k < d.size by omega) (show k + 1 < d.size by omega)
   obtain ⟨i1, i2⟩ := ih (k + 1) (swp d k (k + 1)) (by omega) (by omega) (by rw [swp_size]; exact h3)
   refine ⟨permIn_trans _ _ _ _ _ (swp_permIn d k (e + 1) k (k + 1) (Nat.le_refl _) (by omega) (by omega) (by omega) (by omega)) (permIn_mono _ _ _ _ _ _ (by omega) (Nat.le_refl _) (by rw [swp_size]; omega) i1), fun t => ?_⟩
   rw [i2 t]
   by_cases c1 : t < k ∨ e < t
   ·rw [if_pos c1, if_pos (by omega), g, if_neg (by omega), if_neg (by omega)]
   ·rw [if_neg c1]
    by_cases c2 : t = k
    ·rw [if_pos (by omega), if_neg (by omega), g, if_neg (by omega), if_pos c2, c2]
    ·rw [if_neg (by omega)]
     by_cases c3 : t = e
     ·rw [if_pos c3, if_pos c3, g, if_pos rfl]
     ·rw [if_neg c3, if_neg c3, g, if_neg (by omega), if_neg (by omega)]
  ·rw [if_neg c]
   obtain rfl : k = e := by omega
   refine ⟨permIn_refl _ _ _, fun t => ?_⟩
   by_cases c : t < k ∨ k < t
   ·rw [if_pos c]
   ·rw [if_neg c, if_pos (by omega), show t = k from by omega]
def dnL (i : Nat) : Nat → Array α → Array α
 | 0, d => d
 | k + 1, d => if i < k + 1 then dnL i k (swp d (k + 1) k) else d
theorem dnL_spec (i : Nat) : ∀ (k : Nat) (d : Array α), i ≤ k → k < d.size → PermIn i (k + 1) d (dnL i k d) ∧ ∀ t, (dnL i k d)[t]! = if t < i ∨ k < t then d[t]! else if t = i then d[k]! else d[t - 1]! := by
 intro k
 induction k with
 | zero =>
  intro d h1 h2
  obtain rfl : i = 0 := by omega
  refine ⟨permIn_refl _ _ _, fun t => ?_⟩
  show d[t]! = _
  by_cases c : t < 0 ∨ 0 < t
  ·rw [if_pos c]
  ·rw [if_neg c, if_pos (by omega), show t = 0 from by omega]
 | succ k ih =>
  intro d h1 h2
  unfold dnL
  by_cases c : i < k + 1
  ·rw [if_pos c]
   have g := swp_get d (show k + 1 < d.size by omega) (show k < d.size by omega)
   obtain ⟨i1, i2⟩ := ih (swp d (k + 1) k) (by omega) (by rw [swp_size]; omega)
   refine ⟨permIn_trans _ _ _ _ _ (swp_permIn d i (k + 1 + 1) (k + 1) k (by omega) (by omega) (by omega) (by omega) (by omega)) (permIn_mono _ _ _ _ _ _ (Nat.le_refl _) (by omega) (by rw [swp_size]; omega) i1), fun t => ?_⟩
   rw [i2 t]
   by_cases c1 : t < i ∨ k + 1 < t
   ·rw [if_pos c1, if_pos (by omega), g, if_neg (by omega), if_neg (by omega)]
   ·rw [if_neg c1]
    by_cases c2 : t = k + 1
    ·rw [if_pos (by omega), if_neg (by omega), g, if_neg (by omega), if_pos c2, c2]
     rfl
    ·rw [if_neg (by omega)]
     by_cases c3 : t = i
     ·rw [if_pos c3, if_pos c3, g, if_pos rfl]
     ·rw [if_neg c3, if_neg c3, g, if_neg (by omega), if_neg (by omega)]
  ·rw [if_neg c]
   obtain rfl : i = k + 1 := by omega
   refine ⟨permIn_refl _ _ _, fun t => ?_⟩
   by_cases c : t < k + 1 ∨ k + 1 < t
   ·rw [if_pos c]
   ·rw [if_neg c, if_pos (by omega), show t = k + 1 from by omega]
def swR (a b n i : Nat) (d : Array α) : Array α := if i < n then swR a b n (i + 1) (swp d (a + i) (b + i)) else d
termination_by n - i
theorem swR_spec (a b n : Nat) : ∀ (m i : Nat) (d : Array α), n - i ≤ m → a + n ≤ b → b + n ≤ d.size → PermIn a (b + n) d (swR a b n i d) ∧ ∀ t, (swR a b n i d)[t]! = if a + i ≤ t ∧ t < a + n then d[t - a + b]! else if b + i ≤ t ∧ t < b + n then d[t - b + a]! else d[t]! := by
 intro m
 induction m with
 | zero =>
  intro i d h1 h2 h3
  rw [swR, if_neg (by omega)]
  exact ⟨permIn_refl _ _ _, fun t => by rw [if_neg (by omega), if_neg (by omega)]⟩
 | succ m ih =>
  intro i d h1 h2 h3
  rw [swR]
  by_cases c : i < n
  ·rw [if_pos c]
   have g := swp_get d (show a + i < d.size by omega) (show b + i < d.size by omega)
   obtain ⟨i1, i2⟩ := ih (i + 1) (swp d (a + i) (b + i)) (by omega) h2 (by rw [swp_size]; exact h3)
   refine ⟨permIn_trans _ _ _ _ _ (swp_permIn d a (b + n) (a + i) (b + i) (by omega) (by omega) (by omega) (by omega) h3) i1, fun t => ?_⟩
   rw [i2 t]
   by_cases c1 : a + i ≤ t ∧ t < a + n
   ·rw [if_pos c1]
    by_cases c2 : t = a + i
    ·rw [if_neg (by omega), if_neg (by omega), g, if_neg (by omega), if_pos c2, c2, show a + i - a + b = b + i from by omega]
    ·rw [if_pos (by omega), g, if_neg (by omega), if_neg (by omega)]
   ·rw [if_neg c1, if_neg (by omega)]
    by_cases c3 : b + i ≤ t ∧ t < b + n
    ·rw [if_pos c3]
     by_cases c4 : t = b + i
     ·rw [if_neg (by omega), g, if_pos c4, c4, show b + i - b + a = a + i from by omega]
     ·rw [if_pos (by omega), g, if_neg (by omega), if_neg (by omega)]
    ·rw [if_neg c3, if_neg (by omega), g, if_neg (by omega), if_neg (by omega)]
  ·rw [if_neg c]
   exact ⟨permIn_refl _ _ _, fun t => by rw [if_neg (by omega), if_neg (by omega)]⟩
theorem swR_size (a b n i : Nat) (d : Array α) : (swR a b n i d).size = d.size := by
 have : ∀ (m i : Nat) (d : Array α), n - i ≤ m → (swR a b n i d).size = d.size := by
  intro m
  induction m with
  | zero => intro i d h; rw [swR, if_neg (by omega)]
  | succ m ih =>
   intro i d h
   rw [swR]
   split
   ·rw [ih _ _ (by omega), swp_size]
   ·rfl
 exact this _ i d (Nat.le_refl _)
def rotL (m i j : Nat) (d : Array α) : Array α :=
 if i = j ∨ i = 0 ∨ j = 0 then swR (m - i) m i 0 d else if j < i then rotL m (i - j) j (swR (m - i) m j 0 d) else rotL m i (j - i) (swR (m - i) (m + j - i) i 0 d)
termination_by i + j
decreasing_by all_goals omega
theorem rotL_spec (m : Nat) : ∀ (n i j : Nat) (d : Array α), i + j ≤ n → 0 < i → 0 < j → i ≤ m → m + j ≤ d.size → PermIn (m - i) (m + j) d (rotL m i j d) ∧ ∀ t, (rotL m i j d)[t]! = if t < m - i ∨ m + j ≤ t then d[t]! else if t < m - i + j then d[t + i]! else d[t - j]! := by
 intro n
 induction n with
 | zero => intro i j d h1 h2; omega
 | succ n ih =>
  intro i j d h1 h2 h3 h4 h5
  rw [rotL]
  by_cases c : i = j
  ·subst c
   rw [if_pos (.inl rfl)]
   obtain ⟨s1, s2⟩ := swR_spec (m - i) m i i 0 d (by omega) (by omega) h5
   refine ⟨s1, fun t => ?_⟩
   rw [s2 t]
   by_cases c1 : t < m - i ∨ m + i ≤ t
   ·rw [if_pos c1, if_neg (by omega), if_neg (by omega)]
   ·rw [if_neg c1]
    by_cases c2 : t < m - i + i
    ·rw [if_pos c2, if_pos (by omega), show t - (m - i) + m = t + i from by omega]
    ·rw [if_neg c2, if_neg (by omega), if_pos (by omega), show t - m + (m - i) = t - i from by omega]
  ·rw [if_neg (by omega)]
   by_cases c2 : j < i
   ·rw [if_pos c2]
    obtain ⟨s1, s2⟩ := swR_spec (m - i) m j j 0 d (by omega) (by omega) h5
    obtain ⟨i1, i2⟩ := ih (i - j) j (swR (m - i) m j 0 d) (by omega) (by omega) h3 (by omega) (by rw [s1.1]; exact h5)
    refine ⟨permIn_trans _ _ _ _ _ s1 (permIn_mono _ _ _ _ _ _ (by omega) (Nat.le_refl _) (by rw [s1.1]; exact h5) i1), fun t => ?_⟩
    rw [i2 t, s2, s2, s2]
    by_cases c1 : t < m - i ∨ m + j ≤ t
    ·rw [if_pos c1, if_pos (by omega), if_neg (by omega), if_neg (by omega)]
    ·rw [if_neg c1]
     by_cases c3 : t < m - i + j
     ·rw [if_pos c3, if_pos (by omega), if_pos (by omega), show t - (m - i) + m = t + i from by omega]
     ·rw [if_neg c3, if_neg (by omega)]
      by_cases c4 : t < m - (i - j) + j
      ·rw [if_pos c4]
       by_cases c5 : t + (i - j) < m
       ·omega
       ·rw [if_neg (by omega), if_pos (by omega), show t + (i - j) - m + (m - i) = t - j from by omega]
      ·rw [if_neg c4, if_neg (by omega), if_neg (by omega)]
   ·rw [if_neg c2]
    obtain ⟨s1, s2⟩ := swR_spec (m - i) (m + j - i) i i 0 d (by omega) (by omega) (by omega)
    rw [show m + j - i + i = m + j from by omega] at s1
    obtain ⟨i1, i2⟩ := ih i (j - i) (swR (m - i) (m + j - i) i 0 d) (by omega) h2 (by omega) h4 (by rw [s1.1]; omega)
    refine ⟨permIn_trans _ _ _ _ _ s1 (permIn_mono _ _ _ _ _ _ (Nat.le_refl _) (by omega) (by rw [s1.1]; exact h5) i1), fun t => ?_⟩
    rw [i2 t, s2, s2, s2]
    by_cases c1 : t < m - i ∨ m + j ≤ t
    ·rw [if_pos c1, if_pos (by omega), if_neg (by omega), if_neg (by omega)]
    ·rw [if_neg c1]
     by_cases c3 : t < m - i + j
     ·rw [if_pos c3]
      by_cases c4 : m + (j - i) ≤ t
      ·rw [if_pos (by omega)]
       omega
      ·rw [if_neg (by omega)]
       by_cases c5 : t < m - i + (j - i)
       ·rw [if_pos c5]
        rw [if_neg (by omega), if_neg (by omega)]
       ·rw [if_neg c5, if_pos (by omega), show t - (j - i) - (m - i) + (m + j - i) = t + i from by omega]
     ·rw [if_neg c3, if_pos (by omega), if_neg (by omega), if_pos (by omega), show t - (m + j - i) + (m - i) = t - j from by omega]
theorem upL_size (e k : Nat) (d : Array α) : (upL e k d).size = d.size := by
 have : ∀ (m k : Nat) (d : Array α), e - k ≤ m → (upL e k d).size = d.size := by
  intro m
  induction m with
  | zero => intro k d h; rw [upL, if_neg (by omega)]
  | succ m ih =>
   intro k d h
   rw [upL]
   split
   ·rw [ih _ _ (by omega), swp_size]
   ·rfl
 exact this _ k d (Nat.le_refl _)
theorem dnL_size (i : Nat) : ∀ (k : Nat) (d : Array α), (dnL i k d).size = d.size
 | 0, d => rfl
 | k + 1, d => by
  unfold dnL
  split
  ·rw [dnL_size i k, swp_size]
  ·rfl
theorem rotL_size (m i j : Nat) (d : Array α) : (rotL m i j d).size = d.size := by
 have : ∀ (n i j : Nat) (d : Array α), i + j ≤ n → (rotL m i j d).size = d.size := by
  intro n
  induction n with
  | zero => intro i j d h; rw [rotL, if_pos (by omega), swR_size]
  | succ n ih =>
   intro i j d h
   rw [rotL]
   split
   ·exact swR_size ..
   ·split
    ·rw [ih _ _ _ (by omega), swR_size]
    ·rw [ih _ _ _ (by omega), swR_size]
 exact this _ i j d (Nat.le_refl _)
def symA (m st en : Nat) (d : Array α) : Array α := if st < m ∧ m < en then rotL m (m - st) (en - m) d else d
def symB (rec : Array α → Nat → Nat → Nat → Array α) (a st mid : Nat) (d : Array α) : Array α := if a < st ∧ st < mid then rec d a st mid else d
def symE (rec : Array α → Nat → Nat → Nat → Array α) (mid en b : Nat) (d : Array α) : Array α := if mid < en ∧ en < b then rec d mid en b else d
def symLo (a m b : Nat) : Nat := if (a + b) / 2 < m then (a + b) / 2 + m - b else a
def symHi (a m b : Nat) : Nat := if (a + b) / 2 < m then (a + b) / 2 else m
def symSt (lt : α → α → Bool) (d : Array α) (a m b : Nat) : Nat := bsx (fun c => !lt d[(a + b) / 2 + m - 1 - c]! d[c]!) (symLo a m b) (symHi a m b)
def symM (lt : α → α → Bool) : Nat → Array α → Nat → Nat → Nat → Array α
 | 0, d, _, _, _ => d
 | f + 1, d, a, m, b =>
  if m - a = 1 then upL (bsx (fun h => lt d[h]! d[a]!) m b - 1) a d
  else if b - m = 1 then dnL (bsx (fun h => !lt d[m]! d[h]!) a m) m d
  else symE (symM lt f) ((a + b) / 2) ((a + b) / 2 + m - symSt lt d a m b) b (symB (symM lt f) a (symSt lt d a m b) ((a + b) / 2) (symA m (symSt lt d a m b) ((a + b) / 2 + m - symSt lt d a m b) d))
theorem symM_size (lt : α → α → Bool) : ∀ (f : Nat) (d : Array α) (a m b : Nat), (symM lt f d a m b).size = d.size
 | 0, _, _, _, _ => rfl
 | f + 1, d, a, m, b => by
  unfold symM
  split
  ·exact upL_size ..
  split
  ·exact dnL_size ..
  have e1 : (symA m (symSt lt d a m b) ((a + b) / 2 + m - symSt lt d a m b) d).size = d.size := by
   unfold symA
   split
   ·exact rotL_size ..
   ·rfl
  have e2 : ∀ x : Array α, (symB (symM lt f) a (symSt lt d a m b) ((a + b) / 2) x).size = x.size := fun x => by
   unfold symB
   split
   ·exact symM_size lt f ..
   ·rfl
  have e3 : ∀ x : Array α, (symE (symM lt f) ((a + b) / 2) ((a + b) / 2 + m - symSt lt d a m b) b x).size = x.size := fun x => by
   unfold symE
   split
   ·exact symM_size lt f ..
   ·rfl
  rw [e3, e2, e1]
theorem insInner_size (lt : α → α → Bool) (a : Nat) : ∀ (j : Nat) (d : Array α), (insInner lt a j d).size = d.size
 | 0, d => rfl
 | j + 1, d => by
  unfold insInner
  split
  ·rw [insInner_size lt a j, swp_size]
  ·rfl
theorem insertionSort_size (lt : α → α → Bool) (d : Array α) (a b : Nat) : (insertionSort lt d a b).size = d.size := by
 have : ∀ (n i : Nat) (d : Array α), b - i ≤ n → (insOuter lt a b i d).size = d.size := by
  intro n
  induction n with
  | zero => intro i d h; rw [insOuter, if_neg (by omega)]
  | succ n ih =>
   intro i d h
   rw [insOuter]
   split
   ·rw [ih _ _ (by omega), insInner_size]
   ·rfl
 exact this _ _ d (Nat.le_refl _)
variable {lt lt' : α → α → Bool}
theorem symM_up (hS : SWO lt') (d : Array α) (a b i : Nat) (hi1 : a + 1 ≤ i) (hi2 : i ≤ b) (hb : b ≤ d.size) (hR : SortedIn lt' (a + 1) b d) (f1 : a + 1 < i → lt' d[i - 1]! d[a]! = true) (f2 : i < b → lt' d[i]! d[a]! = false) :
  PermIn a b d (upL (i - 1) a d) ∧ SortedIn lt' a b (upL (i - 1) a d) := by
 obtain ⟨u1, u2⟩ := upL_spec (i - 1) _ a d (Nat.le_refl _) (by omega) (by omega)
 refine ⟨permIn_mono _ _ _ _ _ _ (Nat.le_refl _) (by omega) hb u1, fun p q hp hpq hq => ?_⟩
 rw [u2 q, u2 p]
 rcases Nat.lt_trichotomy q (i - 1) with c | c | c
 ·rw [if_neg (by omega), if_neg (by omega), if_neg (by omega), if_neg (by omega)]
  exact hR (p + 1) (q + 1) (by omega) (by omega) (by omega)
 ·rw [if_neg (by omega), if_pos c, if_neg (by omega), if_neg (by omega)]
  cases hx : lt' d[a]! d[p + 1]! with
  | false => rfl
  | true =>
   have h1 := hS.trans _ _ _ (f1 (by omega)) hx
   by_cases e : p + 1 = i - 1
   ·rw [e, hS.irrefl] at h1; cases h1
   ·rw [hR (p + 1) (i - 1) (by omega) (by omega) (by omega)] at h1; cases h1
 ·rw [if_pos (by omega)]
  by_cases e : p = i - 1
  ·rw [if_neg (by omega), if_pos e]
   by_cases e2 : q = i
   ·rw [e2]; exact f2 (by omega)
   ·exact hS.ntrans _ _ _ (hR i q (by omega) (by omega) hq) (f2 (by omega))
  ·by_cases e2 : i - 1 < p
   ·rw [if_pos (by omega)]
    exact hR p q (by omega) hpq hq
   ·rw [if_neg (by omega), if_neg e]
    exact hR (p + 1) q (by omega) (by omega) hq
theorem symM_dn (hS : SWO lt') (d : Array α) (a m i : Nat) (hi1 : a ≤ i) (hi2 : i ≤ m) (hb : m + 1 ≤ d.size) (hL : SortedIn lt' a m d) (f1 : a < i → lt' d[m]! d[i - 1]! = false) (f2 : i < m → lt' d[m]! d[i]! = true) :
  PermIn a (m + 1) d (dnL i m d) ∧ SortedIn lt' a (m + 1) (dnL i m d) := by
 obtain ⟨u1, u2⟩ := dnL_spec i m d hi2 (by omega)
 refine ⟨permIn_mono _ _ _ _ _ _ hi1 (Nat.le_refl _) hb u1, fun p q hp hpq hq => ?_⟩
 rw [u2 q, u2 p]
 rcases Nat.lt_trichotomy q i with c | c | c
 ·rw [if_pos (by omega), if_pos (by omega)]
  exact hL p q hp hpq (by omega)
 ·rw [if_neg (by omega), if_pos c, if_pos (by omega)]
  by_cases e : p = i - 1
  ·rw [e]; exact f1 (by omega)
  ·exact hS.ntrans _ _ _ (f1 (by omega)) (hL p (i - 1) hp (by omega) (by omega))
 ·rw [if_neg (by omega), if_neg (by omega)]
  rcases Nat.lt_trichotomy p i with c2 | c2 | c2
  ·rw [if_pos (by omega)]
   exact hL p (q - 1) hp (by omega) (by omega)
  ·rw [if_neg (by omega), if_pos c2]
   cases hx : lt' d[q - 1]! d[m]! with
   | false => rfl
   | true =>
    have h1 := hS.trans _ _ _ hx (f2 (by omega))
    by_cases e : q - 1 = i
    ·rw [e, hS.irrefl] at h1; cases h1
    ·rw [hL i (q - 1) (by omega) (by omega) (by omega)] at h1; cases h1
  ·rw [if_neg (by omega), if_neg (by omega)]
   exact hL (p - 1) (q - 1) (by omega) (by omega) (by omega)
theorem sorted_le (hS : SWO lt') {d : Array α} {a b : Nat} (h : SortedIn lt' a b d) (i j : Nat) (h1 : a ≤ i) (h2 : i ≤ j) (h3 : j < b) : lt' d[j]! d[i]! = false := by
 by_cases e : i = j
 ·rw [e]; exact hS.irrefl _
 ·exact h i j h1 (by omega) h3
theorem symA_spec (d : Array α) (a m b st mid : Nat) (h1 : a ≤ st) (h2 : st ≤ m) (h3 : st ≤ mid) (h4 : mid + m - st ≤ b) (hb : b ≤ d.size) :
  PermIn a b d (symA m st (mid + m - st) d) ∧ (∀ t, t < st → (symA m st (mid + m - st) d)[t]! = d[t]!) ∧ (∀ t, st ≤ t → t < mid → (symA m st (mid + m - st) d)[t]! = d[t - st + m]!) ∧
  (∀ t, mid ≤ t → t < mid + m - st → (symA m st (mid + m - st) d)[t]! = d[t - mid + st]!) ∧ (∀ t, mid + m - st ≤ t → (symA m st (mid + m - st) d)[t]! = d[t]!) := by
 unfold symA
 by_cases c : st < m ∧ m < mid + m - st
 ·rw [if_pos c]
  obtain ⟨r1, r2⟩ := rotL_spec m _ (m - st) (mid + m - st - m) d (Nat.le_refl _) (by omega) (by omega) (by omega) (by omega)
  refine ⟨permIn_mono _ _ _ _ _ _ (by omega) (by omega) hb r1, fun t ht => ?_, fun t ht1 ht2 => ?_, fun t ht1 ht2 => ?_, fun t ht => ?_⟩
  ·rw [r2, if_pos (by omega)]
  ·rw [r2, if_neg (by omega), if_pos (by omega), show t + (m - st) = t - st + m from by omega]
  ·rw [r2, if_neg (by omega), if_neg (by omega), show t - (mid + m - st - m) = t - mid + st from by omega]
  ·rw [r2, if_pos (by omega)]
 ·rw [if_neg c]
  refine ⟨permIn_refl _ _ _, fun t ht => rfl, fun t ht1 ht2 => ?_, fun t ht1 ht2 => ?_, fun t ht => rfl⟩
  ·rw [show t - st + m = t from by omega]
  ·rw [show t - mid + st = t from by omega]
theorem symM_spec (hS : SWO lt') : ∀ (f : Nat) (d : Array α) (a m b : Nat), b - a ≤ f → a < m → m < b → b ≤ d.size → SortedIn lt' a m d → SortedIn lt' m b d →
  (∀ p q, a ≤ p → p < m → m ≤ q → q < b → lt d[q]! d[p]! = lt' d[q]! d[p]!) → PermIn a b d (symM lt f d a m b) ∧ SortedIn lt' a b (symM lt f d a m b) := by
 intro f
 induction f with
 | zero => intro d a m b h0 h1 h2; omega
 | succ f ih =>
  intro d a m b h0 h1 h2 hb hL hR hA
  unfold symM
  by_cases c1 : m - a = 1
  ·rw [if_pos c1]
   obtain rfl : m = a + 1 := by omega
   obtain ⟨b1, b2, b3, b4⟩ := bsx_spec (fun h => lt d[h]! d[a]!) _ (a + 1) b (Nat.le_refl _) (by omega)
   refine symM_up hS d a b _ b1 b2 hb hR (fun h => ?_) (fun h => ?_)
   ·rw [← hA a _ (by omega) (by omega) (by omega) (by omega)]; exact b3 h
   ·rw [← hA a _ (by omega) (by omega) (by omega) (by omega)]; exact b4 h
  ·rw [if_neg c1]
   by_cases c2 : b - m = 1
   ·rw [if_pos c2]
    obtain rfl : b = m + 1 := by omega
    obtain ⟨b1, b2, b3, b4⟩ := bsx_spec (fun h => !lt d[m]! d[h]!) _ a m (Nat.le_refl _) (by omega)
    refine symM_dn hS d a m _ b1 b2 hb hL (fun h => ?_) (fun h => ?_)
    ·rw [← hA _ m (by omega) (by omega) (by omega) (by omega)]; simpa using b3 h
    ·rw [← hA _ m (by omega) (by omega) (by omega) (by omega)]; simpa using b4 h
   ·rw [if_neg c2]
    obtain ⟨b1, b2, b3, b4⟩ := bsx_spec (fun c => !lt d[(a + b) / 2 + m - 1 - c]! d[c]!) _ (symLo a m b) (symHi a m b) (Nat.le_refl _) (by unfold symLo symHi; split <;> omega)
    rw [← symSt] at b1 b2 b3 b4
    generalize symSt lt d a m b = st at b1 b2 b3 b4
    have hm : a < (a + b) / 2 ∧ (a + b) / 2 < b ∧ 2 * ((a + b) / 2) ≤ a + b := by omega
    have hlo : (a + b) / 2 < m → symLo a m b = (a + b) / 2 + m - b ∧ symHi a m b = (a + b) / 2 := fun h => by unfold symLo symHi; rw [if_pos h, if_pos h]; exact ⟨rfl, rfl⟩
    have hhi : ¬ (a + b) / 2 < m → symLo a m b = a ∧ symHi a m b = m := fun h => by unfold symLo symHi; rw [if_neg h, if_neg h]; exact ⟨rfl, rfl⟩
    generalize symLo a m b = lo at b1 b2 b3 b4 hlo hhi
    generalize symHi a m b = hi at b1 b2 b3 b4 hlo hhi
    have hab : (a + b) / 2 < m → a ≤ (a + b) / 2 + m - b := fun h => by omega
    generalize (a + b) / 2 = mid at b1 b2 b3 b4 hlo hhi hm hab
    have k1 : a ≤ st := by by_cases c : mid < m; (have := hlo c; have := hab c; omega); (have := hhi c; omega)
    have k2 : st ≤ m := by by_cases c : mid < m; (have := hlo c; omega); (have := hhi c; omega)
    have k3 : st ≤ mid := by by_cases c : mid < m; (have := hlo c; omega); (have := hhi c; omega)
    have k4 : mid + m - st ≤ b := by by_cases c : mid < m; (have := hlo c; omega); (have := hhi c; omega)
    have F1 : a < st → mid + m - st < b → lt' d[mid + m - st]! d[st - 1]! = false := fun h h' => by
     have hl : lo < st := by by_cases c : mid < m; (have := hlo c; omega); (have := hhi c; omega)
     have := b3 hl
     rw [show mid + m - 1 - (st - 1) = mid + m - st from by omega, hA _ _ (by omega) (by omega) (by omega) h'] at this
     simpa using this
    have F2 : st < mid → st < m → lt' d[mid + m - st - 1]! d[st]! = true := fun h h' => by
     have hl : st < hi := by by_cases c : mid < m; (have := hlo c; omega); (have := hhi c; omega)
     have := b4 hl
     rw [show mid + m - 1 - st = mid + m - st - 1 from by omega, hA _ _ (by omega) (by omega) (by omega) (by omega)] at this
     simpa using this
    clear b1 b2 b3 b4 hlo hhi hab
    obtain ⟨p1, x1, x2, x3, x4⟩ := symA_spec d a m b st mid k1 k2 k3 k4 hb
    have ken : mid + m - st = m + (mid - st) ∧ mid + m - st = mid + (m - st) := by omega
    generalize symA m st (mid + m - st) d = d1 at p1 x1 x2 x3 x4
    generalize mid + m - st = en at k4 F1 F2 x3 x4 ken
    have z1 : d1.size = d.size := p1.1
    have S1 : SortedIn lt' a st d1 := fun p q hp hpq hq => by rw [x1 q hq, x1 p (by omega)]; exact hL p q hp hpq (by omega)
    have S2 : SortedIn lt' st mid d1 := fun p q hp hpq hq => by rw [x2 q (by omega) hq, x2 p hp (by omega)]; exact hR _ _ (by omega) (by omega) (by omega)
    have S3 : SortedIn lt' mid en d1 := fun p q hp hpq hq => by rw [x3 q (by omega) hq, x3 p hp (by omega)]; exact hL _ _ (by omega) (by omega) (by omega)
    have S4 : SortedIn lt' en b d1 := fun p q hp hpq hq => by rw [x4 q (by omega), x4 p hp]; exact hR p q (by omega) hpq hq
    have A1 : ∀ p q, a ≤ p → p < st → st ≤ q → q < mid → lt d1[q]! d1[p]! = lt' d1[q]! d1[p]! := fun p q h1 h2 h3 h4 => by rw [x1 p h2, x2 q h3 h4]; exact hA _ _ (by omega) (by omega) (by omega) (by omega)
    have A2 : ∀ p q, mid ≤ p → p < en → en ≤ q → q < b → lt d1[q]! d1[p]! = lt' d1[q]! d1[p]! := fun p q h1 h2 h3 h4 => by rw [x3 p h1 h2, x4 q h3]; exact hA _ _ (by omega) (by omega) (by omega) (by omega)
    have C : ∀ x y, a ≤ x → x < mid → mid ≤ y → y < b → lt' d1[y]! d1[x]! = false := fun x y hx1 hx2 hy1 hy2 => by
     by_cases cx : x < st
     ·rw [x1 x cx]
      by_cases cy : y < en
      ·rw [x3 y hy1 cy]
       exact hL _ _ hx1 (by omega) (by omega)
      ·rw [x4 y (by omega)]
       exact hS.ntrans _ _ _ (sorted_le hS hR en y (by omega) (by omega) hy2) (hS.ntrans _ _ _ (F1 (by omega) (by omega)) (sorted_le hS hL x (st - 1) hx1 (by omega) (by omega)))
     ·rw [x2 x (by omega) hx2]
      by_cases cy : y < en
      ·rw [x3 y hy1 cy]
       exact hS.ntrans _ _ _ (sorted_le hS hL st (y - mid + st) k1 (by omega) (by omega)) (hS.ntrans _ _ _ (hS.asymmA (F2 (by omega) (by omega))) (sorted_le hS hR (x - st + m) (en - 1) (by omega) (by omega) (by omega)))
      ·rw [x4 y (by omega)]
       exact hR _ _ (by omega) (by omega) hy2
    clear x1 x2 x3 x4 F1 F2 hA hL hR
    have B2 : PermIn a mid d1 (symB (symM lt f) a st mid d1) ∧ SortedIn lt' a mid (symB (symM lt f) a st mid d1) := by
     unfold symB
     by_cases c : a < st ∧ st < mid
     ·rw [if_pos c]
      exact ih d1 a st mid (by omega) c.1 c.2 (by omega) S1 S2 A1
     ·rw [if_neg c]
      refine ⟨permIn_refl _ _ _, ?_⟩
      by_cases c' : a < st
      ·rw [show mid = st from by omega]; exact S1
      ·rw [show a = st from by omega]; exact S2
    generalize symB (symM lt f) a st mid d1 = d2 at B2
    obtain ⟨p2, T2⟩ := B2
    have z2 : d2.size = d.size := p2.1.trans z1
    have o2 : ∀ t, mid ≤ t → d2[t]! = d1[t]! := fun t ht => p2.2.1 t (.inr ht)
    have B3 : PermIn mid b d2 (symE (symM lt f) mid en b d2) ∧ SortedIn lt' mid b (symE (symM lt f) mid en b d2) := by
     unfold symE
     have S3' : SortedIn lt' mid en d2 := fun p q hp hpq hq => by rw [o2 q (by omega), o2 p hp]; exact S3 p q hp hpq hq
     have S4' : SortedIn lt' en b d2 := fun p q hp hpq hq => by rw [o2 q (by omega), o2 p (by omega)]; exact S4 p q hp hpq hq
     by_cases c : mid < en ∧ en < b
     ·rw [if_pos c]
      exact ih d2 mid en b (by omega) c.1 c.2 (by omega) S3' S4' (fun p q h1 h2 h3 h4 => by rw [o2 q (by omega), o2 p h1]; exact A2 p q h1 h2 h3 h4)
     ·rw [if_neg c]
      refine ⟨permIn_refl _ _ _, ?_⟩
      by_cases c' : mid < en
      ·rw [show b = en from by omega]; exact S3'
      ·rw [show mid = en from by omega]; exact S4'
    generalize symE (symM lt f) mid en b d2 = d3 at B3
    obtain ⟨p3, T3⟩ := B3
    refine ⟨permIn_trans _ _ _ _ _ p1 (permIn_trans _ _ _ _ _ (permIn_mono _ _ _ _ _ _ (Nat.le_refl _) (by omega) (by omega) p2) (permIn_mono _ _ _ _ _ _ (by omega) (Nat.le_refl _) (by omega) p3)), fun p q hp hpq hq => ?_⟩
    by_cases cq : q < mid
    ·rw [p3.2.1 q (.inl cq), p3.2.1 p (.inl (by omega))]
     exact T2 p q hp hpq cq
    ·by_cases cp : p < mid
     ·rw [p3.2.1 p (.inl cp)]
      refine permIn_all d2 d3 mid b (fun y => lt' y d2[p]! = false) (by omega) p3 (fun y h1 h2 => ?_) q (by omega) hq
      rw [o2 y h1]
      exact permIn_all d1 d2 a mid (fun x => lt' d1[y]! x = false) (by omega) p2 (fun x h3 h4 => C x y h3 h4 h1 h2) p hp cp
     ·exact T3 p q (by omega) hpq hq
theorem insInner_agree (a : Nat) : ∀ (j : Nat) (d : Array α), j < d.size → (∀ p, a ≤ p → p < j → lt d[j]! d[p]! = lt' d[j]! d[p]!) → insInner lt a j d = insInner lt' a j d
 | 0, d, _, _ => rfl
 | j + 1, d, hj, h => by
  unfold insInner
  by_cases c : a < j + 1
  ·rw [h j (by omega) (by omega)]
   split
   ·have g := swp_get d hj (show j < d.size by omega)
    refine insInner_agree a j _ (by rw [swp_size]; omega) (fun p h1 h2 => ?_)
    rw [g, g, if_pos rfl, if_neg (by omega), if_neg (by omega)]
    exact h p h1 (by omega)
   ·rfl
  ·have e : decide (j + 1 > a) = false := decide_eq_false (by omega)
   rw [e]
   rfl
theorem insInner_perm (a : Nat) : ∀ (j : Nat) (d : Array α), a ≤ j → j < d.size → PermIn a (j + 1) d (insInner lt a j d)
 | 0, d, _, _ => permIn_refl _ _ _
 | j + 1, d, ha, hj => by
  unfold insInner
  split
  ·rename_i c
   have c' : a < j + 1 := by
    simp only [Bool.and_eq_true, decide_eq_true_eq] at c
    omega
   exact permIn_trans _ _ _ _ _ (swp_permIn d a (j + 1 + 1) (j + 1) j (by omega) (by omega) (by omega) (by omega) (by omega)) (permIn_mono _ _ _ _ _ _ (Nat.le_refl _) (by omega) (by rw [swp_size]; omega) (insInner_perm a j _ (by omega) (by rw [swp_size]; omega)))
  ·exact permIn_refl _ _ _
theorem insOuter_agree (a b : Nat) : ∀ (n i : Nat) (d : Array α), b - i ≤ n → a < i → b ≤ d.size → (∀ p q, a ≤ p → p < q → i ≤ q → q < b → lt d[q]! d[p]! = lt' d[q]! d[p]!) → insOuter lt a b i d = insOuter lt' a b i d := by
 intro n
 induction n with
 | zero =>
  intro i d h0 h1 h2 h
  rw [insOuter.eq_1 lt, if_neg (by omega), insOuter.eq_1 lt', if_neg (by omega)]
 | succ n ih =>
  intro i d h0 h1 h2 h
  rw [insOuter, insOuter.eq_1 lt']
  by_cases c : i < b
  ·rw [if_pos c, if_pos c, ← insInner_agree a i d (by omega) (fun p hp hq => h p i hp hq (Nat.le_refl _) c)]
   have P := insInner_perm (lt := lt) a i d (by omega) (by omega)
   refine ih (i + 1) _ (by omega) (by omega) (by rw [P.1]; exact h2) (fun p q h3 h4 h5 h6 => ?_)
   rw [P.2.1 q (.inr h5)]
   by_cases cp : i + 1 ≤ p
   ·rw [P.2.1 p (.inr cp)]
    exact h p q h3 h4 (by omega) h6
   ·exact permIn_all d _ a (i + 1) (fun x => lt d[q]! x = lt' d[q]! x) (by omega) P (fun t h7 h8 => h t q h7 (by omega) (by omega) h6) p h3 (by omega)
  ·rw [if_neg c, if_neg c]
theorem insertionSort_agree (hS : SWO lt') (d : Array α) (a b : Nat) (hab : a ≤ b) (hb : b ≤ d.size) (h : ∀ p q, a ≤ p → p < q → q < b → lt d[q]! d[p]! = lt' d[q]! d[p]!) : PermIn a b d (insertionSort lt d a b) ∧ SortedIn lt' a b (insertionSort lt d a b) := by
 have e : insertionSort lt d a b = insertionSort lt' d a b := insOuter_agree a b _ (a + 1) d (Nat.le_refl _) (by omega) hb (fun p q h1 h2 _ h4 => h p q h1 h2 h4)
 rw [e]
 exact insertionSort_holds hS d a b hab hb
def stL1 (lt : α → α → Bool) (bs n a : Nat) (d : Array α) : Array α := if bs = 0 ∨ n < a + bs then insertionSort lt d a n else stL1 lt bs n (a + bs) (insertionSort lt d a (a + bs))
termination_by n - a
decreasing_by omega
def stL2 (lt : α → α → Bool) (bs n a : Nat) (d : Array α) : Array α := if bs = 0 ∨ n < a + 2 * bs then (if a + bs < n then symM lt n d a (a + bs) n else d) else stL2 lt bs n (a + 2 * bs) (symM lt n d a (a + bs) (a + 2 * bs))
termination_by n - a
decreasing_by omega
def stL3 (lt : α → α → Bool) (bs n : Nat) (d : Array α) : Array α := if bs = 0 ∨ n ≤ bs then d else stL3 lt (2 * bs) n (stL2 lt bs n 0 d)
termination_by n - bs
decreasing_by omega
def stab (lt : α → α → Bool) (d : Array α) : Array α := stL3 lt 20 d.size (stL1 lt 20 d.size 0 d)
theorem stL1_size (lt : α → α → Bool) (bs n : Nat) : ∀ (m a : Nat) (d : Array α), n - a ≤ m → (stL1 lt bs n a d).size = d.size := by
 intro m
 induction m with
 | zero =>
  intro a d h
  rw [stL1]
  split
  ·exact insertionSort_size ..
  ·rename_i c
   omega
 | succ m ih =>
  intro a d h
  rw [stL1]
  split
  ·exact insertionSort_size ..
  ·rename_i c
   rw [ih _ _ (by omega), insertionSort_size]
theorem stL2_size (lt : α → α → Bool) (bs n : Nat) : ∀ (m a : Nat) (d : Array α), n - a ≤ m → (stL2 lt bs n a d).size = d.size := by
 intro m
 induction m with
 | zero =>
  intro a d h
  rw [stL2]
  split
  ·split
   ·exact symM_size ..
   ·rfl
  ·rename_i c
   omega
 | succ m ih =>
  intro a d h
  rw [stL2]
  split
  ·split
   ·exact symM_size ..
   ·rfl
  ·rename_i c
   rw [ih _ _ (by omega), symM_size]
theorem stL3_size (lt : α → α → Bool) (n : Nat) : ∀ (m bs : Nat) (d : Array α), n - bs ≤ m → (stL3 lt bs n d).size = d.size := by
 intro m
 induction m with
 | zero =>
  intro bs d h
  rw [stL3]
  split
  ·rfl
  ·rename_i c
   omega
 | succ m ih =>
  intro bs d h
  rw [stL3]
  split
  ·rfl
  ·rename_i c
   rw [ih _ _ (by omega), stL2_size _ _ _ _ _ _ (Nat.le_refl _)]
theorem stab_size (lt : α → α → Bool) (d : Array α) : (stab lt d).size = d.size := by
 unfold stab
 rw [stL3_size _ _ _ _ _ (Nat.le_refl _), stL1_size _ _ _ _ _ _ (Nat.le_refl _)]
def SegOK (lt' : α → α → Bool) (d0 d : Array α) (a b : Nat) : Prop := (∀ P : α → Prop, (∀ i, a ≤ i → i < b → P d0[i]!) → ∀ i, a ≤ i → i < b → P d[i]!) ∧ SortedIn lt' a b d
theorem SegOK.congr {d0 d d' : Array α} {a b : Nat} (h : SegOK lt' d0 d a b) (he : ∀ i, a ≤ i → i < b → d'[i]! = d[i]!) : SegOK lt' d0 d' a b :=
 ⟨fun P hP i h1 h2 => by rw [he i h1 h2]; exact h.1 P hP i h1 h2, fun p q h1 h2 h3 => by rw [he q (by omega) h3, he p h1 (by omega)]; exact h.2 p q h1 h2 h3⟩
variable {d0 : Array α}
theorem seg_ins (hS : SWO lt') (hA : ∀ p q, p < q → q < d0.size → lt d0[q]! d0[p]! = lt' d0[q]! d0[p]!) (d : Array α) (a b : Nat) (hz : d.size = d0.size) (hab : a ≤ b) (hb : b ≤ d.size) (he : ∀ i, a ≤ i → d[i]! = d0[i]!) :
  PermIn a b d (insertionSort lt d a b) ∧ SegOK lt' d0 (insertionSort lt d a b) a b := by
 obtain ⟨h1, h2⟩ := insertionSort_agree (lt := lt) hS d a b hab hb (fun p q hp hpq hq => by rw [he q (by omega), he p hp]; exact hA p q hpq (by omega))
 exact ⟨h1, fun P hP => permIn_all d _ a b P hb h1 (fun i hi1 hi2 => by rw [he i hi1]; exact hP i hi1 hi2), h2⟩
theorem seg_sym (hS : SWO lt') (hA : ∀ p q, p < q → q < d0.size → lt d0[q]! d0[p]! = lt' d0[q]! d0[p]!) (d : Array α) (a m b : Nat) (hz : d.size = d0.size) (h1 : a < m) (h2 : m < b) (hb : b ≤ d.size) (hL : SegOK lt' d0 d a m) (hR : SegOK lt' d0 d m b) :
  PermIn a b d (symM lt d0.size d a m b) ∧ SegOK lt' d0 (symM lt d0.size d a m b) a b := by
 obtain ⟨p1, p2⟩ := symM_spec (lt := lt) hS d0.size d a m b (by omega) h1 h2 hb hL.2 hR.2 (fun p q hp1 hp2 hq1 hq2 =>
  hL.1 (fun x => lt d[q]! x = lt' d[q]! x) (fun i hi1 hi2 => hR.1 (fun y => lt y d0[i]! = lt' y d0[i]!) (fun j hj1 hj2 => hA i j (by omega) (by omega)) q hq1 hq2) p hp1 hp2)
 refine ⟨p1, fun P hP => permIn_all d _ a b P hb p1 (fun i hi1 hi2 => ?_), p2⟩
 by_cases c : i < m
 ·exact hL.1 P (fun t h3 h4 => hP t h3 (by omega)) i hi1 c
 ·exact hR.1 P (fun t h3 h4 => hP t (by omega) h4) i (by omega) hi2
def Lvl (lt' : α → α → Bool) (d0 d : Array α) (bs n lo hi : Nat) : Prop := ∀ k, lo ≤ k * bs → k * bs < hi → SegOK lt' d0 d (k * bs) (min ((k + 1) * bs) n)
theorem stL1_spec (hS : SWO lt') (hA : ∀ p q, p < q → q < d0.size → lt d0[q]! d0[p]! = lt' d0[q]! d0[p]!) (bs : Nat) (hbs : 0 < bs) : ∀ (m k : Nat) (d : Array α), d0.size - k * bs ≤ m → k * bs ≤ d0.size → PermIn 0 d0.size d0 d → Lvl lt' d0 d bs d0.size 0 (k * bs) → (∀ i, k * bs ≤ i → d[i]! = d0[i]!) →
  PermIn 0 d0.size d0 (stL1 lt bs d0.size (k * bs) d) ∧ Lvl lt' d0 (stL1 lt bs d0.size (k * bs) d) bs d0.size 0 d0.size := by
 intro m
 induction m with
 | zero =>
  intro k d h0 h1 hp hl he
  rw [stL1, if_pos (by omega)]
  obtain ⟨s1, s2⟩ := seg_ins (lt := lt) hS hA d (k * bs) d0.size hp.1 h1 (by rw [hp.1]; exact Nat.le_refl _) he
  refine ⟨permIn_trans _ _ _ _ _ hp (permIn_mono _ _ _ _ _ _ (Nat.zero_le _) (Nat.le_refl _) (by rw [hp.1]; exact Nat.le_refl _) s1), fun j hj1 hj2 => ?_⟩
  have h5 : j < k := Nat.lt_of_mul_lt_mul_right (show j * bs < k * bs by omega)
  have h6 : (j + 1) * bs ≤ k * bs := Nat.mul_le_mul_right _ h5
  exact (hl j hj1 (by omega)).congr (fun i hi1 hi2 => s1.2.1 i (.inl (by omega)))
 | succ m ih =>
  intro k d h0 h1 hp hl he
  rw [stL1]
  by_cases c : bs = 0 ∨ d0.size < k * bs + bs
  ·rw [if_pos c]
   obtain ⟨s1, s2⟩ := seg_ins (lt := lt) hS hA d (k * bs) d0.size hp.1 h1 (by rw [hp.1]; exact Nat.le_refl _) he
   refine ⟨permIn_trans _ _ _ _ _ hp (permIn_mono _ _ _ _ _ _ (Nat.zero_le _) (Nat.le_refl _) (by rw [hp.1]; exact Nat.le_refl _) s1), fun j hj1 hj2 => ?_⟩
   have hkj : j * bs < k * bs ∨ j = k := by
    rcases Nat.lt_trichotomy j k with h | h | h
    ·exact .inl (Nat.mul_lt_mul_of_pos_right h hbs)
    ·exact .inr h
    ·have : (k + 1) * bs ≤ j * bs := Nat.mul_le_mul_right _ h
     rw [Nat.add_mul, Nat.one_mul] at this
     omega
   rcases hkj with h | h
   ·have h5 : j < k := Nat.lt_of_mul_lt_mul_right h
    have h6 : (j + 1) * bs ≤ k * bs := Nat.mul_le_mul_right _ h5
    exact (hl j hj1 h).congr (fun i hi1 hi2 => s1.2.1 i (.inl (by omega)))
   ·subst h
    rw [Nat.min_eq_right (by rw [Nat.add_mul, Nat.one_mul]; omega)]
    exact s2
  ·rw [if_neg c]
   obtain ⟨s1, s2⟩ := seg_ins (lt := lt) hS hA d (k * bs) (k * bs + bs) hp.1 (by omega) (by rw [hp.1]; omega) he
   have e : k * bs + bs = (k + 1) * bs := by rw [Nat.add_mul, Nat.one_mul]
   rw [e] at s1 s2 ⊢
   refine ih (k + 1) _ (by omega) (by omega) (permIn_trans _ _ _ _ _ hp (permIn_mono _ _ _ _ _ _ (Nat.zero_le _) (by omega) (by rw [hp.1]; exact Nat.le_refl _) s1)) (fun j hj1 hj2 => ?_) (fun i hi => (s1.2.1 i (.inr hi)).trans (he i (by omega)))
   have h5 : j < k + 1 := Nat.lt_of_mul_lt_mul_right hj2
   by_cases h : j = k
   ·subst h
    rw [Nat.min_eq_left (by omega)]
    exact s2
   ·have h6 : (j + 1) * bs ≤ k * bs := Nat.mul_le_mul_right _ (by omega)
    exact (hl j hj1 (by rw [Nat.add_mul] at h6; omega)).congr (fun i hi1 hi2 => s1.2.1 i (.inl (by omega)))
theorem stL2_spec (hS : SWO lt') (hA : ∀ p q, p < q → q < d0.size → lt d0[q]! d0[p]! = lt' d0[q]! d0[p]!) (bs : Nat) (hbs : 0 < bs) : ∀ (m k : Nat) (d : Array α), d0.size - k * (2 * bs) ≤ m → PermIn 0 d0.size d0 d → Lvl lt' d0 d (2 * bs) d0.size 0 (k * (2 * bs)) → Lvl lt' d0 d bs d0.size (k * (2 * bs)) d0.size →
  PermIn 0 d0.size d0 (stL2 lt bs d0.size (k * (2 * bs)) d) ∧ Lvl lt' d0 (stL2 lt bs d0.size (k * (2 * bs)) d) (2 * bs) d0.size 0 d0.size := by
 intro m
 have last : ∀ (k : Nat) (d : Array α), d0.size < k * (2 * bs) + 2 * bs → PermIn 0 d0.size d0 d → Lvl lt' d0 d (2 * bs) d0.size 0 (k * (2 * bs)) → Lvl lt' d0 d bs d0.size (k * (2 * bs)) d0.size →
   PermIn 0 d0.size d0 (if k * (2 * bs) + bs < d0.size then symM lt d0.size d (k * (2 * bs)) (k * (2 * bs) + bs) d0.size else d) ∧ Lvl lt' d0 (if k * (2 * bs) + bs < d0.size then symM lt d0.size d (k * (2 * bs)) (k * (2 * bs) + bs) d0.size else d) (2 * bs) d0.size 0 d0.size := by
  intro k d hn hp hl hr
  have ek : k * (2 * bs) = (2 * k) * bs := by rw [← Nat.mul_assoc, Nat.mul_comm k 2]
  have ek1 : (2 * k + 1) * bs = k * (2 * bs) + bs := by rw [Nat.add_mul, Nat.one_mul, ← ek]
  have split : ∀ j, j * (2 * bs) < d0.size → (j * (2 * bs) < k * (2 * bs) ∧ (j + 1) * (2 * bs) ≤ k * (2 * bs)) ∨ j = k := by
   intro j hj
   rcases Nat.lt_trichotomy j k with h | h | h
   ·exact .inl ⟨Nat.mul_lt_mul_of_pos_right h (by omega), Nat.mul_le_mul_right _ h⟩
   ·exact .inr h
   ·have : (k + 1) * (2 * bs) ≤ j * (2 * bs) := Nat.mul_le_mul_right _ h
    rw [Nat.add_mul, Nat.one_mul] at this
    omega
  by_cases c : k * (2 * bs) + bs < d0.size
  ·rw [if_pos c]
   have hL := hr (2 * k) (by omega) (by omega)
   have hR := hr (2 * k + 1) (by omega) (by omega)
   rw [ek1, ← ek, Nat.min_eq_left (by omega)] at hL
   rw [ek1, Nat.min_eq_right (by rw [Nat.add_mul, ek1]; omega)] at hR
   obtain ⟨s1, s2⟩ := seg_sym (lt := lt) hS hA d (k * (2 * bs)) (k * (2 * bs) + bs) d0.size hp.1 (by omega) c (by rw [hp.1]; exact Nat.le_refl _) hL hR
   refine ⟨permIn_trans _ _ _ _ _ hp (permIn_mono _ _ _ _ _ _ (Nat.zero_le _) (Nat.le_refl _) (by rw [hp.1]; exact Nat.le_refl _) s1), fun j hj1 hj2 => ?_⟩
   rcases split j hj2 with ⟨h, h'⟩ | h
   ·exact (hl j hj1 h).congr (fun i hi1 hi2 => s1.2.1 i (.inl (by omega)))
   ·subst h
    rw [Nat.min_eq_right (by rw [Nat.add_mul, Nat.one_mul]; omega)]
    exact s2
  ·rw [if_neg c]
   refine ⟨hp, fun j hj1 hj2 => ?_⟩
   rcases split j hj2 with ⟨h, h'⟩ | h
   ·exact hl j hj1 h
   ·subst h
    have := hr (2 * j) (by omega) (by omega)
    rw [ek1, ← ek, Nat.min_eq_right (by omega)] at this
    rw [Nat.min_eq_right (by rw [Nat.add_mul, Nat.one_mul]; omega)]
    exact this
 induction m with
 | zero =>
  intro k d h0 hp hl hr
  rw [stL2, if_pos (by omega)]
  exact last k d (by omega) hp hl hr
 | succ m ih =>
  intro k d h0 hp hl hr
  rw [stL2]
  by_cases c : bs = 0 ∨ d0.size < k * (2 * bs) + 2 * bs
  ·rw [if_pos c]
   exact last k d (by omega) hp hl hr
  ·rw [if_neg c]
   have ek : k * (2 * bs) = (2 * k) * bs := by rw [← Nat.mul_assoc, Nat.mul_comm k 2]
   have ek1 : (2 * k + 1) * bs = k * (2 * bs) + bs := by rw [Nat.add_mul, Nat.one_mul, ← ek]
   have ek2 : (2 * k + 1 + 1) * bs = k * (2 * bs) + 2 * bs := by rw [Nat.add_mul, ek1]; omega
   have e : k * (2 * bs) + 2 * bs = (k + 1) * (2 * bs) := by rw [Nat.add_mul, Nat.one_mul]
   have hL := hr (2 * k) (by omega) (by omega)
   have hR := hr (2 * k + 1) (by omega) (by omega)
   rw [ek1, ← ek, Nat.min_eq_left (by omega)] at hL
   rw [ek1, ek2, Nat.min_eq_left (by omega)] at hR
   obtain ⟨s1, s2⟩ := seg_sym (lt := lt) hS hA d (k * (2 * bs)) (k * (2 * bs) + bs) (k * (2 * bs) + 2 * bs) hp.1 (by omega) (by omega) (by rw [hp.1]; omega) hL hR
   rw [e] at s1 s2 ⊢
   refine ih (k + 1) _ (by omega) (permIn_trans _ _ _ _ _ hp (permIn_mono _ _ _ _ _ _ (Nat.zero_le _) (by omega) (by rw [hp.1]; exact Nat.le_refl _) s1)) (fun j hj1 hj2 => ?_) (fun j hj1 hj2 => ?_)
   ·have h5 : j < k + 1 := Nat.lt_of_mul_lt_mul_right hj2
    by_cases h : j = k
    ·subst h
     rw [Nat.min_eq_left (by omega)]
     exact s2
    ·have h6 : (j + 1) * (2 * bs) ≤ k * (2 * bs) := Nat.mul_le_mul_right _ (by omega)
     exact (hl j hj1 (by rw [Nat.add_mul] at h6; omega)).congr (fun i hi1 hi2 => s1.2.1 i (.inl (by omega)))
   ·exact (hr j (by omega) hj2).congr (fun i hi1 hi2 => s1.2.1 i (.inr (by omega)))
theorem stL3_spec (hS : SWO lt') (hA : ∀ p q, p < q → q < d0.size → lt d0[q]! d0[p]! = lt' d0[q]! d0[p]!) : ∀ (m bs : Nat) (d : Array α), d0.size - bs ≤ m → 0 < bs → PermIn 0 d0.size d0 d → Lvl lt' d0 d bs d0.size 0 d0.size → PermIn 0 d0.size d0 (stL3 lt bs d0.size d) ∧ SortedIn lt' 0 d0.size (stL3 lt bs d0.size d) := by
 intro m
 have fin : ∀ (bs : Nat) (d : Array α), 0 < bs → d0.size ≤ bs → PermIn 0 d0.size d0 d → Lvl lt' d0 d bs d0.size 0 d0.size → PermIn 0 d0.size d0 d ∧ SortedIn lt' 0 d0.size d := by
  intro bs d hb h hp hl
  refine ⟨hp, fun p q h1 h2 h3 => ?_⟩
  have := hl 0 (Nat.zero_le _) (by omega)
  rw [Nat.zero_mul, Nat.zero_add, Nat.one_mul, Nat.min_eq_right h] at this
  exact this.2 p q h1 h2 h3
 induction m with
 | zero =>
  intro bs d h0 hb hp hl
  rw [stL3, if_pos (by omega)]
  exact fin bs d hb (by omega) hp hl
 | succ m ih =>
  intro bs d h0 hb hp hl
  rw [stL3]
  by_cases c : bs = 0 ∨ d0.size ≤ bs
  ·rw [if_pos c]
   exact fin bs d hb (by omega) hp hl
  ·rw [if_neg c]
   have := stL2_spec (lt := lt) hS hA bs hb _ 0 d (Nat.le_refl _) hp (fun k h1 h2 => by rw [Nat.zero_mul] at h2; omega) (fun k _ h2 => hl k (Nat.zero_le _) h2)
   rw [Nat.zero_mul] at this
   exact ih (2 * bs) _ (by omega) (by omega) this.1 this.2
theorem stab_spec (hS : SWO lt') (hA : ∀ p q, p < q → q < d0.size → lt d0[q]! d0[p]! = lt' d0[q]! d0[p]!) : PermIn 0 d0.size d0 (stab lt d0) ∧ SortedIn lt' 0 d0.size (stab lt d0) := by
 unfold stab
 have := stL1_spec (lt := lt) hS hA 20 (by omega) _ 0 d0 (Nat.le_refl _) (by omega) (permIn_refl _ _ _) (fun k h1 h2 => by rw [Nat.zero_mul] at h2; omega) (fun i _ => rfl)
 rw [Nat.zero_mul] at this
 exact stL3_spec hS hA _ 20 _ (Nat.le_refl _) (by omega) this.1 this.2
end
section
variable {P : Program} {α : Type} [Inhabited α] {enc : α → List Value} {k : Nat} {w0 W : World} {blk off : Nat} {dk d0 : Array α}
def atD (w : World) (t : Nat) : World := { w with drawn := t }
structure GrownX where
 t : Nat
 os : Array Obj
instance : Inhabited GrownX := ⟨⟨0, #[]⟩⟩
theorem wp_region_quietX {id : Nat} {Q : Exit → Act → World → Prop} {a : Act} {w : World} {l : List Oper} (hm : P.follows .mixedOrders = true) (hB : Region.lexB .any l.toArray = true)
  (h : wpQuiet P l.toArray (fun w' => ∃ p : GrownX, w' = grow (atD w p.t) p.os) (fun a' => ∀ w', (∃ p : GrownX, w' = grow (atD w p.t) p.os) → Q .normal a' w') l a) : (Code.region id l.toArray true).wp P Q a w :=
 wp_region_quiet (C := fun w' => ∃ p : GrownX, w' = grow (atD w p.t) p.os) hm hB ⟨⟨w.drawn + 1, #[]⟩, by rw [grow_empty]; rfl⟩ (by simpa using h)
theorem callsX_of {f : FuncId} {args : Array Value} {w : World} {t : Nat} {os : Array Obj} {v : Value}
  (h : Calls P f args (grow (atD w t) os) fun e w' => e = .returned v ∧ ∃ t' os', w' = grow (atD (grow (atD w t) os) t') os') : Calls P f args (grow (atD w t) os) fun e w'' => e = .returned v ∧ ∃ p : GrownX, w'' = grow (atD w p.t) p.os :=
 h.mono fun _ _ ⟨he, t', os', hq⟩ => ⟨he, ⟨t', os ++ os'⟩, by rw [hq]; show grow (grow (atD w t') os) os' = _; rw [grow_grow]⟩
theorem grownX_of_below {w w' : World} (h : RowKit.Below w.heap.size w w') : ∃ t os, w' = grow (atD w t) os := by
 refine ⟨w'.drawn, w'.heap.extract w.heap.size w'.heap.size, ?_⟩
 obtain ⟨h1, h2, h3, h4, h5⟩ := h
 cases w with
 | mk heap tape drawn os output =>
  cases w' with
  | mk heap' tape' drawn' os' output' =>
   simp only at h1 h2 h3 h4 h5
   subst h1; subst h2; subst h3
   unfold grow atD
   congr 1
   apply Array.ext_getElem?
   intro i
   rw [Array.getElem?_append]
   by_cases c : i < heap.size
   ·rw [if_pos c, h5 i c]
   ·rw [if_neg c, Array.getElem?_extract]
    show _ = (if i - heap.size < min heap'.size heap'.size - heap.size then heap'[heap.size + (i - heap.size)]? else none)
    rw [Nat.min_self]
    by_cases c2 : i < heap'.size
    ·rw [if_pos (by omega), show heap.size + (i - heap.size) = i from by omega]
    ·rw [if_neg (by omega), Array.getElem?_eq_none (by omega)]
def CmpB (P : Program) (g : Nat) (cb : Array Value) (enc : α → List Value) (cf : α → α → Int) : Prop :=
 ∀ (W : World) (x y : α), Calls P g (#[.agg (enc x).toArray, .agg (enc y).toArray] ++ cb) W fun e w' => e = .returned (.int .i64 (cf x y)) ∧ RowKit.Below W.heap.size W w'
def SWX (enc : α → List Value) (k : Nat) (w0 : World) (blk off : Nat) (dk : Array α) (W : World) : Prop := ∃ t, SWK enc k (atD w0 t) blk off dk W
theorem rowK_at (R : RowK enc k w0 blk off d0) (t : Nat) : RowK enc k (atD w0 t) blk off d0 := ⟨R.hk, R.h1, R.hH, R.hblk⟩
theorem SWX.start (h : HoldsK enc k w0 blk off dk) : SWX enc k w0 blk off dk w0 := ⟨w0.drawn, SWK.start h⟩
theorem SWX.grownX (h : SWX enc k w0 blk off dk W) (t : Nat) (os : Array Obj) : SWX enc k w0 blk off dk (grow (atD W t) os) := by
 obtain ⟨t0, m, os0, rfl⟩ := h
 refine ⟨t, 0, os0 ++ os, ?_⟩
 unfold sortWorldK
 rw [← grow_grow]
 rfl
theorem SWX.drew (h : SWX enc k w0 blk off dk W) : SWX enc k w0 blk off dk W.drew := by
 obtain ⟨t, h⟩ := h
 exact ⟨t, h.drew⟩
theorem SWX.swapped (h : SWX enc k w0 blk off dk W) (R : RowK enc k w0 blk off d0) (i j : Nat) (hi : i < dk.size) (hj : j < dk.size) :
  SWX enc k w0 blk off (swp dk i j) ((W.drew.setCells blk (off + i * k) (enc dk[j]!)).setCells blk (off + j * k) (enc dk[i]!)) := by
 obtain ⟨t, h⟩ := h
 exact ⟨t, h.swapped (rowK_at R t) i j hi hj⟩
theorem SWX.ld1 (h : SWX enc k w0 blk off dk W) (R : RowK enc k w0 blk off d0) (hs : dk.size = d0.size) (P : Program) (i : Nat) (hi : i < dk.size) :
  Sem.run P (loadCellsFrom ⟨blk, off + i * k, none⟩ 0 k #[]) W.drew = .ok (enc dk[i]!).toArray W.drew := by
 obtain ⟨t, h⟩ := h
 exact h.ld1 (rowK_at R t) hs P i hi
theorem SWX.st1 (h : SWX enc k w0 blk off dk W) (R : RowK enc k w0 blk off d0) (hs : dk.size = d0.size) (P : Program) (i : Nat) (hi : i < dk.size) (y : α) :
  Sem.run P (storeCells ⟨blk, off + i * k, none⟩ (enc y) 0) W.drew = .ok () (W.drew.setCells blk (off + i * k) (enc y)) := by
 obtain ⟨t, h⟩ := h
 exact h.st1 (rowK_at R t) hs P i hi y
theorem SWX.st2 (h : SWX enc k w0 blk off dk W) (R : RowK enc k w0 blk off d0) (hs : dk.size = d0.size) (P : Program) (i j : Nat) (hi : i < dk.size) (hj : j < dk.size) (y x : α) :
  Sem.run P (storeCells ⟨blk, off + j * k, none⟩ (enc x) 0) (W.drew.setCells blk (off + i * k) (enc y)) = .ok () ((W.drew.setCells blk (off + i * k) (enc y)).setCells blk (off + j * k) (enc x)) := by
 obtain ⟨t, h⟩ := h
 exact h.st2 (rowK_at R t) hs P i j hi hj y x
theorem SWX.ld (h : SWX enc k w0 blk off dk W) (R : RowK enc k w0 blk off d0) (hs : dk.size = d0.size) (P : Program) (i : Nat) (hi : i < dk.size) (t : Nat) (os : Array Obj) :
  Sem.run P (loadCellsFrom ⟨blk, off + i * k, none⟩ 0 k #[]) (grow (atD W t) os) = .ok (enc dk[i]!).toArray (grow (atD W t) os) := by
 obtain ⟨t', h⟩ := h.grownX t os
 exact h.load (rowK_at R t') hs P i hi
omit [Inhabited α] in
theorem CmpB.at_ {g : Nat} {cb : Array Value} {cf : α → α → Int} (hC : CmpB P g cb enc cf) (W : World) (x y : α) (t : Nat) (os : Array Obj) :
  Calls P g (#[.agg (enc x).toArray, .agg (enc y).toArray] ++ cb) (grow (atD W t) os) fun e w' => e = .returned (.int .i64 (cf x y)) ∧ ∃ t' os', w' = grow (atD (grow (atD W t) os) t') os' :=
 (hC _ x y).mono fun _ _ ⟨he, hb⟩ => ⟨he, grownX_of_below hb⟩
end
end Go.Proofs.Ytcgejabkjljeeaa.P
end

section
namespace Go.Proofs.Ytcgejabkjljeeaa.P
open Go.RowKit Go.Proofs.YtcgejabkjljeeaaW.PrintWords Go.Proofs.YtcgejabkjljeeaaW.PrintLast Go.Proofs.YtcgejabkjljeeaaW.PrintMore
attribute [local go_sem] str_gtr str_leq str_geq qe1 qc1 max_two min_two qy qx qd1 qb1
set_option linter.unusedVariables false
set_option linter.unusedSimpArgs false
theorem yq42 {P : Prop} (h : P := by repeat (first | (with_reducible first | exact HB.out | apply qd | apply qb | apply qe) | exact HB.out)) : P := h
mutual
def spec_VersionOk.j0 : Nat → Bool → List (S66) → Int → Int → Int → Option (Bool)
 | 0, _, _, _, _, _ => none
 | k + 1, x29, x102000, x102001, x102002, x102003 => if x29 = true then (some false) else (spec_VersionOk.l0 k 0 x102000 x102001 x102002 x102003)
def spec_VersionOk.l0 : Nat → Int → List (S66) → Int → Int → Int → Option (Bool)
 | 0, _, _, _, _, _ => none
 | k + 1, x3, x102000, x102001, x102002, x102003 => if x3 < (x102000.length : Int) then (if 0 ≤ x3 then ((spec_l12Meta.f ((ql x102000 x3).f0) ((ql x102000 x3).f1) ((ql x102000 x3).f2) ((ql x102000 x3).f3) ((ql x102000 x3).f4)).bind fun t106 => (if t106 = true then (if ((ql x102000 x3).f0) ≥ x102001 then (spec_VersionOk.j2 k x3 true x102000 x102001 x102002 x102003) else (if x3 > 0 then (if 0 ≤ (wrap64 (x3 - 1)) then (if (wrap64 (x3 - 1)) < (x102000.length : Int) then ((spec_l12Ahead.f ((ql x102000 (wrap64 (x3 - 1))).f0) ((ql x102000 (wrap64 (x3 - 1))).f1) ((ql x102000 (wrap64 (x3 - 1))).f2) ((ql x102000 (wrap64 (x3 - 1))).f3) ((ql x102000 (wrap64 (x3 - 1))).f4) ((ql x102000 x3).f0) ((ql x102000 x3).f1) ((ql x102000 x3).f2) ((ql x102000 x3).f3) ((ql x102000 x3).f4)).bind fun t110 => (spec_VersionOk.j2 k x3 (!t110) x102000 x102001 x102002 x102003)) else (none)) else (none)) else (spec_VersionOk.j2 k x3 false x102000 x102001 x102002 x102003))) else (spec_VersionOk.j2 k x3 true x102000 x102001 x102002 x102003))) else (none)) else (some true)
def spec_VersionOk.j2 : Nat → Int → Bool → List (S66) → Int → Int → Int → Option (Bool)
 | 0, _, _, _, _, _, _ => none
 | k + 1, x3, x73, x102000, x102001, x102002, x102003 => if x73 = true then (some false) else (spec_VersionOk.l1 k x3 0 x102000 x102001 x102002 x102003)
def spec_VersionOk.l1 : Nat → Int → Int → List (S66) → Int → Int → Int → Option (Bool)
 | 0, _, _, _, _, _, _ => none
 | k + 1, x3, x4, x102000, x102001, x102002, x102003 => if x4 < x3 then (if 0 ≤ x4 then (if x4 < (x102000.length : Int) then (if 0 ≤ x3 then (if x3 < (x102000.length : Int) then (if ((ql x102000 x4).f0) = ((ql x102000 x3).f0) then (some false) else (spec_VersionOk.l1 k x3 (wrap64 (x4 + 1)) x102000 x102001 x102002 x102003)) else (none)) else (none)) else (none)) else (none)) else (spec_VersionOk.l0 k (wrap64 (x3 + 1)) x102000 x102001 x102002 x102003)
end
def spec_VersionOk.f (k : Nat) (l0_0 : List (S66)) (a0_1 : Int) (a0_2 : Int) (a0_3 : Int) : Option (Bool) := if (l0_0.length : Int) > 30 then (spec_VersionOk.j0 k true l0_0 a0_1 a0_2 a0_3) else ((spec_l1In.f a0_1 1 1000000).bind fun t102 => (if t102 = true then ((spec_l1In.f a0_2 0 1000000000000).bind fun t103 => (if t103 = true then ((spec_l1In.f a0_3 0 (wrap64 (a0_1 - 1))).bind fun t104 => (spec_VersionOk.j0 k (!t104) l0_0 a0_1 a0_2 a0_3)) else (spec_VersionOk.j0 k true l0_0 a0_1 a0_2 a0_3))) else (spec_VersionOk.j0 k true l0_0 a0_1 a0_2 a0_3)))
open Go.Shelf Go.Lib Go.Sort
theorem cellX {w : World} {a : Addr} {v : Value} (h : w.cell? a = some v) (t : Nat) (os : Array Obj) : (grow (atD w t) os).cell? a = some v := by
 have hl := World.block_lt_of_cell? w a h
 unfold World.cell? at h ⊢
 have : (grow (atD w t) os).heap[a.block]? = w.heap[a.block]? := by
  show (w.heap ++ os)[a.block]? = _
  rw [Array.getElem?_append_left hl]
 rw [this]
 exact h
theorem below_grow (w : World) (t : Nat) (os : Array Obj) : Below w.heap.size w (grow (atD w t) os) := by
 constructor
 all_goals first
  | rfl
  | (show w.heap.size ≤ (w.heap ++ os).size; simp; done)
  | (intro k hk; show (w.heap ++ os)[k]? = _; rw [Array.getElem?_append_left hk])
theorem wpQuiet_skip {P : Program} {ops : Array Oper} {C : World → Prop} {Q : Act → Prop} {a : Act} {o : Oper} {rest : List Oper} (hw : Region.wanted o (yielded ops a.tmps) = false) (h : ∀ K : Act → Prop, (∀ a, wpQuiet P ops C Q rest a → K a) → K (a.put o.dst undef)) : wpQuiet P ops C Q (o :: rest) a := by
 unfold wpQuiet
 rw [hw]
 exact h _ (fun _ h => h)
theorem wpQuiet_want {P : Program} {ops : Array Oper} {C : World → Prop} {Q : Act → Prop} {a : Act} {o : Oper} {rest : List Oper} (hw : Region.wanted o (yielded ops a.tmps) = true) (h : ∀ K : Act → Prop, (∀ a, wpQuiet P ops C Q rest a → K a) → o.quiet P a C K) : wpQuiet P ops C Q (o :: rest) a := by
 unfold wpQuiet
 rw [if_pos hw]
 exact h _ (fun _ h => h)
theorem svT (k : Nat) (l : List S66) (n s g : Int) (r : Bool) (h : spec_VersionOk.j0 k true l n s g = some r) : r = false := by
 cases k with
 | zero => cases h
 | succ k => rw [spec_VersionOk.j0, if_pos rfl] at h; exact (Option.some.inj h).symm
theorem svT2 (k : Nat) (i : Int) (l : List S66) (n s g : Int) (r : Bool) (h : spec_VersionOk.j2 k i true l n s g = some r) : r = false := by
 cases k with
 | zero => cases h
 | succ k => rw [spec_VersionOk.j2, if_pos rfl] at h; exact (Option.some.inj h).symm
theorem svN (k : Nat) (i : Int) (l : List S66) (n s g : Int) (r : Bool) (h : spec_VersionOk.j2 k i false l n s g = some r) : ∃ k2, k = k2 + 1 ∧ spec_VersionOk.l1 k2 i 0 l n s g = some r := by
 cases k with
 | zero => cases h
 | succ k => rw [spec_VersionOk.j2, if_neg (by decide)] at h; exact ⟨k, rfl, h⟩
set_option maxHeartbeats 4000000 in
set_option maxRecDepth 100000 in
theorem spec_VersionOk.calls (k : Nat) (A0_0 : Option Addr) (c0_0 : Nat) (l0_0 : List (S66)) (a0_1 : Int) (a0_2 : Int) (a0_3 : Int) (r : Bool) (w : World) (hr0_0 : Kd.C k66 w A0_0 l0_0.length l0_0) (hc0_0 : l0_0.length ≤ c0_0) (h : spec_VersionOk.f k l0_0 a0_1 a0_2 a0_3 = some r) :
  Calls Try.prog 26 #[.agg #[.slice A0_0 l0_0.length c0_0, .int .i64 a0_1, .int .i64 a0_2, .int .i64 a0_3]] w fun e w' => e = .returned (.bool r) ∧ Below w.heap.size w w' := by
 have hu32 := Try.underlying32
 have hu66 := Try.underlying66
 have mixed : Try.prog.follows .mixedOrders = true := by kernel_rfl
 have HR := Qz.mk hr0_0
 have hlm := Kd.C_max hr0_0
 clear hr0_0 hc0_0
 have HB := Qz.mk ((Below.refl _ w).alloc (Nat.le_refl _) (.cells #[.slice A0_0 l0_0.length c0_0, .int .i64 a0_1, .int .i64 a0_2, .int .i64 a0_3] 32))
 have BK := Qz.mk (blk_new w (.cells #[.slice A0_0 l0_0.length c0_0, .int .i64 a0_1, .int .i64 a0_2, .int .i64 a0_3] 32))
 unfold spec_VersionOk.f at h
 by_cases c0 : (l0_0.length : Int) > 30
 ·have c0b : decide ((30 : Int) < (l0_0.length : Int)) = true := decide_eq_true c0
  rw [if_pos c0] at h
  obtain rfl := svT _ _ _ _ _ _ h
  clear h c0
  go_enter Try.func26, Try.ntmps26
  go_wp2
  go_ret
  exact ⟨rfl, HB.out⟩
 have c0b : decide ((30 : Int) < (l0_0.length : Int)) = false := decide_eq_false c0
 rw [if_neg c0] at h
 clear c0
 obtain ⟨t1, A1_, h⟩ := Option.bind_eq_some_iff.mp h
 have A1 := Qz.mk A1_
 clear A1_
 cases t1 with
 | false =>
  obtain rfl := svT _ _ _ _ _ _ h
  clear h
  go_enter Try.func26, Try.ntmps26
  go_wp2_with (first | (go_at_call 63; (with_reducible refine (spec_l1In.calls a0_1 1 1000000 false _ A1.out).mono ?_); rintro e w' ⟨rfl, ⟨nd, rfl⟩⟩))
  go_ret
  exact ⟨rfl, yq42⟩
 | true =>
 obtain ⟨t2, A2_, h⟩ := Option.bind_eq_some_iff.mp h
 have A2 := Qz.mk A2_
 clear A2_
 cases t2 with
 | false =>
  obtain rfl := svT _ _ _ _ _ _ h
  clear h
  go_enter Try.func26, Try.ntmps26
  go_wp2_with (first | (go_at_call 63; (with_reducible refine (spec_l1In.calls a0_1 1 1000000 true _ A1.out).mono ?_); rintro e w' ⟨rfl, ⟨nd, rfl⟩⟩) | (go_at_call 63; (with_reducible refine (spec_l1In.calls a0_2 0 1000000000000 false _ A2.out).mono ?_); rintro e w' ⟨rfl, ⟨nd, rfl⟩⟩))
  go_ret
  exact ⟨rfl, yq42⟩
 | true =>
 obtain ⟨t3, A3_, h⟩ := Option.bind_eq_some_iff.mp h
 have A3 := Qz.mk A3_
 clear A3_
 cases t3 with
 | false =>
  obtain rfl := svT _ _ _ _ _ _ h
  clear h
  go_enter Try.func26, Try.ntmps26
  go_wp2_with (first | (go_at_call 63; (with_reducible refine (spec_l1In.calls a0_1 1 1000000 true _ A1.out).mono ?_); rintro e w' ⟨rfl, ⟨nd, rfl⟩⟩) | (go_at_call 63; (with_reducible refine (spec_l1In.calls a0_2 0 1000000000000 true _ A2.out).mono ?_); rintro e w' ⟨rfl, ⟨nd, rfl⟩⟩) | (go_at_call 63; (with_reducible refine (spec_l1In.calls a0_3 0 (wrap64 (a0_1 - 1)) false _ A3.out).mono ?_); rintro e w' ⟨rfl, ⟨nd, rfl⟩⟩))
  go_ret
  exact ⟨rfl, yq42⟩
 | true =>
 cases k with
 | zero => cases h
 | succ k =>
 replace h : spec_VersionOk.l0 k 0 l0_0 a0_1 a0_2 a0_3 = some r := h
 have H' := Qz.mk h
 clear h
 go_enter Try.func26, Try.ntmps26
 go_wp2_with (first | (go_at_call 63; (with_reducible refine (spec_l1In.calls a0_1 1 1000000 true _ A1.out).mono ?_); rintro e w' ⟨rfl, ⟨nd, rfl⟩⟩) | (go_at_call 63; (with_reducible refine (spec_l1In.calls a0_2 0 1000000000000 true _ A2.out).mono ?_); rintro e w' ⟨rfl, ⟨nd, rfl⟩⟩) | (go_at_call 63; (with_reducible refine (spec_l1In.calls a0_3 0 (wrap64 (a0_1 - 1)) true _ A3.out).mono ?_); rintro e w' ⟨rfl, ⟨nd, rfl⟩⟩))
 go_loopg [3] k (fun kq v3 wr => ∃ (i : Nat), v3 = .int .i64 i ∧ Qz (spec_VersionOk.l0 kq (i : Int) l0_0 a0_1 a0_2 a0_3 = some r) ∧ i ≤ l0_0.length ∧ Qz (kq ≤ k) ∧ Qz (wr.heap[w.heap.size]? = some (.cells #[.slice A0_0 l0_0.length c0_0, .int .i64 a0_1, .int .i64 a0_2, .int .i64 a0_3] 32 (0, 0))) ∧ Qz (Below w.heap.size w wr))
 case atStart => exact ⟨0, rfl, H', Nat.zero_le _, ⟨Nat.le_refl _⟩, ⟨by (with_reducible repeat (first | exact BK.out | refine qg ?_ _ | refine qh ?_))⟩, ⟨yq42⟩⟩
 case round =>
  clear H' BK HB
  obtain ⟨i, rfl, HA, hil, HK1, BK, HB⟩ := hrel
  cases gk with
  | zero => exact absurd HA.out (by simp [spec_VersionOk.l0])
  | succ k1 =>
   have H := HA.out
   clear HA
   simp only [spec_VersionOk.l0] at H
   have hz0 := (qa BK.out 0).trans rfl
   have hz1 := (qa BK.out 1).trans rfl
   by_cases c3 : (i : Int) < (l0_0.length : Int)
   ·rw [if_pos c3, if_pos (by omega)] at H
    have c3b : decide ((i : Int) < (l0_0.length : Int)) = true := decide_eq_true c3
    obtain ⟨t106, A4_, H⟩ := Option.bind_eq_some_iff.mp H
    have A4 := Qz.mk A4_
    clear A4_
    obtain ⟨ad, e, h0, h1, h2, h3, h4⟩ := at_T66 HR.out (i : Int) (by omega) c3
    cases e
    rw [Int.toNat_natCast] at h0 h1 h2 h3 h4
    replace h0 := (HB.out.cell (World.block_lt_of_cell? w _ h0)).trans h0
    replace h1 := (HB.out.cell (World.block_lt_of_cell? w _ h1)).trans h1
    replace h2 := (HB.out.cell (World.block_lt_of_cell? w _ h2)).trans h2
    replace h3 := (HB.out.cell (World.block_lt_of_cell? w _ h3)).trans h3
    replace h4 := (HB.out.cell (World.block_lt_of_cell? w _ h4)).trans h4
    have HX : Qz (ql l0_0 i = ql l0_0 i) := ⟨rfl⟩
    generalize ql l0_0 (i : Int) = x at h0 h1 h2 h3 h4 A4 H
    cases t106 with
    | false =>
     rw [if_neg (by decide)] at H
     obtain rfl := svT2 _ _ _ _ _ _ _ H
     clear H
     have hm : ∀ t os, Calls Try.prog 64 #[.agg #[.int .i64 x.f0, .int .i64 x.f1, .string x.f2, .string x.f3, .int .i64 x.f4]] (grow (atD wr t) os) fun e w' => e = .returned (.bool false) ∧ ∃ t' os', w' = grow (atD (grow (atD wr t) os) t') os' := fun t os => (spec_l12Meta.calls x.f0 x.f1 x.f2 x.f3 x.f4 false (grow (atD wr t) os) A4.out).mono fun _ _ h => ⟨h.1, grownX_of_below h.2⟩
     have hz0' := cellX hz0
     have h0' := cellX h0
     have h1' := cellX h1
     have h2' := cellX h2
     have h3' := cellX h3
     have h4' := cellX h4
     go_wp2
     refine wp_region_quietX (by assumption) (by kernel_rfl) ?_
     iterate 8 (with_reducible refine wpQuiet_want ?want_ (fun K hK => ?_); (case want_ => kernel_rfl); go_simp; (first | (with_reducible refine hK _ ?_; clear hK K) | (apply Exists.intro; refine ⟨fun _ => ?_, hK _ ?_⟩; (go_at_call 64; (with_reducible refine callsX_of (hm _ _))); clear hK K)))
     iterate 9 (with_reducible refine wpQuiet_skip ?skip_ (fun K hK => ?_); (case skip_ => kernel_rfl); go_simp; with_reducible refine hK _ ?_; clear hK K)
     iterate 2 (with_reducible refine wpQuiet_want ?want_ (fun K hK => ?_); (case want_ => kernel_rfl); go_simp; (first | (with_reducible refine hK _ ?_; clear hK K) | (apply Exists.intro; refine ⟨fun _ => ?_, hK _ ?_⟩; (go_at_call 64; (with_reducible refine callsX_of (hm _ _))); clear hK K)))
     iterate 17 (with_reducible refine wpQuiet_skip ?skip_ (fun K hK => ?_); (case skip_ => kernel_rfl); go_simp; with_reducible refine hK _ ?_; clear hK K)
     (with_reducible refine wpQuiet_want ?want_ (fun K hK => ?_); (case want_ => kernel_rfl); go_simp; (first | (with_reducible refine hK _ ?_; clear hK K) | (apply Exists.intro; refine ⟨fun _ => ?_, hK _ ?_⟩; (go_at_call 64; (with_reducible refine callsX_of (hm _ _))); clear hK K)))
     refine wpQuiet_nil ?_
     intro _ hw_
     obtain ⟨⟨tq, osq⟩, hw_⟩ := hw_
     subst hw_
     have HB2 := Qz.mk (HB.out.trans ((below_grow wr tq osq).mono HB.out.size))
     go_wp2
     go_ret
     exact ⟨rfl, HB2.out⟩
    | true =>
     rw [if_pos rfl] at H
     have hm : ∀ t os, Calls Try.prog 64 #[.agg #[.int .i64 x.f0, .int .i64 x.f1, .string x.f2, .string x.f3, .int .i64 x.f4]] (grow (atD wr t) os) fun e w' => e = .returned (.bool true) ∧ ∃ t' os', w' = grow (atD (grow (atD wr t) os) t') os' := fun t os => (spec_l12Meta.calls x.f0 x.f1 x.f2 x.f3 x.f4 true (grow (atD wr t) os) A4.out).mono fun _ _ h => ⟨h.1, grownX_of_below h.2⟩
     have hz0' := cellX hz0
     have hz1' := cellX hz1
     have h0' := cellX h0
     have h1' := cellX h1
     have h2' := cellX h2
     have h3' := cellX h3
     have h4' := cellX h4
     by_cases cn : x.f0 ≥ a0_1
     ·have cnb : decide (a0_1 ≤ x.f0) = true := decide_eq_true cn
      rw [if_pos cn] at H
      obtain rfl := svT2 _ _ _ _ _ _ _ H
      clear H
      go_wp2
      refine wp_region_quietX (by assumption) (by kernel_rfl) ?_
      iterate 19 (with_reducible refine wpQuiet_want ?want_ (fun K hK => ?_); (case want_ => kernel_rfl); go_simp; (first | (with_reducible refine hK _ ?_; clear hK K) | (apply Exists.intro; refine ⟨fun _ => ?_, hK _ ?_⟩; (go_at_call 64; (with_reducible refine callsX_of (hm _ _))); clear hK K)))
      iterate 17 (with_reducible refine wpQuiet_skip ?skip_ (fun K hK => ?_); (case skip_ => kernel_rfl); go_simp; with_reducible refine hK _ ?_; clear hK K)
      (with_reducible refine wpQuiet_want ?want_ (fun K hK => ?_); (case want_ => kernel_rfl); go_simp; with_reducible refine hK _ ?_; clear hK K)
      refine wpQuiet_nil ?_
      intro _ hw_
      obtain ⟨⟨tq, osq⟩, hw_⟩ := hw_
      subst hw_
      have HB2 := Qz.mk (HB.out.trans ((below_grow wr tq osq).mono HB.out.size))
      go_wp2
      go_ret
      exact ⟨rfl, HB2.out⟩
     have cnb : decide (a0_1 ≤ x.f0) = false := decide_eq_false cn
     rw [if_neg cn] at H
     by_cases ci : (i : Int) > 0
     case' pos =>
      have cib : decide ((0 : Int) < (i : Int)) = true := decide_eq_true ci
      have cic : decide (0 < i) = true := decide_eq_true (by omega)
      obtain ⟨j, hij⟩ : ∃ j : Nat, i = j + 1 := ⟨i - 1, by omega⟩
      have hw1 : wrap64 ((i : Int) - 1) = (j : Int) := by unfold wrap64; omega
      have hwi : IntKind.i64.wrap ((i : Int) - 1) = (j : Int) := by rw [IntKind.wrap_i64]; omega
      have cjl : (j : Int) < (l0_0.length : Int) := by omega
      rw [if_pos ci, hw1, if_pos (by omega), if_pos cjl] at H
      obtain ⟨t110, A5_, H⟩ := Option.bind_eq_some_iff.mp H
      have A5 := Qz.mk A5_
      clear A5_
      obtain ⟨adg, e, g0, g1, g2, g3, g4⟩ := at_T66 HR.out (j : Int) (by omega) cjl
      cases e
      rw [Int.toNat_natCast] at g0 g1 g2 g3 g4
      replace g0 := (HB.out.cell (World.block_lt_of_cell? w _ g0)).trans g0
      replace g1 := (HB.out.cell (World.block_lt_of_cell? w _ g1)).trans g1
      replace g2 := (HB.out.cell (World.block_lt_of_cell? w _ g2)).trans g2
      replace g3 := (HB.out.cell (World.block_lt_of_cell? w _ g3)).trans g3
      replace g4 := (HB.out.cell (World.block_lt_of_cell? w _ g4)).trans g4
      generalize ql l0_0 (j : Int) = y at g0 g1 g2 g3 g4 A5
      have ha : ∀ t os, Calls Try.prog 56 #[.agg #[.int .i64 y.f0, .int .i64 y.f1, .string y.f2, .string y.f3, .int .i64 y.f4], .agg #[.int .i64 x.f0, .int .i64 x.f1, .string x.f2, .string x.f3, .int .i64 x.f4]] (grow (atD wr t) os) fun e w' => e = .returned (.bool t110) ∧ ∃ t' os', w' = grow (atD (grow (atD wr t) os) t') os' := fun t os => (spec_l12Ahead.calls y.f0 y.f1 y.f2 y.f3 y.f4 x.f0 x.f1 x.f2 x.f3 x.f4 t110 (grow (atD wr t) os) A5.out).mono fun _ _ h => ⟨h.1, grownX_of_below h.2⟩
      have g0' := cellX g0
      have g1' := cellX g1
      have g2' := cellX g2
      have g3' := cellX g3
      have g4' := cellX g4
      clear hij
      cases t110
      case false =>
       obtain rfl := svT2 _ _ _ _ _ _ _ H
       clear H
       go_wp2
       refine wp_region_quietX (by assumption) (by kernel_rfl) ?_
       iterate 37 (with_reducible refine wpQuiet_want ?want_ (fun K hK => ?_); (case want_ => kernel_rfl); go_simp; (first | (with_reducible refine hK _ ?_; clear hK K) | (apply Exists.intro; refine ⟨fun _ => ?_, hK _ ?_⟩; (first | (go_at_call 64; (with_reducible refine callsX_of (hm _ _))) | (go_at_call 56; (with_reducible refine callsX_of (ha _ _)))); clear hK K)))
       refine wpQuiet_nil ?_
       intro _ hw_
       obtain ⟨⟨tq, osq⟩, hw_⟩ := hw_
       subst hw_
       have HB2 := Qz.mk (HB.out.trans ((below_grow wr tq osq).mono HB.out.size))
       go_wp2
       go_ret
       exact ⟨rfl, HB2.out⟩
      replace H : spec_VersionOk.j2 k1 (i : Int) false l0_0 a0_1 a0_2 a0_3 = some r := H
      go_wp2
      refine wp_region_quietX (by assumption) (by kernel_rfl) ?_
      iterate 37 (with_reducible refine wpQuiet_want ?want_ (fun K hK => ?_); (case want_ => kernel_rfl); go_simp; (first | (with_reducible refine hK _ ?_; clear hK K) | (apply Exists.intro; refine ⟨fun _ => ?_, hK _ ?_⟩; (first | (go_at_call 64; (with_reducible refine callsX_of (hm _ _))) | (go_at_call 56; (with_reducible refine callsX_of (ha _ _)))); clear hK K)))
     case' neg =>
      have cib : decide ((0 : Int) < (i : Int)) = false := decide_eq_false ci
      have cic : decide (0 < i) = false := decide_eq_false (by omega)
      rw [if_neg ci] at H
      go_wp2
      refine wp_region_quietX (by assumption) (by kernel_rfl) ?_
      iterate 22 (with_reducible refine wpQuiet_want ?want_ (fun K hK => ?_); (case want_ => kernel_rfl); go_simp; (first | (with_reducible refine hK _ ?_; clear hK K) | (apply Exists.intro; refine ⟨fun _ => ?_, hK _ ?_⟩; (go_at_call 64; (with_reducible refine callsX_of (hm _ _))); clear hK K)))
      iterate 13 (with_reducible refine wpQuiet_skip ?skip_ (fun K hK => ?_); (case skip_ => kernel_rfl); go_simp; with_reducible refine hK _ ?_; clear hK K)
      iterate 2 (with_reducible refine wpQuiet_want ?want_ (fun K hK => ?_); (case want_ => kernel_rfl); go_simp; with_reducible refine hK _ ?_; clear hK K)
     all_goals
      refine wpQuiet_nil ?_
      intro _ hw_
      obtain ⟨⟨tq, osq⟩, hw_⟩ := hw_
      subst hw_
      have HB2 := Qz.mk (HB.out.trans ((below_grow wr tq osq).mono HB.out.size))
      obtain ⟨k2, rfl, H⟩ := svN _ _ _ _ _ _ _ H
      have HH := Qz.mk H
      have BK2 := Qz.mk (qo BK.out (below_grow wr tq osq))
      clear H h0 h1 h2 h3 h4 h0' h1' h2' h3' h4' hz0 hz1 hz0' hz1' BK HB HX A4 cnb cib cic hm
      generalize grow (atD wr tq) osq = W2 at BK2 HB2 ⊢
      go_wp2
      go_loopg [4] k2 (fun kq v4 wr2 => ∃ j : Nat, v4 = .int .i64 j ∧ Qz (spec_VersionOk.l1 kq (i : Int) (j : Int) l0_0 a0_1 a0_2 a0_3 = some r) ∧ j ≤ i ∧ Qz (kq ≤ k2) ∧ Qz (wr2.heap[w.heap.size]? = some (.cells #[.slice (some ad) l0_0.length c0_0, .int .i64 a0_1, .int .i64 a0_2, .int .i64 a0_3] 32 (0, 0))) ∧ Qz (Below w.heap.size w wr2))
      case atStart => exact ⟨0, rfl, HH, Nat.zero_le _, ⟨Nat.le_refl _⟩, BK2, HB2⟩
      case round =>
       clear HH BK2 HB2
       rename World => wr
       obtain ⟨j, rfl, HA, hji, HK2, BK, HB⟩ := hrel
       cases gk with
       | zero => exact absurd HA.out (by simp [spec_VersionOk.l1])
       | succ k3 =>
        have H := HA.out
        clear HA
        simp only [spec_VersionOk.l1] at H
        have hz0 := (qa BK.out 0).trans rfl
        by_cases c5 : (j : Int) < (i : Int)
        ·have cjl : (j : Int) < (l0_0.length : Int) := by omega
         rw [if_pos c5, if_pos (by omega), if_pos cjl, if_pos (by omega), if_pos c3] at H
         have c5b : decide ((j : Int) < (i : Int)) = true := decide_eq_true c5
         obtain ⟨adh, e, h0, h1, h2, h3, h4⟩ := at_T66 HR.out (i : Int) (by omega) c3
         cases e
         rw [Int.toNat_natCast] at h0 h1 h2 h3 h4
         replace h0 := (HB.out.cell (World.block_lt_of_cell? w _ h0)).trans h0
         replace h1 := (HB.out.cell (World.block_lt_of_cell? w _ h1)).trans h1
         replace h2 := (HB.out.cell (World.block_lt_of_cell? w _ h2)).trans h2
         replace h3 := (HB.out.cell (World.block_lt_of_cell? w _ h3)).trans h3
         replace h4 := (HB.out.cell (World.block_lt_of_cell? w _ h4)).trans h4
         obtain ⟨adg, e, g0, g1, g2, g3, g4⟩ := at_T66 HR.out (j : Int) (by omega) cjl
         cases e
         rw [Int.toNat_natCast] at g0 g1 g2 g3 g4
         replace g0 := (HB.out.cell (World.block_lt_of_cell? w _ g0)).trans g0
         replace g1 := (HB.out.cell (World.block_lt_of_cell? w _ g1)).trans g1
         replace g2 := (HB.out.cell (World.block_lt_of_cell? w _ g2)).trans g2
         replace g3 := (HB.out.cell (World.block_lt_of_cell? w _ g3)).trans g3
         replace g4 := (HB.out.cell (World.block_lt_of_cell? w _ g4)).trans g4
         have hz0' := cellX hz0
         have h0' := cellX h0
         have g0' := cellX g0
         generalize ql l0_0 (j : Int) = y at g0 g0' H
         generalize ql l0_0 (i : Int) = x at h0 h0' H
         clear h1 h2 h3 h4 g1 g2 g3 g4
         by_cases ce : y.f0 = x.f0
         ·rw [if_pos ce] at H
          obtain rfl := Option.some.inj H
          clear H
          rw [ce] at g0 g0'
          go_wp2
          refine wp_region_quietX (by assumption) (by kernel_rfl) ?_
          iterate 13 (with_reducible refine wpQuiet_want ?want_ (fun K hK => ?_); (case want_ => kernel_rfl); go_simp; with_reducible refine hK _ ?_; clear hK K)
          refine wpQuiet_nil ?_
          intro _ hw_
          obtain ⟨⟨tq, osq⟩, hw_⟩ := hw_
          subst hw_
          have HB2 := Qz.mk (HB.out.trans ((below_grow wr tq osq).mono HB.out.size))
          go_wp2
          go_ret
          exact ⟨rfl, HB2.out⟩
         ·rw [if_neg ce] at H
          have ceb : decide (y.f0 = x.f0) = false := decide_eq_false ce
          have ceq : (y.f0 == x.f0) = false := beq_eq_false_iff_ne.2 ce
          have H2 := Qz.mk H
          clear H
          go_wp2
          refine wp_region_quietX (by assumption) (by kernel_rfl) ?_
          iterate 13 (with_reducible refine wpQuiet_want ?want_ (fun K hK => ?_); (case want_ => kernel_rfl); go_simp; with_reducible refine hK _ ?_; clear hK K)
          refine wpQuiet_nil ?_
          intro _ hw_
          obtain ⟨⟨tq, osq⟩, hw_⟩ := hw_
          subst hw_
          have HB2 := Qz.mk (HB.out.trans ((below_grow wr tq osq).mono HB.out.size))
          have BK2 := Qz.mk (qo BK.out (below_grow wr tq osq))
          go_wp2
          go_roundg k3
          case measure => exact Nat.lt_succ_self _
          case rel =>
           have hw2 : wrap64 ((j : Int) + 1) = ((j + 1 : Nat) : Int) := by unfold wrap64; omega
           exact ⟨j + 1, congrArg (Value.int .i64) (by first | rfl | exact hw2 | omega), ⟨by rw [← hw2]; exact H2.out⟩, by omega, ⟨by have := HK2.out; omega⟩, BK2, HB2⟩
        ·rw [if_neg c5] at H
         have c5b : decide ((j : Int) < (i : Int)) = false := decide_eq_false c5
         have H2 := Qz.mk H
         clear H
         go_wp2
         go_roundg k3
         case measure => have := HK2.out; omega
         case rel =>
          have hw2 : wrap64 ((i : Int) + 1) = ((i + 1 : Nat) : Int) := by unfold wrap64; omega
          exact ⟨i + 1, congrArg (Value.int .i64) (by first | rfl | exact hw2 | omega), ⟨by rw [← hw2]; exact H2.out⟩, by omega, ⟨by have := HK2.out; have := HK1.out; omega⟩, BK, HB⟩
   ·rw [if_neg c3] at H
    have c3b : decide ((i : Int) < (l0_0.length : Int)) = false := decide_eq_false c3
    obtain rfl := Option.some.inj H
    go_wp2
    go_ret
    exact ⟨rfl, yq42⟩
end Go.Proofs.Ytcgejabkjljeeaa.P
end

section
namespace Go.Proofs.Ytcgejabkjljeeaa.P
open Go.RowKit Go.Proofs.YtcgejabkjljeeaaW.PrintWords Go.Proofs.YtcgejabkjljeeaaW.PrintLast Go.Proofs.YtcgejabkjljeeaaW.PrintMore
attribute [local go_sem] str_gtr str_leq str_geq qe1 qc1 max_two min_two qy qx qd1 qb1
set_option linter.unusedVariables false
set_option linter.unusedSimpArgs false
mutual
def spec_Apply.j0 : Nat → Bool → List (S66) → Int → Int → Int → List (S66) → List Int → Int → Int → Int → Option ((List (S66)) × Int × Int × Int × Bool)
 | 0, _, _, _, _, _, _, _, _, _, _ => none
 | k + 1, x43, x102000, x102001, x102002, x102003, x103000, x103001, x103002, x103003, x103004 => if x43 = true then (some (([] : List (S66)), 0, 0, 0, false)) else (spec_Apply.l0 k 0 0 x102000 x102001 x102002 x102003 x103000 x103001 x103002 x103003 x103004 (([] : List (S66))) x103002 x103003 x103004)
def spec_Apply.l0 : Nat → Int → Int → List (S66) → Int → Int → Int → List (S66) → List Int → Int → Int → Int → List (S66) → Int → Int → Int → Option ((List (S66)) × Int × Int × Int × Bool)
 | 0, _, _, _, _, _, _, _, _, _, _, _, _, _, _, _ => none
 | k + 1, x7, x8, x102000, x102001, x102002, x102003, x103000, x103001, x103002, x103003, x103004, x109000, x109001, x109002, x109003 => if x8 < (x102000.length : Int) then (spec_Apply.l1 k x7 x8 false 0 x102000 x102001 x102002 x102003 x103000 x103001 x103002 x103003 x103004 x109000 x109001 x109002 x109003) else (if x7 = (x103001.length : Int) then (spec_Apply.l2 k 0 x103000 x103001 x103002 x103003 x103004 x109000 x109001 x109002 x109003) else (some (([] : List (S66)), 0, 0, 0, false)))
def spec_Apply.l1 : Nat → Int → Int → Bool → Int → List (S66) → Int → Int → Int → List (S66) → List Int → Int → Int → Int → List (S66) → Int → Int → Int → Option ((List (S66)) × Int × Int × Int × Bool)
 | 0, _, _, _, _, _, _, _, _, _, _, _, _, _, _, _, _, _ => none
 | k + 1, x7, x8, x9, x10, x102000, x102001, x102002, x102003, x103000, x103001, x103002, x103003, x103004, x109000, x109001, x109002, x109003 => if x10 < (x103001.length : Int) then (if x9 = true then (spec_Apply.l1 k x7 x8 true (wrap64 (x10 + 1)) x102000 x102001 x102002 x102003 x103000 x103001 x103002 x103003 x103004 x109000 x109001 x109002 x109003) else (if 0 ≤ x10 then (if 0 ≤ x8 then (if x8 < (x102000.length : Int) then (spec_Apply.l1 k x7 x8 ((rd x103001 x10) == ((ql x102000 x8).f0)) (wrap64 (x10 + 1)) x102000 x102001 x102002 x102003 x103000 x103001 x103002 x103003 x103004 x109000 x109001 x109002 x109003) else (none)) else (none)) else (none))) else (if x9 = true then (spec_Apply.l0 k (wrap64 (x7 + 1)) (wrap64 (x8 + 1)) x102000 x102001 x102002 x102003 x103000 x103001 x103002 x103003 x103004 x109000 x109001 x109002 x109003) else (if 0 ≤ x8 then (if x8 < (x102000.length : Int) then (if x109000.length < 2513169434916 then (spec_Apply.l0 k x7 (wrap64 (x8 + 1)) x102000 x102001 x102002 x102003 x103000 x103001 x103002 x103003 x103004 (x109000 ++ [(⟨(ql x102000 x8).f0, (ql x102000 x8).f1, (ql x102000 x8).f2, (ql x102000 x8).f3, (ql x102000 x8).f4⟩ : S66)]) x109001 x109002 x109003) else (none)) else (none)) else (none)))
def spec_Apply.l2 : Nat → Int → List (S66) → List Int → Int → Int → Int → List (S66) → Int → Int → Int → Option ((List (S66)) × Int × Int × Int × Bool)
 | 0, _, _, _, _, _, _, _, _, _, _ => none
 | k + 1, x11, x103000, x103001, x103002, x103003, x103004, x109000, x109001, x109002, x109003 => if x11 < (x103000.length : Int) then (spec_Apply.l3 k x11 0 x103000 x103001 x103002 x103003 x103004 x109000 x109001 x109002 x109003) else ((spec_VersionOk.f k x109000 x109001 x109002 x109003).bind fun t115 => (if t115 = true then (some (x109000, x109001, x109002, x109003, true)) else (some (([] : List (S66)), 0, 0, 0, false))))
def spec_Apply.l3 : Nat → Int → Int → List (S66) → List Int → Int → Int → Int → List (S66) → Int → Int → Int → Option ((List (S66)) × Int × Int × Int × Bool)
 | 0, _, _, _, _, _, _, _, _, _, _, _ => none
 | k + 1, x11, x12, x103000, x103001, x103002, x103003, x103004, x109000, x109001, x109002, x109003 => if x12 < (x109000.length : Int) then (if 0 ≤ x12 then (if 0 ≤ x11 then (if x11 < (x103000.length : Int) then ((spec_l12Ahead.f ((ql x109000 x12).f0) ((ql x109000 x12).f1) ((ql x109000 x12).f2) ((ql x109000 x12).f3) ((ql x109000 x12).f4) ((ql x103000 x11).f0) ((ql x103000 x11).f1) ((ql x103000 x11).f2) ((ql x103000 x11).f3) ((ql x103000 x11).f4)).bind fun t118 => (if t118 = true then (spec_Apply.l3 k x11 (wrap64 (x12 + 1)) x103000 x103001 x103002 x103003 x103004 x109000 x109001 x109002 x109003) else ((some (([] : List (S66)) : List (S66))).bind fun y119 => (if x12 ≤ (x109000.length : Int) then ((some (x109000.take (x12 : Int).toNat : List (S66))).bind fun y122 => (if y119.length + y122.length < 2513169434916 then ((some (y119 ++ y122 : List (S66))).bind fun y126 => (if y126.length < 2513169434916 then ((some (y126 ++ [(⟨(ql x103000 x11).f0, (ql x103000 x11).f1, (ql x103000 x11).f2, (ql x103000 x11).f3, (ql x103000 x11).f4⟩ : S66)] : List (S66))).bind fun y130 => ((some (x109000.drop (x12 : Int).toNat : List (S66))).bind fun y133 => (if y130.length + y133.length < 2513169434916 then (spec_Apply.l2 k (wrap64 (x11 + 1)) x103000 x103001 x103002 x103003 x103004 (y130 ++ y133) x109001 x109002 x109003) else (none)))) else (none))) else (none))) else (none))))) else (none)) else (none)) else (none)) else ((some (([] : List (S66)) : List (S66))).bind fun y140 => (if 0 ≤ x12 then (if x12 ≤ (x109000.length : Int) then ((some (x109000.take (x12 : Int).toNat : List (S66))).bind fun y143 => (if y140.length + y143.length < 2513169434916 then ((some (y140 ++ y143 : List (S66))).bind fun y147 => (if 0 ≤ x11 then (if x11 < (x103000.length : Int) then (if y147.length < 2513169434916 then ((some (y147 ++ [(⟨(ql x103000 x11).f0, (ql x103000 x11).f1, (ql x103000 x11).f2, (ql x103000 x11).f3, (ql x103000 x11).f4⟩ : S66)] : List (S66))).bind fun y151 => ((some (x109000.drop (x12 : Int).toNat : List (S66))).bind fun y154 => (if y151.length + y154.length < 2513169434916 then (spec_Apply.l2 k (wrap64 (x11 + 1)) x103000 x103001 x103002 x103003 x103004 (y151 ++ y154) x109001 x109002 x109003) else (none)))) else (none)) else (none)) else (none))) else (none))) else (none)) else (none)))
end
def spec_Apply.f (k : Nat) (l0_0 : List (S66)) (a0_1 : Int) (a0_2 : Int) (a0_3 : Int) (l1_0 : List (S66)) (l1_1 : List Int) (a1_2 : Int) (a1_3 : Int) (a1_4 : Int) : Option ((List (S66)) × Int × Int × Int × Bool) := (spec_VersionOk.f k l0_0 a0_1 a0_2 a0_3).bind fun t104 => (if t104 = true then (if a1_2 < a0_1 then (spec_Apply.j0 k true l0_0 a0_1 a0_2 a0_3 l1_0 l1_1 a1_2 a1_3 a1_4) else (if a1_3 < a0_2 then (spec_Apply.j0 k true l0_0 a0_1 a0_2 a0_3 l1_0 l1_1 a1_2 a1_3 a1_4) else (if a1_4 < a0_3 then (spec_Apply.j0 k true l0_0 a0_1 a0_2 a0_3 l1_0 l1_1 a1_2 a1_3 a1_4) else (spec_Apply.j0 k (decide ((l1_0.length : Int) > 30)) l0_0 a0_1 a0_2 a0_3 l1_0 l1_1 a1_2 a1_3 a1_4)))) else (spec_Apply.j0 k true l0_0 a0_1 a0_2 a0_3 l1_0 l1_1 a1_2 a1_3 a1_4))
open Go.Shelf Go.Lib Go.Sort
theorem apT (k : Nat) (l0_0 : List S66) (a0_1 a0_2 a0_3 : Int) (l1_0 : List S66) (l1_1 : List Int) (a1_2 a1_3 a1_4 : Int) (r : List S66 × Int × Int × Int × Bool) (h : spec_Apply.j0 k true l0_0 a0_1 a0_2 a0_3 l1_0 l1_1 a1_2 a1_3 a1_4 = some r) : r = ([], 0, 0, 0, false) := by
 cases k with
 | zero => cases h
 | succ k => rw [spec_Apply.j0, if_pos rfl] at h; exact (Option.some.inj h).symm
theorem apN (k : Nat) (l0_0 : List S66) (a0_1 a0_2 a0_3 : Int) (l1_0 : List S66) (l1_1 : List Int) (a1_2 a1_3 a1_4 : Int) (r : List S66 × Int × Int × Int × Bool) (h : spec_Apply.j0 k false l0_0 a0_1 a0_2 a0_3 l1_0 l1_1 a1_2 a1_3 a1_4 = some r) : ∃ k2, spec_Apply.l0 k2 0 0 l0_0 a0_1 a0_2 a0_3 l1_0 l1_1 a1_2 a1_3 a1_4 [] a1_2 a1_3 a1_4 = some r := by
 cases k with
 | zero => cases h
 | succ k => rw [spec_Apply.j0, if_neg (by decide)] at h; exact ⟨k, h⟩
theorem threeA (w : World) (X Y Z : Obj) : Below w.heap.size w (((w.alloc X).alloc Y).alloc Z) ∧ (((w.alloc X).alloc Y).alloc Z).heap[w.heap.size]? = some X ∧ (((w.alloc X).alloc Y).alloc Z).heap[w.heap.size + 1]? = some Y ∧ (((w.alloc X).alloc Y).alloc Z).heap[w.heap.size + 1 + 1]? = some Z ∧ (((w.alloc X).alloc Y).alloc Z).heap.size = w.heap.size + 3 := by
 have e1 : (w.alloc X).heap.size = w.heap.size + 1 := by simp
 have e2 : ((w.alloc X).alloc Y).heap.size = w.heap.size + 1 + 1 := by simp
 refine ⟨(((Below.refl _ w).alloc (Nat.le_refl _) _).alloc (by omega) _).alloc (by omega) _, qf (qf (blk_new _ _) _) _, ?_, ?_, by simp⟩
 ·rw [← e1]; exact qf (blk_new _ _) _
 ·rw [← e2]; exact blk_new _ _
theorem putA {w : World} {g t : Nat} {x0 x1 x2 x3 a b c d : Value} (h : w.heap[g]? = some (.cells #[x0, x1, x2, x3] t (0, 0))) : ((((w.setCell ⟨g, 0, none⟩ a).setCell ⟨g, 1, none⟩ b).setCell ⟨g, 2, none⟩ c).setCell ⟨g, 3, none⟩ d).heap[g]? = some (.cells #[a, b, c, d] t (0, 0)) :=
 qa1 (qa1 (qa1 (qa1 h 0 a rfl) 1 b rfl) 2 c rfl) 3 d rfl
theorem belowA {w W : World} {g : Nat} {a b c d : Value} (h : Below w.heap.size w W) (hg : w.heap.size ≤ g) : Below w.heap.size w ((((W.setCell ⟨g, 0, none⟩ a).setCell ⟨g, 1, none⟩ b).setCell ⟨g, 2, none⟩ c).setCell ⟨g, 3, none⟩ d) :=
 qi (qi (qi (qi h hg) hg) hg) hg
theorem R_setA {α : Type} {dk : Kd α} {e base g t : Nat} {ok : Nat → Prop} {W : World} {v : Value} {xs : List α} {x0 x1 x2 x3 a b c d : Value} (h : dk.R e W base ok v xs) (hb : W.heap[g]? = some (.cells #[x0, x1, x2, x3] t (0, 0))) (ht : ∀ q, q ∈ e :: dk.E → q ≠ t) : dk.R e ((((W.setCell ⟨g, 0, none⟩ a).setCell ⟨g, 1, none⟩ b).setCell ⟨g, 2, none⟩ c).setCell ⟨g, 3, none⟩ d) base ok v xs :=
 Kd.R_set (Kd.R_set (Kd.R_set (Kd.R_set h hb ht 0 a) (qa1 hb 0 a rfl) ht 1 b) (qa1 (qa1 hb 0 a rfl) 1 b rfl) ht 2 c) (qa1 (qa1 (qa1 hb 0 a rfl) 1 b rfl) 2 c rfl) ht 3 d
theorem R_emptyA {α : Type} (d : Kd α) (e : Nat) (w : World) (base : Nat) (hb : base ≤ w.heap.size) : d.R e (w.alloc (.cells #[] e)) base (fun _ => True) (.slice (some ⟨w.heap.size, 0, none⟩) 0 0) [] :=
 ⟨fun _ _ => trivial, [], World.ownsRow_made w #[] 0 hb (Nat.zero_le _) (by simp), Reps.none _ _⟩
theorem ite_some {α : Type} {c : Prop} [Decidable c] {a : Option α} {r : α} (h : (if c then a else none) = some r) : c ∧ a = some r := by
 split at h
 ·rename_i hc; exact ⟨hc, h⟩
 ·cases h
theorem lenA {α : Type} (l : List α) (x : α) (j : Nat) (hj : j ≤ l.length) (q : ([] ++ l.take j ++ [x]).length + (l.drop j).length < 2513169434916) : l.length + 1 < 2513169434916 := by
 simp only [List.nil_append, List.length_append, List.length_take, List.length_drop, List.length_cons, List.length_nil] at q
 omega
structure ApB (w : World) (b : Nat) (cv ce : Array Value) (n s q : Int) (vf : Value) (W : World) : Prop where
 hb : Below w.heap.size w W
 hv : W.heap[w.heap.size]? = some (.cells cv 32 (0, 0))
 he : W.heap[w.heap.size + 1]? = some (.cells ce 37 (0, 0))
 hr : W.heap[w.heap.size + 1 + 1]? = some (.cells #[.slice none 0 0, .int .i64 0, .int .i64 0, .int .i64 0] 32 (0, 0))
 ho : W.heap[b]? = some (.cells #[vf, .int .i64 n, .int .i64 s, .int .i64 q] 32 (0, 0))
 hs : w.heap.size + 1 + 1 < b
theorem ApB.below {w W W' : World} {b : Nat} {cv ce : Array Value} {n s q : Int} {vf : Value} (h : ApB w b cv ce n s q vf W) (hB : Below W.heap.size W W') : ApB w b cv ce n s q vf W' :=
 ⟨h.hb.trans (hB.mono h.hb.size), qo h.hv hB, qo h.he hB, qo h.hr hB, qo h.ho hB, h.hs⟩
theorem ApB.grown {w W W' : World} {b : Nat} {cv ce : Array Value} {n s q : Int} {vf v : Value} (h : ApB w b cv ce n s q vf W) (hB : Below w.heap.size w W') (hg : W.grownBy W' v.ownBlock) {base : Nat} {ok : Nat → Prop} {xs : List S66} (hx : Kd.R k66 66 W base ok v xs) : ApB w b cv ce n s q vf W' :=
 ⟨hB, blk_grown h.hv hg (Kd.R_ne hx h.hv (by decide)), blk_grown h.he hg (Kd.R_ne hx h.he (by decide)), blk_grown h.hr hg (Kd.R_ne hx h.hr (by decide)), blk_grown h.ho hg (Kd.R_ne hx h.ho (by decide)), h.hs⟩
theorem ApB.put {w W : World} {b : Nat} {cv ce : Array Value} {n s q : Int} {vf : Value} (h : ApB w b cv ce n s q vf W) (v : Value) : ApB w b cv ce n s q v (W.setCell ⟨b, 0, none⟩ v) :=
 ⟨qi h.hb (by have := h.hs; omega), qu h.hv (by have := h.hs; show _ ≠ b; omega) _, qu h.he (by have := h.hs; show _ ≠ b; omega) _, qu h.hr (by have := h.hs; show _ ≠ b; omega) _, qa1 h.ho 0 v rfl, h.hs⟩
theorem ApB.start {w w1 : World} {cv ce : Array Value} {n s q : Int} (hb : Below w.heap.size w w1) (hv : w1.heap[w.heap.size]? = some (.cells cv 32 (0, 0))) (he : w1.heap[w.heap.size + 1]? = some (.cells ce 37 (0, 0))) (hr : w1.heap[w.heap.size + 1 + 1]? = some (.cells #[.slice none 0 0, .int .i64 0, .int .i64 0, .int .i64 0] 32 (0, 0))) :
  ApB w (w1.heap.size + 1) cv ce n s q (.slice (some ⟨w1.heap.size, 0, none⟩) 0 0) ((w1.alloc (.cells #[] 66)).alloc (.cells #[.slice (some ⟨w1.heap.size, 0, none⟩) 0 0, .int .i64 n, .int .i64 s, .int .i64 q] 32)) ∧
  Kd.R k66 66 ((w1.alloc (.cells #[] 66)).alloc (.cells #[.slice (some ⟨w1.heap.size, 0, none⟩) 0 0, .int .i64 n, .int .i64 s, .int .i64 q] 32)) w.heap.size (fun _ => True) (.slice (some ⟨w1.heap.size, 0, none⟩) 0 0) [] := by
 have e1 : (w1.alloc (.cells #[] 66)).heap.size = w1.heap.size + 1 := by simp
 have l1 := qw hr
 exact ⟨⟨qd (qd hb _) _, qf (qf hv _) _, qf (qf he _) _, qf (qf hr _) _, by rw [← e1]; exact blk_new _ _, by omega⟩, Kd.R_alloc (R_emptyA _ _ w1 _ hb.size) _⟩
set_option maxHeartbeats 8000000 in
set_option maxRecDepth 100000 in
theorem spec_Apply.calls (k : Nat) (A0_0 : Option Addr) (c0_0 : Nat) (l0_0 : List (S66)) (a0_1 : Int) (a0_2 : Int) (a0_3 : Int) (A1_0 : Option Addr) (c1_0 : Nat) (l1_0 : List (S66)) (A1_1 : Option Addr) (c1_1 : Nat) (l1_1 : List Int) (a1_2 : Int) (a1_3 : Int) (a1_4 : Int) (r1 : List (S66)) (r2 : Int) (r3 : Int) (r4 : Int) (r5 : Bool) (w : World) (hr0_0 : Kd.C k66 w A0_0 l0_0.length l0_0) (hc0_0 : l0_0.length ≤ c0_0) (hr1_0 : Kd.C k66 w A1_0 l1_0.length l1_0) (hc1_0 : l1_0.length ≤ c1_0) (hr1_1 : Kd.C (Kd.int .i64) w A1_1 l1_1.length l1_1) (hc1_1 : l1_1.length ≤ c1_1) (h : spec_Apply.f k l0_0 a0_1 a0_2 a0_3 l1_0 l1_1 a1_2 a1_3 a1_4 = some (r1, r2, r3, r4, r5)) :
  Calls Try.prog 17 #[.agg #[.slice A0_0 l0_0.length c0_0, .int .i64 a0_1, .int .i64 a0_2, .int .i64 a0_3], .agg #[.slice A1_0 l1_0.length c1_0, .slice A1_1 l1_1.length c1_1, .int .i64 a1_2, .int .i64 a1_3, .int .i64 a1_4]] w fun e w' => ∃ v0_ : Value, e = .returned (.tuple #[.agg #[v0_, .int .i64 r2, .int .i64 r3, .int .i64 r4], .bool r5]) ∧ Kd.R k66 66 w' w.heap.size (fun _ => True) v0_ r1 ∧ Below w.heap.size w w' := by
 have hu30 := Try.underlying30
 have hu32 := Try.underlying32
 have hu37 := Try.underlying37
 have hu66 := Try.underlying66
 have mixed : Try.prog.follows .mixedOrders = true := by kernel_rfl
 have H00 := Qz.mk hr0_0
 have H10 := Qz.mk hr1_0
 have H11 := Qz.mk hr1_1
 have C00 := Qz.mk hc0_0
 have hl0 := Kd.C_max hr0_0
 have hl1 := Kd.C_max hr1_0
 have hl2 := Kd.C_max hr1_1
 clear hr0_0 hr1_0 hr1_1 hc0_0 hc1_0 hc1_1
 have hf : ∀ W' : World, W'.heap[w.heap.size + 1 + 1]? = some (.cells #[.slice none 0 0, .int .i64 0, .int .i64 0, .int .i64 0] 32 (0, 0)) → Below w.heap.size w W' → ∀ tmps : Array Value, tmps.getD 4 undef = .pointer (some ⟨w.heap.size + 1 + 1, 0, none⟩) → tmps.getD 5 undef = .bool false → (r1, r2, r3, r4, r5) = (([] : List S66), (0 : Int), (0 : Int), (0 : Int), false) →
   bodyPost Try.prog Try.f17 (fun e w' => ∃ v0_ : Value, e = .returned (.tuple #[.agg #[v0_, .int .i64 r2, .int .i64 r3, .int .i64 r4], .bool r5]) ∧ Kd.R k66 66 w' w.heap.size (fun _ => True) v0_ r1 ∧ Below w.heap.size w w') Exit.ret ⟨tmps, []⟩ W' := by
  intro W' hb hB tmps h4 h5 hr
  simp only [Prod.mk.injEq] at hr
  obtain ⟨rfl, rfl, rfl, rfl, rfl⟩ := hr
  refine bodyPost_ret (results_ct rfl _ _ (w.heap.size + 1 + 1) 32 _ (0, 0) _ h4 hb Try.underlying32 rfl (by kernel_rfl)) rfl ?_
  rw [h5]
  exact ⟨_, rfl, Kd.R_nil _ _ _ _ _, hB⟩
 have HF := Qz.mk hf
 clear hf
 unfold spec_Apply.f at h
 replace h := Option.bind_eq_some_iff.mp h
 obtain ⟨t, A1_, h⟩ := h
 have A1 := Qz.mk A1_
 have HH := Qz.mk h
 clear A1_ h
 go_enter Try.func17, Try.ntmps17
 go_wp2_with fail
 have h3 := threeA w (.cells #[.slice A0_0 l0_0.length c0_0, .int .i64 a0_1, .int .i64 a0_2, .int .i64 a0_3] 32) (.cells #[.slice A1_0 l1_0.length c1_0, .slice A1_1 l1_1.length c1_1, .int .i64 a1_2, .int .i64 a1_3, .int .i64 a1_4] 37) (.cells #[.slice none 0 0, .int .i64 0, .int .i64 0, .int .i64 0] 32)
 generalize ((w.alloc (.cells #[.slice A0_0 l0_0.length c0_0, .int .i64 a0_1, .int .i64 a0_2, .int .i64 a0_3] 32)).alloc (.cells #[.slice A1_0 l1_0.length c1_0, .slice A1_1 l1_1.length c1_1, .int .i64 a1_2, .int .i64 a1_3, .int .i64 a1_4] 37)).alloc (.cells #[.slice none 0 0, .int .i64 0, .int .i64 0, .int .i64 0] 32) = W0 at h3 ⊢
 (with_reducible refine (spec_VersionOk.calls k A0_0 c0_0 l0_0 a0_1 a0_2 a0_3 t W0 (Kd.C_below H00.out h3.1) C00.out A1.out).mono ?_)
 rintro e w1 ⟨rfl, hb1⟩
 have BV := Qz.mk (qo h3.2.1 hb1)
 have BE := Qz.mk (qo h3.2.2.1 hb1)
 have BR := Qz.mk (qo h3.2.2.2.1 hb1)
 have HB := Qz.mk (h3.1.trans (hb1.mono h3.1.size))
 clear h3 hb1 A1
 have hq0 := (qa BR.out 0).trans rfl
 have hq1 := (qa BR.out 1).trans rfl
 have hq2 := (qa BR.out 2).trans rfl
 have hq3 := (qa BR.out 3).trans rfl
 have hf0 := qc BR.out 0
 have hf1 := qc BR.out 1
 have hf2 := qc BR.out 2
 have hf3 := qc BR.out 3
 have hv1 := (qa BV.out 1).trans rfl
 have hv2 := (qa BV.out 2).trans rfl
 have hv3 := (qa BV.out 3).trans rfl
 have he0 := (qa BE.out 0).trans rfl
 have he2 := (qa BE.out 2).trans rfl
 have he3 := (qa BE.out 3).trans rfl
 have he4 := (qa BE.out 4).trans rfl
 cases t with
 | false =>
  have hr := apT _ _ _ _ _ _ _ _ _ _ _ (show spec_Apply.j0 k true l0_0 a0_1 a0_2 a0_3 l1_0 l1_1 a1_2 a1_3 a1_4 = _ from HH.out)
  have HH := Qz.mk hr
  clear hr
  go_wp2
  exact HF.out _ (putA BR.out) (belowA HB.out (by omega)) _ rfl rfl HH.out
 | true =>
 have h := HH.out
 clear HH
 simp only [if_true] at h
 by_cases z1 : a1_2 < a0_1
 ·have z1b : decide (a1_2 < a0_1) = true := decide_eq_true z1
  rw [if_pos z1] at h
  have HH := Qz.mk (apT _ _ _ _ _ _ _ _ _ _ _ h)
  clear h z1
  go_wp2
  exact HF.out _ (putA BR.out) (belowA HB.out (by omega)) _ rfl rfl HH.out
 have z1b : decide (a1_2 < a0_1) = false := decide_eq_false z1
 rw [if_neg z1] at h
 by_cases z2 : a1_3 < a0_2
 ·have z2b : decide (a1_3 < a0_2) = true := decide_eq_true z2
  rw [if_pos z2] at h
  have HH := Qz.mk (apT _ _ _ _ _ _ _ _ _ _ _ h)
  clear h z1 z2
  go_wp2
  exact HF.out _ (putA BR.out) (belowA HB.out (by omega)) _ rfl rfl HH.out
 have z2b : decide (a1_3 < a0_2) = false := decide_eq_false z2
 rw [if_neg z2] at h
 by_cases z3 : a1_4 < a0_3
 ·have z3b : decide (a1_4 < a0_3) = true := decide_eq_true z3
  rw [if_pos z3] at h
  have HH := Qz.mk (apT _ _ _ _ _ _ _ _ _ _ _ h)
  clear h z1 z2 z3
  go_wp2
  exact HF.out _ (putA BR.out) (belowA HB.out (by omega)) _ rfl rfl HH.out
 have z3b : decide (a1_4 < a0_3) = false := decide_eq_false z3
 rw [if_neg z3] at h
 by_cases z4 : (l1_0.length : Int) > 30
 ·have z4b : decide ((30 : Int) < (l1_0.length : Int)) = true := decide_eq_true z4
  rw [decide_eq_true z4] at h
  have HH := Qz.mk (apT _ _ _ _ _ _ _ _ _ _ _ h)
  clear h z1 z2 z3
  go_wp2
  exact HF.out _ (putA BR.out) (belowA HB.out (by omega)) _ rfl rfl HH.out
 have z4b : decide ((30 : Int) < (l1_0.length : Int)) = false := decide_eq_false z4
 rw [decide_eq_false z4] at h
 replace h := apN _ _ _ _ _ _ _ _ _ _ _ h
 obtain ⟨k2, h⟩ := h
 have HH := Qz.mk h
 have hlt1 := Nat.lt_succ_of_lt (qw BR.out)
 have HS := Qz.mk (ApB.start (n := a1_2) (s := a1_3) (q := a1_4) HB.out BV.out BE.out BR.out)
 clear h z1 z2 z3
 go_wp2
 have hbb : w.heap.size + 1 + 1 < w1.heap.size + 1 := hlt1
 generalize w1.heap.size + 1 = b at HS hbb ⊢
 go_loopg [7, 8] k2 (fun kq v7 v8 wr => ∃ (x7 : Int) (i : Nat) (m : List S66) (vf : Value), v7 = .int .i64 x7 ∧ v8 = .int .i64 i ∧ Qz (spec_Apply.l0 kq x7 i l0_0 a0_1 a0_2 a0_3 l1_0 l1_1 a1_2 a1_3 a1_4 m a1_2 a1_3 a1_4 = some (r1, r2, r3, r4, r5)) ∧ i ≤ l0_0.length ∧ Qz (kq ≤ k2) ∧ Qz (ApB w b #[.slice A0_0 l0_0.length c0_0, .int .i64 a0_1, .int .i64 a0_2, .int .i64 a0_3] #[.slice A1_0 l1_0.length c1_0, .slice A1_1 l1_1.length c1_1, .int .i64 a1_2, .int .i64 a1_3, .int .i64 a1_4] a1_2 a1_3 a1_4 vf wr) ∧ Qz (Kd.R k66 66 wr w.heap.size (fun _ => True) vf m))
 case atStart => exact ⟨0, 0, [], _, rfl, rfl, HH, Nat.zero_le _, ⟨Nat.le_refl _⟩, ⟨HS.out.1⟩, ⟨HS.out.2⟩⟩
 case round =>
  clear HH HS HB BV BE BR hq0 hq1 hq2 hq3 hf0 hf1 hf2 hf3 hv1 hv2 hv3 he0 he2 he3 he4 z1b z2b z3b z4b
  obtain ⟨x7, i, m, vf, rfl, rfl, HA, hil, HK, HP, HM⟩ := hrel
  cases gk with
  | zero => exact absurd HA.out (by simp [spec_Apply.l0])
  | succ k1 =>
  have H := HA.out
  clear HA
  simp only [spec_Apply.l0] at H
  obtain ⟨Af, cf, ef⟩ := Kd.R_slice HM.out
  subst ef
  have hv0 := (qa HP.out.hv 0).trans rfl
  have he0 := (qa HP.out.he 0).trans rfl
  have he1 := (qa HP.out.he 1).trans rfl
  have ho0 := (qa HP.out.ho 0).trans rfl
  by_cases c : (i : Int) < (l0_0.length : Int)
  ·rw [if_pos c] at H
   have cb : decide ((i : Int) < (l0_0.length : Int)) = true := decide_eq_true c
   have HH := Qz.mk H
   clear H
   go_wp2
   go_loopg [9, 10] k1 (fun kq v9 v10 w2 => ∃ (bb : Bool) (j : Nat), v9 = .bool bb ∧ v10 = .int .i64 j ∧ Qz (spec_Apply.l1 kq x7 i bb j l0_0 a0_1 a0_2 a0_3 l1_0 l1_1 a1_2 a1_3 a1_4 m a1_2 a1_3 a1_4 = some (r1, r2, r3, r4, r5)) ∧ j ≤ l1_1.length ∧ Qz (kq ≤ k1) ∧ Qz (ApB w b #[.slice A0_0 l0_0.length c0_0, .int .i64 a0_1, .int .i64 a0_2, .int .i64 a0_3] #[.slice A1_0 l1_0.length c1_0, .slice A1_1 l1_1.length c1_1, .int .i64 a1_2, .int .i64 a1_3, .int .i64 a1_4] a1_2 a1_3 a1_4 (.slice Af m.length cf) w2) ∧ Qz (Kd.R k66 66 w2 w.heap.size (fun _ => True) (.slice Af m.length cf) m))
   case atStart => exact ⟨false, 0, rfl, rfl, HH, Nat.zero_le _, ⟨Nat.le_refl _⟩, HP, HM⟩
   case round =>
    clear HH HP HM hv0 he0 he1 ho0
    rename World => wr
    obtain ⟨bb, j, rfl, rfl, HA, hjl, HK1, HP, HM⟩ := hrel
    cases gk with
    | zero => exact absurd HA.out (by simp [spec_Apply.l1])
    | succ k3 =>
    have H := HA.out
    clear HA
    simp only [spec_Apply.l1] at H
    have hv0 := (qa HP.out.hv 0).trans rfl
    have he1 := (qa HP.out.he 1).trans rfl
    have ho0 := (qa HP.out.ho 0).trans rfl
    by_cases cj : (j : Int) < (l1_1.length : Int)
    ·rw [if_pos cj] at H
     have cjb : decide ((j : Int) < (l1_1.length : Int)) = true := decide_eq_true cj
     have hw2 : wrap64 ((j : Int) + 1) = ((j + 1 : Nat) : Int) := by unfold wrap64; omega
     cases bb
     case' true =>
      rw [if_pos rfl, hw2] at H
      have HH := Qz.mk H
      clear H
      go_wp2
      refine wp_region_quietX (by assumption) (by kernel_rfl) ?_
      iterate 2 (with_reducible refine wpQuiet_want ?want_ (fun K hK => ?_); (case want_ => kernel_rfl); go_simp; with_reducible refine hK _ ?_; clear hK K)
      iterate 12 (with_reducible refine wpQuiet_skip ?skip_ (fun K hK => ?_); (case skip_ => kernel_rfl); go_simp; with_reducible refine hK _ ?_; clear hK K)
      iterate 2 (with_reducible refine wpQuiet_want ?want_ (fun K hK => ?_); (case want_ => kernel_rfl); go_simp; with_reducible refine hK _ ?_; clear hK K)
     case' false =>
      rw [if_neg (by decide), if_pos (by omega), if_pos (by omega), if_pos c, hw2] at H
      obtain ⟨adx, e, h0, _⟩ := at_T66 H00.out (i : Int) (by omega) c
      cases e
      obtain ⟨adn, cc, ead, _, hKn, hc0⟩ := Kd.C_get H11.out (0 : Int) (j : Int) (by omega) cj
      obtain rfl : cc = [.int .i64 (l1_1.getD (j : Int).toNat 0)] := hKn
      have hxi := hc0 0 _ rfl
      cases ead
      rw [show (Kd.int .i64).sz = 1 from rfl, Nat.mul_one, Nat.add_zero, Int.toNat_natCast] at hxi
      rw [Int.toNat_natCast] at h0
      replace hxi := (HP.out.hb.cell (World.block_lt_of_cell? w _ hxi)).trans hxi
      replace h0 := (HP.out.hb.cell (World.block_lt_of_cell? w _ h0)).trans h0
      have hrd : rd l1_1 (j : Int) = l1_1.getD j 0 := by unfold rd; rw [Int.toNat_natCast]
      rw [hrd] at H
      generalize l1_1.getD j 0 = nn at hxi H
      generalize ql l0_0 (i : Int) = x at h0 H
      obtain ⟨bq, hbq⟩ : ∃ bq, (nn == x.f0) = bq := ⟨_, rfl⟩
      have hbd : decide (nn = x.f0) = bq := by rw [← hbq]; rfl
      rw [hbq] at H
      have HH := Qz.mk H
      clear H hc0 hrd
      have hv0' := cellX hv0
      have he1' := cellX he1
      have hxi' := cellX hxi
      have h0' := cellX h0
      go_wp2
      refine wp_region_quietX (by assumption) (by kernel_rfl) ?_
      iterate 16 (with_reducible refine wpQuiet_want ?want_ (fun K hK => ?_); (case want_ => kernel_rfl); go_simp; with_reducible refine hK _ ?_; clear hK K)
     all_goals
      refine wpQuiet_nil ?_
      intro _ hw_
      obtain ⟨⟨tq, osq⟩, hw_⟩ := hw_
      subst hw_
      have HP2 := Qz.mk (HP.out.below (below_grow wr tq osq))
      have HM2 := Qz.mk (Kd.R_below HM.out (below_grow wr tq osq))
      generalize grow (atD wr tq) osq = W2 at HP2 HM2 ⊢
      go_wp2
      go_roundg k3
      case measure => exact Nat.lt_succ_self _
      case rel => exact ⟨_, j + 1, rfl, congrArg (Value.int .i64) (by first | rfl | exact hw2 | omega), HH, by omega, ⟨by have := HK1.out; omega⟩, HP2, HM2⟩
    ·rw [if_neg cj] at H
     have cjb : decide ((j : Int) < (l1_1.length : Int)) = false := decide_eq_false cj
     have hw2 : wrap64 ((i : Int) + 1) = ((i + 1 : Nat) : Int) := by unfold wrap64; omega
     cases bb with
     | true =>
      rw [if_pos rfl, hw2] at H
      have HH := Qz.mk H
      clear H
      go_wp2
      go_roundg k3
      case measure => have := HK1.out; omega
      case rel => exact ⟨_, i + 1, m, _, rfl, congrArg (Value.int .i64) (by first | rfl | exact hw2 | omega), HH, by omega, ⟨by have := HK.out; have := HK1.out; omega⟩, HP, HM⟩
     | false =>
      rw [if_neg (by decide), if_pos (by omega), if_pos c, hw2] at H
      split at H
      case isFalse => cases H
      rename_i hlm
      obtain ⟨adx, e, h0, h1, h2, h3, h4⟩ := at_T66 H00.out (i : Int) (by omega) c
      cases e
      rw [Int.toNat_natCast] at h0 h1 h2 h3 h4
      replace h0 := (HP.out.hb.cell (World.block_lt_of_cell? w _ h0)).trans h0
      replace h1 := (HP.out.hb.cell (World.block_lt_of_cell? w _ h1)).trans h1
      replace h2 := (HP.out.hb.cell (World.block_lt_of_cell? w _ h2)).trans h2
      replace h3 := (HP.out.hb.cell (World.block_lt_of_cell? w _ h3)).trans h3
      replace h4 := (HP.out.hb.cell (World.block_lt_of_cell? w _ h4)).trans h4
      generalize ql l0_0 (i : Int) = x at h0 h1 h2 h3 h4 H
      have HH := Qz.mk H
      clear H
      have a0' : ∀ o, (wr.alloc o).cell? ⟨b, 0, none⟩ = some (.slice Af m.length cf) := fun o => (qa (qf HP.out.ho o) 0).trans rfl
      go_wp2_with fail
      go_region_law ((rw [show (wr.alloc (.cells #[.int .i64 x.f0, .int .i64 x.f1, .string x.f2, .string x.f3, .int .i64 x.f4] 66)).drew = wr.drew.alloc (.cells #[.int .i64 x.f0, .int .i64 x.f1, .string x.f2, .string x.f3, .int .i64 x.f4] 66) from rfl]); refine Kd.R_append_step k66 (w0 := w) w.heap.size (by rfl) (.tmp 86) (.tmp 92) 30 66 (.agg #[.int .i64 0, .int .i64 0, .string ⟨#[]⟩, .string ⟨#[]⟩, .int .i64 0]) 56 (by rfl) hu30 info66 (by rfl) (by decide) (by omega) (.slice Af m.length cf) m x [.int .i64 x.f0, .int .i64 x.f1, .string x.f2, .string x.f3, .int .i64 x.f4] (fun _ => True) (fun _ => False) (by rfl) (by rfl) ?aP (fun _ hk => hk.elim) ?aF ?aO ?aB ?aS ?aL ?_; (case aP => exact k66_mkM _ _ _ x); (case aF => exact fun _ _ => trivial); (case aO => exact Kd.R_drew HM.out); (case aB => exact below_drew HP.out.hb); (case aS => exact (below_drew HP.out.hb).size); (case aL => omega); intro v1 W1 ho hb hg hat; obtain ⟨Ao, co, eo⟩ := Kd.R_slice ho; subst eo; rw [show (m ++ [x]).length = m.length + 1 from by simp] at ho; have HP1 := Qz.mk (ApB.grown (HP.out.below (below_drew (Below.refl _ wr))) hb hg (Kd.R_drew HM.out)); have HM1 := Qz.mk ho; have hs0 : W1.cell? ⟨b, 0, none⟩ = some (.slice Af m.length cf) := (qa HP1.out.ho 0).trans rfl; have hs1 : W1.frozen? ⟨b, 0, none⟩ = false := qc HP1.out.ho 0; clear ho hb hg hat)
      all_goals go_wp2
      all_goals go_roundg k3
      all_goals first
       | (have := HK1.out; omega)
       | exact ⟨_, i + 1, _, _, rfl, congrArg (Value.int .i64) (by first | rfl | exact hw2 | omega), HH, by omega, ⟨by have := HK.out; have := HK1.out; omega⟩, ⟨HP1.out.put _⟩, ⟨Kd.R_set HM1.out HP1.out.ho (by decide) 0 _⟩⟩
  ·rw [if_neg c] at H
   have cb : decide ((i : Int) < (l0_0.length : Int)) = false := decide_eq_false c
   by_cases ce : x7 = (l1_1.length : Int)
   case neg =>
    rw [if_neg ce] at H
    have ceb : (x7 == (l1_1.length : Int)) = false := beq_eq_false_iff_ne.2 ce
    have ced : decide (x7 = (l1_1.length : Int)) = false := decide_eq_false ce
    have HH := Qz.mk (Option.some.inj H).symm
    clear H
    have hq0 := (qa HP.out.hr 0).trans rfl
    have hq1 := (qa HP.out.hr 1).trans rfl
    have hq2 := (qa HP.out.hr 2).trans rfl
    have hq3 := (qa HP.out.hr 3).trans rfl
    have hf0 := qc HP.out.hr 0
    have hf1 := qc HP.out.hr 1
    have hf2 := qc HP.out.hr 2
    have hf3 := qc HP.out.hr 3
    go_wp2
    exact HF.out _ (putA HP.out.hr) (belowA HP.out.hb (by omega)) _ rfl rfl HH.out
   rw [if_pos ce] at H
   subst ce
   have HH := Qz.mk H
   clear H
   go_wp2
   go_loopg [11] k1 (fun kq v11 wr => ∃ (i : Nat) (m : List S66) (vf : Value), v11 = .int .i64 i ∧ Qz (spec_Apply.l2 kq i l1_0 l1_1 a1_2 a1_3 a1_4 m a1_2 a1_3 a1_4 = some (r1, r2, r3, r4, r5)) ∧ i ≤ l1_0.length ∧ Qz (kq ≤ k1) ∧ Qz (ApB w b #[.slice A0_0 l0_0.length c0_0, .int .i64 a0_1, .int .i64 a0_2, .int .i64 a0_3] #[.slice A1_0 l1_0.length c1_0, .slice A1_1 l1_1.length c1_1, .int .i64 a1_2, .int .i64 a1_3, .int .i64 a1_4] a1_2 a1_3 a1_4 vf wr) ∧ Qz (Kd.R k66 66 wr w.heap.size (fun _ => True) vf m))
   case atStart => exact ⟨0, m, _, rfl, HH, Nat.zero_le _, ⟨Nat.le_refl _⟩, HP, HM⟩
   case round =>
    clear HH HP HM hv0 he0 he1 ho0 cb
    rename World => wr
    obtain ⟨i, m, vf, rfl, HA, hil, HK1, HP, HM⟩ := hrel
    cases gk with
    | zero => exact absurd HA.out (by simp [spec_Apply.l2])
    | succ k3 =>
    have H := HA.out
    clear HA
    simp only [spec_Apply.l2] at H
    obtain ⟨Af, cf, ef⟩ := Kd.R_slice HM.out
    subst ef
    obtain ⟨_, hmc, hC⟩ := Kd.R_reads' HM.out
    have hml := Kd.C_max hC
    have HC := Qz.mk hC
    clear hC
    have he0 := (qa HP.out.he 0).trans rfl
    have ho0 := (qa HP.out.ho 0).trans rfl
    by_cases c : (i : Int) < (l1_0.length : Int)
    ·rw [if_pos c] at H
     have cb : decide ((i : Int) < (l1_0.length : Int)) = true := decide_eq_true c
     have HH := Qz.mk H
     clear H
     go_wp2
     go_loopg [12] k3 (fun kq v12 w2 => ∃ (j : Nat), v12 = .int .i64 j ∧ Qz (spec_Apply.l3 kq i j l1_0 l1_1 a1_2 a1_3 a1_4 m a1_2 a1_3 a1_4 = some (r1, r2, r3, r4, r5)) ∧ j ≤ m.length ∧ Qz (kq ≤ k3) ∧ Qz (ApB w b #[.slice A0_0 l0_0.length c0_0, .int .i64 a0_1, .int .i64 a0_2, .int .i64 a0_3] #[.slice A1_0 l1_0.length c1_0, .slice A1_1 l1_1.length c1_1, .int .i64 a1_2, .int .i64 a1_3, .int .i64 a1_4] a1_2 a1_3 a1_4 (.slice Af m.length cf) w2) ∧ Qz (Kd.R k66 66 w2 w.heap.size (fun _ => True) (.slice Af m.length cf) m))
     case atStart => exact ⟨0, rfl, HH, Nat.zero_le _, ⟨Nat.le_refl _⟩, HP, HM⟩
     case round =>
      clear HH HP HM HC he0 ho0
      rename World => wr
      obtain ⟨j, rfl, HA, hjl, HK2, HP, HM⟩ := hrel
      cases gk with
      | zero => exact absurd HA.out (by simp [spec_Apply.l3])
      | succ k4 =>
      have H := HA.out
      clear HA
      simp only [spec_Apply.l3] at H
      obtain ⟨_, hmc, hC⟩ := Kd.R_reads' HM.out
      have hml := Kd.C_max hC
      have HC := Qz.mk hC
      clear hC
      have he0 := (qa HP.out.he 0).trans rfl
      have ho0 := (qa HP.out.ho 0).trans rfl
      have he0' := cellX he0
      have ho0' := cellX ho0
      obtain ⟨adx, e, h0, h1, h2, h3, h4⟩ := at_T66 H10.out (i : Int) (by omega) c
      cases e
      rw [Int.toNat_natCast] at h0 h1 h2 h3 h4
      generalize ql l1_0 (i : Int) = x at h0 h1 h2 h3 h4 H
      have HXI : Qz (wrap64 ((i : Int) + 1) = ((i + 1 : Nat) : Int)) := ⟨by unfold wrap64; omega⟩
      by_cases cj : (j : Int) < (m.length : Int)
      case' pos =>
       replace H := (if_pos cj).symm.trans H
       replace H := (ite_some H).2
       replace H := (ite_some H).2
       replace H := (ite_some H).2
       have HW : Qz (wrap64 ((j : Int) + 1) = ((j + 1 : Nat) : Int)) := ⟨by clear H; unfold wrap64; omega⟩
       have cjn : decide (j < m.length) = true := decide_eq_true (Int.ofNat_lt.1 cj)
       have hj0 : (0 : Int) ≤ (j : Int) := Int.natCast_nonneg j
       have hi0 : (0 : Int) ≤ (i : Int) := Int.natCast_nonneg i
       have cjb : decide ((j : Int) < (m.length : Int)) = true := decide_eq_true cj
       replace H := Option.bind_eq_some_iff.mp H
       obtain ⟨t118, A5_, H⟩ := H
       have A5 := Qz.mk A5_
       clear A5_
       have g0 := (HP.out.hb.cell (World.block_lt_of_cell? w _ h0)).trans h0
       have g1 := (HP.out.hb.cell (World.block_lt_of_cell? w _ h1)).trans h1
       have g2 := (HP.out.hb.cell (World.block_lt_of_cell? w _ h2)).trans h2
       have g3 := (HP.out.hb.cell (World.block_lt_of_cell? w _ h3)).trans h3
       have g4 := (HP.out.hb.cell (World.block_lt_of_cell? w _ h4)).trans h4
       obtain ⟨ady, e, y0, y1, y2, y3, y4⟩ := at_T66 HC.out (j : Int) (by omega) cj
       subst e
       rw [Int.toNat_natCast] at y0 y1 y2 y3 y4
       generalize ql m (j : Int) = y at y0 y1 y2 y3 y4 A5
       have ha : ∀ t os, Calls Try.prog 56 #[.agg #[.int .i64 y.f0, .int .i64 y.f1, .string y.f2, .string y.f3, .int .i64 y.f4], .agg #[.int .i64 x.f0, .int .i64 x.f1, .string x.f2, .string x.f3, .int .i64 x.f4]] (grow (atD wr t) os) fun e w' => e = .returned (.bool t118) ∧ ∃ t' os', w' = grow (atD (grow (atD wr t) os) t') os' := fun t os => (spec_l12Ahead.calls y.f0 y.f1 y.f2 y.f3 y.f4 x.f0 x.f1 x.f2 x.f3 x.f4 t118 (grow (atD wr t) os) A5.out).mono fun _ _ h => ⟨h.1, grownX_of_below h.2⟩
       have g0' := cellX g0
       have g1' := cellX g1
       have g2' := cellX g2
       have g3' := cellX g3
       have g4' := cellX g4
       have y0' := cellX y0
       have y1' := cellX y1
       have y2' := cellX y2
       have y3' := cellX y3
       have y4' := cellX y4
       cases t118
       case true =>
        replace H := (if_pos (show true = true from rfl)).symm.trans H
        rw [HW.out] at H
        have HH := Qz.mk H
        clear H
        go_wp2
        refine wp_region_quietX (by assumption) (by kernel_rfl) ?_
        iterate 18 (with_reducible refine wpQuiet_want ?want_ (fun K hK => ?_); (case want_ => kernel_rfl); go_simp; (first | (with_reducible refine hK _ ?_; clear hK K) | (apply Exists.intro; refine ⟨fun _ => ?_, hK _ ?_⟩; (go_at_call 56; (with_reducible refine callsX_of (ha _ _))); clear hK K)))
        refine wpQuiet_nil ?_
        intro _ hw_
        obtain ⟨⟨tq, osq⟩, hw_⟩ := hw_
        subst hw_
        have HP2 := Qz.mk (HP.out.below (below_grow wr tq osq))
        have HM2 := Qz.mk (Kd.R_below HM.out (below_grow wr tq osq))
        generalize grow (atD wr tq) osq = W2 at HP2 HM2 ⊢
        clear ha g0 g1 g2 g3 g4 g0' g1' g2' g3' g4' y0 y1 y2 y3 y4 y0' y1' y2' y3' y4' A5 he0 ho0 he0' ho0' h0 h1 h2 h3 h4 HC
        go_wp2
        go_roundg k4
        case measure => exact Nat.lt_succ_self _
        case rel => exact ⟨j + 1, congrArg (Value.int .i64) (by first | rfl | exact HW.out | omega), HH, by omega, ⟨by have := HK2.out; omega⟩, HP2, HM2⟩
       replace H := (if_neg (show ¬ false = true by decide)).symm.trans H
       simp only [Option.bind_some] at H
       replace H := (ite_some H).2
       replace H := (ite_some H).2
       replace H := (ite_some H).2
       have q := (ite_some H).1
       replace H := (ite_some H).2
       have HL : Qz (m.length + 1 < 2513169434916) := ⟨lenA m _ j hjl q⟩
       have H2 : Qz (spec_Apply.l2 k4 ((i + 1 : Nat) : Int) l1_0 l1_1 a1_2 a1_3 a1_4 ([] ++ m.take j ++ [(⟨x.f0, x.f1, x.f2, x.f3, x.f4⟩ : S66)] ++ m.drop j) a1_2 a1_3 a1_4 = some (r1, r2, r3, r4, r5)) := ⟨by rw [← HXI.out]; exact H⟩
       clear H q
       go_wp2
       refine wp_region_quietX (by assumption) (by kernel_rfl) ?_
       iterate 18 (with_reducible refine wpQuiet_want ?want_ (fun K hK => ?_); (case want_ => kernel_rfl); go_simp; (first | (with_reducible refine hK _ ?_; clear hK K) | (apply Exists.intro; refine ⟨fun _ => ?_, hK _ ?_⟩; (go_at_call 56; (with_reducible refine callsX_of (ha _ _))); clear hK K)))
       clear ha g0 g1 g2 g3 g4 g0' g1' g2' g3' g4' y0 y1 y2 y3 y4 y0' y1' y2' y3' y4' A5 he0 ho0 he0' ho0'
      case' neg =>
       replace H := (if_neg cj).symm.trans H
       have cjb : decide ((j : Int) < (m.length : Int)) = false := decide_eq_false cj
       have cjn : decide (j < m.length) = false := decide_eq_false (fun h => cj (Int.ofNat_lt.2 h))
       simp only [Option.bind_some] at H
       replace H := (ite_some H).2
       replace H := (ite_some H).2
       replace H := (ite_some H).2
       replace H := (ite_some H).2
       replace H := (ite_some H).2
       replace H := (ite_some H).2
       have q := (ite_some H).1
       replace H := (ite_some H).2
       have HL : Qz (m.length + 1 < 2513169434916) := ⟨lenA m _ j hjl q⟩
       have H2 : Qz (spec_Apply.l2 k4 ((i + 1 : Nat) : Int) l1_0 l1_1 a1_2 a1_3 a1_4 ([] ++ m.take j ++ [(⟨x.f0, x.f1, x.f2, x.f3, x.f4⟩ : S66)] ++ m.drop j) a1_2 a1_3 a1_4 = some (r1, r2, r3, r4, r5)) := ⟨by rw [← HXI.out]; exact H⟩
       clear H q
       go_wp2
       refine wp_region_quietX (by assumption) (by kernel_rfl) ?_
       iterate 6 (with_reducible refine wpQuiet_want ?want_ (fun K hK => ?_); (case want_ => kernel_rfl); go_simp; with_reducible refine hK _ ?_; clear hK K)
       iterate 11 (with_reducible refine wpQuiet_skip ?skip_ (fun K hK => ?_); (case skip_ => kernel_rfl); go_simp; with_reducible refine hK _ ?_; clear hK K)
       (with_reducible refine wpQuiet_want ?want_ (fun K hK => ?_); (case want_ => kernel_rfl); go_simp; with_reducible refine hK _ ?_; clear hK K)
       clear he0 ho0 he0' ho0'
      all_goals
       refine wpQuiet_nil ?_
       intro _ hw_
       obtain ⟨⟨tq, osq⟩, hw_⟩ := hw_
       subst hw_
       have HP2 := Qz.mk (HP.out.below (below_grow wr tq osq))
       have HM2 := Qz.mk (Kd.R_below HM.out (below_grow wr tq osq))
       have HC2 := Qz.mk (Kd.C_below HC.out (below_grow wr tq osq))
       generalize grow (atD wr tq) osq = W2 at HP2 HM2 HC2 ⊢
       have HT := Qz.mk (show Kd.C k66 W2 _ j (m.take j) from by have hq := Kd.C_take HC2.out hjl; rw [List.length_take, Nat.min_eq_left hjl] at hq; exact hq)
       have hs0 := fun o => (qa (qf HP2.out.ho o) 0).trans rfl
       have hjc : (j : Int) ≤ (cf : Int) := by omega
       have hjm : (j : Int) ≤ (m.length : Int) := by omega
       rcases Classical.em (cf = j) with hcj | hcj
       all_goals (try (exfalso; omega))
       all_goals
        go_wp2_with (first
         | ((with_reducible refine gate_builtin (b := .append) (xs := #[.tmp 128, .tmp 132]) rfl ?_); at_builtin; refine Kd.R_append_rows k66 (w0 := W2) W2.heap.size rfl (.tmp 128) (.tmp 132) 30 66 (.agg #[.int .i64 0, .int .i64 0, .string ⟨#[]⟩, .string ⟨#[]⟩, .int .i64 0]) 56 rfl hu30 info66 rfl (by decide) (by omega) (.slice (some ⟨W2.heap.size, 0, none⟩) 0 0) [] (m.take j) _ _ _ (fun _ => True) (fun _ => False) rfl rfl ?aO ?aR (fun _ _ h => h) (fun _ h => h.elim) ?aF ?aB ?aS ?aL ?_; (case aO => exact R_emptyA _ _ W2 _ (Nat.le_refl _)); (case aR => exact Kd.C_below HT.out ((Below.refl _ W2).alloc (Nat.le_refl _) _)); (case aF => exact fun _ _ => trivial); (case aB => exact (Below.refl _ W2).alloc (Nat.le_refl _) _); (case aS => exact ((Below.refl _ W2).alloc (Nat.le_refl _) _).size); (case aL => have := HL.out; simp only [List.length_nil]; omega); intro v3 W3 ho3 hb3 hg3 hat3; have HR3 := Qz.mk ho3; have HB3 := Qz.mk hb3; have HP3 := Qz.mk (HP2.out.below hb3); clear ho3 hb3 hg3 hat3 hs0; have q0 := (qa HP3.out.he 0).trans rfl; have g0 := (HP3.out.hb.cell (World.block_lt_of_cell? w _ h0)).trans h0; have g1 := (HP3.out.hb.cell (World.block_lt_of_cell? w _ h1)).trans h1; have g2 := (HP3.out.hb.cell (World.block_lt_of_cell? w _ h2)).trans h2; have g3 := (HP3.out.hb.cell (World.block_lt_of_cell? w _ h3)).trans h3; have g4 := (HP3.out.hb.cell (World.block_lt_of_cell? w _ h4)).trans h4)
         | ((with_reducible refine gate_builtin (b := .append) (xs := #[.tmp 134, .tmp 140]) rfl ?_); at_builtin; refine Kd.R_append k66 (w0 := W2) W2.heap.size (by rfl) (.tmp 134) (.tmp 140) 30 66 (.agg #[.int .i64 0, .int .i64 0, .string ⟨#[]⟩, .string ⟨#[]⟩, .int .i64 0]) 56 (by rfl) hu30 info66 (by rfl) (by decide) (by omega) v3 ([] ++ m.take j) (⟨x.f0, x.f1, x.f2, x.f3, x.f4⟩) [.int .i64 x.f0, .int .i64 x.f1, .string x.f2, .string x.f3, .int .i64 x.f4] (fun _ => True) (fun _ => False) (by rfl) (by rfl) ?aP (fun _ hk => hk.elim) ?aF ?aO ?aB ?aS ?aL ?_; (case aP => exact k66_mkM _ _ _ (⟨x.f0, x.f1, x.f2, x.f3, x.f4⟩)); (case aF => exact fun _ _ => trivial); (case aO => exact HR3.out); (case aB => exact HB3.out); (case aS => exact HB3.out.size); (case aL => have := HL.out; simp only [List.nil_append, List.length_take]; omega); intro v4 W4 ho4 hb4 hg4 hat4; have HR4 := Qz.mk ho4; have HB4 := Qz.mk hb4; have HP4 := Qz.mk (HP2.out.below hb4); clear ho4 hb4 hg4 hat4 g0 g1 g2 g3 g4 q0; have hs0 := (qa HP4.out.ho 0).trans rfl)
         | ((with_reducible refine gate_builtin (b := .append) (xs := #[.tmp 142, .tmp 146]) rfl ?_); at_builtin; refine Kd.R_append_rows k66 (w0 := W2) W2.heap.size rfl (.tmp 142) (.tmp 146) 30 66 (.agg #[.int .i64 0, .int .i64 0, .string ⟨#[]⟩, .string ⟨#[]⟩, .int .i64 0]) 56 rfl hu30 info66 rfl (by decide) (by omega) v4 ([] ++ m.take j ++ [(⟨x.f0, x.f1, x.f2, x.f3, x.f4⟩ : S66)]) (m.drop j) _ _ _ (fun _ => True) (fun _ => False) rfl rfl ?aO ?aR (fun _ _ h => h) (fun _ h => h.elim) ?aF ?aB ?aS ?aL ?_; (case aO => exact HR4.out); (case aR => have hd := Kd.C_drop (c := cf) (Kd.C_below HC2.out HB4.out) hjl hmc; rw [List.length_drop] at hd; first | (rw [if_pos hcj] at hd; exact hd) | (rw [if_neg hcj] at hd; exact hd)); (case aF => exact fun _ _ => trivial); (case aB => exact HB4.out); (case aS => exact HB4.out.size); (case aL => have := HL.out; simp only [List.nil_append, List.length_append, List.length_take, List.length_cons, List.length_nil]; omega); intro v5 W5 ho5 hb5 hg5 hat5; obtain ⟨Ao, co, eo⟩ := Kd.R_slice ho5; subst eo; have hl5 : List.length ([] ++ m.take j ++ [(⟨x.f0, x.f1, x.f2, x.f3, x.f4⟩ : S66)] ++ m.drop j) = j + (m.length - j + 1) := (by simp only [List.nil_append, List.length_append, List.length_take, List.length_drop, List.length_cons, List.length_nil]; omega); rw [hl5] at ho5; have HR5 := Qz.mk ho5; have HP5 := Qz.mk (HP2.out.below hb5); have HB5 := Qz.mk hb5; clear ho5 hb5 hg5 hat5 hs0; have hs0 := (qa HP5.out.ho 0).trans rfl; have hs1 := qc HP5.out.ho 0))
        go_roundg k4
        case measure => have := HK2.out; omega
        case rel => exact ⟨i + 1, _, _, congrArg (Value.int .i64) (by first | rfl | exact HXI.out | omega), H2, by omega, ⟨by have := HK1.out; have := HK2.out; omega⟩, ⟨HP5.out.put _⟩, ⟨Kd.R_set (Kd.R_lower HR5.out HP2.out.hb.size) HP5.out.ho (by decide) 0 _⟩⟩
    ·rw [if_neg c] at H
     have cb : decide ((i : Int) < (l1_0.length : Int)) = false := decide_eq_false c
     replace H := Option.bind_eq_some_iff.mp H
     obtain ⟨t, A1_, H⟩ := H
     have A1 := Qz.mk A1_
     have HH := Qz.mk H
     clear A1_ H
     have ho1 := (qa HP.out.ho 1).trans rfl
     have ho2 := (qa HP.out.ho 2).trans rfl
     have ho3 := (qa HP.out.ho 3).trans rfl
     go_wp2_with fail
     (with_reducible refine (spec_VersionOk.calls k3 Af cf m a1_2 a1_3 a1_4 t wr HC.out hmc A1.out).mono ?_)
     rintro e w3 ⟨rfl, hb3⟩
     have HP3 := Qz.mk (HP.out.below hb3)
     have HM3 := Qz.mk (Kd.R_below HM.out hb3)
     clear hb3 HP HM HC he0 ho0 ho1 ho2 ho3 A1
     have ho0 := (qa HP3.out.ho 0).trans rfl
     have ho1 := (qa HP3.out.ho 1).trans rfl
     have ho2 := (qa HP3.out.ho 2).trans rfl
     have ho3 := (qa HP3.out.ho 3).trans rfl
     have hq0 := (qa HP3.out.hr 0).trans rfl
     have hq1 := (qa HP3.out.hr 1).trans rfl
     have hq2 := (qa HP3.out.hr 2).trans rfl
     have hq3 := (qa HP3.out.hr 3).trans rfl
     have hf0 := qc HP3.out.hr 0
     have hf1 := qc HP3.out.hr 1
     have hf2 := qc HP3.out.hr 2
     have hf3 := qc HP3.out.hr 3
     cases t with
     | false =>
      go_wp2
      exact HF.out _ (putA HP3.out.hr) (belowA HP3.out.hb (by omega)) _ rfl rfl (Option.some.inj HH.out).symm
     | true =>
      have hr := Option.some.inj HH.out
      simp only [Prod.mk.injEq] at hr
      obtain ⟨rfl, rfl, rfl, rfl, rfl⟩ := hr
      go_wp2
      refine bodyPost_ret (results_ct rfl _ _ (w.heap.size + 1 + 1) 32 _ (0, 0) _ rfl (putA HP3.out.hr) Try.underlying32 rfl (by kernel_rfl)) rfl ?_
      exact ⟨_, rfl, R_setA HM3.out HP3.out.hr (by decide), belowA HP3.out.hb (by omega)⟩
theorem yq43 {P : Prop} (h : P := by repeat (first | (with_reducible first | exact HB.out | apply qd | apply qb | apply qe | refine qi ?_ GE101.out | refine qi ?_ GE102.out) | exact HB.out)) : P := h
theorem yq44 {P : Prop} (h : P := by (with_reducible repeat (first | refine qg ?_ _ | refine qh ?_ | refine qf ?_ _)); exact BK101.out) : P := h
def spec_l12Copy.f (l0_0 : List (S66)) (a0_1 : Int) (a0_2 : Int) (a0_3 : Int) : Option ((List (S66)) × Int × Int × Int) := (some (([] : List (S66)) : List (S66))).bind fun y103 => (if y103.length + l0_0.length < 2513169434916 then (some ((y103 ++ l0_0), a0_1, a0_2, a0_3)) else (none))
set_option maxHeartbeats 8000000 in
set_option maxRecDepth 100000 in
theorem spec_l12Copy.calls (A0_0 : Option Addr) (c0_0 : Nat) (l0_0 : List (S66)) (a0_1 : Int) (a0_2 : Int) (a0_3 : Int) (r1 : List (S66)) (r2 : Int) (r3 : Int) (r4 : Int) (w : World) (hr0_0 : Kd.C k66 w A0_0 l0_0.length l0_0) (hc0_0 : l0_0.length ≤ c0_0) (h : spec_l12Copy.f l0_0 a0_1 a0_2 a0_3 = some (r1, r2, r3, r4)) :
  Calls Try.prog 68 #[.agg #[.slice A0_0 l0_0.length c0_0, .int .i64 a0_1, .int .i64 a0_2, .int .i64 a0_3]] w fun e w' => ∃ v0_ : Value, e = .returned (.agg #[v0_, .int .i64 r2, .int .i64 r3, .int .i64 r4]) ∧ Kd.R k66 66 w' w.heap.size (fun _ => True) v0_ r1 ∧ Below w.heap.size w w' := by
 have hu32 := Try.underlying32
 have HR0_0 := Qz.mk hr0_0
 have HC0_0 := Qz.mk hc0_0
 clear hr0_0 hc0_0
 have HB := Qz.mk (Below.refl w.heap.size w)
 have H : ((some (([] : List (S66)) : List (S66))).bind fun y103 => (if y103.length + l0_0.length < 2513169434916 then (some ((y103 ++ l0_0), a0_1, a0_2, a0_3)) else (none))) = some (r1, r2, r3, r4) := h
 clear h
 obtain ⟨y103, hy103⟩ : ∃ y_ : List (S66), y_ = (([] : List (S66))) := ⟨_, rfl⟩
 replace H : (if y103.length + l0_0.length < 2513169434916 then (some ((y103 ++ l0_0), a0_1, a0_2, a0_3)) else (none)) = some (r1, r2, r3, r4) := by first | (rw [hy103]; with_reducible exact H) | (have H2_ := (Option.bind_some _ _).symm.trans H; rw [hy103]; with_reducible exact H2_) | (have H2_ := (Option.bind_some _ _).symm.trans H; with_reducible exact H2_) | with_reducible exact H | (rw [hy103]; exact H) | exact H
 have Ny103 := Qz.mk hy103
 clear hy103
 by_cases c2 : y103.length + l0_0.length < 2513169434916
 ·rw [if_pos c2] at H
  have LMc2 := Qz.mk c2
  clear c2
  obtain ⟨y106, hy106⟩ : ∃ y_ : List (S66), y_ = (y103 ++ l0_0) := ⟨_, rfl⟩
  replace H : (some (y106, a0_1, a0_2, a0_3)) = some (r1, r2, r3, r4) := by first | (rw [hy106]; with_reducible exact H) | (have H2_ := (Option.bind_some _ _).symm.trans H; rw [hy106]; with_reducible exact H2_) | (have H2_ := (Option.bind_some _ _).symm.trans H; with_reducible exact H2_) | with_reducible exact H | (rw [hy106]; exact H) | exact H
  have Ny106 := Qz.mk hy106
  clear hy106
  simp only [Option.some.injEq, Prod.mk.injEq] at H
  obtain ⟨rfl, rfl, rfl, rfl⟩ := H
  go_enter Try.func68, Try.ntmps68
  go_wp2_with (first | ((with_reducible refine qv (N := 1) rfl ?_); refine qt ?hg (N := 1) ?hd (cs := #[.slice A0_0 l0_0.length c0_0, .int .i64 a0_1, .int .i64 a0_2, .int .i64 a0_3]) (t := 32) ?hr ?_; (case hd => rfl); (case hg => rfl); (case hr => first | (go_simp; done) | (go_simp; rfl)); intro gb101 hg w3 hbox hb; have BK101 := Qz.mk (hbox); have GW101 := Qz.mk ((by rw [hg]; exact (qp (by repeat (first | (with_reducible first | exact HB.out | apply qd | apply qb | apply qe) | exact HB.out))) : w.heap.size ≤ gb101)); have GE101 := GW101; replace HB := Qz.mk (qk (by repeat (first | (with_reducible first | exact HB.out | apply qd | apply qb | apply qe) | exact HB.out)) hb); clear hb hbox hg) | ((with_reducible refine qv (N := 2) rfl ?_); refine qt ?hg (N := 2) ?hd (cs := #[.slice none 0 0, .int .i64 0, .int .i64 0, .int .i64 0]) (t := 32) ?hr ?_; (case hd => rfl); (case hg => rfl); (case hr => first | (go_simp; done) | (go_simp; rfl)); intro gb102 hg w4 hbox hb; have BK102 := Qz.mk (hbox); have GW102 := Qz.mk ((by rw [hg]; exact (qp (by repeat (first | (with_reducible first | exact HB.out | apply qd | apply qb | apply qe | refine qi ?_ GE101.out) | exact HB.out))) : w.heap.size ≤ gb102)); have GE102 := GW102; replace HB := Qz.mk (qk (by repeat (first | (with_reducible first | exact HB.out | apply qd | apply qb | apply qe | refine qi ?_ GE101.out) | exact HB.out)) hb); have NB101_102 := Qz.mk ((by rw [hg]; exact Nat.ne_of_lt (qw (g := gb101) (o := .cells #[.slice A0_0 l0_0.length c0_0, .int .i64 a0_1, .int .i64 a0_2, .int .i64 a0_3] 32 (0, 0)) yq44) : gb101 ≠ gb102)); have NB102_101 := Qz.mk ((by rw [hg]; exact Nat.ne_of_gt (qw (g := gb101) (o := .cells #[.slice A0_0 l0_0.length c0_0, .int .i64 a0_1, .int .i64 a0_2, .int .i64 a0_3] 32 (0, 0)) yq44) : gb102 ≠ gb101)); replace BK101 := Qz.mk (qo (g := gb101) (o := .cells #[.slice A0_0 l0_0.length c0_0, .int .i64 a0_1, .int .i64 a0_2, .int .i64 a0_3] 32 (0, 0)) yq44 hb); clear hb hbox hg) | ((with_reducible refine qv (N := 3) rfl ?_); refine Kd.R_lit k66 _ 66 ?hg (N := 3) ?hd (xs := ([] : List (S66))) (inner := []) (ok := fun _ => True) (okp := fun _ => True) ?hr ?hp (fun _ hk => hk) trivial (Below.refl _ _) (Nat.le_refl _) (by simp) ?_; (case hd => rfl); (case hg => rfl); (case hr => first | (go_simp; done) | (go_simp; rfl)); (case hp => exact (Reps.none _ _)); intro v104 w5 ho6 hb hg_ hnew_; clear hg_ hnew_; (first | rw [← Ny103.out] at ho6 | (simp only [Int.reduceToNat] at ho6; rw [← Ny103.out] at ho6)); have HO105 := Qz.mk (Kd.R_lower ho6 (qp yq43)); replace BK101 := Qz.mk (qo (g := gb101) (o := .cells #[.slice A0_0 l0_0.length c0_0, .int .i64 a0_1, .int .i64 a0_2, .int .i64 a0_3] 32 (0, 0)) yq44 hb); replace BK102 := Qz.mk (qo (g := gb102) (o := .cells #[.slice none 0 0, .int .i64 0, .int .i64 0, .int .i64 0] 32 (0, 0)) (by (with_reducible repeat (first | refine qg ?_ _ | refine qh ?_ | refine qf ?_ _)); exact BK102.out) hb); replace HB := Qz.mk (qk yq43 hb); clear hb ho6; have hnb7 := NB101_102.out; have hnc7 := NB102_101.out; have hcz8_0 := (qa BK101.out 0).trans rfl; have hcz8_1 := (qa BK101.out 1).trans rfl; have hcz8_2 := (qa BK101.out 2).trans rfl; have hcz8_3 := (qa BK101.out 3).trans rfl; have hfz8_0 := qc BK101.out 0; have hfz8_1 := qc BK101.out 1; have hfz8_2 := qc BK101.out 2; have hfz8_3 := qc BK101.out 3) | ((with_reducible refine gate_builtin (b := .append) (xs := #[.tmp 3, .tmp 5]) rfl ?_); at_builtin; refine Kd.R_append_rows k66 (w0 := w) w.heap.size rfl (.tmp 3) (.tmp 5) 30 66 (.agg #[(.int .i64 0), (.int .i64 0), (.string ⟨#[]⟩), (.string ⟨#[]⟩), (.int .i64 0)]) 56 rfl Try.underlying30 info66 rfl (by decide) (by omega) v104 y103 l0_0 _ _ _ (fun _ => True) (fun _ => False) rfl rfl ?aO ?aR (fun _ _ h => h) (fun _ h => h.elim) ?aF ?aB ?aS ?aL ?_; (case aR => repeat (first | exact (Kd.C_below HR0_0.out HB.out) | (with_reducible refine Kd.C_alloc ?_ _) | (with_reducible refine Kd.C_drewN ?_ _) | (with_reducible refine Kd.C_drew ?_))); (case aB => exact yq43); (case aF => exact (fun _ _ => trivial)); (case aO => exact (by (with_reducible repeat (first | apply Kd.R_alloc | apply Kd.R_drewN | apply Kd.R_drew)); exact HO105.out)); (case aS => exact (qp yq43)); (case aL => have := LMc2.out; omega); intro v107 w9 ho hb hg hat; rw [← Ny106.out] at ho; have n0_ := Qz.mk (blk_grown (g := gb101) (o := .cells #[.slice A0_0 l0_0.length c0_0, .int .i64 a0_1, .int .i64 a0_2, .int .i64 a0_3] 32 (0, 0)) yq44 hg (Kd.R_ne HO105.out BK101.out (by decide))); have n1_ := Qz.mk (blk_grown (g := gb102) (o := .cells #[.slice none 0 0, .int .i64 0, .int .i64 0, .int .i64 0] 32 (0, 0)) (by (with_reducible repeat (first | refine qg ?_ _ | refine qh ?_ | refine qf ?_ _)); exact BK102.out) hg (Kd.R_ne HO105.out BK102.out (by decide))); have n2_ := Qz.mk (hb); have n3_ := Qz.mk (ho); clear BK101; clear BK102; clear HB; clear HO105; have BK101 := n0_; have BK102 := n1_; have HB := n2_; have HO108 := n3_; clear n0_ n1_ n2_ n3_; clear ho hb hg hat; obtain ⟨Ao10, co10, eo10⟩ := Kd.R_slice HO108.out; subst eo10; have hcz11_0 := (qa BK101.out 0).trans rfl; have hcz11_1 := (qa BK101.out 1).trans rfl; have hcz11_2 := (qa BK101.out 2).trans rfl; have hcz11_3 := (qa BK101.out 3).trans rfl; have hfz11_0 := qc BK101.out 0; have hfz11_1 := qc BK101.out 1; have hfz11_2 := qc BK101.out 2; have hfz11_3 := qc BK101.out 3; have hcz12_0 := (qa BK102.out 0).trans rfl; have hcz12_1 := (qa BK102.out 1).trans rfl; have hcz12_2 := (qa BK102.out 2).trans rfl; have hcz12_3 := (qa BK102.out 3).trans rfl; have hfz12_0 := qc BK102.out 0; have hfz12_1 := qc BK102.out 1; have hfz12_2 := qc BK102.out 2; have hfz12_3 := qc BK102.out 3))
  refine bodyPost_ret (results_cell_row rfl _ _ gb102 32 #[.slice Ao10 y106.length co10, .int .i64 a0_1, .int .i64 a0_2, .int .i64 a0_3] (0, 0) _ rfl (by (with_reducible repeat (first | refine qg ?_ _ | refine qh ?_ | refine qf ?_ _)); refine qa1 (cs := #[.slice Ao10 y106.length co10, .int .i64 a0_1, .int .i64 a0_2, .int .i64 0]) ?_ 3 _ rfl; (with_reducible repeat (first | refine qg ?_ _ | refine qh ?_ | refine qf ?_ _)); refine qa1 (cs := #[.slice Ao10 y106.length co10, .int .i64 a0_1, .int .i64 0, .int .i64 0]) ?_ 2 _ rfl; (with_reducible repeat (first | refine qg ?_ _ | refine qh ?_ | refine qf ?_ _)); refine qa1 (cs := #[.slice Ao10 y106.length co10, .int .i64 0, .int .i64 0, .int .i64 0]) ?_ 1 _ rfl; (with_reducible repeat (first | refine qg ?_ _ | refine qh ?_ | refine qf ?_ _)); refine qa1 (cs := #[.slice none 0 0, .int .i64 0, .int .i64 0, .int .i64 0]) ?_ 0 _ rfl; (with_reducible repeat (first | refine qg ?_ _ | refine qh ?_ | refine qf ?_ _)); refine qu ?_ NB102_101.out _; (with_reducible repeat (first | refine qg ?_ _ | refine qh ?_ | refine qf ?_ _)); exact BK102.out) Try.underlying32 rfl (by kernel_rfl)) rfl ?_
  exact ⟨_, by first | rfl | (simp [qn, qm] <;> rfl) | (simp [*, qn, qm] <;> rfl), by (with_reducible repeat (first | apply Kd.R_alloc | apply Kd.R_drewN | apply Kd.R_drew)); exact Kd.R_mono (Kd.R_far (p := ⟨gb102, 3, none⟩) (Kd.R_far (p := ⟨gb102, 2, none⟩) (Kd.R_far (p := ⟨gb102, 1, none⟩) (Kd.R_far (p := ⟨gb102, 0, none⟩) (Kd.R_far (p := ⟨gb101, 0, none⟩) (Kd.R_types (Kd.R_types HO108.out BK101.out (by decide)) BK102.out (by decide)) (fun _ hk => hk.1.2) (.slice Ao10 y106.length co10)) (fun _ hk => hk.2) (.slice Ao10 y106.length co10)) (fun _ hk => hk.2) (.int .i64 a0_1)) (fun _ hk => hk.2) (.int .i64 a0_2)) (fun _ hk => hk.2) (.int .i64 a0_3)) (fun _ hk => trivial), by repeat (first | (with_reducible first | exact HB.out | apply qd | apply qb | apply qe | refine qi ?_ GE101.out | refine qi ?_ GE102.out) | exact HB.out)⟩
 ·rw [if_neg c2] at H
  exact absurd H (by simp)
theorem yq45 {P : Prop} (h : P := by (with_reducible repeat (first | refine qg ?_ _ | refine qh ?_ | refine qf ?_ _)); exact BK101.out) : P := h
theorem yq46 {P : Prop} (h : P := by (with_reducible repeat (first | refine qg ?_ _ | refine qh ?_ | refine qf ?_ _)); exact BK102.out) : P := h
theorem yq47 {P : Prop} (h : P := by repeat (first | (with_reducible first | exact HB.out | apply qd | apply qb | apply qe | refine qi ?_ GE101.out | refine qi ?_ GE102.out | refine qi ?_ GE110.out) | exact HB.out)) : P := h
theorem yq48 {P : Prop} (h : P := by (with_reducible repeat (first | refine qg ?_ _ | refine qh ?_ | refine qf ?_ _)); exact BK110.out) : P := h
theorem yq49 {P : Prop} (h : P := by repeat (first | (with_reducible first | exact HB.out | apply qd | apply qb | apply qe | refine qi ?_ GE101.out | refine qi ?_ GE102.out | refine qi ?_ GE110.out | refine qi ?_ GE119.out) | exact HB.out)) : P := h
theorem yq50 {P : Prop} (h : P := by (with_reducible repeat (first | apply Kd.R_alloc | apply Kd.R_drewN | apply Kd.R_drew)); exact HO_111000.out) : P := h
theorem yq51 {P : Prop} (h : P := by (try simp only [List.map_toArray, List.map_cons, List.map_nil]); first | done | rfl | (simp only [List.length_drop, List.length_take]; rfl) | (rw [IntWalk.u64_in _ (by omega)] <;> rfl)) : P := h
theorem yq52 {P : Prop} (h : P := by rw [hg]; exact Nat.ne_of_lt (qw (g := gb101) (o := .cells #[.slice A0_0 l0_0.length c0_0, .int .i64 a0_1, .int .i64 a0_2, .int .i64 a0_3] 32 (0, 0)) yq45)) : P := h
theorem yq53 {P : Prop} (h : P := by rw [hg]; exact Nat.ne_of_gt (qw (g := gb101) (o := .cells #[.slice A0_0 l0_0.length c0_0, .int .i64 a0_1, .int .i64 a0_2, .int .i64 a0_3] 32 (0, 0)) yq45)) : P := h
theorem yq54 {P : Prop} (h : P := by repeat (first | (with_reducible first | exact HB.out | apply qd | apply qb | apply qe | refine qi ?_ GE101.out | refine qi ?_ GE102.out) | exact HB.out)) : P := h
theorem yq55 {P : Prop} (h : P := by repeat (first | exact (Kd.R_reads' HO_111000.out).2.2 | (with_reducible refine Kd.C_alloc ?_ _) | (with_reducible refine Kd.C_drewN ?_ _) | (with_reducible refine Kd.C_drew ?_))) : P := h
theorem yq56 {P : Prop} (h : P := by repeat (first | exact (Kd.C_below HR111_1.out HB.out) | (with_reducible refine Kd.C_alloc ?_ _) | (with_reducible refine Kd.C_drewN ?_ _) | (with_reducible refine Kd.C_drew ?_))) : P := h
theorem yq57 {P : Prop} (h : P := by repeat (first | exact (Kd.C_below HR111_0.out HB.out) | (with_reducible refine Kd.C_alloc ?_ _) | (with_reducible refine Kd.C_drewN ?_ _) | (with_reducible refine Kd.C_drew ?_))) : P := h
theorem yq58 {P : Prop} (h : P := by (with_reducible repeat (first | refine qg ?_ _ | refine qh ?_ | refine qf ?_ _)); exact BK119.out) : P := h
theorem yq59 {P : Prop} (h : P := by rw [hg]; exact Nat.ne_of_lt (qw (g := gb102) (o := .cells #[.slice none 0 0, .int .i64 x103001_1, .int .i64 x103002_1, .int .i64 x103003_1] 32 (0, 0)) yq46)) : P := h
theorem yq60 {P : Prop} (h : P := by rw [hg]; exact Nat.ne_of_gt (qw (g := gb102) (o := .cells #[.slice none 0 0, .int .i64 x103001_1, .int .i64 x103002_1, .int .i64 x103003_1] 32 (0, 0)) yq46)) : P := h
theorem yq61 {P : Prop} (h : P := by (with_reducible repeat (first | apply Kd.R_alloc | apply Kd.R_drewN | apply Kd.R_drew)); exact Kd.R_mono HO_111000.out (fun _ hk => hk.2)) : P := h
theorem yq62 {P : Prop} (h : P := by (with_reducible repeat (first | apply Kd.R_alloc | apply Kd.R_drewN | apply Kd.R_drew)); exact Kd.R_mono HO114.out (fun _ hk => hk.2)) : P := h
theorem yq63 {P : Prop} (h : P := by repeat (first | (with_reducible first | exact HB.out | apply qd | apply qb | apply qe | refine qi ?_ GE101.out) | exact HB.out)) : P := h
theorem yq64 {P : Prop} (h : P := by repeat (first | exact (Kd.C_below HR0_0.out HB.out) | (with_reducible refine Kd.C_alloc ?_ _) | (with_reducible refine Kd.C_drewN ?_ _) | (with_reducible refine Kd.C_drew ?_))) : P := h
theorem yq65 {P : Prop} (h : P := by repeat (first | (with_reducible first | exact HB.out | apply qd | apply qb | apply qe) | exact HB.out)) : P := h
theorem yq66 {P : Prop} (h : P := by first | (go_simp; done) | (go_simp; rfl)) : P := h
theorem bkbf29 {w0 W W2 : World} {g : Nat} {o : Obj} (_ : Qz (w0.heap[g]? = some o)) (h : W.heap[g]? = some o) (hb : Below W.heap.size W W2) : Qz (W2.heap[g]? = some o) := Qz.mk (qo h hb)
def spec_Replay.l0 : Nat → List (S37) → Int → List (S66) → Int → Int → Int → Option ((List (S66)) × Int × Int × Int × Int)
 | 0, _, _, _, _, _, _ => none
 | k + 1, x1, x7, x111000, x111001, x111002, x111003 => if x7 < (x1.length : Int) then (if 0 ≤ x7 then ((spec_Apply.f k x111000 x111001 x111002 x111003 ((qq x1 x7).f0) ((qq x1 x7).f1) ((qq x1 x7).f2) ((qq x1 x7).f3) ((qq x1 x7).f4)).bind fun bt112 => (if bt112.2.2.2.2 = true then (spec_Replay.l0 k x1 (wrap64 (x7 + 1)) bt112.1 bt112.2.1 bt112.2.2.1 bt112.2.2.2.1) else (some (x111000, x111001, x111002, x111003, x7)))) else (none)) else (some (x111000, x111001, x111002, x111003, (x1.length : Int)))
def spec_Replay.f (k : Nat) (l0_0 : List (S66)) (a0_1 : Int) (a0_2 : Int) (a0_3 : Int) (l1 : List (S37)) : Option ((List (S66)) × Int × Int × Int × Int) := (spec_VersionOk.f k l0_0 a0_1 a0_2 a0_3).bind fun t103 => (if t103 = true then ((spec_l12Copy.f l0_0 a0_1 a0_2 a0_3).bind fun bt104 => (spec_Replay.l0 k l1 0 bt104.1 bt104.2.1 bt104.2.2.1 bt104.2.2.2)) else (some (([] : List (S66)), 0, 0, 0, (-1))))
def spec_Replay.T7 : Bool × List (List Nat × List Nat) := (true, [([], []), ([], []), ([], []), ([1, 2], [1, 2]), ([3], [3]), ([0, 4], [0, 4]), ([5], [5]), ([6], [6]), ([6], [6]), ([], []), ([9, 7, 5, 0, 1, 2, 3, 4, 5, 6, 7, 9], [7, 9]), ([8, 10, 0, 1, 2, 3, 4, 5, 6, 7, 8, 9, 10], [8])])
def spec_Replay.B7 : List Nat := [0, 0, 0, 6, 14, 31, 63, 127, 127, 0, 767, 2047]
theorem spec_Replay.tab7 : rtab .any (opsOf Try.f29 7) = spec_Replay.T7 := by kernel_rfl
theorem spec_Replay.bits7 : waitsOk spec_Replay.T7.2 spec_Replay.B7 = true := by kernel_rfl
set_option maxHeartbeats 8000000 in
set_option maxRecDepth 100000 in
theorem spec_Replay.calls (k : Nat) (A0_0 : Option Addr) (c0_0 : Nat) (l0_0 : List (S66)) (a0_1 : Int) (a0_2 : Int) (a0_3 : Int) (A1 : Option Addr) (c1 : Nat) (l1 : List (S37)) (r1 : List (S66)) (r2 : Int) (r3 : Int) (r4 : Int) (r5 : Int) (w : World) (hr0_0 : Kd.C k66 w A0_0 l0_0.length l0_0) (hc0_0 : l0_0.length ≤ c0_0) (hr1 : Kd.C k37 w A1 l1.length l1) (hc1 : l1.length ≤ c1) (h : spec_Replay.f k l0_0 a0_1 a0_2 a0_3 l1 = some (r1, r2, r3, r4, r5)) :
  Calls Try.prog 29 #[.agg #[.slice A0_0 l0_0.length c0_0, .int .i64 a0_1, .int .i64 a0_2, .int .i64 a0_3], .slice A1 l1.length c1] w fun e w' => ∃ v0_ : Value, e = .returned (.tuple #[.agg #[v0_, .int .i64 r2, .int .i64 r3, .int .i64 r4], .int .i64 r5]) ∧ Kd.R k66 66 w' w.heap.size (fun _ => True) v0_ r1 ∧ Below w.heap.size w w' := by
 have hu32 := Try.underlying32
 have hu37 := Try.underlying37
 have HR0_0 := Qz.mk hr0_0
 have HC0_0 := Qz.mk hc0_0
 clear hr0_0 hc0_0
 have HR1 := Qz.mk hr1
 have HC1 := Qz.mk hc1
 clear hr1 hc1
 have HB := Qz.mk (Below.refl w.heap.size w)
 have H : ((spec_VersionOk.f k l0_0 a0_1 a0_2 a0_3).bind fun t103 => (if t103 = true then ((spec_l12Copy.f l0_0 a0_1 a0_2 a0_3).bind fun bt104 => (spec_Replay.l0 k l1 0 bt104.1 bt104.2.1 bt104.2.2.1 bt104.2.2.2)) else (some (([] : List (S66)), 0, 0, 0, (-1))))) = some (r1, r2, r3, r4, r5) := h
 clear h
 replace H := Option.bind_eq_some_iff.mp H
 obtain ⟨t103, A30, H⟩ := H
 replace H : (if t103 = true then ((spec_l12Copy.f l0_0 a0_1 a0_2 a0_3).bind fun bt104 => (spec_Replay.l0 k l1 0 bt104.1 bt104.2.1 bt104.2.2.1 bt104.2.2.2)) else (some (([] : List (S66)), 0, 0, 0, (-1)))) = some (r1, r2, r3, r4, r5) := H
 have A3 := Qz.mk A30
 clear A30
 by_cases c4 : t103 = true
 ·subst c4
  have H1 : ((spec_l12Copy.f l0_0 a0_1 a0_2 a0_3).bind fun bt104 => (spec_Replay.l0 k l1 0 bt104.1 bt104.2.1 bt104.2.2.1 bt104.2.2.2)) = some (r1, r2, r3, r4, r5) := by rw [if_pos rfl] at H; exact H
  clear H
  have H := H1
  clear H1
  replace H := Option.bind_eq_some_iff.mp H
  obtain ⟨⟨t104, t107, t108, t109⟩, A50, H⟩ := H
  replace H : (spec_Replay.l0 k l1 0 t104 t107 t108 t109) = some (r1, r2, r3, r4, r5) := H
  have A5 := Qz.mk A50
  clear A50
  have H' := Qz.mk H
  clear H
  go_enter Try.func29, Try.ntmps29
  go_wp2_with (first | ((with_reducible refine qv (N := 2) rfl ?_); refine qt ?hg (N := 2) ?hd (cs := #[.slice A0_0 l0_0.length c0_0, .int .i64 a0_1, .int .i64 a0_2, .int .i64 a0_3]) (t := 32) ?hr ?_; (case hd => rfl); (case hg => rfl); (case hr => exact yq66); intro gb101 hg w6 hbox hb; have BK101 := Qz.mk (hbox); have GW101 := Qz.mk ((by rw [hg]; exact (qp yq65) : w.heap.size ≤ gb101)); have GE101 := GW101; replace HB := Qz.mk (qk yq65 hb); clear hb hbox hg) | ((with_reducible refine qv (N := 4) rfl ?_); refine qt ?hg (N := 4) ?hd (cs := #[.slice none 0 0, .int .i64 0, .int .i64 0, .int .i64 0]) (t := 32) ?hr ?_; (case hd => rfl); (case hg => rfl); (case hr => exact yq66); intro gb102 hg w7 hbox hb; have BK102 := Qz.mk (hbox); have GW102 := Qz.mk ((by rw [hg]; exact (qp yq63) : w.heap.size ≤ gb102)); have GE102 := GW102; replace HB := Qz.mk (qk yq63 hb); have NB101_102 := Qz.mk ((yq52 : gb101 ≠ gb102)); have NB102_101 := Qz.mk ((yq53 : gb102 ≠ gb101)); replace BK101 := bkbf29 BK101 yq45 hb; clear hb hbox hg; have hnb8 := NB101_102.out; have hnc8 := NB102_101.out; have hcz9_0 := (qa BK101.out 0).trans rfl; have hcz9_1 := (qa BK101.out 1).trans rfl; have hcz9_2 := (qa BK101.out 2).trans rfl; have hcz9_3 := (qa BK101.out 3).trans rfl; have hfz9_0 := qc BK101.out 0; have hfz9_1 := qc BK101.out 1; have hfz9_2 := qc BK101.out 2; have hfz9_3 := qc BK101.out 3) | ((with_reducible refine qr (f := 26) rfl ?_); refine goesL_ (some 11) rfl rfl Try.func26 (by kernel_rfl) rfl #[.agg #[.slice A0_0 l0_0.length c0_0, .int .i64 a0_1, .int .i64 a0_2, .int .i64 a0_3]] rfl yq51 ?_; (with_reducible refine (spec_VersionOk.calls k _ _ l0_0 a0_1 a0_2 a0_3 true _ ?side1 ?side2 A3.out).mono ?_); (case side1 => exact yq64); (case side2 => exact HC0_0.out); rintro e w10 ⟨rfl, hb⟩; refine ⟨_, rfl, ?_⟩; replace BK101 := bkbf29 BK101 yq45 hb; replace BK102 := bkbf29 BK102 yq46 hb; replace HB := Qz.mk (qk yq54 hb); (try clear hb); (try clear hk); have hcz11_0 := (qa BK101.out 0).trans rfl; have hcz11_1 := (qa BK101.out 1).trans rfl; have hcz11_2 := (qa BK101.out 2).trans rfl; have hcz11_3 := (qa BK101.out 3).trans rfl; have hfz11_0 := qc BK101.out 0; have hfz11_1 := qc BK101.out 1; have hfz11_2 := qc BK101.out 2; have hfz11_3 := qc BK101.out 3) | ((with_reducible refine qr (f := 68) rfl ?_); refine goesL_ (some 15) rfl rfl Try.func68 (by kernel_rfl) rfl #[.agg #[.slice A0_0 l0_0.length c0_0, .int .i64 a0_1, .int .i64 a0_2, .int .i64 a0_3]] rfl yq51 ?_; (with_reducible refine (spec_l12Copy.calls _ _ l0_0 a0_1 a0_2 a0_3 t104 t107 t108 t109 _ ?side1 ?side2 A5.out).mono ?_); (case side1 => exact yq64); (case side2 => exact HC0_0.out); rintro e w12 ⟨v105, rfl, ho0, hb⟩; refine ⟨_, rfl, ?_⟩; have HO106 := Qz.mk (Kd.R_lower ho0 (qp yq54)); replace BK101 := bkbf29 BK101 yq45 hb; replace BK102 := bkbf29 BK102 yq46 hb; replace HB := Qz.mk (qk yq54 hb); (try clear hb); (try clear hk); (try clear ho0)) | ((with_reducible refine qv (N := 6) rfl ?_); refine qt ?hg (N := 6) ?hd (cs := #[.slice none 0 0, .int .i64 0, .int .i64 0, .int .i64 0]) (t := 32) ?hr ?_; (case hd => rfl); (case hg => rfl); (case hr => exact yq66); intro gb110 hg w13 hbox hb; replace HO106 := Qz.mk (Kd.R_below (by (with_reducible repeat (first | apply Kd.R_alloc | apply Kd.R_drewN | apply Kd.R_drew)); exact HO106.out) hb); have BK110 := Qz.mk (hbox); have GW110 := Qz.mk ((by rw [hg]; exact (qp yq54) : w.heap.size ≤ gb110)); have GE110 := GW110; replace HB := Qz.mk (qk yq54 hb); have NB101_110 := Qz.mk ((yq52 : gb101 ≠ gb110)); have NB110_101 := Qz.mk ((yq53 : gb110 ≠ gb101)); replace BK101 := bkbf29 BK101 yq45 hb; have NB102_110 := Qz.mk ((by rw [hg]; exact Nat.ne_of_lt (qw (g := gb102) (o := .cells #[.slice none 0 0, .int .i64 0, .int .i64 0, .int .i64 0] 32 (0, 0)) yq46) : gb102 ≠ gb110)); have NB110_102 := Qz.mk ((by rw [hg]; exact Nat.ne_of_gt (qw (g := gb102) (o := .cells #[.slice none 0 0, .int .i64 0, .int .i64 0, .int .i64 0] 32 (0, 0)) yq46) : gb110 ≠ gb102)); replace BK102 := bkbf29 BK102 yq46 hb; clear hb hbox hg; obtain ⟨Ao14, co14, eo14⟩ := Kd.R_slice HO106.out; subst eo14; have hnb15 := NB110_101.out; have hnc15 := NB101_110.out; have hnb16 := NB110_102.out; have hnc16 := NB102_110.out; have hcz17_0 := (qa BK110.out 0).trans rfl; have hcz17_1 := (qa BK110.out 1).trans rfl; have hcz17_2 := (qa BK110.out 2).trans rfl; have hcz17_3 := (qa BK110.out 3).trans rfl; have hfz17_0 := qc BK110.out 0; have hfz17_1 := qc BK110.out 1; have hfz17_2 := qc BK110.out 2; have hfz17_3 := qc BK110.out 3))
  go_loopg [7] k (fun kq v7 w' => ∃ (x7_1 : Int) (x103001_1 : Int) (x103002_1 : Int) (x103003_1 : Int) (x111000_1 : List (S66)) (x111001_1 : Int) (x111002_1 : Int) (x111003_1 : Int) (u111000 : Value), v7 = .int .i64 x7_1 ∧ Qz (spec_Replay.l0 kq l1 x7_1 x111000_1 x111001_1 x111002_1 x111003_1 = some (r1, r2, r3, r4, r5)) ∧ Qz (kq ≤ k) ∧ Qz (Kd.R k66 66 w' w.heap.size (fun _ => True) u111000 x111000_1) ∧ Qz (w'.heap[gb101]? = some (.cells #[(.slice A0_0 l0_0.length c0_0), .int .i64 a0_1, .int .i64 a0_2, .int .i64 a0_3] 32 (0, 0))) ∧ Qz (w'.heap[gb102]? = some (.cells #[(.slice none 0 0), .int .i64 x103001_1, .int .i64 x103002_1, .int .i64 x103003_1] 32 (0, 0))) ∧ Qz (w'.heap[gb110]? = some (.cells #[u111000, .int .i64 x111001_1, .int .i64 x111002_1, .int .i64 x111003_1] 32 (0, 0))) ∧ Qz (Below w.heap.size w w'))
  case atStart => exact ⟨(0), (0), (0), (0), (t104), (t107), (t108), (t109), (.slice Ao14 t104.length co14), (by first | rfl | (simp; done) | (simp [*]; done)), H', ⟨Nat.le_refl _⟩, ⟨by (with_reducible repeat (first | apply Kd.R_alloc | apply Kd.R_drewN | apply Kd.R_drew)); exact Kd.R_mono (Kd.R_far (p := ⟨gb110, 3, none⟩) (Kd.R_far (p := ⟨gb110, 2, none⟩) (Kd.R_far (p := ⟨gb110, 1, none⟩) (Kd.R_far (p := ⟨gb110, 0, none⟩) (Kd.R_types HO106.out BK110.out (by decide)) (fun _ hk => hk.2) (.slice Ao14 t104.length co14)) (fun _ hk => hk.2) (.int .i64 t107)) (fun _ hk => hk.2) (.int .i64 t108)) (fun _ hk => hk.2) (.int .i64 t109)) (fun _ hk => trivial)⟩, ⟨by (with_reducible repeat (first | refine qg ?_ _ | refine qh ?_ | refine qf ?_ _)); refine qu ?_ NB101_110.out _; (with_reducible repeat (first | refine qg ?_ _ | refine qh ?_ | refine qf ?_ _)); refine qu ?_ NB101_110.out _; (with_reducible repeat (first | refine qg ?_ _ | refine qh ?_ | refine qf ?_ _)); refine qu ?_ NB101_110.out _; (with_reducible repeat (first | refine qg ?_ _ | refine qh ?_ | refine qf ?_ _)); refine qu ?_ NB101_110.out _; (with_reducible repeat (first | refine qg ?_ _ | refine qh ?_ | refine qf ?_ _)); exact BK101.out⟩, ⟨by (with_reducible repeat (first | refine qg ?_ _ | refine qh ?_ | refine qf ?_ _)); refine qu ?_ NB102_110.out _; (with_reducible repeat (first | refine qg ?_ _ | refine qh ?_ | refine qf ?_ _)); refine qu ?_ NB102_110.out _; (with_reducible repeat (first | refine qg ?_ _ | refine qh ?_ | refine qf ?_ _)); refine qu ?_ NB102_110.out _; (with_reducible repeat (first | refine qg ?_ _ | refine qh ?_ | refine qf ?_ _)); refine qu ?_ NB102_110.out _; (with_reducible repeat (first | refine qg ?_ _ | refine qh ?_ | refine qf ?_ _)); exact BK102.out⟩, ⟨by (with_reducible repeat (first | refine qg ?_ _ | refine qh ?_ | refine qf ?_ _)); refine qa1 (cs := #[.slice Ao14 t104.length co14, .int .i64 t107, .int .i64 t108, .int .i64 0]) ?_ 3 _ rfl; (with_reducible repeat (first | refine qg ?_ _ | refine qh ?_ | refine qf ?_ _)); refine qa1 (cs := #[.slice Ao14 t104.length co14, .int .i64 t107, .int .i64 0, .int .i64 0]) ?_ 2 _ rfl; (with_reducible repeat (first | refine qg ?_ _ | refine qh ?_ | refine qf ?_ _)); refine qa1 (cs := #[.slice Ao14 t104.length co14, .int .i64 0, .int .i64 0, .int .i64 0]) ?_ 1 _ rfl; (with_reducible repeat (first | refine qg ?_ _ | refine qh ?_ | refine qf ?_ _)); refine qa1 (cs := #[.slice none 0 0, .int .i64 0, .int .i64 0, .int .i64 0]) ?_ 0 _ rfl; (with_reducible repeat (first | refine qg ?_ _ | refine qh ?_ | refine qf ?_ _)); exact BK110.out⟩, ⟨by repeat (first | (with_reducible first | exact HB.out | apply qd | apply qb | apply qe | refine qi ?_ GE101.out | refine qi ?_ GE102.out | refine qi ?_ GE110.out) | exact HB.out)⟩⟩
  case round =>
   clear H'
   (try clear c1);(try clear c2);(try clear p2);(try clear c4);(try clear c6);(try clear c8);(try clear c15);(try clear c16);(try clear hcz11_0);(try clear hcz11_1);(try clear hcz11_2);(try clear hcz11_3);(try clear hcz17_0);(try clear hcz17_1);(try clear hcz17_2);(try clear hcz17_3);(try clear hcz9_0);(try clear hcz9_1);(try clear hcz9_2);(try clear hcz9_3);(try clear hfz11_0);(try clear hfz11_1);(try clear hfz11_2);(try clear hfz11_3);(try clear hfz17_0);(try clear hfz17_1);(try clear hfz17_2);(try clear hfz17_3);(try clear hfz9_0);(try clear hfz9_1);(try clear hfz9_2);(try clear hfz9_3)
   obtain ⟨x7_1, x103001_1, x103002_1, x103003_1, x111000_1, x111001_1, x111002_1, x111003_1, u111000, rfl, HA, HK1, HO_111000, BK101, BK102, BK110, HB⟩ := hrel
   cases gk with
   | zero => exact absurd HA.out (by simp [spec_Replay.l0])
   | succ k1 =>
    have H := HA.out
    clear HA
    simp only [spec_Replay.l0] at H
    by_cases c18 : x7_1 < (l1.length : Int)
    ·rw [if_pos c18] at H
     have c18b0 : decide (x7_1 < (l1.length : Int)) = true := decide_eq_true c18
     clear c18
     by_cases c19 : 0 ≤ x7_1
     ·rw [if_pos c19] at H
      have c19b0 : decide (0 ≤ x7_1) = true := decide_eq_true c19
      clear c19
      replace H := Option.bind_eq_some_iff.mp H
      obtain ⟨⟨t112, t115, t116, t117, t118⟩, A200, H⟩ := H
      replace H : (if t118 = true then (spec_Replay.l0 k1 l1 (wrap64 (x7_1 + 1)) t112 t115 t116 t117) else (some (x111000_1, x111001_1, x111002_1, x111003_1, x7_1))) = some (r1, r2, r3, r4, r5) := H
      have A20 := Qz.mk A200
      clear A200
      by_cases c21 : t118 = true
      ·subst c21
       have H1 : (spec_Replay.l0 k1 l1 (wrap64 (x7_1 + 1)) t112 t115 t116 t117) = some (r1, r2, r3, r4, r5) := by rw [if_pos rfl] at H; exact H
       clear H
       have H := H1
       clear H1
       have H' := Qz.mk H
       clear H
       obtain ⟨Ao22, co22, eo22⟩ := Kd.R_slice HO_111000.out
       subst eo22
       try go_wp2
       replace HO_111000 := Qz.mk (Kd.R_drew HO_111000.out)
       replace BK101 := Qz.mk (qh BK101.out)
       replace BK102 := Qz.mk (qh BK102.out)
       replace BK110 := Qz.mk (qh BK110.out)
       replace HB := Qz.mk (qe HB.out)
       have p111 : 0 ≤ (x7_1 : Int) := of_decide_eq_true (by first | (with_reducible assumption) | assumption)
       have q111 : x7_1 < (l1.length : Int) := of_decide_eq_true (by first | (with_reducible assumption) | assumption)
       obtain ⟨ad111, A111_0, c111_0, A111_1, c111_1, e111, hx111_0, hx111_1, hx111_2, hx111_3, hx111_4, hl111_0, hi111_0, hl111_1, hi111_1⟩ := at_T37 HR1.out x7_1 p111 q111
       have hw111_4 := hx111_4
       have hw111_3 := hx111_3
       have hw111_2 := hx111_2
       have hw111_1 := hx111_1
       have hw111_0 := hx111_0
       cases e111
       replace hx111_0 := (HB.out.cell (World.block_lt_of_cell? w _ hx111_0)).trans hx111_0
       replace hx111_1 := (HB.out.cell (World.block_lt_of_cell? w _ hx111_1)).trans hx111_1
       replace hx111_2 := (HB.out.cell (World.block_lt_of_cell? w _ hx111_2)).trans hx111_2
       replace hx111_3 := (HB.out.cell (World.block_lt_of_cell? w _ hx111_3)).trans hx111_3
       replace hx111_4 := (HB.out.cell (World.block_lt_of_cell? w _ hx111_4)).trans hx111_4
       have HR111_0 := Qz.mk hi111_0
       have HC111_0 := Qz.mk hl111_0
       clear hi111_0 hl111_0
       have HR111_1 := Qz.mk hi111_1
       have HC111_1 := Qz.mk hl111_1
       clear hi111_1 hl111_1
       replace p111 := eq_true p111
       replace q111 := eq_true q111
       refine start_ (n := 12) (S := fun w' => w'.cell? ⟨gb110, 0, none⟩ = some (.slice Ao22 x111000_1.length co22) ∧ w'.cell? ⟨gb110, 1, none⟩ = some (.int .i64 x111001_1) ∧ w'.cell? ⟨gb110, 2, none⟩ = some (.int .i64 x111002_1) ∧ w'.cell? ⟨gb110, 3, none⟩ = some (.int .i64 x111003_1) ∧ w'.cell? (ad111.add ((x7_1).toNat * 5)) = some (.slice A111_0 ((qq l1 x7_1).f0).length c111_0) ∧ w'.cell? ⟨(ad111.add ((x7_1).toNat * 5)).block, (ad111.add ((x7_1).toNat * 5)).off + 1, none⟩ = some (.slice A111_1 ((qq l1 x7_1).f1).length c111_1) ∧ w'.cell? ⟨(ad111.add ((x7_1).toNat * 5)).block, (ad111.add ((x7_1).toNat * 5)).off + 2, none⟩ = some (.int .i64 ((qq l1 x7_1).f2)) ∧ w'.cell? ⟨(ad111.add ((x7_1).toNat * 5)).block, (ad111.add ((x7_1).toNat * 5)).off + 3, none⟩ = some (.int .i64 ((qq l1 x7_1).f3)) ∧ w'.cell? ⟨(ad111.add ((x7_1).toNat * 5)).block, (ad111.add ((x7_1).toNat * 5)).off + 4, none⟩ = some (.int .i64 ((qq l1 x7_1).f4))) (ds := []) bq0 (by kernel_rfl) rfl rfl ⟨(qa BK110.out 0).trans rfl, (qa BK110.out 1).trans rfl, (qa BK110.out 2).trans rfl, (qa BK110.out 3).trans rfl, ((HB.out.cell (World.block_lt_of_cell? w _ hw111_0)).trans hw111_0), ((HB.out.cell (World.block_lt_of_cell? w _ hw111_1)).trans hw111_1), ((HB.out.cell (World.block_lt_of_cell? w _ hw111_2)).trans hw111_2), ((HB.out.cell (World.block_lt_of_cell? w _ hw111_3)).trans hw111_3), ((HB.out.cell (World.block_lt_of_cell? w _ hw111_4)).trans hw111_4)⟩ (fun hHeld => ?_); refine with_tabW spec_Replay.tab7 spec_Replay.bits7 (fun HT_ HW_ => ?_)
       generalize wr.drew = w23 at HO_111000 BK101 BK102 BK110 HB HR111_0 HR111_1 hx111_0 hx111_1 hx111_2 hx111_3 hx111_4 hHeld ⊢
       refine pure_ (i := 1) (N := some 24) (v := ?_) (a' := ?_) bq3 rfl rfl (any_of HT_.out (by kernel_rfl)) (fun _ _ _ h => h) (Or.inl ⟨by rfl, ?_⟩) ?_ ?_
       rotate_left
       ·intro w'
        go_simp
        with_reducible rfl
       rotate_left
       ·simp only [Act.put, sq1, sq2, sq3, i64_w, i32_w]
        rfl
       refine pure_ (i := 2) (N := some 25) (v := ?_) (a' := ?_) bq4 rfl rfl (any_of HT_.out (by kernel_rfl)) (fun _ _ _ h => h) (Or.inl ⟨by rfl, ?_⟩) ?_ ?_
       rotate_left
       ·intro w'
        go_simp
        with_reducible rfl
       rotate_left
       ·simp only [Act.put, sq1, sq2, sq3, i64_w, i32_w]
        rfl
       refine pure_ (i := 3) (N := some 26) (v := ?_) (a' := ?_) bq5 rfl rfl (any_of HT_.out (by kernel_rfl)) (fun _ _ _ h => h) (Or.inl ⟨by rfl, ?_⟩) ?_ ?_
       rotate_left
       ·intro w'
        go_simp
        with_reducible rfl
       rotate_left
       ·simp only [Act.put, sq1, sq2, sq3, i64_w, i32_w]
        rfl
       refine take_ (i := 0) (N := some 23) (v := ?_) (a' := ?_) bq15 rfl rfl (take_ofW HT_.out HW_.out (by kernel_rfl)) (fun _ _ _ h => h) (Or.inl ⟨by rfl, ?_⟩) hHeld ?_ ?_
       rotate_left
       ·rintro w' ⟨s0, s1, s2, s3, s4, s5, s6, s7, s8⟩
        go_simp
        with_reducible rfl
       rotate_left
       ·simp only [Act.put, sq1, sq2, sq3, i64_w, i32_w]
        rfl
       refine take_ (i := 4) (N := some 27) (v := ?_) (a' := ?_) bq18 rfl rfl (take_ofW HT_.out HW_.out (by kernel_rfl)) (fun _ _ _ h => h) (Or.inl ⟨by rfl, ?_⟩) hHeld ?_ ?_
       rotate_left
       ·rintro w' ⟨s0, s1, s2, s3, s4, s5, s6, s7, s8⟩
        go_simp
        with_reducible rfl
       rotate_left
       ·simp only [Act.put, sq1, sq2, sq3, i64_w, i32_w]
        rfl
       refine join_ (σ := Value × Nat) 2 bq32 (fun s_ => [(28, .tuple #[.agg #[s_.1, .int .i64 t115, .int .i64 t116, .int .i64 t117], .bool true]), (8, .pointer (some ⟨s_.2, 0, none⟩)), (22, .tuple #[.agg #[s_.1, .int .i64 t115, .int .i64 t116, .int .i64 t117], .bool true]), (29, .agg #[s_.1, .int .i64 t115, .int .i64 t116, .int .i64 t117]), (30, .bool true)]) (fun s_ w' => (w'.cell? ⟨gb110, 0, none⟩ = some (.slice Ao22 x111000_1.length co22) ∧ w'.cell? ⟨gb110, 1, none⟩ = some (.int .i64 x111001_1) ∧ w'.cell? ⟨gb110, 2, none⟩ = some (.int .i64 x111002_1) ∧ w'.cell? ⟨gb110, 3, none⟩ = some (.int .i64 x111003_1) ∧ w'.cell? (ad111.add ((x7_1).toNat * 5)) = some (.slice A111_0 ((qq l1 x7_1).f0).length c111_0) ∧ w'.cell? ⟨(ad111.add ((x7_1).toNat * 5)).block, (ad111.add ((x7_1).toNat * 5)).off + 1, none⟩ = some (.slice A111_1 ((qq l1 x7_1).f1).length c111_1) ∧ w'.cell? ⟨(ad111.add ((x7_1).toNat * 5)).block, (ad111.add ((x7_1).toNat * 5)).off + 2, none⟩ = some (.int .i64 ((qq l1 x7_1).f2)) ∧ w'.cell? ⟨(ad111.add ((x7_1).toNat * 5)).block, (ad111.add ((x7_1).toNat * 5)).off + 3, none⟩ = some (.int .i64 ((qq l1 x7_1).f3)) ∧ w'.cell? ⟨(ad111.add ((x7_1).toNat * 5)).block, (ad111.add ((x7_1).toNat * 5)).off + 4, none⟩ = some (.int .i64 ((qq l1 x7_1).f4))) ∧ (Kd.R k66 66 w' w.heap.size (fun k_ => some k_ ≠ (.slice Ao22 x111000_1.length co22 : Value).ownBlock) s_.1 t112) ∧ (Kd.R k66 66 w' w.heap.size (fun k_ => some k_ ≠ (s_.1 : Value).ownBlock) (.slice Ao22 x111000_1.length co22) x111000_1) ∧ (w'.heap[gb101]? = some (.cells #[.slice A0_0 l0_0.length c0_0, .int .i64 a0_1, .int .i64 a0_2, .int .i64 a0_3] 32 (0, 0))) ∧ (w'.heap[gb102]? = some (.cells #[.slice none 0 0, .int .i64 x103001_1, .int .i64 x103002_1, .int .i64 x103003_1] 32 (0, 0))) ∧ (w'.heap[gb110]? = some (.cells #[.slice Ao22 x111000_1.length co22, .int .i64 x111001_1, .int .i64 x111002_1, .int .i64 x111003_1] 32 (0, 0))) ∧ (w'.heap[s_.2]? = some (.cells #[.slice none 0 0, .int .i64 0, .int .i64 0, .int .i64 0] 32 (0, 0))) ∧ (w.heap.size ≤ s_.2) ∧ (w.heap.size ≤ s_.2) ∧ (gb101 ≠ s_.2) ∧ (s_.2 ≠ gb101) ∧ (gb102 ≠ s_.2) ∧ (s_.2 ≠ gb102) ∧ (gb110 ≠ s_.2) ∧ (s_.2 ≠ gb110) ∧ (Below w.heap.size w w')) ?_ ?_
       rotate_left
       ·intro hCont
        refine two_ (i := 5) (j := 9) (Ni := some 28) (Nj := some 8) bq20 bq19 rfl rfl rfl rfl (two_of HT_.out (by kernel_rfl)) (by decide) (by decide) (fun K hK => ?_) (fun K hK => ?_)
        ·skip
         refine goes_ Try.func17 (by kernel_rfl) rfl #[.agg #[.slice Ao22 x111000_1.length co22, .int .i64 x111001_1, .int .i64 x111002_1, .int .i64 x111003_1], .agg #[.slice A111_0 ((qq l1 x7_1).f0).length c111_0, .slice A111_1 ((qq l1 x7_1).f1).length c111_1, .int .i64 ((qq l1 x7_1).f2), .int .i64 ((qq l1 x7_1).f3), .int .i64 ((qq l1 x7_1).f4)]] (by rfl) rfl rfl yq51 ?_
         with_reducible refine (spec_Apply.calls k1 _ _ x111000_1 x111001_1 x111002_1 x111003_1 _ _ ((qq l1 x7_1).f0) _ _ ((qq l1 x7_1).f1) ((qq l1 x7_1).f2) ((qq l1 x7_1).f3) ((qq l1 x7_1).f4) t112 t115 t116 t117 true _ ?side1 ?side2 ?side3 ?side4 ?side5 ?side6 A20.out).mono ?_
         (case side1 => exact yq55)
         (case side2 => exact (Kd.R_reads' HO_111000.out).2.1)
         (case side3 => exact yq57)
         (case side4 => exact HC111_0.out)
         (case side5 => exact yq56)
         (case side6 => exact HC111_1.out)
         rintro e w24 ⟨v113, rfl, ho0, hb⟩
         refine ⟨_, rfl, ?_⟩
         have HO114 := Qz.mk (Kd.R_lower (Kd.R_new' ho0 (Kd.R_lt yq50)) (qp yq47))
         replace HO_111000 := Qz.mk (Kd.R_elder' yq50 (Kd.R_base ho0) hb)
         replace BK101 := bkbf29 BK101 yq45 hb
         replace BK102 := bkbf29 BK102 yq46 hb
         replace BK110 := bkbf29 BK110 yq48 hb
         replace HB := Qz.mk (qk yq47 hb)
         (try clear hb)
         (try clear hk)
         (try clear ho0)
         refine hK.out _ _ ⟨(qa BK110.out 0).trans rfl, (qa BK110.out 1).trans rfl, (qa BK110.out 2).trans rfl, (qa BK110.out 3).trans rfl, ((HB.out.cell (World.block_lt_of_cell? w _ hw111_0)).trans hw111_0), ((HB.out.cell (World.block_lt_of_cell? w _ hw111_1)).trans hw111_1), ((HB.out.cell (World.block_lt_of_cell? w _ hw111_2)).trans hw111_2), ((HB.out.cell (World.block_lt_of_cell? w _ hw111_3)).trans hw111_3), ((HB.out.cell (World.block_lt_of_cell? w _ hw111_4)).trans hw111_4)⟩ (fun hHeld => ?_)
         clear hK K
         refine norm_ (a' := ?_) ?_ ?_
         rotate_left
         ·show Act.put _ (some 28) _ = _
          simp only [Act.put, sq1, sq2, sq3, i64_w, i32_w]
          rfl
         refine pure_ (i := 6) (N := some 22) (v := ?_) (a' := ?_) bq23 rfl rfl (any_of HT_.out (by kernel_rfl)) (fun _ _ _ h => h) (Or.inl ⟨by rfl, ?_⟩) ?_ ?_
         rotate_left
         ·intro w'
          go_simp
          with_reducible rfl
         rotate_left
         ·simp only [Act.put, sq1, sq2, sq3, i64_w, i32_w]
          rfl
         refine pure_ (i := 7) (N := some 29) (v := ?_) (a' := ?_) bq27 rfl rfl (any_of HT_.out (by kernel_rfl)) (fun _ _ _ h => h) (Or.inl ⟨by rfl, ?_⟩) ?_ ?_
         rotate_left
         ·intro w'
          go_simp
          with_reducible rfl
         rotate_left
         ·simp only [Act.put, sq1, sq2, sq3, i64_w, i32_w]
          rfl
         refine pure_ (i := 8) (N := some 30) (v := ?_) (a' := ?_) bq30 rfl rfl (any_of HT_.out (by kernel_rfl)) (fun _ _ _ h => h) (Or.inl ⟨by rfl, ?_⟩) ?_ ?_
         rotate_left
         ·intro w'
          go_simp
          with_reducible rfl
         rotate_left
         ·simp only [Act.put, sq1, sq2, sq3, i64_w, i32_w]
          rfl
         refine one_ (i := 9) (N := some 8) bq32 rfl rfl (one_of HT_.out (by kernel_rfl)) (by decide) (fun K hK => ?_)
         refine box_step ?hg (N := 8) ?hd (cs := #[.slice none 0 0, .int .i64 0, .int .i64 0, .int .i64 0]) (t := 32) ?hr ?_; (case hd => rfl); (case hg => rfl); (case hr => exact yq66)
         intro gb119 hg w25 hbox hb
         replace HO_111000 := Qz.mk (Kd.R_below yq50 hb)
         replace HO114 := Qz.mk (Kd.R_below (by (with_reducible repeat (first | apply Kd.R_alloc | apply Kd.R_drewN | apply Kd.R_drew)); exact HO114.out) hb)
         have BK119 := Qz.mk (hbox)
         have GW119 := Qz.mk ((by rw [hg]; exact (qp yq47) : w.heap.size ≤ gb119))
         have GE119 := GW119
         replace HB := Qz.mk (qk yq47 hb)
         have NB101_119 := Qz.mk ((yq52 : gb101 ≠ gb119))
         have NB119_101 := Qz.mk ((yq53 : gb119 ≠ gb101))
         replace BK101 := bkbf29 BK101 yq45 hb
         have NB102_119 := Qz.mk ((yq59 : gb102 ≠ gb119))
         have NB119_102 := Qz.mk ((yq60 : gb119 ≠ gb102))
         replace BK102 := bkbf29 BK102 yq46 hb
         have NB110_119 := Qz.mk ((by rw [hg]; exact Nat.ne_of_lt (qw (g := gb110) (o := .cells #[.slice Ao22 x111000_1.length co22, .int .i64 x111001_1, .int .i64 x111002_1, .int .i64 x111003_1] 32 (0, 0)) yq48) : gb110 ≠ gb119))
         have NB119_110 := Qz.mk ((by rw [hg]; exact Nat.ne_of_gt (qw (g := gb110) (o := .cells #[.slice Ao22 x111000_1.length co22, .int .i64 x111001_1, .int .i64 x111002_1, .int .i64 x111003_1] 32 (0, 0)) yq48) : gb119 ≠ gb110))
         replace BK110 := bkbf29 BK110 yq48 hb
         clear hb hbox hg
         refine hK.out _ _ ⟨(qa BK110.out 0).trans rfl, (qa BK110.out 1).trans rfl, (qa BK110.out 2).trans rfl, (qa BK110.out 3).trans rfl, ((HB.out.cell (World.block_lt_of_cell? w _ hw111_0)).trans hw111_0), ((HB.out.cell (World.block_lt_of_cell? w _ hw111_1)).trans hw111_1), ((HB.out.cell (World.block_lt_of_cell? w _ hw111_2)).trans hw111_2), ((HB.out.cell (World.block_lt_of_cell? w _ hw111_3)).trans hw111_3), ((HB.out.cell (World.block_lt_of_cell? w _ hw111_4)).trans hw111_4)⟩ (fun hHeld => ?_)
         clear hK K
         refine norm_ (a' := ?_) ?_ ?_
         rotate_left
         ·show Act.put _ (some 8) _ = _
          simp only [Act.put, sq1, sq2, sq3, i64_w, i32_w]
          rfl
         exact norm_ (by simp only [putAll, Act.put, sq1, sq2, sq3]) (hCont (v113, gb119) _ ⟨hHeld, yq62, yq61, yq45, yq46, yq48, yq58, GW119.out, GE119.out, NB101_119.out, NB119_101.out, NB102_119.out, NB119_102.out, NB110_119.out, NB119_110.out, yq49⟩)
        ·skip
         refine box_step ?hg (N := 8) ?hd (cs := #[.slice none 0 0, .int .i64 0, .int .i64 0, .int .i64 0]) (t := 32) ?hr ?_; (case hd => rfl); (case hg => rfl); (case hr => exact yq66)
         intro gb119 hg w24 hbox hb
         replace HO_111000 := Qz.mk (Kd.R_below yq50 hb)
         have BK119 := Qz.mk (hbox)
         have GW119 := Qz.mk ((by rw [hg]; exact (qp yq47) : w.heap.size ≤ gb119))
         have GE119 := GW119
         replace HB := Qz.mk (qk yq47 hb)
         have NB101_119 := Qz.mk ((yq52 : gb101 ≠ gb119))
         have NB119_101 := Qz.mk ((yq53 : gb119 ≠ gb101))
         replace BK101 := bkbf29 BK101 yq45 hb
         have NB102_119 := Qz.mk ((yq59 : gb102 ≠ gb119))
         have NB119_102 := Qz.mk ((yq60 : gb119 ≠ gb102))
         replace BK102 := bkbf29 BK102 yq46 hb
         have NB110_119 := Qz.mk ((by rw [hg]; exact Nat.ne_of_lt (qw (g := gb110) (o := .cells #[.slice Ao22 x111000_1.length co22, .int .i64 x111001_1, .int .i64 x111002_1, .int .i64 x111003_1] 32 (0, 0)) yq48) : gb110 ≠ gb119))
         have NB119_110 := Qz.mk ((by rw [hg]; exact Nat.ne_of_gt (qw (g := gb110) (o := .cells #[.slice Ao22 x111000_1.length co22, .int .i64 x111001_1, .int .i64 x111002_1, .int .i64 x111003_1] 32 (0, 0)) yq48) : gb119 ≠ gb110))
         replace BK110 := bkbf29 BK110 yq48 hb
         clear hb hbox hg
         refine hK.out _ _ ⟨(qa BK110.out 0).trans rfl, (qa BK110.out 1).trans rfl, (qa BK110.out 2).trans rfl, (qa BK110.out 3).trans rfl, ((HB.out.cell (World.block_lt_of_cell? w _ hw111_0)).trans hw111_0), ((HB.out.cell (World.block_lt_of_cell? w _ hw111_1)).trans hw111_1), ((HB.out.cell (World.block_lt_of_cell? w _ hw111_2)).trans hw111_2), ((HB.out.cell (World.block_lt_of_cell? w _ hw111_3)).trans hw111_3), ((HB.out.cell (World.block_lt_of_cell? w _ hw111_4)).trans hw111_4)⟩ (fun hHeld => ?_)
         clear hK K
         refine norm_ (a' := ?_) ?_ ?_
         rotate_left
         ·show Act.put _ (some 8) _ = _
          simp only [Act.put, sq1, sq2, sq3, i64_w, i32_w]
          rfl
         refine one_ (i := 5) (N := some 28) bq21 rfl rfl (one_of HT_.out (by kernel_rfl)) (by decide) (fun K hK => ?_)
         refine goes_ Try.func17 (by kernel_rfl) rfl #[.agg #[.slice Ao22 x111000_1.length co22, .int .i64 x111001_1, .int .i64 x111002_1, .int .i64 x111003_1], .agg #[.slice A111_0 ((qq l1 x7_1).f0).length c111_0, .slice A111_1 ((qq l1 x7_1).f1).length c111_1, .int .i64 ((qq l1 x7_1).f2), .int .i64 ((qq l1 x7_1).f3), .int .i64 ((qq l1 x7_1).f4)]] (by rfl) rfl rfl yq51 ?_
         with_reducible refine (spec_Apply.calls k1 _ _ x111000_1 x111001_1 x111002_1 x111003_1 _ _ ((qq l1 x7_1).f0) _ _ ((qq l1 x7_1).f1) ((qq l1 x7_1).f2) ((qq l1 x7_1).f3) ((qq l1 x7_1).f4) t112 t115 t116 t117 true _ ?side1 ?side2 ?side3 ?side4 ?side5 ?side6 A20.out).mono ?_
         (case side1 => exact yq55)
         (case side2 => exact (Kd.R_reads' HO_111000.out).2.1)
         (case side3 => exact yq57)
         (case side4 => exact HC111_0.out)
         (case side5 => exact yq56)
         (case side6 => exact HC111_1.out)
         rintro e w25 ⟨v113, rfl, ho0, hb⟩
         refine ⟨_, rfl, ?_⟩
         have HO114 := Qz.mk (Kd.R_lower (Kd.R_new' ho0 (Kd.R_lt yq50)) (qp yq49))
         replace HO_111000 := Qz.mk (Kd.R_elder' yq50 (Kd.R_base ho0) hb)
         replace BK101 := bkbf29 BK101 yq45 hb
         replace BK102 := bkbf29 BK102 yq46 hb
         replace BK110 := bkbf29 BK110 yq48 hb
         replace BK119 := bkbf29 BK119 yq58 hb
         replace HB := Qz.mk (qk yq49 hb)
         (try clear hb)
         (try clear hk)
         (try clear ho0)
         refine hK.out _ _ ⟨(qa BK110.out 0).trans rfl, (qa BK110.out 1).trans rfl, (qa BK110.out 2).trans rfl, (qa BK110.out 3).trans rfl, ((HB.out.cell (World.block_lt_of_cell? w _ hw111_0)).trans hw111_0), ((HB.out.cell (World.block_lt_of_cell? w _ hw111_1)).trans hw111_1), ((HB.out.cell (World.block_lt_of_cell? w _ hw111_2)).trans hw111_2), ((HB.out.cell (World.block_lt_of_cell? w _ hw111_3)).trans hw111_3), ((HB.out.cell (World.block_lt_of_cell? w _ hw111_4)).trans hw111_4)⟩ (fun hHeld => ?_)
         clear hK K
         refine norm_ (a' := ?_) ?_ ?_
         rotate_left
         ·show Act.put _ (some 28) _ = _
          simp only [Act.put, sq1, sq2, sq3, i64_w, i32_w]
          rfl
         refine pure_ (i := 6) (N := some 22) (v := ?_) (a' := ?_) bq25 rfl rfl (any_of HT_.out (by kernel_rfl)) (fun _ _ _ h => h) (Or.inl ⟨by rfl, ?_⟩) ?_ ?_
         rotate_left
         ·intro w'
          go_simp
          with_reducible rfl
         rotate_left
         ·simp only [Act.put, sq1, sq2, sq3, i64_w, i32_w]
          rfl
         refine pure_ (i := 7) (N := some 29) (v := ?_) (a' := ?_) bq29 rfl rfl (any_of HT_.out (by kernel_rfl)) (fun _ _ _ h => h) (Or.inl ⟨by rfl, ?_⟩) ?_ ?_
         rotate_left
         ·intro w'
          go_simp
          with_reducible rfl
         rotate_left
         ·simp only [Act.put, sq1, sq2, sq3, i64_w, i32_w]
          rfl
         refine pure_ (i := 8) (N := some 30) (v := ?_) (a' := ?_) bq32 rfl rfl (any_of HT_.out (by kernel_rfl)) (fun _ _ _ h => h) (Or.inl ⟨by rfl, ?_⟩) ?_ ?_
         rotate_left
         ·intro w'
          go_simp
          with_reducible rfl
         rotate_left
         ·simp only [Act.put, sq1, sq2, sq3, i64_w, i32_w]
          rfl
         exact norm_ (by simp only [putAll, Act.put, sq1, sq2, sq3]) (hCont (v113, gb119) _ ⟨hHeld, yq62, yq61, yq45, yq46, yq48, yq58, GW119.out, GE119.out, NB101_119.out, NB119_101.out, NB102_119.out, NB119_102.out, NB110_119.out, NB119_110.out, yq49⟩)
       rintro ⟨v113, gb119⟩ w26 ⟨hS_, h0_, h1_, h2_, h3_, h4_, h5_, h6_, h7_, h8_, h9_, h10_, h11_, h12_, h13_, h14_⟩
       have n0_ : Qz (Kd.R k66 66 w26 w.heap.size (fun k_ => some k_ ≠ (.slice Ao22 x111000_1.length co22 : Value).ownBlock) v113 t112) := ⟨h0_⟩
       have n1_ : Qz (Kd.R k66 66 w26 w.heap.size (fun k_ => some k_ ≠ (v113 : Value).ownBlock) (.slice Ao22 x111000_1.length co22) x111000_1) := ⟨h1_⟩
       have n2_ : Qz (w26.heap[gb101]? = some (.cells #[.slice A0_0 l0_0.length c0_0, .int .i64 a0_1, .int .i64 a0_2, .int .i64 a0_3] 32 (0, 0))) := ⟨h2_⟩
       have n3_ : Qz (w26.heap[gb102]? = some (.cells #[.slice none 0 0, .int .i64 x103001_1, .int .i64 x103002_1, .int .i64 x103003_1] 32 (0, 0))) := ⟨h3_⟩
       have n4_ : Qz (w26.heap[gb110]? = some (.cells #[.slice Ao22 x111000_1.length co22, .int .i64 x111001_1, .int .i64 x111002_1, .int .i64 x111003_1] 32 (0, 0))) := ⟨h4_⟩
       have n5_ : Qz (w26.heap[gb119]? = some (.cells #[.slice none 0 0, .int .i64 0, .int .i64 0, .int .i64 0] 32 (0, 0))) := ⟨h5_⟩
       have n6_ : Qz (w.heap.size ≤ gb119) := ⟨h6_⟩
       have n7_ : Qz (w.heap.size ≤ gb119) := ⟨h7_⟩
       have n8_ : Qz (gb101 ≠ gb119) := ⟨h8_⟩
       have n9_ : Qz (gb119 ≠ gb101) := ⟨h9_⟩
       have n10_ : Qz (gb102 ≠ gb119) := ⟨h10_⟩
       have n11_ : Qz (gb119 ≠ gb102) := ⟨h11_⟩
       have n12_ : Qz (gb110 ≠ gb119) := ⟨h12_⟩
       have n13_ : Qz (gb119 ≠ gb110) := ⟨h13_⟩
       have n14_ : Qz (Below w.heap.size w w26) := ⟨h14_⟩
       clear HO_111000
       clear BK101
       clear BK102
       clear BK110
       clear HB
       clear h0_ h1_ h2_ h3_ h4_ h5_ h6_ h7_ h8_ h9_ h10_ h11_ h12_ h13_ h14_
       have HO114 := n0_
       have HO_111000 := n1_
       have BK101 := n2_
       have BK102 := n3_
       have BK110 := n4_
       have BK119 := n5_
       have GW119 := n6_
       have GE119 := n7_
       have NB101_119 := n8_
       have NB119_101 := n9_
       have NB102_119 := n10_
       have NB119_102 := n11_
       have NB110_119 := n12_
       have NB119_110 := n13_
       have HB := n14_
       clear n0_ n1_ n2_ n3_ n4_ n5_ n6_ n7_ n8_ n9_ n10_ n11_ n12_ n13_ n14_
       have hHeld : w26.cell? ⟨gb110, 0, none⟩ = some (.slice Ao22 x111000_1.length co22) ∧ w26.cell? ⟨gb110, 1, none⟩ = some (.int .i64 x111001_1) ∧ w26.cell? ⟨gb110, 2, none⟩ = some (.int .i64 x111002_1) ∧ w26.cell? ⟨gb110, 3, none⟩ = some (.int .i64 x111003_1) ∧ w26.cell? (ad111.add ((x7_1).toNat * 5)) = some (.slice A111_0 ((qq l1 x7_1).f0).length c111_0) ∧ w26.cell? ⟨(ad111.add ((x7_1).toNat * 5)).block, (ad111.add ((x7_1).toNat * 5)).off + 1, none⟩ = some (.slice A111_1 ((qq l1 x7_1).f1).length c111_1) ∧ w26.cell? ⟨(ad111.add ((x7_1).toNat * 5)).block, (ad111.add ((x7_1).toNat * 5)).off + 2, none⟩ = some (.int .i64 ((qq l1 x7_1).f2)) ∧ w26.cell? ⟨(ad111.add ((x7_1).toNat * 5)).block, (ad111.add ((x7_1).toNat * 5)).off + 3, none⟩ = some (.int .i64 ((qq l1 x7_1).f3)) ∧ w26.cell? ⟨(ad111.add ((x7_1).toNat * 5)).block, (ad111.add ((x7_1).toNat * 5)).off + 4, none⟩ = some (.int .i64 ((qq l1 x7_1).f4)) := hS_
       obtain ⟨Ao27, co27, eo27⟩ := Kd.R_slice HO114.out
       (first | subst eo27 | (injection eo27 with f1_ f2_ f3_; have f4_ := f1_.symm; have f5_ := f3_.symm; clear f1_ f2_ f3_; subst f4_; subst f5_))
       refine norm_ (a' := ?_) ?_ ?_
       rotate_left
       ·simp only [putAll, Act.put, sq1, sq2, sq3]
        rfl
       refine one_ (i := 10) (N := none) bq33 rfl rfl (one_of HT_.out (by kernel_rfl)) (by decide) (fun K hK => ?_)
       have hs28 : w26.cell? ⟨gb119, 0, none⟩ = some (.slice none 0 0) := (qa BK119.out 0).trans rfl
       have hfs28 := qc BK119.out 0
       have hns28_0 := NB101_119.out
       have hns28_1 := NB102_119.out
       have hns28_2 := NB110_119.out
       have hms28_0 := NB119_101.out
       have hms28_1 := NB119_102.out
       have hms28_2 := NB119_110.out
       have hs29 : w26.cell? ⟨gb119, 1, none⟩ = some (.int .i64 0) := (qa BK119.out 1).trans rfl
       have hfs29 := qc BK119.out 1
       have hns29_0 := NB101_119.out
       have hns29_1 := NB102_119.out
       have hns29_2 := NB110_119.out
       have hms29_0 := NB119_101.out
       have hms29_1 := NB119_102.out
       have hms29_2 := NB119_110.out
       have hs30 : w26.cell? ⟨gb119, 2, none⟩ = some (.int .i64 0) := (qa BK119.out 2).trans rfl
       have hfs30 := qc BK119.out 2
       have hns30_0 := NB101_119.out
       have hns30_1 := NB102_119.out
       have hns30_2 := NB110_119.out
       have hms30_0 := NB119_101.out
       have hms30_1 := NB119_102.out
       have hms30_2 := NB119_110.out
       have hs31 : w26.cell? ⟨gb119, 3, none⟩ = some (.int .i64 0) := (qa BK119.out 3).trans rfl
       have hfs31 := qc BK119.out 3
       have hns31_0 := NB101_119.out
       have hns31_1 := NB102_119.out
       have hns31_2 := NB110_119.out
       have hms31_0 := NB119_101.out
       have hms31_1 := NB119_102.out
       have hms31_2 := NB119_110.out
       refine skip_ (w1 := ?_) (by rfl) rfl ?_ ?_
       rotate_left
       ·go_simp
        rfl
       refine hK.out _ _ ⟨((qz (p := ⟨gb119, _, none⟩) NB110_119.out _).trans (((qz (p := ⟨gb119, _, none⟩) NB110_119.out _).trans (((qz (p := ⟨gb119, _, none⟩) NB110_119.out _).trans (((qz (p := ⟨gb119, _, none⟩) NB110_119.out _).trans (hHeld.1)))))))), ((qz (p := ⟨gb119, _, none⟩) NB110_119.out _).trans (((qz (p := ⟨gb119, _, none⟩) NB110_119.out _).trans (((qz (p := ⟨gb119, _, none⟩) NB110_119.out _).trans (((qz (p := ⟨gb119, _, none⟩) NB110_119.out _).trans (hHeld.2.1)))))))), ((qz (p := ⟨gb119, _, none⟩) NB110_119.out _).trans (((qz (p := ⟨gb119, _, none⟩) NB110_119.out _).trans (((qz (p := ⟨gb119, _, none⟩) NB110_119.out _).trans (((qz (p := ⟨gb119, _, none⟩) NB110_119.out _).trans (hHeld.2.2.1)))))))), ((qz (p := ⟨gb119, _, none⟩) NB110_119.out _).trans (((qz (p := ⟨gb119, _, none⟩) NB110_119.out _).trans (((qz (p := ⟨gb119, _, none⟩) NB110_119.out _).trans (((qz (p := ⟨gb119, _, none⟩) NB110_119.out _).trans (hHeld.2.2.2.1)))))))), ((qz (p := ⟨gb119, _, none⟩) (by first | exact Nat.ne_of_lt (Nat.lt_of_lt_of_le (by have := World.block_lt_of_cell? _ _ hw111_0; first | rwa [qj] at this | exact this) GW119.out) | (rw [qj]; exact Nat.ne_of_lt (Nat.lt_of_lt_of_le (by have := World.block_lt_of_cell? _ _ hw111_0; first | rwa [qj] at this | exact this) GW119.out)) | (show (Addr.add _ _).block ≠ _; rw [qj]; exact Nat.ne_of_lt (Nat.lt_of_lt_of_le (by have := World.block_lt_of_cell? _ _ hw111_0; first | rwa [qj] at this | exact this) GW119.out)) | (dsimp only; exact Nat.ne_of_lt (Nat.lt_of_lt_of_le (by have := World.block_lt_of_cell? _ _ hw111_0; first | rwa [qj] at this | exact this) GW119.out))) _).trans (((qz (p := ⟨gb119, _, none⟩) (by first | exact Nat.ne_of_lt (Nat.lt_of_lt_of_le (by have := World.block_lt_of_cell? _ _ hw111_0; first | rwa [qj] at this | exact this) GW119.out) | (rw [qj]; exact Nat.ne_of_lt (Nat.lt_of_lt_of_le (by have := World.block_lt_of_cell? _ _ hw111_0; first | rwa [qj] at this | exact this) GW119.out)) | (show (Addr.add _ _).block ≠ _; rw [qj]; exact Nat.ne_of_lt (Nat.lt_of_lt_of_le (by have := World.block_lt_of_cell? _ _ hw111_0; first | rwa [qj] at this | exact this) GW119.out)) | (dsimp only; exact Nat.ne_of_lt (Nat.lt_of_lt_of_le (by have := World.block_lt_of_cell? _ _ hw111_0; first | rwa [qj] at this | exact this) GW119.out))) _).trans (((qz (p := ⟨gb119, _, none⟩) (by first | exact Nat.ne_of_lt (Nat.lt_of_lt_of_le (by have := World.block_lt_of_cell? _ _ hw111_0; first | rwa [qj] at this | exact this) GW119.out) | (rw [qj]; exact Nat.ne_of_lt (Nat.lt_of_lt_of_le (by have := World.block_lt_of_cell? _ _ hw111_0; first | rwa [qj] at this | exact this) GW119.out)) | (show (Addr.add _ _).block ≠ _; rw [qj]; exact Nat.ne_of_lt (Nat.lt_of_lt_of_le (by have := World.block_lt_of_cell? _ _ hw111_0; first | rwa [qj] at this | exact this) GW119.out)) | (dsimp only; exact Nat.ne_of_lt (Nat.lt_of_lt_of_le (by have := World.block_lt_of_cell? _ _ hw111_0; first | rwa [qj] at this | exact this) GW119.out))) _).trans (((qz (p := ⟨gb119, _, none⟩) (by first | exact Nat.ne_of_lt (Nat.lt_of_lt_of_le (by have := World.block_lt_of_cell? _ _ hw111_0; first | rwa [qj] at this | exact this) GW119.out) | (rw [qj]; exact Nat.ne_of_lt (Nat.lt_of_lt_of_le (by have := World.block_lt_of_cell? _ _ hw111_0; first | rwa [qj] at this | exact this) GW119.out)) | (show (Addr.add _ _).block ≠ _; rw [qj]; exact Nat.ne_of_lt (Nat.lt_of_lt_of_le (by have := World.block_lt_of_cell? _ _ hw111_0; first | rwa [qj] at this | exact this) GW119.out)) | (dsimp only; exact Nat.ne_of_lt (Nat.lt_of_lt_of_le (by have := World.block_lt_of_cell? _ _ hw111_0; first | rwa [qj] at this | exact this) GW119.out))) _).trans (hHeld.2.2.2.2.1)))))))), ((qz (p := ⟨gb119, _, none⟩) (by first | exact Nat.ne_of_lt (Nat.lt_of_lt_of_le (by have := World.block_lt_of_cell? _ _ hw111_1; first | rwa [qj] at this | exact this) GW119.out) | (rw [qj]; exact Nat.ne_of_lt (Nat.lt_of_lt_of_le (by have := World.block_lt_of_cell? _ _ hw111_1; first | rwa [qj] at this | exact this) GW119.out)) | (show (Addr.add _ _).block ≠ _; rw [qj]; exact Nat.ne_of_lt (Nat.lt_of_lt_of_le (by have := World.block_lt_of_cell? _ _ hw111_1; first | rwa [qj] at this | exact this) GW119.out)) | (dsimp only; exact Nat.ne_of_lt (Nat.lt_of_lt_of_le (by have := World.block_lt_of_cell? _ _ hw111_1; first | rwa [qj] at this | exact this) GW119.out))) _).trans (((qz (p := ⟨gb119, _, none⟩) (by first | exact Nat.ne_of_lt (Nat.lt_of_lt_of_le (by have := World.block_lt_of_cell? _ _ hw111_1; first | rwa [qj] at this | exact this) GW119.out) | (rw [qj]; exact Nat.ne_of_lt (Nat.lt_of_lt_of_le (by have := World.block_lt_of_cell? _ _ hw111_1; first | rwa [qj] at this | exact this) GW119.out)) | (show (Addr.add _ _).block ≠ _; rw [qj]; exact Nat.ne_of_lt (Nat.lt_of_lt_of_le (by have := World.block_lt_of_cell? _ _ hw111_1; first | rwa [qj] at this | exact this) GW119.out)) | (dsimp only; exact Nat.ne_of_lt (Nat.lt_of_lt_of_le (by have := World.block_lt_of_cell? _ _ hw111_1; first | rwa [qj] at this | exact this) GW119.out))) _).trans (((qz (p := ⟨gb119, _, none⟩) (by first | exact Nat.ne_of_lt (Nat.lt_of_lt_of_le (by have := World.block_lt_of_cell? _ _ hw111_1; first | rwa [qj] at this | exact this) GW119.out) | (rw [qj]; exact Nat.ne_of_lt (Nat.lt_of_lt_of_le (by have := World.block_lt_of_cell? _ _ hw111_1; first | rwa [qj] at this | exact this) GW119.out)) | (show (Addr.add _ _).block ≠ _; rw [qj]; exact Nat.ne_of_lt (Nat.lt_of_lt_of_le (by have := World.block_lt_of_cell? _ _ hw111_1; first | rwa [qj] at this | exact this) GW119.out)) | (dsimp only; exact Nat.ne_of_lt (Nat.lt_of_lt_of_le (by have := World.block_lt_of_cell? _ _ hw111_1; first | rwa [qj] at this | exact this) GW119.out))) _).trans (((qz (p := ⟨gb119, _, none⟩) (by first | exact Nat.ne_of_lt (Nat.lt_of_lt_of_le (by have := World.block_lt_of_cell? _ _ hw111_1; first | rwa [qj] at this | exact this) GW119.out) | (rw [qj]; exact Nat.ne_of_lt (Nat.lt_of_lt_of_le (by have := World.block_lt_of_cell? _ _ hw111_1; first | rwa [qj] at this | exact this) GW119.out)) | (show (Addr.add _ _).block ≠ _; rw [qj]; exact Nat.ne_of_lt (Nat.lt_of_lt_of_le (by have := World.block_lt_of_cell? _ _ hw111_1; first | rwa [qj] at this | exact this) GW119.out)) | (dsimp only; exact Nat.ne_of_lt (Nat.lt_of_lt_of_le (by have := World.block_lt_of_cell? _ _ hw111_1; first | rwa [qj] at this | exact this) GW119.out))) _).trans (hHeld.2.2.2.2.2.1)))))))), ((qz (p := ⟨gb119, _, none⟩) (by first | exact Nat.ne_of_lt (Nat.lt_of_lt_of_le (by have := World.block_lt_of_cell? _ _ hw111_2; first | rwa [qj] at this | exact this) GW119.out) | (rw [qj]; exact Nat.ne_of_lt (Nat.lt_of_lt_of_le (by have := World.block_lt_of_cell? _ _ hw111_2; first | rwa [qj] at this | exact this) GW119.out)) | (show (Addr.add _ _).block ≠ _; rw [qj]; exact Nat.ne_of_lt (Nat.lt_of_lt_of_le (by have := World.block_lt_of_cell? _ _ hw111_2; first | rwa [qj] at this | exact this) GW119.out)) | (dsimp only; exact Nat.ne_of_lt (Nat.lt_of_lt_of_le (by have := World.block_lt_of_cell? _ _ hw111_2; first | rwa [qj] at this | exact this) GW119.out))) _).trans (((qz (p := ⟨gb119, _, none⟩) (by first | exact Nat.ne_of_lt (Nat.lt_of_lt_of_le (by have := World.block_lt_of_cell? _ _ hw111_2; first | rwa [qj] at this | exact this) GW119.out) | (rw [qj]; exact Nat.ne_of_lt (Nat.lt_of_lt_of_le (by have := World.block_lt_of_cell? _ _ hw111_2; first | rwa [qj] at this | exact this) GW119.out)) | (show (Addr.add _ _).block ≠ _; rw [qj]; exact Nat.ne_of_lt (Nat.lt_of_lt_of_le (by have := World.block_lt_of_cell? _ _ hw111_2; first | rwa [qj] at this | exact this) GW119.out)) | (dsimp only; exact Nat.ne_of_lt (Nat.lt_of_lt_of_le (by have := World.block_lt_of_cell? _ _ hw111_2; first | rwa [qj] at this | exact this) GW119.out))) _).trans (((qz (p := ⟨gb119, _, none⟩) (by first | exact Nat.ne_of_lt (Nat.lt_of_lt_of_le (by have := World.block_lt_of_cell? _ _ hw111_2; first | rwa [qj] at this | exact this) GW119.out) | (rw [qj]; exact Nat.ne_of_lt (Nat.lt_of_lt_of_le (by have := World.block_lt_of_cell? _ _ hw111_2; first | rwa [qj] at this | exact this) GW119.out)) | (show (Addr.add _ _).block ≠ _; rw [qj]; exact Nat.ne_of_lt (Nat.lt_of_lt_of_le (by have := World.block_lt_of_cell? _ _ hw111_2; first | rwa [qj] at this | exact this) GW119.out)) | (dsimp only; exact Nat.ne_of_lt (Nat.lt_of_lt_of_le (by have := World.block_lt_of_cell? _ _ hw111_2; first | rwa [qj] at this | exact this) GW119.out))) _).trans (((qz (p := ⟨gb119, _, none⟩) (by first | exact Nat.ne_of_lt (Nat.lt_of_lt_of_le (by have := World.block_lt_of_cell? _ _ hw111_2; first | rwa [qj] at this | exact this) GW119.out) | (rw [qj]; exact Nat.ne_of_lt (Nat.lt_of_lt_of_le (by have := World.block_lt_of_cell? _ _ hw111_2; first | rwa [qj] at this | exact this) GW119.out)) | (show (Addr.add _ _).block ≠ _; rw [qj]; exact Nat.ne_of_lt (Nat.lt_of_lt_of_le (by have := World.block_lt_of_cell? _ _ hw111_2; first | rwa [qj] at this | exact this) GW119.out)) | (dsimp only; exact Nat.ne_of_lt (Nat.lt_of_lt_of_le (by have := World.block_lt_of_cell? _ _ hw111_2; first | rwa [qj] at this | exact this) GW119.out))) _).trans (hHeld.2.2.2.2.2.2.1)))))))), ((qz (p := ⟨gb119, _, none⟩) (by first | exact Nat.ne_of_lt (Nat.lt_of_lt_of_le (by have := World.block_lt_of_cell? _ _ hw111_3; first | rwa [qj] at this | exact this) GW119.out) | (rw [qj]; exact Nat.ne_of_lt (Nat.lt_of_lt_of_le (by have := World.block_lt_of_cell? _ _ hw111_3; first | rwa [qj] at this | exact this) GW119.out)) | (show (Addr.add _ _).block ≠ _; rw [qj]; exact Nat.ne_of_lt (Nat.lt_of_lt_of_le (by have := World.block_lt_of_cell? _ _ hw111_3; first | rwa [qj] at this | exact this) GW119.out)) | (dsimp only; exact Nat.ne_of_lt (Nat.lt_of_lt_of_le (by have := World.block_lt_of_cell? _ _ hw111_3; first | rwa [qj] at this | exact this) GW119.out))) _).trans (((qz (p := ⟨gb119, _, none⟩) (by first | exact Nat.ne_of_lt (Nat.lt_of_lt_of_le (by have := World.block_lt_of_cell? _ _ hw111_3; first | rwa [qj] at this | exact this) GW119.out) | (rw [qj]; exact Nat.ne_of_lt (Nat.lt_of_lt_of_le (by have := World.block_lt_of_cell? _ _ hw111_3; first | rwa [qj] at this | exact this) GW119.out)) | (show (Addr.add _ _).block ≠ _; rw [qj]; exact Nat.ne_of_lt (Nat.lt_of_lt_of_le (by have := World.block_lt_of_cell? _ _ hw111_3; first | rwa [qj] at this | exact this) GW119.out)) | (dsimp only; exact Nat.ne_of_lt (Nat.lt_of_lt_of_le (by have := World.block_lt_of_cell? _ _ hw111_3; first | rwa [qj] at this | exact this) GW119.out))) _).trans (((qz (p := ⟨gb119, _, none⟩) (by first | exact Nat.ne_of_lt (Nat.lt_of_lt_of_le (by have := World.block_lt_of_cell? _ _ hw111_3; first | rwa [qj] at this | exact this) GW119.out) | (rw [qj]; exact Nat.ne_of_lt (Nat.lt_of_lt_of_le (by have := World.block_lt_of_cell? _ _ hw111_3; first | rwa [qj] at this | exact this) GW119.out)) | (show (Addr.add _ _).block ≠ _; rw [qj]; exact Nat.ne_of_lt (Nat.lt_of_lt_of_le (by have := World.block_lt_of_cell? _ _ hw111_3; first | rwa [qj] at this | exact this) GW119.out)) | (dsimp only; exact Nat.ne_of_lt (Nat.lt_of_lt_of_le (by have := World.block_lt_of_cell? _ _ hw111_3; first | rwa [qj] at this | exact this) GW119.out))) _).trans (((qz (p := ⟨gb119, _, none⟩) (by first | exact Nat.ne_of_lt (Nat.lt_of_lt_of_le (by have := World.block_lt_of_cell? _ _ hw111_3; first | rwa [qj] at this | exact this) GW119.out) | (rw [qj]; exact Nat.ne_of_lt (Nat.lt_of_lt_of_le (by have := World.block_lt_of_cell? _ _ hw111_3; first | rwa [qj] at this | exact this) GW119.out)) | (show (Addr.add _ _).block ≠ _; rw [qj]; exact Nat.ne_of_lt (Nat.lt_of_lt_of_le (by have := World.block_lt_of_cell? _ _ hw111_3; first | rwa [qj] at this | exact this) GW119.out)) | (dsimp only; exact Nat.ne_of_lt (Nat.lt_of_lt_of_le (by have := World.block_lt_of_cell? _ _ hw111_3; first | rwa [qj] at this | exact this) GW119.out))) _).trans (hHeld.2.2.2.2.2.2.2.1)))))))), ((qz (p := ⟨gb119, _, none⟩) (by first | exact Nat.ne_of_lt (Nat.lt_of_lt_of_le (by have := World.block_lt_of_cell? _ _ hw111_4; first | rwa [qj] at this | exact this) GW119.out) | (rw [qj]; exact Nat.ne_of_lt (Nat.lt_of_lt_of_le (by have := World.block_lt_of_cell? _ _ hw111_4; first | rwa [qj] at this | exact this) GW119.out)) | (show (Addr.add _ _).block ≠ _; rw [qj]; exact Nat.ne_of_lt (Nat.lt_of_lt_of_le (by have := World.block_lt_of_cell? _ _ hw111_4; first | rwa [qj] at this | exact this) GW119.out)) | (dsimp only; exact Nat.ne_of_lt (Nat.lt_of_lt_of_le (by have := World.block_lt_of_cell? _ _ hw111_4; first | rwa [qj] at this | exact this) GW119.out))) _).trans (((qz (p := ⟨gb119, _, none⟩) (by first | exact Nat.ne_of_lt (Nat.lt_of_lt_of_le (by have := World.block_lt_of_cell? _ _ hw111_4; first | rwa [qj] at this | exact this) GW119.out) | (rw [qj]; exact Nat.ne_of_lt (Nat.lt_of_lt_of_le (by have := World.block_lt_of_cell? _ _ hw111_4; first | rwa [qj] at this | exact this) GW119.out)) | (show (Addr.add _ _).block ≠ _; rw [qj]; exact Nat.ne_of_lt (Nat.lt_of_lt_of_le (by have := World.block_lt_of_cell? _ _ hw111_4; first | rwa [qj] at this | exact this) GW119.out)) | (dsimp only; exact Nat.ne_of_lt (Nat.lt_of_lt_of_le (by have := World.block_lt_of_cell? _ _ hw111_4; first | rwa [qj] at this | exact this) GW119.out))) _).trans (((qz (p := ⟨gb119, _, none⟩) (by first | exact Nat.ne_of_lt (Nat.lt_of_lt_of_le (by have := World.block_lt_of_cell? _ _ hw111_4; first | rwa [qj] at this | exact this) GW119.out) | (rw [qj]; exact Nat.ne_of_lt (Nat.lt_of_lt_of_le (by have := World.block_lt_of_cell? _ _ hw111_4; first | rwa [qj] at this | exact this) GW119.out)) | (show (Addr.add _ _).block ≠ _; rw [qj]; exact Nat.ne_of_lt (Nat.lt_of_lt_of_le (by have := World.block_lt_of_cell? _ _ hw111_4; first | rwa [qj] at this | exact this) GW119.out)) | (dsimp only; exact Nat.ne_of_lt (Nat.lt_of_lt_of_le (by have := World.block_lt_of_cell? _ _ hw111_4; first | rwa [qj] at this | exact this) GW119.out))) _).trans (((qz (p := ⟨gb119, _, none⟩) (by first | exact Nat.ne_of_lt (Nat.lt_of_lt_of_le (by have := World.block_lt_of_cell? _ _ hw111_4; first | rwa [qj] at this | exact this) GW119.out) | (rw [qj]; exact Nat.ne_of_lt (Nat.lt_of_lt_of_le (by have := World.block_lt_of_cell? _ _ hw111_4; first | rwa [qj] at this | exact this) GW119.out)) | (show (Addr.add _ _).block ≠ _; rw [qj]; exact Nat.ne_of_lt (Nat.lt_of_lt_of_le (by have := World.block_lt_of_cell? _ _ hw111_4; first | rwa [qj] at this | exact this) GW119.out)) | (dsimp only; exact Nat.ne_of_lt (Nat.lt_of_lt_of_le (by have := World.block_lt_of_cell? _ _ hw111_4; first | rwa [qj] at this | exact this) GW119.out))) _).trans (hHeld.2.2.2.2.2.2.2.2))))))))⟩ (fun hHeld => ?_)
       clear hK K
       refine pure_ (i := 11) (N := some 9) (v := ?_) (a' := ?_) bq34 rfl rfl (any_of HT_.out (by kernel_rfl)) (fun _ _ _ h => h) (Or.inl ⟨by rfl, ?_⟩) ?_ ?_
       rotate_left
       ·intro w'
        go_simp
        with_reducible rfl
       rotate_left
       ·simp only [Act.put, sq1, sq2, sq3, i64_w, i32_w]
        rfl
       refine done_ (done_of HT_.out (by kernel_rfl)) ?_
       have hnb32 := NB119_101.out
       have hnc32 := NB101_119.out
       have hnb33 := NB119_102.out
       have hnc33 := NB102_119.out
       have hnb34 := NB119_110.out
       have hnc34 := NB110_119.out
       have hcz35_0 := (qa BK119.out 0).trans rfl
       have hcz35_1 := (qa BK119.out 1).trans rfl
       have hcz35_2 := (qa BK119.out 2).trans rfl
       have hcz35_3 := (qa BK119.out 3).trans rfl
       have hfz35_0 := qc BK119.out 0
       have hfz35_1 := qc BK119.out 1
       have hfz35_2 := qc BK119.out 2
       have hfz35_3 := qc BK119.out 3
       have hnb36 := NB110_101.out
       have hnc36 := NB101_110.out
       have hnb37 := NB110_102.out
       have hnc37 := NB102_110.out
       have hcz38_0 := (qa BK110.out 0).trans rfl
       have hcz38_1 := (qa BK110.out 1).trans rfl
       have hcz38_2 := (qa BK110.out 2).trans rfl
       have hcz38_3 := (qa BK110.out 3).trans rfl
       have hfz38_0 := qc BK110.out 0
       have hfz38_1 := qc BK110.out 1
       have hfz38_2 := qc BK110.out 2
       have hfz38_3 := qc BK110.out 3
       try go_wp2
       go_roundg k1
       case measure => have := HK1.out; omega
       case rel => exact ⟨(wrap64 (x7_1 + 1)), (x103001_1), (x103002_1), (x103003_1), (t112), (t115), (t116), (t117), (.slice Ao27 t112.length co27), (by first | rfl | (simp; done) | (simp [*]; done)), H', ⟨by have := HK1.out; omega⟩, ⟨by (with_reducible repeat (first | apply Kd.R_alloc | apply Kd.R_drewN | apply Kd.R_drew)); exact Kd.R_mono (Kd.R_far (p := ⟨gb110, 3, none⟩) (Kd.R_far (p := ⟨gb110, 2, none⟩) (Kd.R_far (p := ⟨gb110, 1, none⟩) (Kd.R_far (p := ⟨gb110, 0, none⟩) (Kd.R_far (p := ⟨gb119, 3, none⟩) (Kd.R_far (p := ⟨gb119, 2, none⟩) (Kd.R_far (p := ⟨gb119, 1, none⟩) (Kd.R_far (p := ⟨gb119, 0, none⟩) (Kd.R_types (Kd.R_types HO114.out BK119.out (by decide)) BK110.out (by decide)) (fun _ hk => hk.1.2) (.slice Ao27 t112.length co27)) (fun _ hk => hk.1.2) (.int .i64 t115)) (fun _ hk => hk.1.2) (.int .i64 t116)) (fun _ hk => hk.1.2) (.int .i64 t117)) (fun _ hk => hk.2) (.slice Ao27 t112.length co27)) (fun _ hk => hk.2) (.int .i64 t115)) (fun _ hk => hk.2) (.int .i64 t116)) (fun _ hk => hk.2) (.int .i64 t117)) (fun _ hk => trivial)⟩, ⟨by (with_reducible repeat (first | refine qg ?_ _ | refine qh ?_ | refine qf ?_ _)); refine qu ?_ NB101_110.out _; (with_reducible repeat (first | refine qg ?_ _ | refine qh ?_ | refine qf ?_ _)); refine qu ?_ NB101_110.out _; (with_reducible repeat (first | refine qg ?_ _ | refine qh ?_ | refine qf ?_ _)); refine qu ?_ NB101_110.out _; (with_reducible repeat (first | refine qg ?_ _ | refine qh ?_ | refine qf ?_ _)); refine qu ?_ NB101_110.out _; (with_reducible repeat (first | refine qg ?_ _ | refine qh ?_ | refine qf ?_ _)); refine qu ?_ NB101_119.out _; (with_reducible repeat (first | refine qg ?_ _ | refine qh ?_ | refine qf ?_ _)); refine qu ?_ NB101_119.out _; (with_reducible repeat (first | refine qg ?_ _ | refine qh ?_ | refine qf ?_ _)); refine qu ?_ NB101_119.out _; (with_reducible repeat (first | refine qg ?_ _ | refine qh ?_ | refine qf ?_ _)); refine qu ?_ NB101_119.out _; (with_reducible repeat (first | refine qg ?_ _ | refine qh ?_ | refine qf ?_ _)); exact BK101.out⟩, ⟨by (with_reducible repeat (first | refine qg ?_ _ | refine qh ?_ | refine qf ?_ _)); refine qu ?_ NB102_110.out _; (with_reducible repeat (first | refine qg ?_ _ | refine qh ?_ | refine qf ?_ _)); refine qu ?_ NB102_110.out _; (with_reducible repeat (first | refine qg ?_ _ | refine qh ?_ | refine qf ?_ _)); refine qu ?_ NB102_110.out _; (with_reducible repeat (first | refine qg ?_ _ | refine qh ?_ | refine qf ?_ _)); refine qu ?_ NB102_110.out _; (with_reducible repeat (first | refine qg ?_ _ | refine qh ?_ | refine qf ?_ _)); refine qu ?_ NB102_119.out _; (with_reducible repeat (first | refine qg ?_ _ | refine qh ?_ | refine qf ?_ _)); refine qu ?_ NB102_119.out _; (with_reducible repeat (first | refine qg ?_ _ | refine qh ?_ | refine qf ?_ _)); refine qu ?_ NB102_119.out _; (with_reducible repeat (first | refine qg ?_ _ | refine qh ?_ | refine qf ?_ _)); refine qu ?_ NB102_119.out _; (with_reducible repeat (first | refine qg ?_ _ | refine qh ?_ | refine qf ?_ _)); exact BK102.out⟩, ⟨by (with_reducible repeat (first | refine qg ?_ _ | refine qh ?_ | refine qf ?_ _)); refine qa1 (cs := #[.slice Ao27 t112.length co27, .int .i64 t115, .int .i64 t116, .int .i64 x111003_1]) ?_ 3 _ rfl; (with_reducible repeat (first | refine qg ?_ _ | refine qh ?_ | refine qf ?_ _)); refine qa1 (cs := #[.slice Ao27 t112.length co27, .int .i64 t115, .int .i64 x111002_1, .int .i64 x111003_1]) ?_ 2 _ rfl; (with_reducible repeat (first | refine qg ?_ _ | refine qh ?_ | refine qf ?_ _)); refine qa1 (cs := #[.slice Ao27 t112.length co27, .int .i64 x111001_1, .int .i64 x111002_1, .int .i64 x111003_1]) ?_ 1 _ rfl; (with_reducible repeat (first | refine qg ?_ _ | refine qh ?_ | refine qf ?_ _)); refine qa1 (cs := #[.slice Ao22 x111000_1.length co22, .int .i64 x111001_1, .int .i64 x111002_1, .int .i64 x111003_1]) ?_ 0 _ rfl; (with_reducible repeat (first | refine qg ?_ _ | refine qh ?_ | refine qf ?_ _)); refine qu ?_ NB110_119.out _; (with_reducible repeat (first | refine qg ?_ _ | refine qh ?_ | refine qf ?_ _)); refine qu ?_ NB110_119.out _; (with_reducible repeat (first | refine qg ?_ _ | refine qh ?_ | refine qf ?_ _)); refine qu ?_ NB110_119.out _; (with_reducible repeat (first | refine qg ?_ _ | refine qh ?_ | refine qf ?_ _)); refine qu ?_ NB110_119.out _; (with_reducible repeat (first | refine qg ?_ _ | refine qh ?_ | refine qf ?_ _)); exact BK110.out⟩, ⟨by repeat (first | (with_reducible first | exact HB.out | apply qd | apply qb | apply qe | refine qi ?_ GE101.out | refine qi ?_ GE102.out | refine qi ?_ GE110.out | refine qi ?_ GE119.out) | exact HB.out)⟩⟩
      ·replace c21 := Bool.eq_false_iff.mpr c21
       subst c21
       have H1 : (some (x111000_1, x111001_1, x111002_1, x111003_1, x7_1)) = some (r1, r2, r3, r4, r5) := by rw [if_neg (show ¬ (false = true) by decide)] at H; exact H
       clear H
       have H := H1
       clear H1
       simp only [Option.some.injEq, Prod.mk.injEq] at H
       obtain ⟨rfl, rfl, rfl, rfl, rfl⟩ := H
       obtain ⟨Ao39, co39, eo39⟩ := Kd.R_slice HO_111000.out
       subst eo39
       try go_wp2
       replace HO_111000 := Qz.mk (Kd.R_drew HO_111000.out)
       replace BK101 := Qz.mk (qh BK101.out)
       replace BK102 := Qz.mk (qh BK102.out)
       replace BK110 := Qz.mk (qh BK110.out)
       replace HB := Qz.mk (qe HB.out)
       have p111 : 0 ≤ (x7_1 : Int) := of_decide_eq_true (by first | (with_reducible assumption) | assumption)
       have q111 : x7_1 < (l1.length : Int) := of_decide_eq_true (by first | (with_reducible assumption) | assumption)
       obtain ⟨ad111, A111_0, c111_0, A111_1, c111_1, e111, hx111_0, hx111_1, hx111_2, hx111_3, hx111_4, hl111_0, hi111_0, hl111_1, hi111_1⟩ := at_T37 HR1.out x7_1 p111 q111
       have hw111_4 := hx111_4
       have hw111_3 := hx111_3
       have hw111_2 := hx111_2
       have hw111_1 := hx111_1
       have hw111_0 := hx111_0
       cases e111
       replace hx111_0 := (HB.out.cell (World.block_lt_of_cell? w _ hx111_0)).trans hx111_0
       replace hx111_1 := (HB.out.cell (World.block_lt_of_cell? w _ hx111_1)).trans hx111_1
       replace hx111_2 := (HB.out.cell (World.block_lt_of_cell? w _ hx111_2)).trans hx111_2
       replace hx111_3 := (HB.out.cell (World.block_lt_of_cell? w _ hx111_3)).trans hx111_3
       replace hx111_4 := (HB.out.cell (World.block_lt_of_cell? w _ hx111_4)).trans hx111_4
       have HR111_0 := Qz.mk hi111_0
       have HC111_0 := Qz.mk hl111_0
       clear hi111_0 hl111_0
       have HR111_1 := Qz.mk hi111_1
       have HC111_1 := Qz.mk hl111_1
       clear hi111_1 hl111_1
       replace p111 := eq_true p111
       replace q111 := eq_true q111
       refine start_ (n := 12) (S := fun w' => w'.cell? ⟨gb110, 0, none⟩ = some (.slice Ao39 x111000_1.length co39) ∧ w'.cell? ⟨gb110, 1, none⟩ = some (.int .i64 x111001_1) ∧ w'.cell? ⟨gb110, 2, none⟩ = some (.int .i64 x111002_1) ∧ w'.cell? ⟨gb110, 3, none⟩ = some (.int .i64 x111003_1) ∧ w'.cell? (ad111.add ((x7_1).toNat * 5)) = some (.slice A111_0 ((qq l1 x7_1).f0).length c111_0) ∧ w'.cell? ⟨(ad111.add ((x7_1).toNat * 5)).block, (ad111.add ((x7_1).toNat * 5)).off + 1, none⟩ = some (.slice A111_1 ((qq l1 x7_1).f1).length c111_1) ∧ w'.cell? ⟨(ad111.add ((x7_1).toNat * 5)).block, (ad111.add ((x7_1).toNat * 5)).off + 2, none⟩ = some (.int .i64 ((qq l1 x7_1).f2)) ∧ w'.cell? ⟨(ad111.add ((x7_1).toNat * 5)).block, (ad111.add ((x7_1).toNat * 5)).off + 3, none⟩ = some (.int .i64 ((qq l1 x7_1).f3)) ∧ w'.cell? ⟨(ad111.add ((x7_1).toNat * 5)).block, (ad111.add ((x7_1).toNat * 5)).off + 4, none⟩ = some (.int .i64 ((qq l1 x7_1).f4))) (ds := []) bq0 (by kernel_rfl) rfl rfl ⟨(qa BK110.out 0).trans rfl, (qa BK110.out 1).trans rfl, (qa BK110.out 2).trans rfl, (qa BK110.out 3).trans rfl, ((HB.out.cell (World.block_lt_of_cell? w _ hw111_0)).trans hw111_0), ((HB.out.cell (World.block_lt_of_cell? w _ hw111_1)).trans hw111_1), ((HB.out.cell (World.block_lt_of_cell? w _ hw111_2)).trans hw111_2), ((HB.out.cell (World.block_lt_of_cell? w _ hw111_3)).trans hw111_3), ((HB.out.cell (World.block_lt_of_cell? w _ hw111_4)).trans hw111_4)⟩ (fun hHeld => ?_); refine with_tabW spec_Replay.tab7 spec_Replay.bits7 (fun HT_ HW_ => ?_)
       generalize wr.drew = w40 at HO_111000 BK101 BK102 BK110 HB HR111_0 HR111_1 hx111_0 hx111_1 hx111_2 hx111_3 hx111_4 hHeld ⊢
       refine pure_ (i := 1) (N := some 24) (v := ?_) (a' := ?_) bq3 rfl rfl (any_of HT_.out (by kernel_rfl)) (fun _ _ _ h => h) (Or.inl ⟨by rfl, ?_⟩) ?_ ?_
       rotate_left
       ·intro w'
        go_simp
        with_reducible rfl
       rotate_left
       ·simp only [Act.put, sq1, sq2, sq3, i64_w, i32_w]
        rfl
       refine pure_ (i := 2) (N := some 25) (v := ?_) (a' := ?_) bq4 rfl rfl (any_of HT_.out (by kernel_rfl)) (fun _ _ _ h => h) (Or.inl ⟨by rfl, ?_⟩) ?_ ?_
       rotate_left
       ·intro w'
        go_simp
        with_reducible rfl
       rotate_left
       ·simp only [Act.put, sq1, sq2, sq3, i64_w, i32_w]
        rfl
       refine pure_ (i := 3) (N := some 26) (v := ?_) (a' := ?_) bq5 rfl rfl (any_of HT_.out (by kernel_rfl)) (fun _ _ _ h => h) (Or.inl ⟨by rfl, ?_⟩) ?_ ?_
       rotate_left
       ·intro w'
        go_simp
        with_reducible rfl
       rotate_left
       ·simp only [Act.put, sq1, sq2, sq3, i64_w, i32_w]
        rfl
       refine take_ (i := 0) (N := some 23) (v := ?_) (a' := ?_) bq15 rfl rfl (take_ofW HT_.out HW_.out (by kernel_rfl)) (fun _ _ _ h => h) (Or.inl ⟨by rfl, ?_⟩) hHeld ?_ ?_
       rotate_left
       ·rintro w' ⟨s0, s1, s2, s3, s4, s5, s6, s7, s8⟩
        go_simp
        with_reducible rfl
       rotate_left
       ·simp only [Act.put, sq1, sq2, sq3, i64_w, i32_w]
        rfl
       refine take_ (i := 4) (N := some 27) (v := ?_) (a' := ?_) bq18 rfl rfl (take_ofW HT_.out HW_.out (by kernel_rfl)) (fun _ _ _ h => h) (Or.inl ⟨by rfl, ?_⟩) hHeld ?_ ?_
       rotate_left
       ·rintro w' ⟨s0, s1, s2, s3, s4, s5, s6, s7, s8⟩
        go_simp
        with_reducible rfl
       rotate_left
       ·simp only [Act.put, sq1, sq2, sq3, i64_w, i32_w]
        rfl
       refine join_ (σ := Value × Nat) 2 bq32 (fun s_ => [(28, .tuple #[.agg #[s_.1, .int .i64 t115, .int .i64 t116, .int .i64 t117], .bool false]), (8, .pointer (some ⟨s_.2, 0, none⟩)), (22, .tuple #[.agg #[s_.1, .int .i64 t115, .int .i64 t116, .int .i64 t117], .bool false]), (29, .agg #[s_.1, .int .i64 t115, .int .i64 t116, .int .i64 t117]), (30, .bool false)]) (fun s_ w' => (w'.cell? ⟨gb110, 0, none⟩ = some (.slice Ao39 x111000_1.length co39) ∧ w'.cell? ⟨gb110, 1, none⟩ = some (.int .i64 x111001_1) ∧ w'.cell? ⟨gb110, 2, none⟩ = some (.int .i64 x111002_1) ∧ w'.cell? ⟨gb110, 3, none⟩ = some (.int .i64 x111003_1) ∧ w'.cell? (ad111.add ((x7_1).toNat * 5)) = some (.slice A111_0 ((qq l1 x7_1).f0).length c111_0) ∧ w'.cell? ⟨(ad111.add ((x7_1).toNat * 5)).block, (ad111.add ((x7_1).toNat * 5)).off + 1, none⟩ = some (.slice A111_1 ((qq l1 x7_1).f1).length c111_1) ∧ w'.cell? ⟨(ad111.add ((x7_1).toNat * 5)).block, (ad111.add ((x7_1).toNat * 5)).off + 2, none⟩ = some (.int .i64 ((qq l1 x7_1).f2)) ∧ w'.cell? ⟨(ad111.add ((x7_1).toNat * 5)).block, (ad111.add ((x7_1).toNat * 5)).off + 3, none⟩ = some (.int .i64 ((qq l1 x7_1).f3)) ∧ w'.cell? ⟨(ad111.add ((x7_1).toNat * 5)).block, (ad111.add ((x7_1).toNat * 5)).off + 4, none⟩ = some (.int .i64 ((qq l1 x7_1).f4))) ∧ (Kd.R k66 66 w' w.heap.size (fun k_ => some k_ ≠ (.slice Ao39 x111000_1.length co39 : Value).ownBlock) s_.1 t112) ∧ (Kd.R k66 66 w' w.heap.size (fun k_ => some k_ ≠ (s_.1 : Value).ownBlock) (.slice Ao39 x111000_1.length co39) x111000_1) ∧ (w'.heap[gb101]? = some (.cells #[.slice A0_0 l0_0.length c0_0, .int .i64 a0_1, .int .i64 a0_2, .int .i64 a0_3] 32 (0, 0))) ∧ (w'.heap[gb102]? = some (.cells #[.slice none 0 0, .int .i64 x103001_1, .int .i64 x103002_1, .int .i64 x103003_1] 32 (0, 0))) ∧ (w'.heap[gb110]? = some (.cells #[.slice Ao39 x111000_1.length co39, .int .i64 x111001_1, .int .i64 x111002_1, .int .i64 x111003_1] 32 (0, 0))) ∧ (w'.heap[s_.2]? = some (.cells #[.slice none 0 0, .int .i64 0, .int .i64 0, .int .i64 0] 32 (0, 0))) ∧ (w.heap.size ≤ s_.2) ∧ (w.heap.size ≤ s_.2) ∧ (gb101 ≠ s_.2) ∧ (s_.2 ≠ gb101) ∧ (gb102 ≠ s_.2) ∧ (s_.2 ≠ gb102) ∧ (gb110 ≠ s_.2) ∧ (s_.2 ≠ gb110) ∧ (Below w.heap.size w w')) ?_ ?_
       rotate_left
       ·intro hCont
        refine two_ (i := 5) (j := 9) (Ni := some 28) (Nj := some 8) bq20 bq19 rfl rfl rfl rfl (two_of HT_.out (by kernel_rfl)) (by decide) (by decide) (fun K hK => ?_) (fun K hK => ?_)
        ·skip
         refine goes_ Try.func17 (by kernel_rfl) rfl #[.agg #[.slice Ao39 x111000_1.length co39, .int .i64 x111001_1, .int .i64 x111002_1, .int .i64 x111003_1], .agg #[.slice A111_0 ((qq l1 x7_1).f0).length c111_0, .slice A111_1 ((qq l1 x7_1).f1).length c111_1, .int .i64 ((qq l1 x7_1).f2), .int .i64 ((qq l1 x7_1).f3), .int .i64 ((qq l1 x7_1).f4)]] (by rfl) rfl rfl yq51 ?_
         with_reducible refine (spec_Apply.calls k1 _ _ x111000_1 x111001_1 x111002_1 x111003_1 _ _ ((qq l1 x7_1).f0) _ _ ((qq l1 x7_1).f1) ((qq l1 x7_1).f2) ((qq l1 x7_1).f3) ((qq l1 x7_1).f4) t112 t115 t116 t117 false _ ?side1 ?side2 ?side3 ?side4 ?side5 ?side6 A20.out).mono ?_
         (case side1 => exact yq55)
         (case side2 => exact (Kd.R_reads' HO_111000.out).2.1)
         (case side3 => exact yq57)
         (case side4 => exact HC111_0.out)
         (case side5 => exact yq56)
         (case side6 => exact HC111_1.out)
         rintro e w41 ⟨v113, rfl, ho0, hb⟩
         refine ⟨_, rfl, ?_⟩
         have HO114 := Qz.mk (Kd.R_lower (Kd.R_new' ho0 (Kd.R_lt yq50)) (qp yq47))
         replace HO_111000 := Qz.mk (Kd.R_elder' yq50 (Kd.R_base ho0) hb)
         replace BK101 := bkbf29 BK101 yq45 hb
         replace BK102 := bkbf29 BK102 yq46 hb
         replace BK110 := bkbf29 BK110 yq48 hb
         replace HB := Qz.mk (qk yq47 hb)
         (try clear hb)
         (try clear hk)
         (try clear ho0)
         refine hK.out _ _ ⟨(qa BK110.out 0).trans rfl, (qa BK110.out 1).trans rfl, (qa BK110.out 2).trans rfl, (qa BK110.out 3).trans rfl, ((HB.out.cell (World.block_lt_of_cell? w _ hw111_0)).trans hw111_0), ((HB.out.cell (World.block_lt_of_cell? w _ hw111_1)).trans hw111_1), ((HB.out.cell (World.block_lt_of_cell? w _ hw111_2)).trans hw111_2), ((HB.out.cell (World.block_lt_of_cell? w _ hw111_3)).trans hw111_3), ((HB.out.cell (World.block_lt_of_cell? w _ hw111_4)).trans hw111_4)⟩ (fun hHeld => ?_)
         clear hK K
         refine norm_ (a' := ?_) ?_ ?_
         rotate_left
         ·show Act.put _ (some 28) _ = _
          simp only [Act.put, sq1, sq2, sq3, i64_w, i32_w]
          rfl
         refine pure_ (i := 6) (N := some 22) (v := ?_) (a' := ?_) bq23 rfl rfl (any_of HT_.out (by kernel_rfl)) (fun _ _ _ h => h) (Or.inl ⟨by rfl, ?_⟩) ?_ ?_
         rotate_left
         ·intro w'
          go_simp
          with_reducible rfl
         rotate_left
         ·simp only [Act.put, sq1, sq2, sq3, i64_w, i32_w]
          rfl
         refine pure_ (i := 7) (N := some 29) (v := ?_) (a' := ?_) bq27 rfl rfl (any_of HT_.out (by kernel_rfl)) (fun _ _ _ h => h) (Or.inl ⟨by rfl, ?_⟩) ?_ ?_
         rotate_left
         ·intro w'
          go_simp
          with_reducible rfl
         rotate_left
         ·simp only [Act.put, sq1, sq2, sq3, i64_w, i32_w]
          rfl
         refine pure_ (i := 8) (N := some 30) (v := ?_) (a' := ?_) bq30 rfl rfl (any_of HT_.out (by kernel_rfl)) (fun _ _ _ h => h) (Or.inl ⟨by rfl, ?_⟩) ?_ ?_
         rotate_left
         ·intro w'
          go_simp
          with_reducible rfl
         rotate_left
         ·simp only [Act.put, sq1, sq2, sq3, i64_w, i32_w]
          rfl
         refine one_ (i := 9) (N := some 8) bq32 rfl rfl (one_of HT_.out (by kernel_rfl)) (by decide) (fun K hK => ?_)
         refine box_step ?hg (N := 8) ?hd (cs := #[.slice none 0 0, .int .i64 0, .int .i64 0, .int .i64 0]) (t := 32) ?hr ?_; (case hd => rfl); (case hg => rfl); (case hr => exact yq66)
         intro gb119 hg w42 hbox hb
         replace HO_111000 := Qz.mk (Kd.R_below yq50 hb)
         replace HO114 := Qz.mk (Kd.R_below (by (with_reducible repeat (first | apply Kd.R_alloc | apply Kd.R_drewN | apply Kd.R_drew)); exact HO114.out) hb)
         have BK119 := Qz.mk (hbox)
         have GW119 := Qz.mk ((by rw [hg]; exact (qp yq47) : w.heap.size ≤ gb119))
         have GE119 := GW119
         replace HB := Qz.mk (qk yq47 hb)
         have NB101_119 := Qz.mk ((yq52 : gb101 ≠ gb119))
         have NB119_101 := Qz.mk ((yq53 : gb119 ≠ gb101))
         replace BK101 := bkbf29 BK101 yq45 hb
         have NB102_119 := Qz.mk ((yq59 : gb102 ≠ gb119))
         have NB119_102 := Qz.mk ((yq60 : gb119 ≠ gb102))
         replace BK102 := bkbf29 BK102 yq46 hb
         have NB110_119 := Qz.mk ((by rw [hg]; exact Nat.ne_of_lt (qw (g := gb110) (o := .cells #[.slice Ao39 x111000_1.length co39, .int .i64 x111001_1, .int .i64 x111002_1, .int .i64 x111003_1] 32 (0, 0)) yq48) : gb110 ≠ gb119))
         have NB119_110 := Qz.mk ((by rw [hg]; exact Nat.ne_of_gt (qw (g := gb110) (o := .cells #[.slice Ao39 x111000_1.length co39, .int .i64 x111001_1, .int .i64 x111002_1, .int .i64 x111003_1] 32 (0, 0)) yq48) : gb119 ≠ gb110))
         replace BK110 := bkbf29 BK110 yq48 hb
         clear hb hbox hg
         refine hK.out _ _ ⟨(qa BK110.out 0).trans rfl, (qa BK110.out 1).trans rfl, (qa BK110.out 2).trans rfl, (qa BK110.out 3).trans rfl, ((HB.out.cell (World.block_lt_of_cell? w _ hw111_0)).trans hw111_0), ((HB.out.cell (World.block_lt_of_cell? w _ hw111_1)).trans hw111_1), ((HB.out.cell (World.block_lt_of_cell? w _ hw111_2)).trans hw111_2), ((HB.out.cell (World.block_lt_of_cell? w _ hw111_3)).trans hw111_3), ((HB.out.cell (World.block_lt_of_cell? w _ hw111_4)).trans hw111_4)⟩ (fun hHeld => ?_)
         clear hK K
         refine norm_ (a' := ?_) ?_ ?_
         rotate_left
         ·show Act.put _ (some 8) _ = _
          simp only [Act.put, sq1, sq2, sq3, i64_w, i32_w]
          rfl
         exact norm_ (by simp only [putAll, Act.put, sq1, sq2, sq3]) (hCont (v113, gb119) _ ⟨hHeld, yq62, yq61, yq45, yq46, yq48, yq58, GW119.out, GE119.out, NB101_119.out, NB119_101.out, NB102_119.out, NB119_102.out, NB110_119.out, NB119_110.out, yq49⟩)
        ·skip
         refine box_step ?hg (N := 8) ?hd (cs := #[.slice none 0 0, .int .i64 0, .int .i64 0, .int .i64 0]) (t := 32) ?hr ?_; (case hd => rfl); (case hg => rfl); (case hr => exact yq66)
         intro gb119 hg w41 hbox hb
         replace HO_111000 := Qz.mk (Kd.R_below yq50 hb)
         have BK119 := Qz.mk (hbox)
         have GW119 := Qz.mk ((by rw [hg]; exact (qp yq47) : w.heap.size ≤ gb119))
         have GE119 := GW119
         replace HB := Qz.mk (qk yq47 hb)
         have NB101_119 := Qz.mk ((yq52 : gb101 ≠ gb119))
         have NB119_101 := Qz.mk ((yq53 : gb119 ≠ gb101))
         replace BK101 := bkbf29 BK101 yq45 hb
         have NB102_119 := Qz.mk ((yq59 : gb102 ≠ gb119))
         have NB119_102 := Qz.mk ((yq60 : gb119 ≠ gb102))
         replace BK102 := bkbf29 BK102 yq46 hb
         have NB110_119 := Qz.mk ((by rw [hg]; exact Nat.ne_of_lt (qw (g := gb110) (o := .cells #[.slice Ao39 x111000_1.length co39, .int .i64 x111001_1, .int .i64 x111002_1, .int .i64 x111003_1] 32 (0, 0)) yq48) : gb110 ≠ gb119))
         have NB119_110 := Qz.mk ((by rw [hg]; exact Nat.ne_of_gt (qw (g := gb110) (o := .cells #[.slice Ao39 x111000_1.length co39, .int .i64 x111001_1, .int .i64 x111002_1, .int .i64 x111003_1] 32 (0, 0)) yq48) : gb119 ≠ gb110))
         replace BK110 := bkbf29 BK110 yq48 hb
         clear hb hbox hg
         refine hK.out _ _ ⟨(qa BK110.out 0).trans rfl, (qa BK110.out 1).trans rfl, (qa BK110.out 2).trans rfl, (qa BK110.out 3).trans rfl, ((HB.out.cell (World.block_lt_of_cell? w _ hw111_0)).trans hw111_0), ((HB.out.cell (World.block_lt_of_cell? w _ hw111_1)).trans hw111_1), ((HB.out.cell (World.block_lt_of_cell? w _ hw111_2)).trans hw111_2), ((HB.out.cell (World.block_lt_of_cell? w _ hw111_3)).trans hw111_3), ((HB.out.cell (World.block_lt_of_cell? w _ hw111_4)).trans hw111_4)⟩ (fun hHeld => ?_)
         clear hK K
         refine norm_ (a' := ?_) ?_ ?_
         rotate_left
         ·show Act.put _ (some 8) _ = _
          simp only [Act.put, sq1, sq2, sq3, i64_w, i32_w]
          rfl
         refine one_ (i := 5) (N := some 28) bq21 rfl rfl (one_of HT_.out (by kernel_rfl)) (by decide) (fun K hK => ?_)
         refine goes_ Try.func17 (by kernel_rfl) rfl #[.agg #[.slice Ao39 x111000_1.length co39, .int .i64 x111001_1, .int .i64 x111002_1, .int .i64 x111003_1], .agg #[.slice A111_0 ((qq l1 x7_1).f0).length c111_0, .slice A111_1 ((qq l1 x7_1).f1).length c111_1, .int .i64 ((qq l1 x7_1).f2), .int .i64 ((qq l1 x7_1).f3), .int .i64 ((qq l1 x7_1).f4)]] (by rfl) rfl rfl yq51 ?_
         with_reducible refine (spec_Apply.calls k1 _ _ x111000_1 x111001_1 x111002_1 x111003_1 _ _ ((qq l1 x7_1).f0) _ _ ((qq l1 x7_1).f1) ((qq l1 x7_1).f2) ((qq l1 x7_1).f3) ((qq l1 x7_1).f4) t112 t115 t116 t117 false _ ?side1 ?side2 ?side3 ?side4 ?side5 ?side6 A20.out).mono ?_
         (case side1 => exact yq55)
         (case side2 => exact (Kd.R_reads' HO_111000.out).2.1)
         (case side3 => exact yq57)
         (case side4 => exact HC111_0.out)
         (case side5 => exact yq56)
         (case side6 => exact HC111_1.out)
         rintro e w42 ⟨v113, rfl, ho0, hb⟩
         refine ⟨_, rfl, ?_⟩
         have HO114 := Qz.mk (Kd.R_lower (Kd.R_new' ho0 (Kd.R_lt yq50)) (qp yq49))
         replace HO_111000 := Qz.mk (Kd.R_elder' yq50 (Kd.R_base ho0) hb)
         replace BK101 := bkbf29 BK101 yq45 hb
         replace BK102 := bkbf29 BK102 yq46 hb
         replace BK110 := bkbf29 BK110 yq48 hb
         replace BK119 := bkbf29 BK119 yq58 hb
         replace HB := Qz.mk (qk yq49 hb)
         (try clear hb)
         (try clear hk)
         (try clear ho0)
         refine hK.out _ _ ⟨(qa BK110.out 0).trans rfl, (qa BK110.out 1).trans rfl, (qa BK110.out 2).trans rfl, (qa BK110.out 3).trans rfl, ((HB.out.cell (World.block_lt_of_cell? w _ hw111_0)).trans hw111_0), ((HB.out.cell (World.block_lt_of_cell? w _ hw111_1)).trans hw111_1), ((HB.out.cell (World.block_lt_of_cell? w _ hw111_2)).trans hw111_2), ((HB.out.cell (World.block_lt_of_cell? w _ hw111_3)).trans hw111_3), ((HB.out.cell (World.block_lt_of_cell? w _ hw111_4)).trans hw111_4)⟩ (fun hHeld => ?_)
         clear hK K
         refine norm_ (a' := ?_) ?_ ?_
         rotate_left
         ·show Act.put _ (some 28) _ = _
          simp only [Act.put, sq1, sq2, sq3, i64_w, i32_w]
          rfl
         refine pure_ (i := 6) (N := some 22) (v := ?_) (a' := ?_) bq25 rfl rfl (any_of HT_.out (by kernel_rfl)) (fun _ _ _ h => h) (Or.inl ⟨by rfl, ?_⟩) ?_ ?_
         rotate_left
         ·intro w'
          go_simp
          with_reducible rfl
         rotate_left
         ·simp only [Act.put, sq1, sq2, sq3, i64_w, i32_w]
          rfl
         refine pure_ (i := 7) (N := some 29) (v := ?_) (a' := ?_) bq29 rfl rfl (any_of HT_.out (by kernel_rfl)) (fun _ _ _ h => h) (Or.inl ⟨by rfl, ?_⟩) ?_ ?_
         rotate_left
         ·intro w'
          go_simp
          with_reducible rfl
         rotate_left
         ·simp only [Act.put, sq1, sq2, sq3, i64_w, i32_w]
          rfl
         refine pure_ (i := 8) (N := some 30) (v := ?_) (a' := ?_) bq32 rfl rfl (any_of HT_.out (by kernel_rfl)) (fun _ _ _ h => h) (Or.inl ⟨by rfl, ?_⟩) ?_ ?_
         rotate_left
         ·intro w'
          go_simp
          with_reducible rfl
         rotate_left
         ·simp only [Act.put, sq1, sq2, sq3, i64_w, i32_w]
          rfl
         exact norm_ (by simp only [putAll, Act.put, sq1, sq2, sq3]) (hCont (v113, gb119) _ ⟨hHeld, yq62, yq61, yq45, yq46, yq48, yq58, GW119.out, GE119.out, NB101_119.out, NB119_101.out, NB102_119.out, NB119_102.out, NB110_119.out, NB119_110.out, yq49⟩)
       rintro ⟨v113, gb119⟩ w43 ⟨hS_, h0_, h1_, h2_, h3_, h4_, h5_, h6_, h7_, h8_, h9_, h10_, h11_, h12_, h13_, h14_⟩
       have n0_ : Qz (Kd.R k66 66 w43 w.heap.size (fun k_ => some k_ ≠ (.slice Ao39 x111000_1.length co39 : Value).ownBlock) v113 t112) := ⟨h0_⟩
       have n1_ : Qz (Kd.R k66 66 w43 w.heap.size (fun k_ => some k_ ≠ (v113 : Value).ownBlock) (.slice Ao39 x111000_1.length co39) x111000_1) := ⟨h1_⟩
       have n2_ : Qz (w43.heap[gb101]? = some (.cells #[.slice A0_0 l0_0.length c0_0, .int .i64 a0_1, .int .i64 a0_2, .int .i64 a0_3] 32 (0, 0))) := ⟨h2_⟩
       have n3_ : Qz (w43.heap[gb102]? = some (.cells #[.slice none 0 0, .int .i64 x103001_1, .int .i64 x103002_1, .int .i64 x103003_1] 32 (0, 0))) := ⟨h3_⟩
       have n4_ : Qz (w43.heap[gb110]? = some (.cells #[.slice Ao39 x111000_1.length co39, .int .i64 x111001_1, .int .i64 x111002_1, .int .i64 x111003_1] 32 (0, 0))) := ⟨h4_⟩
       have n5_ : Qz (w43.heap[gb119]? = some (.cells #[.slice none 0 0, .int .i64 0, .int .i64 0, .int .i64 0] 32 (0, 0))) := ⟨h5_⟩
       have n6_ : Qz (w.heap.size ≤ gb119) := ⟨h6_⟩
       have n7_ : Qz (w.heap.size ≤ gb119) := ⟨h7_⟩
       have n8_ : Qz (gb101 ≠ gb119) := ⟨h8_⟩
       have n9_ : Qz (gb119 ≠ gb101) := ⟨h9_⟩
       have n10_ : Qz (gb102 ≠ gb119) := ⟨h10_⟩
       have n11_ : Qz (gb119 ≠ gb102) := ⟨h11_⟩
       have n12_ : Qz (gb110 ≠ gb119) := ⟨h12_⟩
       have n13_ : Qz (gb119 ≠ gb110) := ⟨h13_⟩
       have n14_ : Qz (Below w.heap.size w w43) := ⟨h14_⟩
       clear HO_111000
       clear BK101
       clear BK102
       clear BK110
       clear HB
       clear h0_ h1_ h2_ h3_ h4_ h5_ h6_ h7_ h8_ h9_ h10_ h11_ h12_ h13_ h14_
       have HO114 := n0_
       have HO_111000 := n1_
       have BK101 := n2_
       have BK102 := n3_
       have BK110 := n4_
       have BK119 := n5_
       have GW119 := n6_
       have GE119 := n7_
       have NB101_119 := n8_
       have NB119_101 := n9_
       have NB102_119 := n10_
       have NB119_102 := n11_
       have NB110_119 := n12_
       have NB119_110 := n13_
       have HB := n14_
       clear n0_ n1_ n2_ n3_ n4_ n5_ n6_ n7_ n8_ n9_ n10_ n11_ n12_ n13_ n14_
       have hHeld : w43.cell? ⟨gb110, 0, none⟩ = some (.slice Ao39 x111000_1.length co39) ∧ w43.cell? ⟨gb110, 1, none⟩ = some (.int .i64 x111001_1) ∧ w43.cell? ⟨gb110, 2, none⟩ = some (.int .i64 x111002_1) ∧ w43.cell? ⟨gb110, 3, none⟩ = some (.int .i64 x111003_1) ∧ w43.cell? (ad111.add ((x7_1).toNat * 5)) = some (.slice A111_0 ((qq l1 x7_1).f0).length c111_0) ∧ w43.cell? ⟨(ad111.add ((x7_1).toNat * 5)).block, (ad111.add ((x7_1).toNat * 5)).off + 1, none⟩ = some (.slice A111_1 ((qq l1 x7_1).f1).length c111_1) ∧ w43.cell? ⟨(ad111.add ((x7_1).toNat * 5)).block, (ad111.add ((x7_1).toNat * 5)).off + 2, none⟩ = some (.int .i64 ((qq l1 x7_1).f2)) ∧ w43.cell? ⟨(ad111.add ((x7_1).toNat * 5)).block, (ad111.add ((x7_1).toNat * 5)).off + 3, none⟩ = some (.int .i64 ((qq l1 x7_1).f3)) ∧ w43.cell? ⟨(ad111.add ((x7_1).toNat * 5)).block, (ad111.add ((x7_1).toNat * 5)).off + 4, none⟩ = some (.int .i64 ((qq l1 x7_1).f4)) := hS_
       obtain ⟨Ao44, co44, eo44⟩ := Kd.R_slice HO114.out
       (first | subst eo44 | (injection eo44 with f1_ f2_ f3_; have f4_ := f1_.symm; have f5_ := f3_.symm; clear f1_ f2_ f3_; subst f4_; subst f5_))
       refine norm_ (a' := ?_) ?_ ?_
       rotate_left
       ·simp only [putAll, Act.put, sq1, sq2, sq3]
        rfl
       refine one_ (i := 10) (N := none) bq33 rfl rfl (one_of HT_.out (by kernel_rfl)) (by decide) (fun K hK => ?_)
       have hs45 : w43.cell? ⟨gb119, 0, none⟩ = some (.slice none 0 0) := (qa BK119.out 0).trans rfl
       have hfs45 := qc BK119.out 0
       have hns45_0 := NB101_119.out
       have hns45_1 := NB102_119.out
       have hns45_2 := NB110_119.out
       have hms45_0 := NB119_101.out
       have hms45_1 := NB119_102.out
       have hms45_2 := NB119_110.out
       have hs46 : w43.cell? ⟨gb119, 1, none⟩ = some (.int .i64 0) := (qa BK119.out 1).trans rfl
       have hfs46 := qc BK119.out 1
       have hns46_0 := NB101_119.out
       have hns46_1 := NB102_119.out
       have hns46_2 := NB110_119.out
       have hms46_0 := NB119_101.out
       have hms46_1 := NB119_102.out
       have hms46_2 := NB119_110.out
       have hs47 : w43.cell? ⟨gb119, 2, none⟩ = some (.int .i64 0) := (qa BK119.out 2).trans rfl
       have hfs47 := qc BK119.out 2
       have hns47_0 := NB101_119.out
       have hns47_1 := NB102_119.out
       have hns47_2 := NB110_119.out
       have hms47_0 := NB119_101.out
       have hms47_1 := NB119_102.out
       have hms47_2 := NB119_110.out
       have hs48 : w43.cell? ⟨gb119, 3, none⟩ = some (.int .i64 0) := (qa BK119.out 3).trans rfl
       have hfs48 := qc BK119.out 3
       have hns48_0 := NB101_119.out
       have hns48_1 := NB102_119.out
       have hns48_2 := NB110_119.out
       have hms48_0 := NB119_101.out
       have hms48_1 := NB119_102.out
       have hms48_2 := NB119_110.out
       refine skip_ (w1 := ?_) (by rfl) rfl ?_ ?_
       rotate_left
       ·go_simp
        rfl
       refine hK.out _ _ ⟨((qz (p := ⟨gb119, _, none⟩) NB110_119.out _).trans (((qz (p := ⟨gb119, _, none⟩) NB110_119.out _).trans (((qz (p := ⟨gb119, _, none⟩) NB110_119.out _).trans (((qz (p := ⟨gb119, _, none⟩) NB110_119.out _).trans (hHeld.1)))))))), ((qz (p := ⟨gb119, _, none⟩) NB110_119.out _).trans (((qz (p := ⟨gb119, _, none⟩) NB110_119.out _).trans (((qz (p := ⟨gb119, _, none⟩) NB110_119.out _).trans (((qz (p := ⟨gb119, _, none⟩) NB110_119.out _).trans (hHeld.2.1)))))))), ((qz (p := ⟨gb119, _, none⟩) NB110_119.out _).trans (((qz (p := ⟨gb119, _, none⟩) NB110_119.out _).trans (((qz (p := ⟨gb119, _, none⟩) NB110_119.out _).trans (((qz (p := ⟨gb119, _, none⟩) NB110_119.out _).trans (hHeld.2.2.1)))))))), ((qz (p := ⟨gb119, _, none⟩) NB110_119.out _).trans (((qz (p := ⟨gb119, _, none⟩) NB110_119.out _).trans (((qz (p := ⟨gb119, _, none⟩) NB110_119.out _).trans (((qz (p := ⟨gb119, _, none⟩) NB110_119.out _).trans (hHeld.2.2.2.1)))))))), ((qz (p := ⟨gb119, _, none⟩) (by first | exact Nat.ne_of_lt (Nat.lt_of_lt_of_le (by have := World.block_lt_of_cell? _ _ hw111_0; first | rwa [qj] at this | exact this) GW119.out) | (rw [qj]; exact Nat.ne_of_lt (Nat.lt_of_lt_of_le (by have := World.block_lt_of_cell? _ _ hw111_0; first | rwa [qj] at this | exact this) GW119.out)) | (show (Addr.add _ _).block ≠ _; rw [qj]; exact Nat.ne_of_lt (Nat.lt_of_lt_of_le (by have := World.block_lt_of_cell? _ _ hw111_0; first | rwa [qj] at this | exact this) GW119.out)) | (dsimp only; exact Nat.ne_of_lt (Nat.lt_of_lt_of_le (by have := World.block_lt_of_cell? _ _ hw111_0; first | rwa [qj] at this | exact this) GW119.out))) _).trans (((qz (p := ⟨gb119, _, none⟩) (by first | exact Nat.ne_of_lt (Nat.lt_of_lt_of_le (by have := World.block_lt_of_cell? _ _ hw111_0; first | rwa [qj] at this | exact this) GW119.out) | (rw [qj]; exact Nat.ne_of_lt (Nat.lt_of_lt_of_le (by have := World.block_lt_of_cell? _ _ hw111_0; first | rwa [qj] at this | exact this) GW119.out)) | (show (Addr.add _ _).block ≠ _; rw [qj]; exact Nat.ne_of_lt (Nat.lt_of_lt_of_le (by have := World.block_lt_of_cell? _ _ hw111_0; first | rwa [qj] at this | exact this) GW119.out)) | (dsimp only; exact Nat.ne_of_lt (Nat.lt_of_lt_of_le (by have := World.block_lt_of_cell? _ _ hw111_0; first | rwa [qj] at this | exact this) GW119.out))) _).trans (((qz (p := ⟨gb119, _, none⟩) (by first | exact Nat.ne_of_lt (Nat.lt_of_lt_of_le (by have := World.block_lt_of_cell? _ _ hw111_0; first | rwa [qj] at this | exact this) GW119.out) | (rw [qj]; exact Nat.ne_of_lt (Nat.lt_of_lt_of_le (by have := World.block_lt_of_cell? _ _ hw111_0; first | rwa [qj] at this | exact this) GW119.out)) | (show (Addr.add _ _).block ≠ _; rw [qj]; exact Nat.ne_of_lt (Nat.lt_of_lt_of_le (by have := World.block_lt_of_cell? _ _ hw111_0; first | rwa [qj] at this | exact this) GW119.out)) | (dsimp only; exact Nat.ne_of_lt (Nat.lt_of_lt_of_le (by have := World.block_lt_of_cell? _ _ hw111_0; first | rwa [qj] at this | exact this) GW119.out))) _).trans (((qz (p := ⟨gb119, _, none⟩) (by first | exact Nat.ne_of_lt (Nat.lt_of_lt_of_le (by have := World.block_lt_of_cell? _ _ hw111_0; first | rwa [qj] at this | exact this) GW119.out) | (rw [qj]; exact Nat.ne_of_lt (Nat.lt_of_lt_of_le (by have := World.block_lt_of_cell? _ _ hw111_0; first | rwa [qj] at this | exact this) GW119.out)) | (show (Addr.add _ _).block ≠ _; rw [qj]; exact Nat.ne_of_lt (Nat.lt_of_lt_of_le (by have := World.block_lt_of_cell? _ _ hw111_0; first | rwa [qj] at this | exact this) GW119.out)) | (dsimp only; exact Nat.ne_of_lt (Nat.lt_of_lt_of_le (by have := World.block_lt_of_cell? _ _ hw111_0; first | rwa [qj] at this | exact this) GW119.out))) _).trans (hHeld.2.2.2.2.1)))))))), ((qz (p := ⟨gb119, _, none⟩) (by first | exact Nat.ne_of_lt (Nat.lt_of_lt_of_le (by have := World.block_lt_of_cell? _ _ hw111_1; first | rwa [qj] at this | exact this) GW119.out) | (rw [qj]; exact Nat.ne_of_lt (Nat.lt_of_lt_of_le (by have := World.block_lt_of_cell? _ _ hw111_1; first | rwa [qj] at this | exact this) GW119.out)) | (show (Addr.add _ _).block ≠ _; rw [qj]; exact Nat.ne_of_lt (Nat.lt_of_lt_of_le (by have := World.block_lt_of_cell? _ _ hw111_1; first | rwa [qj] at this | exact this) GW119.out)) | (dsimp only; exact Nat.ne_of_lt (Nat.lt_of_lt_of_le (by have := World.block_lt_of_cell? _ _ hw111_1; first | rwa [qj] at this | exact this) GW119.out))) _).trans (((qz (p := ⟨gb119, _, none⟩) (by first | exact Nat.ne_of_lt (Nat.lt_of_lt_of_le (by have := World.block_lt_of_cell? _ _ hw111_1; first | rwa [qj] at this | exact this) GW119.out) | (rw [qj]; exact Nat.ne_of_lt (Nat.lt_of_lt_of_le (by have := World.block_lt_of_cell? _ _ hw111_1; first | rwa [qj] at this | exact this) GW119.out)) | (show (Addr.add _ _).block ≠ _; rw [qj]; exact Nat.ne_of_lt (Nat.lt_of_lt_of_le (by have := World.block_lt_of_cell? _ _ hw111_1; first | rwa [qj] at this | exact this) GW119.out)) | (dsimp only; exact Nat.ne_of_lt (Nat.lt_of_lt_of_le (by have := World.block_lt_of_cell? _ _ hw111_1; first | rwa [qj] at this | exact this) GW119.out))) _).trans (((qz (p := ⟨gb119, _, none⟩) (by first | exact Nat.ne_of_lt (Nat.lt_of_lt_of_le (by have := World.block_lt_of_cell? _ _ hw111_1; first | rwa [qj] at this | exact this) GW119.out) | (rw [qj]; exact Nat.ne_of_lt (Nat.lt_of_lt_of_le (by have := World.block_lt_of_cell? _ _ hw111_1; first | rwa [qj] at this | exact this) GW119.out)) | (show (Addr.add _ _).block ≠ _; rw [qj]; exact Nat.ne_of_lt (Nat.lt_of_lt_of_le (by have := World.block_lt_of_cell? _ _ hw111_1; first | rwa [qj] at this | exact this) GW119.out)) | (dsimp only; exact Nat.ne_of_lt (Nat.lt_of_lt_of_le (by have := World.block_lt_of_cell? _ _ hw111_1; first | rwa [qj] at this | exact this) GW119.out))) _).trans (((qz (p := ⟨gb119, _, none⟩) (by first | exact Nat.ne_of_lt (Nat.lt_of_lt_of_le (by have := World.block_lt_of_cell? _ _ hw111_1; first | rwa [qj] at this | exact this) GW119.out) | (rw [qj]; exact Nat.ne_of_lt (Nat.lt_of_lt_of_le (by have := World.block_lt_of_cell? _ _ hw111_1; first | rwa [qj] at this | exact this) GW119.out)) | (show (Addr.add _ _).block ≠ _; rw [qj]; exact Nat.ne_of_lt (Nat.lt_of_lt_of_le (by have := World.block_lt_of_cell? _ _ hw111_1; first | rwa [qj] at this | exact this) GW119.out)) | (dsimp only; exact Nat.ne_of_lt (Nat.lt_of_lt_of_le (by have := World.block_lt_of_cell? _ _ hw111_1; first | rwa [qj] at this | exact this) GW119.out))) _).trans (hHeld.2.2.2.2.2.1)))))))), ((qz (p := ⟨gb119, _, none⟩) (by first | exact Nat.ne_of_lt (Nat.lt_of_lt_of_le (by have := World.block_lt_of_cell? _ _ hw111_2; first | rwa [qj] at this | exact this) GW119.out) | (rw [qj]; exact Nat.ne_of_lt (Nat.lt_of_lt_of_le (by have := World.block_lt_of_cell? _ _ hw111_2; first | rwa [qj] at this | exact this) GW119.out)) | (show (Addr.add _ _).block ≠ _; rw [qj]; exact Nat.ne_of_lt (Nat.lt_of_lt_of_le (by have := World.block_lt_of_cell? _ _ hw111_2; first | rwa [qj] at this | exact this) GW119.out)) | (dsimp only; exact Nat.ne_of_lt (Nat.lt_of_lt_of_le (by have := World.block_lt_of_cell? _ _ hw111_2; first | rwa [qj] at this | exact this) GW119.out))) _).trans (((qz (p := ⟨gb119, _, none⟩) (by first | exact Nat.ne_of_lt (Nat.lt_of_lt_of_le (by have := World.block_lt_of_cell? _ _ hw111_2; first | rwa [qj] at this | exact this) GW119.out) | (rw [qj]; exact Nat.ne_of_lt (Nat.lt_of_lt_of_le (by have := World.block_lt_of_cell? _ _ hw111_2; first | rwa [qj] at this | exact this) GW119.out)) | (show (Addr.add _ _).block ≠ _; rw [qj]; exact Nat.ne_of_lt (Nat.lt_of_lt_of_le (by have := World.block_lt_of_cell? _ _ hw111_2; first | rwa [qj] at this | exact this) GW119.out)) | (dsimp only; exact Nat.ne_of_lt (Nat.lt_of_lt_of_le (by have := World.block_lt_of_cell? _ _ hw111_2; first | rwa [qj] at this | exact this) GW119.out))) _).trans (((qz (p := ⟨gb119, _, none⟩) (by first | exact Nat.ne_of_lt (Nat.lt_of_lt_of_le (by have := World.block_lt_of_cell? _ _ hw111_2; first | rwa [qj] at this | exact this) GW119.out) | (rw [qj]; exact Nat.ne_of_lt (Nat.lt_of_lt_of_le (by have := World.block_lt_of_cell? _ _ hw111_2; first | rwa [qj] at this | exact this) GW119.out)) | (show (Addr.add _ _).block ≠ _; rw [qj]; exact Nat.ne_of_lt (Nat.lt_of_lt_of_le (by have := World.block_lt_of_cell? _ _ hw111_2; first | rwa [qj] at this | exact this) GW119.out)) | (dsimp only; exact Nat.ne_of_lt (Nat.lt_of_lt_of_le (by have := World.block_lt_of_cell? _ _ hw111_2; first | rwa [qj] at this | exact this) GW119.out))) _).trans (((qz (p := ⟨gb119, _, none⟩) (by first | exact Nat.ne_of_lt (Nat.lt_of_lt_of_le (by have := World.block_lt_of_cell? _ _ hw111_2; first | rwa [qj] at this | exact this) GW119.out) | (rw [qj]; exact Nat.ne_of_lt (Nat.lt_of_lt_of_le (by have := World.block_lt_of_cell? _ _ hw111_2; first | rwa [qj] at this | exact this) GW119.out)) | (show (Addr.add _ _).block ≠ _; rw [qj]; exact Nat.ne_of_lt (Nat.lt_of_lt_of_le (by have := World.block_lt_of_cell? _ _ hw111_2; first | rwa [qj] at this | exact this) GW119.out)) | (dsimp only; exact Nat.ne_of_lt (Nat.lt_of_lt_of_le (by have := World.block_lt_of_cell? _ _ hw111_2; first | rwa [qj] at this | exact this) GW119.out))) _).trans (hHeld.2.2.2.2.2.2.1)))))))), ((qz (p := ⟨gb119, _, none⟩) (by first | exact Nat.ne_of_lt (Nat.lt_of_lt_of_le (by have := World.block_lt_of_cell? _ _ hw111_3; first | rwa [qj] at this | exact this) GW119.out) | (rw [qj]; exact Nat.ne_of_lt (Nat.lt_of_lt_of_le (by have := World.block_lt_of_cell? _ _ hw111_3; first | rwa [qj] at this | exact this) GW119.out)) | (show (Addr.add _ _).block ≠ _; rw [qj]; exact Nat.ne_of_lt (Nat.lt_of_lt_of_le (by have := World.block_lt_of_cell? _ _ hw111_3; first | rwa [qj] at this | exact this) GW119.out)) | (dsimp only; exact Nat.ne_of_lt (Nat.lt_of_lt_of_le (by have := World.block_lt_of_cell? _ _ hw111_3; first | rwa [qj] at this | exact this) GW119.out))) _).trans (((qz (p := ⟨gb119, _, none⟩) (by first | exact Nat.ne_of_lt (Nat.lt_of_lt_of_le (by have := World.block_lt_of_cell? _ _ hw111_3; first | rwa [qj] at this | exact this) GW119.out) | (rw [qj]; exact Nat.ne_of_lt (Nat.lt_of_lt_of_le (by have := World.block_lt_of_cell? _ _ hw111_3; first | rwa [qj] at this | exact this) GW119.out)) | (show (Addr.add _ _).block ≠ _; rw [qj]; exact Nat.ne_of_lt (Nat.lt_of_lt_of_le (by have := World.block_lt_of_cell? _ _ hw111_3; first | rwa [qj] at this | exact this) GW119.out)) | (dsimp only; exact Nat.ne_of_lt (Nat.lt_of_lt_of_le (by have := World.block_lt_of_cell? _ _ hw111_3; first | rwa [qj] at this | exact this) GW119.out))) _).trans (((qz (p := ⟨gb119, _, none⟩) (by first | exact Nat.ne_of_lt (Nat.lt_of_lt_of_le (by have := World.block_lt_of_cell? _ _ hw111_3; first | rwa [qj] at this | exact this) GW119.out) | (rw [qj]; exact Nat.ne_of_lt (Nat.lt_of_lt_of_le (by have := World.block_lt_of_cell? _ _ hw111_3; first | rwa [qj] at this | exact this) GW119.out)) | (show (Addr.add _ _).block ≠ _; rw [qj]; exact Nat.ne_of_lt (Nat.lt_of_lt_of_le (by have := World.block_lt_of_cell? _ _ hw111_3; first | rwa [qj] at this | exact this) GW119.out)) | (dsimp only; exact Nat.ne_of_lt (Nat.lt_of_lt_of_le (by have := World.block_lt_of_cell? _ _ hw111_3; first | rwa [qj] at this | exact this) GW119.out))) _).trans (((qz (p := ⟨gb119, _, none⟩) (by first | exact Nat.ne_of_lt (Nat.lt_of_lt_of_le (by have := World.block_lt_of_cell? _ _ hw111_3; first | rwa [qj] at this | exact this) GW119.out) | (rw [qj]; exact Nat.ne_of_lt (Nat.lt_of_lt_of_le (by have := World.block_lt_of_cell? _ _ hw111_3; first | rwa [qj] at this | exact this) GW119.out)) | (show (Addr.add _ _).block ≠ _; rw [qj]; exact Nat.ne_of_lt (Nat.lt_of_lt_of_le (by have := World.block_lt_of_cell? _ _ hw111_3; first | rwa [qj] at this | exact this) GW119.out)) | (dsimp only; exact Nat.ne_of_lt (Nat.lt_of_lt_of_le (by have := World.block_lt_of_cell? _ _ hw111_3; first | rwa [qj] at this | exact this) GW119.out))) _).trans (hHeld.2.2.2.2.2.2.2.1)))))))), ((qz (p := ⟨gb119, _, none⟩) (by first | exact Nat.ne_of_lt (Nat.lt_of_lt_of_le (by have := World.block_lt_of_cell? _ _ hw111_4; first | rwa [qj] at this | exact this) GW119.out) | (rw [qj]; exact Nat.ne_of_lt (Nat.lt_of_lt_of_le (by have := World.block_lt_of_cell? _ _ hw111_4; first | rwa [qj] at this | exact this) GW119.out)) | (show (Addr.add _ _).block ≠ _; rw [qj]; exact Nat.ne_of_lt (Nat.lt_of_lt_of_le (by have := World.block_lt_of_cell? _ _ hw111_4; first | rwa [qj] at this | exact this) GW119.out)) | (dsimp only; exact Nat.ne_of_lt (Nat.lt_of_lt_of_le (by have := World.block_lt_of_cell? _ _ hw111_4; first | rwa [qj] at this | exact this) GW119.out))) _).trans (((qz (p := ⟨gb119, _, none⟩) (by first | exact Nat.ne_of_lt (Nat.lt_of_lt_of_le (by have := World.block_lt_of_cell? _ _ hw111_4; first | rwa [qj] at this | exact this) GW119.out) | (rw [qj]; exact Nat.ne_of_lt (Nat.lt_of_lt_of_le (by have := World.block_lt_of_cell? _ _ hw111_4; first | rwa [qj] at this | exact this) GW119.out)) | (show (Addr.add _ _).block ≠ _; rw [qj]; exact Nat.ne_of_lt (Nat.lt_of_lt_of_le (by have := World.block_lt_of_cell? _ _ hw111_4; first | rwa [qj] at this | exact this) GW119.out)) | (dsimp only; exact Nat.ne_of_lt (Nat.lt_of_lt_of_le (by have := World.block_lt_of_cell? _ _ hw111_4; first | rwa [qj] at this | exact this) GW119.out))) _).trans (((qz (p := ⟨gb119, _, none⟩) (by first | exact Nat.ne_of_lt (Nat.lt_of_lt_of_le (by have := World.block_lt_of_cell? _ _ hw111_4; first | rwa [qj] at this | exact this) GW119.out) | (rw [qj]; exact Nat.ne_of_lt (Nat.lt_of_lt_of_le (by have := World.block_lt_of_cell? _ _ hw111_4; first | rwa [qj] at this | exact this) GW119.out)) | (show (Addr.add _ _).block ≠ _; rw [qj]; exact Nat.ne_of_lt (Nat.lt_of_lt_of_le (by have := World.block_lt_of_cell? _ _ hw111_4; first | rwa [qj] at this | exact this) GW119.out)) | (dsimp only; exact Nat.ne_of_lt (Nat.lt_of_lt_of_le (by have := World.block_lt_of_cell? _ _ hw111_4; first | rwa [qj] at this | exact this) GW119.out))) _).trans (((qz (p := ⟨gb119, _, none⟩) (by first | exact Nat.ne_of_lt (Nat.lt_of_lt_of_le (by have := World.block_lt_of_cell? _ _ hw111_4; first | rwa [qj] at this | exact this) GW119.out) | (rw [qj]; exact Nat.ne_of_lt (Nat.lt_of_lt_of_le (by have := World.block_lt_of_cell? _ _ hw111_4; first | rwa [qj] at this | exact this) GW119.out)) | (show (Addr.add _ _).block ≠ _; rw [qj]; exact Nat.ne_of_lt (Nat.lt_of_lt_of_le (by have := World.block_lt_of_cell? _ _ hw111_4; first | rwa [qj] at this | exact this) GW119.out)) | (dsimp only; exact Nat.ne_of_lt (Nat.lt_of_lt_of_le (by have := World.block_lt_of_cell? _ _ hw111_4; first | rwa [qj] at this | exact this) GW119.out))) _).trans (hHeld.2.2.2.2.2.2.2.2))))))))⟩ (fun hHeld => ?_)
       clear hK K
       refine pure_ (i := 11) (N := some 9) (v := ?_) (a' := ?_) bq34 rfl rfl (any_of HT_.out (by kernel_rfl)) (fun _ _ _ h => h) (Or.inl ⟨by rfl, ?_⟩) ?_ ?_
       rotate_left
       ·intro w'
        go_simp
        with_reducible rfl
       rotate_left
       ·simp only [Act.put, sq1, sq2, sq3, i64_w, i32_w]
        rfl
       refine done_ (done_of HT_.out (by kernel_rfl)) ?_
       have hnb49 := NB110_101.out
       have hnc49 := NB101_110.out
       have hnb50 := NB110_102.out
       have hnc50 := NB102_110.out
       have hnb51 := NB110_119.out
       have hnc51 := NB119_110.out
       have hcz52_0 := (qa BK110.out 0).trans rfl
       have hcz52_1 := (qa BK110.out 1).trans rfl
       have hcz52_2 := (qa BK110.out 2).trans rfl
       have hcz52_3 := (qa BK110.out 3).trans rfl
       have hfz52_0 := qc BK110.out 0
       have hfz52_1 := qc BK110.out 1
       have hfz52_2 := qc BK110.out 2
       have hfz52_3 := qc BK110.out 3
       have hnb53 := NB102_101.out
       have hnc53 := NB101_102.out
       have hnb54 := NB102_119.out
       have hnc54 := NB119_102.out
       have hcz55_0 := (qa BK102.out 0).trans rfl
       have hcz55_1 := (qa BK102.out 1).trans rfl
       have hcz55_2 := (qa BK102.out 2).trans rfl
       have hcz55_3 := (qa BK102.out 3).trans rfl
       have hfz55_0 := qc BK102.out 0
       have hfz55_1 := qc BK102.out 1
       have hfz55_2 := qc BK102.out 2
       have hfz55_3 := qc BK102.out 3
       try go_wp2
       refine bodyPost_ret (results_ct rfl _ _ gb102 32 #[.slice Ao39 x111000_1.length co39, .int .i64 x111001_1, .int .i64 x111002_1, .int .i64 x111003_1] (0, 0) _ rfl (by (with_reducible repeat (first | refine qg ?_ _ | refine qh ?_ | refine qf ?_ _)); refine qa1 (cs := #[.slice Ao39 x111000_1.length co39, .int .i64 x111001_1, .int .i64 x111002_1, .int .i64 x103003_1]) ?_ 3 _ rfl; (with_reducible repeat (first | refine qg ?_ _ | refine qh ?_ | refine qf ?_ _)); refine qa1 (cs := #[.slice Ao39 x111000_1.length co39, .int .i64 x111001_1, .int .i64 x103002_1, .int .i64 x103003_1]) ?_ 2 _ rfl; (with_reducible repeat (first | refine qg ?_ _ | refine qh ?_ | refine qf ?_ _)); refine qa1 (cs := #[.slice Ao39 x111000_1.length co39, .int .i64 x103001_1, .int .i64 x103002_1, .int .i64 x103003_1]) ?_ 1 _ rfl; (with_reducible repeat (first | refine qg ?_ _ | refine qh ?_ | refine qf ?_ _)); refine qa1 (cs := #[.slice none 0 0, .int .i64 x103001_1, .int .i64 x103002_1, .int .i64 x103003_1]) ?_ 0 _ rfl; (with_reducible repeat (first | refine qg ?_ _ | refine qh ?_ | refine qf ?_ _)); refine qu ?_ NB102_119.out _; (with_reducible repeat (first | refine qg ?_ _ | refine qh ?_ | refine qf ?_ _)); refine qu ?_ NB102_119.out _; (with_reducible repeat (first | refine qg ?_ _ | refine qh ?_ | refine qf ?_ _)); refine qu ?_ NB102_119.out _; (with_reducible repeat (first | refine qg ?_ _ | refine qh ?_ | refine qf ?_ _)); refine qu ?_ NB102_119.out _; (with_reducible repeat (first | refine qg ?_ _ | refine qh ?_ | refine qf ?_ _)); exact BK102.out) Try.underlying32 rfl (by kernel_rfl)) rfl ?_
       exact ⟨_, by first | rfl | (simp [qn, qm] <;> rfl) | (simp [*, qn, qm] <;> rfl), by (with_reducible repeat (first | apply Kd.R_alloc | apply Kd.R_drewN | apply Kd.R_drew)); exact Kd.R_mono (Kd.R_far (p := ⟨gb102, 3, none⟩) (Kd.R_far (p := ⟨gb102, 2, none⟩) (Kd.R_far (p := ⟨gb102, 1, none⟩) (Kd.R_far (p := ⟨gb102, 0, none⟩) (Kd.R_far (p := ⟨gb119, 3, none⟩) (Kd.R_far (p := ⟨gb119, 2, none⟩) (Kd.R_far (p := ⟨gb119, 1, none⟩) (Kd.R_far (p := ⟨gb119, 0, none⟩) (Kd.R_types (Kd.R_types HO_111000.out BK119.out (by decide)) BK102.out (by decide)) (fun _ hk => hk.1.2) (.slice Ao44 t112.length co44)) (fun _ hk => hk.1.2) (.int .i64 t115)) (fun _ hk => hk.1.2) (.int .i64 t116)) (fun _ hk => hk.1.2) (.int .i64 t117)) (fun _ hk => hk.2) (.slice Ao39 x111000_1.length co39)) (fun _ hk => hk.2) (.int .i64 x111001_1)) (fun _ hk => hk.2) (.int .i64 x111002_1)) (fun _ hk => hk.2) (.int .i64 x111003_1)) (fun _ hk => trivial), by repeat (first | (with_reducible first | exact HB.out | apply qd | apply qb | apply qe | refine qi ?_ GE101.out | refine qi ?_ GE102.out | refine qi ?_ GE110.out | refine qi ?_ GE119.out) | exact HB.out)⟩
     ·rw [if_neg c19] at H
      exact absurd H (by simp)
    ·rw [if_neg c18] at H
     have c18b0 : decide (x7_1 < (l1.length : Int)) = false := decide_eq_false c18
     clear c18
     simp only [Option.some.injEq, Prod.mk.injEq] at H
     obtain ⟨rfl, rfl, rfl, rfl, rfl⟩ := H
     have hnb56 := NB110_101.out
     have hnc56 := NB101_110.out
     have hnb57 := NB110_102.out
     have hnc57 := NB102_110.out
     have hcz58_0 := (qa BK110.out 0).trans rfl
     have hcz58_1 := (qa BK110.out 1).trans rfl
     have hcz58_2 := (qa BK110.out 2).trans rfl
     have hcz58_3 := (qa BK110.out 3).trans rfl
     have hfz58_0 := qc BK110.out 0
     have hfz58_1 := qc BK110.out 1
     have hfz58_2 := qc BK110.out 2
     have hfz58_3 := qc BK110.out 3
     obtain ⟨Ao59, co59, eo59⟩ := Kd.R_slice HO_111000.out
     subst eo59
     have hnb60 := NB102_101.out
     have hnc60 := NB101_102.out
     have hcz61_0 := (qa BK102.out 0).trans rfl
     have hcz61_1 := (qa BK102.out 1).trans rfl
     have hcz61_2 := (qa BK102.out 2).trans rfl
     have hcz61_3 := (qa BK102.out 3).trans rfl
     have hfz61_0 := qc BK102.out 0
     have hfz61_1 := qc BK102.out 1
     have hfz61_2 := qc BK102.out 2
     have hfz61_3 := qc BK102.out 3
     go_wp2
     refine bodyPost_ret (results_ct rfl _ _ gb102 32 #[.slice Ao59 x111000_1.length co59, .int .i64 x111001_1, .int .i64 x111002_1, .int .i64 x111003_1] (0, 0) _ rfl (by (with_reducible repeat (first | refine qg ?_ _ | refine qh ?_ | refine qf ?_ _)); refine qa1 (cs := #[.slice Ao59 x111000_1.length co59, .int .i64 x111001_1, .int .i64 x111002_1, .int .i64 x103003_1]) ?_ 3 _ rfl; (with_reducible repeat (first | refine qg ?_ _ | refine qh ?_ | refine qf ?_ _)); refine qa1 (cs := #[.slice Ao59 x111000_1.length co59, .int .i64 x111001_1, .int .i64 x103002_1, .int .i64 x103003_1]) ?_ 2 _ rfl; (with_reducible repeat (first | refine qg ?_ _ | refine qh ?_ | refine qf ?_ _)); refine qa1 (cs := #[.slice Ao59 x111000_1.length co59, .int .i64 x103001_1, .int .i64 x103002_1, .int .i64 x103003_1]) ?_ 1 _ rfl; (with_reducible repeat (first | refine qg ?_ _ | refine qh ?_ | refine qf ?_ _)); refine qa1 (cs := #[.slice none 0 0, .int .i64 x103001_1, .int .i64 x103002_1, .int .i64 x103003_1]) ?_ 0 _ rfl; (with_reducible repeat (first | refine qg ?_ _ | refine qh ?_ | refine qf ?_ _)); exact BK102.out) Try.underlying32 rfl (by kernel_rfl)) rfl ?_
     exact ⟨_, by first | rfl | (simp [qn, qm] <;> rfl) | (simp [*, qn, qm] <;> rfl), by (with_reducible repeat (first | apply Kd.R_alloc | apply Kd.R_drewN | apply Kd.R_drew)); exact Kd.R_mono (Kd.R_far (p := ⟨gb102, 3, none⟩) (Kd.R_far (p := ⟨gb102, 2, none⟩) (Kd.R_far (p := ⟨gb102, 1, none⟩) (Kd.R_far (p := ⟨gb102, 0, none⟩) (Kd.R_types HO_111000.out BK102.out (by decide)) (fun _ hk => hk.2) (.slice Ao59 x111000_1.length co59)) (fun _ hk => hk.2) (.int .i64 x111001_1)) (fun _ hk => hk.2) (.int .i64 x111002_1)) (fun _ hk => hk.2) (.int .i64 x111003_1)) (fun _ hk => trivial), by repeat (first | (with_reducible first | exact HB.out | apply qd | apply qb | apply qe | refine qi ?_ GE101.out | refine qi ?_ GE102.out | refine qi ?_ GE110.out) | exact HB.out)⟩
 ·replace c4 := Bool.eq_false_iff.mpr c4
  subst c4
  have H1 : (some (([] : List (S66)), 0, 0, 0, (-1))) = some (r1, r2, r3, r4, r5) := by rw [if_neg (show ¬ (false = true) by decide)] at H; exact H
  clear H
  have H := H1
  clear H1
  simp only [Option.some.injEq, Prod.mk.injEq] at H
  obtain ⟨rfl, rfl, rfl, rfl, rfl⟩ := H
  go_enter Try.func29, Try.ntmps29
  go_wp2_with (first | ((with_reducible refine qv (N := 2) rfl ?_); refine qt ?hg (N := 2) ?hd (cs := #[.slice A0_0 l0_0.length c0_0, .int .i64 a0_1, .int .i64 a0_2, .int .i64 a0_3]) (t := 32) ?hr ?_; (case hd => rfl); (case hg => rfl); (case hr => exact yq66); intro gb101 hg w62 hbox hb; have BK101 := Qz.mk (hbox); have GW101 := Qz.mk ((by rw [hg]; exact (qp yq65) : w.heap.size ≤ gb101)); have GE101 := GW101; replace HB := Qz.mk (qk yq65 hb); clear hb hbox hg) | ((with_reducible refine qv (N := 4) rfl ?_); refine qt ?hg (N := 4) ?hd (cs := #[.slice none 0 0, .int .i64 0, .int .i64 0, .int .i64 0]) (t := 32) ?hr ?_; (case hd => rfl); (case hg => rfl); (case hr => exact yq66); intro gb102 hg w63 hbox hb; have BK102 := Qz.mk (hbox); have GW102 := Qz.mk ((by rw [hg]; exact (qp yq63) : w.heap.size ≤ gb102)); have GE102 := GW102; replace HB := Qz.mk (qk yq63 hb); have NB101_102 := Qz.mk ((yq52 : gb101 ≠ gb102)); have NB102_101 := Qz.mk ((yq53 : gb102 ≠ gb101)); replace BK101 := bkbf29 BK101 yq45 hb; clear hb hbox hg; have hnb64 := NB101_102.out; have hnc64 := NB102_101.out; have hcz65_0 := (qa BK101.out 0).trans rfl; have hcz65_1 := (qa BK101.out 1).trans rfl; have hcz65_2 := (qa BK101.out 2).trans rfl; have hcz65_3 := (qa BK101.out 3).trans rfl; have hfz65_0 := qc BK101.out 0; have hfz65_1 := qc BK101.out 1; have hfz65_2 := qc BK101.out 2; have hfz65_3 := qc BK101.out 3) | ((with_reducible refine qr (f := 26) rfl ?_); refine goesL_ (some 11) rfl rfl Try.func26 (by kernel_rfl) rfl #[.agg #[.slice A0_0 l0_0.length c0_0, .int .i64 a0_1, .int .i64 a0_2, .int .i64 a0_3]] rfl yq51 ?_; (with_reducible refine (spec_VersionOk.calls k _ _ l0_0 a0_1 a0_2 a0_3 false _ ?side1 ?side2 A3.out).mono ?_); (case side1 => exact yq64); (case side2 => exact HC0_0.out); rintro e w66 ⟨rfl, hb⟩; refine ⟨_, rfl, ?_⟩; replace BK101 := bkbf29 BK101 yq45 hb; replace BK102 := bkbf29 BK102 yq46 hb; replace HB := Qz.mk (qk yq54 hb); (try clear hb); (try clear hk); have hcz67_0 := (qa BK102.out 0).trans rfl; have hcz67_1 := (qa BK102.out 1).trans rfl; have hcz67_2 := (qa BK102.out 2).trans rfl; have hcz67_3 := (qa BK102.out 3).trans rfl; have hfz67_0 := qc BK102.out 0; have hfz67_1 := qc BK102.out 1; have hfz67_2 := qc BK102.out 2; have hfz67_3 := qc BK102.out 3))
  refine bodyPost_ret (results_ct rfl _ _ gb102 32 #[.slice none 0 0, .int .i64 0, .int .i64 0, .int .i64 0] (0, 0) _ rfl (by (with_reducible repeat (first | refine qg ?_ _ | refine qh ?_ | refine qf ?_ _)); refine qa1 (cs := #[.slice none 0 0, .int .i64 0, .int .i64 0, .int .i64 0]) ?_ 3 _ rfl; (with_reducible repeat (first | refine qg ?_ _ | refine qh ?_ | refine qf ?_ _)); refine qa1 (cs := #[.slice none 0 0, .int .i64 0, .int .i64 0, .int .i64 0]) ?_ 2 _ rfl; (with_reducible repeat (first | refine qg ?_ _ | refine qh ?_ | refine qf ?_ _)); refine qa1 (cs := #[.slice none 0 0, .int .i64 0, .int .i64 0, .int .i64 0]) ?_ 1 _ rfl; (with_reducible repeat (first | refine qg ?_ _ | refine qh ?_ | refine qf ?_ _)); refine qa1 (cs := #[.slice none 0 0, .int .i64 0, .int .i64 0, .int .i64 0]) ?_ 0 _ rfl; (with_reducible repeat (first | refine qg ?_ _ | refine qh ?_ | refine qf ?_ _)); exact BK102.out) Try.underlying32 rfl (by kernel_rfl)) rfl ?_
  exact ⟨_, by first | rfl | (simp [qn, qm] <;> rfl) | (simp [*, qn, qm] <;> rfl), by first | exact Kd.R_nil _ _ _ _ _ | exact Kd.N_nil _ _ _ _ _ | exact Kd.V_nil _ _ _ _ _ | exact Kd.Q_nil _ _ _ _ _ | exact Kd.S_nil _ _ _ _ _, by repeat (first | (with_reducible first | exact HB.out | apply qd | apply qb | apply qe | refine qi ?_ GE101.out | refine qi ?_ GE102.out) | exact HB.out)⟩
theorem yq67 {P : Prop} (h : P := by first | (with_reducible assumption) | assumption) : P := h
def laws_toInt64S.l0 : Nat → List Int → List Int → Int → Option (List Int)
 | 0, _, _, _ => none
 | k + 1, x0, x3, x4 => if x4 < (x0.length : Int) then (if 0 ≤ x4 then (if x4 < (x3.length : Int) then (laws_toInt64S.l0 k x0 (x3.set (x4 : Int).toNat (rd x0 x4)) (wrap64 (x4 + 1))) else (none)) else (none)) else (some x3)
def laws_toInt64S.f (k : Nat) (l0 : List Int) : Option (List Int) := if 0 ≤ (l0.length : Int) then (if ((l0.length : Int) : Int).toNat ≤ 35184372088832 then (laws_toInt64S.l0 k l0 (List.replicate ((l0.length : Int) : Int).toNat 0) 0) else (none)) else (none)
set_option maxHeartbeats 8000000 in
set_option maxRecDepth 100000 in
theorem laws_toInt64S.calls (k : Nat) (A0 : Option Addr) (c0 : Nat) (l0 : List Int) (r : List Int) (w : World) (hr0 : Kd.C (Kd.int .i64) w A0 l0.length l0) (hc0 : l0.length ≤ c0) (h : laws_toInt64S.f k l0 = some r) :
  Calls Try.prog 58 #[.slice A0 l0.length c0] w fun e w' => ∃ v0_ : Value, e = .returned (v0_) ∧ Kd.R (Kd.int .i64) 2 w' w.heap.size (fun _ => True) v0_ r ∧ Below w.heap.size w w' := by
 have HR0 := Qz.mk hr0
 have HC0 := Qz.mk hc0
 clear hr0 hc0
 have HB := Qz.mk (Below.refl w.heap.size w)
 have H : (if 0 ≤ (l0.length : Int) then (if ((l0.length : Int) : Int).toNat ≤ 35184372088832 then (laws_toInt64S.l0 k l0 (List.replicate ((l0.length : Int) : Int).toNat 0) 0) else (none)) else (none)) = some r := h
 clear h
 by_cases c2 : 0 ≤ (l0.length : Int)
 ·rw [if_pos c2] at H
  have c2b0 := eq_true c2
  have c2b1 : decide (0 ≤ (l0.length : Int)) = true := decide_eq_true c2
  clear c2
  by_cases c3 : ((l0.length : Int) : Int).toNat ≤ 35184372088832
  ·rw [if_pos c3] at H
   have c3b0 := eq_true c3
   have c3b1 : decide (((l0.length : Int) : Int).toNat ≤ 35184372088832) = true := decide_eq_true c3
   clear c3
   obtain ⟨y101, hy101⟩ : ∃ y_ : List Int, y_ = (List.replicate ((l0.length : Int) : Int).toNat 0) := ⟨_, rfl⟩
   replace H : (laws_toInt64S.l0 k l0 y101 0) = some r := by first | (rw [hy101]; with_reducible exact H) | (have H2_ := (Option.bind_some _ _).symm.trans H; rw [hy101]; with_reducible exact H2_) | (have H2_ := (Option.bind_some _ _).symm.trans H; with_reducible exact H2_) | with_reducible exact H | (rw [hy101]; exact H) | exact H
   have Ny101 := Qz.mk hy101
   clear hy101
   have H' := Qz.mk H
   clear H
   go_enter Try.func58, Try.ntmps58
   go_wp2_with (first | ((with_reducible refine qv (N := 7) rfl ?_); refine Kd.R_make (Kd.int .i64) _ 2 rfl (N := 7) rfl 25 _ _ rfl (l0.length : Int) rfl rfl Try.underlying25 (.int .i64 0) 8 info2 rfl (by decide) (by omega) 0 (ok := fun _ => True) (okp := fun _ => True) rfl (fun _ hk => hk) trivial (of_decide_eq_true yq67) (Nat.le_trans (Nat.mul_le_mul_right _ (of_decide_eq_true yq67 : (l0.length : Int).toNat ≤ 35184372088832)) (by omega)) (Below.refl _ _) (Nat.le_refl _) ?_; intro v102 w4 ho5 hb hg_ hnew_; clear hg_ hnew_; (first | rw [← Ny101.out] at ho5 | (simp only [Int.reduceToNat] at ho5; rw [← Ny101.out] at ho5)); have HO103 := Qz.mk (Kd.R_lower ho5 (qp (by repeat (first | (with_reducible first | exact HB.out | apply qd | apply qb | apply qe) | exact HB.out)))); replace HB := Qz.mk (qk (by repeat (first | (with_reducible first | exact HB.out | apply qd | apply qb | apply qe) | exact HB.out)) hb); clear hb ho5))
   go_loopg [4] k (fun kq v4 w' => ∃ (x3_1 : List Int) (x4_1 : Int), v4 = .int .i64 x4_1 ∧ Qz (laws_toInt64S.l0 kq l0 x3_1 x4_1 = some r) ∧ Qz (kq ≤ k) ∧ Qz (Kd.R (Kd.int .i64) 2 w' w.heap.size (fun _ => True) v102 x3_1) ∧ Qz (Below w.heap.size w w'))
   case atStart => exact ⟨(y101), (0), (by first | rfl | (simp; done) | (simp [*]; done)), H', ⟨Nat.le_refl _⟩, ⟨by (with_reducible repeat (first | apply Kd.R_alloc | apply Kd.R_drewN | apply Kd.R_drew)); exact HO103.out⟩, ⟨by repeat (first | (with_reducible first | exact HB.out | apply qd | apply qb | apply qe) | exact HB.out)⟩⟩
   case round =>
    clear H'
    (try clear c2);(try clear c2b0);(try clear c2b1);(try clear p2);(try clear c3);(try clear c3b0);(try clear c3b1);(try clear c5)
    obtain ⟨x3_1, x4_1, rfl, HA, HK1, HO_3, HB⟩ := hrel
    cases gk with
    | zero => exact absurd HA.out (by simp [laws_toInt64S.l0])
    | succ k1 =>
     have H := HA.out
     clear HA
     simp only [laws_toInt64S.l0] at H
     by_cases c6 : x4_1 < (l0.length : Int)
     ·rw [if_pos c6] at H
      have c6b0 : decide (x4_1 < (l0.length : Int)) = true := decide_eq_true c6
      clear c6
      by_cases c7 : 0 ≤ x4_1
      ·rw [if_pos c7] at H
       have c7b0 : decide (0 ≤ x4_1) = true := decide_eq_true c7
       clear c7
       by_cases c8 : x4_1 < (x3_1.length : Int)
       ·rw [if_pos c8] at H
        have c8b0 : decide (x4_1 < (x3_1.length : Int)) = true := decide_eq_true c8
        clear c8
        obtain ⟨y105, hy105⟩ : ∃ y_ : List Int, y_ = (x3_1.set (x4_1 : Int).toNat (rd l0 x4_1)) := ⟨_, rfl⟩
        replace H : (laws_toInt64S.l0 k1 l0 y105 (wrap64 (x4_1 + 1))) = some r := by first | (rw [hy105]; with_reducible exact H) | (have H2_ := (Option.bind_some _ _).symm.trans H; rw [hy105]; with_reducible exact H2_) | (have H2_ := (Option.bind_some _ _).symm.trans H; with_reducible exact H2_) | with_reducible exact H | (rw [hy105]; exact H) | exact H
        have Ny105 := Qz.mk hy105
        clear hy105
        have H' := Qz.mk H
        clear H
        have p104 : 0 ≤ (x4_1 : Int) := of_decide_eq_true yq67
        have q104 : x4_1 < (l0.length : Int) := of_decide_eq_true yq67
        obtain ⟨ad104, e104, hx104_0⟩ := Kd.at_int HR0.out x4_1 p104 q104
        cases e104
        replace hx104_0 := (HB.out.cell (World.block_lt_of_cell? w _ hx104_0)).trans hx104_0
        replace p104 := eq_true p104
        replace q104 := eq_true q104
        have p9 : 0 ≤ (x4_1 : Int) := of_decide_eq_true yq67
        have q9 : (x4_1 : Int) < ((x3_1.length : Int) : Int) := of_decide_eq_true yq67
        obtain ⟨go9, co9, eo9, gb9, gl9, cl9, HG9⟩ := Kd.R_form HO_3.out (by omega)
        (first | cases eo9 | (injection eo9 with ea_ en_ ec_; (first | subst ea_ | (injection ea_ with ea_; subst ea_)); subst ec_; clear en_))
        have GB9 := Qz.mk gb9
        have GG9 := Qz.mk HG9
        clear gb9 gl9 HG9
        obtain ⟨hx9_0, hf9_0⟩ := Kd.R_celln 0 HO_3.out (x4_1 : Int) p9 q9
        replace p9 := eq_true p9
        replace q9 := eq_true q9
        have HP10 := Kd.R_putg HO_3.out (x4_1 : Int) (rd l0 x4_1)
        go_wp2_with (first | ((with_reducible refine gate_store (t := 2) (p := 20) rfl ?_); refine store_event (t := 2) (p := 20) (v := ?vo_w11) (w1 := (wr.setCell ⟨go9, (x4_1 : Int).toNat, none⟩ (.int .i64 (rd l0 x4_1)))) ?hg ?ho ?hn ?hr ?_; (case ho => rfl); (case hg => rfl); (case hn => rfl); (case hr => first | (go_simp; done) | (go_simp; rfl)); intro w11 hw; have hg : wr.grownBy w11 (some go9) := (by rw [hw]; exact HP10.2); have hp_ : Kd.R (Kd.int .i64) 2 w11 w.heap.size (fun _ => True) (.slice (some ⟨go9, 0, none⟩) x3_1.length co9) y105 := (by rw [hw, Ny105.out]; exact HP10.1); clear HP10; replace HO_3 := Qz.mk (hp_); replace HB := Qz.mk ((by rw [hw]; exact qi (HB.out) GB9.out : Below w.heap.size w w11)); clear hg hw hp_))
        go_roundg k1
        case measure => have := HK1.out; omega
        case rel => exact ⟨(y105), (wrap64 (x4_1 + 1)), (by first | rfl | (simp; done) | (simp [*]; done)), H', ⟨by have := HK1.out; omega⟩, ⟨by (with_reducible repeat (first | apply Kd.R_alloc | apply Kd.R_drewN | apply Kd.R_drew)); exact HO_3.out⟩, ⟨by repeat (first | (with_reducible first | exact HB.out | apply qd | apply qb | apply qe) | exact HB.out)⟩⟩
       ·rw [if_neg c8] at H
        exact absurd H (by simp)
      ·rw [if_neg c7] at H
       exact absurd H (by simp)
     ·rw [if_neg c6] at H
      have c6b0 : decide (x4_1 < (l0.length : Int)) = false := decide_eq_false c6
      clear c6
      obtain rfl := Option.some.inj H
      go_wp2
      go_ret
      exact ⟨_, by first | rfl | (simp [qn, qm] <;> rfl) | (simp [*, qn, qm] <;> rfl), by (with_reducible repeat (first | apply Kd.R_alloc | apply Kd.R_drewN | apply Kd.R_drew)); exact HO_3.out, by repeat (first | (with_reducible first | exact HB.out | apply qd | apply qb | apply qe) | exact HB.out)⟩
  ·rw [if_neg c3] at H
   exact absurd H (by simp)
 ·rw [if_neg c2] at H
  exact absurd H (by simp)
theorem yq68 {P : Prop} (h : P := by repeat (first | (with_reducible first | exact HB.out | apply qd | apply qb | apply qe | refine qi ?_ GE101.out | refine qi ?_ GE102.out | refine qi ?_ GE103.out) | exact HB.out)) : P := h
theorem yq69 {P : Prop} (h : P := by (with_reducible repeat (first | refine qg ?_ _ | refine qh ?_ | refine qf ?_ _)); exact BK101.out) : P := h
theorem yq70 {P : Prop} (h : P := by (with_reducible repeat (first | refine qg ?_ _ | refine qh ?_ | refine qf ?_ _)); exact BK102.out) : P := h
def laws_toEdit.f (k : Nat) (l0_0 : List (S114)) (l0_1 : List Int) (a0_2 : Int) (a0_3 : Int) (a0_4 : Int) : Option ((List (S66)) × List Int × Int × Int × Int) := (laws_toMetaS.f k l0_0).bind fun t104 => ((laws_toInt64S.f k l0_1).bind fun t107 => (some (t104, t107, a0_2, a0_3, a0_4)))
set_option maxHeartbeats 8000000 in
set_option maxRecDepth 100000 in
theorem laws_toEdit.calls (k : Nat) (A0_0 : Option Addr) (c0_0 : Nat) (l0_0 : List (S114)) (A0_1 : Option Addr) (c0_1 : Nat) (l0_1 : List Int) (a0_2 : Int) (a0_3 : Int) (a0_4 : Int) (r1 : List (S66)) (r2 : List Int) (r3 : Int) (r4 : Int) (r5 : Int) (w : World) (hr0_0 : Kd.C k114 w A0_0 l0_0.length l0_0) (hc0_0 : l0_0.length ≤ c0_0) (hr0_1 : Kd.C (Kd.int .i64) w A0_1 l0_1.length l0_1) (hc0_1 : l0_1.length ≤ c0_1) (h : laws_toEdit.f k l0_0 l0_1 a0_2 a0_3 a0_4 = some (r1, r2, r3, r4, r5)) :
  Calls Try.prog 19 #[.agg #[.slice A0_0 l0_0.length c0_0, .slice A0_1 l0_1.length c0_1, .int .i64 a0_2, .int .i64 a0_3, .int .i64 a0_4]] w fun e w' => ∃ v0_ v1_ : Value, e = .returned (.agg #[v0_, v1_, .int .i64 r3, .int .i64 r4, .int .i64 r5]) ∧ Kd.R k66 66 w' w.heap.size (fun _ => True) v0_ r1 ∧ Kd.R (Kd.int .i64) 2 w' w.heap.size (fun _ => True) v1_ r2 ∧ Below w.heap.size w w' := by
 have hu27 := Try.underlying27
 have hu37 := Try.underlying37
 have HR0_0 := Qz.mk hr0_0
 have HC0_0 := Qz.mk hc0_0
 clear hr0_0 hc0_0
 have HR0_1 := Qz.mk hr0_1
 have HC0_1 := Qz.mk hc0_1
 clear hr0_1 hc0_1
 have HB := Qz.mk (Below.refl w.heap.size w)
 have H : ((laws_toMetaS.f k l0_0).bind fun t104 => ((laws_toInt64S.f k l0_1).bind fun t107 => (some (t104, t107, a0_2, a0_3, a0_4)))) = some (r1, r2, r3, r4, r5) := h
 clear h
 replace H := Option.bind_eq_some_iff.mp H
 obtain ⟨t104, A20, H⟩ := H
 replace H : ((laws_toInt64S.f k l0_1).bind fun t107 => (some (t104, t107, a0_2, a0_3, a0_4))) = some (r1, r2, r3, r4, r5) := H
 have A2 := Qz.mk A20
 clear A20
 replace H := Option.bind_eq_some_iff.mp H
 obtain ⟨t107, A30, H⟩ := H
 replace H : (some (t104, t107, a0_2, a0_3, a0_4)) = some (r1, r2, r3, r4, r5) := H
 have A3 := Qz.mk A30
 clear A30
 simp only [Option.some.injEq, Prod.mk.injEq] at H
 obtain ⟨rfl, rfl, rfl, rfl, rfl⟩ := H
 go_enter Try.func19, Try.ntmps19
 go_wp2_with (first | ((with_reducible refine qv (N := 1) rfl ?_); refine qt ?hg (N := 1) ?hd (cs := #[.slice A0_0 l0_0.length c0_0, .slice A0_1 l0_1.length c0_1, .int .i64 a0_2, .int .i64 a0_3, .int .i64 a0_4]) (t := 27) ?hr ?_; (case hd => rfl); (case hg => rfl); (case hr => first | (go_simp; done) | (go_simp; rfl)); intro gb101 hg w4 hbox hb; have BK101 := Qz.mk (hbox); have GW101 := Qz.mk ((by rw [hg]; exact (qp (by repeat (first | (with_reducible first | exact HB.out | apply qd | apply qb | apply qe) | exact HB.out))) : w.heap.size ≤ gb101)); have GE101 := GW101; replace HB := Qz.mk (qk (by repeat (first | (with_reducible first | exact HB.out | apply qd | apply qb | apply qe) | exact HB.out)) hb); clear hb hbox hg) | ((with_reducible refine qv (N := 2) rfl ?_); refine qt ?hg (N := 2) ?hd (cs := #[.slice none 0 0, .slice none 0 0, .int .i64 0, .int .i64 0, .int .i64 0]) (t := 37) ?hr ?_; (case hd => rfl); (case hg => rfl); (case hr => first | (go_simp; done) | (go_simp; rfl)); intro gb102 hg w5 hbox hb; have BK102 := Qz.mk (hbox); have GW102 := Qz.mk ((by rw [hg]; exact (qp (by repeat (first | (with_reducible first | exact HB.out | apply qd | apply qb | apply qe | refine qi ?_ GE101.out) | exact HB.out))) : w.heap.size ≤ gb102)); have GE102 := GW102; replace HB := Qz.mk (qk (by repeat (first | (with_reducible first | exact HB.out | apply qd | apply qb | apply qe | refine qi ?_ GE101.out) | exact HB.out)) hb); have NB101_102 := Qz.mk ((by rw [hg]; exact Nat.ne_of_lt (qw (g := gb101) (o := .cells #[.slice A0_0 l0_0.length c0_0, .slice A0_1 l0_1.length c0_1, .int .i64 a0_2, .int .i64 a0_3, .int .i64 a0_4] 27 (0, 0)) yq69) : gb101 ≠ gb102)); have NB102_101 := Qz.mk ((by rw [hg]; exact Nat.ne_of_gt (qw (g := gb101) (o := .cells #[.slice A0_0 l0_0.length c0_0, .slice A0_1 l0_1.length c0_1, .int .i64 a0_2, .int .i64 a0_3, .int .i64 a0_4] 27 (0, 0)) yq69) : gb102 ≠ gb101)); replace BK101 := Qz.mk (qo (g := gb101) (o := .cells #[.slice A0_0 l0_0.length c0_0, .slice A0_1 l0_1.length c0_1, .int .i64 a0_2, .int .i64 a0_3, .int .i64 a0_4] 27 (0, 0)) yq69 hb); clear hb hbox hg) | ((with_reducible refine qv (N := 3) rfl ?_); refine qt ?hg (N := 3) ?hd (cs := #[.slice none 0 0, .slice none 0 0, .int .i64 0, .int .i64 0, .int .i64 0]) (t := 37) ?hr ?_; (case hd => rfl); (case hg => rfl); (case hr => first | (go_simp; done) | (go_simp; rfl)); intro gb103 hg w6 hbox hb; have BK103 := Qz.mk (hbox); have GW103 := Qz.mk ((by rw [hg]; exact (qp (by repeat (first | (with_reducible first | exact HB.out | apply qd | apply qb | apply qe | refine qi ?_ GE101.out | refine qi ?_ GE102.out) | exact HB.out))) : w.heap.size ≤ gb103)); have GE103 := GW103; replace HB := Qz.mk (qk (by repeat (first | (with_reducible first | exact HB.out | apply qd | apply qb | apply qe | refine qi ?_ GE101.out | refine qi ?_ GE102.out) | exact HB.out)) hb); have NB101_103 := Qz.mk ((by rw [hg]; exact Nat.ne_of_lt (qw (g := gb101) (o := .cells #[.slice A0_0 l0_0.length c0_0, .slice A0_1 l0_1.length c0_1, .int .i64 a0_2, .int .i64 a0_3, .int .i64 a0_4] 27 (0, 0)) yq69) : gb101 ≠ gb103)); have NB103_101 := Qz.mk ((by rw [hg]; exact Nat.ne_of_gt (qw (g := gb101) (o := .cells #[.slice A0_0 l0_0.length c0_0, .slice A0_1 l0_1.length c0_1, .int .i64 a0_2, .int .i64 a0_3, .int .i64 a0_4] 27 (0, 0)) yq69) : gb103 ≠ gb101)); replace BK101 := Qz.mk (qo (g := gb101) (o := .cells #[.slice A0_0 l0_0.length c0_0, .slice A0_1 l0_1.length c0_1, .int .i64 a0_2, .int .i64 a0_3, .int .i64 a0_4] 27 (0, 0)) yq69 hb); have NB102_103 := Qz.mk ((by rw [hg]; exact Nat.ne_of_lt (qw (g := gb102) (o := .cells #[.slice none 0 0, .slice none 0 0, .int .i64 0, .int .i64 0, .int .i64 0] 37 (0, 0)) yq70) : gb102 ≠ gb103)); have NB103_102 := Qz.mk ((by rw [hg]; exact Nat.ne_of_gt (qw (g := gb102) (o := .cells #[.slice none 0 0, .slice none 0 0, .int .i64 0, .int .i64 0, .int .i64 0] 37 (0, 0)) yq70) : gb103 ≠ gb102)); replace BK102 := Qz.mk (qo (g := gb102) (o := .cells #[.slice none 0 0, .slice none 0 0, .int .i64 0, .int .i64 0, .int .i64 0] 37 (0, 0)) yq70 hb); clear hb hbox hg; have hnb7 := NB101_102.out; have hnc7 := NB102_101.out; have hnb8 := NB101_103.out; have hnc8 := NB103_101.out; have hcz9_0 := (qa BK101.out 0).trans rfl; have hcz9_1 := (qa BK101.out 1).trans rfl; have hcz9_2 := (qa BK101.out 2).trans rfl; have hcz9_3 := (qa BK101.out 3).trans rfl; have hcz9_4 := (qa BK101.out 4).trans rfl; have hfz9_0 := qc BK101.out 0; have hfz9_1 := qc BK101.out 1; have hfz9_2 := qc BK101.out 2; have hfz9_3 := qc BK101.out 3; have hfz9_4 := qc BK101.out 4) | ((with_reducible refine qr (f := 57) rfl ?_); refine goesL_ (some 6) rfl rfl Try.func57 (by kernel_rfl) rfl #[.slice A0_0 l0_0.length c0_0] rfl (by (try simp only [List.map_toArray, List.map_cons, List.map_nil]); first | done | rfl | (simp only [List.length_drop, List.length_take]; rfl) | (rw [IntWalk.u64_in _ (by omega)] <;> rfl)) ?_; (with_reducible refine (laws_toMetaS.calls k _ _ l0_0 t104 _ ?side1 ?side2 A2.out).mono ?_); (case side1 => repeat (first | exact (Kd.C_below HR0_0.out HB.out) | (with_reducible refine Kd.C_alloc ?_ _) | (with_reducible refine Kd.C_drewN ?_ _) | (with_reducible refine Kd.C_drew ?_))); (case side2 => exact HC0_0.out); rintro e w10 ⟨v105, rfl, ho0, hb⟩; refine ⟨_, rfl, ?_⟩; have HO106 := Qz.mk (Kd.R_lower ho0 (qp yq68)); replace BK101 := Qz.mk (qo (g := gb101) (o := .cells #[.slice A0_0 l0_0.length c0_0, .slice A0_1 l0_1.length c0_1, .int .i64 a0_2, .int .i64 a0_3, .int .i64 a0_4] 27 (0, 0)) yq69 hb); replace BK102 := Qz.mk (qo (g := gb102) (o := .cells #[.slice none 0 0, .slice none 0 0, .int .i64 0, .int .i64 0, .int .i64 0] 37 (0, 0)) yq70 hb); replace BK103 := Qz.mk (qo (g := gb103) (o := .cells #[.slice none 0 0, .slice none 0 0, .int .i64 0, .int .i64 0, .int .i64 0] 37 (0, 0)) (by (with_reducible repeat (first | refine qg ?_ _ | refine qh ?_ | refine qf ?_ _)); exact BK103.out) hb); replace HB := Qz.mk (qk yq68 hb); (try clear hb); (try clear hk); (try clear ho0); obtain ⟨Ao11, co11, eo11⟩ := Kd.R_slice HO106.out; subst eo11; have hnb12 := NB103_102.out; have hnc12 := NB102_103.out; have hcz13_0 := (qa BK103.out 0).trans rfl; have hcz13_1 := (qa BK103.out 1).trans rfl; have hcz13_2 := (qa BK103.out 2).trans rfl; have hcz13_3 := (qa BK103.out 3).trans rfl; have hcz13_4 := (qa BK103.out 4).trans rfl; have hfz13_0 := qc BK103.out 0; have hfz13_1 := qc BK103.out 1; have hfz13_2 := qc BK103.out 2; have hfz13_3 := qc BK103.out 3; have hfz13_4 := qc BK103.out 4; have hcz14_0 := (qa BK101.out 0).trans rfl; have hcz14_1 := (qa BK101.out 1).trans rfl; have hcz14_2 := (qa BK101.out 2).trans rfl; have hcz14_3 := (qa BK101.out 3).trans rfl; have hcz14_4 := (qa BK101.out 4).trans rfl; have hfz14_0 := qc BK101.out 0; have hfz14_1 := qc BK101.out 1; have hfz14_2 := qc BK101.out 2; have hfz14_3 := qc BK101.out 3; have hfz14_4 := qc BK101.out 4) | ((with_reducible refine qr (f := 58) rfl ?_); refine goesL_ (some 10) rfl rfl Try.func58 (by kernel_rfl) rfl #[.slice A0_1 l0_1.length c0_1] rfl (by (try simp only [List.map_toArray, List.map_cons, List.map_nil]); first | done | rfl | (simp only [List.length_drop, List.length_take]; rfl) | (rw [IntWalk.u64_in _ (by omega)] <;> rfl)) ?_; (with_reducible refine (laws_toInt64S.calls k _ _ l0_1 t107 _ ?side1 ?side2 A3.out).mono ?_); (case side1 => exact Kd.C_below HR0_1.out yq68); (case side2 => exact HC0_1.out); rintro e w15 ⟨v108, rfl, ho0, hb⟩; refine ⟨_, rfl, ?_⟩; replace HO106 := Qz.mk (Kd.R_below (by (with_reducible repeat (first | apply Kd.R_alloc | apply Kd.R_drewN | apply Kd.R_drew)); exact (Kd.R_mono (Kd.R_far (p := ⟨gb103, 0, none⟩) (Kd.R_types HO106.out BK103.out (by decide)) (fun _ hk => hk.2) (.slice Ao11 t104.length co11)) (fun _ h_ => h_.1))) hb); have HO109 := Qz.mk (Kd.R_lower ho0 (qp yq68)); replace BK101 := Qz.mk (qo (g := gb101) (o := .cells #[.slice A0_0 l0_0.length c0_0, .slice A0_1 l0_1.length c0_1, .int .i64 a0_2, .int .i64 a0_3, .int .i64 a0_4] 27 (0, 0)) (by (with_reducible repeat (first | refine qg ?_ _ | refine qh ?_ | refine qf ?_ _)); refine qu ?_ NB101_103.out _; (with_reducible repeat (first | refine qg ?_ _ | refine qh ?_ | refine qf ?_ _)); exact BK101.out) hb); replace BK102 := Qz.mk (qo (g := gb102) (o := .cells #[.slice none 0 0, .slice none 0 0, .int .i64 0, .int .i64 0, .int .i64 0] 37 (0, 0)) (by (with_reducible repeat (first | refine qg ?_ _ | refine qh ?_ | refine qf ?_ _)); refine qu ?_ NB102_103.out _; (with_reducible repeat (first | refine qg ?_ _ | refine qh ?_ | refine qf ?_ _)); exact BK102.out) hb); replace BK103 := Qz.mk (qo (g := gb103) (o := .cells #[.slice Ao11 t104.length co11, .slice none 0 0, .int .i64 0, .int .i64 0, .int .i64 0] 37 (0, 0)) (by (with_reducible repeat (first | refine qg ?_ _ | refine qh ?_ | refine qf ?_ _)); refine qa1 (cs := #[.slice none 0 0, .slice none 0 0, .int .i64 0, .int .i64 0, .int .i64 0]) ?_ 0 _ rfl; (with_reducible repeat (first | refine qg ?_ _ | refine qh ?_ | refine qf ?_ _)); exact BK103.out) hb); replace HB := Qz.mk (qk yq68 hb); (try clear hb); (try clear hk); (try clear ho0); obtain ⟨Ao16, co16, eo16⟩ := Kd.R_slice HO109.out; subst eo16; have hcz17_0 := (qa BK103.out 0).trans rfl; have hcz17_1 := (qa BK103.out 1).trans rfl; have hcz17_2 := (qa BK103.out 2).trans rfl; have hcz17_3 := (qa BK103.out 3).trans rfl; have hcz17_4 := (qa BK103.out 4).trans rfl; have hfz17_0 := qc BK103.out 0; have hfz17_1 := qc BK103.out 1; have hfz17_2 := qc BK103.out 2; have hfz17_3 := qc BK103.out 3; have hfz17_4 := qc BK103.out 4; have hcz18_0 := (qa BK101.out 0).trans rfl; have hcz18_1 := (qa BK101.out 1).trans rfl; have hcz18_2 := (qa BK101.out 2).trans rfl; have hcz18_3 := (qa BK101.out 3).trans rfl; have hcz18_4 := (qa BK101.out 4).trans rfl; have hfz18_0 := qc BK101.out 0; have hfz18_1 := qc BK101.out 1; have hfz18_2 := qc BK101.out 2; have hfz18_3 := qc BK101.out 3; have hfz18_4 := qc BK101.out 4; have hcz19_0 := (qa BK102.out 0).trans rfl; have hcz19_1 := (qa BK102.out 1).trans rfl; have hcz19_2 := (qa BK102.out 2).trans rfl; have hcz19_3 := (qa BK102.out 3).trans rfl; have hcz19_4 := (qa BK102.out 4).trans rfl; have hfz19_0 := qc BK102.out 0; have hfz19_1 := qc BK102.out 1; have hfz19_2 := qc BK102.out 2; have hfz19_3 := qc BK102.out 3; have hfz19_4 := qc BK102.out 4))
 refine bodyPost_ret (results_cell_row rfl _ _ gb102 37 #[.slice Ao11 t104.length co11, .slice Ao16 t107.length co16, .int .i64 a0_2, .int .i64 a0_3, .int .i64 a0_4] (0, 0) _ rfl (by (with_reducible repeat (first | refine qg ?_ _ | refine qh ?_ | refine qf ?_ _)); refine qa1 (cs := #[.slice Ao11 t104.length co11, .slice Ao16 t107.length co16, .int .i64 a0_2, .int .i64 a0_3, .int .i64 0]) ?_ 4 _ rfl; (with_reducible repeat (first | refine qg ?_ _ | refine qh ?_ | refine qf ?_ _)); refine qa1 (cs := #[.slice Ao11 t104.length co11, .slice Ao16 t107.length co16, .int .i64 a0_2, .int .i64 0, .int .i64 0]) ?_ 3 _ rfl; (with_reducible repeat (first | refine qg ?_ _ | refine qh ?_ | refine qf ?_ _)); refine qa1 (cs := #[.slice Ao11 t104.length co11, .slice Ao16 t107.length co16, .int .i64 0, .int .i64 0, .int .i64 0]) ?_ 2 _ rfl; (with_reducible repeat (first | refine qg ?_ _ | refine qh ?_ | refine qf ?_ _)); refine qa1 (cs := #[.slice Ao11 t104.length co11, .slice none 0 0, .int .i64 0, .int .i64 0, .int .i64 0]) ?_ 1 _ rfl; (with_reducible repeat (first | refine qg ?_ _ | refine qh ?_ | refine qf ?_ _)); refine qa1 (cs := #[.slice none 0 0, .slice none 0 0, .int .i64 0, .int .i64 0, .int .i64 0]) ?_ 0 _ rfl; (with_reducible repeat (first | refine qg ?_ _ | refine qh ?_ | refine qf ?_ _)); refine qu ?_ NB102_103.out _; (with_reducible repeat (first | refine qg ?_ _ | refine qh ?_ | refine qf ?_ _)); refine qu ?_ NB102_103.out _; (with_reducible repeat (first | refine qg ?_ _ | refine qh ?_ | refine qf ?_ _)); refine qu ?_ NB102_103.out _; (with_reducible repeat (first | refine qg ?_ _ | refine qh ?_ | refine qf ?_ _)); refine qu ?_ NB102_103.out _; (with_reducible repeat (first | refine qg ?_ _ | refine qh ?_ | refine qf ?_ _)); exact BK102.out) Try.underlying37 rfl (by kernel_rfl)) rfl ?_
 exact ⟨_, _, by first | rfl | (simp [qn, qm] <;> rfl) | (simp [*, qn, qm] <;> rfl), by (with_reducible repeat (first | apply Kd.R_alloc | apply Kd.R_drewN | apply Kd.R_drew)); exact Kd.R_mono (Kd.R_far (p := ⟨gb102, 4, none⟩) (Kd.R_far (p := ⟨gb102, 3, none⟩) (Kd.R_far (p := ⟨gb102, 2, none⟩) (Kd.R_far (p := ⟨gb102, 1, none⟩) (Kd.R_far (p := ⟨gb102, 0, none⟩) (Kd.R_far (p := ⟨gb103, 4, none⟩) (Kd.R_far (p := ⟨gb103, 3, none⟩) (Kd.R_far (p := ⟨gb103, 2, none⟩) (Kd.R_far (p := ⟨gb103, 1, none⟩) (Kd.R_types (Kd.R_types HO106.out BK103.out (by decide)) BK102.out (by decide)) (fun _ hk => hk.1.2) (.slice Ao16 t107.length co16)) (fun _ hk => hk.1.2) (.int .i64 a0_2)) (fun _ hk => hk.1.2) (.int .i64 a0_3)) (fun _ hk => hk.1.2) (.int .i64 a0_4)) (fun _ hk => hk.2) (.slice Ao11 t104.length co11)) (fun _ hk => hk.2) (.slice Ao16 t107.length co16)) (fun _ hk => hk.2) (.int .i64 a0_2)) (fun _ hk => hk.2) (.int .i64 a0_3)) (fun _ hk => hk.2) (.int .i64 a0_4)) (fun _ hk => trivial), by (with_reducible repeat (first | apply Kd.R_alloc | apply Kd.R_drewN | apply Kd.R_drew)); exact Kd.R_mono (Kd.R_far (p := ⟨gb102, 4, none⟩) (Kd.R_far (p := ⟨gb102, 3, none⟩) (Kd.R_far (p := ⟨gb102, 2, none⟩) (Kd.R_far (p := ⟨gb102, 1, none⟩) (Kd.R_far (p := ⟨gb102, 0, none⟩) (Kd.R_far (p := ⟨gb103, 4, none⟩) (Kd.R_far (p := ⟨gb103, 3, none⟩) (Kd.R_far (p := ⟨gb103, 2, none⟩) (Kd.R_far (p := ⟨gb103, 1, none⟩) (Kd.R_types (Kd.R_types HO109.out BK103.out (by decide)) BK102.out (by decide)) (fun _ hk => hk.1.2) (.slice Ao16 t107.length co16)) (fun _ hk => hk.1.2) (.int .i64 a0_2)) (fun _ hk => hk.1.2) (.int .i64 a0_3)) (fun _ hk => hk.1.2) (.int .i64 a0_4)) (fun _ hk => hk.2) (.slice Ao11 t104.length co11)) (fun _ hk => hk.2) (.slice Ao16 t107.length co16)) (fun _ hk => hk.2) (.int .i64 a0_2)) (fun _ hk => hk.2) (.int .i64 a0_3)) (fun _ hk => hk.2) (.int .i64 a0_4)) (fun _ hk => trivial), by repeat (first | (with_reducible first | exact HB.out | apply qd | apply qb | apply qe | refine qi ?_ GE101.out | refine qi ?_ GE102.out | refine qi ?_ GE103.out) | exact HB.out)⟩
end Go.Proofs.Ytcgejabkjljeeaa.P
end
