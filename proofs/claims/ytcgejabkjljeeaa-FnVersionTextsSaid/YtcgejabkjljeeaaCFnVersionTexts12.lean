/- Proved: the law FnVersionTexts of the given program returns true for every input of its Go types and leaves each argument as it was; no condition. (Part 13 of 15.) -/
import Derived.Test.YtcgejabkjljeeaaCFnVersionTexts4
import Derived.Test.YtcgejabkjljeeaaCFnVersionTexts7
import Derived.Test.YtcgejabkjljeeaaCFnVersionTexts11
import Derived.OpenShut
import Derived.Test.YtcgejabkjljeeaaCFnVersionTexts8
import Derived.Test.YtcgejabkjljeeaaCFnVersionTexts9
import Derived.Test.YtcgejabkjljeeaaCFnVersionTexts10
import Derived.Lib.EndianBits
import Derived.Test.YtcgejabkjljeeaaCFnVersionTexts6
section
namespace Go.Proofs.Ytcgejabkjljeeaa.P
open Go.RowKit Go.Proofs.YtcgejabkjljeeaaW.PrintWords Go.Proofs.YtcgejabkjljeeaaW.PrintLast Go.Proofs.YtcgejabkjljeeaaW.PrintMore
attribute [local go_sem] qk1 qj1 ql1 qf1 qd1 qn1 qm1 qa1 qz qe1 qc1
set_option linter.unusedVariables false
set_option linter.unusedSimpArgs false
theorem xor_comm32 (a b : Int) : Go.bits .xor .u32 a b = Go.bits .xor .u32 b a := by unfold Go.bits; simp [BitVec.xor_comm]
theorem and_nat32 (a b : Nat) (ha : a < 4294967296) (hb : b < 4294967296) : Go.bits .and .u32 (a : Int) (b : Int) = ((a &&& b : Nat) : Int) := by
 have hx : a &&& b < 2 ^ 32 := Nat.and_lt_two_pow _ (by omega)
 have h1 : (BitVec.ofInt 32 (a : Int)).toNat = a := by
  rw [BitVec.ofInt_natCast, BitVec.toNat_ofNat]; exact Nat.mod_eq_of_lt (by omega)
 have h2 : (BitVec.ofInt 32 (b : Int)).toNat = b := by
  rw [BitVec.ofInt_natCast, BitVec.toNat_ofNat]; exact Nat.mod_eq_of_lt (by omega)
 show IntKind.u32.wrap ((BitVec.ofInt 32 (a : Int) &&& BitVec.ofInt 32 (b : Int)).toNat : Int) = _
 rw [BitVec.toNat_and, h1, h2, show IntKind.u32.wrap ((a &&& b : Nat) : Int) = ((a &&& b : Nat) : Int) % 4294967296 from by simp [IntKind.wrap, IntKind.bits, IntKind.signed]]
 omega
theorem and_one32 (x : Int) (h0 : 0 ≤ x) (h1 : x < 4294967296) : Go.bits .and .u32 x 1 = x % 2 := by
 have h := and_nat32 x.toNat 1 (by omega) (by omega)
 rw [Nat.and_one_is_mod, Int.toNat_of_nonneg h0] at h
 have h2 : ((x.toNat % 2 : Nat) : Int) = x % 2 := by omega
 exact h.trans h2
theorem xor_range32 (a b : Int) : 0 ≤ Go.bits .xor .u32 a b ∧ Go.bits .xor .u32 a b < 4294967296 := by
 have := wf_bits .xor .u32 a b
 simp [Lit.wf, IntKind.min, IntKind.max, IntKind.signed, IntKind.bits] at this
 omega
def cr8 : Nat → Int → Int
 | 0, x => x
 | d + 1, x => cr8 d (if x % 2 = 1 then Go.bits .xor .u32 (x / 2) 2197175160 else x / 2)
def crG (s : ByteArray) : Nat → Nat → Int → Int
 | _, 0, x => Go.bits .xor .u32 x 4294967295
 | i, d + 1, x => crG s (i + 1) d (cr8 8 (Go.bits .xor .u32 x ((bt s (i : Int)) % 4294967296)))
def crc (s : ByteArray) : Int := crG s 0 s.size 4294967295
theorem crG_range (s : ByteArray) : ∀ (d i : Nat) (x : Int), 0 ≤ crG s i d x ∧ crG s i d x < 4294967296
 | 0, i, x => xor_range32 _ _
 | d + 1, i, x => crG_range s d (i + 1) _
theorem crc_range (s : ByteArray) : 0 ≤ crc s ∧ crc s < 4294967296 := crG_range s _ _ _
theorem crc_ev (s : ByteArray) (hs : s.size ≤ 4611686018427387900) : Ev (fun k => impl_Crc.f k s) (crc s) := by
 unfold impl_Crc.f crc
 have key : ∀ (d i : Nat), i + d = s.size → ∀ x : Int, 0 ≤ x → x < 4294967296 → Ev (fun k => impl_Crc.l0 k s x (s.size : Int) (i : Int)) (crG s i d x) := by
  intro d
  induction d with
  | zero =>
   intro i hi x h0 h1
   refine Ev.step (fun k => impl_Crc.l0.eq_2 ..) ?_
   exact Ev.neg (by omega) ((Ev.now _).eqr (xor_comm32 _ _))
  | succ d ih =>
   intro i hi x h0 h1
   have inner : ∀ (e j : Nat), j + e = 8 → ∀ y : Int, 0 ≤ y → y < 4294967296 → cr8 8 (Go.bits .xor .u32 x ((bt s (i : Int)) % 4294967296)) = cr8 e y → Ev (fun k => impl_Crc.l1 k s y (s.size : Int) (i : Int) (j : Int)) (crG s i (d + 1) x) := by
    intro e
    induction e with
    | zero =>
     intro j hj y h0 h1 he
     refine Ev.step (fun k => impl_Crc.l1.eq_2 ..) ?_
     rw [wsucc (show i < 4611686018427387904 by omega)]
     refine Ev.neg (by omega) ((ih (i + 1) (by omega) y h0 h1).eqr ?_)
     rw [crG, he]
     rfl
    | succ e ih2 =>
     intro j hj y h0 h1 he
     rw [show cr8 (e + 1) y = cr8 e (if y % 2 = 1 then Go.bits .xor .u32 (y / 2) 2197175160 else y / 2) from rfl] at he
     refine Ev.step (fun k => impl_Crc.l1.eq_2 ..) ?_
     rw [wsucc (show j < 4611686018427387904 by omega), and_one32 y h0 h1]
     refine Ev.pos (by omega) ?_
     by_cases c : y % 2 = 1
     ·rw [if_pos c] at he
      have hr := xor_range32 (y / 2) 2197175160
      exact Ev.pos c (ih2 (j + 1) (by omega) _ hr.1 hr.2 he)
     ·rw [if_neg c] at he
      exact Ev.neg c (ih2 (j + 1) (by omega) _ (by omega) (by omega) he)
   have hr := xor_range32 x ((bt s (i : Int)) % 4294967296)
   refine Ev.step (fun k => impl_Crc.l0.eq_2 ..) ?_
   exact Ev.pos (by omega) (Ev.pos (by omega) (Ev.pos (by omega) (inner 8 0 rfl _ hr.1 hr.2 rfl)))
 exact key s.size 0 (by omega) _ (by omega) (by omega)
theorem sCrc_ev (s : ByteArray) (hs : s.size ≤ 4611686018427387900) : Ev (fun k => spec_Crc.f k s) (crc s) := by
 unfold spec_Crc.f crc
 have key : ∀ (d i : Nat), i + d = s.size → ∀ x : Int, 0 ≤ x → x < 4294967296 → Ev (fun k => spec_Crc.l0 k s x (i : Int)) (crG s i d x) := by
  intro d
  induction d with
  | zero =>
   intro i hi x h0 h1
   refine Ev.step (fun k => spec_Crc.l0.eq_2 ..) ?_
   exact Ev.neg (by omega) (Ev.now _)
  | succ d ih =>
   intro i hi x h0 h1
   have inner : ∀ (e j : Nat), j + e = 8 → ∀ y : Int, 0 ≤ y → y < 4294967296 → cr8 8 (Go.bits .xor .u32 x ((bt s (i : Int)) % 4294967296)) = cr8 e y → Ev (fun k => spec_Crc.l1 k s y (i : Int) (j : Int)) (crG s i (d + 1) x) := by
    intro e
    induction e with
    | zero =>
     intro j hj y h0 h1 he
     refine Ev.step (fun k => spec_Crc.l1.eq_2 ..) ?_
     rw [wsucc (show i < 4611686018427387904 by omega)]
     refine Ev.neg (by omega) ((ih (i + 1) (by omega) y h0 h1).eqr ?_)
     rw [crG, he]
     rfl
    | succ e ih2 =>
     intro j hj y h0 h1 he
     rw [show cr8 (e + 1) y = cr8 e (if y % 2 = 1 then Go.bits .xor .u32 (y / 2) 2197175160 else y / 2) from rfl] at he
     refine Ev.step (fun k => spec_Crc.l1.eq_2 ..) ?_
     rw [wsucc (show j < 4611686018427387904 by omega), Int.tmod_eq_emod_of_nonneg h0]
     refine Ev.pos (by omega) ?_
     by_cases c : y % 2 = 1
     ·rw [if_pos c] at he
      have hr := xor_range32 (y / 2) 2197175160
      exact Ev.pos c (ih2 (j + 1) (by omega) _ hr.1 hr.2 he)
     ·rw [if_neg c] at he
      exact Ev.neg c (ih2 (j + 1) (by omega) _ (by omega) (by omega) he)
   have hr := xor_range32 x ((bt s (i : Int)) % 4294967296)
   refine Ev.step (fun k => spec_Crc.l0.eq_2 ..) ?_
   exact Ev.pos (by omega) (Ev.pos (by omega) (inner 8 0 rfl _ hr.1 hr.2 rfl))
 exact key s.size 0 (by omega) _ (by omega) (by omega)
def sec (t : ByteArray) : ByteArray := pt t ++ pf (crc t)
theorem section_ev (t : ByteArray) (h : t.size ≤ 2305843009213693952) : Ev (fun k => impl_section.f k t) (sec t) := by
 unfold impl_section.f
 have h1 := pt_size t (by omega)
 have h2 := pf_size (crc t)
 exact Ev.bind (putText_ev t (by omega)) (Ev.bind (crc_ev t (by omega)) (Ev.bindS (putFixed_ev _) (Ev.pos (by omega) (Ev.now _))))
theorem sSection_ev (t : ByteArray) (h : t.size ≤ 2305843009213693952) : Ev (fun k => spec_l10Section.f k t) (sec t) := by
 unfold spec_l10Section.f
 have h1 := pt_size t (by omega)
 have h2 := pf_size (crc t)
 exact Ev.bind (sPutText_ev t (by omega)) (Ev.bind (sCrc_ev t (by omega)) (Ev.bindS (sPutFixed_ev _) (Ev.pos (by omega) (Ev.now _))))
end Go.Proofs.Ytcgejabkjljeeaa.P
end

section
namespace Go.Proofs.Ytcgejabkjljeeaa.P
open Go.RowKit Go.Proofs.YtcgejabkjljeeaaW.PrintWords Go.Proofs.YtcgejabkjljeeaaW.PrintLast Go.Proofs.YtcgejabkjljeeaaW.PrintMore
attribute [local go_sem] qk1 qj1 ql1 qf1 qd1 qn1 qm1 qa1 qz qe1 qc1
set_option linter.unusedVariables false
set_option linter.unusedSimpArgs false
def okc (l : List Int) : Prop := l.length ≤ 1048576 ∧ ∀ x ∈ l, 0 ≤ x ∧ x ≤ 255
def okp (l : List Int) (p : Int) : Prop := 0 ≤ p ∧ p ≤ (l.length : Int)
theorem okc_rd {l : List Int} (h : okc l) (i : Int) : 0 ≤ rd l i ∧ rd l i ≤ 255 := by
 unfold rd
 rw [List.getD_eq_getElem?_getD]
 by_cases c : i.toNat < l.length
 ·rw [List.getElem?_eq_getElem c]
  exact h.2 _ (List.getElem_mem c)
 ·rw [List.getElem?_eq_none (by omega)]
  simp
theorem next_ev {l : List Int} {p : Int} (h : okc l) (hp : okp l p) : ∃ r, spec_l1Rd_next.f l p = some r ∧ (0 ≤ r.1 ∧ r.1 ≤ 255) ∧ okp l r.2 := by
 obtain ⟨h1, h2⟩ := hp
 have hl := h.1
 unfold spec_l1Rd_next.f
 by_cases c : p ≥ (l.length : Int)
 ·exact ⟨_, if_pos c, by simp, h1, h2⟩
 ·have e1 : wrap64 (p + 1) = p + 1 := wid (by omega) (by omega)
  have e2 : wrap64 (p + 1 - 1) = p := by rw [wid (by omega) (by omega)]; omega
  obtain ⟨r0, r1⟩ := okc_rd h p
  rw [if_neg c, e1, e2, if_pos h1, if_pos (by omega)]
  refine ⟨_, rfl, ?_, ?_⟩
  ·show 0 ≤ wrap64 (rd l p) ∧ wrap64 (rd l p) ≤ 255
   rw [wid (by omega) (by omega)]
   exact ⟨r0, r1⟩
  ·exact ⟨by show 0 ≤ p + 1; omega, by show p + 1 ≤ _; omega⟩
theorem below_ev {l : List Int} {p : Int} (h : okc l) (hp : okp l p) (n : Int) (hn : 1 ≤ n) : ∃ r, spec_l1Rd_below.f l p n = some r ∧ (0 ≤ r.1 ∧ r.1 < n) ∧ okp l r.2 := by
 unfold spec_l1Rd_below.f
 by_cases c : n ≤ 1
 ·exact ⟨_, if_pos c, ⟨by simp, by show (0 : Int) < n; omega⟩, hp⟩
 ·rw [if_neg c]
  obtain ⟨a, ha, ha1, ha2⟩ := next_ev h hp
  by_cases c2 : n ≤ 256
  ·rw [if_pos c2, ha]
   refine ⟨(Int.tmod a.1 n, a.2), by rw [Option.bind_some, if_neg (by omega)], ?_, ha2⟩
   show 0 ≤ Int.tmod a.1 n ∧ Int.tmod a.1 n < n
   rw [Int.tmod_eq_emod_of_nonneg ha1.1]
   exact ⟨Int.emod_nonneg _ (by omega), Int.emod_lt_of_pos _ (by omega)⟩
  ·obtain ⟨b, hb, hb1, hb2⟩ := next_ev h ha2
   rw [if_neg c2, ha, Option.bind_some, hb, Option.bind_some, if_neg (by omega)]
   refine ⟨_, rfl, ?_, hb2⟩
   show 0 ≤ Int.tmod (wrap64 (wrap64 (a.1 * 256) + b.1)) n ∧ Int.tmod (wrap64 (wrap64 (a.1 * 256) + b.1)) n < n
   rw [wid (x := a.1 * 256) (by omega) (by omega), wid (by omega) (by omega), Int.tmod_eq_emod_of_nonneg (by omega)]
   exact ⟨Int.emod_nonneg _ (by omega), Int.emod_lt_of_pos _ (by omega)⟩
theorem once_ev {l : List Int} {p : Int} (h : okc l) (hp : okp l p) (n : Int) (hn : 1 ≤ n) : ∃ r, spec_l1Rd_once.f l p n = some r ∧ okp l r.2 := by
 obtain ⟨a, ha, _, ha2⟩ := below_ev h hp n hn
 unfold spec_l1Rd_once.f
 rw [ha]
 exact ⟨_, rfl, ha2⟩
theorem bits_u64 (o : BinOp) (a b : Int) : 0 ≤ Go.bits o .u64 a b ∧ Go.bits o .u64 a b ≤ 18446744073709551615 := by
 unfold Go.bits
 simp only [IntKind.wrap_u64]
 omega
theorem word_ev {l : List Int} {p : Int} (h : okc l) (hp : okp l p) : ∃ r, Ev (fun k => spec_l1Rd_word.f k l p) r ∧ (0 ≤ r.1 ∧ r.1 ≤ 18446744073709551615) ∧ okp l r.2 := by
 have key : ∀ i : Nat, i ≤ 8 → ∀ (x p : Int), 0 ≤ x ∧ x ≤ 18446744073709551615 → okp l p → ∃ r, Ev (fun k => spec_l1Rd_word.l0 k x (i : Int) l p) r ∧ (0 ≤ r.1 ∧ r.1 ≤ 18446744073709551615) ∧ okp l r.2 := by
  refine downTo 8 ?_ ?_
  ·intro x p hx hp
   exact ⟨(x, p), Ev.step (fun k => spec_l1Rd_word.l0.eq_2 ..) (Ev.neg (by omega) (Ev.now _)), hx, hp⟩
  ·intro i hi ih x p hx hp
   obtain ⟨a, ha, _, ha2⟩ := next_ev h hp
   obtain ⟨r, hr, hr2⟩ := ih _ a.2 (bits_u64 .or (IntKind.u64.wrap (x * 256)) (IntKind.u64.wrap a.1)) ha2
   refine ⟨r, Ev.step (fun k => spec_l1Rd_word.l0.eq_2 ..) (Ev.pos (by omega) (Ev.bindS ha ?_)), hr2⟩
   rw [wsucc (by omega)]
   exact hr
 exact key 0 (by omega) 0 p (by omega) hp
theorem bytes_ev {l : List Int} {p : Int} (h : okc l) (hp : okp l p) (n : Int) (hn : 0 ≤ n) (hn2 : n ≤ 1000000) : ∃ r, Ev (fun k => spec_l1Rd_bytes.f k l p n) r ∧ (r.1.size : Int) ≤ n ∧ okp l r.2 := by
 have key : ∀ (i : Nat) (acc : List Int) (p : Int), (acc.length : Int) + i ≤ 1000000 → okp l p → ∃ r, Ev (fun k => spec_l1Rd_bytes.l0 k acc (i : Int) l p) r ∧ r.1.size = acc.length + i ∧ okp l r.2 := by
  intro i
  induction i with
  | zero =>
   intro acc p ha hp
   refine ⟨(strOfNums acc, p), Ev.step (fun k => spec_l1Rd_bytes.l0.eq_2 ..) (Ev.neg (by omega) (Ev.now _)), ?_, hp⟩
   show (strOfNums acc).size = acc.length + 0
   unfold strOfNums
   simp [ByteArray.size]
  | succ i ih =>
   intro acc p ha hp
   obtain ⟨a, ha', _, ha2⟩ := below_ev h hp 256 (by omega)
   obtain ⟨r, hr, hr1, hr2⟩ := ih (acc ++ [a.1 % 256]) a.2 (by simp only [List.length_append, List.length_cons, List.length_nil]; omega) ha2
   refine ⟨r, Ev.step (fun k => spec_l1Rd_bytes.l0.eq_2 ..) (Ev.pos (by omega) (Ev.bindS ha' (Ev.pos (by omega) ?_))), ?_, hr2⟩
   ·rw [wid (by omega) (by omega), show (((i + 1 : Nat) : Int) - 1) = (i : Int) from by omega]
    exact hr
   ·rw [hr1, List.length_append]
    simp only [List.length_cons, List.length_nil]
    omega
 obtain ⟨a, ha, ha1, ha2⟩ := below_ev h hp (n + 1) (by omega)
 obtain ⟨r, hr, hr1, hr2⟩ := key a.1.toNat [] a.2 (by simp; omega) ha2
 refine ⟨r, ?_, ?_, hr2⟩
 ·unfold spec_l1Rd_bytes.f
  rw [wid (by omega) (by omega)]
  refine Ev.bindS ha ?_
  rw [show ((a.1.toNat : Nat) : Int) = a.1 from by omega] at hr
  exact hr
 ·rw [hr1]
  simp only [List.length_nil]
  omega
theorem duser_ev {l : List Int} {p : Int} (h : okc l) (hp : okp l p) : ∃ r, spec_l1Rd_user.f l p = some r ∧ (isU r.1) ∧ okp l r.2 := by
 obtain ⟨a, ha, ha1, ha2⟩ := below_ev h hp 10 (by omega)
 unfold spec_l1Rd_user.f
 rw [Option.bind_some, ha, Option.bind_some, if_pos ha1.1, if_pos (by simp only [List.length_cons, List.length_nil]; omega)]
 refine ⟨_, rfl, ?_, ha2⟩
 obtain ⟨m, hm⟩ : ∃ m : Nat, a.1 = m := ⟨a.1.toNat, by omega⟩
 have hlt : m < 10 := by omega
 simp only [hm]
 clear hm ha1 ha ha2
 revert m
 unfold rdOf
 simp only [Int.toNat_natCast]
 decide +kernel
theorem near_ev {l : List Int} {p : Int} (h : okc l) (hp : okp l p) (a b : Int) (hab : a ≤ b) (ha : -1000000000000000 ≤ a) (hb : b ≤ 1000000000000000) : ∃ r, Ev (fun k => spec_l1Rd_near.f k l p a b) r ∧ (a ≤ r.1 ∧ r.1 ≤ b) ∧ okp l r.2 := by
 unfold spec_l1Rd_near.f
 obtain ⟨x, hx, hx1, hx2⟩ := below_ev h hp 8 (by omega)
 by_cases c0 : x.1 = 0
 ·exact ⟨_, Ev.bindS hx (Ev.pos c0 (Ev.now _)), ⟨Int.le_refl _, hab⟩, hx2⟩
 ·by_cases c1 : x.1 = 1
  ·exact ⟨_, Ev.bindS hx (Ev.neg c0 (Ev.pos c1 (Ev.now _))), ⟨hab, Int.le_refl _⟩, hx2⟩
  ·obtain ⟨y, hy, hy1, hy2⟩ := word_ev h hx2
   have e : IntKind.u64.wrap (wrap64 (wrap64 (b - a) + 1)) = b - a + 1 := by
    rw [wid (x := b - a) (by omega) (by omega), wid (by omega) (by omega), uid (by omega) (by omega)]
   have m0 : 0 ≤ Int.tmod (y.1 / 2) (b - a + 1) ∧ Int.tmod (y.1 / 2) (b - a + 1) < b - a + 1 := by
    rw [Int.tmod_eq_emod_of_nonneg (by omega)]
    exact ⟨Int.emod_nonneg _ (by omega), Int.emod_lt_of_pos _ (by omega)⟩
   refine ⟨(a + Int.tmod (y.1 / 2) (b - a + 1), y.2), Ev.bindS hx (Ev.neg c0 (Ev.neg c1 (Ev.neg (by omega) (Ev.bind hy ?_)))), ⟨by show a ≤ a + _; omega, by show a + _ ≤ b; omega⟩, hy2⟩
   rw [e, wid (x := Int.tmod (y.1 / 2) (b - a + 1)) (by omega) (by omega), wid (by omega) (by omega)]
   exact Ev.neg (by omega) (Ev.now _)
theorem off_ev {l : List Int} {p : Int} (h : okc l) (hp : okp l p) (a b : Int) (hab : a ≤ b) (ha : -1000000000000000 ≤ a) (hb : b ≤ 1000000000000000) : ∃ r, Ev (fun k => spec_l1Rd_off.f k l p a b) r ∧ (-9223372036854775808 ≤ r.1 ∧ r.1 ≤ 9223372036854775807) ∧ okp l r.2 := by
 unfold spec_l1Rd_off.f
 obtain ⟨x, hx, hx2⟩ := once_ev h hp 24 (by omega)
 by_cases c0 : x.1 = true
 ·obtain ⟨y, hy, hy1, hy2⟩ := below_ev h hx2 4 (by omega)
  refine ⟨_, Ev.bindS hx (Ev.pos c0 (Ev.bindS rfl (Ev.bindS hy (Ev.pos hy1.1 (Ev.pos (by simp only [List.length_cons, List.length_nil]; omega) (Ev.now _)))))), ?_, hy2⟩
  rw [wid (x := a - 1) (by omega) (by omega), wid (x := b + 1) (by omega) (by omega)]
  obtain ⟨m, hm⟩ : ∃ m : Nat, y.1 = m := ⟨y.1.toNat, by omega⟩
  have hlt : m < 4 := by omega
  simp only [hm]
  unfold rd
  rw [Int.toNat_natCast]
  match m, hlt with
  | 0, _ => show -9223372036854775808 ≤ a - 1 ∧ a - 1 ≤ 9223372036854775807; omega
  | 1, _ => show -9223372036854775808 ≤ b + 1 ∧ b + 1 ≤ 9223372036854775807; omega
  | 2, _ => show (-9223372036854775808 : Int) ≤ -9223372036854775808 ∧ (-9223372036854775808 : Int) ≤ 9223372036854775807; omega
  | 3, _ => show (-9223372036854775808 : Int) ≤ 9223372036854775807 ∧ (9223372036854775807 : Int) ≤ 9223372036854775807; omega
 ·obtain ⟨y, hy, hy1, hy2⟩ := near_ev h hx2 a b hab ha hb
  exact ⟨_, Ev.bindS hx (Ev.neg c0 (Ev.bind hy (Ev.now _))), ⟨by omega, by omega⟩, hy2⟩
end Go.Proofs.Ytcgejabkjljeeaa.P
end

section
namespace Go.Proofs.Ytcgejabkjljeeaa.P
open Go.RowKit Go.Proofs.YtcgejabkjljeeaaW.PrintWords Go.Proofs.YtcgejabkjljeeaaW.PrintLast Go.Proofs.YtcgejabkjljeeaaW.PrintMore
attribute [local go_sem] qk1 qj1 ql1 qf1 qd1 qn1 qm1 qa1 qz qe1 qc1
set_option linter.unusedVariables false
set_option linter.unusedSimpArgs false
theorem sameMetas_self (l : List S66) (h : l.length < 2097152) : Ev (fun k => laws_sameMetas.f k l l) true := by
 unfold laws_sameMetas.f
 have key : ∀ i, i ≤ l.length → Ev (fun k => laws_sameMetas.l0 k l l (i : Int)) true := by
  refine downTo l.length (Ev.step (fun k => laws_sameMetas.l0.eq_2 ..) (Ev.neg (by omega) (Ev.now _))) ?_
  intro i hi ih
  refine Ev.step (fun k => laws_sameMetas.l0.eq_2 ..) (Ev.pos (by omega) (Ev.pos (by omega) (Ev.pos (by omega) (Ev.neg (by simp) ?_))))
  rw [wsucc (by omega)]
  exact ih
 exact Ev.pos rfl (key 0 (Nat.zero_le _))
end Go.Proofs.Ytcgejabkjljeeaa.P
end

section
namespace Go.Proofs.Ytcgejabkjljeeaa.Pure
open Go.RowKit Go.Proofs.YtcgejabkjljeeaaW.PrintWords Go.Proofs.YtcgejabkjljeeaaW.PrintLast Go.Proofs.YtcgejabkjljeeaaW.PrintMore
open Go.Proofs.Ytcgejabkjljeeaa.P
set_option linter.unusedVariables false
set_option linter.unusedSimpArgs false
abbrev M_ := S66
theorem rdM (l : List M_) (i : Nat) : qv l (i : Int) = l.getD i z66 := by unfold qv; rw [Int.toNat_natCast]
def sAh (p m : M_) : Bool := if p.f1 = m.f1 then (if p.f1 = 0 then decide (p.f0 > m.f0) else tless p.f3 m.f2) else decide (p.f1 < m.f1)
theorem sAhead_ev (p m : M_) : spec_l12Ahead.f p.f0 p.f1 p.f2 p.f3 p.f4 m.f0 m.f1 m.f2 m.f3 m.f4 = some (sAh p m) := by
 unfold spec_l12Ahead.f sAh tless
 split
 ·split <;> rfl
 ·rfl
def sMe (m : M_) : Prop := (1 ≤ m.f0 ∧ m.f0 ≤ 1000000) ∧ (0 ≤ m.f1 ∧ m.f1 ≤ 3) ∧ isU m.f2 ∧ isU m.f3 ∧ tless m.f3 m.f2 = false ∧ 1 ≤ m.f4 ∧ m.f4 ≤ 400
instance (m : M_) : Decidable (sMe m) := by unfold sMe; infer_instance
theorem sMeta_ev (m : M_) : spec_l12Meta.f m.f0 m.f1 m.f2 m.f3 m.f4 = some (decide (sMe m)) := by
 unfold spec_l12Meta.f
 rw [in_ev, Option.bind_some]
 by_cases c1 : 1 ≤ m.f0 ∧ m.f0 ≤ 1000000
 ·rw [decide_eq_true c1, if_pos rfl, in_ev, Option.bind_some]
  by_cases c2 : 0 ≤ m.f1 ∧ m.f1 ≤ 3
  ·rw [decide_eq_true c2, if_pos rfl, l2User_ev, Option.bind_some]
   by_cases c3 : isU m.f2
   ·rw [decide_eq_true c3, if_pos rfl, l2User_ev, Option.bind_some]
    by_cases c4 : isU m.f3
    ·rw [decide_eq_true c4, if_pos rfl]
     by_cases c5 : Op.bytesLess m.f3.toList m.f2.toList = true
     ·rw [if_pos c5, decide_eq_false]
      intro h
      have := h.2.2.2.2.1
      unfold tless at this
      rw [c5] at this
      cases this
     ·rw [if_neg c5, in_ev, Option.bind_some]
      have c5' : tless m.f3 m.f2 = false := by unfold tless; simpa using c5
      exact congrArg some (decide_eq_decide.2 ⟨fun h => ⟨c1, c2, c3, c4, c5', h⟩, fun h => h.2.2.2.2.2⟩)
    ·rw [decide_eq_false c4, if_neg (by decide), decide_eq_false (fun h => c4 h.2.2.2.1)]
   ·rw [decide_eq_false c3, if_neg (by decide), decide_eq_false (fun h => c3 h.2.2.1)]
  ·rw [decide_eq_false c2, if_neg (by decide), decide_eq_false (fun h => c2 h.2.1)]
 ·rw [decide_eq_false c1, if_neg (by decide), decide_eq_false (fun h => c1 h.1)]
theorem cI_neg (a b : Int) : cI a b < 0 ↔ a < b := by unfold cI; split <;> (try split) <;> constructor <;> intro h <;> omega
theorem cI_ne (a b : Int) (h : a ≠ b) : cI a b ≠ 0 := by unfold cI; split <;> (try split) <;> omega
theorem cI_self (a : Int) : cI a a = 0 := by unfold cI; rw [if_neg (by omega), if_neg (by omega)]
theorem cS_neg (a b : ByteArray) : cS a b < 0 ↔ tless a b = true := by
 unfold cS
 by_cases h : tless a b = true
 ·simp [h]
 ·rw [if_neg h]
  constructor
  ·intro h2
   split at h2 <;> omega
  ·intro h2
   exact absurd h2 h
theorem ahead_eq (next : Int) (p m : M_) (hp : okM next p) : sAh p m = true ↔ aheadM p m := by
 unfold sAh aheadM mcmp
 by_cases c : p.f1 = m.f1
 ·rw [if_pos c]
  by_cases c2 : p.f1 = 0
  ·rw [if_pos c2, if_pos ⟨c, c2⟩, cI_neg, decide_eq_true_eq]
   constructor
   ·exact fun h => ⟨h, fun h2 => by have := h2.1; omega⟩
   ·exact fun h => h.1
  ·rw [if_neg c2, if_neg (fun h => c2 h.2)]
   have h0 : (([cI p.f1 m.f1, cS p.f2 m.f2] : List Int).find? fun x => x != 0).getD 0 = cS p.f2 m.f2 := by
    rw [c, cI_self]
    by_cases h : cS p.f2 m.f2 = 0
    ·simp [h]
    ·simp [h]
   rw [h0, cS_neg]
   have hpos : m.f1 > 0 := by have := hp.2.1; omega
   have hle := hp.2.2.2.2.1
   constructor
   ·intro h
    refine ⟨?_, fun h2 => by rw [h] at h2; cases h2.2.2⟩
    cases hq : tless p.f2 p.f3 with
    | true => exact bl_trans hq h
    | false =>
     have := bl_eq (a := p.f2.toList) (b := p.f3.toList) hq hle
     unfold tless at h ⊢
     rw [this]
     exact h
   ·intro h
    cases hq : tless p.f3 m.f2 with
    | true => rfl
    | false => exact absurd ⟨hpos, c, hq⟩ h.2
 ·rw [if_neg c, if_neg (fun h => c h.1), decide_eq_true_eq]
  have h0 : (([cI p.f1 m.f1, cS p.f2 m.f2] : List Int).find? fun x => x != 0).getD 0 = cI p.f1 m.f1 := by
   have := cI_ne p.f1 m.f1 c
   simp [this]
  rw [h0, cI_neg]
  exact ⟨fun h => ⟨h, fun h2 => c h2.2.1⟩, fun h => h.1⟩
theorem sMe_ok (next : Int) (hn : 1 ≤ next ∧ next ≤ 1000000) (m : M_) : (sMe m ∧ ¬ m.f0 ≥ next) ↔ okM next m := by
 unfold sMe okM
 constructor
 ·rintro ⟨⟨h1, h2⟩, h3⟩
  exact ⟨by omega, h2⟩
 ·rintro ⟨h1, h2⟩
  exact ⟨⟨by omega, h2⟩, by omega⟩
def okFrom (l : List M_) (next : Int) (i : Nat) : Prop := ∀ j, i ≤ j → j < l.length → okAt l next j
noncomputable instance (l : List M_) (next : Int) (i : Nat) : Decidable (okFrom l next i) := Classical.propDecidable _
theorem okFrom_step {l : List M_} {next : Int} {i : Nat} (hi : i < l.length) : okFrom l next i ↔ okAt l next i ∧ okFrom l next (i + 1) := by
 constructor
 ·exact fun h => ⟨h i (Nat.le_refl _) hi, fun j h1 h2 => h j (by omega) h2⟩
 ·rintro ⟨h1, h2⟩ j hj hl
  by_cases e : j = i
  ·rw [e]; exact h1
  ·exact h2 j (by omega) hl
theorem mem_nums (l : List M_) (i : Nat) (hi : i ≤ l.length) (n : Int) : n ∈ (l.take i).map (fun m => m.f0) ↔ ∃ j, j < i ∧ (l.getD j z66).f0 = n := by
 rw [List.mem_map]
 constructor
 ·rintro ⟨m, hm, rfl⟩
  obtain ⟨j, hj, rfl⟩ := List.getElem_of_mem hm
  rw [List.length_take] at hj
  refine ⟨j, by omega, ?_⟩
  rw [List.getElem_take, List.getD_eq_getElem?_getD, List.getElem?_eq_getElem (by omega)]
  rfl
 ·rintro ⟨j, hj, rfl⟩
  refine ⟨l.getD j z66, ?_, rfl⟩
  rw [List.getD_eq_getElem?_getD, List.getElem?_eq_getElem (show j < l.length by omega)]
  show l[j]'(by omega) ∈ l.take i
  rw [List.mem_take_iff_getElem]
  exact ⟨j, by omega, rfl⟩
theorem sVersionOk_ev (l : List M_) (next seq log : Int) (hl : l.length < 2097152) : Ev (fun k => spec_VersionOk.f k l next seq log) (decide (vOk l next seq log)) := by
 have bad : ¬ vOk l next seq log → Ev (fun k => spec_VersionOk.j0 k true l next seq log) (decide (vOk l next seq log)) := fun h => by
  rw [decide_eq_false h]
  refine Ev.step (fun k => spec_VersionOk.j0.eq_2 ..) ?_
  exact Ev.pos rfl (Ev.now _)
 unfold spec_VersionOk.f
 by_cases c0 : (l.length : Int) > 30
 ·exact Ev.pos c0 (bad fun h => by have := h.1; omega)
 refine Ev.neg c0 (Ev.bindS (in_ev _ _ _) ?_)
 by_cases c1 : 1 ≤ next ∧ next ≤ 1000000
 case neg => exact Ev.neg (by simpa using c1) (bad fun h => c1 h.2.1)
 refine Ev.pos (decide_eq_true c1) (Ev.bindS (in_ev _ _ _) ?_)
 by_cases c2 : 0 ≤ seq ∧ seq ≤ 1000000000000
 case neg => exact Ev.neg (by simpa using c2) (bad fun h => c2 h.2.2.1)
 refine Ev.pos (decide_eq_true c2) ?_
 rw [wid (x := next - 1) (by omega) (by omega)]
 refine Ev.bindS (in_ev _ _ _) ?_
 by_cases c3 : 0 ≤ log ∧ log ≤ next - 1
 case neg =>
  rw [decide_eq_false c3]
  exact bad fun h => c3 h.2.2.2.1
 rw [decide_eq_true c3]
 refine Ev.step (fun k => spec_VersionOk.j0.eq_2 ..) ?_
 refine Ev.neg (by decide) ?_
 have key : ∀ i, i ≤ l.length → (∀ j, j < i → okAt l next j) → Ev (fun k => spec_VersionOk.l0 k (i : Int) l next seq log) (decide (okFrom l next i)) := by
  refine downTo l.length ?_ ?_
  ·intro _
   refine Ev.step (fun k => spec_VersionOk.l0.eq_2 ..) ?_
   exact Ev.neg (by omega) ((Ev.now _).eqr (decide_eq_true (show okFrom l next l.length from fun j h1 h2 => by omega)).symm)
  ·intro i hi ih hb
   have fail : ¬ okAt l next i → Ev (fun k => spec_VersionOk.j2 k (i : Int) true l next seq log) (decide (okFrom l next i)) := fun h => by
    refine Ev.step (fun k => spec_VersionOk.j2.eq_2 ..) ?_
    exact Ev.pos rfl ((Ev.now _).eqr (decide_eq_false (p := okFrom l next i) fun h2 => h ((okFrom_step hi).1 h2).1).symm)
   have dup : okM next (l.getD i z66) → (0 < i → aheadM (l.getD (i - 1) z66) (l.getD i z66)) → Ev (fun k => spec_VersionOk.j2 k (i : Int) false l next seq log) (decide (okFrom l next i)) := fun h1 h2 => by
    refine Ev.step (fun k => spec_VersionOk.j2.eq_2 ..) ?_
    refine Ev.neg (by decide) ?_
    have k2 : ∀ j, j ≤ i → (∀ q, q < j → (l.getD q z66).f0 ≠ (l.getD i z66).f0) → Ev (fun k => spec_VersionOk.l1 k (i : Int) (j : Int) l next seq log) (decide (okFrom l next i)) := by
     refine downTo i ?_ ?_
     ·intro hq
      have hok : okAt l next i := ⟨h1, fun hm => by
       obtain ⟨j, hj, he⟩ := (mem_nums l i (by omega) _).1 hm
       exact hq j hj he, h2⟩
      refine Ev.step (fun k => spec_VersionOk.l1.eq_2 ..) ?_
      rw [wsucc (show i < 4611686018427387904 by omega)]
      refine Ev.neg (by omega) ((ih (fun j hj => ?_)).eqr ?_)
      ·by_cases e : j = i
       ·rw [e]; exact hok
       ·exact hb j (by omega)
      ·exact decide_eq_decide.2 ⟨fun h => (okFrom_step hi).2 ⟨hok, h⟩, fun h => ((okFrom_step hi).1 h).2⟩
     ·intro j hj ih2 hq
      refine Ev.step (fun k => spec_VersionOk.l1.eq_2 ..) ?_
      rw [rdM, rdM, wsucc (show j < 4611686018427387904 by omega)]
      refine Ev.pos (by omega) (Ev.pos (by omega) (Ev.pos (by omega) (Ev.pos (by omega) (Ev.pos (by omega) ?_))))
      by_cases e : (l.getD j z66).f0 = (l.getD i z66).f0
      ·refine Ev.pos e ((Ev.now _).eqr (decide_eq_false (p := okFrom l next i) fun h => ?_).symm)
       exact ((okFrom_step hi).1 h).1.2.1 ((mem_nums l i (by omega) _).2 ⟨j, hj, e⟩)
      ·refine Ev.neg e (ih2 fun q hqj => ?_)
       by_cases e2 : q = j
       ·rw [e2]; exact e
       ·exact hq q (by omega)
    exact k2 0 (Nat.zero_le _) (fun q hq => absurd hq (Nat.not_lt_zero _))
   refine Ev.step (fun k => spec_VersionOk.l0.eq_2 ..) ?_
   rw [rdM]
   refine Ev.pos (by omega) (Ev.pos (by omega) (Ev.bindS (sMeta_ev _) ?_))
   by_cases d1 : sMe (l.getD i z66)
   case neg => exact Ev.neg (by simpa using d1) (fail fun h => d1 ((sMe_ok next c1 _).2 h.1).1)
   refine Ev.pos (decide_eq_true d1) ?_
   by_cases d2 : (l.getD i z66).f0 ≥ next
   ·exact Ev.pos d2 (fail fun h => ((sMe_ok next c1 _).2 h.1).2 d2)
   refine Ev.neg d2 ?_
   have hok := (sMe_ok next c1 _).1 ⟨d1, d2⟩
   by_cases d3 : i = 0
   ·refine Ev.neg (by omega) (dup hok (fun h => absurd h (by omega)))
   ·have hr : qv l (wrap64 ((i : Int) - 1)) = l.getD (i - 1) z66 := by
     rw [wid (by omega) (by omega), show (i : Int) - 1 = ((i - 1 : Nat) : Int) from by omega, rdM]
    rw [hr, wid (x := (i : Int) - 1) (by omega) (by omega)]
    refine Ev.pos (by omega) (Ev.pos (by omega) (Ev.pos (by omega) (Ev.bindS (sAhead_ev _ _) ?_)))
    have hp := (hb (i - 1) (by omega)).1
    cases d4 : sAh (l.getD (i - 1) z66) (l.getD i z66) with
    | true => exact dup hok (fun _ => (ahead_eq next _ _ hp).1 d4)
    | false =>
     refine fail fun h => ?_
     have := (ahead_eq next _ _ hp).2 (h.2.2 (by omega))
     rw [d4] at this
     cases this
 refine (key 0 (Nat.zero_le _) (fun j hj => absurd hj (Nat.not_lt_zero _))).eqr (decide_eq_decide.2 ⟨fun h => ⟨by omega, c1, c2, c3, fun i hi => h i (Nat.zero_le _) hi⟩, fun h j _ hj => h.2.2.2.2 j hj⟩)
end Go.Proofs.Ytcgejabkjljeeaa.Pure
end

section
namespace Go.Proofs.Ytcgejabkjljeeaa.Pure
open Go.RowKit Go.Proofs.YtcgejabkjljeeaaW.PrintWords Go.Proofs.YtcgejabkjljeeaaW.PrintLast Go.Proofs.YtcgejabkjljeeaaW.PrintMore
open Go.Proofs.Ytcgejabkjljeeaa.P
set_option linter.unusedVariables false
set_option linter.unusedSimpArgs false
def mtext (m : M_) : ByteArray := (((pv m.f0.toNat ++ pv m.f1.toNat) ++ pt m.f2) ++ pt m.f3) ++ pv m.f4.toNat
def mtexts : List M_ → ByteArray
 | [] => ⟨#[]⟩
 | m :: ms => mtext m ++ mtexts ms
def vbody (l : List M_) (n s g : Int) : ByteArray := (((pv n.toNat ++ pv s.toNat) ++ pv g.toNat) ++ pv l.length) ++ mtexts l
theorem ba_assoc (a b c : ByteArray) : (a ++ b) ++ c = a ++ (b ++ c) := by
 apply ByteArray.ext
 simp [ByteArray.data_append, Array.append_assoc]
theorem ba_nil (a : ByteArray) : a ++ (⟨#[]⟩ : ByteArray) = a := by
 apply ByteArray.ext
 simp [ByteArray.data_append]
theorem okM_small {next : Int} {m : M_} (h : okM next m) (hn : next ≤ 1000000) : (0 ≤ m.f0 ∧ m.f0 < 1000000) ∧ (0 ≤ m.f1 ∧ m.f1 ≤ 3) ∧ (m.f2.size ≤ 40) ∧ (m.f3.size ≤ 40) ∧ 0 ≤ m.f4 ∧ m.f4 ≤ 400 := by
 have h3 := h.2.2.1
 have h4 := h.2.2.2.1
 unfold isU at h3 h4
 have h1 := h.1
 have h2 := h.2.1
 have h6 := h.2.2.2.2.2
 omega
theorem pvz (n : Int) (h : 0 ≤ n) (h1 : n < 18446744073709551616) : 1 ≤ (pv n.toNat).size ∧ (pv n.toNat).size ≤ 10 := pv_size (by omega)
theorem putI_ev (n : Int) (h : 0 ≤ n) (h1 : n < 9223372036854775808) : Ev (fun k => impl_putInt.f k n) (pv n.toNat) := by
 have := putInt_ev n.toNat (by omega)
 rw [Int.toNat_of_nonneg h] at this
 exact this
theorem sPutI_ev (n : Int) (h : 0 ≤ n) (h1 : n < 9223372036854775808) : Ev (fun k => spec_PutVar.f k (IntKind.u64.wrap n)) (pv n.toNat) := by
 have := sPutVar_ev n.toNat (by omega)
 rw [Int.toNat_of_nonneg h] at this
 rw [uid h (by omega)]
 exact this
theorem mtext_size {next : Int} {m : M_} (h : okM next m) (hn : next ≤ 1000000) : (mtext m).size ≤ 130 := by
 obtain ⟨h0, h1, h2, h3, h4⟩ := okM_small h hn
 unfold mtext
 simp only [ByteArray.size_append]
 have e0 := pvz m.f0 (by omega) (by omega)
 have e1 := pvz m.f1 (by omega) (by omega)
 have e2 := pt_size m.f2 (by omega)
 have e3 := pt_size m.f3 (by omega)
 have e4 := pvz m.f4 (by omega) (by omega)
 omega
theorem mtexts_size {next : Int} (hn : next ≤ 1000000) : ∀ l : List M_, (∀ m ∈ l, okM next m) → (mtexts l).size ≤ l.length * 130
 | [], _ => Nat.zero_le _
 | m :: ms, h => by
  have h1 := mtext_size (h m List.mem_cons_self) hn
  have h2 := mtexts_size hn ms (fun x hx => h x (List.mem_cons_of_mem _ hx))
  rw [mtexts, ByteArray.size_append, List.length_cons, Nat.add_mul]
  omega
noncomputable def vtV (l : List M_) (n s g : Int) : ByteArray := if vOk l n s g then sec (vbody l n s g) else ⟨#[]⟩
theorem vOk_all {l : List M_} {n s g : Int} (h : vOk l n s g) : ∀ m ∈ l, okM n m := by
 intro m hm
 obtain ⟨j, hj, rfl⟩ := List.getElem_of_mem hm
 have := (h.2.2.2.2 j hj).1
 rw [List.getD_eq_getElem?_getD, List.getElem?_eq_getElem hj] at this
 exact this
theorem vbody_size {l : List M_} {n s g : Int} (h : vOk l n s g) : (vbody l n s g).size ≤ 4000 := by
 have h1 := mtexts_size h.2.1.2 l (vOk_all h)
 have h0 := h.1
 have hn := h.2.1
 have hs := h.2.2.1
 have hg := h.2.2.2.1
 have e0 := pvz n (by omega) (by omega)
 have e1 := pvz s (by omega) (by omega)
 have e2 := pvz g (by omega) (by omega)
 have e3 := pv_size (n := l.length) (by omega)
 unfold vbody
 simp only [ByteArray.size_append]
 omega
theorem vtext_loop (l : List M_) (n s g : Int) (hv : vOk l n s g) : ∀ i, i ≤ l.length → ∀ out : ByteArray, out.size ≤ 40 + i * 130 → Ev (fun k => impl_Version_text.l0 k out l (l.length : Int) (i : Int)) (sec (out ++ mtexts (l.drop i))) := by
 have h30 := hv.1
 refine downTo l.length ?_ ?_
 ·intro out ho
  refine Ev.step (fun k => impl_Version_text.l0.eq_2 ..) ?_
  rw [List.drop_length, mtexts, ba_nil]
  exact Ev.neg (by omega) (Ev.bind (section_ev out (by omega)) (Ev.now _))
 ·intro i hi ih out ho
  have hr : qv l (i : Int) = l[i] := by rw [rdM, List.getD_eq_getElem?_getD, List.getElem?_eq_getElem hi]; rfl
  obtain ⟨h0, h1, h2, h3, h4⟩ := okM_small (vOk_all hv l[i] (List.getElem_mem hi)) hv.2.1.2
  have e0 := pvz l[i].f0 (by omega) (by omega)
  have e1 := pvz l[i].f1 (by omega) (by omega)
  have e2 := pt_size l[i].f2 (by omega)
  have e3 := pt_size l[i].f3 (by omega)
  have e4 := pvz l[i].f4 (by omega) (by omega)
  rw [List.drop_eq_getElem_cons hi, mtexts]
  have fin : sec ((out ++ ((((pv l[i].f0.toNat ++ pv l[i].f1.toNat) ++ pt l[i].f2) ++ pt l[i].f3) ++ pv l[i].f4.toNat)) ++ mtexts (l.drop (i + 1))) = sec (out ++ (mtext l[i] ++ mtexts (l.drop (i + 1)))) := by
   unfold mtext
   simp only [ba_assoc]
  refine Ev.step (fun k => impl_Version_text.l0.eq_2 ..) ?_
  rw [hr, wsucc (show i < 4611686018427387904 by omega)]
  refine Ev.pos (by omega) (Ev.pos (by omega) (Ev.pos (by omega) (Ev.bind (putI_ev _ h0.1 (by omega)) (Ev.bind (putI_ev _ h1.1 (by omega)) (Ev.pos (by omega) (Ev.bind (putText_ev _ (by omega)) (Ev.pos (by omega) (Ev.bind (putText_ev _ (by omega)) (Ev.pos (by omega) (Ev.bind (putI_ev _ h4.1 (by omega)) (Ev.pos (by omega) (Ev.pos (by omega) ((ih _ ?_).eqr fin)))))))))))))
  simp only [ByteArray.size_append]
  omega
theorem sVtext_loop (l : List M_) (n s g : Int) (hv : vOk l n s g) : ∀ i, i ≤ l.length → ∀ out : ByteArray, out.size ≤ 40 + i * 130 → Ev (fun k => spec_VersionText.l0 k out (i : Int) l n s g) (sec (out ++ mtexts (l.drop i))) := by
 have h30 := hv.1
 refine downTo l.length ?_ ?_
 ·intro out ho
  refine Ev.step (fun k => spec_VersionText.l0.eq_2 ..) ?_
  rw [List.drop_length, mtexts, ba_nil]
  exact Ev.neg (by omega) (Ev.bind (sSection_ev out (by omega)) (Ev.now _))
 ·intro i hi ih out ho
  have hr : qv l (i : Int) = l[i] := by rw [rdM, List.getD_eq_getElem?_getD, List.getElem?_eq_getElem hi]; rfl
  obtain ⟨h0, h1, h2, h3, h4⟩ := okM_small (vOk_all hv l[i] (List.getElem_mem hi)) hv.2.1.2
  have e0 := pvz l[i].f0 (by omega) (by omega)
  have e1 := pvz l[i].f1 (by omega) (by omega)
  have e2 := pt_size l[i].f2 (by omega)
  have e3 := pt_size l[i].f3 (by omega)
  have e4 := pvz l[i].f4 (by omega) (by omega)
  rw [List.drop_eq_getElem_cons hi, mtexts]
  have fin : sec ((((((out ++ pv l[i].f0.toNat) ++ pv l[i].f1.toNat) ++ pt l[i].f2) ++ pt l[i].f3) ++ pv l[i].f4.toNat) ++ mtexts (l.drop (i + 1))) = sec (out ++ (mtext l[i] ++ mtexts (l.drop (i + 1)))) := by
   unfold mtext
   simp only [ba_assoc]
  refine Ev.step (fun k => spec_VersionText.l0.eq_2 ..) ?_
  rw [hr, wsucc (show i < 4611686018427387904 by omega)]
  refine Ev.pos (by omega) (Ev.pos (by omega) (Ev.bind (sPutI_ev _ h0.1 (by omega)) (Ev.pos (by omega) (Ev.bind (sPutI_ev _ h1.1 (by omega)) (Ev.pos (by omega) (Ev.bind (sPutText_ev _ (by omega)) (Ev.pos (by omega) (Ev.bind (sPutText_ev _ (by omega)) (Ev.pos (by omega) (Ev.bind (sPutI_ev _ h4.1 (by omega)) (Ev.pos (by omega) ((ih _ ?_).eqr fin))))))))))))
  simp only [ByteArray.size_append]
  omega
theorem versionText_ev (l : List M_) (n s g : Int) : Ev (fun k => impl_VersionText.f k l n s g) (vtV l n s g) := by
 unfold impl_VersionText.f vtV
 refine Ev.bindS (show impl_VersionOk.f l n s g = some (decide (vOk l n s g)) from rfl) ?_
 by_cases c : vOk l n s g
 case neg =>
  rw [if_neg c]
  exact Ev.neg (by simp [c]) (Ev.now _)
 rw [if_pos c]
 refine Ev.pos (decide_eq_true c) (Ev.bind (a := sec (vbody l n s g)) ?_ (Ev.now _))
 have hn := c.2.1
 have hs := c.2.2.1
 have hg := c.2.2.2.1
 have h30 := c.1
 have e0 := pvz n (by omega) (by omega)
 have e1 := pvz s (by omega) (by omega)
 have e2 := pvz g (by omega) (by omega)
 have e3 := pv_size (n := l.length) (by omega)
 have hlen := putInt_ev l.length (by omega)
 unfold impl_Version_text.f
 refine Ev.bind (putI_ev n (by omega) (by omega)) (Ev.bind (putI_ev s (by omega) (by omega)) (Ev.pos (by omega) (Ev.bind (putI_ev g (by omega) (by omega)) (Ev.pos (by omega) (Ev.bind hlen (Ev.pos (by omega) ((vtext_loop l n s g c 0 (Nat.zero_le _) _ ?_).eqr rfl)))))))
 simp only [ByteArray.size_append]
 omega
theorem sVersionText_ev (l : List M_) (n s g : Int) (hl : l.length < 2097152) : Ev (fun k => spec_VersionText.f k l n s g) (vtV l n s g) := by
 unfold spec_VersionText.f vtV
 refine Ev.bind (sVersionOk_ev l n s g hl) ?_
 by_cases c : vOk l n s g
 case neg =>
  rw [if_neg c]
  exact Ev.neg (by simp [c]) (Ev.now _)
 rw [if_pos c]
 have hn := c.2.1
 have hs := c.2.2.1
 have hg := c.2.2.2.1
 have h30 := c.1
 have e0 := pvz n (by omega) (by omega)
 have e1 := pvz s (by omega) (by omega)
 have e2 := pvz g (by omega) (by omega)
 have e3 := pv_size (n := l.length) (by omega)
 have hlen := sPutI_ev (l.length : Int) (by omega) (by omega)
 rw [Int.toNat_natCast] at hlen
 refine Ev.pos (decide_eq_true c) (Ev.bind (sPutI_ev n (by omega) (by omega)) (Ev.bind (sPutI_ev s (by omega) (by omega)) (Ev.pos (by omega) (Ev.bind (sPutI_ev g (by omega) (by omega)) (Ev.pos (by omega) (Ev.bind hlen (Ev.pos (by omega) ((sVtext_loop l n s g c 0 (Nat.zero_le _) _ ?_).eqr rfl))))))))
 simp only [ByteArray.size_append]
 omega
end Go.Proofs.Ytcgejabkjljeeaa.Pure
end

section
namespace Go.Proofs.Ytcgejabkjljeeaa.P
open Go.RowKit Go.Proofs.YtcgejabkjljeeaaW.PrintWords Go.Proofs.YtcgejabkjljeeaaW.PrintLast Go.Proofs.YtcgejabkjljeeaaW.PrintMore
attribute [local go_sem] qk1 qj1 ql1 qf1 qd1 qn1 qm1 qa1 qz qe1 qc1
set_option linter.unusedVariables false
set_option linter.unusedSimpArgs false
def numT (s : ByteArray) (bad : Bool) : Int × ByteArray × Bool := if (tv s).2.2 = true ∧ (tv s).1 ≤ 4611686018427387904 then ((tv s).1, (tv s).2.1, bad) else (0, s, true)
def txtT (s : ByteArray) (bad : Bool) : ByteArray × ByteArray × Bool := if (tt s).2.2 = true then ((tt s).1, (tt s).2.1, bad) else (⟨#[]⟩, s, true)
theorem number_taken (s : ByteArray) (bad : Bool) (hs : s.size ≤ 4611686018427387904) : Ev (fun k => impl_taker_number.f k s bad) (numT s bad) := by
 unfold impl_taker_number.f numT
 obtain ⟨r0, r1, _, _⟩ := tv_range s
 refine Ev.bind (takeVar_ev s hs) ?_
 by_cases c : (tv s).2.2 = true
 ·refine Ev.pos c ?_
  by_cases c2 : (tv s).1 > 4611686018427387904
  ·exact Ev.pos c2 ((Ev.now _).eqr (if_neg (fun h => by omega)).symm)
  ·refine Ev.neg c2 ?_
   rw [wid (by omega) (by omega)]
   exact (Ev.now _).eqr (if_pos ⟨c, by omega⟩).symm
 ·exact Ev.neg c ((Ev.now _).eqr (if_neg (fun h => c h.1)).symm)
theorem text_taken (s : ByteArray) (bad : Bool) (hs : s.size ≤ 4611686018427387904) : Ev (fun k => impl_taker_text.f k s bad) (txtT s bad) := by
 unfold impl_taker_text.f txtT
 refine Ev.bind (takeText_ev s hs) ?_
 by_cases c : (tt s).2.2 = true
 ·exact Ev.pos c ((Ev.now _).eqr (if_pos c).symm)
 ·exact Ev.neg c ((Ev.now _).eqr (if_neg c).symm)
theorem whole_taken (s : ByteArray) (bad : Bool) : impl_taker_whole.f s bad = some (!bad && (s.toList == []), s, bad) := by
 unfold impl_taker_whole.f
 cases bad <;> simp
theorem numT_size (s : ByteArray) (bad : Bool) : (numT s bad).2.1.size ≤ s.size := by
 obtain ⟨_, _, h, _⟩ := tv_range s
 unfold numT
 split
 ·exact h
 ·exact Nat.le_refl _
theorem txtT_size (s : ByteArray) (bad : Bool) : (txtT s bad).2.1.size ≤ s.size ∧ (txtT s bad).1.size ≤ s.size := by
 obtain ⟨_, h2, h3, _⟩ := tt_range s
 unfold txtT
 split
 ·exact ⟨h3, h2⟩
 ·exact ⟨Nat.le_refl _, by rw [empty_size]; omega⟩
theorem numT_bad (s : ByteArray) : (numT s true).2.2 = true := by unfold numT; split <;> rfl
theorem txtT_bad (s : ByteArray) : (txtT s true).2.2 = true := by unfold txtT; split <;> rfl
theorem numT_good {s : ByteArray} {b : Bool} (h1 : (tv s).2.2 = true) (h2 : (tv s).1 ≤ 4611686018427387904) : numT s b = ((tv s).1, (tv s).2.1, b) := by
 unfold numT
 rw [if_pos ⟨h1, h2⟩]
theorem numT_not {s : ByteArray} {b : Bool} (h : ¬ ((tv s).2.2 = true ∧ (tv s).1 ≤ 4611686018427387904)) : numT s b = (0, s, true) := by
 unfold numT
 rw [if_neg h]
theorem txtT_good {s : ByteArray} {b : Bool} (h1 : (tt s).2.2 = true) : txtT s b = ((tt s).1, (tt s).2.1, b) := by
 unfold txtT
 rw [if_pos h1]
theorem txtT_not {s : ByteArray} {b : Bool} (h : ¬ (tt s).2.2 = true) : txtT s b = (⟨#[]⟩, s, true) := by
 unfold txtT
 rw [if_neg h]
end Go.Proofs.Ytcgejabkjljeeaa.P
end

section
namespace Go.Proofs.Ytcgejabkjljeeaa.Pure
open Go.RowKit Go.Proofs.YtcgejabkjljeeaaW.PrintWords Go.Proofs.YtcgejabkjljeeaaW.PrintLast Go.Proofs.YtcgejabkjljeeaaW.PrintMore
open Go.Proofs.Ytcgejabkjljeeaa.P
set_option linter.unusedVariables false
set_option linter.unusedSimpArgs false
abbrev RV := List M_ × Int × Int × Int × Bool
def rvBad : RV := ([], 0, 0, 0, false)
def iT (s : ByteArray) : Int × ByteArray × Bool := if (tv s).2.2 = true ∧ (tv s).1 ≤ 1000000000000 then ((tv s).1, (tv s).2.1, true) else (0, ⟨#[]⟩, false)
theorem l12Int_ev (s : ByteArray) (hs : s.size ≤ 4611686018427387904) : Ev (fun k => spec_l12Int.f k s) (iT s) := by
 unfold spec_l12Int.f iT
 refine Ev.bind (sTakeVar_ev s (by omega)) ?_
 have hr := tv_range s
 by_cases c : (tv s).2.2 = true
 ·refine Ev.pos c ?_
  by_cases c2 : (tv s).1 > 1000000000000
  ·exact (Ev.pos c2 (Ev.now _)).eqr (if_neg (fun h => by omega)).symm
  ·rw [wid (x := (tv s).1) (by omega) (by omega)]
   exact (Ev.neg c2 (Ev.now _)).eqr (if_pos ⟨c, by omega⟩).symm
 ·exact (Ev.neg c (Ev.now _)).eqr (if_neg (fun h => c h.1)).symm
theorem iT_size (s : ByteArray) : (iT s).2.1.size ≤ s.size := by
 unfold iT
 have hr := tv_range s
 split
 ·exact hr.2.2.1
 ·exact Nat.zero_le _
theorem iT_good {s : ByteArray} (h : (iT s).2.2 = true) (b : Bool) : numT s b = ((iT s).1, (iT s).2.1, b) ∧ (iT s).1 ≤ 1000000000000 := by
 unfold iT at h ⊢
 split at h
 ·rename_i c
  rw [if_pos c]
  exact ⟨numT_good c.1 (by omega), c.2⟩
 ·cases h
theorem iT_not {s : ByteArray} (h : ¬ (iT s).2.2 = true) (b : Bool) : (numT s b).2.2 = true ∨ (numT s b).1 > 1000000000000 := by
 unfold iT at h
 split at h
 ·exact absurd rfl h
 ·rename_i c
  by_cases c1 : (tv s).2.2 = true ∧ (tv s).1 ≤ 4611686018427387904
  ·right
   rw [numT_good c1.1 c1.2]
   have : ¬ (tv s).1 ≤ 1000000000000 := fun h2 => c ⟨c1.1, h2⟩
   show (tv s).1 > _
   omega
  ·left
   rw [numT_not c1]
def fin3 (acc : List M_) (left : ByteArray) (bad : Bool) (n s g : Int) : RV := if bad = false ∧ left.toList = [] ∧ vOk acc n s g then (acc, n, s, g, true) else rvBad
def iM (left : ByteArray) (bad : Bool) : M_ × ByteArray × Bool :=
 let a := numT left bad
 let b := numT a.2.1 a.2.2
 let c := txtT b.2.1 b.2.2
 let e := txtT c.2.1 c.2.2
 let f := numT e.2.1 e.2.2
 (⟨a.1, b.1, c.1, e.1, f.1⟩, f.2.1, f.2.2)
def iGo (n s g : Int) : Nat → ByteArray → Bool → List M_ → RV
 | 0, left, bad, acc => fin3 acc left bad n s g
 | d + 1, left, bad, acc => iGo n s g d (iM left bad).2.1 (iM left bad).2.2 (acc ++ [(iM left bad).1])
theorem iM_bad (left : ByteArray) : (iM left true).2.2 = true := by
 unfold iM
 have h1 := numT_bad left
 simp only [h1]
 have h2 := numT_bad (numT left true).2.1
 simp only [h2]
 have h3 := txtT_bad (numT (numT left true).2.1 true).2.1
 simp only [h3]
 have h4 := txtT_bad (txtT (numT (numT left true).2.1 true).2.1 true).2.1
 simp only [h4]
 exact numT_bad _
theorem iM_size (left : ByteArray) (bad : Bool) : (iM left bad).2.1.size ≤ left.size := by
 unfold iM
 simp only []
 have a := numT_size left bad
 generalize numT left bad = A at a ⊢
 have b := numT_size A.2.1 A.2.2
 generalize numT A.2.1 A.2.2 = B at b ⊢
 have c := (txtT_size B.2.1 B.2.2).1
 generalize txtT B.2.1 B.2.2 = C at c ⊢
 have e := (txtT_size C.2.1 C.2.2).1
 generalize txtT C.2.1 C.2.2 = E at e ⊢
 have f := numT_size E.2.1 E.2.2
 generalize numT E.2.1 E.2.2 = F at f ⊢
 omega
theorem iGo_bad (n s g : Int) : ∀ (d : Nat) (left : ByteArray) (acc : List M_), iGo n s g d left true acc = rvBad
 | 0, left, acc => by
  unfold iGo fin3
  rw [if_neg (fun h => by cases h.1)]
 | d + 1, left, acc => by
  have h := iM_bad left
  rw [iGo]
  generalize iM left true = m at h ⊢
  rw [h]
  exact iGo_bad n s g d _ _
theorem iGo_no (n s g : Int) : ∀ (d : Nat) (left : ByteArray) (bad : Bool) (acc : List M_), (∀ ext, ¬ vOk (acc ++ ext) n s g) → iGo n s g d left bad acc = rvBad
 | 0, left, bad, acc, h => by
  unfold iGo fin3
  rw [if_neg (fun h2 => h [] (by rw [List.append_nil]; exact h2.2.2))]
 | d + 1, left, bad, acc, h => by
  rw [iGo]
  generalize iM left bad = m
  refine iGo_no n s g d _ _ _ (fun ext => ?_)
  rw [List.append_assoc]
  exact h _
def sGo (n s g : Int) : Nat → ByteArray → List M_ → RV
 | 0, left, acc => if left.toList = [] ∧ vOk acc n s g then (acc, n, s, g, true) else rvBad
 | d + 1, left, acc =>
  if (iT left).2.2 = true ∧ (iT (iT left).2.1).2.2 = true ∧ (tt (iT (iT left).2.1).2.1).2.2 = true ∧ (tt (tt (iT (iT left).2.1).2.1).2.1).2.2 = true ∧ (iT (tt (tt (iT (iT left).2.1).2.1).2.1).2.1).2.2 = true then
   sGo n s g d (iT (tt (tt (iT (iT left).2.1).2.1).2.1).2.1).2.1 (acc ++ [⟨(iT left).1, (iT (iT left).2.1).1, (tt (iT (iT left).2.1).2.1).1, (tt (tt (iT (iT left).2.1).2.1).2.1).1, (iT (tt (tt (iT (iT left).2.1).2.1).2.1).2.1).1⟩])
  else rvBad
theorem big_not (acc : List M_) (m : M_) (n s g : Int) (h : m.f0 > 1000000000000 ∨ m.f1 > 1000000000000 ∨ m.f4 > 1000000000000) : ∀ ext, ¬ vOk ((acc ++ [m]) ++ ext) n s g := by
 intro ext hv
 have h1 := vOk_all hv m (by simp)
 have h2 := hv.2.1
 unfold okM at h1
 omega
theorem go_eq (n s g : Int) : ∀ (d : Nat) (left : ByteArray) (acc : List M_), iGo n s g d left false acc = sGo n s g d left acc := by
 intro d
 induction d with
 | zero =>
  intro left acc
  unfold iGo sGo fin3
  by_cases c : left.toList = [] ∧ vOk acc n s g
  ·rw [if_pos c, if_pos ⟨rfl, c⟩]
  ·rw [if_neg c, if_neg (fun h => c h.2)]
 | succ d ih =>
  intro left acc
  rw [iGo, sGo]
  have finish : ((iM left false).2.2 = true ∨ (iM left false).1.f0 > 1000000000000 ∨ (iM left false).1.f1 > 1000000000000 ∨ (iM left false).1.f4 > 1000000000000) → iGo n s g d (iM left false).2.1 (iM left false).2.2 (acc ++ [(iM left false).1]) = rvBad := by
   rintro (h | h)
   ·rw [h]
    exact iGo_bad n s g d _ _
   ·exact iGo_no n s g d _ _ _ (big_not acc _ n s g h)
  have hM := iM.eq_1 left false
  generalize iM left false = m at hM finish ⊢
  obtain ⟨⟨m0, m1, m2, m3, m4⟩, ml, mb⟩ := m
  simp only [Prod.mk.injEq, S66.mk.injEq] at hM
  obtain ⟨⟨h0, h1, h2, h3, h4⟩, hl, hb⟩ := hM
  simp only [] at finish ⊢
  have gA := @iT_good left
  have nA := @iT_not left
  generalize iT left = A at gA nA ⊢
  have step : ∀ (x : Int × ByteArray × Bool), x.2.2 = true → (numT (txtT (txtT (numT x.2.1 x.2.2).2.1 (numT x.2.1 x.2.2).2.2).2.1 (txtT (numT x.2.1 x.2.2).2.1 (numT x.2.1 x.2.2).2.2).2.2).2.1 (txtT (txtT (numT x.2.1 x.2.2).2.1 (numT x.2.1 x.2.2).2.2).2.1 (txtT (numT x.2.1 x.2.2).2.1 (numT x.2.1 x.2.2).2.2).2.2).2.2).2.2 = true := by
   intro x hx
   rw [hx]
   have h2 := numT_bad x.2.1
   generalize numT x.2.1 true = y at h2 ⊢
   rw [h2]
   have h3 := txtT_bad y.2.1
   generalize txtT y.2.1 true = z at h3 ⊢
   rw [h3]
   have h4 := txtT_bad z.2.1
   generalize txtT z.2.1 true = v at h4 ⊢
   rw [h4]
   exact numT_bad _
  have step2 : ∀ (y : Int × ByteArray × Bool), y.2.2 = true → (numT (txtT (txtT y.2.1 y.2.2).2.1 (txtT y.2.1 y.2.2).2.2).2.1 (txtT (txtT y.2.1 y.2.2).2.1 (txtT y.2.1 y.2.2).2.2).2.2).2.2 = true := by
   intro y h2
   rw [h2]
   have h3 := txtT_bad y.2.1
   generalize txtT y.2.1 true = z at h3 ⊢
   rw [h3]
   have h4 := txtT_bad z.2.1
   generalize txtT z.2.1 true = v at h4 ⊢
   rw [h4]
   exact numT_bad _
  have step3 : ∀ (z : ByteArray × ByteArray × Bool), z.2.2 = true → (numT (txtT z.2.1 z.2.2).2.1 (txtT z.2.1 z.2.2).2.2).2.2 = true := by
   intro z h3
   rw [h3]
   have h4 := txtT_bad z.2.1
   generalize txtT z.2.1 true = v at h4 ⊢
   rw [h4]
   exact numT_bad _
  have step4 : ∀ (v : ByteArray × ByteArray × Bool), v.2.2 = true → (numT v.2.1 v.2.2).2.2 = true := by
   intro v h4
   rw [h4]
   exact numT_bad _
  by_cases c1 : A.2.2 = true
  case neg =>
   rw [if_neg (fun h => c1 h.1)]
   refine finish ?_
   rcases nA c1 false with h | h
   ·left
    rw [hb]
    exact step _ h
   ·right; left
    rw [h0]
    exact h
  have g1 := (gA c1 false).1
  clear gA nA step
  simp only [g1] at h0 h1 h2 h3 h4 hl hb
  have gB := @iT_good A.2.1
  have nB := @iT_not A.2.1
  generalize iT A.2.1 = B at gB nB ⊢
  by_cases c2 : B.2.2 = true
  case neg =>
   rw [if_neg (fun h => c2 h.2.1)]
   refine finish ?_
   rcases nB c2 false with h | h
   ·left
    rw [hb]
    exact step2 _ h
   ·right; right; left
    rw [h1]
    exact h
  have g2 := (gB c2 false).1
  clear gB nB step2
  simp only [g2] at h1 h2 h3 h4 hl hb
  have gC := @txtT_good B.2.1 false
  have nC := @txtT_not B.2.1 false
  generalize tt B.2.1 = C at gC nC ⊢
  by_cases c3 : C.2.2 = true
  case neg =>
   rw [if_neg (fun h => c3 h.2.2.1)]
   refine finish (.inl ?_)
   rw [hb]
   exact step3 _ (by rw [nC c3])
  simp only [gC c3] at h2 h3 h4 hl hb
  clear gC nC step3
  have gD := @txtT_good C.2.1 false
  have nD := @txtT_not C.2.1 false
  generalize tt C.2.1 = D at gD nD ⊢
  by_cases c4 : D.2.2 = true
  case neg =>
   rw [if_neg (fun h => c4 h.2.2.2.1)]
   refine finish (.inl ?_)
   rw [hb]
   exact step4 _ (by rw [nD c4])
  simp only [gD c4] at h3 h4 hl hb
  clear gD nD step4
  have gF := @iT_good D.2.1
  have nF := @iT_not D.2.1
  generalize iT D.2.1 = F at gF nF ⊢
  by_cases c5 : F.2.2 = true
  case neg =>
   rw [if_neg (fun h => c5 h.2.2.2.2)]
   refine finish ?_
   rcases nF c5 false with h | h
   ·left
    rw [hb]
    exact h
   ·right; right; right
    rw [h4]
    exact h
  simp only [(gF c5 false).1] at h4 hl hb
  rw [if_pos ⟨c1, c2, c3, c4, c5⟩, h0, h1, h2, h3, h4, hl, hb]
  exact ih F.2.1 _
abbrev T3 := Int × ByteArray × Bool
def rI4 (a b c e : T3) : RV := if e.2.2 = true ∨ e.1 > 30 then rvBad else iGo a.1 b.1 c.1 e.1.toNat e.2.1 e.2.2 []
def rI3 (a b c : T3) : RV := rI4 a b c (numT c.2.1 c.2.2)
def rI2 (a b : T3) : RV := rI3 a b (numT b.2.1 b.2.2)
def rI1 (a : T3) : RV := rI2 a (numT a.2.1 a.2.2)
def rdI (body : ByteArray) : RV := rI1 (numT body false)
theorem rI3_bad (a b c : T3) (h : c.2.2 = true) : rI3 a b c = rvBad := by
 unfold rI3 rI4
 rw [h, if_pos (.inl (numT_bad _))]
theorem rI2_bad (a b : T3) (h : b.2.2 = true) : rI2 a b = rvBad := rI3_bad a b _ (by rw [h]; exact numT_bad _)
theorem rI1_bad (a : T3) (h : a.2.2 = true) : rI1 a = rvBad := rI2_bad a _ (by rw [h]; exact numT_bad _)
theorem rI4_big (a b c e : T3) (h : a.1 > 1000000000000 ∨ b.1 > 1000000000000 ∨ c.1 > 1000000000000) : rI4 a b c e = rvBad := by
 unfold rI4
 split
 ·rfl
 ·refine iGo_no _ _ _ _ _ _ _ (fun ext hv => ?_)
  have h1 := hv.2.1
  have h2 := hv.2.2.1
  have h3 := hv.2.2.2.1
  omega
def rS4 (a b c e : T3) : RV := if a.2.2 = true ∧ b.2.2 = true ∧ c.2.2 = true ∧ e.2.2 = true ∧ e.1 ≤ 30 then sGo a.1 b.1 c.1 e.1.toNat e.2.1 [] else rvBad
def rdS (body : ByteArray) : RV := rS4 (iT body) (iT (iT body).2.1) (iT (iT (iT body).2.1).2.1) (iT (iT (iT (iT body).2.1).2.1).2.1)
theorem rd_eq (body : ByteArray) : rdI body = rdS body := by
 unfold rdI rdS
 have gA := @iT_good body
 have nA := @iT_not body
 generalize iT body = A at gA nA ⊢
 by_cases c1 : A.2.2 = true
 case neg =>
  rw [rS4, if_neg (fun h => c1 h.1)]
  rcases nA c1 false with h | h
  ·exact rI1_bad _ h
  ·exact rI4_big _ _ _ _ (.inl h)
 rw [(gA c1 false).1]
 unfold rI1
 simp only []
 have gB := @iT_good A.2.1
 have nB := @iT_not A.2.1
 generalize iT A.2.1 = B at gB nB ⊢
 by_cases c2 : B.2.2 = true
 case neg =>
  rw [rS4, if_neg (fun h => c2 h.2.1)]
  rcases nB c2 false with h | h
  ·exact rI2_bad _ _ h
  ·exact rI4_big _ _ _ _ (.inr (.inl h))
 rw [(gB c2 false).1]
 unfold rI2
 simp only []
 have gC := @iT_good B.2.1
 have nC := @iT_not B.2.1
 generalize iT B.2.1 = C at gC nC ⊢
 by_cases c3 : C.2.2 = true
 case neg =>
  rw [rS4, if_neg (fun h => c3 h.2.2.1)]
  rcases nC c3 false with h | h
  ·exact rI3_bad _ _ _ h
  ·exact rI4_big _ _ _ _ (.inr (.inr h))
 rw [(gC c3 false).1]
 unfold rI3
 simp only []
 have gD := @iT_good C.2.1
 have nD := @iT_not C.2.1
 generalize iT C.2.1 = D at gD nD ⊢
 by_cases c4 : D.2.2 = true
 case neg =>
  rw [rS4, if_neg (fun h => c4 h.2.2.2.1)]
  unfold rI4
  rw [if_pos]
  rcases nD c4 false with h | h
  ·exact .inl h
  ·exact .inr (by omega)
 rw [(gD c4 false).1]
 unfold rI4 rS4
 simp only []
 by_cases c5 : D.1 ≤ 30
 ·rw [if_neg (by rintro (h | h); cases h; omega), if_pos ⟨c1, c2, c3, c4, c5⟩]
  exact go_eq _ _ _ _ _ _
 ·rw [if_pos (.inr (by omega)), if_neg (fun h => c5 h.2.2.2.2)]
def fxT (r : ByteArray) (b : Bool) : T3 := if (tf r).2.2 = true then ((tf r).1, (tf r).2.1, b) else (0, r, true)
theorem fixed_taken' (r : ByteArray) (b : Bool) : impl_taker_fixed.f r b = some (fxT r b) := by
 unfold impl_taker_fixed.f fxT
 rw [takeFixed_ev, Option.bind_some]
 have h4 := f4_range r
 by_cases c : (tf r).2.2 = true
 ·rw [if_pos c, if_pos c]
  unfold tf at c ⊢
  split
  ·rename_i h
   rw [if_pos h] at c
   cases c
  ·simp only []
   rw [wid (by omega) (by omega)]
 ·rw [if_neg c, if_neg c]
def okS (s : ByteArray) : Prop := (tt s).2.2 = true ∧ (tt s).2.1.size = 4 ∧ f4 (tt s).2.1 = crc (tt s).1
instance (s : ByteArray) : Decidable (okS s) := by unfold okS; infer_instance
theorem toList_nil (a : ByteArray) : a.toList = [] ↔ a.size = 0 := by
 rw [ByteArray.toList_eq]
 constructor
 ·intro h
  have : a.data.toList.length = 0 := by rw [h]; rfl
  rw [Array.length_toList] at this
  exact this
 ·intro h
  exact List.eq_nil_of_length_eq_zero (by rw [Array.length_toList]; exact h)
theorem section_taken (s : ByteArray) (hs : s.size ≤ 1048576) : ∃ r : ByteArray × ByteArray × Bool, Ev (fun k => impl_taker_section.f k s false) r ∧ ((!r.2.2 && (r.2.1.toList == [])) = decide (okS s)) ∧ (okS s → r.1 = (tt s).1) := by
 have hr := tt_range s
 unfold impl_taker_section.f
 by_cases c : (tt s).2.2 = true
 case neg =>
  have ht := text_taken s false (by omega)
  rw [txtT_not c] at ht
  have hno : decide (okS s) = false := decide_eq_false fun h => c h.1
  have hf : (fxT s true).2.2 = true := by unfold fxT; split <;> rfl
  have hcr := crc_range (⟨#[]⟩ : ByteArray)
  by_cases c2 : (fxT s true).1 = crc ⟨#[]⟩
  ·refine ⟨(⟨#[]⟩, (fxT s true).2.1, (fxT s true).2.2), Ev.bind ht (Ev.bindS (fixed_taken' _ _) (Ev.bind (crc_ev _ (Nat.zero_le _)) ?_)), by rw [hno, hf]; rfl, fun h => absurd h.1 c⟩
   rw [wid (x := crc ⟨#[]⟩) (by omega) (by omega)]
   exact Ev.pos c2 (Ev.now _)
  ·refine ⟨(⟨#[]⟩, (fxT s true).2.1, true), Ev.bind ht (Ev.bindS (fixed_taken' _ _) (Ev.bind (crc_ev _ (Nat.zero_le _)) ?_)), by rw [hno]; rfl, fun h => absurd h.1 c⟩
   rw [wid (x := crc ⟨#[]⟩) (by omega) (by omega)]
   exact Ev.neg c2 (Ev.now _)
 have ht := text_taken s false (by omega)
 rw [txtT_good c] at ht
 have hcr := crc_range (tt s).1
 have hce := crc_ev (tt s).1 (by omega)
 by_cases c4 : (tt s).2.1.size < 4
 ·have hf : fxT (tt s).2.1 false = (0, (tt s).2.1, true) := by unfold fxT tf; rw [if_pos c4, if_neg (by decide)]
  have hfx := fixed_taken' (tt s).2.1 false
  rw [hf] at hfx
  have hno : decide (okS s) = false := decide_eq_false fun h => by have := h.2.1; omega
  by_cases c2 : (0 : Int) = crc (tt s).1
  ·refine ⟨((tt s).1, (tt s).2.1, true), Ev.bind ht (Ev.bindS hfx (Ev.bind hce ?_)), by rw [hno]; rfl, fun _ => rfl⟩
   rw [wid (x := crc (tt s).1) (by omega) (by omega)]
   exact Ev.pos c2 (Ev.now _)
  ·refine ⟨((tt s).1, (tt s).2.1, true), Ev.bind ht (Ev.bindS hfx (Ev.bind hce ?_)), by rw [hno]; rfl, fun _ => rfl⟩
   rw [wid (x := crc (tt s).1) (by omega) (by omega)]
   exact Ev.neg c2 (Ev.now _)
 ·have hf : fxT (tt s).2.1 false = (f4 (tt s).2.1, (tt s).2.1.extract 4 (tt s).2.1.size, false) := by unfold fxT tf; rw [if_neg c4, if_pos rfl]
  have hfx := fixed_taken' (tt s).2.1 false
  rw [hf] at hfx
  by_cases c2 : f4 (tt s).2.1 = crc (tt s).1
  ·refine ⟨((tt s).1, (tt s).2.1.extract 4 (tt s).2.1.size, false), Ev.bind ht (Ev.bindS hfx (Ev.bind hce ?_)), ?_, fun _ => rfl⟩
   ·rw [wid (x := crc (tt s).1) (by omega) (by omega)]
    exact Ev.pos c2 (Ev.now _)
   ·by_cases c3 : (tt s).2.1.size = 4
    ·rw [decide_eq_true (show okS s from ⟨c, c3, c2⟩)]
     rw [show ((tt s).2.1.extract 4 (tt s).2.1.size).toList = [] from (toList_nil _).2 (by rw [ByteArray.size_extract]; omega)]
     rfl
    ·rw [decide_eq_false (show ¬ okS s from fun h => c3 h.2.1)]
     have : ¬ ((tt s).2.1.extract 4 (tt s).2.1.size).toList = [] := fun h => by
      have := (toList_nil _).1 h
      rw [ByteArray.size_extract] at this
      omega
     rw [show (((tt s).2.1.extract 4 (tt s).2.1.size).toList == []) = false from beq_eq_false_iff_ne.2 this]
     rfl
  ·refine ⟨((tt s).1, (tt s).2.1.extract 4 (tt s).2.1.size, true), Ev.bind ht (Ev.bindS hfx (Ev.bind hce ?_)), ?_, fun _ => rfl⟩
   ·rw [wid (x := crc (tt s).1) (by omega) (by omega)]
    exact Ev.neg c2 (Ev.now _)
   ·rw [decide_eq_false (show ¬ okS s from fun h => c2 h.2.2)]
    rfl
def rvV (s : ByteArray) : RV := if okS s then rdS (tt s).1 else rvBad
theorem readLoop_ev (n s g : Int) (N : Nat) (hN : N ≤ 30) : ∀ d i, i + d = N → ∀ (left : ByteArray) (bad : Bool) (acc : List M_), left.size ≤ 60000 → acc.length ≤ i → Ev (fun k => impl_ReadVersion.l0 k (N : Int) (i : Int) left bad acc n s g) (iGo n s g d left bad acc) := by
 intro d
 induction d with
 | zero =>
  intro i hi left bad acc hl ha
  refine Ev.step (fun k => impl_ReadVersion.l0.eq_2 ..) ?_
  rw [iGo, fin3]
  refine Ev.neg (by omega) (Ev.bindS (whole_taken left bad) ?_)
  have hw : (!bad && (left.toList == [])) = true ↔ bad = false ∧ left.toList = [] := by simp
  by_cases c : bad = false ∧ left.toList = []
  ·refine Ev.pos (hw.2 c) (Ev.bindS (show impl_VersionOk.f acc n s g = some (decide (vOk acc n s g)) from rfl) ?_)
   by_cases c2 : vOk acc n s g
   ·exact (Ev.pos (decide_eq_true c2) (Ev.now _)).eqr (if_pos ⟨c.1, c.2, c2⟩).symm
   ·exact (Ev.neg (by simp [c2]) (Ev.now _)).eqr (if_neg (fun h => c2 h.2.2)).symm
  ·exact (Ev.neg (fun h => c (hw.1 h)) (Ev.now _)).eqr (if_neg (fun h => c ⟨h.1, h.2.1⟩)).symm
 | succ d ih =>
  intro i hi left bad acc hl ha
  refine Ev.step (fun k => impl_ReadVersion.l0.eq_2 ..) ?_
  rw [iGo]
  have hsz := iM_size left bad
  have h1 := number_taken left bad (by omega)
  have z1 := numT_size left bad
  have h2 := number_taken (numT left bad).2.1 (numT left bad).2.2 (by omega)
  have z2 := numT_size (numT left bad).2.1 (numT left bad).2.2
  have h3 := text_taken (numT (numT left bad).2.1 (numT left bad).2.2).2.1 (numT (numT left bad).2.1 (numT left bad).2.2).2.2 (by omega)
  have z3 := (txtT_size (numT (numT left bad).2.1 (numT left bad).2.2).2.1 (numT (numT left bad).2.1 (numT left bad).2.2).2.2).1
  have h4 := text_taken _ (txtT (numT (numT left bad).2.1 (numT left bad).2.2).2.1 (numT (numT left bad).2.1 (numT left bad).2.2).2.2).2.2 (show (txtT (numT (numT left bad).2.1 (numT left bad).2.2).2.1 (numT (numT left bad).2.1 (numT left bad).2.2).2.2).2.1.size ≤ 4611686018427387904 by omega)
  have z4 := (txtT_size (txtT (numT (numT left bad).2.1 (numT left bad).2.2).2.1 (numT (numT left bad).2.1 (numT left bad).2.2).2.2).2.1 (txtT (numT (numT left bad).2.1 (numT left bad).2.2).2.1 (numT (numT left bad).2.1 (numT left bad).2.2).2.2).2.2).1
  have hM := iM.eq_1 left bad
  have ihh := ih (i + 1) (by omega) (iM left bad).2.1 (iM left bad).2.2 (acc ++ [(iM left bad).1]) (by omega) (by rw [List.length_append]; simp only [List.length_cons, List.length_nil]; omega)
  generalize iM left bad = m at hM ihh hsz ⊢
  obtain ⟨⟨m0, m1, m2, m3, m4⟩, ml, mb⟩ := m
  simp only [Prod.mk.injEq, S66.mk.injEq] at hM
  obtain ⟨⟨q0, q1, q2, q3, q4⟩, ql, qb⟩ := hM
  refine Ev.pos (by omega) (Ev.bind h1 (Ev.bind h2 (Ev.bind h3 (Ev.bind h4 (Ev.bind (number_taken _ _ (by omega)) (Ev.pos (by omega) ?_))))))
  rw [wsucc (show i < 4611686018427387904 by omega)]
  simp only [] at ihh ⊢
  rw [← q0, ← q1, ← q2, ← q3, ← q4, ← ql, ← qb]
  exact ihh
theorem readVersion_ev (s : ByteArray) (hs : s.size ≤ 1048576) : Ev (fun k => impl_ReadVersion.f k s) (rvV s) := by
 unfold impl_ReadVersion.f rvV
 obtain ⟨r, h1, h2, h3⟩ := section_taken s hs
 refine Ev.bind h1 (Ev.bindS (whole_taken _ _) ?_)
 simp only []
 rw [h2]
 by_cases c : okS s
 case neg => exact (Ev.neg (by simp [c]) (Ev.now _)).eqr (if_neg c).symm
 rw [if_pos c]
 refine Ev.pos (decide_eq_true c) ?_
 rw [h3 c, ← rd_eq]
 have hr := tt_range s
 generalize (tt s).1 = body at hr ⊢
 unfold rdI
 have t1 := number_taken body false (by omega)
 have z1 := numT_size body false
 generalize numT body false = a at t1 z1 ⊢
 unfold rI1
 have t2 := number_taken a.2.1 a.2.2 (by omega)
 have z2 := numT_size a.2.1 a.2.2
 generalize numT a.2.1 a.2.2 = b at t2 z2 ⊢
 unfold rI2
 have t3 := number_taken b.2.1 b.2.2 (by omega)
 have z3 := numT_size b.2.1 b.2.2
 generalize numT b.2.1 b.2.2 = c3 at t3 z3 ⊢
 unfold rI3
 have t4 := number_taken c3.2.1 c3.2.2 (by omega)
 have z4 := numT_size c3.2.1 c3.2.2
 have n4 : 0 ≤ (numT c3.2.1 c3.2.2).1 := by
  have := (tv_range c3.2.1).1
  unfold numT
  split
  ·exact this
  ·exact Int.le_refl _
 generalize numT c3.2.1 c3.2.2 = e at t4 z4 n4 ⊢
 unfold rI4
 refine Ev.bind t1 (Ev.bind t2 (Ev.bind t3 (Ev.bind t4 ?_)))
 have jt : ∀ f : Bool, (f = true ↔ (e.2.2 = true ∨ e.1 > 30)) → Ev (fun k => impl_ReadVersion.j0 k e.1 f e.2.1 e.2.2 a.1 b.1 c3.1) (if e.2.2 = true ∨ e.1 > 30 then rvBad else iGo a.1 b.1 c3.1 e.1.toNat e.2.1 e.2.2 []) := by
  intro f hf
  refine Ev.step (fun k => impl_ReadVersion.j0.eq_2 ..) ?_
  by_cases cf : e.2.2 = true ∨ e.1 > 30
  ·exact (Ev.pos (hf.2 cf) (Ev.now _)).eqr (if_pos cf).symm
  ·refine (Ev.neg (fun h => cf (hf.1 h)) ?_).eqr (if_neg cf).symm
   have hN : e.1.toNat ≤ 30 := by
    have : ¬ e.1 > 30 := fun h => cf (.inr h)
    omega
   have := readLoop_ev a.1 b.1 c3.1 e.1.toNat hN e.1.toNat 0 (by omega) e.2.1 e.2.2 [] (by omega) (Nat.zero_le _)
   rw [Int.toNat_of_nonneg n4] at this
   exact this
 by_cases ce : e.2.2 = true
 ·exact Ev.pos ce (jt true ⟨fun _ => .inl ce, fun _ => rfl⟩)
 ·exact Ev.neg ce (jt _ ⟨fun h => .inr (of_decide_eq_true h), fun h => decide_eq_true (h.resolve_left ce)⟩)
theorem sReadLoop_ev (n s g : Int) (N : Nat) (hN : N ≤ 30) : ∀ d i, i + d = N → ∀ (left : ByteArray) (acc : List M_), left.size ≤ 60000 → acc.length ≤ i → Ev (fun k => spec_ReadVersion.l0 k (N : Int) left (i : Int) acc n s g) (sGo n s g d left acc) := by
 intro d
 induction d with
 | zero =>
  intro i hi left acc hl ha
  refine Ev.step (fun k => spec_ReadVersion.l0.eq_2 ..) ?_
  rw [sGo]
  refine Ev.neg (by omega) ?_
  by_cases c : left.toList = ([] : List UInt8)
  ·refine Ev.pos c (Ev.bind (sVersionOk_ev acc n s g (by omega)) ?_)
   by_cases c2 : vOk acc n s g
   ·exact (Ev.pos (decide_eq_true c2) (Ev.now _)).eqr (if_pos ⟨c, c2⟩).symm
   ·exact (Ev.neg (by simp [c2]) (Ev.now _)).eqr (if_neg (fun h => c2 h.2)).symm
  ·exact (Ev.neg c (Ev.now _)).eqr (if_neg (fun h => c h.1)).symm
 | succ d ih =>
  intro i hi left acc hl ha
  refine Ev.step (fun k => spec_ReadVersion.l0.eq_2 ..) ?_
  rw [sGo]
  have h1 := l12Int_ev left (by omega)
  have z1 := iT_size left
  generalize iT left = A at h1 z1 ⊢
  have h2 := l12Int_ev A.2.1 (by omega)
  have z2 := iT_size A.2.1
  generalize iT A.2.1 = B at h2 z2 ⊢
  have h3 := sTakeText_ev B.2.1 (by omega)
  have z3 := (tt_range B.2.1).2.2.1
  generalize tt B.2.1 = C at h3 z3 ⊢
  have h4 := sTakeText_ev C.2.1 (by omega)
  have z4 := (tt_range C.2.1).2.2.1
  generalize tt C.2.1 = D at h4 z4 ⊢
  have h5 := l12Int_ev D.2.1 (by omega)
  have z5 := iT_size D.2.1
  generalize iT D.2.1 = F at h5 z5 ⊢
  refine Ev.pos (by omega) (Ev.bind h1 (Ev.bind h2 (Ev.bind h3 (Ev.bind h4 (Ev.bind h5 ?_)))))
  by_cases c1 : A.2.2 = true
  case neg => exact (Ev.neg c1 (Ev.now _)).eqr (if_neg (fun h => c1 h.1)).symm
  by_cases c2 : B.2.2 = true
  case neg => exact (Ev.pos c1 (Ev.neg c2 (Ev.now _))).eqr (if_neg (fun h => c2 h.2.1)).symm
  by_cases c3 : C.2.2 = true
  case neg => exact (Ev.pos c1 (Ev.pos c2 (Ev.neg c3 (Ev.now _)))).eqr (if_neg (fun h => c3 h.2.2.1)).symm
  by_cases c4 : D.2.2 = true
  case neg => exact (Ev.pos c1 (Ev.pos c2 (Ev.pos c3 (Ev.neg c4 (Ev.now _))))).eqr (if_neg (fun h => c4 h.2.2.2.1)).symm
  by_cases c5 : F.2.2 = true
  case neg => exact (Ev.pos c1 (Ev.pos c2 (Ev.pos c3 (Ev.pos c4 (Ev.neg c5 (Ev.now _)))))).eqr (if_neg (fun h => c5 h.2.2.2.2)).symm
  refine (Ev.pos c1 (Ev.pos c2 (Ev.pos c3 (Ev.pos c4 (Ev.pos c5 (Ev.pos (by omega) ?_)))))).eqr (if_pos ⟨c1, c2, c3, c4, c5⟩).symm
  rw [wsucc (show i < 4611686018427387904 by omega)]
  exact ih (i + 1) (by omega) _ _ (by omega) (by rw [List.length_append]; simp only [List.length_cons, List.length_nil]; omega)
theorem sReadVersion_ev (s : ByteArray) (hs : s.size ≤ 1048576) : Ev (fun k => spec_ReadVersion.f k s) (rvV s) := by
 have hr := tt_range s
 have bad : ∀ x : ByteArray, ¬ okS s → Ev (fun k => spec_ReadVersion.j0 k x true) (rvV s) := fun x h => by
  unfold rvV
  rw [if_neg h]
  refine Ev.step (fun k => spec_ReadVersion.j0.eq_2 ..) ?_
  exact Ev.pos rfl (Ev.now _)
 have htake : Ev (fun k => spec_l10Take.f k s 0) (if (tt s).2.2 = true ∧ (tf (tt s).2.1).2.2 = true ∧ (tf (tt s).2.1).1 = crc (tt s).1 then ((tt s).1, true) else ((⟨#[]⟩ : ByteArray), false)) := by
  unfold spec_l10Take.f
  rw [show s.extract (0 : Int).toNat s.size = s from by rw [show (0 : Int).toNat = 0 from rfl]; exact ByteArray.extract_zero_size]
  refine Ev.neg (by omega) (Ev.pos (by omega) (Ev.pos (by omega) (Ev.bind (sTakeText_ev s (by omega)) (Ev.bindS (sTakeFixed_ev _) ?_))))
  by_cases c1 : (tt s).2.2 = true
  case neg => exact (Ev.neg c1 (Ev.now _)).eqr (if_neg (fun h => c1 h.1)).symm
  by_cases c2 : (tf (tt s).2.1).2.2 = true
  case neg => exact (Ev.pos c1 (Ev.neg c2 (Ev.now _))).eqr (if_neg (fun h => c2 h.2.1)).symm
  by_cases c3 : (tf (tt s).2.1).1 = crc (tt s).1
  ·exact (Ev.pos c1 (Ev.pos c2 (Ev.bind (sCrc_ev (tt s).1 (by omega)) (Ev.pos c3 (Ev.now _))))).eqr (if_pos ⟨c1, c2, c3⟩).symm
  ·exact (Ev.pos c1 (Ev.pos c2 (Ev.bind (sCrc_ev (tt s).1 (by omega)) (Ev.neg c3 (Ev.now _))))).eqr (if_neg (fun h => c3 h.2.2)).symm
 unfold spec_ReadVersion.f
 refine Ev.bind htake ?_
 by_cases c : (tt s).2.2 = true ∧ (tf (tt s).2.1).2.2 = true ∧ (tf (tt s).2.1).1 = crc (tt s).1
 case neg =>
  rw [if_neg c]
  refine Ev.neg (by simp) (bad _ fun h => c ⟨h.1, ?_, ?_⟩)
  ·unfold tf
   rw [if_neg (by have := h.2.1; omega)]
  ·unfold tf
   rw [if_neg (by have := h.2.1; omega)]
   exact h.2.2
 rw [if_pos c]
 have h4 : ¬ (tt s).2.1.size < 4 := fun h => by
  have := c.2.1
  unfold tf at this
  rw [if_pos h] at this
  cases this
 have hf4 : f4 (tt s).2.1 = crc (tt s).1 := by
  have := c.2.2
  unfold tf at this
  rw [if_neg h4] at this
  exact this
 refine Ev.pos rfl (Ev.bind (sSection_ev (tt s).1 (by omega)) ?_)
 have hback := tt_back s c.1
 have hp := pf_f4 (tt s).2.1 (by omega)
 by_cases c3 : (tt s).2.1.size = 4
 case neg =>
  have hne : (sec (tt s).1).toList ≠ s.toList := fun h => by
   have h5 : (sec (tt s).1).size = s.size := by
    rw [ByteArray.toList_eq, ByteArray.toList_eq] at h
    have := congrArg List.length h
    rw [Array.length_toList, Array.length_toList] at this
    exact this
   have h6 := congrArg ByteArray.size hback
   have h7 := pf_size (crc (tt s).1)
   unfold sec at h5
   rw [ByteArray.size_append] at h5 h6
   omega
  rw [show ((sec (tt s).1).toList != s.toList) = true from bne_iff_ne.2 hne]
  exact bad _ fun h => c3 h.2.1
 have hok : okS s := ⟨c.1, c3, hf4⟩
 have heq : sec (tt s).1 = s := by
  unfold sec
  rw [hf4] at hp
  have hz : (tt s).2.1.extract 4 (tt s).2.1.size = ⟨#[]⟩ := by
   apply ByteArray.ext
   apply Array.eq_empty_of_size_eq_zero
   show ((tt s).2.1.extract 4 (tt s).2.1.size).size = 0
   rw [ByteArray.size_extract]
   omega
  rw [hz, ba_nil] at hp
  rw [hp]
  exact hback.symm
 rw [heq, show (s.toList != s.toList) = false from by simp]
 unfold rvV
 rw [if_pos hok]
 refine Ev.step (fun k => spec_ReadVersion.j0.eq_2 ..) ?_
 refine Ev.neg (by decide) ?_
 have hbs := hr.1
 generalize (tt s).1 = body at hbs ⊢
 unfold rdS
 have h1 := l12Int_ev body (by omega)
 have z1 := iT_size body
 generalize iT body = A at h1 z1 ⊢
 have h2 := l12Int_ev A.2.1 (by omega)
 have z2 := iT_size A.2.1
 generalize iT A.2.1 = B at h2 z2 ⊢
 have h3 := l12Int_ev B.2.1 (by omega)
 have z3 := iT_size B.2.1
 generalize iT B.2.1 = C at h3 z3 ⊢
 have h5 := l12Int_ev C.2.1 (by omega)
 have z5 := iT_size C.2.1
 have n5 : 0 ≤ (iT C.2.1).1 := by
  have := (tv_range C.2.1).1
  unfold iT
  split
  ·exact this
  ·exact Int.le_refl _
 generalize iT C.2.1 = D at h5 z5 n5 ⊢
 unfold rS4
 have jt : ∀ f : Bool, (f = false ↔ (A.2.2 = true ∧ B.2.2 = true ∧ C.2.2 = true ∧ D.2.2 = true ∧ D.1 ≤ 30)) → Ev (fun k => spec_ReadVersion.j1 k A.1 B.1 C.1 D.1 D.2.1 f) (if A.2.2 = true ∧ B.2.2 = true ∧ C.2.2 = true ∧ D.2.2 = true ∧ D.1 ≤ 30 then sGo A.1 B.1 C.1 D.1.toNat D.2.1 [] else rvBad) := by
  intro f hf
  refine Ev.step (fun k => spec_ReadVersion.j1.eq_2 ..) ?_
  by_cases cf : A.2.2 = true ∧ B.2.2 = true ∧ C.2.2 = true ∧ D.2.2 = true ∧ D.1 ≤ 30
  ·refine (Ev.neg (by rw [hf.2 cf]; decide) ?_).eqr (if_pos cf).symm
   have hN : D.1.toNat ≤ 30 := by have := cf.2.2.2.2; omega
   have := sReadLoop_ev A.1 B.1 C.1 D.1.toNat hN D.1.toNat 0 (by omega) D.2.1 [] (by omega) (Nat.zero_le _)
   rw [Int.toNat_of_nonneg n5] at this
   exact this
  ·refine (Ev.pos ?_ (Ev.now _)).eqr (if_neg cf).symm
   cases f with
   | true => rfl
   | false => exact absurd (hf.1 rfl) cf
 refine Ev.bind h1 (Ev.bind h2 (Ev.bind h3 (Ev.bind h5 ?_)))
 by_cases c1 : A.2.2 = true
 case neg => exact Ev.neg c1 (jt true ⟨fun h => (by cases h), fun h => absurd h.1 c1⟩)
 refine Ev.pos c1 ?_
 by_cases c2 : B.2.2 = true
 case neg => exact Ev.neg c2 (jt true ⟨fun h => (by cases h), fun h => absurd h.2.1 c2⟩)
 refine Ev.pos c2 ?_
 by_cases c3' : C.2.2 = true
 case neg => exact Ev.neg c3' (jt true ⟨fun h => (by cases h), fun h => absurd h.2.2.1 c3'⟩)
 refine Ev.pos c3' ?_
 by_cases c4 : D.2.2 = true
 case neg => exact Ev.neg c4 (jt true ⟨fun h => (by cases h), fun h => absurd h.2.2.2.1 c4⟩)
 refine Ev.pos c4 (jt _ ⟨fun h => ⟨c1, c2, c3', c4, ?_⟩, fun h => decide_eq_false (by omega)⟩)
 have := of_decide_eq_false h
 omega
end Go.Proofs.Ytcgejabkjljeeaa.Pure
end

section
namespace Go.Proofs.Ytcgejabkjljeeaa.Pure
open Go.RowKit Go.Proofs.YtcgejabkjljeeaaW.PrintWords Go.Proofs.YtcgejabkjljeeaaW.PrintLast Go.Proofs.YtcgejabkjljeeaaW.PrintMore
open Go.Proofs.Ytcgejabkjljeeaa.P
set_option linter.unusedVariables false
set_option linter.unusedSimpArgs false
def insM : List M_ → M_ → List M_
 | [], m => [m]
 | x :: xs, m => if sAh x m = true then x :: insM xs m else m :: x :: xs
theorem insM_app (m : M_) : ∀ (a b : List M_), (∀ x ∈ a, sAh x m = true) → insM (a ++ b) m = a ++ insM b m
 | [], _, _ => rfl
 | x :: xs, b, h => by
  show (if sAh x m = true then x :: insM (xs ++ b) m else _) = _
  rw [if_pos (h x (by simp)), insM_app m xs b (fun y hy => h y (by simp [hy]))]
  rfl
theorem insM_len (m : M_) : ∀ a : List M_, (insM a m).length = a.length + 1
 | [] => rfl
 | x :: xs => by
  show (if sAh x m = true then x :: insM xs m else m :: x :: xs).length = _
  split
  ·rw [List.length_cons, insM_len m xs]; rfl
  ·rfl
def isCut (cuts : List Int) (m : M_) : Bool := cuts.any fun c => c == m.f0
abbrev V_ := List M_ × Int × Int × Int × Bool
def apFin (n s g : Int) (out : List M_) : V_ := if vOk out n s g then (out, n, s, g, true) else ([], 0, 0, 0, false)
def apTail (adds : List M_) (cuts : List Int) (n s g : Int) (c : Nat) (out : List M_) : V_ := if (c : Int) = (cuts.length : Int) then apFin n s g (adds.foldl insM out) else ([], 0, 0, 0, false)
def sAp (l : List M_) (n s g : Int) (adds : List M_) (cuts : List Int) (n' s' g' : Int) : V_ :=
 if vOk l n s g ∧ n ≤ n' ∧ s ≤ s' ∧ g ≤ g' ∧ adds.length ≤ 30 then apTail adds cuts n' s' g' (l.filter (isCut cuts)).length (l.filter fun m => !isCut cuts m) else ([], 0, 0, 0, false)
theorem apFin_len (n s g : Int) (out : List M_) : (apFin n s g out).1.length ≤ 30 := by
 unfold apFin
 split
 ·rename_i h; exact h.1
 ·simp
theorem sAp_len (l : List M_) (n s g : Int) (adds : List M_) (cuts : List Int) (n' s' g' : Int) : (sAp l n s g adds cuts n' s' g').1.length ≤ 30 := by
 unfold sAp apTail
 split
 ·split
  ·exact apFin_len _ _ _ _
  ·simp
 ·simp
theorem ins_loop (adds : List M_) (cuts : List Int) (n s g : Int) (i : Nat) (hi : i < adds.length) (h30 : adds.length ≤ 30) (out : List M_) (ho : out.length ≤ 100000) (r : V_)
  (h : Ev (fun k => spec_Apply.l2 k ((i + 1 : Nat) : Int) adds cuts n s g (insM out (adds.getD i z66)) n s g) r) :
  ∀ d j, j + d = out.length → (∀ x ∈ out.take j, sAh x (adds.getD i z66) = true) → Ev (fun k => spec_Apply.l3 k (i : Int) (j : Int) adds cuts n s g out n s g) r := by
 have stop : ∀ j, j ≤ out.length → (∀ x ∈ out.take j, sAh x (adds.getD i z66) = true) → insM (out.drop j) (adds.getD i z66) = adds.getD i z66 :: out.drop j → (([] ++ out.take j) ++ [adds.getD i z66]) ++ out.drop j = insM out (adds.getD i z66) := by
  intro j hj ht hd
  conv => rhs; rw [← List.take_append_drop j out, insM_app _ _ _ ht, hd]
  simp
 intro d
 induction d with
 | zero =>
  intro j hj ht
  have e := stop j (by omega) ht (by rw [List.drop_eq_nil_of_le (by omega)]; rfl)
  refine Ev.step (fun k => spec_Apply.l3.eq_2 ..) ?_
  rw [wsucc (show i < 4611686018427387904 by omega), rdM adds]
  refine Ev.neg (by omega) (Ev.bindS rfl (Ev.pos (by omega) (Ev.pos (by omega) (Ev.bindS rfl (Ev.pos (by simp; omega) (Ev.bindS rfl (Ev.pos (by omega) (Ev.pos (by omega) (Ev.pos (by simp; omega) (Ev.bindS rfl (Ev.bindS rfl (Ev.pos (by simp; omega) ?_))))))))))))
  rw [Int.toNat_natCast]
  generalize adds.getD i z66 = m at e h
  rw [e]
  exact h
 | succ d ih =>
  intro j hj ht
  have hlt : j < out.length := by omega
  by_cases c : sAh (out.getD j z66) (adds.getD i z66) = true
  ·have hn := ih (j + 1) (by omega) (by
    rw [List.take_succ_eq_append_getElem hlt]
    intro x hx
    rcases List.mem_append.1 hx with hx | hx
    ·exact ht x hx
    ·rw [List.mem_singleton] at hx
     rw [List.getD_eq_getElem?_getD, List.getElem?_eq_getElem hlt] at c
     rw [hx]
     exact c)
   refine Ev.step (fun k => spec_Apply.l3.eq_2 ..) ?_
   rw [rdM out, rdM adds, wsucc (show j < 4611686018427387904 by omega)]
   exact Ev.pos (by omega) (Ev.pos (by omega) (Ev.pos (by omega) (Ev.pos (by omega) (Ev.bindS (sAhead_ev _ _) (Ev.pos c hn)))))
  ·have e := stop j (by omega) ht (by
    rw [List.drop_eq_getElem_cons hlt]
    rw [List.getD_eq_getElem?_getD (l := out), List.getElem?_eq_getElem hlt] at c
    show (if sAh out[j] _ = true then _ else _) = _
    exact if_neg c)
   refine Ev.step (fun k => spec_Apply.l3.eq_2 ..) ?_
   rw [rdM out, rdM adds, wsucc (show i < 4611686018427387904 by omega)]
   refine Ev.pos (by omega) (Ev.pos (by omega) (Ev.pos (by omega) (Ev.pos (by omega) (Ev.bindS (sAhead_ev _ _) (Ev.neg c (Ev.bindS rfl (Ev.pos (by omega) (Ev.bindS rfl (Ev.pos (by simp; omega) (Ev.bindS rfl (Ev.pos (by simp; omega) (Ev.bindS rfl (Ev.bindS rfl (Ev.pos (by simp; omega) ?_))))))))))))))
   rw [Int.toNat_natCast]
   generalize adds.getD i z66 = m at e h
   rw [e]
   exact h
theorem adds_loop (adds : List M_) (cuts : List Int) (n s g : Int) (h30 : adds.length ≤ 30) : ∀ i, i ≤ adds.length → ∀ out : List M_, out.length ≤ 5000 + i → Ev (fun k => spec_Apply.l2 k (i : Int) adds cuts n s g out n s g) (apFin n s g ((adds.drop i).foldl insM out)) := by
 refine downTo adds.length ?_ ?_
 ·intro out ho
  rw [List.drop_length, List.foldl_nil]
  refine Ev.step (fun k => spec_Apply.l2.eq_2 ..) ?_
  refine Ev.neg (by omega) (Ev.bind (sVersionOk_ev out n s g (by omega)) ?_)
  unfold apFin
  by_cases c : vOk out n s g
  ·exact Ev.pos (decide_eq_true c) ((Ev.now _).eqr (if_pos c).symm)
  ·exact Ev.neg (by simp [c]) ((Ev.now _).eqr (if_neg c).symm)
 ·intro i hi ih out ho
  have h := ih (insM out (adds.getD i z66)) (by rw [insM_len]; omega)
  rw [List.drop_eq_getElem_cons hi, List.foldl_cons]
  rw [List.getD_eq_getElem?_getD, List.getElem?_eq_getElem hi] at h
  have h2 := ins_loop adds cuts n s g i hi h30 out (by omega) (apFin n s g ((adds.drop (i + 1)).foldl insM (insM out adds[i]))) (by rw [List.getD_eq_getElem?_getD, List.getElem?_eq_getElem hi]; exact h) out.length 0 (by omega) (by simp)
  refine Ev.step (fun k => spec_Apply.l2.eq_2 ..) ?_
  exact Ev.pos (by omega) h2
theorem cut_loop (l : List M_) (n s g : Int) (adds : List M_) (cuts : List Int) (n' s' g' : Int) (i : Nat) (hi : i < l.length) (hl : l.length ≤ 2000) (hc : cuts.length ≤ 2000000) (c : Nat) (hcc : c ≤ i) (out : List M_) (ho : out.length ≤ 2000) (r : V_)
  (h1 : isCut cuts (l.getD i z66) = true → Ev (fun k => spec_Apply.l0 k ((c + 1 : Nat) : Int) ((i + 1 : Nat) : Int) l n s g adds cuts n' s' g' out n' s' g') r)
  (h2 : isCut cuts (l.getD i z66) = false → Ev (fun k => spec_Apply.l0 k (c : Int) ((i + 1 : Nat) : Int) l n s g adds cuts n' s' g' (out ++ [l.getD i z66]) n' s' g') r) :
  Ev (fun k => spec_Apply.l1 k (c : Int) (i : Int) false 0 l n s g adds cuts n' s' g' out n' s' g') r := by
 have key : ∀ j, j ≤ cuts.length → ∀ b : Bool, (b || (cuts.drop j).any fun c => c == (l.getD i z66).f0) = isCut cuts (l.getD i z66) → Ev (fun k => spec_Apply.l1 k (c : Int) (i : Int) b (j : Int) l n s g adds cuts n' s' g' out n' s' g') r := by
  refine downTo cuts.length ?_ ?_
  ·intro b hb
   rw [List.drop_length, List.any_nil, Bool.or_false] at hb
   refine Ev.step (fun k => spec_Apply.l1.eq_2 ..) ?_
   rw [rdM l, wsucc (show i < 4611686018427387904 by omega), wsucc (show c < 4611686018427387904 by omega)]
   refine Ev.neg (by omega) ?_
   cases b with
   | true => exact Ev.pos rfl (h1 hb.symm)
   | false => exact Ev.neg (by simp) (Ev.pos (by omega) (Ev.pos (by omega) (Ev.pos (by omega) (h2 hb.symm))))
  ·intro j hj ih b hb
   rw [List.drop_eq_getElem_cons hj, List.any_cons] at hb
   refine Ev.step (fun k => spec_Apply.l1.eq_2 ..) ?_
   rw [rdM l, wsucc (show j < 4611686018427387904 by omega), getD_rd, List.getD_eq_getElem?_getD (l := cuts), List.getElem?_eq_getElem hj]
   refine Ev.pos (by omega) ?_
   cases b with
   | true => exact Ev.pos rfl (ih true (by rw [← hb]; simp))
   | false => exact Ev.neg (by simp) (Ev.pos (by omega) (Ev.pos (by omega) (Ev.pos (by omega) (ih _ (by rw [← hb, Bool.false_or]; rfl)))))
 exact key 0 (Nat.zero_le _) false (by rw [List.drop_zero, Bool.false_or]; rfl)
theorem files_loop (l : List M_) (n s g : Int) (adds : List M_) (cuts : List Int) (n' s' g' : Int) (hl : l.length ≤ 2000) (hc : cuts.length ≤ 2000000) (h30 : adds.length ≤ 30) : ∀ i, i ≤ l.length → ∀ (c : Nat) (out : List M_), c ≤ i → out.length ≤ i →
  Ev (fun k => spec_Apply.l0 k (c : Int) (i : Int) l n s g adds cuts n' s' g' out n' s' g') (apTail adds cuts n' s' g' (c + ((l.drop i).filter (isCut cuts)).length) (out ++ (l.drop i).filter fun m => !isCut cuts m)) := by
 refine downTo l.length ?_ ?_
 ·intro c out hcc ho
  rw [List.drop_length, List.filter_nil, List.filter_nil, List.length_nil, Nat.add_zero, List.append_nil]
  unfold apTail
  refine Ev.step (fun k => spec_Apply.l0.eq_2 ..) ?_
  refine Ev.neg (by omega) ?_
  by_cases e : (c : Int) = (cuts.length : Int)
  ·refine Ev.pos e ((adds_loop adds cuts n' s' g' h30 0 (Nat.zero_le _) out (by omega)).eqr ?_)
   rw [if_pos e, List.drop_zero]
  ·exact Ev.neg e ((Ev.now _).eqr (if_neg e).symm)
 ·intro i hi ih c out hcc ho
  have hd : l.getD i z66 = l[i] := by rw [List.getD_eq_getElem?_getD, List.getElem?_eq_getElem hi]; rfl
  refine Ev.step (fun k => spec_Apply.l0.eq_2 ..) ?_
  refine Ev.pos (by omega) (cut_loop l n s g adds cuts n' s' g' i hi hl hc c hcc out (by omega) _ ?_ ?_)
  ·intro hb
   rw [hd] at hb
   refine (ih (c + 1) out (by omega) (by omega)).eqr ?_
   rw [List.drop_eq_getElem_cons hi, List.filter_cons, List.filter_cons, if_pos hb, if_neg (by rw [hb]; simp), List.length_cons]
   congr 1
   omega
  ·intro hb
   rw [hd] at hb ⊢
   refine (ih c (out ++ [l[i]]) (by omega) (by simp; omega)).eqr ?_
   rw [List.drop_eq_getElem_cons hi, List.filter_cons, List.filter_cons, if_neg (by rw [hb]; simp), if_pos (by rw [hb]; rfl), List.append_assoc]
   rfl
theorem sApply_ev (l : List M_) (n s g : Int) (adds : List M_) (cuts : List Int) (n' s' g' : Int) (hl : l.length < 2097152) (hc : cuts.length ≤ 2000000) : Ev (fun k => spec_Apply.f k l n s g adds cuts n' s' g') (sAp l n s g adds cuts n' s' g') := by
 unfold spec_Apply.f
 have bad : ¬ (vOk l n s g ∧ n ≤ n' ∧ s ≤ s' ∧ g ≤ g' ∧ adds.length ≤ 30) → Ev (fun k => spec_Apply.j0 k true l n s g adds cuts n' s' g') (sAp l n s g adds cuts n' s' g') := by
  intro h
  refine Ev.step (fun k => spec_Apply.j0.eq_2 ..) ?_
  exact Ev.pos rfl ((Ev.now _).eqr (by unfold sAp; rw [if_neg h]))
 refine Ev.bind (sVersionOk_ev l n s g (by omega)) ?_
 by_cases c : vOk l n s g
 case neg => exact Ev.neg (by simp [c]) (bad (fun h => c h.1))
 refine Ev.pos (decide_eq_true c) ?_
 by_cases c1 : n' < n
 ·exact Ev.pos c1 (bad (fun h => by omega))
 refine Ev.neg c1 ?_
 by_cases c2 : s' < s
 ·exact Ev.pos c2 (bad (fun h => by omega))
 refine Ev.neg c2 ?_
 by_cases c3 : g' < g
 ·exact Ev.pos c3 (bad (fun h => by omega))
 refine Ev.neg c3 ?_
 by_cases c4 : (adds.length : Int) > 30
 ·rw [decide_eq_true c4]
  exact bad (fun h => by omega)
 rw [decide_eq_false c4]
 refine Ev.step (fun k => spec_Apply.j0.eq_2 ..) ?_
 refine Ev.neg (by simp) ((files_loop l n s g adds cuts n' s' g' (by have := c.1; omega) hc (by omega) 0 (Nat.zero_le _) 0 [] (Nat.le_refl _) (by simp)).eqr ?_)
 unfold sAp
 rw [if_pos ⟨c, by omega, by omega, by omega, by omega⟩, List.drop_zero, Nat.zero_add, List.nil_append]
theorem dmeta_ev {l : List Int} {p : Int} (h : okc l) (hp : okp l p) : ∃ r, Ev (fun k => spec_l1Rd_meta.f k l p) r ∧ okp l r.2.2.2.2.2 := by
 unfold spec_l1Rd_meta.f
 obtain ⟨a, ha, _, ha2⟩ := duser_ev h hp
 obtain ⟨b, hb, _, hb2⟩ := duser_ev h ha2
 obtain ⟨n, hn, _, hn2⟩ := near_ev h hb2 0 12 (by omega) (by omega) (by omega)
 obtain ⟨e, he, _, he2⟩ := below_ev h hn2 4 (by omega)
 obtain ⟨c, hc, _, hc2⟩ := near_ev h he2 0 40 (by omega) (by omega) (by omega)
 obtain ⟨o, ho, ho2⟩ := once_ev h hc2 24 (by omega)
 by_cases c0 : o.1 = true
 ·obtain ⟨v, hv, _, hv2⟩ := off_ev h ho2 0 3 (by omega) (by omega) (by omega)
  exact ⟨_, Ev.bindS ha (Ev.bindS hb (Ev.bind hn (Ev.bindS he (Ev.bind hc (Ev.bindS ho (Ev.pos c0 (Ev.bind hv (Ev.now _)))))))), hv2⟩
 ·exact ⟨_, Ev.bindS ha (Ev.bindS hb (Ev.bind hn (Ev.bindS he (Ev.bind hc (Ev.bindS ho (Ev.neg c0 (Ev.now _))))))), ho2⟩
theorem dedit_ev {l : List Int} {p : Int} (h : okc l) (hp : okp l p) (fs : List M_) (hf : fs.length ≤ 2000) (n s g : Int) : ∃ r, Ev (fun k => spec_l1Rd_edit.f k l p fs n s g) r ∧ r.1.length ≤ 3 ∧ r.2.1.length ≤ 2 ∧ okp l r.2.2.2.2.2 := by
 have l0 : ∀ (j : Nat) (acc : List M_) (cuts : List Int) (p n s g : Int), j ≤ 3 → acc.length + j ≤ 3 → cuts.length ≤ 1 → okp l p → ∃ r, Ev (fun k => spec_l1Rd_edit.l0 k (j : Int) l p acc cuts n s g) r ∧ r.1.length ≤ 3 ∧ r.2.1.length ≤ 2 ∧ okp l r.2.2.2.2.2 := by
  intro j
  induction j with
  | zero =>
   intro acc cuts p n s g _ ha hc hp
   obtain ⟨a, ha', ha2⟩ := once_ev h hp 20 (by omega)
   by_cases c : a.1 = true
   ·obtain ⟨b, hb, _, hb2⟩ := off_ev h ha2 1 9 (by omega) (by omega) (by omega)
    exact ⟨_, Ev.step (fun k => spec_l1Rd_edit.l0.eq_2 ..) (Ev.neg (by omega) (Ev.bindS ha' (Ev.pos c (Ev.bind hb (Ev.pos (by omega) (Ev.now _)))))), by show acc.length ≤ 3; omega, by show (cuts ++ [_]).length ≤ 2; simp; omega, hb2⟩
   ·exact ⟨_, Ev.step (fun k => spec_l1Rd_edit.l0.eq_2 ..) (Ev.neg (by omega) (Ev.bindS ha' (Ev.neg c (Ev.now _)))), by show acc.length ≤ 3; omega, by show cuts.length ≤ 2; omega, ha2⟩
  | succ j ih =>
   intro acc cuts p n s g hj ha hc hp
   obtain ⟨m, hm, hm2⟩ := dmeta_ev h hp
   have hw : wrap64 (((j + 1 : Nat) : Int) - 1) = (j : Int) := by rw [wid (by omega) (by omega)]; omega
   by_cases c : n > 1
   ·obtain ⟨o, ho, ho2⟩ := once_ev h hm2 4 (by omega)
    by_cases c2 : o.1 = true
    ·obtain ⟨r, hr, hr2⟩ := ih (acc ++ [(⟨m.1, m.2.1, m.2.2.1, m.2.2.2.1, m.2.2.2.2.1⟩ : M_)]) cuts o.2 n s g (by omega) (by simp; omega) hc ho2
     refine ⟨r, Ev.step (fun k => spec_l1Rd_edit.l0.eq_2 ..) (Ev.pos (by omega) (Ev.bind hm (Ev.pos c (Ev.bindS ho (Ev.pos c2 (Ev.pos (by omega) ?_)))))), hr2⟩
     rw [hw]
     exact hr
    ·obtain ⟨r, hr, hr2⟩ := ih (acc ++ [(⟨wrap64 (n - ((j + 1 : Nat) : Int)), m.2.1, m.2.2.1, m.2.2.2.1, m.2.2.2.2.1⟩ : M_)]) cuts o.2 n s g (by omega) (by simp; omega) hc ho2
     refine ⟨r, Ev.step (fun k => spec_l1Rd_edit.l0.eq_2 ..) (Ev.pos (by omega) (Ev.bind hm (Ev.pos c (Ev.bindS ho (Ev.neg c2 (Ev.pos (by omega) ?_)))))), hr2⟩
     rw [hw]
     exact hr
   ·obtain ⟨r, hr, hr2⟩ := ih (acc ++ [(⟨m.1, m.2.1, m.2.2.1, m.2.2.2.1, m.2.2.2.2.1⟩ : M_)]) cuts m.2.2.2.2.2 n s g (by omega) (by simp; omega) hc hm2
    refine ⟨r, Ev.step (fun k => spec_l1Rd_edit.l0.eq_2 ..) (Ev.pos (by omega) (Ev.bind hm (Ev.neg c (Ev.pos (by omega) ?_)))), hr2⟩
    rw [hw]
    exact hr
 have j2 : ∀ (cuts : List Int) (p n s g : Int), cuts.length ≤ 1 → okp l p → ∃ r, Ev (fun k => spec_l1Rd_edit.j2 k l p cuts n s g) r ∧ r.1.length ≤ 3 ∧ r.2.1.length ≤ 2 ∧ okp l r.2.2.2.2.2 := by
  intro cuts p n s g hc hp
  obtain ⟨a, ha, ha1, ha2⟩ := below_ev h hp 3 (by omega)
  obtain ⟨m, hm⟩ : ∃ m : Nat, a.1 = m := ⟨a.1.toNat, by omega⟩
  obtain ⟨r, hr, hr2⟩ := l0 m [] cuts a.2 n s g (by omega) (by simp; omega) hc ha2
  refine ⟨r, Ev.step (fun k => spec_l1Rd_edit.j2.eq_2 ..) (Ev.bindS ha ?_), hr2⟩
  rw [hm]
  exact hr
 have j1 : ∀ (b : Bool) (p n s g n' s' g' : Int), (b = true → 0 < fs.length) → okp l p → ∃ r, Ev (fun k => spec_l1Rd_edit.j1 k b l p fs n s g n' s' g') r ∧ r.1.length ≤ 3 ∧ r.2.1.length ≤ 2 ∧ okp l r.2.2.2.2.2 := by
  intro b p n s g n' s' g' hb hp
  cases b with
  | true =>
   have hb := hb rfl
   obtain ⟨a, ha, ha1, ha2⟩ := below_ev h hp (fs.length : Int) (by omega)
   obtain ⟨r, hr, hr2⟩ := j2 ([] ++ [(qv fs a.1).f0]) a.2 n' s' g' (by simp) ha2
   exact ⟨r, Ev.step (fun k => spec_l1Rd_edit.j1.eq_2 ..) (Ev.pos rfl (Ev.bindS ha (Ev.pos ha1.1 (Ev.pos ha1.2 (Ev.pos (by simp) hr))))), hr2⟩
  | false =>
   obtain ⟨r, hr, hr2⟩ := j2 [] p n' s' g' (by simp) hp
   exact ⟨r, Ev.step (fun k => spec_l1Rd_edit.j1.eq_2 ..) (Ev.neg (by simp) hr), hr2⟩
 have j0 : ∀ (p n s g n' s' g' : Int), okp l p → ∃ r, Ev (fun k => spec_l1Rd_edit.j0 k l p fs n s g n' s' g') r ∧ r.1.length ≤ 3 ∧ r.2.1.length ≤ 2 ∧ okp l r.2.2.2.2.2 := by
  intro p n s g n' s' g' hp
  by_cases c : (fs.length : Int) > 0
  ·obtain ⟨a, ha, ha2⟩ := once_ev h hp 2 (by omega)
   obtain ⟨r, hr, hr2⟩ := j1 a.1 a.2 n s g n' s' g' (fun _ => by omega) ha2
   exact ⟨r, Ev.step (fun k => spec_l1Rd_edit.j0.eq_2 ..) (Ev.pos c (Ev.bindS ha hr)), hr2⟩
  ·obtain ⟨r, hr, hr2⟩ := j1 false p n s g n' s' g' (fun e => by cases e) hp
   exact ⟨r, Ev.step (fun k => spec_l1Rd_edit.j0.eq_2 ..) (Ev.neg c hr), hr2⟩
 unfold spec_l1Rd_edit.f
 obtain ⟨a, ha, _, ha2⟩ := below_ev h hp 4 (by omega)
 obtain ⟨b, hb, _, hb2⟩ := below_ev h ha2 9 (by omega)
 obtain ⟨c, hc, hc2⟩ := once_ev h hb2 3 (by omega)
 by_cases c0 : c.1 = true
 ·obtain ⟨r, hr, hr2⟩ := j0 c.2 n s g (wrap64 (n + a.1)) (wrap64 (s + b.1)) (wrap64 (wrap64 (n + a.1) - 1)) hc2
  exact ⟨r, Ev.bindS ha (Ev.bindS hb (Ev.bindS hc (Ev.pos c0 hr))), hr2⟩
 ·obtain ⟨r, hr, hr2⟩ := j0 c.2 n s g (wrap64 (n + a.1)) (wrap64 (s + b.1)) g hc2
  exact ⟨r, Ev.bindS ha (Ev.bindS hb (Ev.bindS hc (Ev.neg c0 hr))), hr2⟩
theorem dversion_ev {l : List Int} {p : Int} (h : okc l) (hp : okp l p) : ∃ r, Ev (fun k => spec_l1Rd_version.f k l p) r ∧ r.1.length ≤ 31 ∧ okp l r.2.2.2.2 := by
 have l0 : ∀ (j : Nat) (fs : List M_) (p n s g : Int), j ≤ 6 → fs.length ≤ 30 → okp l p → ∃ r, Ev (fun k => spec_l1Rd_version.l0 k (j : Int) l p fs n s g) r ∧ r.1.length ≤ 31 ∧ okp l r.2.2.2.2 := by
  intro j
  induction j with
  | zero =>
   intro fs p n s g _ hf hp
   obtain ⟨a, ha', ha2⟩ := once_ev h hp 16 (by omega)
   by_cases c : a.1 = true
   ·obtain ⟨b, hb, hb2⟩ := dmeta_ev h ha2
    exact ⟨_, Ev.step (fun k => spec_l1Rd_version.l0.eq_2 ..) (Ev.neg (by omega) (Ev.bindS ha' (Ev.pos c (Ev.bind hb (Ev.pos (by omega) (Ev.now _)))))), by show (fs ++ [_]).length ≤ 31; simp; omega, hb2⟩
   ·exact ⟨_, Ev.step (fun k => spec_l1Rd_version.l0.eq_2 ..) (Ev.neg (by omega) (Ev.bindS ha' (Ev.neg c (Ev.now _)))), by show fs.length ≤ 31; omega, ha2⟩
  | succ j ih =>
   intro fs p n s g hj hf hp
   obtain ⟨e, he, he1, he2, he3⟩ := dedit_ev h hp fs (by omega) n s g
   have hw : wrap64 (((j + 1 : Nat) : Int) - 1) = (j : Int) := by rw [wid (by omega) (by omega)]; omega
   have ha := sApply_ev fs n s g e.1 e.2.1 e.2.2.1 e.2.2.2.1 e.2.2.2.2.1 (by omega) (by omega)
   have hlen := sAp_len fs n s g e.1 e.2.1 e.2.2.1 e.2.2.2.1 e.2.2.2.2.1
   generalize sAp fs n s g e.1 e.2.1 e.2.2.1 e.2.2.2.1 e.2.2.2.2.1 = v at ha hlen
   by_cases c : v.2.2.2.2 = true
   ·obtain ⟨r, hr, hr2⟩ := ih v.1 e.2.2.2.2.2 v.2.1 v.2.2.1 v.2.2.2.1 (by omega) hlen he3
    refine ⟨r, Ev.step (fun k => spec_l1Rd_version.l0.eq_2 ..) (Ev.pos (by omega) (Ev.bind he (Ev.bind ha (Ev.pos c ?_)))), hr2⟩
    rw [hw]
    exact hr
   ·obtain ⟨r, hr, hr2⟩ := ih fs e.2.2.2.2.2 n s g (by omega) hf he3
    refine ⟨r, Ev.step (fun k => spec_l1Rd_version.l0.eq_2 ..) (Ev.pos (by omega) (Ev.bind he (Ev.bind ha (Ev.neg c ?_)))), hr2⟩
    rw [hw]
    exact hr
 unfold spec_l1Rd_version.f
 obtain ⟨a, ha, _, ha2⟩ := near_ev h hp 0 5 (by omega) (by omega) (by omega)
 obtain ⟨b, hb, hb1, hb2⟩ := below_ev h ha2 7 (by omega)
 obtain ⟨m, hm⟩ : ∃ m : Nat, b.1 = m := ⟨b.1.toNat, by omega⟩
 obtain ⟨r, hr, hr2⟩ := l0 m [] b.2 (wrap64 (1 + a.1)) 0 0 (by omega) (by simp) hb2
 refine ⟨r, Ev.bind ha (Ev.bindS hb ?_), hr2⟩
 rw [hm]
 exact hr
end Go.Proofs.Ytcgejabkjljeeaa.Pure
end

section
namespace Go.Proofs.Ytcgejabkjljeeaa.Pure
open Go.RowKit Go.Proofs.YtcgejabkjljeeaaW.PrintWords Go.Proofs.YtcgejabkjljeeaaW.PrintLast Go.Proofs.YtcgejabkjljeeaaW.PrintMore
open Go.Proofs.Ytcgejabkjljeeaa.P
set_option linter.unusedVariables false
set_option linter.unusedSimpArgs false
theorem byteOk {l : List Int} (h1 : l.length ≤ 1048576) (h2 : ∀ x ∈ l, (Lit.int .u8 x).wf = true) : okc l := by
 refine ⟨h1, fun x hx => ?_⟩
 have := h2 x hx
 simp [Lit.wf, IntKind.min, IntKind.max, IntKind.signed, IntKind.bits] at this
 omega
theorem okp0 (l : List Int) : okp l 0 := ⟨by omega, by omega⟩
end Go.Proofs.Ytcgejabkjljeeaa.Pure
end

section
namespace Go.Proofs.Ytcgejabkjljeeaa.Pure
open Go.RowKit Go.Proofs.YtcgejabkjljeeaaW.PrintWords Go.Proofs.YtcgejabkjljeeaaW.PrintLast Go.Proofs.YtcgejabkjljeeaaW.PrintMore
open Go.Proofs.Ytcgejabkjljeeaa.P
set_option linter.unusedVariables false
set_option linter.unusedSimpArgs false
theorem iT_pv (n : Int) (h0 : 0 ≤ n) (h1 : n ≤ 1000000000000) (r : ByteArray) : iT (pv n.toNat ++ r) = (n, r, true) := by
 unfold iT
 have h := tv_pv n.toNat (by omega) r
 rw [Int.toNat_of_nonneg h0] at h
 rw [h, if_pos ⟨rfl, h1⟩]
theorem iT_back {s : ByteArray} (h : (iT s).2.2 = true) : s = pv (iT s).1.toNat ++ (iT s).2.1 := by
 unfold iT at h ⊢
 split at h
 ·rename_i c
  rw [if_pos c]
  exact tv_back s c.1
 ·cases h
theorem sGo_round (n s g : Int) (hn : n ≤ 1000000) : ∀ (l acc : List M_), (∀ m ∈ l, okM n m) → vOk (acc ++ l) n s g → sGo n s g l.length (mtexts l) acc = (acc ++ l, n, s, g, true) := by
 intro l
 induction l with
 | nil =>
  intro acc _ hv
  rw [List.append_nil] at hv ⊢
  rw [List.length_nil, sGo, mtexts, if_pos ⟨(toList_nil _).2 rfl, hv⟩]
 | cons m ms ih =>
  intro acc hm hv
  obtain ⟨h0, h1, h2, h3, h4⟩ := okM_small (hm m (List.mem_cons_self ..)) hn
  have e : mtexts (m :: ms) = pv m.f0.toNat ++ (pv m.f1.toNat ++ (pt m.f2 ++ (pt m.f3 ++ (pv m.f4.toNat ++ mtexts ms)))) := by
   rw [mtexts]
   unfold mtext
   simp only [ba_assoc]
  have a := iT_pv m.f0 h0.1 (by omega) (pv m.f1.toNat ++ (pt m.f2 ++ (pt m.f3 ++ (pv m.f4.toNat ++ mtexts ms))))
  have b := iT_pv m.f1 h1.1 (by omega) (pt m.f2 ++ (pt m.f3 ++ (pv m.f4.toNat ++ mtexts ms)))
  have c := tt_pt m.f2 (pt m.f3 ++ (pv m.f4.toNat ++ mtexts ms)) (by omega)
  have d := tt_pt m.f3 (pv m.f4.toNat ++ mtexts ms) (by omega)
  have f := iT_pv m.f4 h4.1 (by omega) (mtexts ms)
  rw [List.length_cons, e, sGo, a, b, c, d, f, if_pos ⟨rfl, rfl, rfl, rfl, rfl⟩]
  have := ih (acc ++ [m]) (fun x hx => hm x (List.mem_cons_of_mem _ hx)) (by rw [List.append_assoc]; exact hv)
  rw [List.append_assoc] at this
  exact this
theorem rvV_round {l : List M_} {n s g : Int} (h : vOk l n s g) : rvV (sec (vbody l n s g)) = (l, n, s, g, true) := by
 have hb := vbody_size h
 have hn := h.2.1
 have hs := h.2.2.1
 have hg := h.2.2.2.1
 have hl := h.1
 have t := tt_pt (vbody l n s g) (pf (crc (vbody l n s g))) (by omega)
 have hc := crc_range (vbody l n s g)
 have hf := f4_pf (crc (vbody l n s g)) hc.1 hc.2 ⟨#[]⟩
 rw [ba_nil] at hf
 unfold rvV
 have ok : okS (sec (vbody l n s g)) := by
  unfold okS sec
  rw [t]
  exact ⟨rfl, pf_size _, hf⟩
 rw [if_pos ok]
 unfold sec
 rw [t]
 show rdS (vbody l n s g) = _
 have e : vbody l n s g = pv n.toNat ++ (pv s.toNat ++ (pv g.toNat ++ (pv (l.length : Int).toNat ++ mtexts l))) := by
  unfold vbody
  rw [Int.toNat_natCast]
  simp only [ba_assoc]
 have a := iT_pv n (by omega) (by omega) (pv s.toNat ++ (pv g.toNat ++ (pv (l.length : Int).toNat ++ mtexts l)))
 have b := iT_pv s (by omega) (by omega) (pv g.toNat ++ (pv (l.length : Int).toNat ++ mtexts l))
 have c := iT_pv g (by omega) (by omega) (pv (l.length : Int).toNat ++ mtexts l)
 have d := iT_pv (l.length : Int) (by omega) (by omega) (mtexts l)
 rw [e]
 unfold rdS
 rw [a, b, c, d]
 unfold rS4
 rw [if_pos ⟨rfl, rfl, rfl, rfl, by simp only []; omega⟩]
 have := sGo_round n s g hn.2 l [] (vOk_all h) h
 simp only [Int.toNat_natCast]
 exact this
theorem sGo_back (n s g : Int) : ∀ (d : Nat) (left : ByteArray) (acc : List M_), (sGo n s g d left acc).2.2.2.2 = true → ∃ l : List M_, sGo n s g d left acc = (acc ++ l, n, s, g, true) ∧ l.length = d ∧ left = mtexts l ∧ vOk (acc ++ l) n s g := by
 intro d
 induction d with
 | zero =>
  intro left acc h
  rw [sGo] at h ⊢
  split at h
  ·rename_i c
   rw [if_pos c]
   refine ⟨[], by rw [List.append_nil], rfl, ?_, by rw [List.append_nil]; exact c.2⟩
   exact toList_inj (by rw [c.1, mtexts]; exact ((toList_nil _).2 rfl).symm)
  ·cases h
 | succ d ih =>
  intro left acc h
  rw [sGo] at h ⊢
  split at h
  ·rename_i c
   rw [if_pos c]
   obtain ⟨c1, c2, c3, c4, c5⟩ := c
   obtain ⟨l, h1, h2, h3, h4⟩ := ih _ _ h
   have b1 := iT_back c1
   generalize iT left = A at *
   have b2 := iT_back c2
   generalize iT A.2.1 = B at *
   have b3 := tt_back _ c3
   generalize tt B.2.1 = C at *
   have b4 := tt_back _ c4
   generalize tt C.2.1 = D at *
   have b5 := iT_back c5
   generalize iT D.2.1 = F at *
   refine ⟨⟨A.1, B.1, C.1, D.1, F.1⟩ :: l, ?_, by rw [List.length_cons, h2], ?_, ?_⟩
   ·rw [h1, List.append_assoc]
    rfl
   ·rw [b1, b2, b3, b4, b5, h3, mtexts]
    unfold mtext
    simp only [ba_assoc]
   ·rw [List.append_assoc] at h4
    exact h4
  ·cases h
theorem rvV_back (t : ByteArray) (h : (rvV t).2.2.2.2 = true) : vtV (rvV t).1 (rvV t).2.1 (rvV t).2.2.1 (rvV t).2.2.2.1 = t := by
 unfold rvV at h ⊢
 split at h
 case isFalse => cases h
 rename_i ok
 rw [if_pos ok]
 obtain ⟨o1, o2, o3⟩ := ok
 have bt_ := tt_back t o1
 have pb := pf_f4 (tt t).2.1 (by omega)
 rw [o3] at pb
 generalize tt t = T at *
 have pb2 : T.2.1 = pf (crc T.1) := by
  rw [← pb, show T.2.1.extract 4 T.2.1.size = (⟨#[]⟩ : ByteArray) from toList_inj (by rw [(toList_nil _).2 (by rw [ByteArray.size_extract]; omega), (toList_nil _).2 rfl]), ba_nil]
 have et : t = sec T.1 := by
  unfold sec
  rw [bt_, pb2]
 clear bt_ pb pb2 o1 o2 o3
 generalize T.1 = body at *
 unfold rdS at h ⊢
 unfold rS4 at h ⊢
 split at h
 case isFalse => cases h
 rename_i c
 rw [if_pos c]
 obtain ⟨c1, c2, c3, c4, c5⟩ := c
 have b1 := iT_back c1
 generalize iT body = A at *
 have b2 := iT_back c2
 generalize iT A.2.1 = B at *
 have b3 := iT_back c3
 generalize iT B.2.1 = C at *
 have b4 := iT_back c4
 generalize iT C.2.1 = D at *
 obtain ⟨l, h1, h2, h3, h4⟩ := sGo_back _ _ _ _ _ _ h
 rw [h1]
 show vtV l A.1 B.1 C.1 = t
 unfold vtV
 rw [if_pos (by simpa using h4), et]
 congr 1
 unfold vbody
 rw [h2, b1, b2, b3, b4, h3]
 simp only [ba_assoc]
theorem vtV_size (l : List M_) (n s g : Int) : (vtV l n s g).size ≤ 4014 := by
 unfold vtV
 split
 ·rename_i h
  have := vbody_size h
  have := pt_size (vbody l n s g) (by omega)
  unfold sec
  rw [ByteArray.size_append, pf_size]
  omega
 ·exact Nat.zero_le _
theorem drawVText_ev {l : List Int} (h : okc l) : ∃ r, Ev (fun k => spec_DrawVersionText.f k l) r ∧ r.1.length ≤ 31 := by
 obtain ⟨v, hv, hl, hp⟩ := dversion_ev h (okp0 l)
 unfold spec_DrawVersionText.f
 exact ⟨_, Ev.bindS rfl (Ev.bind hv (Ev.now _)), hl⟩
theorem drawRVer_ev {l : List Int} (h : okc l) : ∃ r : ByteArray, Ev (fun k => spec_DrawReadVersion.f k l) r ∧ r.size ≤ 1048576 := by
 obtain ⟨v, hv, hl, hp⟩ := dversion_ev h (okp0 l)
 have ht := sVersionText_ev v.1 v.2.1 v.2.2.1 v.2.2.2.1 (by omega)
 have hz := vtV_size v.1 v.2.1 v.2.2.1 v.2.2.2.1
 generalize vtV v.1 v.2.1 v.2.2.1 v.2.2.2.1 = t at ht hz
 obtain ⟨a, ha, ha1, ha2⟩ := below_ev h hp 6 (by omega)
 unfold spec_DrawReadVersion.f
 by_cases c0 : a.1 = 0
 ·obtain ⟨b, hb, hb1, hb2⟩ := bytes_ev h ha2 2 (by omega) (by omega)
  refine ⟨_, Ev.bindS rfl (Ev.bind hv (Ev.bind ht (Ev.bindS ha (Ev.pos c0 (Ev.bind hb (Ev.pos (by omega) (Ev.now _))))))), ?_⟩
  rw [ByteArray.size_append]
  omega
 by_cases c1 : a.1 = 1
 ·by_cases c2 : (t.size : Int) > 0
  ·obtain ⟨i, hi, hi1, hi2⟩ := below_ev h ha2 (t.size : Int) (by omega)
   obtain ⟨b, hb, hb1, hb2⟩ := bytes_ev h hi2 1 (by omega) (by omega)
   have hw : wrap64 (i.1 + 1) = i.1 + 1 := wid (by omega) (by omega)
   refine ⟨((t.extract 0 i.1.toNat) ++ b.1) ++ (t.extract (i.1 + 1).toNat t.size), Ev.bindS rfl (Ev.bind hv (Ev.bind ht (Ev.bindS ha (Ev.neg c0 (Ev.pos c1 (Ev.pos c2 (Ev.bindS hi (Ev.pos hi1.1 (Ev.pos (by omega) (Ev.bind hb (Ev.pos (by omega) ?_))))))))))), ?_⟩
   ·rw [hw]
    exact Ev.pos (by omega) (Ev.pos (by omega) (Ev.pos (by omega) (Ev.now _)))
   ·rw [ByteArray.size_append, ByteArray.size_append, ByteArray.size_extract, ByteArray.size_extract]
    omega
  ·exact ⟨t, Ev.bindS rfl (Ev.bind hv (Ev.bind ht (Ev.bindS ha (Ev.neg c0 (Ev.pos c1 (Ev.neg c2 (Ev.now _))))))), by omega⟩
 by_cases c3 : a.1 = 2
 ·obtain ⟨b, hb, hb1, hb2⟩ := bytes_ev h ha2 9 (by omega) (by omega)
  refine ⟨sec b.1, Ev.bindS rfl (Ev.bind hv (Ev.bind ht (Ev.bindS ha (Ev.neg c0 (Ev.neg c1 (Ev.pos c3 (Ev.bind hb (Ev.bind (sSection_ev b.1 (by omega)) (Ev.now _))))))))), ?_⟩
  have := pt_size b.1 (by omega)
  unfold sec
  rw [ByteArray.size_append, pf_size]
  omega
 ·exact ⟨t, Ev.bindS rfl (Ev.bind hv (Ev.bind ht (Ev.bindS ha (Ev.neg c0 (Ev.neg c1 (Ev.neg c3 (Ev.now _))))))), by omega⟩
theorem okS_empty : rvV ⟨#[]⟩ = rvBad := by
 unfold rvV
 rw [if_neg]
 intro h
 have h1 := h.1
 have := (tt_range (⟨#[]⟩ : ByteArray)).2.2.2 h1
 rw [empty_size] at this
 omega
theorem FnVersionTexts : laws_FnVersionTexts.Pure := by
 intro l _ _ hb
 refine Ev.rounds (g := fun k => laws_FnVersionTexts.f k l) ?_
 unfold laws_FnVersionTexts.f
 refine Ev.bindS (a := decide ((l.length : Int) > 1048576)) rfl ?_
 by_cases big : (l.length : Int) > 1048576
 ·exact Ev.pos (decide_eq_true big) (Ev.now _)
 have hc := byteOk (l := l) (by omega) hb
 refine Ev.neg (by simpa using big) ?_
 have second : Ev (fun k => laws_FnVersionTexts.j0 k l false) true := by
  refine Ev.step (fun k => laws_FnVersionTexts.j0.eq_2 ..) ?_
  refine Ev.neg (by decide) ?_
  obtain ⟨t, ht, htz⟩ := drawRVer_ev hc
  have h1 := readVersion_ev t htz
  have h2 := sReadVersion_ev t htz
  have hbk := rvV_back t
  generalize rvV t = v at h1 h2 hbk
  refine Ev.bind ht (Ev.bind h1 (Ev.bind h2 (Ev.pos (by simp) ?_)))
  by_cases c : v.2.2.2.2 = true
  ·refine Ev.pos c (Ev.bind (versionText_ev _ _ _ _) ((Ev.now _).eqr ?_))
   rw [hbk c]
   simp
  ·exact Ev.neg c (Ev.now _)
 obtain ⟨d, hd, hd1⟩ := drawVText_ev hc
 obtain ⟨fs, n, s, g⟩ := d
 simp only [] at hd1
 have h1 := versionText_ev fs n s g
 have h2 := sVersionText_ev fs n s g (by omega)
 have hz := vtV_size fs n s g
 by_cases cv : vOk fs n s g
 ·have hr := readVersion_ev (vtV fs n s g) (by omega)
  have hround : rvV (vtV fs n s g) = (fs, n, s, g, true) := by
   unfold vtV
   rw [if_pos cv]
   exact rvV_round cv
  rw [hround] at hr
  refine Ev.bind hd (Ev.bind h1 (Ev.bind hr (Ev.bind h2 (Ev.pos rfl (Ev.bindS (show impl_VersionOk.f fs n s g = some (decide (vOk fs n s g)) from rfl) ?_)))))
  rw [decide_eq_true cv]
  refine Ev.neg (by simp) (Ev.pos rfl (Ev.bind (sameMetas_self fs (by omega)) (Ev.pos rfl (Ev.pos rfl (Ev.pos rfl ?_)))))
  simp only [bne_self_eq_false]
  exact second
 ·have he : vtV fs n s g = ⟨#[]⟩ := if_neg cv
  have hr := readVersion_ev (vtV fs n s g) (by omega)
  rw [he, okS_empty] at hr
  rw [he] at h1 h2
  refine Ev.bind hd (Ev.bind h1 (Ev.bind hr (Ev.bind h2 (Ev.pos rfl (Ev.bindS (show impl_VersionOk.f fs n s g = some (decide (vOk fs n s g)) from rfl) ?_)))))
  rw [decide_eq_false cv]
  exact Ev.neg (by simp [rvBad]) (Ev.neg (by simp [rvBad]) second)
end Go.Proofs.Ytcgejabkjljeeaa.Pure
end
