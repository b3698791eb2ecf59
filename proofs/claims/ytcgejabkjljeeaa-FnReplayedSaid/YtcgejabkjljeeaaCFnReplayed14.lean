/- Proved: the law FnReplayed of the given program returns true for every input of its Go types and leaves each argument as it was; no condition. (Part 15 of 17.) -/
import Derived.Test.YtcgejabkjljeeaaCFnReplayed4
import Derived.Test.YtcgejabkjljeeaaCFnReplayed5
import Derived.Test.YtcgejabkjljeeaaCFnReplayed8
import Derived.Lib.EndianBits
import Derived.Test.YtcgejabkjljeeaaCFnReplayed13
import Derived.Test.YtcgejabkjljeeaaCFnReplayed10
import Derived.Test.YtcgejabkjljeeaaCFnReplayed7
import Derived.Test.YtcgejabkjljeeaaCFnReplayed6
import Derived.Test.YtcgejabkjljeeaaCFnReplayed12
section
namespace Go.Proofs.Ytcgejabkjljeeaa.P
open Go.RowKit Go.Proofs.YtcgejabkjljeeaaW.PrintWords Go.Proofs.YtcgejabkjljeeaaW.PrintLast Go.Proofs.YtcgejabkjljeeaaW.PrintMore
attribute [local go_sem] str_gtr str_leq str_geq max2_int min2_int max_two min_two qe1 qd1 max_four min_four
set_option linter.unusedVariables false
set_option linter.unusedSimpArgs false
def okc (l : List Int) : Prop := l.length ≤ 1048576 ∧ ∀ x ∈ l, 0 ≤ x ∧ x ≤ 255
def okp (l : List Int) (p : Int) : Prop := 0 ≤ p ∧ p ≤ (l.length : Int)
theorem okc_rd {l : List Int} (h : okc l) (i : Int) : 0 ≤ rd l i ∧ rd l i ≤ 255 := by
 unfold rd
 rw [List.getD_eq_getElem?_getD]
 by_cases c : i.toNat < l.length
 ·rw [List.getElem?_eq_getElem c]
  exact h.2 _ (List.getElem_mem c)
 ·rw [List.getElem?_eq_none (by omega)]
  simp
theorem next_ev {l : List Int} {p : Int} (h : okc l) (hp : okp l p) : ∃ r, spec_l1Rd_next.f l p = some r ∧ (0 ≤ r.1 ∧ r.1 ≤ 255) ∧ okp l r.2 := by
 obtain ⟨h1, h2⟩ := hp
 have hl := h.1
 unfold spec_l1Rd_next.f
 by_cases c : p ≥ (l.length : Int)
 ·exact ⟨_, if_pos c, by simp, h1, h2⟩
 ·have e1 : wrap64 (p + 1) = p + 1 := wid (by omega) (by omega)
  have e2 : wrap64 (p + 1 - 1) = p := by rw [wid (by omega) (by omega)]; omega
  obtain ⟨r0, r1⟩ := okc_rd h p
  rw [if_neg c, e1, e2, if_pos h1, if_pos (by omega)]
  refine ⟨_, rfl, ?_, ?_⟩
  ·show 0 ≤ wrap64 (rd l p) ∧ wrap64 (rd l p) ≤ 255
   rw [wid (by omega) (by omega)]
   exact ⟨r0, r1⟩
  ·exact ⟨by show 0 ≤ p + 1; omega, by show p + 1 ≤ _; omega⟩
theorem below_ev {l : List Int} {p : Int} (h : okc l) (hp : okp l p) (n : Int) (hn : 1 ≤ n) : ∃ r, spec_l1Rd_below.f l p n = some r ∧ (0 ≤ r.1 ∧ r.1 < n) ∧ okp l r.2 := by
 unfold spec_l1Rd_below.f
 by_cases c : n ≤ 1
 ·exact ⟨_, if_pos c, ⟨by simp, by show (0 : Int) < n; omega⟩, hp⟩
 ·rw [if_neg c]
  obtain ⟨a, ha, ha1, ha2⟩ := next_ev h hp
  by_cases c2 : n ≤ 256
  ·rw [if_pos c2, ha]
   refine ⟨(Int.tmod a.1 n, a.2), by rw [Option.bind_some, if_neg (by omega)], ?_, ha2⟩
   show 0 ≤ Int.tmod a.1 n ∧ Int.tmod a.1 n < n
   rw [Int.tmod_eq_emod_of_nonneg ha1.1]
   exact ⟨Int.emod_nonneg _ (by omega), Int.emod_lt_of_pos _ (by omega)⟩
  ·obtain ⟨b, hb, hb1, hb2⟩ := next_ev h ha2
   rw [if_neg c2, ha, Option.bind_some, hb, Option.bind_some, if_neg (by omega)]
   refine ⟨_, rfl, ?_, hb2⟩
   show 0 ≤ Int.tmod (wrap64 (wrap64 (a.1 * 256) + b.1)) n ∧ Int.tmod (wrap64 (wrap64 (a.1 * 256) + b.1)) n < n
   rw [wid (x := a.1 * 256) (by omega) (by omega), wid (by omega) (by omega), Int.tmod_eq_emod_of_nonneg (by omega)]
   exact ⟨Int.emod_nonneg _ (by omega), Int.emod_lt_of_pos _ (by omega)⟩
theorem once_ev {l : List Int} {p : Int} (h : okc l) (hp : okp l p) (n : Int) (hn : 1 ≤ n) : ∃ r, spec_l1Rd_once.f l p n = some r ∧ okp l r.2 := by
 obtain ⟨a, ha, _, ha2⟩ := below_ev h hp n hn
 unfold spec_l1Rd_once.f
 rw [ha]
 exact ⟨_, rfl, ha2⟩
theorem bits_u64 (o : BinOp) (a b : Int) : 0 ≤ Go.bits o .u64 a b ∧ Go.bits o .u64 a b ≤ 18446744073709551615 := by
 unfold Go.bits
 simp only [IntKind.wrap_u64]
 omega
theorem word_ev {l : List Int} {p : Int} (h : okc l) (hp : okp l p) : ∃ r, Ev (fun k => spec_l1Rd_word.f k l p) r ∧ (0 ≤ r.1 ∧ r.1 ≤ 18446744073709551615) ∧ okp l r.2 := by
 have key : ∀ i : Nat, i ≤ 8 → ∀ (x p : Int), 0 ≤ x ∧ x ≤ 18446744073709551615 → okp l p → ∃ r, Ev (fun k => spec_l1Rd_word.l0 k x (i : Int) l p) r ∧ (0 ≤ r.1 ∧ r.1 ≤ 18446744073709551615) ∧ okp l r.2 := by
  refine downTo 8 ?_ ?_
  ·intro x p hx hp
   exact ⟨(x, p), Ev.step (fun k => spec_l1Rd_word.l0.eq_2 ..) (Ev.neg (by omega) (Ev.now _)), hx, hp⟩
  ·intro i hi ih x p hx hp
   obtain ⟨a, ha, _, ha2⟩ := next_ev h hp
   obtain ⟨r, hr, hr2⟩ := ih _ a.2 (bits_u64 .or (IntKind.u64.wrap (x * 256)) (IntKind.u64.wrap a.1)) ha2
   refine ⟨r, Ev.step (fun k => spec_l1Rd_word.l0.eq_2 ..) (Ev.pos (by omega) (Ev.bindS ha ?_)), hr2⟩
   rw [wsucc (by omega)]
   exact hr
 exact key 0 (by omega) 0 p (by omega) hp
theorem duser_ev {l : List Int} {p : Int} (h : okc l) (hp : okp l p) : ∃ r, spec_l1Rd_user.f l p = some r ∧ (isU r.1) ∧ okp l r.2 := by
 obtain ⟨a, ha, ha1, ha2⟩ := below_ev h hp 10 (by omega)
 unfold spec_l1Rd_user.f
 rw [Option.bind_some, ha, Option.bind_some, if_pos ha1.1, if_pos (by simp only [List.length_cons, List.length_nil]; omega)]
 refine ⟨_, rfl, ?_, ha2⟩
 obtain ⟨m, hm⟩ : ∃ m : Nat, a.1 = m := ⟨a.1.toNat, by omega⟩
 have hlt : m < 10 := by omega
 simp only [hm]
 clear hm ha1 ha ha2
 revert m
 unfold rdOf
 simp only [Int.toNat_natCast]
 decide +kernel
theorem near_ev {l : List Int} {p : Int} (h : okc l) (hp : okp l p) (a b : Int) (hab : a ≤ b) (ha : -1000000000000000 ≤ a) (hb : b ≤ 1000000000000000) : ∃ r, Ev (fun k => spec_l1Rd_near.f k l p a b) r ∧ (a ≤ r.1 ∧ r.1 ≤ b) ∧ okp l r.2 := by
 unfold spec_l1Rd_near.f
 obtain ⟨x, hx, hx1, hx2⟩ := below_ev h hp 8 (by omega)
 by_cases c0 : x.1 = 0
 ·exact ⟨_, Ev.bindS hx (Ev.pos c0 (Ev.now _)), ⟨Int.le_refl _, hab⟩, hx2⟩
 ·by_cases c1 : x.1 = 1
  ·exact ⟨_, Ev.bindS hx (Ev.neg c0 (Ev.pos c1 (Ev.now _))), ⟨hab, Int.le_refl _⟩, hx2⟩
  ·obtain ⟨y, hy, hy1, hy2⟩ := word_ev h hx2
   have e : IntKind.u64.wrap (wrap64 (wrap64 (b - a) + 1)) = b - a + 1 := by
    rw [wid (x := b - a) (by omega) (by omega), wid (by omega) (by omega), uid (by omega) (by omega)]
   have m0 : 0 ≤ Int.tmod (y.1 / 2) (b - a + 1) ∧ Int.tmod (y.1 / 2) (b - a + 1) < b - a + 1 := by
    rw [Int.tmod_eq_emod_of_nonneg (by omega)]
    exact ⟨Int.emod_nonneg _ (by omega), Int.emod_lt_of_pos _ (by omega)⟩
   refine ⟨(a + Int.tmod (y.1 / 2) (b - a + 1), y.2), Ev.bindS hx (Ev.neg c0 (Ev.neg c1 (Ev.neg (by omega) (Ev.bind hy ?_)))), ⟨by show a ≤ a + _; omega, by show a + _ ≤ b; omega⟩, hy2⟩
   rw [e, wid (x := Int.tmod (y.1 / 2) (b - a + 1)) (by omega) (by omega), wid (by omega) (by omega)]
   exact Ev.neg (by omega) (Ev.now _)
theorem off_ev {l : List Int} {p : Int} (h : okc l) (hp : okp l p) (a b : Int) (hab : a ≤ b) (ha : -1000000000000000 ≤ a) (hb : b ≤ 1000000000000000) : ∃ r, Ev (fun k => spec_l1Rd_off.f k l p a b) r ∧ (-9223372036854775808 ≤ r.1 ∧ r.1 ≤ 9223372036854775807) ∧ okp l r.2 := by
 unfold spec_l1Rd_off.f
 obtain ⟨x, hx, hx2⟩ := once_ev h hp 24 (by omega)
 by_cases c0 : x.1 = true
 ·obtain ⟨y, hy, hy1, hy2⟩ := below_ev h hx2 4 (by omega)
  refine ⟨_, Ev.bindS hx (Ev.pos c0 (Ev.bindS rfl (Ev.bindS hy (Ev.pos hy1.1 (Ev.pos (by simp only [List.length_cons, List.length_nil]; omega) (Ev.now _)))))), ?_, hy2⟩
  rw [wid (x := a - 1) (by omega) (by omega), wid (x := b + 1) (by omega) (by omega)]
  obtain ⟨m, hm⟩ : ∃ m : Nat, y.1 = m := ⟨y.1.toNat, by omega⟩
  have hlt : m < 4 := by omega
  simp only [hm]
  unfold rd
  rw [Int.toNat_natCast]
  match m, hlt with
  | 0, _ => show -9223372036854775808 ≤ a - 1 ∧ a - 1 ≤ 9223372036854775807; omega
  | 1, _ => show -9223372036854775808 ≤ b + 1 ∧ b + 1 ≤ 9223372036854775807; omega
  | 2, _ => show (-9223372036854775808 : Int) ≤ -9223372036854775808 ∧ (-9223372036854775808 : Int) ≤ 9223372036854775807; omega
  | 3, _ => show (-9223372036854775808 : Int) ≤ 9223372036854775807 ∧ (9223372036854775807 : Int) ≤ 9223372036854775807; omega
 ·obtain ⟨y, hy, hy1, hy2⟩ := near_ev h hx2 a b hab ha hb
  exact ⟨_, Ev.bindS hx (Ev.neg c0 (Ev.bind hy (Ev.now _))), ⟨by omega, by omega⟩, hy2⟩
end Go.Proofs.Ytcgejabkjljeeaa.P
end

section
namespace Go.Proofs.Ytcgejabkjljeeaa.P
open Go.RowKit Go.Proofs.YtcgejabkjljeeaaW.PrintWords Go.Proofs.YtcgejabkjljeeaaW.PrintLast Go.Proofs.YtcgejabkjljeeaaW.PrintMore
attribute [local go_sem] str_gtr str_leq str_geq max2_int min2_int max_two min_two qe1 qd1 max_four min_four
set_option linter.unusedVariables false
set_option linter.unusedSimpArgs false
theorem sameMetas_self (l : List S66) (h : l.length < 2097152) : Ev (fun k => laws_sameMetas.f k l l) true := by
 unfold laws_sameMetas.f
 have key : ∀ i, i ≤ l.length → Ev (fun k => laws_sameMetas.l0 k l l (i : Int)) true := by
  refine downTo l.length (Ev.step (fun k => laws_sameMetas.l0.eq_2 ..) (Ev.neg (by omega) (Ev.now _))) ?_
  intro i hi ih
  refine Ev.step (fun k => laws_sameMetas.l0.eq_2 ..) (Ev.pos (by omega) (Ev.pos (by omega) (Ev.pos (by omega) (Ev.neg (by simp) ?_))))
  rw [wsucc (by omega)]
  exact ih
 exact Ev.pos rfl (key 0 (Nat.zero_le _))
end Go.Proofs.Ytcgejabkjljeeaa.P
end

section
namespace Go.Proofs.Ytcgejabkjljeeaa.Pure
open Go.RowKit Go.Proofs.YtcgejabkjljeeaaW.PrintWords Go.Proofs.YtcgejabkjljeeaaW.PrintLast Go.Proofs.YtcgejabkjljeeaaW.PrintMore
open Go.Proofs.Ytcgejabkjljeeaa.P
set_option linter.unusedVariables false
set_option linter.unusedSimpArgs false
abbrev M_ := S66
theorem rdM (l : List M_) (i : Nat) : qa1 l (i : Int) = l.getD i z66 := by unfold qa1; rw [Int.toNat_natCast]
def sAh (p m : M_) : Bool := if p.f1 = m.f1 then (if p.f1 = 0 then decide (p.f0 > m.f0) else tless p.f3 m.f2) else decide (p.f1 < m.f1)
theorem sAhead_ev (p m : M_) : spec_l12Ahead.f p.f0 p.f1 p.f2 p.f3 p.f4 m.f0 m.f1 m.f2 m.f3 m.f4 = some (sAh p m) := by
 unfold spec_l12Ahead.f sAh tless
 split
 ·split <;> rfl
 ·rfl
def sMe (m : M_) : Prop := (1 ≤ m.f0 ∧ m.f0 ≤ 1000000) ∧ (0 ≤ m.f1 ∧ m.f1 ≤ 3) ∧ isU m.f2 ∧ isU m.f3 ∧ tless m.f3 m.f2 = false ∧ 1 ≤ m.f4 ∧ m.f4 ≤ 400
instance (m : M_) : Decidable (sMe m) := by unfold sMe; infer_instance
theorem sMeta_ev (m : M_) : spec_l12Meta.f m.f0 m.f1 m.f2 m.f3 m.f4 = some (decide (sMe m)) := by
 unfold spec_l12Meta.f
 rw [in_ev, Option.bind_some]
 by_cases c1 : 1 ≤ m.f0 ∧ m.f0 ≤ 1000000
 ·rw [decide_eq_true c1, if_pos rfl, in_ev, Option.bind_some]
  by_cases c2 : 0 ≤ m.f1 ∧ m.f1 ≤ 3
  ·rw [decide_eq_true c2, if_pos rfl, l2User_ev, Option.bind_some]
   by_cases c3 : isU m.f2
   ·rw [decide_eq_true c3, if_pos rfl, l2User_ev, Option.bind_some]
    by_cases c4 : isU m.f3
    ·rw [decide_eq_true c4, if_pos rfl]
     by_cases c5 : Op.bytesLess m.f3.toList m.f2.toList = true
     ·rw [if_pos c5, decide_eq_false]
      intro h
      have := h.2.2.2.2.1
      unfold tless at this
      rw [c5] at this
      cases this
     ·rw [if_neg c5, in_ev, Option.bind_some]
      have c5' : tless m.f3 m.f2 = false := by unfold tless; simpa using c5
      exact congrArg some (decide_eq_decide.2 ⟨fun h => ⟨c1, c2, c3, c4, c5', h⟩, fun h => h.2.2.2.2.2⟩)
    ·rw [decide_eq_false c4, if_neg (by decide), decide_eq_false (fun h => c4 h.2.2.2.1)]
   ·rw [decide_eq_false c3, if_neg (by decide), decide_eq_false (fun h => c3 h.2.2.1)]
  ·rw [decide_eq_false c2, if_neg (by decide), decide_eq_false (fun h => c2 h.2.1)]
 ·rw [decide_eq_false c1, if_neg (by decide), decide_eq_false (fun h => c1 h.1)]
theorem cI_neg (a b : Int) : cI a b < 0 ↔ a < b := by unfold cI; split <;> (try split) <;> constructor <;> intro h <;> omega
theorem cI_ne (a b : Int) (h : a ≠ b) : cI a b ≠ 0 := by unfold cI; split <;> (try split) <;> omega
theorem cI_self (a : Int) : cI a a = 0 := by unfold cI; rw [if_neg (by omega), if_neg (by omega)]
theorem cS_neg (a b : ByteArray) : cS a b < 0 ↔ tless a b = true := by
 unfold cS
 by_cases h : tless a b = true
 ·simp [h]
 ·rw [if_neg h]
  constructor
  ·intro h2
   split at h2 <;> omega
  ·intro h2
   exact absurd h2 h
theorem ahead_eq (next : Int) (p m : M_) (hp : okM next p) : sAh p m = true ↔ aheadM p m := by
 unfold sAh aheadM mcmp
 by_cases c : p.f1 = m.f1
 ·rw [if_pos c]
  by_cases c2 : p.f1 = 0
  ·rw [if_pos c2, if_pos ⟨c, c2⟩, cI_neg, decide_eq_true_eq]
   constructor
   ·exact fun h => ⟨h, fun h2 => by have := h2.1; omega⟩
   ·exact fun h => h.1
  ·rw [if_neg c2, if_neg (fun h => c2 h.2)]
   have h0 : (([cI p.f1 m.f1, cS p.f2 m.f2] : List Int).find? fun x => x != 0).getD 0 = cS p.f2 m.f2 := by
    rw [c, cI_self]
    by_cases h : cS p.f2 m.f2 = 0
    ·simp [h]
    ·simp [h]
   rw [h0, cS_neg]
   have hpos : m.f1 > 0 := by have := hp.2.1; omega
   have hle := hp.2.2.2.2.1
   constructor
   ·intro h
    refine ⟨?_, fun h2 => by rw [h] at h2; cases h2.2.2⟩
    cases hq : tless p.f2 p.f3 with
    | true => exact bl_trans hq h
    | false =>
     have := bl_eq (a := p.f2.toList) (b := p.f3.toList) hq hle
     unfold tless at h ⊢
     rw [this]
     exact h
   ·intro h
    cases hq : tless p.f3 m.f2 with
    | true => rfl
    | false => exact absurd ⟨hpos, c, hq⟩ h.2
 ·rw [if_neg c, if_neg (fun h => c h.1), decide_eq_true_eq]
  have h0 : (([cI p.f1 m.f1, cS p.f2 m.f2] : List Int).find? fun x => x != 0).getD 0 = cI p.f1 m.f1 := by
   have := cI_ne p.f1 m.f1 c
   simp [this]
  rw [h0, cI_neg]
  exact ⟨fun h => ⟨h, fun h2 => c h2.2.1⟩, fun h => h.1⟩
theorem sMe_ok (next : Int) (hn : 1 ≤ next ∧ next ≤ 1000000) (m : M_) : (sMe m ∧ ¬ m.f0 ≥ next) ↔ okM next m := by
 unfold sMe okM
 constructor
 ·rintro ⟨⟨h1, h2⟩, h3⟩
  exact ⟨by omega, h2⟩
 ·rintro ⟨h1, h2⟩
  exact ⟨⟨by omega, h2⟩, by omega⟩
def okFrom (l : List M_) (next : Int) (i : Nat) : Prop := ∀ j, i ≤ j → j < l.length → okAt l next j
noncomputable instance (l : List M_) (next : Int) (i : Nat) : Decidable (okFrom l next i) := Classical.propDecidable _
theorem okFrom_step {l : List M_} {next : Int} {i : Nat} (hi : i < l.length) : okFrom l next i ↔ okAt l next i ∧ okFrom l next (i + 1) := by
 constructor
 ·exact fun h => ⟨h i (Nat.le_refl _) hi, fun j h1 h2 => h j (by omega) h2⟩
 ·rintro ⟨h1, h2⟩ j hj hl
  by_cases e : j = i
  ·rw [e]; exact h1
  ·exact h2 j (by omega) hl
theorem mem_nums (l : List M_) (i : Nat) (hi : i ≤ l.length) (n : Int) : n ∈ (l.take i).map (fun m => m.f0) ↔ ∃ j, j < i ∧ (l.getD j z66).f0 = n := by
 rw [List.mem_map]
 constructor
 ·rintro ⟨m, hm, rfl⟩
  obtain ⟨j, hj, rfl⟩ := List.getElem_of_mem hm
  rw [List.length_take] at hj
  refine ⟨j, by omega, ?_⟩
  rw [List.getElem_take, List.getD_eq_getElem?_getD, List.getElem?_eq_getElem (by omega)]
  rfl
 ·rintro ⟨j, hj, rfl⟩
  refine ⟨l.getD j z66, ?_, rfl⟩
  rw [List.getD_eq_getElem?_getD, List.getElem?_eq_getElem (show j < l.length by omega)]
  show l[j]'(by omega) ∈ l.take i
  rw [List.mem_take_iff_getElem]
  exact ⟨j, by omega, rfl⟩
theorem sVersionOk_ev (l : List M_) (next seq log : Int) (hl : l.length < 2097152) : Ev (fun k => spec_VersionOk.f k l next seq log) (decide (vOk l next seq log)) := by
 have bad : ¬ vOk l next seq log → Ev (fun k => spec_VersionOk.j0 k true l next seq log) (decide (vOk l next seq log)) := fun h => by
  rw [decide_eq_false h]
  refine Ev.step (fun k => spec_VersionOk.j0.eq_2 ..) ?_
  exact Ev.pos rfl (Ev.now _)
 unfold spec_VersionOk.f
 by_cases c0 : (l.length : Int) > 30
 ·exact Ev.pos c0 (bad fun h => by have := h.1; omega)
 refine Ev.neg c0 (Ev.bindS (in_ev _ _ _) ?_)
 by_cases c1 : 1 ≤ next ∧ next ≤ 1000000
 case neg => exact Ev.neg (by simpa using c1) (bad fun h => c1 h.2.1)
 refine Ev.pos (decide_eq_true c1) (Ev.bindS (in_ev _ _ _) ?_)
 by_cases c2 : 0 ≤ seq ∧ seq ≤ 1000000000000
 case neg => exact Ev.neg (by simpa using c2) (bad fun h => c2 h.2.2.1)
 refine Ev.pos (decide_eq_true c2) ?_
 rw [wid (x := next - 1) (by omega) (by omega)]
 refine Ev.bindS (in_ev _ _ _) ?_
 by_cases c3 : 0 ≤ log ∧ log ≤ next - 1
 case neg =>
  rw [decide_eq_false c3]
  exact bad fun h => c3 h.2.2.2.1
 rw [decide_eq_true c3]
 refine Ev.step (fun k => spec_VersionOk.j0.eq_2 ..) ?_
 refine Ev.neg (by decide) ?_
 have key : ∀ i, i ≤ l.length → (∀ j, j < i → okAt l next j) → Ev (fun k => spec_VersionOk.l0 k (i : Int) l next seq log) (decide (okFrom l next i)) := by
  refine downTo l.length ?_ ?_
  ·intro _
   refine Ev.step (fun k => spec_VersionOk.l0.eq_2 ..) ?_
   exact Ev.neg (by omega) ((Ev.now _).eqr (decide_eq_true (show okFrom l next l.length from fun j h1 h2 => by omega)).symm)
  ·intro i hi ih hb
   have fail : ¬ okAt l next i → Ev (fun k => spec_VersionOk.j2 k (i : Int) true l next seq log) (decide (okFrom l next i)) := fun h => by
    refine Ev.step (fun k => spec_VersionOk.j2.eq_2 ..) ?_
    exact Ev.pos rfl ((Ev.now _).eqr (decide_eq_false (p := okFrom l next i) fun h2 => h ((okFrom_step hi).1 h2).1).symm)
   have dup : okM next (l.getD i z66) → (0 < i → aheadM (l.getD (i - 1) z66) (l.getD i z66)) → Ev (fun k => spec_VersionOk.j2 k (i : Int) false l next seq log) (decide (okFrom l next i)) := fun h1 h2 => by
    refine Ev.step (fun k => spec_VersionOk.j2.eq_2 ..) ?_
    refine Ev.neg (by decide) ?_
    have k2 : ∀ j, j ≤ i → (∀ q, q < j → (l.getD q z66).f0 ≠ (l.getD i z66).f0) → Ev (fun k => spec_VersionOk.l1 k (i : Int) (j : Int) l next seq log) (decide (okFrom l next i)) := by
     refine downTo i ?_ ?_
     ·intro hq
      have hok : okAt l next i := ⟨h1, fun hm => by
       obtain ⟨j, hj, he⟩ := (mem_nums l i (by omega) _).1 hm
       exact hq j hj he, h2⟩
      refine Ev.step (fun k => spec_VersionOk.l1.eq_2 ..) ?_
      rw [wsucc (show i < 4611686018427387904 by omega)]
      refine Ev.neg (by omega) ((ih (fun j hj => ?_)).eqr ?_)
      ·by_cases e : j = i
       ·rw [e]; exact hok
       ·exact hb j (by omega)
      ·exact decide_eq_decide.2 ⟨fun h => (okFrom_step hi).2 ⟨hok, h⟩, fun h => ((okFrom_step hi).1 h).2⟩
     ·intro j hj ih2 hq
      refine Ev.step (fun k => spec_VersionOk.l1.eq_2 ..) ?_
      rw [rdM, rdM, wsucc (show j < 4611686018427387904 by omega)]
      refine Ev.pos (by omega) (Ev.pos (by omega) (Ev.pos (by omega) (Ev.pos (by omega) (Ev.pos (by omega) ?_))))
      by_cases e : (l.getD j z66).f0 = (l.getD i z66).f0
      ·refine Ev.pos e ((Ev.now _).eqr (decide_eq_false (p := okFrom l next i) fun h => ?_).symm)
       exact ((okFrom_step hi).1 h).1.2.1 ((mem_nums l i (by omega) _).2 ⟨j, hj, e⟩)
      ·refine Ev.neg e (ih2 fun q hqj => ?_)
       by_cases e2 : q = j
       ·rw [e2]; exact e
       ·exact hq q (by omega)
    exact k2 0 (Nat.zero_le _) (fun q hq => absurd hq (Nat.not_lt_zero _))
   refine Ev.step (fun k => spec_VersionOk.l0.eq_2 ..) ?_
   rw [rdM]
   refine Ev.pos (by omega) (Ev.pos (by omega) (Ev.bindS (sMeta_ev _) ?_))
   by_cases d1 : sMe (l.getD i z66)
   case neg => exact Ev.neg (by simpa using d1) (fail fun h => d1 ((sMe_ok next c1 _).2 h.1).1)
   refine Ev.pos (decide_eq_true d1) ?_
   by_cases d2 : (l.getD i z66).f0 ≥ next
   ·exact Ev.pos d2 (fail fun h => ((sMe_ok next c1 _).2 h.1).2 d2)
   refine Ev.neg d2 ?_
   have hok := (sMe_ok next c1 _).1 ⟨d1, d2⟩
   by_cases d3 : i = 0
   ·refine Ev.neg (by omega) (dup hok (fun h => absurd h (by omega)))
   ·have hr : qa1 l (wrap64 ((i : Int) - 1)) = l.getD (i - 1) z66 := by
     rw [wid (by omega) (by omega), show (i : Int) - 1 = ((i - 1 : Nat) : Int) from by omega, rdM]
    rw [hr, wid (x := (i : Int) - 1) (by omega) (by omega)]
    refine Ev.pos (by omega) (Ev.pos (by omega) (Ev.pos (by omega) (Ev.bindS (sAhead_ev _ _) ?_)))
    have hp := (hb (i - 1) (by omega)).1
    cases d4 : sAh (l.getD (i - 1) z66) (l.getD i z66) with
    | true => exact dup hok (fun _ => (ahead_eq next _ _ hp).1 d4)
    | false =>
     refine fail fun h => ?_
     have := (ahead_eq next _ _ hp).2 (h.2.2 (by omega))
     rw [d4] at this
     cases this
 refine (key 0 (Nat.zero_le _) (fun j hj => absurd hj (Nat.not_lt_zero _))).eqr (decide_eq_decide.2 ⟨fun h => ⟨by omega, c1, c2, c3, fun i hi => h i (Nat.zero_le _) hi⟩, fun h j _ hj => h.2.2.2.2 j hj⟩)
end Go.Proofs.Ytcgejabkjljeeaa.Pure
end

section
namespace Go.Proofs.Ytcgejabkjljeeaa.Pure
open Go.RowKit Go.Proofs.YtcgejabkjljeeaaW.PrintWords Go.Proofs.YtcgejabkjljeeaaW.PrintLast Go.Proofs.YtcgejabkjljeeaaW.PrintMore
open Go.Proofs.Ytcgejabkjljeeaa.P
set_option linter.unusedVariables false
set_option linter.unusedSimpArgs false
def insM : List M_ → M_ → List M_
 | [], m => [m]
 | x :: xs, m => if sAh x m = true then x :: insM xs m else m :: x :: xs
theorem insM_app (m : M_) : ∀ (a b : List M_), (∀ x ∈ a, sAh x m = true) → insM (a ++ b) m = a ++ insM b m
 | [], _, _ => rfl
 | x :: xs, b, h => by
  show (if sAh x m = true then x :: insM (xs ++ b) m else _) = _
  rw [if_pos (h x (by simp)), insM_app m xs b (fun y hy => h y (by simp [hy]))]
  rfl
theorem insM_len (m : M_) : ∀ a : List M_, (insM a m).length = a.length + 1
 | [] => rfl
 | x :: xs => by
  show (if sAh x m = true then x :: insM xs m else m :: x :: xs).length = _
  split
  ·rw [List.length_cons, insM_len m xs]; rfl
  ·rfl
def isCut (cuts : List Int) (m : M_) : Bool := cuts.any fun c => c == m.f0
abbrev V_ := List M_ × Int × Int × Int × Bool
def apFin (n s g : Int) (out : List M_) : V_ := if vOk out n s g then (out, n, s, g, true) else ([], 0, 0, 0, false)
def apTail (adds : List M_) (cuts : List Int) (n s g : Int) (c : Nat) (out : List M_) : V_ := if (c : Int) = (cuts.length : Int) then apFin n s g (adds.foldl insM out) else ([], 0, 0, 0, false)
def sAp (l : List M_) (n s g : Int) (adds : List M_) (cuts : List Int) (n' s' g' : Int) : V_ :=
 if vOk l n s g ∧ n ≤ n' ∧ s ≤ s' ∧ g ≤ g' ∧ adds.length ≤ 30 then apTail adds cuts n' s' g' (l.filter (isCut cuts)).length (l.filter fun m => !isCut cuts m) else ([], 0, 0, 0, false)
theorem apFin_len (n s g : Int) (out : List M_) : (apFin n s g out).1.length ≤ 30 := by
 unfold apFin
 split
 ·rename_i h; exact h.1
 ·simp
theorem sAp_len (l : List M_) (n s g : Int) (adds : List M_) (cuts : List Int) (n' s' g' : Int) : (sAp l n s g adds cuts n' s' g').1.length ≤ 30 := by
 unfold sAp apTail
 split
 ·split
  ·exact apFin_len _ _ _ _
  ·simp
 ·simp
theorem ins_loop (adds : List M_) (cuts : List Int) (n s g : Int) (i : Nat) (hi : i < adds.length) (h30 : adds.length ≤ 30) (out : List M_) (ho : out.length ≤ 100000) (r : V_)
  (h : Ev (fun k => spec_Apply.l2 k ((i + 1 : Nat) : Int) adds cuts n s g (insM out (adds.getD i z66)) n s g) r) :
  ∀ d j, j + d = out.length → (∀ x ∈ out.take j, sAh x (adds.getD i z66) = true) → Ev (fun k => spec_Apply.l3 k (i : Int) (j : Int) adds cuts n s g out n s g) r := by
 have stop : ∀ j, j ≤ out.length → (∀ x ∈ out.take j, sAh x (adds.getD i z66) = true) → insM (out.drop j) (adds.getD i z66) = adds.getD i z66 :: out.drop j → (([] ++ out.take j) ++ [adds.getD i z66]) ++ out.drop j = insM out (adds.getD i z66) := by
  intro j hj ht hd
  conv => rhs; rw [← List.take_append_drop j out, insM_app _ _ _ ht, hd]
  simp
 intro d
 induction d with
 | zero =>
  intro j hj ht
  have e := stop j (by omega) ht (by rw [List.drop_eq_nil_of_le (by omega)]; rfl)
  refine Ev.step (fun k => spec_Apply.l3.eq_2 ..) ?_
  rw [wsucc (show i < 4611686018427387904 by omega), rdM adds]
  refine Ev.neg (by omega) (Ev.bindS rfl (Ev.pos (by omega) (Ev.pos (by omega) (Ev.bindS rfl (Ev.pos (by simp; omega) (Ev.bindS rfl (Ev.pos (by omega) (Ev.pos (by omega) (Ev.pos (by simp; omega) (Ev.bindS rfl (Ev.bindS rfl (Ev.pos (by simp; omega) ?_))))))))))))
  rw [Int.toNat_natCast]
  generalize adds.getD i z66 = m at e h
  rw [e]
  exact h
 | succ d ih =>
  intro j hj ht
  have hlt : j < out.length := by omega
  by_cases c : sAh (out.getD j z66) (adds.getD i z66) = true
  ·have hn := ih (j + 1) (by omega) (by
    rw [List.take_succ_eq_append_getElem hlt]
    intro x hx
    rcases List.mem_append.1 hx with hx | hx
    ·exact ht x hx
    ·rw [List.mem_singleton] at hx
     rw [List.getD_eq_getElem?_getD, List.getElem?_eq_getElem hlt] at c
     rw [hx]
     exact c)
   refine Ev.step (fun k => spec_Apply.l3.eq_2 ..) ?_
   rw [rdM out, rdM adds, wsucc (show j < 4611686018427387904 by omega)]
   exact Ev.pos (by omega) (Ev.pos (by omega) (Ev.pos (by omega) (Ev.pos (by omega) (Ev.bindS (sAhead_ev _ _) (Ev.pos c hn)))))
  ·have e := stop j (by omega) ht (by
    rw [List.drop_eq_getElem_cons hlt]
    rw [List.getD_eq_getElem?_getD (l := out), List.getElem?_eq_getElem hlt] at c
    show (if sAh out[j] _ = true then _ else _) = _
    exact if_neg c)
   refine Ev.step (fun k => spec_Apply.l3.eq_2 ..) ?_
   rw [rdM out, rdM adds, wsucc (show i < 4611686018427387904 by omega)]
   refine Ev.pos (by omega) (Ev.pos (by omega) (Ev.pos (by omega) (Ev.pos (by omega) (Ev.bindS (sAhead_ev _ _) (Ev.neg c (Ev.bindS rfl (Ev.pos (by omega) (Ev.bindS rfl (Ev.pos (by simp; omega) (Ev.bindS rfl (Ev.pos (by simp; omega) (Ev.bindS rfl (Ev.bindS rfl (Ev.pos (by simp; omega) ?_))))))))))))))
   rw [Int.toNat_natCast]
   generalize adds.getD i z66 = m at e h
   rw [e]
   exact h
theorem adds_loop (adds : List M_) (cuts : List Int) (n s g : Int) (h30 : adds.length ≤ 30) : ∀ i, i ≤ adds.length → ∀ out : List M_, out.length ≤ 5000 + i → Ev (fun k => spec_Apply.l2 k (i : Int) adds cuts n s g out n s g) (apFin n s g ((adds.drop i).foldl insM out)) := by
 refine downTo adds.length ?_ ?_
 ·intro out ho
  rw [List.drop_length, List.foldl_nil]
  refine Ev.step (fun k => spec_Apply.l2.eq_2 ..) ?_
  refine Ev.neg (by omega) (Ev.bind (sVersionOk_ev out n s g (by omega)) ?_)
  unfold apFin
  by_cases c : vOk out n s g
  ·exact Ev.pos (decide_eq_true c) ((Ev.now _).eqr (if_pos c).symm)
  ·exact Ev.neg (by simp [c]) ((Ev.now _).eqr (if_neg c).symm)
 ·intro i hi ih out ho
  have h := ih (insM out (adds.getD i z66)) (by rw [insM_len]; omega)
  rw [List.drop_eq_getElem_cons hi, List.foldl_cons]
  rw [List.getD_eq_getElem?_getD, List.getElem?_eq_getElem hi] at h
  have h2 := ins_loop adds cuts n s g i hi h30 out (by omega) (apFin n s g ((adds.drop (i + 1)).foldl insM (insM out adds[i]))) (by rw [List.getD_eq_getElem?_getD, List.getElem?_eq_getElem hi]; exact h) out.length 0 (by omega) (by simp)
  refine Ev.step (fun k => spec_Apply.l2.eq_2 ..) ?_
  exact Ev.pos (by omega) h2
theorem cut_loop (l : List M_) (n s g : Int) (adds : List M_) (cuts : List Int) (n' s' g' : Int) (i : Nat) (hi : i < l.length) (hl : l.length ≤ 2000) (hc : cuts.length ≤ 2000000) (c : Nat) (hcc : c ≤ i) (out : List M_) (ho : out.length ≤ 2000) (r : V_)
  (h1 : isCut cuts (l.getD i z66) = true → Ev (fun k => spec_Apply.l0 k ((c + 1 : Nat) : Int) ((i + 1 : Nat) : Int) l n s g adds cuts n' s' g' out n' s' g') r)
  (h2 : isCut cuts (l.getD i z66) = false → Ev (fun k => spec_Apply.l0 k (c : Int) ((i + 1 : Nat) : Int) l n s g adds cuts n' s' g' (out ++ [l.getD i z66]) n' s' g') r) :
  Ev (fun k => spec_Apply.l1 k (c : Int) (i : Int) false 0 l n s g adds cuts n' s' g' out n' s' g') r := by
 have key : ∀ j, j ≤ cuts.length → ∀ b : Bool, (b || (cuts.drop j).any fun c => c == (l.getD i z66).f0) = isCut cuts (l.getD i z66) → Ev (fun k => spec_Apply.l1 k (c : Int) (i : Int) b (j : Int) l n s g adds cuts n' s' g' out n' s' g') r := by
  refine downTo cuts.length ?_ ?_
  ·intro b hb
   rw [List.drop_length, List.any_nil, Bool.or_false] at hb
   refine Ev.step (fun k => spec_Apply.l1.eq_2 ..) ?_
   rw [rdM l, wsucc (show i < 4611686018427387904 by omega), wsucc (show c < 4611686018427387904 by omega)]
   refine Ev.neg (by omega) ?_
   cases b with
   | true => exact Ev.pos rfl (h1 hb.symm)
   | false => exact Ev.neg (by simp) (Ev.pos (by omega) (Ev.pos (by omega) (Ev.pos (by omega) (h2 hb.symm))))
  ·intro j hj ih b hb
   rw [List.drop_eq_getElem_cons hj, List.any_cons] at hb
   refine Ev.step (fun k => spec_Apply.l1.eq_2 ..) ?_
   rw [rdM l, wsucc (show j < 4611686018427387904 by omega), getD_rd, List.getD_eq_getElem?_getD (l := cuts), List.getElem?_eq_getElem hj]
   refine Ev.pos (by omega) ?_
   cases b with
   | true => exact Ev.pos rfl (ih true (by rw [← hb]; simp))
   | false => exact Ev.neg (by simp) (Ev.pos (by omega) (Ev.pos (by omega) (Ev.pos (by omega) (ih _ (by rw [← hb, Bool.false_or]; rfl)))))
 exact key 0 (Nat.zero_le _) false (by rw [List.drop_zero, Bool.false_or]; rfl)
theorem files_loop (l : List M_) (n s g : Int) (adds : List M_) (cuts : List Int) (n' s' g' : Int) (hl : l.length ≤ 2000) (hc : cuts.length ≤ 2000000) (h30 : adds.length ≤ 30) : ∀ i, i ≤ l.length → ∀ (c : Nat) (out : List M_), c ≤ i → out.length ≤ i →
  Ev (fun k => spec_Apply.l0 k (c : Int) (i : Int) l n s g adds cuts n' s' g' out n' s' g') (apTail adds cuts n' s' g' (c + ((l.drop i).filter (isCut cuts)).length) (out ++ (l.drop i).filter fun m => !isCut cuts m)) := by
 refine downTo l.length ?_ ?_
 ·intro c out hcc ho
  rw [List.drop_length, List.filter_nil, List.filter_nil, List.length_nil, Nat.add_zero, List.append_nil]
  unfold apTail
  refine Ev.step (fun k => spec_Apply.l0.eq_2 ..) ?_
  refine Ev.neg (by omega) ?_
  by_cases e : (c : Int) = (cuts.length : Int)
  ·refine Ev.pos e ((adds_loop adds cuts n' s' g' h30 0 (Nat.zero_le _) out (by omega)).eqr ?_)
   rw [if_pos e, List.drop_zero]
  ·exact Ev.neg e ((Ev.now _).eqr (if_neg e).symm)
 ·intro i hi ih c out hcc ho
  have hd : l.getD i z66 = l[i] := by rw [List.getD_eq_getElem?_getD, List.getElem?_eq_getElem hi]; rfl
  refine Ev.step (fun k => spec_Apply.l0.eq_2 ..) ?_
  refine Ev.pos (by omega) (cut_loop l n s g adds cuts n' s' g' i hi hl hc c hcc out (by omega) _ ?_ ?_)
  ·intro hb
   rw [hd] at hb
   refine (ih (c + 1) out (by omega) (by omega)).eqr ?_
   rw [List.drop_eq_getElem_cons hi, List.filter_cons, List.filter_cons, if_pos hb, if_neg (by rw [hb]; simp), List.length_cons]
   congr 1
   omega
  ·intro hb
   rw [hd] at hb ⊢
   refine (ih c (out ++ [l[i]]) (by omega) (by simp; omega)).eqr ?_
   rw [List.drop_eq_getElem_cons hi, List.filter_cons, List.filter_cons, if_neg (by rw [hb]; simp), if_pos (by rw [hb]; rfl), List.append_assoc]
   rfl
theorem sApply_ev (l : List M_) (n s g : Int) (adds : List M_) (cuts : List Int) (n' s' g' : Int) (hl : l.length < 2097152) (hc : cuts.length ≤ 2000000) : Ev (fun k => spec_Apply.f k l n s g adds cuts n' s' g') (sAp l n s g adds cuts n' s' g') := by
 unfold spec_Apply.f
 have bad : ¬ (vOk l n s g ∧ n ≤ n' ∧ s ≤ s' ∧ g ≤ g' ∧ adds.length ≤ 30) → Ev (fun k => spec_Apply.j0 k true l n s g adds cuts n' s' g') (sAp l n s g adds cuts n' s' g') := by
  intro h
  refine Ev.step (fun k => spec_Apply.j0.eq_2 ..) ?_
  exact Ev.pos rfl ((Ev.now _).eqr (by unfold sAp; rw [if_neg h]))
 refine Ev.bind (sVersionOk_ev l n s g (by omega)) ?_
 by_cases c : vOk l n s g
 case neg => exact Ev.neg (by simp [c]) (bad (fun h => c h.1))
 refine Ev.pos (decide_eq_true c) ?_
 by_cases c1 : n' < n
 ·exact Ev.pos c1 (bad (fun h => by omega))
 refine Ev.neg c1 ?_
 by_cases c2 : s' < s
 ·exact Ev.pos c2 (bad (fun h => by omega))
 refine Ev.neg c2 ?_
 by_cases c3 : g' < g
 ·exact Ev.pos c3 (bad (fun h => by omega))
 refine Ev.neg c3 ?_
 by_cases c4 : (adds.length : Int) > 30
 ·rw [decide_eq_true c4]
  exact bad (fun h => by omega)
 rw [decide_eq_false c4]
 refine Ev.step (fun k => spec_Apply.j0.eq_2 ..) ?_
 refine Ev.neg (by simp) ((files_loop l n s g adds cuts n' s' g' (by have := c.1; omega) hc (by omega) 0 (Nat.zero_le _) 0 [] (Nat.le_refl _) (by simp)).eqr ?_)
 unfold sAp
 rw [if_pos ⟨c, by omega, by omega, by omega, by omega⟩, List.drop_zero, Nat.zero_add, List.nil_append]
theorem dmeta_ev {l : List Int} {p : Int} (h : okc l) (hp : okp l p) : ∃ r, Ev (fun k => spec_l1Rd_meta.f k l p) r ∧ okp l r.2.2.2.2.2 := by
 unfold spec_l1Rd_meta.f
 obtain ⟨a, ha, _, ha2⟩ := duser_ev h hp
 obtain ⟨b, hb, _, hb2⟩ := duser_ev h ha2
 obtain ⟨n, hn, _, hn2⟩ := near_ev h hb2 0 12 (by omega) (by omega) (by omega)
 obtain ⟨e, he, _, he2⟩ := below_ev h hn2 4 (by omega)
 obtain ⟨c, hc, _, hc2⟩ := near_ev h he2 0 40 (by omega) (by omega) (by omega)
 obtain ⟨o, ho, ho2⟩ := once_ev h hc2 24 (by omega)
 by_cases c0 : o.1 = true
 ·obtain ⟨v, hv, _, hv2⟩ := off_ev h ho2 0 3 (by omega) (by omega) (by omega)
  exact ⟨_, Ev.bindS ha (Ev.bindS hb (Ev.bind hn (Ev.bindS he (Ev.bind hc (Ev.bindS ho (Ev.pos c0 (Ev.bind hv (Ev.now _)))))))), hv2⟩
 ·exact ⟨_, Ev.bindS ha (Ev.bindS hb (Ev.bind hn (Ev.bindS he (Ev.bind hc (Ev.bindS ho (Ev.neg c0 (Ev.now _))))))), ho2⟩
theorem dedit_ev {l : List Int} {p : Int} (h : okc l) (hp : okp l p) (fs : List M_) (hf : fs.length ≤ 2000) (n s g : Int) : ∃ r, Ev (fun k => spec_l1Rd_edit.f k l p fs n s g) r ∧ r.1.length ≤ 3 ∧ r.2.1.length ≤ 2 ∧ okp l r.2.2.2.2.2 := by
 have l0 : ∀ (j : Nat) (acc : List M_) (cuts : List Int) (p n s g : Int), j ≤ 3 → acc.length + j ≤ 3 → cuts.length ≤ 1 → okp l p → ∃ r, Ev (fun k => spec_l1Rd_edit.l0 k (j : Int) l p acc cuts n s g) r ∧ r.1.length ≤ 3 ∧ r.2.1.length ≤ 2 ∧ okp l r.2.2.2.2.2 := by
  intro j
  induction j with
  | zero =>
   intro acc cuts p n s g _ ha hc hp
   obtain ⟨a, ha', ha2⟩ := once_ev h hp 20 (by omega)
   by_cases c : a.1 = true
   ·obtain ⟨b, hb, _, hb2⟩ := off_ev h ha2 1 9 (by omega) (by omega) (by omega)
    exact ⟨_, Ev.step (fun k => spec_l1Rd_edit.l0.eq_2 ..) (Ev.neg (by omega) (Ev.bindS ha' (Ev.pos c (Ev.bind hb (Ev.pos (by omega) (Ev.now _)))))), by show acc.length ≤ 3; omega, by show (cuts ++ [_]).length ≤ 2; simp; omega, hb2⟩
   ·exact ⟨_, Ev.step (fun k => spec_l1Rd_edit.l0.eq_2 ..) (Ev.neg (by omega) (Ev.bindS ha' (Ev.neg c (Ev.now _)))), by show acc.length ≤ 3; omega, by show cuts.length ≤ 2; omega, ha2⟩
  | succ j ih =>
   intro acc cuts p n s g hj ha hc hp
   obtain ⟨m, hm, hm2⟩ := dmeta_ev h hp
   have hw : wrap64 (((j + 1 : Nat) : Int) - 1) = (j : Int) := by rw [wid (by omega) (by omega)]; omega
   by_cases c : n > 1
   ·obtain ⟨o, ho, ho2⟩ := once_ev h hm2 4 (by omega)
    by_cases c2 : o.1 = true
    ·obtain ⟨r, hr, hr2⟩ := ih (acc ++ [(⟨m.1, m.2.1, m.2.2.1, m.2.2.2.1, m.2.2.2.2.1⟩ : M_)]) cuts o.2 n s g (by omega) (by simp; omega) hc ho2
     refine ⟨r, Ev.step (fun k => spec_l1Rd_edit.l0.eq_2 ..) (Ev.pos (by omega) (Ev.bind hm (Ev.pos c (Ev.bindS ho (Ev.pos c2 (Ev.pos (by omega) ?_)))))), hr2⟩
     rw [hw]
     exact hr
    ·obtain ⟨r, hr, hr2⟩ := ih (acc ++ [(⟨wrap64 (n - ((j + 1 : Nat) : Int)), m.2.1, m.2.2.1, m.2.2.2.1, m.2.2.2.2.1⟩ : M_)]) cuts o.2 n s g (by omega) (by simp; omega) hc ho2
     refine ⟨r, Ev.step (fun k => spec_l1Rd_edit.l0.eq_2 ..) (Ev.pos (by omega) (Ev.bind hm (Ev.pos c (Ev.bindS ho (Ev.neg c2 (Ev.pos (by omega) ?_)))))), hr2⟩
     rw [hw]
     exact hr
   ·obtain ⟨r, hr, hr2⟩ := ih (acc ++ [(⟨m.1, m.2.1, m.2.2.1, m.2.2.2.1, m.2.2.2.2.1⟩ : M_)]) cuts m.2.2.2.2.2 n s g (by omega) (by simp; omega) hc hm2
    refine ⟨r, Ev.step (fun k => spec_l1Rd_edit.l0.eq_2 ..) (Ev.pos (by omega) (Ev.bind hm (Ev.neg c (Ev.pos (by omega) ?_)))), hr2⟩
    rw [hw]
    exact hr
 have j2 : ∀ (cuts : List Int) (p n s g : Int), cuts.length ≤ 1 → okp l p → ∃ r, Ev (fun k => spec_l1Rd_edit.j2 k l p cuts n s g) r ∧ r.1.length ≤ 3 ∧ r.2.1.length ≤ 2 ∧ okp l r.2.2.2.2.2 := by
  intro cuts p n s g hc hp
  obtain ⟨a, ha, ha1, ha2⟩ := below_ev h hp 3 (by omega)
  obtain ⟨m, hm⟩ : ∃ m : Nat, a.1 = m := ⟨a.1.toNat, by omega⟩
  obtain ⟨r, hr, hr2⟩ := l0 m [] cuts a.2 n s g (by omega) (by simp; omega) hc ha2
  refine ⟨r, Ev.step (fun k => spec_l1Rd_edit.j2.eq_2 ..) (Ev.bindS ha ?_), hr2⟩
  rw [hm]
  exact hr
 have j1 : ∀ (b : Bool) (p n s g n' s' g' : Int), (b = true → 0 < fs.length) → okp l p → ∃ r, Ev (fun k => spec_l1Rd_edit.j1 k b l p fs n s g n' s' g') r ∧ r.1.length ≤ 3 ∧ r.2.1.length ≤ 2 ∧ okp l r.2.2.2.2.2 := by
  intro b p n s g n' s' g' hb hp
  cases b with
  | true =>
   have hb := hb rfl
   obtain ⟨a, ha, ha1, ha2⟩ := below_ev h hp (fs.length : Int) (by omega)
   obtain ⟨r, hr, hr2⟩ := j2 ([] ++ [(qa1 fs a.1).f0]) a.2 n' s' g' (by simp) ha2
   exact ⟨r, Ev.step (fun k => spec_l1Rd_edit.j1.eq_2 ..) (Ev.pos rfl (Ev.bindS ha (Ev.pos ha1.1 (Ev.pos ha1.2 (Ev.pos (by simp) hr))))), hr2⟩
  | false =>
   obtain ⟨r, hr, hr2⟩ := j2 [] p n' s' g' (by simp) hp
   exact ⟨r, Ev.step (fun k => spec_l1Rd_edit.j1.eq_2 ..) (Ev.neg (by simp) hr), hr2⟩
 have j0 : ∀ (p n s g n' s' g' : Int), okp l p → ∃ r, Ev (fun k => spec_l1Rd_edit.j0 k l p fs n s g n' s' g') r ∧ r.1.length ≤ 3 ∧ r.2.1.length ≤ 2 ∧ okp l r.2.2.2.2.2 := by
  intro p n s g n' s' g' hp
  by_cases c : (fs.length : Int) > 0
  ·obtain ⟨a, ha, ha2⟩ := once_ev h hp 2 (by omega)
   obtain ⟨r, hr, hr2⟩ := j1 a.1 a.2 n s g n' s' g' (fun _ => by omega) ha2
   exact ⟨r, Ev.step (fun k => spec_l1Rd_edit.j0.eq_2 ..) (Ev.pos c (Ev.bindS ha hr)), hr2⟩
  ·obtain ⟨r, hr, hr2⟩ := j1 false p n s g n' s' g' (fun e => by cases e) hp
   exact ⟨r, Ev.step (fun k => spec_l1Rd_edit.j0.eq_2 ..) (Ev.neg c hr), hr2⟩
 unfold spec_l1Rd_edit.f
 obtain ⟨a, ha, _, ha2⟩ := below_ev h hp 4 (by omega)
 obtain ⟨b, hb, _, hb2⟩ := below_ev h ha2 9 (by omega)
 obtain ⟨c, hc, hc2⟩ := once_ev h hb2 3 (by omega)
 by_cases c0 : c.1 = true
 ·obtain ⟨r, hr, hr2⟩ := j0 c.2 n s g (wrap64 (n + a.1)) (wrap64 (s + b.1)) (wrap64 (wrap64 (n + a.1) - 1)) hc2
  exact ⟨r, Ev.bindS ha (Ev.bindS hb (Ev.bindS hc (Ev.pos c0 hr))), hr2⟩
 ·obtain ⟨r, hr, hr2⟩ := j0 c.2 n s g (wrap64 (n + a.1)) (wrap64 (s + b.1)) g hc2
  exact ⟨r, Ev.bindS ha (Ev.bindS hb (Ev.bindS hc (Ev.neg c0 hr))), hr2⟩
theorem dversion_ev {l : List Int} {p : Int} (h : okc l) (hp : okp l p) : ∃ r, Ev (fun k => spec_l1Rd_version.f k l p) r ∧ r.1.length ≤ 31 ∧ okp l r.2.2.2.2 := by
 have l0 : ∀ (j : Nat) (fs : List M_) (p n s g : Int), j ≤ 6 → fs.length ≤ 30 → okp l p → ∃ r, Ev (fun k => spec_l1Rd_version.l0 k (j : Int) l p fs n s g) r ∧ r.1.length ≤ 31 ∧ okp l r.2.2.2.2 := by
  intro j
  induction j with
  | zero =>
   intro fs p n s g _ hf hp
   obtain ⟨a, ha', ha2⟩ := once_ev h hp 16 (by omega)
   by_cases c : a.1 = true
   ·obtain ⟨b, hb, hb2⟩ := dmeta_ev h ha2
    exact ⟨_, Ev.step (fun k => spec_l1Rd_version.l0.eq_2 ..) (Ev.neg (by omega) (Ev.bindS ha' (Ev.pos c (Ev.bind hb (Ev.pos (by omega) (Ev.now _)))))), by show (fs ++ [_]).length ≤ 31; simp; omega, hb2⟩
   ·exact ⟨_, Ev.step (fun k => spec_l1Rd_version.l0.eq_2 ..) (Ev.neg (by omega) (Ev.bindS ha' (Ev.neg c (Ev.now _)))), by show fs.length ≤ 31; omega, ha2⟩
  | succ j ih =>
   intro fs p n s g hj hf hp
   obtain ⟨e, he, he1, he2, he3⟩ := dedit_ev h hp fs (by omega) n s g
   have hw : wrap64 (((j + 1 : Nat) : Int) - 1) = (j : Int) := by rw [wid (by omega) (by omega)]; omega
   have ha := sApply_ev fs n s g e.1 e.2.1 e.2.2.1 e.2.2.2.1 e.2.2.2.2.1 (by omega) (by omega)
   have hlen := sAp_len fs n s g e.1 e.2.1 e.2.2.1 e.2.2.2.1 e.2.2.2.2.1
   generalize sAp fs n s g e.1 e.2.1 e.2.2.1 e.2.2.2.1 e.2.2.2.2.1 = v at ha hlen
   by_cases c : v.2.2.2.2 = true
   ·obtain ⟨r, hr, hr2⟩ := ih v.1 e.2.2.2.2.2 v.2.1 v.2.2.1 v.2.2.2.1 (by omega) hlen he3
    refine ⟨r, Ev.step (fun k => spec_l1Rd_version.l0.eq_2 ..) (Ev.pos (by omega) (Ev.bind he (Ev.bind ha (Ev.pos c ?_)))), hr2⟩
    rw [hw]
    exact hr
   ·obtain ⟨r, hr, hr2⟩ := ih fs e.2.2.2.2.2 n s g (by omega) hf he3
    refine ⟨r, Ev.step (fun k => spec_l1Rd_version.l0.eq_2 ..) (Ev.pos (by omega) (Ev.bind he (Ev.bind ha (Ev.neg c ?_)))), hr2⟩
    rw [hw]
    exact hr
 unfold spec_l1Rd_version.f
 obtain ⟨a, ha, _, ha2⟩ := near_ev h hp 0 5 (by omega) (by omega) (by omega)
 obtain ⟨b, hb, hb1, hb2⟩ := below_ev h ha2 7 (by omega)
 obtain ⟨m, hm⟩ : ∃ m : Nat, b.1 = m := ⟨b.1.toNat, by omega⟩
 obtain ⟨r, hr, hr2⟩ := l0 m [] b.2 (wrap64 (1 + a.1)) 0 0 (by omega) (by simp) hb2
 refine ⟨r, Ev.bind ha (Ev.bindS hb ?_), hr2⟩
 rw [hm]
 exact hr
end Go.Proofs.Ytcgejabkjljeeaa.Pure
end

section
namespace Go.Proofs.Ytcgejabkjljeeaa.P
open Go.RowKit Go.Proofs.YtcgejabkjljeeaaW.PrintWords Go.Proofs.YtcgejabkjljeeaaW.PrintLast Go.Proofs.YtcgejabkjljeeaaW.PrintMore
attribute [local go_sem] str_gtr str_leq str_geq max2_int min2_int max_two min_two qe1 qd1 max_four min_four
set_option linter.unusedVariables false
set_option linter.unusedSimpArgs false
open Go.Sort
def stLt (c : S66 → S66 → Int) (p q : S66 × Nat) : Bool := decide (c p.1 q.1 < 0) || (!decide (c q.1 p.1 < 0) && decide (p.2 < q.2))
structure Ord (c : S66 → S66 → Int) : Prop where
 irrefl : ∀ x, ¬ c x x < 0
 trans : ∀ x y z, c x y < 0 → c y z < 0 → c x z < 0
 ntrans : ∀ x y z, ¬ c x y < 0 → ¬ c y z < 0 → ¬ c x z < 0
theorem stLt_swo {c : S66 → S66 → Int} (h : Ord c) : SWO (stLt c) := by
 refine ⟨fun x => ?_, fun x y z h1 h2 => ?_, fun x y z h1 h2 => ?_⟩
 ·simp [stLt, h.irrefl]
 ·simp only [stLt, Bool.or_eq_true, Bool.and_eq_true, Bool.not_eq_true', decide_eq_true_eq, decide_eq_false_iff_not] at *
  rcases h1 with h1 | ⟨h1, h1'⟩
  ·rcases h2 with h2 | ⟨h2, _⟩
   ·exact .inl (h.trans _ _ _ h1 h2)
   ·exact .inl (Classical.byContradiction fun k => h.ntrans _ _ _ k h2 h1)
  ·rcases h2 with h2 | ⟨h2, h2'⟩
   ·exact .inl (Classical.byContradiction fun k => h.ntrans _ _ _ h1 k h2)
   ·exact .inr ⟨h.ntrans _ _ _ h2 h1, by omega⟩
 ·simp only [stLt, Bool.or_eq_false_iff, Bool.and_eq_false_iff, Bool.not_eq_false', decide_eq_true_eq, decide_eq_false_iff_not] at *
  refine ⟨h.ntrans _ _ _ h1.1 h2.1, ?_⟩
  rcases h1.2 with k1 | k1
  ·exact .inl (Classical.byContradiction fun k => h.ntrans _ _ _ h2.1 k k1)
  ·rcases h2.2 with k2 | k2
   ·exact .inl (Classical.byContradiction fun k => h.ntrans _ _ _ k h1.1 k2)
   ·exact .inr (by omega)
theorem srt_spec {c : S66 → S66 → Int} (h : Ord c) (l : List S66) : ∃ L : List (S66 × Nat), L.Perm l.zipIdx ∧ srt c l = L.map (fun p => p.1) ∧ L.Pairwise (fun p q => stLt c q p = false) := by
 have hA : ∀ p q, p < q → q < (zipA l).size → ltOf (cfL c) (zipA l)[q]! (zipA l)[p]! = stLt c (zipA l)[q]! (zipA l)[p]! := by
  intro p q hpq hq
  rw [zipA_size] at hq
  rw [zipA_at l q hq, zipA_at l p (by omega)]
  show decide (c _ _ < 0) = (decide (c _ _ < 0) || (!decide (c _ _ < 0) && decide (q < p)))
  rw [decide_eq_false (show ¬ q < p by omega), Bool.and_false, Bool.or_false]
 obtain ⟨⟨z1, _, z3⟩, z4⟩ := stab_spec (lt := ltOf (cfL c)) (stLt_swo h) hA
 refine ⟨(stab (ltOf (cfL c)) (zipA l)).toList, ?_, rfl, ?_⟩
 ·rw [Array.extract_eq_self_of_le (by omega), Array.extract_eq_self_of_le (by omega)] at z3
  exact z3
 ·rw [List.pairwise_iff_getElem]
  intro i j hi hj hij
  have := z4 i j (Nat.zero_le _) hij (by rw [← z1]; simpa using hj)
  rw [getElem!_pos _ i (by simpa using hi), getElem!_pos _ j (by simpa using hj)] at this
  simpa using this
theorem srt_perm {c : S66 → S66 → Int} (h : Ord c) (l : List S66) : (srt c l).Perm l := by
 obtain ⟨L, h1, h2, _⟩ := srt_spec h l
 rw [h2]
 have := h1.map (fun p => p.1)
 rwa [List.zipIdx_map_fst] at this
theorem srt_sorted {c : S66 → S66 → Int} (h : Ord c) (l : List S66) : (srt c l).Pairwise (fun x y => ¬ c y x < 0) := by
 obtain ⟨L, _, h2, h3⟩ := srt_spec h l
 rw [h2, List.pairwise_map]
 refine h3.imp fun {p q} hpq => ?_
 simp only [stLt, Bool.or_eq_false_iff, decide_eq_false_iff_not] at hpq
 exact hpq.1
end Go.Proofs.Ytcgejabkjljeeaa.P
end

section
namespace Go.Proofs.Ytcgejabkjljeeaa.Pure
open Go.RowKit Go.Proofs.YtcgejabkjljeeaaW.PrintWords Go.Proofs.YtcgejabkjljeeaaW.PrintLast Go.Proofs.YtcgejabkjljeeaaW.PrintMore
open Go.Proofs.Ytcgejabkjljeeaa.P
set_option linter.unusedVariables false
set_option linter.unusedSimpArgs false
theorem tless_ntrans {a b c : ByteArray} (h1 : ¬ tless a b = true) (h2 : ¬ tless b c = true) : ¬ tless a c = true := by
 intro h
 unfold tless at *
 by_cases k : Op.bytesLess b.toList a.toList = true
 ·exact h2 (bl_trans k h)
 ·have e : a.toList = b.toList := bl_eq (by simpa using h1) (by simpa using k)
  rw [e] at h
  exact h2 h
theorem mcmp_lt (p m : M_) : mcmp p m < 0 ↔ p.f1 < m.f1 ∨ p.f1 = m.f1 ∧ (p.f1 = 0 ∧ m.f0 < p.f0 ∨ p.f1 ≠ 0 ∧ tless p.f2 m.f2 = true) := by
 unfold mcmp
 by_cases c : p.f1 = m.f1
 ·by_cases c2 : p.f1 = 0
  ·rw [if_pos ⟨c, c2⟩, cI_neg]
   constructor
   ·exact fun h => .inr ⟨c, .inl ⟨c2, h⟩⟩
   ·rintro (h | ⟨_, ⟨_, h⟩ | ⟨h, _⟩⟩)
    ·omega
    ·exact h
    ·exact absurd c2 h
  ·rw [if_neg (fun h => c2 h.2)]
   have h0 : (([cI p.f1 m.f1, cS p.f2 m.f2] : List Int).find? fun x => x != 0).getD 0 = cS p.f2 m.f2 := by
    rw [c, cI_self]
    by_cases h : cS p.f2 m.f2 = 0
    ·simp [h]
    ·simp [h]
   rw [h0, cS_neg]
   constructor
   ·exact fun h => .inr ⟨c, .inr ⟨c2, h⟩⟩
   ·rintro (h | ⟨_, ⟨h, _⟩ | ⟨_, h⟩⟩)
    ·omega
    ·exact absurd h c2
    ·exact h
 ·rw [if_neg (fun h => c h.1)]
  have h1 : cI p.f1 m.f1 ≠ 0 := cI_ne _ _ c
  have h0 : (([cI p.f1 m.f1, cS p.f2 m.f2] : List Int).find? fun x => x != 0).getD 0 = cI p.f1 m.f1 := by simp [h1]
  rw [h0, cI_neg]
  constructor
  ·exact fun h => .inl h
  ·rintro (h | ⟨h, _⟩)
   ·exact h
   ·exact absurd h c
theorem mcmp_ord : Ord mcmp := by
 refine ⟨fun x h => ?_, fun x y z h1 h2 => ?_, fun x y z h1 h2 h => ?_⟩
 ·rcases (mcmp_lt x x).1 h with h | ⟨_, ⟨_, h⟩ | ⟨_, h⟩⟩
  ·omega
  ·omega
  ·rw [show tless x.f2 x.f2 = false from bl_irrefl _] at h; cases h
 ·rw [mcmp_lt] at *
  rcases h1 with h1 | ⟨e1, h1⟩
  ·rcases h2 with h2 | ⟨e2, _⟩ <;> exact .inl (by omega)
  ·rcases h2 with h2 | ⟨e2, h2⟩
   ·exact .inl (by omega)
   ·refine .inr ⟨e1.trans e2, ?_⟩
    rcases h1 with ⟨a1, b1⟩ | ⟨a1, b1⟩
    ·rcases h2 with ⟨_, b2⟩ | ⟨a2, _⟩
     ·exact .inl ⟨a1, by omega⟩
     ·omega
    ·rcases h2 with ⟨a2, _⟩ | ⟨_, b2⟩
     ·omega
     ·exact .inr ⟨a1, bl_trans b1 b2⟩
 ·rw [mcmp_lt] at *
  rcases h with h | ⟨e, h⟩
  ·by_cases k : x.f1 < y.f1
   ·exact h1 (.inl k)
   ·exact h2 (.inl (by omega))
  ·by_cases k : x.f1 < y.f1
   ·exact h1 (.inl k)
   ·by_cases k2 : y.f1 < z.f1
    ·exact h2 (.inl k2)
    ·have e1 : x.f1 = y.f1 := by omega
     have e2 : y.f1 = z.f1 := by omega
     rcases h with ⟨a, b⟩ | ⟨a, b⟩
     ·by_cases q : y.f0 < x.f0
      ·exact h1 (.inr ⟨e1, .inl ⟨a, q⟩⟩)
      ·exact h2 (.inr ⟨e2, .inl ⟨by omega, by omega⟩⟩)
     ·exact tless_ntrans (fun q => h1 (.inr ⟨e1, .inr ⟨a, q⟩⟩)) (fun q => h2 (.inr ⟨e2, .inr ⟨by omega, q⟩⟩)) b
theorem isCut_cons (n : Int) (ns : List Int) (m : M_) : isCut (n :: ns) m = (n == m.f0 || isCut ns m) := by unfold isCut; rw [List.any_cons]
theorem filter_congr' {α : Type} {p q : α → Bool} : ∀ {l : List α}, (∀ x ∈ l, p x = q x) → l.filter p = l.filter q
 | [], _ => rfl
 | x :: xs, h => by rw [List.filter_cons, List.filter_cons, h x (List.mem_cons_self ..), filter_congr' fun y hy => h y (List.mem_cons_of_mem _ hy)]
theorem cutAll_spec : ∀ (cuts : List Int) (l : List M_), l.Pairwise (fun x y => x.f0 ≠ y.f0) → (l.filter (isCut cuts)).length ≤ cuts.length ∧ cutAll l cuts = if (l.filter (isCut cuts)).length = cuts.length then some (l.filter fun m => !isCut cuts m) else none
 | [], l, _ => by
  have h1 : l.filter (isCut []) = [] := List.filter_eq_nil_iff.2 fun x _ => by simp [isCut]
  have h2 : l.filter (fun m => !isCut [] m) = l := List.filter_eq_self.2 fun x _ => by simp [isCut]
  rw [h1, h2]
  exact ⟨Nat.le_refl _, by simp [cutAll]⟩
 | n :: ns, l, h => by
  rw [cutAll]
  rcases idxf_neg (numP n) l 0 with hq | ⟨k, hk, hq, hp, _⟩
  ·have hno : ∀ x ∈ l, (n == x.f0) = false := by
    intro x hx
    have ha := idxf_any (numP n) l 0
    rw [hq] at ha
    have := List.any_eq_false.1 ha.symm x hx
    unfold numP at this
    simp only [beq_iff_eq] at this
    exact beq_eq_false_iff_ne.2 (fun e => this e.symm)
   have e1 : l.filter (isCut (n :: ns)) = l.filter (isCut ns) := filter_congr' fun x hx => by rw [isCut_cons, hno x hx, Bool.false_or]
   have hle := (cutAll_spec ns l h).1
   rw [e1, hq, if_pos (by decide), List.length_cons]
   exact ⟨by omega, by rw [if_neg (by omega)]⟩
  ·rw [hq, Nat.zero_add, if_neg (by omega), Int.toNat_natCast]
   have hkn : l[k].f0 = n := by
    have := hp z66
    rw [List.getD_eq_getElem?_getD, List.getElem?_eq_getElem hk] at this
    simpa [numP] using this
   have hsplit : l = l.take k ++ l[k] :: l.drop (k + 1) := by rw [← List.drop_eq_getElem_cons hk, List.take_append_drop]
   have her : l.eraseIdx k = l.take k ++ l.drop (k + 1) := List.eraseIdx_eq_take_drop_succ ..
   have hpw := h
   rw [hsplit, List.pairwise_append] at hpw
   obtain ⟨p1, p2, p3⟩ := hpw
   have p4 := List.pairwise_cons.1 p2
   have hpe : (l.eraseIdx k).Pairwise (fun x y => x.f0 ≠ y.f0) := by
    rw [her, List.pairwise_append]
    exact ⟨p1, p4.2, fun x hx y hy => p3 x hx y (List.mem_cons_of_mem _ hy)⟩
   have hno : ∀ x ∈ l.eraseIdx k, (n == x.f0) = false := by
    intro x hx
    rw [her, List.mem_append] at hx
    refine beq_eq_false_iff_ne.2 fun e => ?_
    rcases hx with hx | hx
    ·exact p3 x hx l[k] (List.mem_cons_self ..) (by rw [hkn, e])
    ·exact p4.1 x hx (by rw [hkn, e])
   obtain ⟨i1, i2⟩ := cutAll_spec ns (l.eraseIdx k) hpe
   have hcut : isCut (n :: ns) l[k] = true := by rw [isCut_cons, hkn]; simp
   have e1 : (l.filter (isCut (n :: ns))).length = ((l.eraseIdx k).filter (isCut ns)).length + 1 := by
    have e2 : (l.eraseIdx k).filter (isCut (n :: ns)) = (l.eraseIdx k).filter (isCut ns) := filter_congr' fun x hx => by rw [isCut_cons, hno x hx, Bool.false_or]
    rw [← e2]
    conv => lhs; rw [hsplit]
    rw [her, List.filter_append, List.filter_append, List.filter_cons, if_pos hcut, List.length_append, List.length_append, List.length_cons]
    omega
   have e3 : l.filter (fun m => !isCut (n :: ns) m) = (l.eraseIdx k).filter (fun m => !isCut ns m) := by
    have e2 : (l.eraseIdx k).filter (fun m => !isCut (n :: ns) m) = (l.eraseIdx k).filter (fun m => !isCut ns m) := filter_congr' fun x hx => by rw [isCut_cons, hno x hx, Bool.false_or]
    rw [← e2]
    conv => lhs; rw [hsplit]
    rw [her, List.filter_append, List.filter_append, List.filter_cons, if_neg (by rw [hcut]; simp)]
   rw [e1, e3, i2, List.length_cons]
   refine ⟨by omega, ?_⟩
   by_cases c : ((l.eraseIdx k).filter (isCut ns)).length = ns.length
   ·rw [if_pos c, if_pos (by omega)]
   ·rw [if_neg c, if_neg (by omega)]
def Rv (n : Int) (x y : M_) : Prop := okM n x ∧ okM n y ∧ sAh x y = true
theorem Rv_mcmp {n : Int} {x y : M_} (h : Rv n x y) : mcmp x y < 0 := ((ahead_eq n x y h.1).1 h.2.2).1
theorem Rv_asym {n : Int} (x y : M_) (h : Rv n x y) : ¬ Rv n y x := fun k => mcmp_ord.irrefl x (mcmp_ord.trans _ _ _ (Rv_mcmp h) (Rv_mcmp k))
theorem Rv_trans {n : Int} {x y z : M_} (h1 : Rv n x y) (h2 : Rv n y z) : Rv n x z := by
 refine ⟨h1.1, h2.2.1, ?_⟩
 have a := h1.2.2
 have b := h2.2.2
 have hy := h1.2.1.2.2.2.2.1
 unfold sAh at a b ⊢
 by_cases c1 : x.f1 = y.f1
 ·rw [if_pos c1] at a
  by_cases c2 : y.f1 = z.f1
  ·rw [if_pos c2] at b
   rw [if_pos (c1.trans c2)]
   by_cases c0 : x.f1 = 0
   ·rw [if_pos c0] at a ⊢
    rw [if_pos (by omega)] at b
    simp only [gt_iff_lt, decide_eq_true_eq] at a b ⊢
    omega
   ·rw [if_neg c0] at a ⊢
    rw [if_neg (by omega)] at b
    have h3 : tless x.f3 y.f3 = true := by
     cases hq : tless y.f2 y.f3 with
     | true => exact bl_trans a hq
     | false =>
      have e : y.f2.toList = y.f3.toList := bl_eq hq hy
      unfold tless at a ⊢
      rw [← e]; exact a
    exact bl_trans h3 b
  ·rw [if_neg c2] at b
   rw [if_neg (by omega)]
   simp only [decide_eq_true_eq] at b ⊢
   omega
 ·rw [if_neg c1] at a
  by_cases c2 : y.f1 = z.f1
  ·rw [if_neg (by omega)]
   simp only [decide_eq_true_eq] at a ⊢
   omega
  ·rw [if_neg c2] at b
   simp only [decide_eq_true_eq] at a b
   rw [if_neg (by omega)]
   simp only [decide_eq_true_eq]
   omega
theorem vOk_getElem {l : List M_} {n s g : Int} (h : vOk l n s g) (i : Nat) (hi : i < l.length) : okM n l[i] ∧ (¬ l[i].f0 ∈ (l.take i).map (fun m => m.f0)) ∧ (∀ hp : 0 < i, aheadM (l[i - 1]'(by omega)) l[i]) := by
 have h1 := h.2.2.2.2 i hi
 unfold okAt at h1
 have e : ∀ j (hj : j < l.length), l.getD j z66 = l[j] := fun j hj => by rw [List.getD_eq_getElem?_getD, List.getElem?_eq_getElem hj]; rfl
 rw [e i hi] at h1
 refine ⟨h1.1, h1.2.1, fun hp => ?_⟩
 have := h1.2.2 hp
 rwa [e (i - 1) (by omega)] at this
theorem vOk_pair {l : List M_} {n s g : Int} (h : vOk l n s g) : l.Pairwise (Rv n) := by
 refine List.pairwise_iff_getElem.2 ?_
 have key : ∀ (d i : Nat) (hj : i + d + 1 < l.length), Rv n (l[i]'(by omega)) l[i + d + 1] := by
  intro d
  induction d with
  | zero =>
   intro i hj
   have h1 := vOk_getElem h i (by omega)
   have h2 := vOk_getElem h (i + 1) hj
   have h3 := h2.2.2 (by omega)
   exact ⟨h1.1, h2.1, (ahead_eq n _ _ h1.1).2 h3⟩
  | succ d ih =>
   intro i hj
   have h1 := ih i (by omega)
   have h2 := vOk_getElem h (i + (d + 1) + 1) hj
   have h3 := h2.2.2 (by omega)
   exact Rv_trans h1 ⟨h1.2.1, h2.1, (ahead_eq n _ _ h1.2.1).2 h3⟩
 intro i j hi hj hij
 have := key (j - i - 1) i (by omega)
 simp only [show i + (j - i - 1) + 1 = j from by omega] at this
 exact this
theorem vOk_nums {l : List M_} {n s g : Int} (h : vOk l n s g) : l.Pairwise (fun x y => x.f0 ≠ y.f0) := by
 refine List.pairwise_iff_getElem.2 fun i j hi hj hij e => ?_
 refine (vOk_getElem h j hj).2.1 ?_
 rw [← e]
 exact List.mem_map.2 ⟨l[i], List.mem_take_iff_getElem.2 ⟨i, by omega, rfl⟩, rfl⟩
theorem insM_perm (m : M_) : ∀ l : List M_, (insM l m).Perm (m :: l)
 | [] => .refl _
 | x :: xs => by
  show (if sAh x m = true then x :: insM xs m else m :: x :: xs).Perm _
  split
  ·exact ((insM_perm m xs).cons x).trans (.swap ..)
  ·exact .refl _
theorem foldl_perm : ∀ (adds l : List M_), (adds.foldl insM l).Perm (l ++ adds)
 | [], l => by rw [List.append_nil]; exact .refl _
 | m :: ms, l => by
  rw [List.foldl_cons]
  refine (foldl_perm ms (insM l m)).trans ?_
  refine ((insM_perm m l).append_right ms).trans ?_
  show (m :: (l ++ ms)).Perm (l ++ m :: ms)
  exact List.perm_middle.symm
def Cmp (n : Int) (x y : M_) : Prop := Rv n x y ∨ Rv n y x
theorem insM_pair (n : Int) (m : M_) : ∀ l : List M_, l.Pairwise (Rv n) → (∀ x ∈ l, Cmp n x m) → (insM l m).Pairwise (Rv n)
 | [], _, _ => List.pairwise_singleton _ _
 | x :: xs, h, hc => by
  have h1 := List.pairwise_cons.1 h
  show (if sAh x m = true then x :: insM xs m else m :: x :: xs).Pairwise (Rv n)
  split
  ·rename_i c
   have hx : Rv n x m := by
    rcases hc x (List.mem_cons_self ..) with k | k
    ·exact k
    ·exact ⟨k.2.1, k.1, c⟩
   refine List.pairwise_cons.2 ⟨fun y hy => ?_, insM_pair n m xs h1.2 fun y hy => hc y (List.mem_cons_of_mem _ hy)⟩
   rcases List.mem_cons.1 ((insM_perm m xs).mem_iff.1 hy) with k | k
   ·rw [k]; exact hx
   ·exact h1.1 y k
  ·rename_i c
   have hx : Rv n m x := by
    rcases hc x (List.mem_cons_self ..) with k | k
    ·exact absurd k.2.2 c
    ·exact k
   refine List.pairwise_cons.2 ⟨fun y hy => ?_, h⟩
   rcases List.mem_cons.1 hy with k | k
   ·rw [k]; exact hx
   ·exact Rv_trans hx (h1.1 y k)
theorem foldl_pair (n : Int) : ∀ (adds l : List M_), l.Pairwise (Rv n) → (l ++ adds).Pairwise (Cmp n) → (adds.foldl insM l).Pairwise (Rv n)
 | [], l, h, _ => h
 | m :: ms, l, h, hc => by
  have sym : ∀ {x y : M_}, Cmp n x y → Cmp n y x := fun k => k.elim .inr .inl
  have h2 := List.pairwise_append.1 hc
  rw [List.foldl_cons]
  refine foldl_pair n ms _ (insM_pair n m l h fun x hx => h2.2.2 x hx m (List.mem_cons_self ..)) ?_
  refine (List.Perm.pairwise_iff (fun k => sym k) ?_).1 hc
  refine List.Perm.trans ?_ ((insM_perm m l).append_right ms).symm
  show (l ++ m :: ms).Perm (m :: (l ++ ms))
  exact List.perm_middle
theorem pair_ext {n : Int} {A B : List M_} (hA : A.Pairwise (Rv n)) (hB : B.Pairwise (Rv n)) (hp : A.Perm B) : A = B := by
 induction A generalizing B with
 | nil => exact (List.Perm.nil_eq hp)
 | cons a A ih =>
  cases B with
  | nil => exact (List.Perm.eq_nil hp)
  | cons b B =>
   have a1 := List.pairwise_cons.1 hA
   have b1 := List.pairwise_cons.1 hB
   have e : a = b := by
    rcases List.mem_cons.1 (hp.mem_iff.1 (List.mem_cons_self ..)) with e | e
    ·exact e
    ·rcases List.mem_cons.1 (hp.mem_iff.2 (List.mem_cons_self ..)) with e' | e'
     ·exact e'.symm
     ·exact absurd (a1.1 b e') (Rv_asym _ _ (b1.1 a e))
   subst e
   rw [ih a1.2 b1.2 ((List.perm_cons _).1 hp)]
theorem ed_out {m adds : List M_} {n s g : Int} (n0 : Int) (hm : m.Pairwise (Rv n0)) : (vOk (srt mcmp (m ++ adds)) n s g ↔ vOk (adds.foldl insM m) n s g) ∧ (vOk (srt mcmp (m ++ adds)) n s g → srt mcmp (m ++ adds) = adds.foldl insM m) := by
 have sym : ∀ {x y : M_}, Cmp n x y → Cmp n y x := fun k => k.elim .inr .inl
 have hf := foldl_perm adds m
 have hs := srt_perm mcmp_ord (m ++ adds)
 have so := srt_sorted mcmp_ord (m ++ adds)
 have one : vOk (srt mcmp (m ++ adds)) n s g → srt mcmp (m ++ adds) = adds.foldl insM m := by
  intro h
  have hp := vOk_pair h
  have hc : (m ++ adds).Pairwise (Cmp n) := (List.Perm.pairwise_iff (fun k => sym k) hs).1 (hp.imp fun k => .inl k)
  have hm' : m.Pairwise (Rv n) := by
   refine ((List.pairwise_append.1 hc).1.and hm).imp fun {x y} k => ?_
   rcases k.1 with q | q
   ·exact q
   ·exact ⟨q.2.1, q.1, k.2.2.2⟩
  exact pair_ext hp (foldl_pair n adds m hm' hc) (hs.trans hf.symm)
 have two : vOk (adds.foldl insM m) n s g → srt mcmp (m ++ adds) = adds.foldl insM m := by
  intro h
  have hp := vOk_pair h
  have hpm : (srt mcmp (m ++ adds)).Perm (adds.foldl insM m) := hs.trans hf.symm
  have hc : (srt mcmp (m ++ adds)).Pairwise (Cmp n) := (List.Perm.pairwise_iff (fun k => sym k) hpm.symm).1 (hp.imp fun k => .inl k)
  refine pair_ext ((hc.and so).imp fun {x y} k => ?_) hp hpm
  rcases k.1 with q | q
  ·exact q
  ·exact absurd (Rv_mcmp q) k.2
 exact ⟨⟨fun h => (one h) ▸ h, fun h => (two h).symm ▸ h⟩, one⟩
theorem edV_eq (l : List M_) (n s g : Int) (adds : List M_) (cuts : List Int) (n' s' g' : Int) (h : vOk l n s g) : edV l n s g adds cuts n' s' g' = sAp l n s g adds cuts n' s' g' := by
 unfold edV sAp
 by_cases c : n' < n ∨ s' < s ∨ g' < g ∨ 30 < adds.length
 ·rw [if_pos c, if_neg (fun k => by omega)]
 ·rw [if_neg c, if_pos ⟨h, by omega, by omega, by omega, by omega⟩]
  have hc := (cutAll_spec cuts l (vOk_nums h)).2
  rw [hc]
  unfold apTail
  by_cases k : (l.filter (isCut cuts)).length = cuts.length
  ·rw [if_pos k, if_pos (by omega)]
   have hm : (l.filter fun m => !isCut cuts m).Pairwise (Rv n) := (vOk_pair h).sublist List.filter_sublist
   obtain ⟨o1, o2⟩ := ed_out (adds := adds) (n := n') (s := s') (g := g') n hm
   unfold apFin
   simp only []
   by_cases q : vOk (srt mcmp ((l.filter fun m => !isCut cuts m) ++ adds)) n' s' g'
   ·rw [if_pos q, if_pos (o1.1 q), o2 q]
   ·rw [if_neg q, if_neg (fun z => q (o1.2 z))]
  ·rw [if_neg k, if_neg (by omega)]
end Go.Proofs.Ytcgejabkjljeeaa.Pure
end

section
namespace Go.Proofs.Ytcgejabkjljeeaa.Pure
open Go.RowKit Go.Proofs.YtcgejabkjljeeaaW.PrintWords Go.Proofs.YtcgejabkjljeeaaW.PrintLast Go.Proofs.YtcgejabkjljeeaaW.PrintMore
open Go.Proofs.Ytcgejabkjljeeaa.P
set_option linter.unusedVariables false
set_option linter.unusedSimpArgs false
theorem sAp_ok {l : List M_} {n s g : Int} {adds : List M_} {cuts : List Int} {n' s' g' : Int} (h : (sAp l n s g adds cuts n' s' g').2.2.2.2 = true) : vOk (sAp l n s g adds cuts n' s' g').1 (sAp l n s g adds cuts n' s' g').2.1 (sAp l n s g adds cuts n' s' g').2.2.1 (sAp l n s g adds cuts n' s' g').2.2.2.1 := by
 unfold sAp apTail apFin at h ⊢
 split at h
 ·rename_i c1
  rw [if_pos c1]
  split at h
  ·rename_i c2
   rw [if_pos c2]
   split at h
   ·rename_i c3
    rw [if_pos c3]
    exact c3
   ·cases h
  ·cases h
 ·cases h
def rpV : List S37 → Nat → List M_ → Int → Int → Int → List M_ × Int × Int × Int × Int
 | [], i, l, n, s, g => (l, n, s, g, (i : Int))
 | e :: es, i, l, n, s, g => if (sAp l n s g e.f0 e.f1 e.f2 e.f3 e.f4).2.2.2.2 = true then rpV es (i + 1) (sAp l n s g e.f0 e.f1 e.f2 e.f3 e.f4).1 (sAp l n s g e.f0 e.f1 e.f2 e.f3 e.f4).2.1 (sAp l n s g e.f0 e.f1 e.f2 e.f3 e.f4).2.2.1 (sAp l n s g e.f0 e.f1 e.f2 e.f3 e.f4).2.2.2.1 else (l, n, s, g, (i : Int))
def rpR (l : List M_) (n s g : Int) (es : List S37) : List M_ × Int × Int × Int × Int := if vOk l n s g then rpV es 0 l n s g else ([], 0, 0, 0, -1)
theorem rpV_len : ∀ (es : List S37) (i : Nat) (l : List M_) (n s g : Int), l.length ≤ 30 → (rpV es i l n s g).1.length ≤ 30
 | [], _, _, _, _, _, h => h
 | e :: es, i, l, n, s, g, h => by
  rw [rpV]
  split
  ·exact rpV_len es _ _ _ _ _ (sAp_len _ _ _ _ _ _ _ _ _)
  ·exact h
theorem rpR_len (l : List M_) (n s g : Int) (es : List S37) : (rpR l n s g es).1.length ≤ 30 := by
 unfold rpR
 split
 ·rename_i h
  exact rpV_len es 0 l n s g h.1
 ·simp
theorem rdE37 (l : List S37) (i : Nat) (h : i < l.length) : qw l (i : Int) = l[i] := by
 unfold qw
 rw [Int.toNat_natCast, List.getD_eq_getElem?_getD, List.getElem?_eq_getElem h]
 rfl
theorem replay_ev (l : List M_) (n s g : Int) (es : List S37) (hl : l.length < 2097152) (he : es.length < 2097152) (hc : ∀ e ∈ es, e.f1.length ≤ 2000000) :
  Ev (fun k => impl_Replay.f k l n s g es) (rpR l n s g es) ∧ Ev (fun k => spec_Replay.f k l n s g es) (rpR l n s g es) := by
 unfold impl_Replay.f spec_Replay.f rpR
 have hv := sVersionOk_ev l n s g hl
 by_cases c : vOk l n s g
 ·rw [if_pos c]
  rw [decide_eq_true c] at hv
  have key : ∀ i, i ≤ es.length → ∀ (l : List M_) (n s g : Int), vOk l n s g → Ev (fun k => impl_Replay.l0 k es es (es.length : Int) (i : Int) l n s g) (rpV (es.drop i) i l n s g) ∧ Ev (fun k => spec_Replay.l0 k es (i : Int) l n s g) (rpV (es.drop i) i l n s g) := by
   refine downTo es.length ?_ ?_
   ·intro l n s g hv
    rw [List.drop_length, rpV]
    constructor
    ·refine Ev.step (fun k => impl_Replay.l0.eq_2 ..) ?_
     exact Ev.neg (by omega) (Ev.now _)
    ·refine Ev.step (fun k => spec_Replay.l0.eq_2 ..) ?_
     exact Ev.neg (by omega) (Ev.now _)
   ·intro i hi ih l n s g hv
    rw [List.drop_eq_getElem_cons hi, rpV]
    have hed : impl_Version_edited.f l n s g (es[i]).f0 (es[i]).f1 (es[i]).f2 (es[i]).f3 (es[i]).f4 = some (sAp l n s g (es[i]).f0 (es[i]).f1 (es[i]).f2 (es[i]).f3 (es[i]).f4) := by
     unfold impl_Version_edited.f
     rw [if_pos (by have := hv.1; omega), edV_eq l n s g _ _ _ _ _ hv]
    have hsp := sApply_ev l n s g (es[i]).f0 (es[i]).f1 (es[i]).f2 (es[i]).f3 (es[i]).f4 (by have := hv.1; omega) (hc _ (List.getElem_mem hi))
    have hok := fun (hq : (sAp l n s g (es[i]).f0 (es[i]).f1 (es[i]).f2 (es[i]).f3 (es[i]).f4).2.2.2.2 = true) => ih _ _ _ _ (sAp_ok hq)
    generalize sAp l n s g (es[i]).f0 (es[i]).f1 (es[i]).f2 (es[i]).f3 (es[i]).f4 = r at hed hsp hok ⊢
    constructor
    ·refine Ev.step (fun k => impl_Replay.l0.eq_2 ..) ?_
     rw [rdE37 es i hi, wsucc (by omega)]
     refine Ev.pos (by omega) (Ev.pos (by omega) (Ev.pos (by omega) (Ev.bindS hed ?_)))
     by_cases q : r.2.2.2.2 = true
     ·rw [if_pos q]
      exact Ev.pos q (hok q).1
     ·rw [if_neg q]
      exact Ev.neg q (Ev.now _)
    ·refine Ev.step (fun k => spec_Replay.l0.eq_2 ..) ?_
     rw [rdE37 es i hi, wsucc (by omega)]
     refine Ev.pos (by omega) (Ev.pos (by omega) (Ev.bind hsp ?_))
     by_cases q : r.2.2.2.2 = true
     ·rw [if_pos q]
      exact Ev.pos q (hok q).2
     ·rw [if_neg q]
      exact Ev.neg q (Ev.now _)
  have h0 := key 0 (Nat.zero_le _) l n s g c
  rw [List.drop_zero] at h0
  have hcl : impl_Meta_69.f l = some l := if_pos (by omega)
  have hcp : spec_l12Copy.f l n s g = some (l, n, s, g) := by
   unfold spec_l12Copy.f
   rw [Option.bind_some, if_pos (by rw [List.length_nil]; omega), List.nil_append]
  have hvi : impl_VersionOk.f l n s g = some true := by unfold impl_VersionOk.f; rw [decide_eq_true c]
  exact ⟨Ev.bindS hvi (Ev.pos rfl (Ev.bindS hcl h0.1)), Ev.bind hv (Ev.pos rfl (Ev.bindS hcp h0.2))⟩
 ·rw [if_neg c]
  rw [decide_eq_false c] at hv
  have hvi : impl_VersionOk.f l n s g = some false := by unfold impl_VersionOk.f; rw [decide_eq_false c]
  exact ⟨Ev.bindS hvi (Ev.neg (by decide) (Ev.now _)), Ev.bind hv (Ev.neg (by decide) (Ev.now _))⟩
end Go.Proofs.Ytcgejabkjljeeaa.Pure
end

section
namespace Go.Proofs.Ytcgejabkjljeeaa.Pure
open Go.RowKit Go.Proofs.YtcgejabkjljeeaaW.PrintWords Go.Proofs.YtcgejabkjljeeaaW.PrintLast Go.Proofs.YtcgejabkjljeeaaW.PrintMore
open Go.Proofs.Ytcgejabkjljeeaa.P
set_option linter.unusedVariables false
set_option linter.unusedSimpArgs false
theorem byteOk {l : List Int} (h1 : l.length ≤ 1048576) (h2 : ∀ x ∈ l, (Lit.int .u8 x).wf = true) : okc l := by
 refine ⟨by omega, fun x hx => ?_⟩
 have := h2 x hx
 simpa [Lit.wf, IntKind.min, IntKind.max, IntKind.signed, IntKind.bits] using this
theorem okp0 (l : List Int) : okp l 0 := ⟨by omega, by omega⟩
end Go.Proofs.Ytcgejabkjljeeaa.Pure
end

section
namespace Go.Proofs.Ytcgejabkjljeeaa.Pure
open Go.RowKit Go.Proofs.YtcgejabkjljeeaaW.PrintWords Go.Proofs.YtcgejabkjljeeaaW.PrintLast Go.Proofs.YtcgejabkjljeeaaW.PrintMore
open Go.Proofs.Ytcgejabkjljeeaa.P
set_option linter.unusedVariables false
set_option linter.unusedSimpArgs false
theorem rpV_ok : ∀ (es : List S37) (i : Nat) (l : List M_) (n s g : Int), vOk l n s g → vOk (rpV es i l n s g).1 (rpV es i l n s g).2.1 (rpV es i l n s g).2.2.1 (rpV es i l n s g).2.2.2.1
 | [], _, _, _, _, _, h => h
 | e :: es, i, l, n, s, g, h => by
  rw [rpV]
  split
  ·rename_i c
   exact rpV_ok es _ _ _ _ _ (sAp_ok c)
  ·exact h
theorem rpV_cnt : ∀ (es : List S37) (i : Nat) (l : List M_) (n s g : Int), (i : Int) ≤ (rpV es i l n s g).2.2.2.2 ∧ (rpV es i l n s g).2.2.2.2 ≤ (i : Int) + es.length
 | [], i, _, _, _, _ => by simp [rpV]
 | e :: es, i, l, n, s, g => by
  rw [rpV, List.length_cons]
  split
  ·have := rpV_cnt es (i + 1) (sAp l n s g e.f0 e.f1 e.f2 e.f3 e.f4).1 (sAp l n s g e.f0 e.f1 e.f2 e.f3 e.f4).2.1 (sAp l n s g e.f0 e.f1 e.f2 e.f3 e.f4).2.2.1 (sAp l n s g e.f0 e.f1 e.f2 e.f3 e.f4).2.2.2.1
   omega
  ·simp only []
   omega
theorem rpV_shift (j : Nat) : ∀ (es : List S37) (i : Nat) (l : List M_) (n s g : Int), rpV es (i + j) l n s g = ((rpV es i l n s g).1, (rpV es i l n s g).2.1, (rpV es i l n s g).2.2.1, (rpV es i l n s g).2.2.2.1, (rpV es i l n s g).2.2.2.2 + j)
 | [], i, l, n, s, g => by
  rw [rpV, rpV]
  simp
 | e :: es, i, l, n, s, g => by
  rw [rpV, rpV]
  split
  ·rw [show i + j + 1 = (i + 1) + j from by omega]
   exact rpV_shift j es (i + 1) _ _ _ _
  ·simp
theorem rpV_stop (ys : List S37) : ∀ (xs : List S37) (i : Nat) (l : List M_) (n s g : Int), (rpV xs i l n s g).2.2.2.2 < (i : Int) + xs.length → rpV (xs ++ ys) i l n s g = rpV xs i l n s g
 | [], i, l, n, s, g, h => by
  rw [rpV, List.length_nil] at h
  simp only [] at h
  omega
 | e :: es, i, l, n, s, g, h => by
  rw [rpV, List.length_cons] at h
  rw [List.cons_append, rpV, rpV]
  split
  ·rename_i c
   rw [if_pos c] at h
   exact rpV_stop ys es (i + 1) _ _ _ _ (by omega)
  ·rfl
theorem rpV_go (ys : List S37) : ∀ (xs : List S37) (i : Nat) (l : List M_) (n s g : Int), (i : Int) + xs.length ≤ (rpV xs i l n s g).2.2.2.2 → rpV (xs ++ ys) i l n s g = rpV ys (i + xs.length) (rpV xs i l n s g).1 (rpV xs i l n s g).2.1 (rpV xs i l n s g).2.2.1 (rpV xs i l n s g).2.2.2.1
 | [], i, l, n, s, g, _ => rfl
 | e :: es, i, l, n, s, g, h => by
  rw [rpV, List.length_cons] at h
  rw [List.cons_append, rpV, rpV, List.length_cons]
  split
  ·rename_i c
   rw [if_pos c] at h
   rw [rpV_go ys es (i + 1) _ _ _ _ (by omega), show i + 1 + es.length = i + (es.length + 1) from by omega]
  ·rename_i c
   rw [if_neg c] at h
   simp only [] at h
   omega
theorem rpV_cut (es : List S37) (k : Nat) (hk : k ≤ es.length) (l : List M_) (n s g : Int) :
  ((rpV (es.take k) 0 l n s g).2.2.2.2 < (k : Int) → rpV es 0 l n s g = rpV (es.take k) 0 l n s g) ∧
  (¬ (rpV (es.take k) 0 l n s g).2.2.2.2 < (k : Int) → (rpV (es.take k) 0 l n s g).2.2.2.2 = (k : Int) ∧ rpV es 0 l n s g = ((rpV (es.drop k) 0 (rpV (es.take k) 0 l n s g).1 (rpV (es.take k) 0 l n s g).2.1 (rpV (es.take k) 0 l n s g).2.2.1 (rpV (es.take k) 0 l n s g).2.2.2.1).1, (rpV (es.drop k) 0 (rpV (es.take k) 0 l n s g).1 (rpV (es.take k) 0 l n s g).2.1 (rpV (es.take k) 0 l n s g).2.2.1 (rpV (es.take k) 0 l n s g).2.2.2.1).2.1, (rpV (es.drop k) 0 (rpV (es.take k) 0 l n s g).1 (rpV (es.take k) 0 l n s g).2.1 (rpV (es.take k) 0 l n s g).2.2.1 (rpV (es.take k) 0 l n s g).2.2.2.1).2.2.1, (rpV (es.drop k) 0 (rpV (es.take k) 0 l n s g).1 (rpV (es.take k) 0 l n s g).2.1 (rpV (es.take k) 0 l n s g).2.2.1 (rpV (es.take k) 0 l n s g).2.2.2.1).2.2.2.1, (rpV (es.drop k) 0 (rpV (es.take k) 0 l n s g).1 (rpV (es.take k) 0 l n s g).2.1 (rpV (es.take k) 0 l n s g).2.2.1 (rpV (es.take k) 0 l n s g).2.2.2.1).2.2.2.2 + k)) := by
 have hl : (es.take k).length = k := by rw [List.length_take]; omega
 have hc := rpV_cnt (es.take k) 0 l n s g
 rw [hl] at hc
 constructor
 ·intro h
  have := rpV_stop (es.drop k) (es.take k) 0 l n s g (by rw [hl]; omega)
  rwa [List.take_append_drop] at this
 ·intro h
  have := rpV_go (es.drop k) (es.take k) 0 l n s g (by rw [hl]; omega)
  rw [List.take_append_drop, hl, rpV_shift k (es.drop k) 0] at this
  exact ⟨by omega, this⟩
theorem drawReplay_ev {l : List Int} (h : okc l) : ∃ r, Ev (fun k => spec_DrawReplay.f k l) r ∧ r.1.length ≤ 31 ∧ r.2.2.2.2.length ≤ 5 ∧ ∀ e ∈ r.2.2.2.2, e.f1.length ≤ 2 := by
 obtain ⟨v, hv, hl, hp⟩ := dversion_ev h (okp0 l)
 obtain ⟨b, hb, hb1, hb2⟩ := below_ev h hp 5 (by omega)
 unfold spec_DrawReplay.f
 have key : ∀ (m : Nat) (p : Int) (fn : List M_) (nn sn qn : Int) (es : List S37), fn.length ≤ 31 → es.length + m ≤ 5 → (∀ e ∈ es, e.f1.length ≤ 2) → okp l p →
   ∃ r, Ev (fun k => spec_DrawReplay.l0 k (m : Int) l p v.1 v.2.1 v.2.2.1 v.2.2.2.1 fn nn sn qn es) r ∧ r.1.length ≤ 31 ∧ r.2.2.2.2.length ≤ 5 ∧ ∀ e ∈ r.2.2.2.2, e.f1.length ≤ 2 := by
  intro m
  induction m with
  | zero =>
   intro p fn nn sn qn es _ he hs _
   refine ⟨(v.1, v.2.1, v.2.2.1, v.2.2.2.1, es), ?_, hl, by simp only []; omega, hs⟩
   refine Ev.step (fun k => spec_DrawReplay.l0.eq_2 ..) ?_
   exact Ev.neg (by omega) (Ev.now _)
  | succ m ih =>
   intro p fn nn sn qn es hf he hs hp
   have hw : wrap64 (((m + 1 : Nat) : Int) - 1) = (m : Int) := by rw [wid (by omega) (by omega)]; omega
   obtain ⟨e, hed, he1, he2, he3⟩ := dedit_ev h hp fn (by omega) nn sn qn
   have hap := sApply_ev fn nn sn qn e.1 e.2.1 e.2.2.1 e.2.2.2.1 e.2.2.2.2.1 (by omega) (by omega)
   have hal := sAp_len fn nn sn qn e.1 e.2.1 e.2.2.1 e.2.2.2.1 e.2.2.2.2.1
   generalize sAp fn nn sn qn e.1 e.2.1 e.2.2.1 e.2.2.2.1 e.2.2.2.2.1 = a at hap hal
   have hs2 : ∀ x ∈ es ++ [(⟨e.1, e.2.1, e.2.2.1, e.2.2.2.1, e.2.2.2.2.1⟩ : S37)], x.f1.length ≤ 2 := fun x hx => by
    rcases List.mem_append.1 hx with hx | hx
    ·exact hs x hx
    ·rw [List.mem_singleton] at hx
     subst hx
     exact he2
   have hl2 : (es ++ [(⟨e.1, e.2.1, e.2.2.1, e.2.2.2.1, e.2.2.2.2.1⟩ : S37)]).length + m ≤ 5 := by
    rw [List.length_append, List.length_singleton]
    omega
   by_cases c : a.2.2.2.2 = true
   ·obtain ⟨r, hr, hr2⟩ := ih e.2.2.2.2.2 a.1 a.2.1 a.2.2.1 a.2.2.2.1 _ (by omega) hl2 hs2 he3
    refine ⟨r, ?_, hr2⟩
    refine Ev.step (fun k => spec_DrawReplay.l0.eq_2 ..) ?_
    rw [hw]
    exact Ev.pos (by omega) (Ev.bind hed (Ev.bind hap (Ev.pos c (Ev.pos (by omega) hr))))
   ·obtain ⟨o, ho, ho2⟩ := once_ev h he3 4 (by omega)
    by_cases c2 : o.1 = true
    ·obtain ⟨r, hr, hr2⟩ := ih o.2 fn nn sn qn _ hf hl2 hs2 ho2
     refine ⟨r, ?_, hr2⟩
     refine Ev.step (fun k => spec_DrawReplay.l0.eq_2 ..) ?_
     rw [hw]
     exact Ev.pos (by omega) (Ev.bind hed (Ev.bind hap (Ev.neg c (Ev.bindS ho (Ev.pos c2 (Ev.pos (by omega) hr))))))
    ·obtain ⟨r, hr, hr2⟩ := ih o.2 fn nn sn qn es hf (by omega) hs ho2
     refine ⟨r, ?_, hr2⟩
     refine Ev.step (fun k => spec_DrawReplay.l0.eq_2 ..) ?_
     rw [hw]
     exact Ev.pos (by omega) (Ev.bind hed (Ev.bind hap (Ev.neg c (Ev.bindS ho (Ev.neg c2 hr)))))
 obtain ⟨r, hr, hr2⟩ := key b.1.toNat b.2 v.1 v.2.1 v.2.2.1 v.2.2.2.1 [] hl (by simp; omega) (by simp) hb2
 rw [Int.toNat_of_nonneg hb1.1] at hr
 exact ⟨r, Ev.bindS rfl (Ev.bind hv (Ev.bindS hb hr)), hr2⟩
theorem FnReplayed : laws_FnReplayed.Pure := by
 intro l _ _ hb
 refine Ev.rounds (g := fun k => laws_FnReplayed.f k l) ?_
 unfold laws_FnReplayed.f
 refine Ev.bindS (a := decide ((l.length : Int) > 1048576)) rfl ?_
 by_cases big : (l.length : Int) > 1048576
 ·exact Ev.pos (decide_eq_true big) (Ev.now _)
 have hc := byteOk (l := l) (by omega) hb
 refine Ev.neg (by simpa using big) ?_
 obtain ⟨d, hd, hd1, hd2, hd3⟩ := drawReplay_ev hc
 obtain ⟨fs, n, s, g, es⟩ := d
 simp only [] at hd1 hd2 hd3
 have hrp := replay_ev fs n s g es (by omega) (by omega) (fun e he => by have := hd3 e he; omega)
 have hrl := rpR_len fs n s g es
 refine Ev.bind hd (Ev.bind hrp.1 (Ev.bind hrp.2 (Ev.pos rfl (Ev.bind (sameMetas_self _ (by omega)) (Ev.pos rfl ?_)))))
 by_cases hv : vOk fs n s g
 case neg =>
  rw [show rpR fs n s g es = ([], 0, 0, 0, -1) from if_neg hv]
  rw [decide_eq_true (show (([], 0, 0, 0, -1) : List M_ × Int × Int × Int × Int).2.2.2.2 < 0 from by decide)]
  refine Ev.step (fun k => laws_FnReplayed.j0.eq_2 ..) ?_
  exact Ev.pos rfl (Ev.now _)
 have h30 := hv.1
 rw [show rpR fs n s g es = rpV es 0 fs n s g from if_pos hv]
 have hcnt := rpV_cnt es 0 fs n s g
 rw [decide_eq_false (show ¬ (rpV es 0 fs n s g).2.2.2.2 < 0 from by omega)]
 refine Ev.step (fun k => laws_FnReplayed.j0.eq_2 ..) ?_
 refine Ev.neg (by decide) ?_
 have hk : l.length % (es.length + 1) ≤ es.length := Nat.le_of_lt_succ (Nat.mod_lt _ (Nat.succ_pos _))
 have hkI : (l.length : Int) % wrap64 ((es.length : Int) + 1) = ((l.length % (es.length + 1) : Nat) : Int) := by
  rw [wid (by omega) (by omega), Int.natCast_emod]
  rfl
 rw [hkI]
 generalize l.length % (es.length + 1) = kk at hk
 rw [Int.toNat_natCast]
 have hw1 : wrap64 ((es.length : Int) + 1) ≠ 0 := by rw [wid (by omega) (by omega)]; omega
 have hcut := rpV_cut es kk hk fs n s g
 have hA := (replay_ev fs n s g (es.take kk) (by omega) (by rw [List.length_take]; omega) (fun e he => by have := hd3 e (List.mem_of_mem_take he); omega)).1
 rw [show rpR fs n s g (es.take kk) = rpV (es.take kk) 0 fs n s g from if_pos hv] at hA
 have hAok := rpV_ok (es.take kk) 0 fs n s g hv
 have hAl := rpV_len (es.take kk) 0 fs n s g h30
 generalize rpV (es.take kk) 0 fs n s g = A at hcut hA hAok hAl
 refine Ev.neg hw1 (Ev.pos (by omega) (Ev.pos (show (kk : Int) ≤ (es.length : Int) by omega) (Ev.bind hA ?_)))
 by_cases c : A.2.2.2.2 < (kk : Int)
 ·rw [hcut.1 c]
  exact Ev.pos c (Ev.pos rfl (Ev.bind (sameMetas_self _ (by omega)) (Ev.now _)))
 ·obtain ⟨e1, e2⟩ := hcut.2 c
  have hB := (replay_ev A.1 A.2.1 A.2.2.1 A.2.2.2.1 (es.drop kk) (by omega) (by rw [List.length_drop]; omega) (fun e he => by have := hd3 e (List.mem_of_mem_drop he); omega)).1
  rw [show rpR A.1 A.2.1 A.2.2.1 A.2.2.2.1 (es.drop kk) = rpV (es.drop kk) 0 A.1 A.2.1 A.2.2.1 A.2.2.2.1 from if_pos hAok] at hB
  have hBl := rpV_len (es.drop kk) 0 A.1 A.2.1 A.2.2.1 A.2.2.2.1 hAl
  have hBc := rpV_cnt (es.drop kk) 0 A.1 A.2.1 A.2.2.1 A.2.2.2.1
  rw [List.length_drop] at hBc
  rw [e2]
  generalize rpV (es.drop kk) 0 A.1 A.2.1 A.2.2.1 A.2.2.2.1 = B at hB hBl hBc
  have hw2 : wrap64 (A.2.2.2.2 + B.2.2.2.2) = B.2.2.2.2 + (kk : Int) := by rw [e1, wid (by omega) (by omega)]; omega
  refine Ev.neg c (Ev.bind hB ?_)
  rw [hw2]
  exact Ev.pos rfl (Ev.bind (sameMetas_self _ (by omega)) (Ev.pos rfl (Ev.pos rfl (Ev.pos rfl ((Ev.now _).eqr (by simp))))))
end Go.Proofs.Ytcgejabkjljeeaa.Pure
end
