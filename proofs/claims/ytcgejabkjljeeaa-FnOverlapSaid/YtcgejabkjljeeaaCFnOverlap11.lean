/- Proved: the law FnOverlap of the given program returns true for every input of its Go types and leaves each argument as it was; no condition. (Part 12 of 14.) -/
import Derived.Test.YtcgejabkjljeeaaCFnOverlap4
import Derived.Test.YtcgejabkjljeeaaCFnOverlap8
import Derived.Lib.EndianBits
import Derived.Test.YtcgejabkjljeeaaCFnOverlap10
import Derived.Test.YtcgejabkjljeeaaCFnOverlap5
import Derived.Test.YtcgejabkjljeeaaCFnOverlap6
import Derived.Test.YtcgejabkjljeeaaCFnOverlap7
section
namespace Go.Proofs.Ytcgejabkjljeeaa.P
open Go.RowKit Go.Proofs.YtcgejabkjljeeaaW.PrintWords Go.Proofs.YtcgejabkjljeeaaW.PrintLast Go.Proofs.YtcgejabkjljeeaaW.PrintMore
attribute [local go_sem] str_gtr str_leq str_geq max2_int min2_int max_two min_two max_three min_three max_four min_four
set_option linter.unusedVariables false
set_option linter.unusedSimpArgs false
def okc (l : List Int) : Prop := l.length ≤ 1048576 ∧ ∀ x ∈ l, 0 ≤ x ∧ x ≤ 255
def okp (l : List Int) (p : Int) : Prop := 0 ≤ p ∧ p ≤ (l.length : Int)
theorem okc_rd {l : List Int} (h : okc l) (i : Int) : 0 ≤ rd l i ∧ rd l i ≤ 255 := by
  unfold rd
  rw [List.getD_eq_getElem?_getD]
  by_cases c : i.toNat < l.length
  · rw [List.getElem?_eq_getElem c]
    exact h.2 _ (List.getElem_mem c)
  · rw [List.getElem?_eq_none (by omega)]
    simp
theorem next_ev {l : List Int} {p : Int} (h : okc l) (hp : okp l p) : ∃ r, spec_l1Rd_next.f l p = some r ∧ (0 ≤ r.1 ∧ r.1 ≤ 255) ∧ okp l r.2 := by
  obtain ⟨h1, h2⟩ := hp
  have hl := h.1
  unfold spec_l1Rd_next.f
  by_cases c : p ≥ (l.length : Int)
  · exact ⟨_, if_pos c, by simp, h1, h2⟩
  · have e1 : wrap64 (p + 1) = p + 1 := wid (by omega) (by omega)
    have e2 : wrap64 (p + 1 - 1) = p := by rw [wid (by omega) (by omega)]; omega
    obtain ⟨r0, r1⟩ := okc_rd h p
    rw [if_neg c, e1, e2, if_pos h1, if_pos (by omega)]
    refine ⟨_, rfl, ?_, ?_⟩
    · show 0 ≤ wrap64 (rd l p) ∧ wrap64 (rd l p) ≤ 255
      rw [wid (by omega) (by omega)]
      exact ⟨r0, r1⟩
    · exact ⟨by show 0 ≤ p + 1; omega, by show p + 1 ≤ _; omega⟩
theorem below_ev {l : List Int} {p : Int} (h : okc l) (hp : okp l p) (n : Int) (hn : 1 ≤ n) : ∃ r, spec_l1Rd_below.f l p n = some r ∧ (0 ≤ r.1 ∧ r.1 < n) ∧ okp l r.2 := by
  unfold spec_l1Rd_below.f
  by_cases c : n ≤ 1
  · exact ⟨_, if_pos c, ⟨by simp, by show (0 : Int) < n; omega⟩, hp⟩
  · rw [if_neg c]
    obtain ⟨a, ha, ha1, ha2⟩ := next_ev h hp
    by_cases c2 : n ≤ 256
    · rw [if_pos c2, ha]
      refine ⟨(Int.tmod a.1 n, a.2), by rw [Option.bind_some, if_neg (by omega)], ?_, ha2⟩
      show 0 ≤ Int.tmod a.1 n ∧ Int.tmod a.1 n < n
      rw [Int.tmod_eq_emod_of_nonneg ha1.1]
      exact ⟨Int.emod_nonneg _ (by omega), Int.emod_lt_of_pos _ (by omega)⟩
    · obtain ⟨b, hb, hb1, hb2⟩ := next_ev h ha2
      rw [if_neg c2, ha, Option.bind_some, hb, Option.bind_some, if_neg (by omega)]
      refine ⟨_, rfl, ?_, hb2⟩
      show 0 ≤ Int.tmod (wrap64 (wrap64 (a.1 * 256) + b.1)) n ∧ Int.tmod (wrap64 (wrap64 (a.1 * 256) + b.1)) n < n
      rw [wid (x := a.1 * 256) (by omega) (by omega), wid (by omega) (by omega), Int.tmod_eq_emod_of_nonneg (by omega)]
      exact ⟨Int.emod_nonneg _ (by omega), Int.emod_lt_of_pos _ (by omega)⟩
theorem once_ev {l : List Int} {p : Int} (h : okc l) (hp : okp l p) (n : Int) (hn : 1 ≤ n) : ∃ r, spec_l1Rd_once.f l p n = some r ∧ okp l r.2 := by
  obtain ⟨a, ha, _, ha2⟩ := below_ev h hp n hn
  unfold spec_l1Rd_once.f
  rw [ha]
  exact ⟨_, rfl, ha2⟩
theorem bits_u64 (o : BinOp) (a b : Int) : 0 ≤ Go.bits o .u64 a b ∧ Go.bits o .u64 a b ≤ 18446744073709551615 := by
  unfold Go.bits
  simp only [IntKind.wrap_u64]
  omega
theorem word_ev {l : List Int} {p : Int} (h : okc l) (hp : okp l p) : ∃ r, Ev (fun k => spec_l1Rd_word.f k l p) r ∧ (0 ≤ r.1 ∧ r.1 ≤ 18446744073709551615) ∧ okp l r.2 := by
  have key : ∀ i : Nat, i ≤ 8 → ∀ (x p : Int), 0 ≤ x ∧ x ≤ 18446744073709551615 → okp l p → ∃ r, Ev (fun k => spec_l1Rd_word.l0 k x (i : Int) l p) r ∧ (0 ≤ r.1 ∧ r.1 ≤ 18446744073709551615) ∧ okp l r.2 := by
    refine downTo 8 ?_ ?_
    · intro x p hx hp
      exact ⟨(x, p), Ev.step (fun k => spec_l1Rd_word.l0.eq_2 ..) (Ev.neg (by omega) (Ev.now _)), hx, hp⟩
    · intro i hi ih x p hx hp
      obtain ⟨a, ha, _, ha2⟩ := next_ev h hp
      obtain ⟨r, hr, hr2⟩ := ih _ a.2 (bits_u64 .or (IntKind.u64.wrap (x * 256)) (IntKind.u64.wrap a.1)) ha2
      refine ⟨r, Ev.step (fun k => spec_l1Rd_word.l0.eq_2 ..) (Ev.pos (by omega) (Ev.bindS ha ?_)), hr2⟩
      rw [wsucc (by omega)]
      exact hr
  exact key 0 (by omega) 0 p (by omega) hp
theorem dtext_ev {l : List Int} {p : Int} (h : okc l) (hp : okp l p) : ∃ r, spec_l1Rd_text.f l p = some r ∧ (r.1.size ≤ 4) ∧ okp l r.2 := by
  obtain ⟨a, ha, ha1, ha2⟩ := below_ev h hp 12 (by omega)
  unfold spec_l1Rd_text.f
  rw [Option.bind_some, ha, Option.bind_some, if_pos ha1.1, if_pos (by simp only [List.length_cons, List.length_nil]; omega)]
  refine ⟨_, rfl, ?_, ha2⟩
  obtain ⟨m, hm⟩ : ∃ m : Nat, a.1 = m := ⟨a.1.toNat, by omega⟩
  have hlt : m < 12 := by omega
  simp only [hm]
  clear hm ha1 ha ha2
  revert m
  unfold rdOf
  simp only [Int.toNat_natCast]
  decide +kernel
theorem duser_ev {l : List Int} {p : Int} (h : okc l) (hp : okp l p) : ∃ r, spec_l1Rd_user.f l p = some r ∧ (isU r.1) ∧ okp l r.2 := by
  obtain ⟨a, ha, ha1, ha2⟩ := below_ev h hp 10 (by omega)
  unfold spec_l1Rd_user.f
  rw [Option.bind_some, ha, Option.bind_some, if_pos ha1.1, if_pos (by simp only [List.length_cons, List.length_nil]; omega)]
  refine ⟨_, rfl, ?_, ha2⟩
  obtain ⟨m, hm⟩ : ∃ m : Nat, a.1 = m := ⟨a.1.toNat, by omega⟩
  have hlt : m < 10 := by omega
  simp only [hm]
  clear hm ha1 ha ha2
  revert m
  unfold rdOf
  simp only [Int.toNat_natCast]
  decide +kernel
theorem near_ev {l : List Int} {p : Int} (h : okc l) (hp : okp l p) (a b : Int) (hab : a ≤ b) (ha : -1000000000000000 ≤ a) (hb : b ≤ 1000000000000000) : ∃ r, Ev (fun k => spec_l1Rd_near.f k l p a b) r ∧ (a ≤ r.1 ∧ r.1 ≤ b) ∧ okp l r.2 := by
  unfold spec_l1Rd_near.f
  obtain ⟨x, hx, hx1, hx2⟩ := below_ev h hp 8 (by omega)
  by_cases c0 : x.1 = 0
  · exact ⟨_, Ev.bindS hx (Ev.pos c0 (Ev.now _)), ⟨Int.le_refl _, hab⟩, hx2⟩
  · by_cases c1 : x.1 = 1
    · exact ⟨_, Ev.bindS hx (Ev.neg c0 (Ev.pos c1 (Ev.now _))), ⟨hab, Int.le_refl _⟩, hx2⟩
    · obtain ⟨y, hy, hy1, hy2⟩ := word_ev h hx2
      have e : IntKind.u64.wrap (wrap64 (wrap64 (b - a) + 1)) = b - a + 1 := by
        rw [wid (x := b - a) (by omega) (by omega), wid (by omega) (by omega), uid (by omega) (by omega)]
      have m0 : 0 ≤ Int.tmod (y.1 / 2) (b - a + 1) ∧ Int.tmod (y.1 / 2) (b - a + 1) < b - a + 1 := by
        rw [Int.tmod_eq_emod_of_nonneg (by omega)]
        exact ⟨Int.emod_nonneg _ (by omega), Int.emod_lt_of_pos _ (by omega)⟩
      refine ⟨(a + Int.tmod (y.1 / 2) (b - a + 1), y.2), Ev.bindS hx (Ev.neg c0 (Ev.neg c1 (Ev.neg (by omega) (Ev.bind hy ?_)))), ⟨by show a ≤ a + _; omega, by show a + _ ≤ b; omega⟩, hy2⟩
      rw [e, wid (x := Int.tmod (y.1 / 2) (b - a + 1)) (by omega) (by omega), wid (by omega) (by omega)]
      exact Ev.neg (by omega) (Ev.now _)
theorem off_ev {l : List Int} {p : Int} (h : okc l) (hp : okp l p) (a b : Int) (hab : a ≤ b) (ha : -1000000000000000 ≤ a) (hb : b ≤ 1000000000000000) : ∃ r, Ev (fun k => spec_l1Rd_off.f k l p a b) r ∧ (-9223372036854775808 ≤ r.1 ∧ r.1 ≤ 9223372036854775807) ∧ okp l r.2 := by
  unfold spec_l1Rd_off.f
  obtain ⟨x, hx, hx2⟩ := once_ev h hp 24 (by omega)
  by_cases c0 : x.1 = true
  · obtain ⟨y, hy, hy1, hy2⟩ := below_ev h hx2 4 (by omega)
    refine ⟨_, Ev.bindS hx (Ev.pos c0 (Ev.bindS rfl (Ev.bindS hy (Ev.pos hy1.1 (Ev.pos (by simp only [List.length_cons, List.length_nil]; omega) (Ev.now _)))))), ?_, hy2⟩
    rw [wid (x := a - 1) (by omega) (by omega), wid (x := b + 1) (by omega) (by omega)]
    obtain ⟨m, hm⟩ : ∃ m : Nat, y.1 = m := ⟨y.1.toNat, by omega⟩
    have hlt : m < 4 := by omega
    simp only [hm]
    unfold rd
    rw [Int.toNat_natCast]
    match m, hlt with
    | 0, _ => show -9223372036854775808 ≤ a - 1 ∧ a - 1 ≤ 9223372036854775807; omega
    | 1, _ => show -9223372036854775808 ≤ b + 1 ∧ b + 1 ≤ 9223372036854775807; omega
    | 2, _ => show (-9223372036854775808 : Int) ≤ -9223372036854775808 ∧ (-9223372036854775808 : Int) ≤ 9223372036854775807; omega
    | 3, _ => show (-9223372036854775808 : Int) ≤ 9223372036854775807 ∧ (9223372036854775807 : Int) ≤ 9223372036854775807; omega
  · obtain ⟨y, hy, hy1, hy2⟩ := near_ev h hx2 a b hab ha hb
    exact ⟨_, Ev.bindS hx (Ev.neg c0 (Ev.bind hy (Ev.now _))), ⟨by omega, by omega⟩, hy2⟩
theorem eqA66 (d : Nat) (w : World) (x0 y0 : Int) (x1 y1 : Int) (x2 y2 : ByteArray) (x3 y3 : ByteArray) (x4 y4 : Int) :
  (Op.equalIn (d + 2) 66 (.agg #[.int .i64 x0, .int .i64 x1, .string x2, .string x3, .int .i64 x4]) (.agg #[.int .i64 y0, .int .i64 y1, .string y2, .string y3, .int .i64 y4])).run Try.prog w = .ok (x0 == y0 && (x1 == y1 && (x2.toList == y2.toList && (x3.toList == y3.toList && (x4 == y4))))) w := by
 refine eqA_of Try.underlying66 (by kernel_rfl) ?_
 refine eqf_cons (by rfl) (by go_simp; rfl) (by go_simp; rfl) (by go_simp) ?_
 refine eqf_cons (by rfl) (by go_simp; rfl) (by go_simp; rfl) (by go_simp) ?_
 refine eqf_cons (by rfl) (by go_simp; rfl) (by go_simp; rfl) (by go_simp) ?_
 refine eqf_cons (by rfl) (by go_simp; rfl) (by go_simp; rfl) (by go_simp) ?_
 exact eqf_last (by rfl) (by go_simp; rfl) (by go_simp; rfl) (by go_simp)
end Go.Proofs.Ytcgejabkjljeeaa.P
end

section
namespace Go.Proofs.Ytcgejabkjljeeaa.P
open Go.RowKit Go.Proofs.YtcgejabkjljeeaaW.PrintWords Go.Proofs.YtcgejabkjljeeaaW.PrintLast Go.Proofs.YtcgejabkjljeeaaW.PrintMore
attribute [local go_sem] str_gtr str_leq str_geq max2_int min2_int max_two min_two max_three min_three max_four min_four
set_option linter.unusedVariables false
set_option linter.unusedSimpArgs false
theorem sameInts_self (l : List Int) (h : l.length < 2097152) : Ev (fun k => laws_sameInts.f k l l) true := by
  unfold laws_sameInts.f
  have key : ∀ i, i ≤ l.length → Ev (fun k => laws_sameInts.l0 k l l (i : Int)) true := by
    refine downTo l.length (Ev.step (fun k => laws_sameInts.l0.eq_2 ..) (Ev.neg (by omega) (Ev.now _))) ?_
    intro i hi ih
    refine Ev.step (fun k => laws_sameInts.l0.eq_2 ..) (Ev.pos (by omega) (Ev.pos (by omega) (Ev.pos (by omega) (Ev.pos rfl ?_))))
    rw [wsucc (by omega)]
    exact ih
  exact Ev.pos rfl (key 0 (Nat.zero_le _))
end Go.Proofs.Ytcgejabkjljeeaa.P
end

section
namespace Go.Proofs.Ytcgejabkjljeeaa.Pure
open Go.RowKit Go.Proofs.YtcgejabkjljeeaaW.PrintWords Go.Proofs.YtcgejabkjljeeaaW.PrintLast Go.Proofs.YtcgejabkjljeeaaW.PrintMore
open Go.Proofs.Ytcgejabkjljeeaa.P
set_option linter.unusedVariables false
set_option linter.unusedSimpArgs false
abbrev M_ := S66
theorem rdM (l : List M_) (i : Nat) : qk l (i : Int) = l.getD i z66 := by unfold qk; rw [Int.toNat_natCast]
def sAh (p m : M_) : Bool := if p.f1 = m.f1 then (if p.f1 = 0 then decide (p.f0 > m.f0) else tless p.f3 m.f2) else decide (p.f1 < m.f1)
theorem sAhead_ev (p m : M_) : spec_l12Ahead.f p.f0 p.f1 p.f2 p.f3 p.f4 m.f0 m.f1 m.f2 m.f3 m.f4 = some (sAh p m) := by
  unfold spec_l12Ahead.f sAh tless
  split
  · split <;> rfl
  · rfl
def sMe (m : M_) : Prop := (1 ≤ m.f0 ∧ m.f0 ≤ 1000000) ∧ (0 ≤ m.f1 ∧ m.f1 ≤ 3) ∧ isU m.f2 ∧ isU m.f3 ∧ tless m.f3 m.f2 = false ∧ 1 ≤ m.f4 ∧ m.f4 ≤ 400
instance (m : M_) : Decidable (sMe m) := by unfold sMe; infer_instance
theorem sMeta_ev (m : M_) : spec_l12Meta.f m.f0 m.f1 m.f2 m.f3 m.f4 = some (decide (sMe m)) := by
  unfold spec_l12Meta.f
  rw [in_ev, Option.bind_some]
  by_cases c1 : 1 ≤ m.f0 ∧ m.f0 ≤ 1000000
  · rw [decide_eq_true c1, if_pos rfl, in_ev, Option.bind_some]
    by_cases c2 : 0 ≤ m.f1 ∧ m.f1 ≤ 3
    · rw [decide_eq_true c2, if_pos rfl, l2User_ev, Option.bind_some]
      by_cases c3 : isU m.f2
      · rw [decide_eq_true c3, if_pos rfl, l2User_ev, Option.bind_some]
        by_cases c4 : isU m.f3
        · rw [decide_eq_true c4, if_pos rfl]
          by_cases c5 : Op.bytesLess m.f3.toList m.f2.toList = true
          · rw [if_pos c5, decide_eq_false]
            intro h
            have := h.2.2.2.2.1
            unfold tless at this
            rw [c5] at this
            cases this
          · rw [if_neg c5, in_ev, Option.bind_some]
            have c5' : tless m.f3 m.f2 = false := by unfold tless; simpa using c5
            exact congrArg some (decide_eq_decide.2 ⟨fun h => ⟨c1, c2, c3, c4, c5', h⟩, fun h => h.2.2.2.2.2⟩)
        · rw [decide_eq_false c4, if_neg (by decide), decide_eq_false (fun h => c4 h.2.2.2.1)]
      · rw [decide_eq_false c3, if_neg (by decide), decide_eq_false (fun h => c3 h.2.2.1)]
    · rw [decide_eq_false c2, if_neg (by decide), decide_eq_false (fun h => c2 h.2.1)]
  · rw [decide_eq_false c1, if_neg (by decide), decide_eq_false (fun h => c1 h.1)]
theorem cI_neg (a b : Int) : cI a b < 0 ↔ a < b := by unfold cI; split <;> (try split) <;> constructor <;> intro h <;> omega
theorem cI_ne (a b : Int) (h : a ≠ b) : cI a b ≠ 0 := by unfold cI; split <;> (try split) <;> omega
theorem cI_self (a : Int) : cI a a = 0 := by unfold cI; rw [if_neg (by omega), if_neg (by omega)]
theorem cS_neg (a b : ByteArray) : cS a b < 0 ↔ tless a b = true := by
  unfold cS
  by_cases h : tless a b = true
  · simp [h]
  · rw [if_neg h]
    constructor
    · intro h2
      split at h2 <;> omega
    · intro h2
      exact absurd h2 h
theorem ahead_eq (next : Int) (p m : M_) (hp : okM next p) : sAh p m = true ↔ aheadM p m := by
  unfold sAh aheadM mcmp
  by_cases c : p.f1 = m.f1
  · rw [if_pos c]
    by_cases c2 : p.f1 = 0
    · rw [if_pos c2, if_pos ⟨c, c2⟩, cI_neg, decide_eq_true_eq]
      constructor
      · exact fun h => ⟨h, fun h2 => by have := h2.1; omega⟩
      · exact fun h => h.1
    · rw [if_neg c2, if_neg (fun h => c2 h.2)]
      have h0 : (([cI p.f1 m.f1, cS p.f2 m.f2] : List Int).find? fun x => x != 0).getD 0 = cS p.f2 m.f2 := by
        rw [c, cI_self]
        by_cases h : cS p.f2 m.f2 = 0
        · simp [h]
        · simp [h]
      rw [h0, cS_neg]
      have hpos : m.f1 > 0 := by have := hp.2.1; omega
      have hle := hp.2.2.2.2.1
      constructor
      · intro h
        refine ⟨?_, fun h2 => by rw [h] at h2; cases h2.2.2⟩
        cases hq : tless p.f2 p.f3 with
        | true => exact bl_trans hq h
        | false =>
          have := bl_eq (a := p.f2.toList) (b := p.f3.toList) hq hle
          unfold tless at h ⊢
          rw [this]
          exact h
      · intro h
        cases hq : tless p.f3 m.f2 with
        | true => rfl
        | false => exact absurd ⟨hpos, c, hq⟩ h.2
  · rw [if_neg c, if_neg (fun h => c h.1), decide_eq_true_eq]
    have h0 : (([cI p.f1 m.f1, cS p.f2 m.f2] : List Int).find? fun x => x != 0).getD 0 = cI p.f1 m.f1 := by
      have := cI_ne p.f1 m.f1 c
      simp [this]
    rw [h0, cI_neg]
    exact ⟨fun h => ⟨h, fun h2 => c h2.2.1⟩, fun h => h.1⟩
theorem sMe_ok (next : Int) (hn : 1 ≤ next ∧ next ≤ 1000000) (m : M_) : (sMe m ∧ ¬ m.f0 ≥ next) ↔ okM next m := by
  unfold sMe okM
  constructor
  · rintro ⟨⟨h1, h2⟩, h3⟩
    exact ⟨by omega, h2⟩
  · rintro ⟨h1, h2⟩
    exact ⟨⟨by omega, h2⟩, by omega⟩
def okFrom (l : List M_) (next : Int) (i : Nat) : Prop := ∀ j, i ≤ j → j < l.length → okAt l next j
noncomputable instance (l : List M_) (next : Int) (i : Nat) : Decidable (okFrom l next i) := Classical.propDecidable _
theorem okFrom_step {l : List M_} {next : Int} {i : Nat} (hi : i < l.length) : okFrom l next i ↔ okAt l next i ∧ okFrom l next (i + 1) := by
  constructor
  · exact fun h => ⟨h i (Nat.le_refl _) hi, fun j h1 h2 => h j (by omega) h2⟩
  · rintro ⟨h1, h2⟩ j hj hl
    by_cases e : j = i
    · rw [e]; exact h1
    · exact h2 j (by omega) hl
theorem mem_nums (l : List M_) (i : Nat) (hi : i ≤ l.length) (n : Int) : n ∈ (l.take i).map (fun m => m.f0) ↔ ∃ j, j < i ∧ (l.getD j z66).f0 = n := by
  rw [List.mem_map]
  constructor
  · rintro ⟨m, hm, rfl⟩
    obtain ⟨j, hj, rfl⟩ := List.getElem_of_mem hm
    rw [List.length_take] at hj
    refine ⟨j, by omega, ?_⟩
    rw [List.getElem_take, List.getD_eq_getElem?_getD, List.getElem?_eq_getElem (by omega)]
    rfl
  · rintro ⟨j, hj, rfl⟩
    refine ⟨l.getD j z66, ?_, rfl⟩
    rw [List.getD_eq_getElem?_getD, List.getElem?_eq_getElem (show j < l.length by omega)]
    show l[j]'(by omega) ∈ l.take i
    rw [List.mem_take_iff_getElem]
    exact ⟨j, by omega, rfl⟩
theorem sVersionOk_ev (l : List M_) (next seq log : Int) (hl : l.length < 2097152) : Ev (fun k => spec_VersionOk.f k l next seq log) (decide (vOk l next seq log)) := by
  have bad : ¬ vOk l next seq log → Ev (fun k => spec_VersionOk.j0 k true l next seq log) (decide (vOk l next seq log)) := fun h => by
    rw [decide_eq_false h]
    refine Ev.step (fun k => spec_VersionOk.j0.eq_2 ..) ?_
    exact Ev.pos rfl (Ev.now _)
  unfold spec_VersionOk.f
  by_cases c0 : (l.length : Int) > 30
  · exact Ev.pos c0 (bad fun h => by have := h.1; omega)
  refine Ev.neg c0 (Ev.bindS (in_ev _ _ _) ?_)
  by_cases c1 : 1 ≤ next ∧ next ≤ 1000000
  case neg => exact Ev.neg (by simpa using c1) (bad fun h => c1 h.2.1)
  refine Ev.pos (decide_eq_true c1) (Ev.bindS (in_ev _ _ _) ?_)
  by_cases c2 : 0 ≤ seq ∧ seq ≤ 1000000000000
  case neg => exact Ev.neg (by simpa using c2) (bad fun h => c2 h.2.2.1)
  refine Ev.pos (decide_eq_true c2) ?_
  rw [wid (x := next - 1) (by omega) (by omega)]
  refine Ev.bindS (in_ev _ _ _) ?_
  by_cases c3 : 0 ≤ log ∧ log ≤ next - 1
  case neg =>
    rw [decide_eq_false c3]
    exact bad fun h => c3 h.2.2.2.1
  rw [decide_eq_true c3]
  refine Ev.step (fun k => spec_VersionOk.j0.eq_2 ..) ?_
  refine Ev.neg (by decide) ?_
  have key : ∀ i, i ≤ l.length → (∀ j, j < i → okAt l next j) → Ev (fun k => spec_VersionOk.l0 k (i : Int) l next seq log) (decide (okFrom l next i)) := by
    refine downTo l.length ?_ ?_
    · intro _
      refine Ev.step (fun k => spec_VersionOk.l0.eq_2 ..) ?_
      exact Ev.neg (by omega) ((Ev.now _).eqr (decide_eq_true (show okFrom l next l.length from fun j h1 h2 => by omega)).symm)
    · intro i hi ih hb
      have fail : ¬ okAt l next i → Ev (fun k => spec_VersionOk.j2 k (i : Int) true l next seq log) (decide (okFrom l next i)) := fun h => by
        refine Ev.step (fun k => spec_VersionOk.j2.eq_2 ..) ?_
        exact Ev.pos rfl ((Ev.now _).eqr (decide_eq_false (p := okFrom l next i) fun h2 => h ((okFrom_step hi).1 h2).1).symm)
      have dup : okM next (l.getD i z66) → (0 < i → aheadM (l.getD (i - 1) z66) (l.getD i z66)) → Ev (fun k => spec_VersionOk.j2 k (i : Int) false l next seq log) (decide (okFrom l next i)) := fun h1 h2 => by
        refine Ev.step (fun k => spec_VersionOk.j2.eq_2 ..) ?_
        refine Ev.neg (by decide) ?_
        have k2 : ∀ j, j ≤ i → (∀ q, q < j → (l.getD q z66).f0 ≠ (l.getD i z66).f0) → Ev (fun k => spec_VersionOk.l1 k (i : Int) (j : Int) l next seq log) (decide (okFrom l next i)) := by
          refine downTo i ?_ ?_
          · intro hq
            have hok : okAt l next i := ⟨h1, fun hm => by
              obtain ⟨j, hj, he⟩ := (mem_nums l i (by omega) _).1 hm
              exact hq j hj he, h2⟩
            refine Ev.step (fun k => spec_VersionOk.l1.eq_2 ..) ?_
            rw [wsucc (show i < 4611686018427387904 by omega)]
            refine Ev.neg (by omega) ((ih (fun j hj => ?_)).eqr ?_)
            · by_cases e : j = i
              · rw [e]; exact hok
              · exact hb j (by omega)
            · exact decide_eq_decide.2 ⟨fun h => (okFrom_step hi).2 ⟨hok, h⟩, fun h => ((okFrom_step hi).1 h).2⟩
          · intro j hj ih2 hq
            refine Ev.step (fun k => spec_VersionOk.l1.eq_2 ..) ?_
            rw [rdM, rdM, wsucc (show j < 4611686018427387904 by omega)]
            refine Ev.pos (by omega) (Ev.pos (by omega) (Ev.pos (by omega) (Ev.pos (by omega) (Ev.pos (by omega) ?_))))
            by_cases e : (l.getD j z66).f0 = (l.getD i z66).f0
            · refine Ev.pos e ((Ev.now _).eqr (decide_eq_false (p := okFrom l next i) fun h => ?_).symm)
              exact ((okFrom_step hi).1 h).1.2.1 ((mem_nums l i (by omega) _).2 ⟨j, hj, e⟩)
            · refine Ev.neg e (ih2 fun q hqj => ?_)
              by_cases e2 : q = j
              · rw [e2]; exact e
              · exact hq q (by omega)
        exact k2 0 (Nat.zero_le _) (fun q hq => absurd hq (Nat.not_lt_zero _))
      refine Ev.step (fun k => spec_VersionOk.l0.eq_2 ..) ?_
      rw [rdM]
      refine Ev.pos (by omega) (Ev.pos (by omega) (Ev.bindS (sMeta_ev _) ?_))
      by_cases d1 : sMe (l.getD i z66)
      case neg => exact Ev.neg (by simpa using d1) (fail fun h => d1 ((sMe_ok next c1 _).2 h.1).1)
      refine Ev.pos (decide_eq_true d1) ?_
      by_cases d2 : (l.getD i z66).f0 ≥ next
      · exact Ev.pos d2 (fail fun h => ((sMe_ok next c1 _).2 h.1).2 d2)
      refine Ev.neg d2 ?_
      have hok := (sMe_ok next c1 _).1 ⟨d1, d2⟩
      by_cases d3 : i = 0
      · refine Ev.neg (by omega) (dup hok (fun h => absurd h (by omega)))
      · have hr : qk l (wrap64 ((i : Int) - 1)) = l.getD (i - 1) z66 := by
          rw [wid (by omega) (by omega), show (i : Int) - 1 = ((i - 1 : Nat) : Int) from by omega, rdM]
        rw [hr, wid (x := (i : Int) - 1) (by omega) (by omega)]
        refine Ev.pos (by omega) (Ev.pos (by omega) (Ev.pos (by omega) (Ev.bindS (sAhead_ev _ _) ?_)))
        have hp := (hb (i - 1) (by omega)).1
        cases d4 : sAh (l.getD (i - 1) z66) (l.getD i z66) with
        | true => exact dup hok (fun _ => (ahead_eq next _ _ hp).1 d4)
        | false =>
          refine fail fun h => ?_
          have := (ahead_eq next _ _ hp).2 (h.2.2 (by omega))
          rw [d4] at this
          cases this
  refine (key 0 (Nat.zero_le _) (fun j hj => absurd hj (Nat.not_lt_zero _))).eqr (decide_eq_decide.2 ⟨fun h => ⟨by omega, c1, c2, c3, fun i hi => h i (Nat.zero_le _) hi⟩, fun h j _ hj => h.2.2.2.2 j hj⟩)
end Go.Proofs.Ytcgejabkjljeeaa.Pure
end

section
namespace Go.Proofs.Ytcgejabkjljeeaa.Pure
open Go.RowKit Go.Proofs.YtcgejabkjljeeaaW.PrintWords Go.Proofs.YtcgejabkjljeeaaW.PrintLast Go.Proofs.YtcgejabkjljeeaaW.PrintMore
open Go.Proofs.Ytcgejabkjljeeaa.P
set_option linter.unusedVariables false
set_option linter.unusedSimpArgs false
def ovp (lv : Int) (a b : ByteArray) (m : M_) : Bool := decide (m.f1 = lv) && (!tless b m.f2 && !tless m.f3 a)
noncomputable def ovV (l : List M_) (n s g : Int) (lv : Int) (a b : ByteArray) : List Int := if vOk l n s g then (l.filter (ovp lv a b)).map fun m => m.f0 else []
theorem ovV_len (l : List M_) (n s g lv : Int) (a b : ByteArray) : (ovV l n s g lv a b).length ≤ 30 := by
  unfold ovV
  split
  · rename_i h
    rw [List.length_map]
    exact Nat.le_trans (List.length_filter_le _ _) h.1
  · simp
theorem ov_step (l : List M_) (i : Nat) (hi : i < l.length) (lv : Int) (a b : ByteArray) (out : List Int) :
    (out ++ ((l.drop i).filter (ovp lv a b)).map (fun m => m.f0)) = (if ovp lv a b (l.getD i z66) = true then out ++ [(l.getD i z66).f0] else out) ++ ((l.drop (i + 1)).filter (ovp lv a b)).map (fun m => m.f0) := by
  rw [List.drop_eq_getElem_cons hi, List.filter_cons, List.getD_eq_getElem?_getD, List.getElem?_eq_getElem hi]
  show _ = (if ovp lv a b l[i] = true then out ++ [l[i].f0] else out) ++ _
  split
  · rw [List.map_cons, List.append_assoc]
    rfl
  · rfl
theorem overlap_ev (l : List M_) (n s g lv : Int) (a b : ByteArray) (hl : l.length < 2097152) : Ev (fun k => impl_Overlapping.f k l n s g lv a b) (ovV l n s g lv a b) := by
  unfold impl_Overlapping.f ovV
  refine Ev.bindS rfl ?_
  by_cases c : vOk l n s g
  case neg =>
    rw [if_neg c]
    exact Ev.neg (by simp [c]) (Ev.now _)
  rw [if_pos c]
  refine Ev.pos (decide_eq_true c) ?_
  have h30 := c.1
  have key : ∀ i, i ≤ l.length → ∀ out : List Int, out.length ≤ i → Ev (fun k => impl_Overlapping.l0 k lv a b out l (l.length : Int) (i : Int)) (out ++ ((l.drop i).filter (ovp lv a b)).map (fun m => m.f0)) := by
    refine downTo l.length ?_ ?_
    · intro out _
      refine Ev.step (fun k => impl_Overlapping.l0.eq_2 ..) ?_
      rw [List.drop_length]
      exact Ev.neg (by omega) ((Ev.now _).eqr (by simp))
    · intro i hi ih out ho
      rw [ov_step l i hi]
      have e : ovp lv a b (l.getD i z66) = (decide ((l.getD i z66).f1 = lv) && (!tless b (l.getD i z66).f2 && !tless (l.getD i z66).f3 a)) := rfl
      refine Ev.step (fun k => impl_Overlapping.l0.eq_2 ..) ?_
      rw [rdM, wsucc (show i < 4611686018427387904 by omega)]
      generalize l.getD i z66 = m at e ⊢
      refine Ev.pos (by omega) (Ev.pos (by omega) ?_)
      refine Ev.pos (by omega) ?_
      by_cases c1 : m.f1 = lv
      · refine Ev.pos c1 ?_
        by_cases c2 : Op.bytesLess b.toList m.f2.toList = true
        · refine Ev.pos c2 ((ih out (by omega)).eqr ?_)
          have e2 : ovp lv a b m = false := by rw [e]; unfold tless; rw [c2]; simp
          rw [e2]
          rfl
        · refine Ev.neg c2 ?_
          by_cases c3 : Op.bytesLess m.f3.toList a.toList = true
          · refine Ev.pos c3 ((ih out (by omega)).eqr ?_)
            have e2 : ovp lv a b m = false := by rw [e]; unfold tless; rw [c3]; simp
            rw [e2]
            rfl
          · have e2 : ovp lv a b m = true := by rw [e]; unfold tless; rw [Bool.not_eq_true] at c2 c3; rw [c2, c3]; simp [c1]
            rw [e2]
            refine Ev.neg c3 (Ev.pos (by omega) ((ih _ (by rw [List.length_append]; simp only [List.length_cons, List.length_nil]; omega)).eqr rfl))
      · refine Ev.neg c1 ((ih out (by omega)).eqr ?_)
        have e2 : ovp lv a b m = false := by rw [e]; simp [c1]
        rw [e2]
        rfl
  exact (key 0 (Nat.zero_le _) [] (by simp)).eqr (by simp)
theorem sOverlap_ev (l : List M_) (n s g lv : Int) (a b : ByteArray) (hl : l.length < 2097152) : Ev (fun k => spec_Overlapping.f k l n s g lv a b) (ovV l n s g lv a b) := by
  unfold spec_Overlapping.f ovV
  refine Ev.bindS rfl (Ev.bind (sVersionOk_ev l n s g hl) ?_)
  by_cases c : vOk l n s g
  case neg =>
    rw [if_neg c]
    exact Ev.neg (by simp [c]) (Ev.now _)
  rw [if_pos c]
  refine Ev.pos (decide_eq_true c) ?_
  have h30 := c.1
  have key : ∀ i, i ≤ l.length → ∀ out : List Int, out.length ≤ i → Ev (fun k => spec_Overlapping.l0 k lv a b out (i : Int) l n s g) (out ++ ((l.drop i).filter (ovp lv a b)).map (fun m => m.f0)) := by
    refine downTo l.length ?_ ?_
    · intro out _
      refine Ev.step (fun k => spec_Overlapping.l0.eq_2 ..) ?_
      rw [List.drop_length]
      exact Ev.neg (by omega) ((Ev.now _).eqr (by simp))
    · intro i hi ih out ho
      rw [ov_step l i hi]
      have e : ovp lv a b (l.getD i z66) = (decide ((l.getD i z66).f1 = lv) && (!tless b (l.getD i z66).f2 && !tless (l.getD i z66).f3 a)) := rfl
      refine Ev.step (fun k => spec_Overlapping.l0.eq_2 ..) ?_
      rw [rdM, wsucc (show i < 4611686018427387904 by omega)]
      generalize l.getD i z66 = m at e ⊢
      refine Ev.pos (by omega) (Ev.pos (by omega) ?_)
      by_cases c1 : m.f1 = lv
      · refine Ev.pos c1 ?_
        by_cases c2 : Op.bytesLess b.toList m.f2.toList = true
        · refine Ev.pos c2 ((ih out (by omega)).eqr ?_)
          have e2 : ovp lv a b m = false := by rw [e]; unfold tless; rw [c2]; simp
          rw [e2]
          rfl
        · refine Ev.neg c2 ?_
          by_cases c3 : Op.bytesLess m.f3.toList a.toList = true
          · refine Ev.pos c3 ((ih out (by omega)).eqr ?_)
            have e2 : ovp lv a b m = false := by rw [e]; unfold tless; rw [c3]; simp
            rw [e2]
            rfl
          · have e2 : ovp lv a b m = true := by rw [e]; unfold tless; rw [Bool.not_eq_true] at c2 c3; rw [c2, c3]; simp [c1]
            rw [e2]
            refine Ev.neg c3 (Ev.pos (by omega) ((ih _ (by rw [List.length_append]; simp only [List.length_cons, List.length_nil]; omega)).eqr rfl))
      · refine Ev.neg c1 ((ih out (by omega)).eqr ?_)
        have e2 : ovp lv a b m = false := by rw [e]; simp [c1]
        rw [e2]
        rfl
  exact (key 0 (Nat.zero_le _) [] (by simp)).eqr (by simp)
end Go.Proofs.Ytcgejabkjljeeaa.Pure
end

section
namespace Go.Proofs.Ytcgejabkjljeeaa.Pure
open Go.RowKit Go.Proofs.YtcgejabkjljeeaaW.PrintWords Go.Proofs.YtcgejabkjljeeaaW.PrintLast Go.Proofs.YtcgejabkjljeeaaW.PrintMore
open Go.Proofs.Ytcgejabkjljeeaa.P
set_option linter.unusedVariables false
set_option linter.unusedSimpArgs false
def insM : List M_ → M_ → List M_
  | [], m => [m]
  | x :: xs, m => if sAh x m = true then x :: insM xs m else m :: x :: xs
theorem insM_app (m : M_) : ∀ (a b : List M_), (∀ x ∈ a, sAh x m = true) → insM (a ++ b) m = a ++ insM b m
  | [], _, _ => rfl
  | x :: xs, b, h => by
    show (if sAh x m = true then x :: insM (xs ++ b) m else _) = _
    rw [if_pos (h x (by simp)), insM_app m xs b (fun y hy => h y (by simp [hy]))]
    rfl
theorem insM_len (m : M_) : ∀ a : List M_, (insM a m).length = a.length + 1
  | [] => rfl
  | x :: xs => by
    show (if sAh x m = true then x :: insM xs m else m :: x :: xs).length = _
    split
    · rw [List.length_cons, insM_len m xs]; rfl
    · rfl
def isCut (cuts : List Int) (m : M_) : Bool := cuts.any fun c => c == m.f0
abbrev V_ := List M_ × Int × Int × Int × Bool
def apFin (n s g : Int) (out : List M_) : V_ := if vOk out n s g then (out, n, s, g, true) else ([], 0, 0, 0, false)
def apTail (adds : List M_) (cuts : List Int) (n s g : Int) (c : Nat) (out : List M_) : V_ := if (c : Int) = (cuts.length : Int) then apFin n s g (adds.foldl insM out) else ([], 0, 0, 0, false)
def sAp (l : List M_) (n s g : Int) (adds : List M_) (cuts : List Int) (n' s' g' : Int) : V_ :=
  if vOk l n s g ∧ n ≤ n' ∧ s ≤ s' ∧ g ≤ g' ∧ adds.length ≤ 30 then apTail adds cuts n' s' g' (l.filter (isCut cuts)).length (l.filter fun m => !isCut cuts m) else ([], 0, 0, 0, false)
theorem apFin_len (n s g : Int) (out : List M_) : (apFin n s g out).1.length ≤ 30 := by
  unfold apFin
  split
  · rename_i h; exact h.1
  · simp
theorem sAp_len (l : List M_) (n s g : Int) (adds : List M_) (cuts : List Int) (n' s' g' : Int) : (sAp l n s g adds cuts n' s' g').1.length ≤ 30 := by
  unfold sAp apTail
  split
  · split
    · exact apFin_len _ _ _ _
    · simp
  · simp
theorem ins_loop (adds : List M_) (cuts : List Int) (n s g : Int) (i : Nat) (hi : i < adds.length) (h30 : adds.length ≤ 30) (out : List M_) (ho : out.length ≤ 100000) (r : V_)
    (h : Ev (fun k => spec_Apply.l2 k ((i + 1 : Nat) : Int) adds cuts n s g (insM out (adds.getD i z66)) n s g) r) :
    ∀ d j, j + d = out.length → (∀ x ∈ out.take j, sAh x (adds.getD i z66) = true) → Ev (fun k => spec_Apply.l3 k (i : Int) (j : Int) adds cuts n s g out n s g) r := by
  have stop : ∀ j, j ≤ out.length → (∀ x ∈ out.take j, sAh x (adds.getD i z66) = true) → insM (out.drop j) (adds.getD i z66) = adds.getD i z66 :: out.drop j → (([] ++ out.take j) ++ [adds.getD i z66]) ++ out.drop j = insM out (adds.getD i z66) := by
    intro j hj ht hd
    conv => rhs; rw [← List.take_append_drop j out, insM_app _ _ _ ht, hd]
    simp
  intro d
  induction d with
  | zero =>
    intro j hj ht
    have e := stop j (by omega) ht (by rw [List.drop_eq_nil_of_le (by omega)]; rfl)
    refine Ev.step (fun k => spec_Apply.l3.eq_2 ..) ?_
    rw [wsucc (show i < 4611686018427387904 by omega), rdM adds]
    refine Ev.neg (by omega) (Ev.bindS rfl (Ev.pos (by omega) (Ev.pos (by omega) (Ev.bindS rfl (Ev.pos (by simp; omega) (Ev.bindS rfl (Ev.pos (by omega) (Ev.pos (by omega) (Ev.pos (by simp; omega) (Ev.bindS rfl (Ev.bindS rfl (Ev.pos (by simp; omega) ?_))))))))))))
    rw [Int.toNat_natCast]
    generalize adds.getD i z66 = m at e h
    rw [e]
    exact h
  | succ d ih =>
    intro j hj ht
    have hlt : j < out.length := by omega
    by_cases c : sAh (out.getD j z66) (adds.getD i z66) = true
    · have hn := ih (j + 1) (by omega) (by
        rw [List.take_succ_eq_append_getElem hlt]
        intro x hx
        rcases List.mem_append.1 hx with hx | hx
        · exact ht x hx
        · rw [List.mem_singleton] at hx
          rw [List.getD_eq_getElem?_getD, List.getElem?_eq_getElem hlt] at c
          rw [hx]
          exact c)
      refine Ev.step (fun k => spec_Apply.l3.eq_2 ..) ?_
      rw [rdM out, rdM adds, wsucc (show j < 4611686018427387904 by omega)]
      exact Ev.pos (by omega) (Ev.pos (by omega) (Ev.pos (by omega) (Ev.pos (by omega) (Ev.bindS (sAhead_ev _ _) (Ev.pos c hn)))))
    · have e := stop j (by omega) ht (by
        rw [List.drop_eq_getElem_cons hlt]
        rw [List.getD_eq_getElem?_getD (l := out), List.getElem?_eq_getElem hlt] at c
        show (if sAh out[j] _ = true then _ else _) = _
        exact if_neg c)
      refine Ev.step (fun k => spec_Apply.l3.eq_2 ..) ?_
      rw [rdM out, rdM adds, wsucc (show i < 4611686018427387904 by omega)]
      refine Ev.pos (by omega) (Ev.pos (by omega) (Ev.pos (by omega) (Ev.pos (by omega) (Ev.bindS (sAhead_ev _ _) (Ev.neg c (Ev.bindS rfl (Ev.pos (by omega) (Ev.bindS rfl (Ev.pos (by simp; omega) (Ev.bindS rfl (Ev.pos (by simp; omega) (Ev.bindS rfl (Ev.bindS rfl (Ev.pos (by simp; omega) ?_))))))))))))))
      rw [Int.toNat_natCast]
      generalize adds.getD i z66 = m at e h
      rw [e]
      exact h
theorem adds_loop (adds : List M_) (cuts : List Int) (n s g : Int) (h30 : adds.length ≤ 30) : ∀ i, i ≤ adds.length → ∀ out : List M_, out.length ≤ 5000 + i → Ev (fun k => spec_Apply.l2 k (i : Int) adds cuts n s g out n s g) (apFin n s g ((adds.drop i).foldl insM out)) := by
  refine downTo adds.length ?_ ?_
  · intro out ho
    rw [List.drop_length, List.foldl_nil]
    refine Ev.step (fun k => spec_Apply.l2.eq_2 ..) ?_
    refine Ev.neg (by omega) (Ev.bind (sVersionOk_ev out n s g (by omega)) ?_)
    unfold apFin
    by_cases c : vOk out n s g
    · exact Ev.pos (decide_eq_true c) ((Ev.now _).eqr (if_pos c).symm)
    · exact Ev.neg (by simp [c]) ((Ev.now _).eqr (if_neg c).symm)
  · intro i hi ih out ho
    have h := ih (insM out (adds.getD i z66)) (by rw [insM_len]; omega)
    rw [List.drop_eq_getElem_cons hi, List.foldl_cons]
    rw [List.getD_eq_getElem?_getD, List.getElem?_eq_getElem hi] at h
    have h2 := ins_loop adds cuts n s g i hi h30 out (by omega) (apFin n s g ((adds.drop (i + 1)).foldl insM (insM out adds[i]))) (by rw [List.getD_eq_getElem?_getD, List.getElem?_eq_getElem hi]; exact h) out.length 0 (by omega) (by simp)
    refine Ev.step (fun k => spec_Apply.l2.eq_2 ..) ?_
    exact Ev.pos (by omega) h2
theorem cut_loop (l : List M_) (n s g : Int) (adds : List M_) (cuts : List Int) (n' s' g' : Int) (i : Nat) (hi : i < l.length) (hl : l.length ≤ 2000) (hc : cuts.length ≤ 2000) (c : Nat) (hcc : c ≤ i) (out : List M_) (ho : out.length ≤ 2000) (r : V_)
    (h1 : isCut cuts (l.getD i z66) = true → Ev (fun k => spec_Apply.l0 k ((c + 1 : Nat) : Int) ((i + 1 : Nat) : Int) l n s g adds cuts n' s' g' out n' s' g') r)
    (h2 : isCut cuts (l.getD i z66) = false → Ev (fun k => spec_Apply.l0 k (c : Int) ((i + 1 : Nat) : Int) l n s g adds cuts n' s' g' (out ++ [l.getD i z66]) n' s' g') r) :
    Ev (fun k => spec_Apply.l1 k (c : Int) (i : Int) false 0 l n s g adds cuts n' s' g' out n' s' g') r := by
  have key : ∀ j, j ≤ cuts.length → ∀ b : Bool, (b || (cuts.drop j).any fun c => c == (l.getD i z66).f0) = isCut cuts (l.getD i z66) → Ev (fun k => spec_Apply.l1 k (c : Int) (i : Int) b (j : Int) l n s g adds cuts n' s' g' out n' s' g') r := by
    refine downTo cuts.length ?_ ?_
    · intro b hb
      rw [List.drop_length, List.any_nil, Bool.or_false] at hb
      refine Ev.step (fun k => spec_Apply.l1.eq_2 ..) ?_
      rw [rdM l, wsucc (show i < 4611686018427387904 by omega), wsucc (show c < 4611686018427387904 by omega)]
      refine Ev.neg (by omega) ?_
      cases b with
      | true => exact Ev.pos rfl (h1 hb.symm)
      | false => exact Ev.neg (by simp) (Ev.pos (by omega) (Ev.pos (by omega) (Ev.pos (by omega) (h2 hb.symm))))
    · intro j hj ih b hb
      rw [List.drop_eq_getElem_cons hj, List.any_cons] at hb
      refine Ev.step (fun k => spec_Apply.l1.eq_2 ..) ?_
      rw [rdM l, wsucc (show j < 4611686018427387904 by omega), getD_rd, List.getD_eq_getElem?_getD (l := cuts), List.getElem?_eq_getElem hj]
      refine Ev.pos (by omega) ?_
      cases b with
      | true => exact Ev.pos rfl (ih true (by rw [← hb]; simp))
      | false => exact Ev.neg (by simp) (Ev.pos (by omega) (Ev.pos (by omega) (Ev.pos (by omega) (ih _ (by rw [← hb, Bool.false_or]; rfl)))))
  exact key 0 (Nat.zero_le _) false (by rw [List.drop_zero, Bool.false_or]; rfl)
theorem files_loop (l : List M_) (n s g : Int) (adds : List M_) (cuts : List Int) (n' s' g' : Int) (hl : l.length ≤ 2000) (hc : cuts.length ≤ 2000) (h30 : adds.length ≤ 30) : ∀ i, i ≤ l.length → ∀ (c : Nat) (out : List M_), c ≤ i → out.length ≤ i →
    Ev (fun k => spec_Apply.l0 k (c : Int) (i : Int) l n s g adds cuts n' s' g' out n' s' g') (apTail adds cuts n' s' g' (c + ((l.drop i).filter (isCut cuts)).length) (out ++ (l.drop i).filter fun m => !isCut cuts m)) := by
  refine downTo l.length ?_ ?_
  · intro c out hcc ho
    rw [List.drop_length, List.filter_nil, List.filter_nil, List.length_nil, Nat.add_zero, List.append_nil]
    unfold apTail
    refine Ev.step (fun k => spec_Apply.l0.eq_2 ..) ?_
    refine Ev.neg (by omega) ?_
    by_cases e : (c : Int) = (cuts.length : Int)
    · refine Ev.pos e ((adds_loop adds cuts n' s' g' h30 0 (Nat.zero_le _) out (by omega)).eqr ?_)
      rw [if_pos e, List.drop_zero]
    · exact Ev.neg e ((Ev.now _).eqr (if_neg e).symm)
  · intro i hi ih c out hcc ho
    have hd : l.getD i z66 = l[i] := by rw [List.getD_eq_getElem?_getD, List.getElem?_eq_getElem hi]; rfl
    refine Ev.step (fun k => spec_Apply.l0.eq_2 ..) ?_
    refine Ev.pos (by omega) (cut_loop l n s g adds cuts n' s' g' i hi hl hc c hcc out (by omega) _ ?_ ?_)
    · intro hb
      rw [hd] at hb
      refine (ih (c + 1) out (by omega) (by omega)).eqr ?_
      rw [List.drop_eq_getElem_cons hi, List.filter_cons, List.filter_cons, if_pos hb, if_neg (by rw [hb]; simp), List.length_cons]
      congr 1
      omega
    · intro hb
      rw [hd] at hb ⊢
      refine (ih c (out ++ [l[i]]) (by omega) (by simp; omega)).eqr ?_
      rw [List.drop_eq_getElem_cons hi, List.filter_cons, List.filter_cons, if_neg (by rw [hb]; simp), if_pos (by rw [hb]; rfl), List.append_assoc]
      rfl
theorem sApply_ev (l : List M_) (n s g : Int) (adds : List M_) (cuts : List Int) (n' s' g' : Int) (hl : l.length ≤ 2000) (hc : cuts.length ≤ 2000) : Ev (fun k => spec_Apply.f k l n s g adds cuts n' s' g') (sAp l n s g adds cuts n' s' g') := by
  unfold spec_Apply.f
  have bad : ¬ (vOk l n s g ∧ n ≤ n' ∧ s ≤ s' ∧ g ≤ g' ∧ adds.length ≤ 30) → Ev (fun k => spec_Apply.j0 k true l n s g adds cuts n' s' g') (sAp l n s g adds cuts n' s' g') := by
    intro h
    refine Ev.step (fun k => spec_Apply.j0.eq_2 ..) ?_
    exact Ev.pos rfl ((Ev.now _).eqr (by unfold sAp; rw [if_neg h]))
  refine Ev.bind (sVersionOk_ev l n s g (by omega)) ?_
  by_cases c : vOk l n s g
  case neg => exact Ev.neg (by simp [c]) (bad (fun h => c h.1))
  refine Ev.pos (decide_eq_true c) ?_
  by_cases c1 : n' < n
  · exact Ev.pos c1 (bad (fun h => by omega))
  refine Ev.neg c1 ?_
  by_cases c2 : s' < s
  · exact Ev.pos c2 (bad (fun h => by omega))
  refine Ev.neg c2 ?_
  by_cases c3 : g' < g
  · exact Ev.pos c3 (bad (fun h => by omega))
  refine Ev.neg c3 ?_
  by_cases c4 : (adds.length : Int) > 30
  · rw [decide_eq_true c4]
    exact bad (fun h => by omega)
  rw [decide_eq_false c4]
  refine Ev.step (fun k => spec_Apply.j0.eq_2 ..) ?_
  refine Ev.neg (by simp) ((files_loop l n s g adds cuts n' s' g' hl hc (by omega) 0 (Nat.zero_le _) 0 [] (Nat.le_refl _) (by simp)).eqr ?_)
  unfold sAp
  rw [if_pos ⟨c, by omega, by omega, by omega, by omega⟩, List.drop_zero, Nat.zero_add, List.nil_append]
theorem dmeta_ev {l : List Int} {p : Int} (h : okc l) (hp : okp l p) : ∃ r, Ev (fun k => spec_l1Rd_meta.f k l p) r ∧ okp l r.2.2.2.2.2 := by
  unfold spec_l1Rd_meta.f
  obtain ⟨a, ha, _, ha2⟩ := duser_ev h hp
  obtain ⟨b, hb, _, hb2⟩ := duser_ev h ha2
  obtain ⟨n, hn, _, hn2⟩ := near_ev h hb2 0 12 (by omega) (by omega) (by omega)
  obtain ⟨e, he, _, he2⟩ := below_ev h hn2 4 (by omega)
  obtain ⟨c, hc, _, hc2⟩ := near_ev h he2 0 40 (by omega) (by omega) (by omega)
  obtain ⟨o, ho, ho2⟩ := once_ev h hc2 24 (by omega)
  by_cases c0 : o.1 = true
  · obtain ⟨v, hv, _, hv2⟩ := off_ev h ho2 0 3 (by omega) (by omega) (by omega)
    exact ⟨_, Ev.bindS ha (Ev.bindS hb (Ev.bind hn (Ev.bindS he (Ev.bind hc (Ev.bindS ho (Ev.pos c0 (Ev.bind hv (Ev.now _)))))))), hv2⟩
  · exact ⟨_, Ev.bindS ha (Ev.bindS hb (Ev.bind hn (Ev.bindS he (Ev.bind hc (Ev.bindS ho (Ev.neg c0 (Ev.now _))))))), ho2⟩
theorem dedit_ev {l : List Int} {p : Int} (h : okc l) (hp : okp l p) (fs : List M_) (hf : fs.length ≤ 2000) (n s g : Int) : ∃ r, Ev (fun k => spec_l1Rd_edit.f k l p fs n s g) r ∧ r.1.length ≤ 3 ∧ r.2.1.length ≤ 2 ∧ okp l r.2.2.2.2.2 := by
  have l0 : ∀ (j : Nat) (acc : List M_) (cuts : List Int) (p n s g : Int), j ≤ 3 → acc.length + j ≤ 3 → cuts.length ≤ 1 → okp l p → ∃ r, Ev (fun k => spec_l1Rd_edit.l0 k (j : Int) l p acc cuts n s g) r ∧ r.1.length ≤ 3 ∧ r.2.1.length ≤ 2 ∧ okp l r.2.2.2.2.2 := by
    intro j
    induction j with
    | zero =>
      intro acc cuts p n s g _ ha hc hp
      obtain ⟨a, ha', ha2⟩ := once_ev h hp 20 (by omega)
      by_cases c : a.1 = true
      · obtain ⟨b, hb, _, hb2⟩ := off_ev h ha2 1 9 (by omega) (by omega) (by omega)
        exact ⟨_, Ev.step (fun k => spec_l1Rd_edit.l0.eq_2 ..) (Ev.neg (by omega) (Ev.bindS ha' (Ev.pos c (Ev.bind hb (Ev.pos (by omega) (Ev.now _)))))), by show acc.length ≤ 3; omega, by show (cuts ++ [_]).length ≤ 2; simp; omega, hb2⟩
      · exact ⟨_, Ev.step (fun k => spec_l1Rd_edit.l0.eq_2 ..) (Ev.neg (by omega) (Ev.bindS ha' (Ev.neg c (Ev.now _)))), by show acc.length ≤ 3; omega, by show cuts.length ≤ 2; omega, ha2⟩
    | succ j ih =>
      intro acc cuts p n s g hj ha hc hp
      obtain ⟨m, hm, hm2⟩ := dmeta_ev h hp
      have hw : wrap64 (((j + 1 : Nat) : Int) - 1) = (j : Int) := by rw [wid (by omega) (by omega)]; omega
      by_cases c : n > 1
      · obtain ⟨o, ho, ho2⟩ := once_ev h hm2 4 (by omega)
        by_cases c2 : o.1 = true
        · obtain ⟨r, hr, hr2⟩ := ih (acc ++ [(⟨m.1, m.2.1, m.2.2.1, m.2.2.2.1, m.2.2.2.2.1⟩ : M_)]) cuts o.2 n s g (by omega) (by simp; omega) hc ho2
          refine ⟨r, Ev.step (fun k => spec_l1Rd_edit.l0.eq_2 ..) (Ev.pos (by omega) (Ev.bind hm (Ev.pos c (Ev.bindS ho (Ev.pos c2 (Ev.pos (by omega) ?_)))))), hr2⟩
          rw [hw]
          exact hr
        · obtain ⟨r, hr, hr2⟩ := ih (acc ++ [(⟨wrap64 (n - ((j + 1 : Nat) : Int)), m.2.1, m.2.2.1, m.2.2.2.1, m.2.2.2.2.1⟩ : M_)]) cuts o.2 n s g (by omega) (by simp; omega) hc ho2
          refine ⟨r, Ev.step (fun k => spec_l1Rd_edit.l0.eq_2 ..) (Ev.pos (by omega) (Ev.bind hm (Ev.pos c (Ev.bindS ho (Ev.neg c2 (Ev.pos (by omega) ?_)))))), hr2⟩
          rw [hw]
          exact hr
      · obtain ⟨r, hr, hr2⟩ := ih (acc ++ [(⟨m.1, m.2.1, m.2.2.1, m.2.2.2.1, m.2.2.2.2.1⟩ : M_)]) cuts m.2.2.2.2.2 n s g (by omega) (by simp; omega) hc hm2
        refine ⟨r, Ev.step (fun k => spec_l1Rd_edit.l0.eq_2 ..) (Ev.pos (by omega) (Ev.bind hm (Ev.neg c (Ev.pos (by omega) ?_)))), hr2⟩
        rw [hw]
        exact hr
  have j2 : ∀ (cuts : List Int) (p n s g : Int), cuts.length ≤ 1 → okp l p → ∃ r, Ev (fun k => spec_l1Rd_edit.j2 k l p cuts n s g) r ∧ r.1.length ≤ 3 ∧ r.2.1.length ≤ 2 ∧ okp l r.2.2.2.2.2 := by
    intro cuts p n s g hc hp
    obtain ⟨a, ha, ha1, ha2⟩ := below_ev h hp 3 (by omega)
    obtain ⟨m, hm⟩ : ∃ m : Nat, a.1 = m := ⟨a.1.toNat, by omega⟩
    obtain ⟨r, hr, hr2⟩ := l0 m [] cuts a.2 n s g (by omega) (by simp; omega) hc ha2
    refine ⟨r, Ev.step (fun k => spec_l1Rd_edit.j2.eq_2 ..) (Ev.bindS ha ?_), hr2⟩
    rw [hm]
    exact hr
  have j1 : ∀ (b : Bool) (p n s g n' s' g' : Int), (b = true → 0 < fs.length) → okp l p → ∃ r, Ev (fun k => spec_l1Rd_edit.j1 k b l p fs n s g n' s' g') r ∧ r.1.length ≤ 3 ∧ r.2.1.length ≤ 2 ∧ okp l r.2.2.2.2.2 := by
    intro b p n s g n' s' g' hb hp
    cases b with
    | true =>
      have hb := hb rfl
      obtain ⟨a, ha, ha1, ha2⟩ := below_ev h hp (fs.length : Int) (by omega)
      obtain ⟨r, hr, hr2⟩ := j2 ([] ++ [(qk fs a.1).f0]) a.2 n' s' g' (by simp) ha2
      exact ⟨r, Ev.step (fun k => spec_l1Rd_edit.j1.eq_2 ..) (Ev.pos rfl (Ev.bindS ha (Ev.pos ha1.1 (Ev.pos ha1.2 (Ev.pos (by simp) hr))))), hr2⟩
    | false =>
      obtain ⟨r, hr, hr2⟩ := j2 [] p n' s' g' (by simp) hp
      exact ⟨r, Ev.step (fun k => spec_l1Rd_edit.j1.eq_2 ..) (Ev.neg (by simp) hr), hr2⟩
  have j0 : ∀ (p n s g n' s' g' : Int), okp l p → ∃ r, Ev (fun k => spec_l1Rd_edit.j0 k l p fs n s g n' s' g') r ∧ r.1.length ≤ 3 ∧ r.2.1.length ≤ 2 ∧ okp l r.2.2.2.2.2 := by
    intro p n s g n' s' g' hp
    by_cases c : (fs.length : Int) > 0
    · obtain ⟨a, ha, ha2⟩ := once_ev h hp 2 (by omega)
      obtain ⟨r, hr, hr2⟩ := j1 a.1 a.2 n s g n' s' g' (fun _ => by omega) ha2
      exact ⟨r, Ev.step (fun k => spec_l1Rd_edit.j0.eq_2 ..) (Ev.pos c (Ev.bindS ha hr)), hr2⟩
    · obtain ⟨r, hr, hr2⟩ := j1 false p n s g n' s' g' (fun e => by cases e) hp
      exact ⟨r, Ev.step (fun k => spec_l1Rd_edit.j0.eq_2 ..) (Ev.neg c hr), hr2⟩
  unfold spec_l1Rd_edit.f
  obtain ⟨a, ha, _, ha2⟩ := below_ev h hp 4 (by omega)
  obtain ⟨b, hb, _, hb2⟩ := below_ev h ha2 9 (by omega)
  obtain ⟨c, hc, hc2⟩ := once_ev h hb2 3 (by omega)
  by_cases c0 : c.1 = true
  · obtain ⟨r, hr, hr2⟩ := j0 c.2 n s g (wrap64 (n + a.1)) (wrap64 (s + b.1)) (wrap64 (wrap64 (n + a.1) - 1)) hc2
    exact ⟨r, Ev.bindS ha (Ev.bindS hb (Ev.bindS hc (Ev.pos c0 hr))), hr2⟩
  · obtain ⟨r, hr, hr2⟩ := j0 c.2 n s g (wrap64 (n + a.1)) (wrap64 (s + b.1)) g hc2
    exact ⟨r, Ev.bindS ha (Ev.bindS hb (Ev.bindS hc (Ev.neg c0 hr))), hr2⟩
theorem dversion_ev {l : List Int} {p : Int} (h : okc l) (hp : okp l p) : ∃ r, Ev (fun k => spec_l1Rd_version.f k l p) r ∧ r.1.length ≤ 31 ∧ okp l r.2.2.2.2 := by
  have l0 : ∀ (j : Nat) (fs : List M_) (p n s g : Int), j ≤ 6 → fs.length ≤ 30 → okp l p → ∃ r, Ev (fun k => spec_l1Rd_version.l0 k (j : Int) l p fs n s g) r ∧ r.1.length ≤ 31 ∧ okp l r.2.2.2.2 := by
    intro j
    induction j with
    | zero =>
      intro fs p n s g _ hf hp
      obtain ⟨a, ha', ha2⟩ := once_ev h hp 16 (by omega)
      by_cases c : a.1 = true
      · obtain ⟨b, hb, hb2⟩ := dmeta_ev h ha2
        exact ⟨_, Ev.step (fun k => spec_l1Rd_version.l0.eq_2 ..) (Ev.neg (by omega) (Ev.bindS ha' (Ev.pos c (Ev.bind hb (Ev.pos (by omega) (Ev.now _)))))), by show (fs ++ [_]).length ≤ 31; simp; omega, hb2⟩
      · exact ⟨_, Ev.step (fun k => spec_l1Rd_version.l0.eq_2 ..) (Ev.neg (by omega) (Ev.bindS ha' (Ev.neg c (Ev.now _)))), by show fs.length ≤ 31; omega, ha2⟩
    | succ j ih =>
      intro fs p n s g hj hf hp
      obtain ⟨e, he, he1, he2, he3⟩ := dedit_ev h hp fs (by omega) n s g
      have hw : wrap64 (((j + 1 : Nat) : Int) - 1) = (j : Int) := by rw [wid (by omega) (by omega)]; omega
      have ha := sApply_ev fs n s g e.1 e.2.1 e.2.2.1 e.2.2.2.1 e.2.2.2.2.1 (by omega) (by omega)
      have hlen := sAp_len fs n s g e.1 e.2.1 e.2.2.1 e.2.2.2.1 e.2.2.2.2.1
      generalize sAp fs n s g e.1 e.2.1 e.2.2.1 e.2.2.2.1 e.2.2.2.2.1 = v at ha hlen
      by_cases c : v.2.2.2.2 = true
      · obtain ⟨r, hr, hr2⟩ := ih v.1 e.2.2.2.2.2 v.2.1 v.2.2.1 v.2.2.2.1 (by omega) hlen he3
        refine ⟨r, Ev.step (fun k => spec_l1Rd_version.l0.eq_2 ..) (Ev.pos (by omega) (Ev.bind he (Ev.bind ha (Ev.pos c ?_)))), hr2⟩
        rw [hw]
        exact hr
      · obtain ⟨r, hr, hr2⟩ := ih fs e.2.2.2.2.2 n s g (by omega) hf he3
        refine ⟨r, Ev.step (fun k => spec_l1Rd_version.l0.eq_2 ..) (Ev.pos (by omega) (Ev.bind he (Ev.bind ha (Ev.neg c ?_)))), hr2⟩
        rw [hw]
        exact hr
  unfold spec_l1Rd_version.f
  obtain ⟨a, ha, _, ha2⟩ := near_ev h hp 0 5 (by omega) (by omega) (by omega)
  obtain ⟨b, hb, hb1, hb2⟩ := below_ev h ha2 7 (by omega)
  obtain ⟨m, hm⟩ : ∃ m : Nat, b.1 = m := ⟨b.1.toNat, by omega⟩
  obtain ⟨r, hr, hr2⟩ := l0 m [] b.2 (wrap64 (1 + a.1)) 0 0 (by omega) (by simp) hb2
  refine ⟨r, Ev.bind ha (Ev.bindS hb ?_), hr2⟩
  rw [hm]
  exact hr
end Go.Proofs.Ytcgejabkjljeeaa.Pure
end

section
namespace Go.Proofs.Ytcgejabkjljeeaa.Pure
open Go.RowKit Go.Proofs.YtcgejabkjljeeaaW.PrintWords Go.Proofs.YtcgejabkjljeeaaW.PrintLast Go.Proofs.YtcgejabkjljeeaaW.PrintMore
open Go.Proofs.Ytcgejabkjljeeaa.P
set_option linter.unusedVariables false
set_option linter.unusedSimpArgs false
theorem byteOk {l : List Int} (h1 : l.length ≤ 1048576) (h2 : ∀ x ∈ l, (Lit.int .u8 x).wf = true) : okc l := by
  refine ⟨h1, fun x hx => ?_⟩
  have := h2 x hx
  simp [Lit.wf, IntKind.min, IntKind.max, IntKind.signed, IntKind.bits] at this
  omega
theorem okp0 (l : List Int) : okp l 0 := ⟨by omega, by omega⟩
theorem tless_trans {a b c : ByteArray} (h : tless a b = true) (h' : tless b c = true) : tless a c = true := bl_trans h h'
theorem tless_le {a b c : ByteArray} (h : tless a b = true) (h' : tless c b = false) : tless a c = true := by
  by_cases e : tless b c = true
  · exact tless_trans h e
  · have := bl_eq (a := b.toList) (b := c.toList) (by simpa [tless] using e) h'
    unfold tless at h ⊢
    rw [← this]
    exact h
theorem sAh_trans {p m q : M_} {next : Int} (hm : okM next m) (h1 : sAh p m = true) (h2 : sAh m q = true) : sAh p q = true := by
  have hmm := hm.2.2.2.2.1
  unfold sAh at h1 h2 ⊢
  by_cases c1 : p.f1 = m.f1
  · rw [if_pos c1] at h1
    by_cases c2 : m.f1 = q.f1
    · rw [if_pos c2] at h2
      rw [if_pos (c1.trans c2)]
      by_cases c3 : p.f1 = 0
      · rw [if_pos c3] at h1 ⊢
        rw [if_pos (by omega)] at h2
        simp only [decide_eq_true_eq] at h1 h2 ⊢
        omega
      · rw [if_neg c3] at h1 ⊢
        rw [if_neg (by omega)] at h2
        exact tless_trans (tless_le h1 hmm) h2
    · rw [if_neg c2] at h2
      rw [if_neg (by omega)]
      simp only [decide_eq_true_eq] at h2 ⊢
      omega
  · rw [if_neg c1] at h1
    simp only [decide_eq_true_eq] at h1
    by_cases c2 : m.f1 = q.f1
    · rw [if_neg (by omega)]
      simp only [decide_eq_true_eq]
      omega
    · rw [if_neg c2] at h2
      simp only [decide_eq_true_eq] at h2
      rw [if_neg (by omega)]
      simp only [decide_eq_true_eq]
      omega
theorem getD_at (l : List M_) (i : Nat) (h : i < l.length) : l.getD i z66 = l[i] := by
  rw [List.getD_eq_getElem?_getD, List.getElem?_eq_getElem h]
  rfl
theorem vOk_ahead {l : List M_} {n s g : Int} (h : vOk l n s g) : ∀ j, j < l.length → ∀ i, i < j → sAh (l.getD i z66) (l.getD j z66) = true := by
  have hok := h.2.2.2.2
  intro j
  induction j with
  | zero => intro _ i hi; omega
  | succ j ih =>
    intro hj i hi
    have h1 := (hok (j + 1) hj).2.2 (Nat.succ_pos _)
    rw [Nat.add_sub_cancel] at h1
    have h2 := (ahead_eq n _ _ (hok j (by omega)).1).2 h1
    by_cases e : i = j
    · rw [e]; exact h2
    · exact sAh_trans (hok j (by omega)).1 (ih (by omega) i (by omega)) h2
theorem vOk_pairs {l : List M_} {n s g : Int} (h : vOk l n s g) : l.Pairwise fun p m => sAh p m = true := by
  rw [List.pairwise_iff_getElem]
  intro i j hi hj hij
  have := vOk_ahead h j hj i hij
  rw [getD_at l i hi, getD_at l j hj] at this
  exact this
theorem one_table {l : List M_} {n s g lv : Int} (h : vOk l n s g) (h0 : ¬ lv = 0) (b : ByteArray) : (l.filter (ovp lv b b)).length ≤ 1 := by
  have hp := (vOk_pairs h).filter (ovp lv b b)
  have hall : ∀ x ∈ l.filter (ovp lv b b), ovp lv b b x = true := fun x hx => (List.mem_filter.1 hx).2
  generalize l.filter (ovp lv b b) = f at hp hall
  match f, hp, hall with
  | [], _, _ => simp
  | [x], _, _ => simp
  | x :: y :: r, hp, hall =>
    exfalso
    have hx := hall x (by simp)
    have hy := hall y (by simp)
    have hxy := List.rel_of_pairwise_cons hp (show y ∈ y :: r by simp)
    unfold ovp at hx hy
    simp only [Bool.and_eq_true, decide_eq_true_eq, Bool.not_eq_true'] at hx hy
    unfold sAh at hxy
    rw [if_pos (by omega), if_neg (by omega)] at hxy
    have := tless_le hxy hy.2.1
    rw [hx.2.2] at this
    cases this
theorem more_tables (l : List M_) (lv : Int) (a b : ByteArray) (hab : tless b a = false) : (l.filter (ovp lv b b)).length ≤ (l.filter (ovp lv a b)).length := by
  rw [← List.countP_eq_length_filter, ← List.countP_eq_length_filter]
  refine List.countP_mono_left fun m _ h => ?_
  unfold ovp at h ⊢
  simp only [Bool.and_eq_true, decide_eq_true_eq, Bool.not_eq_true'] at h ⊢
  refine ⟨h.1, h.2.1, ?_⟩
  by_cases c : tless m.f3 a = true
  · have := tless_le c hab
    rw [h.2.2] at this
    cases this
  · simpa using c
theorem drawOv_ev {l : List Int} (h : okc l) : ∃ r, Ev (fun k => spec_DrawOverlapping.f k l) r ∧ r.1.length ≤ 31 := by
  obtain ⟨v, hv, hl, hp⟩ := dversion_ev h (okp0 l)
  obtain ⟨a, ha, _, ha2⟩ := off_ev h hp 0 3 (by omega) (by omega) (by omega)
  obtain ⟨o, ho, ho2⟩ := once_ev h ha2 2 (by omega)
  unfold spec_DrawOverlapping.f
  by_cases c : o.1 = true
  · obtain ⟨u, hu, _, hu2⟩ := duser_ev h ho2
    exact ⟨_, Ev.bindS rfl (Ev.bind hv (Ev.bind ha (Ev.bindS ho (Ev.pos c (Ev.bindS hu (Ev.now _)))))), hl⟩
  · obtain ⟨t, ht, _, ht2⟩ := dtext_ev h ho2
    obtain ⟨u, hu, _, hu2⟩ := duser_ev h ht2
    exact ⟨_, Ev.bindS rfl (Ev.bind hv (Ev.bind ha (Ev.bindS ho (Ev.neg c (Ev.bindS ht (Ev.bindS hu (Ev.now _))))))), hl⟩
theorem FnOverlap : laws_FnOverlap.Pure := by
  intro l _ _ hb
  refine Ev.rounds (g := fun k => laws_FnOverlap.f k l) ?_
  unfold laws_FnOverlap.f
  refine Ev.bindS (a := decide ((l.length : Int) > 1048576)) rfl ?_
  by_cases big : (l.length : Int) > 1048576
  · exact Ev.pos (decide_eq_true big) (Ev.now _)
  have hc := byteOk (l := l) (by omega) hb
  refine Ev.neg (by simpa using big) ?_
  obtain ⟨d, hd, hd1⟩ := drawOv_ev hc
  obtain ⟨l, n, s, g, lv, a, b⟩ := d
  simp only [] at hd1
  have h1 := overlap_ev l n s g lv a b (by omega)
  have h2 := overlap_ev l n s g lv b b (by omega)
  have h3 := sOverlap_ev l n s g lv a b (by omega)
  have h4 := sOverlap_ev l n s g lv b b (by omega)
  have hl1 := ovV_len l n s g lv a b
  have hl2 := ovV_len l n s g lv b b
  have one : ¬ lv = 0 → (ovV l n s g lv b b).length ≤ 1 := by
    intro h0
    unfold ovV
    by_cases c : vOk l n s g
    · rw [if_pos c, List.length_map]
      exact one_table c h0 b
    · rw [if_neg c]
      simp
  have more : tless b a = false → (ovV l n s g lv b b).length ≤ (ovV l n s g lv a b).length := by
    intro hab
    unfold ovV
    by_cases c : vOk l n s g
    · rw [if_pos c, if_pos c, List.length_map, List.length_map]
      exact more_tables l lv a b hab
    · rw [if_neg c, if_neg c]
      exact Nat.le_refl _
  generalize ovV l n s g lv a b = v at h1 h3 hl1 more
  generalize ovV l n s g lv b b = u at h2 h4 hl2 more one
  refine Ev.bind hd (Ev.bind h1 (Ev.bind h2 (Ev.bind h3 (Ev.bind (sameInts_self v (by omega)) (Ev.pos rfl (Ev.bind h4 (Ev.bind (sameInts_self u (by omega)) (Ev.pos rfl ?_))))))))
  have fin : Ev (fun k => if (Op.bytesLess b.toList a.toList) = true then (some true) else (some (decide ((v.length : Int) ≥ (u.length : Int))))) true := by
    by_cases c : Op.bytesLess b.toList a.toList = true
    · exact Ev.pos c (Ev.now _)
    · refine Ev.neg c ((Ev.now _).eqr (decide_eq_true ?_))
      have := more (by unfold tless; simpa using c)
      omega
  by_cases c : lv = 0
  · exact Ev.pos c fin
  · exact Ev.neg c (Ev.pos (by have := one c; omega) fin)
end Go.Proofs.Ytcgejabkjljeeaa.Pure
end
