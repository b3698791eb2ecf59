/- Proved: the law FnGot of the given program returns true for every input of its Go types and leaves each argument as it was; no condition. (Part 10 of 12.) -/
import Derived.Test.YtbojfnijgmppbaaCFnGot4
import Derived.Test.YtbojfnijgmppbaaCFnGot6
import Derived.Test.YtbojfnijgmppbaaCFnGot5
import Derived.Test.YtbojfnijgmppbaaCFnGot8
import Derived.Lib.EndianBits
import Derived.Test.YtbojfnijgmppbaaCFnGot0
import Derived.Test.YtbojfnijgmppbaaCFnGot7
section
namespace Go.Proofs.Ytbojfnijgmppbaa.P
open Go.RowKit Go.Proofs.YtbojfnijgmppbaaW.PrintWords Go.Proofs.YtbojfnijgmppbaaW.PrintLast Go.Proofs.YtbojfnijgmppbaaW.PrintMore
attribute [local go_sem] str_gtr str_leq str_geq max2_int min2_int max_two min_two qw qv max_four min_four
set_option linter.unusedVariables false
set_option linter.unusedSimpArgs false
def okc (l : List Int) : Prop := l.length ≤ 1048576 ∧ ∀ x ∈ l, 0 ≤ x ∧ x ≤ 255
def okp (l : List Int) (p : Int) : Prop := 0 ≤ p ∧ p ≤ (l.length : Int)
theorem okc_rd {l : List Int} (h : okc l) (i : Int) : 0 ≤ rd l i ∧ rd l i ≤ 255 := by
  unfold rd
  rw [List.getD_eq_getElem?_getD]
  by_cases c : i.toNat < l.length
  · rw [List.getElem?_eq_getElem c]
    exact h.2 _ (List.getElem_mem c)
  · rw [List.getElem?_eq_none (by omega)]
    simp
theorem next_ev {l : List Int} {p : Int} (h : okc l) (hp : okp l p) : ∃ r, spec_l1Rd_next.f l p = some r ∧ (0 ≤ r.1 ∧ r.1 ≤ 255) ∧ okp l r.2 := by
  obtain ⟨h1, h2⟩ := hp
  have hl := h.1
  unfold spec_l1Rd_next.f
  by_cases c : p ≥ (l.length : Int)
  · exact ⟨_, if_pos c, by simp, h1, h2⟩
  · have e1 : wrap64 (p + 1) = p + 1 := wid (by omega) (by omega)
    have e2 : wrap64 (p + 1 - 1) = p := by rw [wid (by omega) (by omega)]; omega
    obtain ⟨r0, r1⟩ := okc_rd h p
    rw [if_neg c, e1, e2, if_pos h1, if_pos (by omega)]
    refine ⟨_, rfl, ?_, ?_⟩
    · show 0 ≤ wrap64 (rd l p) ∧ wrap64 (rd l p) ≤ 255
      rw [wid (by omega) (by omega)]
      exact ⟨r0, r1⟩
    · exact ⟨by show 0 ≤ p + 1; omega, by show p + 1 ≤ _; omega⟩
theorem below_ev {l : List Int} {p : Int} (h : okc l) (hp : okp l p) (n : Int) (hn : 1 ≤ n) : ∃ r, spec_l1Rd_below.f l p n = some r ∧ (0 ≤ r.1 ∧ r.1 < n) ∧ okp l r.2 := by
  unfold spec_l1Rd_below.f
  by_cases c : n ≤ 1
  · exact ⟨_, if_pos c, ⟨by simp, by show (0 : Int) < n; omega⟩, hp⟩
  · rw [if_neg c]
    obtain ⟨a, ha, ha1, ha2⟩ := next_ev h hp
    by_cases c2 : n ≤ 256
    · rw [if_pos c2, ha]
      refine ⟨(Int.tmod a.1 n, a.2), by rw [Option.bind_some, if_neg (by omega)], ?_, ha2⟩
      show 0 ≤ Int.tmod a.1 n ∧ Int.tmod a.1 n < n
      rw [Int.tmod_eq_emod_of_nonneg ha1.1]
      exact ⟨Int.emod_nonneg _ (by omega), Int.emod_lt_of_pos _ (by omega)⟩
    · obtain ⟨b, hb, hb1, hb2⟩ := next_ev h ha2
      rw [if_neg c2, ha, Option.bind_some, hb, Option.bind_some, if_neg (by omega)]
      refine ⟨_, rfl, ?_, hb2⟩
      show 0 ≤ Int.tmod (wrap64 (wrap64 (a.1 * 256) + b.1)) n ∧ Int.tmod (wrap64 (wrap64 (a.1 * 256) + b.1)) n < n
      rw [wid (x := a.1 * 256) (by omega) (by omega), wid (by omega) (by omega), Int.tmod_eq_emod_of_nonneg (by omega)]
      exact ⟨Int.emod_nonneg _ (by omega), Int.emod_lt_of_pos _ (by omega)⟩
theorem once_ev {l : List Int} {p : Int} (h : okc l) (hp : okp l p) (n : Int) (hn : 1 ≤ n) : ∃ r, spec_l1Rd_once.f l p n = some r ∧ okp l r.2 := by
  obtain ⟨a, ha, _, ha2⟩ := below_ev h hp n hn
  unfold spec_l1Rd_once.f
  rw [ha]
  exact ⟨_, rfl, ha2⟩
theorem bits_u64 (o : BinOp) (a b : Int) : 0 ≤ Go.bits o .u64 a b ∧ Go.bits o .u64 a b ≤ 18446744073709551615 := by
  unfold Go.bits
  simp only [IntKind.wrap_u64]
  omega
theorem word_ev {l : List Int} {p : Int} (h : okc l) (hp : okp l p) : ∃ r, Ev (fun k => spec_l1Rd_word.f k l p) r ∧ (0 ≤ r.1 ∧ r.1 ≤ 18446744073709551615) ∧ okp l r.2 := by
  have key : ∀ i : Nat, i ≤ 8 → ∀ (x p : Int), 0 ≤ x ∧ x ≤ 18446744073709551615 → okp l p → ∃ r, Ev (fun k => spec_l1Rd_word.l0 k x (i : Int) l p) r ∧ (0 ≤ r.1 ∧ r.1 ≤ 18446744073709551615) ∧ okp l r.2 := by
    refine downTo 8 ?_ ?_
    · intro x p hx hp
      exact ⟨(x, p), Ev.step (fun k => spec_l1Rd_word.l0.eq_2 ..) (Ev.neg (by omega) (Ev.now _)), hx, hp⟩
    · intro i hi ih x p hx hp
      obtain ⟨a, ha, _, ha2⟩ := next_ev h hp
      obtain ⟨r, hr, hr2⟩ := ih _ a.2 (bits_u64 .or (IntKind.u64.wrap (x * 256)) (IntKind.u64.wrap a.1)) ha2
      refine ⟨r, Ev.step (fun k => spec_l1Rd_word.l0.eq_2 ..) (Ev.pos (by omega) (Ev.bindS ha ?_)), hr2⟩
      rw [wsucc (by omega)]
      exact hr
  exact key 0 (by omega) 0 p (by omega) hp
theorem bytes_ev {l : List Int} {p : Int} (h : okc l) (hp : okp l p) (n : Int) (hn : 0 ≤ n) (hn2 : n ≤ 1000000) : ∃ r, Ev (fun k => spec_l1Rd_bytes.f k l p n) r ∧ (r.1.size : Int) ≤ n ∧ okp l r.2 := by
  have key : ∀ (i : Nat) (acc : List Int) (p : Int), (acc.length : Int) + i ≤ 1000000 → okp l p → ∃ r, Ev (fun k => spec_l1Rd_bytes.l0 k acc (i : Int) l p) r ∧ r.1.size = acc.length + i ∧ okp l r.2 := by
    intro i
    induction i with
    | zero =>
      intro acc p ha hp
      refine ⟨(strOfNums acc, p), Ev.step (fun k => spec_l1Rd_bytes.l0.eq_2 ..) (Ev.neg (by omega) (Ev.now _)), ?_, hp⟩
      show (strOfNums acc).size = acc.length + 0
      unfold strOfNums
      simp [ByteArray.size]
    | succ i ih =>
      intro acc p ha hp
      obtain ⟨a, ha', _, ha2⟩ := below_ev h hp 256 (by omega)
      obtain ⟨r, hr, hr1, hr2⟩ := ih (acc ++ [a.1 % 256]) a.2 (by simp only [List.length_append, List.length_cons, List.length_nil]; omega) ha2
      refine ⟨r, Ev.step (fun k => spec_l1Rd_bytes.l0.eq_2 ..) (Ev.pos (by omega) (Ev.bindS ha' (Ev.pos (by omega) ?_))), ?_, hr2⟩
      · rw [wid (by omega) (by omega), show (((i + 1 : Nat) : Int) - 1) = (i : Int) from by omega]
        exact hr
      · rw [hr1, List.length_append]
        simp only [List.length_cons, List.length_nil]
        omega
  obtain ⟨a, ha, ha1, ha2⟩ := below_ev h hp (n + 1) (by omega)
  obtain ⟨r, hr, hr1, hr2⟩ := key a.1.toNat [] a.2 (by simp; omega) ha2
  refine ⟨r, ?_, ?_, hr2⟩
  · unfold spec_l1Rd_bytes.f
    rw [wid (by omega) (by omega)]
    refine Ev.bindS ha ?_
    rw [show ((a.1.toNat : Nat) : Int) = a.1 from by omega] at hr
    exact hr
  · rw [hr1]
    simp only [List.length_nil]
    omega
theorem duser_ev {l : List Int} {p : Int} (h : okc l) (hp : okp l p) : ∃ r, spec_l1Rd_user.f l p = some r ∧ (isU r.1) ∧ okp l r.2 := by
  obtain ⟨a, ha, ha1, ha2⟩ := below_ev h hp 10 (by omega)
  unfold spec_l1Rd_user.f
  rw [Option.bind_some, ha, Option.bind_some, if_pos ha1.1, if_pos (by simp only [List.length_cons, List.length_nil]; omega)]
  refine ⟨_, rfl, ?_, ha2⟩
  obtain ⟨m, hm⟩ : ∃ m : Nat, a.1 = m := ⟨a.1.toNat, by omega⟩
  have hlt : m < 10 := by omega
  simp only [hm]
  clear hm ha1 ha ha2
  revert m
  unfold rdOf
  simp only [Int.toNat_natCast]
  decide +kernel
theorem dvalue_ev {l : List Int} {p : Int} (h : okc l) (hp : okp l p) : ∃ r, spec_l1Rd_value.f l p = some r ∧ (r.1.size ≤ 5) ∧ okp l r.2 := by
  obtain ⟨a, ha, ha1, ha2⟩ := below_ev h hp 5 (by omega)
  unfold spec_l1Rd_value.f
  rw [Option.bind_some, ha, Option.bind_some, if_pos ha1.1, if_pos (by simp only [List.length_cons, List.length_nil]; omega)]
  refine ⟨_, rfl, ?_, ha2⟩
  obtain ⟨m, hm⟩ : ∃ m : Nat, a.1 = m := ⟨a.1.toNat, by omega⟩
  have hlt : m < 5 := by omega
  simp only [hm]
  clear hm ha1 ha ha2
  revert m
  unfold rdOf
  simp only [Int.toNat_natCast]
  decide +kernel
theorem near_ev {l : List Int} {p : Int} (h : okc l) (hp : okp l p) (a b : Int) (hab : a ≤ b) (ha : -1000000000000000 ≤ a) (hb : b ≤ 1000000000000000) : ∃ r, Ev (fun k => spec_l1Rd_near.f k l p a b) r ∧ (a ≤ r.1 ∧ r.1 ≤ b) ∧ okp l r.2 := by
  unfold spec_l1Rd_near.f
  obtain ⟨x, hx, hx1, hx2⟩ := below_ev h hp 8 (by omega)
  by_cases c0 : x.1 = 0
  · exact ⟨_, Ev.bindS hx (Ev.pos c0 (Ev.now _)), ⟨Int.le_refl _, hab⟩, hx2⟩
  · by_cases c1 : x.1 = 1
    · exact ⟨_, Ev.bindS hx (Ev.neg c0 (Ev.pos c1 (Ev.now _))), ⟨hab, Int.le_refl _⟩, hx2⟩
    · obtain ⟨y, hy, hy1, hy2⟩ := word_ev h hx2
      have e : IntKind.u64.wrap (wrap64 (wrap64 (b - a) + 1)) = b - a + 1 := by
        rw [wid (x := b - a) (by omega) (by omega), wid (by omega) (by omega), uid (by omega) (by omega)]
      have m0 : 0 ≤ Int.tmod (y.1 / 2) (b - a + 1) ∧ Int.tmod (y.1 / 2) (b - a + 1) < b - a + 1 := by
        rw [Int.tmod_eq_emod_of_nonneg (by omega)]
        exact ⟨Int.emod_nonneg _ (by omega), Int.emod_lt_of_pos _ (by omega)⟩
      refine ⟨(a + Int.tmod (y.1 / 2) (b - a + 1), y.2), Ev.bindS hx (Ev.neg c0 (Ev.neg c1 (Ev.neg (by omega) (Ev.bind hy ?_)))), ⟨by show a ≤ a + _; omega, by show a + _ ≤ b; omega⟩, hy2⟩
      rw [e, wid (x := Int.tmod (y.1 / 2) (b - a + 1)) (by omega) (by omega), wid (by omega) (by omega)]
      exact Ev.neg (by omega) (Ev.now _)
theorem off_ev {l : List Int} {p : Int} (h : okc l) (hp : okp l p) (a b : Int) (hab : a ≤ b) (ha : -1000000000000000 ≤ a) (hb : b ≤ 1000000000000000) : ∃ r, Ev (fun k => spec_l1Rd_off.f k l p a b) r ∧ (-9223372036854775808 ≤ r.1 ∧ r.1 ≤ 9223372036854775807) ∧ okp l r.2 := by
  unfold spec_l1Rd_off.f
  obtain ⟨x, hx, hx2⟩ := once_ev h hp 24 (by omega)
  by_cases c0 : x.1 = true
  · obtain ⟨y, hy, hy1, hy2⟩ := below_ev h hx2 4 (by omega)
    refine ⟨_, Ev.bindS hx (Ev.pos c0 (Ev.bindS rfl (Ev.bindS hy (Ev.pos hy1.1 (Ev.pos (by simp only [List.length_cons, List.length_nil]; omega) (Ev.now _)))))), ?_, hy2⟩
    rw [wid (x := a - 1) (by omega) (by omega), wid (x := b + 1) (by omega) (by omega)]
    obtain ⟨m, hm⟩ : ∃ m : Nat, y.1 = m := ⟨y.1.toNat, by omega⟩
    have hlt : m < 4 := by omega
    simp only [hm]
    unfold rd
    rw [Int.toNat_natCast]
    match m, hlt with
    | 0, _ => show -9223372036854775808 ≤ a - 1 ∧ a - 1 ≤ 9223372036854775807; omega
    | 1, _ => show -9223372036854775808 ≤ b + 1 ∧ b + 1 ≤ 9223372036854775807; omega
    | 2, _ => show (-9223372036854775808 : Int) ≤ -9223372036854775808 ∧ (-9223372036854775808 : Int) ≤ 9223372036854775807; omega
    | 3, _ => show (-9223372036854775808 : Int) ≤ 9223372036854775807 ∧ (9223372036854775807 : Int) ≤ 9223372036854775807; omega
  · obtain ⟨y, hy, hy1, hy2⟩ := near_ev h hx2 a b hab ha hb
    exact ⟨_, Ev.bindS hx (Ev.neg c0 (Ev.bind hy (Ev.now _))), ⟨by omega, by omega⟩, hy2⟩
end Go.Proofs.Ytbojfnijgmppbaa.P
end

section
namespace Go.Proofs.Ytbojfnijgmppbaa.P
open Go.RowKit Go.Proofs.YtbojfnijgmppbaaW.PrintWords Go.Proofs.YtbojfnijgmppbaaW.PrintLast Go.Proofs.YtbojfnijgmppbaaW.PrintMore
attribute [local go_sem] str_gtr str_leq str_geq max2_int min2_int max_two min_two qw qv max_four min_four
set_option linter.unusedVariables false
set_option linter.unusedSimpArgs false
def isK (u : ByteArray) (seq kind : Int) : Prop := isU u ∧ (0 ≤ seq ∧ seq ≤ 1000000000000) ∧ 0 ≤ kind ∧ kind ≤ 1
instance (u : ByteArray) (seq kind : Int) : Decidable (isK u seq kind) := by unfold isK; infer_instance
def isE (u : ByteArray) (seq kind : Int) (v : ByteArray) : Prop := isK u seq kind ∧ v.size ≤ 200 ∧ (kind = 1 ∨ v.toList = [])
instance (u : ByteArray) (seq kind : Int) (v : ByteArray) : Decidable (isE u seq kind v) := by unfold isE; infer_instance
theorem beq_dec (a b : List UInt8) : (a == b) = decide (a = b) := by
  by_cases h : a = b <;> simp [h]
theorem keyOk_ev (u : ByteArray) (q d : Int) : impl_KeyOk.f u q d = some (decide (isK u q d)) := by
  unfold impl_KeyOk.f isK
  rw [isUser_ev, within_ev, within_ev]
  by_cases h : isU u
  · by_cases h2 : 0 ≤ q ∧ q ≤ 1000000000000
    · simp [h, h2]
    · simp [h, h2]
  · simp [h]
theorem sKeyOk_ev (u : ByteArray) (q d : Int) : spec_KeyOk.f u q d = some (decide (isK u q d)) := by
  unfold spec_KeyOk.f isK
  rw [l2User_ev, in_ev, in_ev]
  by_cases h : isU u
  · by_cases h2 : 0 ≤ q ∧ q ≤ 1000000000000
    · simp [h, h2]
    · simp [h, h2]
  · simp [h]
theorem entryOk_ev (u : ByteArray) (q d : Int) (v : ByteArray) : impl_EntryOk.f u q d v = some (decide (isE u q d v)) := by
  unfold impl_EntryOk.f isE
  rw [keyOk_ev]
  by_cases h : isK u q d
  · by_cases h2 : v.size ≤ 200
    · have h2' : (v.size : Int) ≤ 200 := by omega
      by_cases h3 : d = 1
      · subst h3
        simp [h, h2, h2']
      · simp only [h, h2, h2', h3, decide_true, Option.bind_some, if_true, if_false, true_and, false_or]
        congr 1
        exact beq_dec _ _
    · have h2' : ¬ (v.size : Int) ≤ 200 := by omega
      simp [h, h2, h2']
  · simp [h]
theorem sEntryOk_ev (u : ByteArray) (q d : Int) (v : ByteArray) : spec_EntryOk.f u q d v = some (decide (isE u q d v)) := by
  unfold spec_EntryOk.f isE
  rw [sKeyOk_ev]
  by_cases h : isK u q d
  · by_cases h2 : v.size ≤ 200
    · have h2' : (v.size : Int) ≤ 200 := by omega
      by_cases h3 : d = 1
      · subst h3
        simp [h, h2, h2']
      · simp only [h, h2, h2', h3, decide_true, Option.bind_some, if_true, if_false, true_and, false_or]
        congr 1
        exact beq_dec _ _
    · have h2' : ¬ (v.size : Int) ≤ 200 := by omega
      simp [h, h2, h2']
  · simp [h]
end Go.Proofs.Ytbojfnijgmppbaa.P
end

section
namespace Go.Proofs.Ytbojfnijgmppbaa.P
open Go.RowKit Go.Proofs.YtbojfnijgmppbaaW.PrintWords Go.Proofs.YtbojfnijgmppbaaW.PrintLast Go.Proofs.YtbojfnijgmppbaaW.PrintMore
attribute [local go_sem] str_gtr str_leq str_geq max2_int min2_int max_two min_two qw qv max_four min_four
set_option linter.unusedVariables false
set_option linter.unusedSimpArgs false
theorem bl_irrefl : ∀ a : List UInt8, Op.bytesLess a a = false
  | [] => by simp [Op.bytesLess]
  | a :: x => by
    have ih := bl_irrefl x
    have h1 : ¬ a < a := fun h => by have := UInt8.lt_iff_toNat_lt.1 h; omega
    simp [Op.bytesLess, ih, h1]
theorem bl_not {a b : List UInt8} (h : Op.bytesLess a b = true) : Op.bytesLess b a = false := by
  rw [← bytesLess_swap, h]
  rfl
theorem bl_eq {a b : List UInt8} (h : Op.bytesLess a b = false) (h' : Op.bytesLess b a = false) : a = b := by
  rw [← bytesLess_swap, h] at h'
  simpa using h'
theorem bl_cons (a b : UInt8) (x y : List UInt8) : Op.bytesLess (a :: x) (b :: y) = true ↔ a < b ∨ a = b ∧ Op.bytesLess x y = true := by
  rcases Nat.lt_trichotomy a.toNat b.toNat with h | h | h
  · have h1 : a < b := UInt8.lt_iff_toNat_lt.2 h
    simp [Op.bytesLess, h1]
  · have h1 : a = b := UInt8.toNat_inj.1 h
    subst h1
    have h2 : ¬ a < a := fun h => by have := UInt8.lt_iff_toNat_lt.1 h; omega
    simp [Op.bytesLess, h2]
  · have h1 : ¬ a < b := fun h' => by have := UInt8.lt_iff_toNat_lt.1 h'; omega
    have h2 : ¬ a = b := fun h' => by rw [h'] at h; omega
    simp [Op.bytesLess, h1, h2]
theorem bl_trans : ∀ {a b c : List UInt8}, Op.bytesLess a b = true → Op.bytesLess b c = true → Op.bytesLess a c = true
  | _, [], _, h, _ => by cases ‹List UInt8› <;> simp [Op.bytesLess] at h
  | [], b :: y, [], _, h => by simp [Op.bytesLess] at h
  | [], b :: y, c :: z, _, _ => by simp [Op.bytesLess]
  | a :: x, b :: y, [], _, h => by simp [Op.bytesLess] at h
  | a :: x, b :: y, c :: z, h, h' => by
    rw [bl_cons] at h h' ⊢
    rcases h with h | ⟨rfl, h⟩
    · rcases h' with h' | ⟨rfl, h'⟩
      · exact .inl (UInt8.lt_iff_toNat_lt.2 (by have := UInt8.lt_iff_toNat_lt.1 h; have := UInt8.lt_iff_toNat_lt.1 h'; omega))
      · exact .inl h
    · rcases h' with h' | ⟨rfl, h'⟩
      · exact .inl h'
      · exact .inr ⟨rfl, bl_trans h h'⟩
def tless (a b : ByteArray) : Bool := Op.bytesLess a.toList b.toList
theorem compareS_ev (a b : ByteArray) : cmp_Compare_string.f a b = some (if tless a b = true then -1 else if tless b a = true then 1 else 0) := by
  unfold cmp_Compare_string.f cmp_isNaN_string.f tless
  simp only [bne_self_eq_false, Option.bind_some, Bool.false_eq_true, if_false]
  split
  · rfl
  · split <;> rfl
theorem compareI_ev (a b : Int) : cmp_Compare_int64.f a b = some (if a < b then -1 else if b < a then 1 else 0) := by
  unfold cmp_Compare_int64.f cmp_isNaN_int64.f
  simp only [bne_self_eq_false, Option.bind_some, Bool.false_eq_true, if_false]
  split
  · rfl
  · by_cases h : b < a
    · rw [if_pos h, if_pos h]
    · rw [if_neg h, if_neg h]
theorem orInt_ev : ∀ (n : Nat) (l : List Int), l.length = n → n < 1000 → Ev (fun k => cmp_Or_int.f k l) ((l.find? fun x => x != 0).getD 0) := by
  intro n l hn hb
  have key : ∀ i, i ≤ l.length → Ev (fun k => cmp_Or_int.l0 k 0 l (l.length : Int) (i : Int)) (((l.drop i).find? fun x => x != 0).getD 0) := by
    refine downTo l.length ?_ ?_
    · refine Ev.step (fun k => cmp_Or_int.l0.eq_2 ..) (Ev.neg (by omega) ?_)
      rw [List.drop_length]
      exact Ev.now _
    · intro i hi ih
      have hr : rd l (i : Int) = l[i] := by
        unfold rd
        rw [Int.toNat_natCast, List.getD_eq_getElem?_getD, List.getElem?_eq_getElem hi]
        rfl
      rw [List.drop_eq_getElem_cons hi]
      refine Ev.step (fun k => cmp_Or_int.l0.eq_2 ..) (Ev.pos (by omega) (Ev.pos (by omega) (Ev.pos (by omega) ?_)))
      rw [hr, wsucc (by omega)]
      by_cases c : l[i] = 0
      · refine Ev.pos c ?_
        rw [List.find?_cons_of_neg (by simp [c])]
        exact ih
      · refine Ev.neg c ?_
        rw [List.find?_cons_of_pos (by simp [c])]
        exact Ev.now _
  exact key 0 (Nat.zero_le _)
def kcmp (u : ByteArray) (q d : Int) (u' : ByteArray) (q' d' : Int) : Int :=
  if tless u u' = true then -1 else if tless u' u = true then 1 else if q' < q then -1 else if q < q' then 1 else if d' < d then -1 else if d < d' then 1 else 0
theorem cmpKeys_ev (u : ByteArray) (q d : Int) (u' : ByteArray) (q' d' : Int) : Ev (fun k => impl_cmpKeys.f k u q d u' q' d') (kcmp u q d u' q' d') := by
  have h1 := compareS_ev u u'
  have h2 := compareI_ev q' q
  have h3 := compareI_ev d' d
  unfold impl_cmpKeys.f
  refine Ev.bindS h1 (Ev.bindS h2 (Ev.bindS h3 (Ev.bind (orInt_ev 3 _ rfl (by omega)) ((Ev.now _).eqr ?_))))
  unfold kcmp
  by_cases c1 : tless u u' = true
  · simp [c1]
  · by_cases c2 : tless u' u = true
    · simp [c1, c2]
    · by_cases c3 : q' < q
      · simp [c1, c2, c3]
      · by_cases c4 : q < q'
        · simp [c1, c2, c3, c4]
        · by_cases c5 : d' < d
          · simp [c1, c2, c3, c4, c5]
          · by_cases c6 : d < d'
            · simp [c1, c2, c3, c4, c5, c6]
            · simp [c1, c2, c3, c4, c5, c6]
theorem sKeyCmp_ev (u : ByteArray) (q d : Int) (u' : ByteArray) (q' d' : Int) : Ev (fun k => spec_KeyCmp.f k u q d u' q' d') (if isK u q d ∧ isK u' q' d' then kcmp u q d u' q' d' else 0) := by
  have h1 := sKeyOk_ev u q d
  have h2 := sKeyOk_ev u' q' d'
  have jt : Ev (fun k => spec_KeyCmp.j0 k true u q d u' q' d') 0 := Ev.step (fun k => spec_KeyCmp.j0.eq_2 ..) (Ev.pos rfl (Ev.now _))
  unfold spec_KeyCmp.f
  refine Ev.bindS h1 ?_
  by_cases c1 : isK u q d
  · refine Ev.pos (decide_eq_true c1) (Ev.bindS h2 ?_)
    by_cases c2 : isK u' q' d'
    · rw [decide_eq_true c2]
      refine Ev.eqr ?_ (if_pos ⟨c1, c2⟩).symm
      refine Ev.step (fun k => spec_KeyCmp.j0.eq_2 ..) (Ev.neg (by decide) ?_)
      have e : ∀ a b : ByteArray, Op.bytesLess a.toList b.toList = tless a b := fun _ _ => rfl
      rw [e]
      unfold kcmp
      by_cases k1 : tless u u' = true
      · have hne : u.toList ≠ u'.toList := fun h => by rw [← e, h, bl_irrefl] at k1; cases k1
        exact Ev.neg (by simp [hne]) (Ev.pos k1 ((Ev.now _).eqr (if_pos k1).symm))
      · by_cases k2 : tless u' u = true
        · have hne : u.toList ≠ u'.toList := fun h => by rw [← e, h, bl_irrefl] at k2; cases k2
          exact Ev.neg (by simp [hne]) (Ev.neg k1 (Ev.neg hne ((Ev.now _).eqr (by rw [if_neg k1, if_pos k2]))))
        · have heq : u.toList = u'.toList := bl_eq (by simpa [tless] using k1) (by simpa [tless] using k2)
          refine Ev.eqr ?_ (show (if q' < q then (-1 : Int) else if q < q' then 1 else if d' < d then -1 else if d < d' then 1 else 0) = _ from by rw [if_neg k1, if_neg k2])
          by_cases ce : q = q' ∧ d = d'
          · refine Ev.pos (by simp [heq, ce.1, ce.2]) ((Ev.now _).eqr ?_)
            rw [if_neg (by omega), if_neg (by omega), if_neg (by omega), if_neg (by omega)]
          · refine Ev.neg (by simp [heq]; omega) (Ev.neg k1 (Ev.pos heq ?_))
            by_cases k3 : q > q'
            · exact Ev.pos k3 ((Ev.now _).eqr (by rw [if_pos (by omega)]))
            · refine Ev.neg k3 ?_
              by_cases k4 : q = q'
              · refine Ev.pos k4 ?_
                by_cases k5 : d > d'
                · exact Ev.pos k5 ((Ev.now _).eqr (by rw [if_neg (by omega), if_neg (by omega), if_pos (by omega)]))
                · exact Ev.neg k5 ((Ev.now _).eqr (by rw [if_neg (by omega), if_neg (by omega), if_neg (by omega), if_pos (by omega)]))
              · exact Ev.neg k4 ((Ev.now _).eqr (by rw [if_neg (by omega), if_pos (by omega)]))
    · rw [decide_eq_false c2]
      exact jt.eqr (if_neg fun h => c2 h.2).symm
  · exact Ev.neg (by simpa using c1) (jt.eqr (if_neg fun h => c1 h.1).symm)
theorem kcmp_lt (u : ByteArray) (q d : Int) (u' : ByteArray) (q' d' : Int) : kcmp u q d u' q' d' < 0 ↔ tless u u' = true ∨ u = u' ∧ (q' < q ∨ q = q' ∧ d' < d) := by
  unfold kcmp
  by_cases k1 : tless u u' = true
  · simp [k1]
  · by_cases k2 : tless u' u = true
    · have hne : u ≠ u' := fun h => by rw [h] at k2; rw [tless, bl_irrefl] at k2; cases k2
      simp [k1, k2, hne]
    · have heq : u = u' := by
        have := bl_eq (a := u.toList) (b := u'.toList) (by simpa [tless] using k1) (by simpa [tless] using k2)
        rw [ByteArray.toList_eq, ByteArray.toList_eq] at this
        exact ByteArray.ext (Array.toList_inj.1 this)
      rw [if_neg k1, if_neg k2]
      subst heq
      simp only [k1, true_and, false_or]
      by_cases h1 : q' < q
      · simp [h1]
      · by_cases h2 : q < q'
        · rw [if_neg h1, if_pos h2]; constructor
          · intro h; omega
          · intro h; simp at h; omega
        · by_cases h3 : d' < d
          · rw [if_neg h1, if_neg h2, if_pos h3]; simp; omega
          · rw [if_neg h1, if_neg h2, if_neg h3]
            constructor
            · intro h; split at h <;> omega
            · intro h; simp at h; omega
theorem kcmp_zero (u : ByteArray) (q d : Int) (u' : ByteArray) (q' d' : Int) : kcmp u q d u' q' d' = 0 ↔ u = u' ∧ q = q' ∧ d = d' := by
  unfold kcmp
  by_cases k1 : tless u u' = true
  · have hne : u ≠ u' := fun h => by rw [h] at k1; rw [tless, bl_irrefl] at k1; cases k1
    simp [k1, hne]
  · by_cases k2 : tless u' u = true
    · have hne : u ≠ u' := fun h => by rw [h] at k2; rw [tless, bl_irrefl] at k2; cases k2
      simp [k1, k2, hne]
    · have heq : u = u' := by
        have := bl_eq (a := u.toList) (b := u'.toList) (by simpa [tless] using k1) (by simpa [tless] using k2)
        rw [ByteArray.toList_eq, ByteArray.toList_eq] at this
        exact ByteArray.ext (Array.toList_inj.1 this)
      rw [if_neg k1, if_neg k2]
      subst heq
      simp only [true_and]
      split
      · constructor <;> intro h <;> omega
      split
      · constructor <;> intro h <;> omega
      split
      · constructor <;> intro h <;> omega
      split
      · constructor <;> intro h <;> omega
      · constructor <;> intro h <;> omega
def isEx (x : S48) : Prop := isE x.f0.f0 x.f0.f1 x.f0.f2 x.f1
instance (x : S48) : Decidable (isEx x) := by unfold isEx; infer_instance
def ecmp (x y : S48) : Int := kcmp x.f0.f0 x.f0.f1 x.f0.f2 y.f0.f0 y.f0.f1 y.f0.f2
theorem rdE (l : List S48) (i : Nat) (h : i < l.length) : qg l (i : Int) = l[i] := by
  unfold qg
  rw [Int.toNat_natCast, List.getD_eq_getElem?_getD, List.getElem?_eq_getElem h]
  rfl
def rowFrom (l : List S48) (i : Nat) : Prop := ∀ j, i ≤ j → ∀ h : j < l.length, isEx l[j] ∧ (0 < j → ecmp (l[j - 1]'(by omega)) l[j] < 0)
noncomputable instance (l : List S48) (i : Nat) : Decidable (rowFrom l i) := Classical.propDecidable _
def isRow (l : List S48) : Prop := l.length ≤ 400 ∧ rowFrom l 0
noncomputable instance (l : List S48) : Decidable (isRow l) := Classical.propDecidable _
theorem rowFrom_step (l : List S48) (i : Nat) (h : i < l.length) : rowFrom l i ↔ (isEx l[i] ∧ (0 < i → ecmp (l[i - 1]'(by omega)) l[i] < 0)) ∧ rowFrom l (i + 1) := by
  constructor
  · exact fun hr => ⟨hr i (Nat.le_refl _) h, fun j hj hl => hr j (by omega) hl⟩
  · rintro ⟨h1, h2⟩ j hj hl
    by_cases e : j = i
    · subst e; exact h1
    · exact h2 j (by omega) hl
theorem entriesOk_ev (l : List S48) (hl : l.length < 2097152) : Ev (fun k => impl_EntriesOk.f k l) (decide (isRow l)) := by
  unfold impl_EntriesOk.f
  by_cases c : (l.length : Int) > 400
  · exact Ev.pos c ((Ev.now _).eqr (decide_eq_false fun h => by have := h.1; omega).symm)
  · have key : ∀ i, i ≤ l.length → (∀ h : 0 < i, isEx (l.getD (i - 1) z48)) → Ev (fun k => impl_EntriesOk.l0 k l l (l.length : Int) (i : Int)) (decide (rowFrom l i)) := by
      refine downTo l.length ?_ ?_
      · intro _
        exact Ev.step (fun k => impl_EntriesOk.l0.eq_2 ..) (Ev.neg (by omega) ((Ev.now _).eqr (decide_eq_true (show rowFrom l l.length from fun j h1 h2 => by omega)).symm))
      · intro i hi ih hp
        have hg : l.getD (i + 1 - 1) z48 = l[i] := by rw [Nat.add_sub_cancel, List.getD_eq_getElem?_getD, List.getElem?_eq_getElem hi]; rfl
        refine Ev.step (fun k => impl_EntriesOk.l0.eq_2 ..) (Ev.pos (by omega) (Ev.pos (by omega) ?_))
        refine Ev.pos (by omega) ?_
        rw [rdE l i hi]
        refine Ev.bindS (entryOk_ev l[i].f0.f0 l[i].f0.f1 l[i].f0.f2 l[i].f1) ?_
        by_cases ce : isE l[i].f0.f0 l[i].f0.f1 l[i].f0.f2 l[i].f1
        · refine Ev.pos (decide_eq_true ce) ?_
          have ih := ih (fun _ => by rw [hg]; exact ce)
          by_cases c0 : (i : Int) > 0
          · have hw : wrap64 ((i : Int) - 1) = ((i - 1 : Nat) : Int) := by rw [wid (by omega) (by omega)]; omega
            rw [hw, rdE l (i - 1) (by omega)]
            have hq := hp (by omega)
            rw [show l.getD (i - 1) z48 = l[i - 1]'(by omega) from by rw [List.getD_eq_getElem?_getD, List.getElem?_eq_getElem (by omega)]; rfl] at hq
            refine Ev.pos c0 (Ev.pos (by omega) (Ev.pos (by omega) (Ev.bind (cmpKeys_ev _ _ _ _ _ _) ?_)))
            skip
            by_cases cc : ecmp (l[i - 1]'(by omega)) l[i] ≥ 0
            · exact Ev.pos cc ((Ev.now _).eqr (decide_eq_false fun h => by have := ((rowFrom_step l i hi).1 h).1.2 (by omega); omega).symm)
            · refine Ev.neg cc ?_
              rw [wsucc (by omega)]
              exact ih.eqr (decide_eq_decide.2 ⟨fun h => (rowFrom_step l i hi).2 ⟨⟨ce, fun _ => by omega⟩, h⟩, fun h => ((rowFrom_step l i hi).1 h).2⟩)
          · refine Ev.neg c0 ?_
            rw [wsucc (by omega)]
            exact ih.eqr (decide_eq_decide.2 ⟨fun h => (rowFrom_step l i hi).2 ⟨⟨ce, fun _ => by omega⟩, h⟩, fun h => ((rowFrom_step l i hi).1 h).2⟩)
        · exact Ev.neg (by simpa using ce) ((Ev.now _).eqr (decide_eq_false fun h => ce ((rowFrom_step l i hi).1 h).1.1).symm)
    exact Ev.neg c ((key 0 (Nat.zero_le _) (fun h => absurd h (by omega))).eqr (decide_eq_decide.2 ⟨fun h => ⟨by omega, h⟩, fun h => h.2⟩))
theorem sEntriesOk_ev (l : List S48) (hl : l.length < 2097152) : Ev (fun k => spec_EntriesOk.f k l) (decide (isRow l)) := by
  unfold spec_EntriesOk.f
  by_cases c : (l.length : Int) > 400
  · exact Ev.pos c ((Ev.now _).eqr (decide_eq_false fun h => by have := h.1; omega).symm)
  · have key : ∀ i, i ≤ l.length → (∀ h : 0 < i, isEx (l.getD (i - 1) z48)) → Ev (fun k => spec_EntriesOk.l0 k l (i : Int)) (decide (rowFrom l i)) := by
      refine downTo l.length ?_ ?_
      · intro _
        exact Ev.step (fun k => spec_EntriesOk.l0.eq_2 ..) (Ev.neg (by omega) ((Ev.now _).eqr (decide_eq_true (show rowFrom l l.length from fun j h1 h2 => by omega)).symm))
      · intro i hi ih hp
        have hg : l.getD (i + 1 - 1) z48 = l[i] := by rw [Nat.add_sub_cancel, List.getD_eq_getElem?_getD, List.getElem?_eq_getElem hi]; rfl
        refine Ev.step (fun k => spec_EntriesOk.l0.eq_2 ..) (Ev.pos (by omega) (Ev.pos (by omega) ?_))
        rw [rdE l i hi]
        refine Ev.bindS (sEntryOk_ev l[i].f0.f0 l[i].f0.f1 l[i].f0.f2 l[i].f1) ?_
        by_cases ce : isE l[i].f0.f0 l[i].f0.f1 l[i].f0.f2 l[i].f1
        · refine Ev.pos (decide_eq_true ce) ?_
          have ih := ih (fun _ => by rw [hg]; exact ce)
          by_cases c0 : (i : Int) > 0
          · have hw : wrap64 ((i : Int) - 1) = ((i - 1 : Nat) : Int) := by rw [wid (by omega) (by omega)]; omega
            rw [hw, rdE l (i - 1) (by omega)]
            have hq := hp (by omega)
            rw [show l.getD (i - 1) z48 = l[i - 1]'(by omega) from by rw [List.getD_eq_getElem?_getD, List.getElem?_eq_getElem (by omega)]; rfl] at hq
            refine Ev.pos c0 (Ev.pos (by omega) (Ev.pos (by omega) (Ev.bind (sKeyCmp_ev _ _ _ _ _ _) ?_)))
            rw [if_pos ⟨hq.1, ce.1⟩]
            by_cases cc : ecmp (l[i - 1]'(by omega)) l[i] ≥ 0
            · exact Ev.pos cc ((Ev.now _).eqr (decide_eq_false fun h => by have := ((rowFrom_step l i hi).1 h).1.2 (by omega); omega).symm)
            · refine Ev.neg cc ?_
              rw [wsucc (by omega)]
              exact ih.eqr (decide_eq_decide.2 ⟨fun h => (rowFrom_step l i hi).2 ⟨⟨ce, fun _ => by omega⟩, h⟩, fun h => ((rowFrom_step l i hi).1 h).2⟩)
          · refine Ev.neg c0 ?_
            rw [wsucc (by omega)]
            exact ih.eqr (decide_eq_decide.2 ⟨fun h => (rowFrom_step l i hi).2 ⟨⟨ce, fun _ => by omega⟩, h⟩, fun h => ((rowFrom_step l i hi).1 h).2⟩)
        · exact Ev.neg (by simpa using ce) ((Ev.now _).eqr (decide_eq_false fun h => ce ((rowFrom_step l i hi).1 h).1.1).symm)
    exact Ev.neg c ((key 0 (Nat.zero_le _) (fun h => absurd h (by omega))).eqr (decide_eq_decide.2 ⟨fun h => ⟨by omega, h⟩, fun h => h.2⟩))
end Go.Proofs.Ytbojfnijgmppbaa.P
end

section
namespace Go.Proofs.Ytbojfnijgmppbaa.P
open Go.RowKit Go.Proofs.YtbojfnijgmppbaaW.PrintWords Go.Proofs.YtbojfnijgmppbaaW.PrintLast Go.Proofs.YtbojfnijgmppbaaW.PrintMore
attribute [local go_sem] str_gtr str_leq str_geq max2_int min2_int max_two min_two qw qv max_four min_four
set_option linter.unusedVariables false
set_option linter.unusedSimpArgs false
theorem dkey_ev {l : List Int} {p : Int} (h : okc l) (hp : okp l p) : ∃ r, Ev (fun k => spec_l1Rd_key.f k l p) r ∧ okp l r.2.2.2 := by
  unfold spec_l1Rd_key.f
  obtain ⟨a, ha, _, ha2⟩ := duser_ev h hp
  obtain ⟨b, hb, _, hb2⟩ := near_ev h ha2 0 12 (by omega) (by omega) (by omega)
  obtain ⟨c, hc, _, hc2⟩ := below_ev h hb2 2 (by omega)
  obtain ⟨d, hd, _, hd2⟩ := below_ev h hc2 24 (by omega)
  by_cases c0 : d.1 = 0
  · obtain ⟨e, he, _, he2⟩ := off_ev h hd2 0 1000000000000 (by omega) (by omega) (by omega)
    exact ⟨_, Ev.bindS ha (Ev.bind hb (Ev.bindS hc (Ev.bindS hd (Ev.pos c0 (Ev.bind he (Ev.now _)))))), he2⟩
  · by_cases c1 : d.1 = 1
    · obtain ⟨e, he, _, he2⟩ := off_ev h hd2 0 1 (by omega) (by omega) (by omega)
      exact ⟨_, Ev.bindS ha (Ev.bind hb (Ev.bindS hc (Ev.bindS hd (Ev.neg c0 (Ev.pos c1 (Ev.bind he (Ev.now _))))))), he2⟩
    · by_cases c2 : d.1 = 2
      · obtain ⟨e, he, _, he2⟩ := bytes_ev h hd2 45 (by omega) (by omega)
        exact ⟨_, Ev.bindS ha (Ev.bind hb (Ev.bindS hc (Ev.bindS hd (Ev.neg c0 (Ev.neg c1 (Ev.pos c2 (Ev.bind he (Ev.now _)))))))), he2⟩
      · exact ⟨_, Ev.bindS ha (Ev.bind hb (Ev.bindS hc (Ev.bindS hd (Ev.neg c0 (Ev.neg c1 (Ev.neg c2 (Ev.now _))))))), hd2⟩
theorem dentry_ev {l : List Int} {p : Int} (h : okc l) (hp : okp l p) : ∃ r, Ev (fun k => spec_l1Rd_entry.f k l p) r ∧ okp l r.2.2.2.2 := by
  unfold spec_l1Rd_entry.f
  obtain ⟨a, ha, ha2⟩ := dkey_ev h hp
  obtain ⟨b, hb, _, hb2⟩ := dvalue_ev h ha2
  by_cases c0 : a.2.2.1 = 0
  · obtain ⟨c, hc, hc2⟩ := once_ev h hb2 12 (by omega)
    by_cases c1 : c.1 = true
    · exact ⟨_, Ev.bind ha (Ev.bindS hb (Ev.pos c0 (Ev.bindS hc (Ev.pos c1 (Ev.now _))))), hc2⟩
    · exact ⟨_, Ev.bind ha (Ev.bindS hb (Ev.pos c0 (Ev.bindS hc (Ev.neg c1 (Ev.now _))))), hc2⟩
  · exact ⟨_, Ev.bind ha (Ev.bindS hb (Ev.neg c0 (Ev.now _))), hb2⟩
theorem dentries_ev {l : List Int} {p : Int} (h : okc l) (hp : okp l p) (n : Int) (hn : 0 ≤ n) (hn2 : n ≤ 1000) : ∃ r, Ev (fun k => spec_l1Rd_entries.f k l p n) r ∧ (r.1.length : Int) ≤ n + 1 ∧ okp l r.2 := by
  have key : ∀ (j : Nat) (acc : List S48) (p : Int), acc.length + j ≤ 2000 → okp l p → ∃ r, Ev (fun k => spec_l1Rd_entries.l0 k acc (j : Int) l p) r ∧ r.1.length ≤ acc.length + j + 1 ∧ okp l r.2 := by
    intro j
    induction j with
    | zero =>
      intro acc p ha hp
      obtain ⟨a, ha', ha2⟩ := once_ev h hp 24 (by omega)
      by_cases c : a.1 = true
      · obtain ⟨b, hb, hb2⟩ := dentry_ev h ha2
        refine ⟨_, Ev.step (fun k => spec_l1Rd_entries.l0.eq_2 ..) (Ev.neg (by omega) (Ev.bindS ha' (Ev.pos c (Ev.bind hb (Ev.pos (by omega) (Ev.now _)))))), ?_, hb2⟩
        show (acc ++ [_]).length ≤ _
        rw [List.length_append]
        simp only [List.length_cons, List.length_nil]
        omega
      · exact ⟨_, Ev.step (fun k => spec_l1Rd_entries.l0.eq_2 ..) (Ev.neg (by omega) (Ev.bindS ha' (Ev.neg c (Ev.now _)))), by show acc.length ≤ _; omega, ha2⟩
    | succ j ih =>
      intro acc p ha hp
      obtain ⟨e, he, he2⟩ := dentry_ev h hp
      have hw : wrap64 (((j + 1 : Nat) : Int) - 1) = (j : Int) := by rw [wid (by omega) (by omega)]; omega
      by_cases c : isE e.1 e.2.1 e.2.2.1 e.2.2.2.1
      ·
        have seek : ∀ d i : Nat, i + d = acc.length → ∃ r, Ev (fun k => spec_l1Rd_entries.l1 k acc ((j + 1 : Nat) : Int) (i : Int) l e.2.2.2.2 e.1 e.2.1 e.2.2.1 e.2.2.2.1) r ∧ r.1.length ≤ acc.length + (j + 1) + 1 ∧ okp l r.2 := by
          intro d
          induction d with
          | zero =>
            intro i hi
            obtain ⟨r, hr, hr1, hr2⟩ := ih ((([] ++ acc.take i) ++ [⟨⟨e.1, e.2.1, e.2.2.1⟩, e.2.2.2.1⟩]) ++ acc.drop i) e.2.2.2.2 (by simp; omega) he2
            refine ⟨r, Ev.step (fun k => spec_l1Rd_entries.l1.eq_2 ..) (Ev.neg (by omega) (Ev.bindS rfl (Ev.pos (by omega) (Ev.pos (by omega) (Ev.bindS rfl (Ev.pos (by simp; omega) (Ev.bindS rfl (Ev.pos (by simp; omega) (Ev.bindS rfl (Ev.bindS rfl (Ev.pos (by simp; omega) ?_))))))))))), ?_, hr2⟩
            · rw [hw, Int.toNat_natCast]
              exact hr
            · refine Nat.le_trans hr1 ?_
              simp
              omega
          | succ d ihd =>
            intro i hi
            have hc := sKeyCmp_ev (qg acc (i : Int)).f0.f0 (qg acc (i : Int)).f0.f1 (qg acc (i : Int)).f0.f2 e.1 e.2.1 e.2.2.1
            generalize (if isK (qg acc (i : Int)).f0.f0 (qg acc (i : Int)).f0.f1 (qg acc (i : Int)).f0.f2 ∧ isK e.1 e.2.1 e.2.2.1 then kcmp (qg acc (i : Int)).f0.f0 (qg acc (i : Int)).f0.f1 (qg acc (i : Int)).f0.f2 e.1 e.2.1 e.2.2.1 else 0) = cv at hc
            by_cases c1 : cv < 0
            · obtain ⟨r, hr, hr2⟩ := ihd (i + 1) (by omega)
              refine ⟨r, Ev.step (fun k => spec_l1Rd_entries.l1.eq_2 ..) (Ev.pos (by omega) (Ev.pos (by omega) (Ev.bind hc (Ev.pos c1 ?_)))), hr2⟩
              rw [wsucc (by omega)]
              exact hr
            · generalize hb : (((qg acc (i : Int)).f0.f0.toList == e.1.toList) && ((qg acc (i : Int)).f0.f1 == e.2.1 && ((qg acc (i : Int)).f0.f2 == e.2.2.1))) = bb
              cases bb with
              | true =>
                obtain ⟨r, hr, hr1, hr2⟩ := ih acc e.2.2.2.2 (by omega) he2
                refine ⟨r, Ev.step (fun k => spec_l1Rd_entries.l1.eq_2 ..) (Ev.pos (by omega) (Ev.pos (by omega) (Ev.bind hc (Ev.neg c1 (Ev.pos hb ?_))))), by omega, hr2⟩
                rw [hw]
                exact hr
              | false =>
                obtain ⟨r, hr, hr1, hr2⟩ := ih ((([] ++ acc.take i) ++ [⟨⟨e.1, e.2.1, e.2.2.1⟩, e.2.2.2.1⟩]) ++ acc.drop i) e.2.2.2.2 (by simp; omega) he2
                refine ⟨r, Ev.step (fun k => spec_l1Rd_entries.l1.eq_2 ..) (Ev.pos (by omega) (Ev.pos (by omega) (Ev.bind hc (Ev.neg c1 (Ev.neg (by rw [hb]; simp) (Ev.bindS rfl (Ev.pos (by omega) (Ev.bindS rfl (Ev.pos (by simp; omega) (Ev.bindS rfl (Ev.pos (by simp; omega) (Ev.bindS rfl (Ev.bindS rfl (Ev.pos (by simp; omega) ?_)))))))))))))), ?_, hr2⟩
                · rw [hw, Int.toNat_natCast]
                  exact hr
                · refine Nat.le_trans hr1 ?_
                  simp
                  omega
        obtain ⟨r, hr, hr2⟩ := seek acc.length 0 (by omega)
        exact ⟨r, Ev.step (fun k => spec_l1Rd_entries.l0.eq_2 ..) (Ev.pos (by omega) (Ev.bind he (Ev.bindS (sEntryOk_ev _ _ _ _) (Ev.pos (decide_eq_true c) hr)))), hr2⟩
      · obtain ⟨r, hr, hr1, hr2⟩ := ih acc e.2.2.2.2 (by omega) he2
        refine ⟨r, Ev.step (fun k => spec_l1Rd_entries.l0.eq_2 ..) (Ev.pos (by omega) (Ev.bind he (Ev.bindS (sEntryOk_ev _ _ _ _) (Ev.neg (by simpa using c) ?_)))), by omega, hr2⟩
        rw [hw]
        exact hr
  obtain ⟨a, ha, ha1, ha2⟩ := below_ev h hp (n + 1) (by omega)
  obtain ⟨r, hr, hr1, hr2⟩ := key a.1.toNat [] a.2 (by simp; omega) ha2
  refine ⟨r, ?_, ?_, hr2⟩
  · unfold spec_l1Rd_entries.f
    rw [wid (by omega) (by omega)]
    refine Ev.bindS ha ?_
    rw [show ((a.1.toNat : Nat) : Int) = a.1 from by omega] at hr
    exact hr
  · simp only [List.length_nil] at hr1
    omega
end Go.Proofs.Ytbojfnijgmppbaa.P
end

section
namespace Go.Proofs.Ytbojfnijgmppbaa.P
open Go.RowKit Go.Proofs.YtbojfnijgmppbaaW.PrintWords Go.Proofs.YtbojfnijgmppbaaW.PrintLast Go.Proofs.YtbojfnijgmppbaaW.PrintMore
attribute [local go_sem] str_gtr str_leq str_geq max2_int min2_int max_two min_two qw qv max_four min_four
set_option linter.unusedVariables false
set_option linter.unusedSimpArgs false
theorem kcmp_trans {u u' u'' : ByteArray} {q d q' d' q'' d'' : Int} (h1 : kcmp u q d u' q' d' < 0) (h2 : kcmp u' q' d' u'' q'' d'' < 0) : kcmp u q d u'' q'' d'' < 0 := by
  rw [kcmp_lt] at *
  rcases h1 with h1 | ⟨rfl, h1⟩
  · rcases h2 with h2 | ⟨rfl, h2⟩
    · exact .inl (bl_trans h1 h2)
    · exact .inl h1
  · rcases h2 with h2 | ⟨rfl, h2⟩
    · exact .inl h2
    · exact .inr ⟨rfl, by omega⟩
theorem row_lt {l : List S48} (h : rowFrom l 0) : ∀ (d i : Nat) (hj : i + d + 1 < l.length), ecmp (l[i]'(by omega)) l[i + d + 1] < 0
  | 0, i, hj => (h (i + 1) (Nat.zero_le _) hj).2 (by omega)
  | d + 1, i, hj => kcmp_trans (row_lt h d i (by omega)) ((h (i + (d + 1) + 1) (Nat.zero_le _) hj).2 (by omega))
theorem eqA48 (d : Nat) (w : World) (x0 y0 : ByteArray) (x1 y1 : Int) (x2 y2 : Int) (x3 y3 : ByteArray) :
  (Op.equalIn (d + 3) 48 (.agg #[.string x0, .int .i64 x1, .int .i64 x2, .string x3]) (.agg #[.string y0, .int .i64 y1, .int .i64 y2, .string y3])).run Try.prog w = .ok ((x0.toList == y0.toList && (x1 == y1 && (x2 == y2))) && (x3.toList == y3.toList)) w := by
 refine eqA_of Try.underlying48 (by kernel_rfl) ?_
 refine eqf_cons (by rfl) (by go_simp) (by go_simp) (eqA46 (d + 0) w _ _ _ _ _ _) ?_
 exact eqf_last (by rfl) (by go_simp; rfl) (by go_simp; rfl) (by go_simp)
theorem eqA76 (d : Nat) (w : World) (x0 y0 : ByteArray) (x1 y1 : ByteArray) :
  (Op.equalIn (d + 2) 76 (.agg #[.string x0, .string x1]) (.agg #[.string y0, .string y1])).run Try.prog w = .ok (x0.toList == y0.toList && (x1.toList == y1.toList)) w := by
 refine eqA_of Try.underlying76 (by kernel_rfl) ?_
 refine eqf_cons (by rfl) (by go_simp; rfl) (by go_simp; rfl) (by go_simp) ?_
 exact eqf_last (by rfl) (by go_simp; rfl) (by go_simp; rfl) (by go_simp)
end Go.Proofs.Ytbojfnijgmppbaa.P
end

section
namespace Go.Proofs.Ytbojfnijgmppbaa.Pure
open Go.RowKit Go.Proofs.YtbojfnijgmppbaaW.PrintWords Go.Proofs.YtbojfnijgmppbaaW.PrintLast Go.Proofs.YtbojfnijgmppbaaW.PrintMore
open Go.Proofs.Ytbojfnijgmppbaa.P
set_option linter.unusedVariables false
set_option linter.unusedSimpArgs false
theorem toL_inj {a b : ByteArray} (h : toL a = toL b) : a = b := by rw [← ofL_toL a, ← ofL_toL b, h]
theorem toList_toL (a : ByteArray) : a.toList = toL a := ByteArray.toList_eq a
def uu (l : List S48) : Nat → List ByteArray
  | 0 => []
  | i + 1 => uu l i ++ (if i = 0 ∨ (l.getD (i - 1) z48).f0.f0 ≠ (l.getD i z48).f0.f0 then [(l.getD i z48).f0.f0] else [])
theorem uu_len (l : List S48) : ∀ i, (uu l i).length ≤ i
  | 0 => by simp [uu]
  | i + 1 => by
    have := uu_len l i
    rw [uu, List.length_append]
    split <;> simp <;> omega
def usersOf (l : List S48) : List ByteArray := uu l l.length
theorem cptB_users (l : List S48) : cptB (l.map fun e => e.f0.f0) = usersOf l := by
  unfold cptB Lib.compact usersOf
  rw [List.length_map, List.length_map]
  have key : ∀ m, m ≤ l.length → (Lib.compactUpTo ((l.map fun e => e.f0.f0).map toL).toArray m).map ofL = uu l m := by
    intro m
    induction m with
    | zero => intro _; rfl
    | succ m ih =>
      intro hm
      have hd : ∀ j, j < l.length → ((l.map fun e => e.f0.f0).map toL).toArray[j]! = toL (l.getD j z48).f0.f0 := fun j hj => by
        rw [getElem!_pos _ j (by simpa using hj)]
        simp [List.getD_eq_getElem?_getD, List.getElem?_eq_getElem hj]
      rw [Lib.compactUpTo_succ, List.map_append, ih (by omega), uu]
      congr 1
      unfold Lib.keeps
      rw [hd m (by omega)]
      by_cases c : m = 0
      · subst c
        simp [ofL_toL]
      · rw [hd (m - 1) (by omega)]
        by_cases c2 : (l.getD (m - 1) z48).f0.f0 = (l.getD m z48).f0.f0
        · rw [if_neg (by simp only [decide_eq_true_eq]; rintro (h | h); exact c h; exact h (by rw [c2])), if_neg (by rintro (h | h); exact c h; exact h c2)]
          rfl
        · rw [if_pos (by simp only [decide_eq_true_eq]; exact .inr fun h => c2 (toL_inj h).symm), if_pos (.inr c2)]
          simp [ofL_toL]
  exact key l.length (Nat.le_refl _)
theorem users_ev (l : List S48) (hl : l.length ≤ 400) : Ev (fun k => impl_users.f k l) (usersOf l) := by
  unfold impl_users.f
  have key : ∀ i, i ≤ l.length → Ev (fun k => impl_users.l0 k ((l.take i).map fun e => e.f0.f0) l (l.length : Int) (i : Int)) (usersOf l) := by
    refine downTo l.length ?_ ?_
    · refine Ev.step (fun k => impl_users.l0.eq_2 ..) ?_
      rw [List.take_length]
      refine Ev.neg (by omega) ?_
      refine Ev.bindS (show slices_Compact_string_string.f _ = some (usersOf l) from ?_) (Ev.now _)
      rw [← cptB_users]
      rfl
    · intro i hi ih
      refine Ev.step (fun k => impl_users.l0.eq_2 ..) ?_
      rw [rdE l i hi, wsucc (show i < 4611686018427387904 by omega)]
      refine Ev.pos (by omega) (Ev.pos (by omega) (Ev.pos (by omega) (Ev.pos (by rw [List.length_map, List.length_take]; omega) ?_)))
      rw [List.take_add_one, List.getElem?_eq_getElem hi, List.map_append] at ih
      exact ih
  exact key 0 (Nat.zero_le _)
noncomputable def muV (l : List S48) : List ByteArray := if isRow l then usersOf l else []
theorem memUsers_ev (l : List S48) (hl : l.length < 2097152) : Ev (fun k => impl_MemUsers.f k l) (muV l) := by
  unfold impl_MemUsers.f muV
  refine Ev.bind (entriesOk_ev l hl) ?_
  by_cases c : isRow l
  · rw [if_pos c]
    exact Ev.pos (decide_eq_true c) (Ev.bind (users_ev l c.1) (Ev.now _))
  · rw [if_neg c]
    exact Ev.neg (by simp [c]) (Ev.now _)
end Go.Proofs.Ytbojfnijgmppbaa.Pure
end

section
namespace Go.Proofs.Ytbojfnijgmppbaa.Pure
open Go.RowKit Go.Proofs.YtbojfnijgmppbaaW.PrintWords Go.Proofs.YtbojfnijgmppbaaW.PrintLast Go.Proofs.YtbojfnijgmppbaaW.PrintMore
open Go.Proofs.Ytbojfnijgmppbaa.P
set_option linter.unusedVariables false
set_option linter.unusedSimpArgs false
abbrev E_ := S48
def gotV (l : List E_) (u : ByteArray) (s : Int) : Int × ByteArray := match l.find? (lookp u s) with
  | none => (0, ⟨#[]⟩)
  | some e => if e.f0.f2 = 0 then (2, ⟨#[]⟩) else (1, e.f1)
theorem find_idxf {α : Type} (p : α → Bool) : ∀ (l : List α) (i : Nat), (l.find? p = none ∧ idxf p l i = -1) ∨ ∃ (k : Nat) (h : k < l.length), l.find? p = some l[k] ∧ idxf p l i = ((i + k : Nat) : Int)
  | [], _ => .inl ⟨rfl, rfl⟩
  | x :: xs, i => by
    cases h : p x with
    | true => exact .inr ⟨0, by simp, by simp [h], by simp [idxf, h]⟩
    | false =>
      simp only [idxf, h, Bool.false_eq_true, if_false, List.find?_cons_of_neg, not_false_eq_true]
      rcases find_idxf p xs (i + 1) with ⟨h1, h2⟩ | ⟨k, hk, h1, h2⟩
      · exact .inl ⟨h1, h2⟩
      · exact .inr ⟨k + 1, by simpa using hk, by simpa using h1, by rw [h2]; congr 1; omega⟩
theorem get_ev (l : List E_) (u : ByteArray) (s : Int) : impl_get.f l u s = some (gotV l u s) := by
  unfold impl_get.f impl_looked.f gotV
  rw [Option.bind_some]
  rcases find_idxf (lookp u s) l 0 with ⟨h1, h2⟩ | ⟨k, hk, h1, h2⟩
  · rw [h1, h2, if_pos (by omega)]
  · rw [h1, h2, Nat.zero_add, if_neg (by omega), if_pos (by omega), if_pos (by omega), rdE l k hk]
    simp only []
    split <;> rfl
theorem sGet_loop (l : List E_) (hl : l.length ≤ 400) (u : ByteArray) (s : Int) : Ev (fun k => spec_l8Get.l0 k l u s 0) (gotV l u s) := by
  have key : ∀ i, i ≤ l.length → Ev (fun k => spec_l8Get.l0 k l u s (i : Int)) (gotV (l.drop i) u s) := by
    refine downTo l.length ?_ ?_
    · refine Ev.step (fun k => spec_l8Get.l0.eq_2 ..) ?_
      rw [List.drop_length]
      exact Ev.neg (by omega) (Ev.now _)
    · intro i hi ih
      have hd : l.drop i = l[i] :: l.drop (i + 1) := List.drop_eq_getElem_cons hi
      have skip : lookp u s l[i] = false → Ev (fun k => spec_l8Get.j1 k l u s (i : Int) true) (gotV (l.drop i) u s) := fun h => by
        refine Ev.step (fun k => spec_l8Get.j1.eq_2 ..) ?_
        rw [wsucc (show i < 4611686018427387904 by omega)]
        refine Ev.pos rfl (ih.eqr ?_)
        unfold gotV
        rw [hd, List.find?_cons_of_neg (by simp [h])]
      refine Ev.step (fun k => spec_l8Get.l0.eq_2 ..) ?_
      rw [rdE l i hi]
      refine Ev.pos (by omega) (Ev.pos (by omega) ?_)
      by_cases c : l[i].f0.f0.toList = u.toList
      · refine Ev.pos c ?_
        by_cases c2 : l[i].f0.f1 ≤ s
        · rw [decide_eq_false (by omega)]
          refine Ev.step (fun k => spec_l8Get.j1.eq_2 ..) ?_
          rw [rdE l i hi]
          refine Ev.neg (by simp) (Ev.pos (by omega) (Ev.pos (by omega) ?_))
          have hp : lookp u s l[i] = true := by unfold lookp; rw [Bool.and_eq_true]; exact ⟨beq_iff_eq.2 c, decide_eq_true c2⟩
          have hg : gotV (l.drop i) u s = if l[i].f0.f2 = 0 then (2, ⟨#[]⟩) else (1, l[i].f1) := by
            unfold gotV
            rw [hd, List.find?_cons_of_pos hp]
          rw [hg]
          by_cases c3 : l[i].f0.f2 = 0
          · exact (Ev.pos c3 (Ev.now _)).eqr (if_pos c3).symm
          · exact (Ev.neg c3 (Ev.now _)).eqr (if_neg c3).symm
        · rw [decide_eq_true (by omega)]
          exact skip (by unfold lookp; rw [decide_eq_false c2, Bool.and_false])
      · refine Ev.neg c (skip ?_)
        unfold lookp
        rw [show (l[i].f0.f0.toList == u.toList) = false from beq_eq_false_iff_ne.2 c, Bool.false_and]
  exact key 0 (Nat.zero_le _)
noncomputable def mgV (l : List E_) (u : ByteArray) (s : Int) : Int × ByteArray := if isRow l then gotV l u s else (0, ⟨#[]⟩)
theorem memGet_ev (l : List E_) (hl : l.length < 2097152) (u : ByteArray) (s : Int) : Ev (fun k => impl_MemGet.f k l u s) (mgV l u s) := by
  unfold impl_MemGet.f mgV
  refine Ev.bind (entriesOk_ev l hl) ?_
  by_cases c : isRow l
  · rw [if_pos c]
    exact Ev.pos (decide_eq_true c) (Ev.bindS (get_ev l u s) (Ev.now _))
  · rw [if_neg c]
    exact Ev.neg (by simp [c]) (Ev.now _)
theorem sMemGet_ev (l : List E_) (hl : l.length < 2097152) (u : ByteArray) (s : Int) : Ev (fun k => spec_MemGet.f k l u s) (mgV l u s) := by
  unfold spec_MemGet.f mgV
  refine Ev.bind (sEntriesOk_ev l hl) ?_
  by_cases c : isRow l
  · rw [if_pos c]
    exact Ev.pos (decide_eq_true c) (Ev.bind (sGet_loop l c.1 u s) (Ev.now _))
  · rw [if_neg c]
    exact Ev.neg (by simp [c]) (Ev.now _)
def srt (l : List E_) : Prop := l.Pairwise fun a b => tless b.f0.f0 a.f0.f0 = false
theorem row_srt {l : List E_} (h : rowFrom l 0) : srt l := by
  unfold srt
  rw [List.pairwise_iff_getElem]
  intro i j hi hj hij
  have h1 := row_lt h (j - i - 1) i (by omega)
  have e : i + (j - i - 1) + 1 = j := by omega
  simp only [e] at h1
  unfold ecmp at h1
  rw [kcmp_lt] at h1
  rcases h1 with h1 | ⟨h1, _⟩
  · exact bl_not h1
  · rw [h1]
    exact bl_irrefl _
def ug : ByteArray → List E_ → List ByteArray
  | _, [] => []
  | c, e :: es => if e.f0.f0 = c then ug c es else e.f0.f0 :: ug e.f0.f0 es
def uf : List E_ → List ByteArray
  | [] => []
  | e :: es => e.f0.f0 :: ug e.f0.f0 es
theorem uu_uf (l : List E_) : usersOf l = uf l := by
  have key : ∀ (l pre : List E_) (p : E_), ∀ i, i ≤ l.length → uu (pre ++ p :: l) (pre.length + 1 + l.length) = uu (pre ++ p :: l) (pre.length + 1) ++ ug p.f0.f0 l := by
    intro l
    induction l with
    | nil => intro pre p i _; simp [ug]
    | cons e es ih =>
      intro pre p i hi
      have h := ih (pre ++ [p]) e 0 (Nat.zero_le _)
      rw [List.append_assoc, List.length_append] at h
      have e1 : pre.length + [p].length + 1 + es.length = pre.length + 1 + (e :: es).length := by simp; omega
      rw [e1] at h
      have e2 : (pre ++ ([p] ++ e :: es)) = pre ++ p :: e :: es := rfl
      rw [e2] at h
      rw [h]
      have e3 : pre.length + [p].length + 1 = (pre.length + 1) + 1 := by simp
      rw [e3, uu, List.append_assoc]
      congr 1
      have g1 : (pre ++ p :: e :: es).getD (pre.length + 1 - 1) z48 = p := by rw [List.getD_eq_getElem?_getD, Nat.add_sub_cancel, List.getElem?_append_right (Nat.le_refl _), Nat.sub_self]; rfl
      have g2 : (pre ++ p :: e :: es).getD (pre.length + 1) z48 = e := by rw [List.getD_eq_getElem?_getD, List.getElem?_append_right (by omega), Nat.add_sub_cancel_left]; rfl
      rw [g1, g2, ug]
      by_cases c : e.f0.f0 = p.f0.f0
      · rw [if_neg (by rintro (h | h); omega; exact h c.symm), if_pos c, c, List.nil_append]
      · rw [if_pos (.inr fun h => c h.symm), if_neg c]
        rfl
  cases l with
  | nil => rfl
  | cons e es =>
    have := key es [] e 0 (Nat.zero_le _)
    unfold usersOf
    rw [show (e :: es).length = ([] : List E_).length + 1 + es.length from by simp; omega]
    refine this.trans ?_
    simp [uu, uf]
theorem ug_ne : ∀ (l : List E_) (c : ByteArray), srt l → (∀ e ∈ l, tless e.f0.f0 c = false) → ∀ u ∈ ug c l, tless c u = true
  | [], _, _, _, _, h => by simp [ug] at h
  | e :: es, c, hs, hc, u, h => by
    have hs' := List.pairwise_cons.1 hs
    rw [ug] at h
    split at h
    · exact ug_ne es c hs'.2 (fun x hx => hc x (List.mem_cons_of_mem _ hx)) u h
    · rename_i hne
      have hlt : tless c e.f0.f0 = true := by
        cases hq : tless c e.f0.f0 with
        | true => rfl
        | false =>
          have := bl_eq (a := e.f0.f0.toList) (b := c.toList) (hc e List.mem_cons_self) hq
          rw [toList_toL, toList_toL] at this
          exact absurd (toL_inj this) hne
      rcases List.mem_cons.1 h with h | h
      · rw [h]; exact hlt
      · exact bl_trans hlt (ug_ne es e.f0.f0 hs'.2 (fun x hx => hs'.1 x hx) u h)
end Go.Proofs.Ytbojfnijgmppbaa.Pure
end

section
namespace Go.Proofs.Ytbojfnijgmppbaa.Pure
open Go.RowKit Go.Proofs.YtbojfnijgmppbaaW.PrintWords Go.Proofs.YtbojfnijgmppbaaW.PrintLast Go.Proofs.YtbojfnijgmppbaaW.PrintMore
open Go.Proofs.Ytbojfnijgmppbaa.P
set_option linter.unusedVariables false
set_option linter.unusedSimpArgs false
theorem byteOk {l : List Int} (h1 : l.length ≤ 1048576) (h2 : ∀ x ∈ l, (Lit.int .u8 x).wf = true) : okc l := by
  refine ⟨h1, fun x hx => ?_⟩
  have := h2 x hx
  simpa [Lit.wf, IntKind.min, IntKind.max, IntKind.signed, IntKind.bits] using this
theorem okp0 (l : List Int) : okp l 0 := ⟨by omega, by omega⟩
end Go.Proofs.Ytbojfnijgmppbaa.Pure
end

section
namespace Go.Proofs.Ytbojfnijgmppbaa.P
open Go.RowKit Go.Proofs.YtbojfnijgmppbaaW.PrintWords Go.Proofs.YtbojfnijgmppbaaW.PrintLast Go.Proofs.YtbojfnijgmppbaaW.PrintMore
attribute [local go_sem] str_gtr str_leq str_geq max2_int min2_int max_two min_two qw qv max_four min_four
set_option linter.unusedVariables false
set_option linter.unusedSimpArgs false
theorem zeroCells_length (cs : Array Value) (n : Nat) : (Builtin.zeroCells cs n).toList.length = n * cs.size := by simp [Builtin.zeroCells]
theorem zeroCells_one (cs : Array Value) (n : Nat) (hp : 0 < cs.size) (h : ∀ v ∈ cs, v.oneCell' = true) : ∀ v ∈ (Builtin.zeroCells cs n).toList, v.oneCell' = true := by
  intro v hv
  simp only [Builtin.zeroCells, Array.toList_map, List.mem_map] at hv
  obtain ⟨i, _, rfl⟩ := hv
  rw [getElem!_pos cs (i % cs.size) (Nat.mod_lt _ hp)]
  exact h _ (Array.getElem_mem _)
theorem R_clear {α : Type} (d : Kd α) {P : Program} {e : Nat} {W : World} {base : Nat} {ok : Nat → Prop} {g n cap : Nat} {xs : List α} (HO : d.R e W base ok (.slice (some ⟨g, 0, none⟩) n cap) xs) (i : Nat) (hi : i ≤ n) (t : TypeId) (z : Value)
    (ht : P.underlying t = some (.slice e)) (hv : ∀ w, (zeroValue e).run P w = .ok z w) (hz : z.cells.size = d.sz) (h0 : 0 < d.sz) (h1 : ∀ v ∈ z.cells, v.oneCell' = true) (a' : Option Addr) (ha : i < n → a' = some ⟨g, i * d.sz, none⟩) (c' : Nat) :
    ∃ W', (∀ ty, (Builtin.clear_ #[t] ty #[.slice a' (n - i) c']).run P W = .ok (.tuple #[]) W') ∧ d.R e W' base ok (.slice (some ⟨g, 0, none⟩) i cap) (xs.take i) ∧ W.grownBy W' (some g) := by
  have hn : n = xs.length := (Kd.R_reads' HO).1
  have HT := Kd.R_take (m := i) HO (by omega)
  rcases Nat.lt_or_ge i n with hin | hge
  · have hown := HO.2
    obtain ⟨inner, ho, _⟩ := hown
    rcases ho.2 with ⟨hv0, _⟩ | ⟨g', cap', cur, hv0, hb, hh, hnc, hcm, hcs, htk⟩
    · cases hv0
    injection hv0 with ea _ ec
    injection ea with ea
    injection ea with eg
    subst eg; subst ec
    have hlen : (Builtin.zeroCells z.cells (n - i)).toList.length = (n - i) * d.sz := by rw [zeroCells_length, hz]
    have hfit : i * d.sz + (n - i) * d.sz ≤ cur.size := by
      rw [← Nat.add_mul, hcs]
      exact Nat.mul_le_mul_right _ (by omega)
    have hst := run_storeCells_cells (P := P) g (i * d.sz) (Builtin.zeroCells z.cells (n - i)).toList 0 W (fun j hj => by rw [cell_of_row W g _ cur e (0, 0) hh]; rw [hlen] at hj; simp; omega) (fun j _ => qf hh _) (zeroCells_one _ _ (by omega) h1)
    simp only [Nat.add_zero] at hst
    refine ⟨W.setCells g (i * d.sz) (Builtin.zeroCells z.cells (n - i)).toList, fun ty => ?_, ?_, ?_⟩
    · rw [ha hin]
      obtain ⟨m, hm⟩ : ∃ m, n - i = m + 1 := ⟨n - i - 1, by omega⟩
      rw [hm] at hst ⊢
      simp [Builtin.clear_, run_underlying ht, hv, hst]
    · obtain ⟨h2, inner', ho', hr'⟩ := HT
      refine ⟨h2, inner', ?_, hr'.imp_ (fun _ _ hp => d.M_move (fun k hk => setCells_far _ _ k (fun he => hk.2 (by rw [he]; simp [Value.ownBlock]))) hp)⟩
      obtain ⟨cur', h3, h4, h5⟩ := setCells_row (Builtin.zeroCells z.cells (n - i)).toList (i * d.sz) W cur hh (by rw [hlen]; exact hfit)
      have hti : (xs.take i).length = i := by rw [List.length_take]; omega
      rw [hti] at ho' ⊢
      rcases ho'.2 with ⟨hv1, _⟩ | ⟨g1, cap1, cur1, hv1, hb1, hh1, hnc1, hcm1, hcs1, htk1⟩
      · cases hv1
      injection hv1 with ea ei ec
      injection ea with ea
      injection ea with eg
      subst eg; subst ec
      rw [hh] at hh1
      injection hh1 with hh1
      injection hh1 with hh1
      subst hh1
      refine ⟨ho'.1, .inr ⟨g, cap, cur', rfl, hb, h3, hnc1, hcm, by rw [h4, hcs], ?_⟩⟩
      rw [h5, ← htk1, List.append_assoc, List.take_append_of_le_length (by rw [List.length_take, Array.length_toList]; omega), List.take_take, Nat.min_self]
    · obtain ⟨s1, s2, s3, s4⟩ := setCells_same g (Builtin.zeroCells z.cells (n - i)).toList (i * d.sz) W
      exact ⟨s1, s2, s3, by rw [s4]; exact Nat.le_refl _, fun k _ hk => setCells_far _ _ k (fun he => hk (by rw [he]))⟩
  · obtain rfl : i = n := by omega
    refine ⟨W, fun ty => ?_, HT, World.grownBy.refl W _⟩
    rw [Nat.sub_self]
    cases a' <;> simp [Builtin.clear_, run_underlying ht]
theorem filter_idx {α : Type} (p : α → Bool) (d : α) (l : List α) (i : Nat) (h : ∀ j, j < i → p (l.getD j d) = false) : (l.take i).filter (fun x => !p x) = l.take i := by
  rw [List.filter_eq_self]
  intro x hx
  obtain ⟨j, hj, rfl⟩ := List.getElem_of_mem hx
  rw [List.length_take] at hj
  have := h j (by omega)
  rw [List.getD_eq_getElem?_getD, List.getElem?_eq_getElem (by omega)] at this
  rw [List.getElem_take]
  simpa using this
theorem idxf_neg {α : Type} (p : α → Bool) : ∀ (l : List α) (i : Nat), idxf p l i = -1 ∨ ∃ k : Nat, k < l.length ∧ idxf p l i = ((i + k : Nat) : Int) ∧ (∀ d, p (l.getD k d) = true) ∧ ∀ d j, j < k → p (l.getD j d) = false
  | [], _ => .inl rfl
  | x :: xs, i => by
    cases h : p x with
    | true => exact .inr ⟨0, by simp, by simp [idxf, h], fun d => by simpa using h, fun d j hj => absurd hj (Nat.not_lt_zero _)⟩
    | false =>
      simp only [idxf, h, Bool.false_eq_true, if_false]
      rcases idxf_neg p xs (i + 1) with h1 | ⟨k, h1, h2, h3, h4⟩
      · exact .inl h1
      · refine .inr ⟨k + 1, by simpa using h1, by rw [h2]; congr 1; omega, fun d => by simpa using h3 d, fun d j hj => ?_⟩
        cases j with
        | zero => simpa using h
        | succ j => simpa using h4 d j (by omega)
def StayBut (W W' : World) (v : Value) : Prop := W.heap.size ≤ W'.heap.size ∧ ∀ k, k < W.heap.size → some k ≠ v.ownBlock → W'.heap[k]? = W.heap[k]?
theorem StayBut.below {W W' : World} (h : Below W.heap.size W W') (v : Value) : StayBut W W' v := ⟨h.size, fun k hk _ => h.block k hk⟩
theorem StayBut.step {W W1 W2 : World} {v : Value} (h : StayBut W W1 v) (hb : Below W1.heap.size W1 W2) : StayBut W W2 v := ⟨Nat.le_trans h.1 hb.size, fun k hk hv => (hb.block k (Nat.lt_of_lt_of_le hk h.1)).trans (h.2 k hk hv)⟩
theorem StayBut.grown {W W1 W2 : World} {v : Value} {g : Nat} (h : StayBut W W1 v) (hg : W1.grownBy W2 (some g)) (hv : v.ownBlock = some g) : StayBut W W2 v := ⟨Nat.le_trans h.1 hg.size, fun k hk hk2 => (hg.block k (Nat.lt_of_lt_of_le hk h.1) (by rw [← hv]; exact hk2)).trans (h.2 k hk hk2)⟩
theorem take_snoc {α : Type} (xs : List α) (k : Nat) (d : α) (h : k < xs.length) : xs.take (k + 1) = xs.take k ++ [xs.getD k d] := by
  rw [List.take_add_one, List.getD_eq_getElem?_getD, List.getElem?_eq_getElem h]
  rfl
set_option maxHeartbeats 8000000 in
set_option maxRecDepth 100000 in
theorem deleteFunc_Pair.calls (g : Nat) (lb : Array Value) (p : S76 → Bool) (base : Nat) (v : Value) (xs : List S76) (w0 W : World) (hr : Kd.R k76 76 W base (fun _ => True) v xs) (hB : Below base w0 W) (hbase : base ≤ W.heap.size)
    (eg : ∀ args w, (callFunc g args).run Try.prog w = .ok (.enter g args) w)
    (hp : ∀ (x : S76) (W' : World), StayBut W W' v → Calls Try.prog g (#[.agg #[.string x.f0, .string x.f1]] ++ lb) W' fun e w' => e = .returned (.bool (p x)) ∧ Below W'.heap.size W' w') :
    Calls Try.prog 114 #[v, .func (.func g) #[] lb] W fun e w' => ∃ v1, e = .returned v1 ∧ Kd.R k76 76 w' base (fun _ => True) v1 (xs.filter fun x => !p x) ∧ Below base w0 w' := by
  have hu := Try.underlying76
  obtain ⟨A, c, rfl, hc, hC⟩ := Kd.R_reads hr
  have hcall := indexFunc_Pair.calls g lb p A c xs W hC eg (fun x W' hb => (hp x W' (StayBut.below hb _)).mono fun e w' ⟨h1, h2⟩ => ⟨h1, hb.trans (h2.mono hb.size)⟩)
  have hany := idxf_any p xs 0
  rcases idxf_neg p xs 0 with h1 | ⟨k, hk, h2, h3, h4⟩
  · rw [h1] at hcall hany
    have hf : (xs.filter fun x => !p x) = xs := by
      rw [List.filter_eq_self]
      intro x hx
      have : ¬ xs.any p = true := by rw [← hany]; decide
      rw [List.any_eq_true] at this
      cases hq : p x with
      | true => exact absurd ⟨x, hx, hq⟩ this
      | false => rfl
    rw [hf]
    have HR := Qz.mk hr
    have HB := Qz.mk hB
    clear hr hC hB hp hany
    go_enter Try.func114, Try.ntmps114
    go_wp2_with fail
    (with_reducible refine hcall.mono ?_)
    rintro e w' ⟨rfl, hb'⟩
    go_wp2
    go_ret
    exact ⟨_, rfl, Kd.R_below HR.out hb', HB.out.trans (hb'.mono hbase)⟩
  · rw [h2, Nat.zero_add] at hcall
    obtain ⟨gg, cap, he, hgb, hgl, _⟩ := Kd.R_form hr (by omega)
    injection he with ea _ ec
    subst ea; subst ec
    have HR := Qz.mk hr
    have HB := Qz.mk hB
    have HP := Qz.mk hp
    have H3 := Qz.mk h3
    have H4 := Qz.mk h4
    clear hr hC hB hp hany h3 h4 h2
    have hsz : xs.length ≤ 9223372036854775807 := by
      obtain ⟨inner, ho⟩ := Kd.R_own HR.out
      rcases ho.2 with ⟨h, _⟩ | ⟨_, _, _, _, _, _, h1, h2, _⟩
      · cases h
      · exact Nat.le_trans h1 h2
    go_enter Try.func114, Try.ntmps114
    go_wp2_with fail
    (with_reducible refine hcall.mono ?_)
    rintro e w1 ⟨rfl, hb1⟩
    go_wp2
    go_loopg [5, 6] xs.length (fun gk s5 s6 wr => ∃ (i j : Nat) (dk : List S76), s5 = .int .i64 i ∧ s6 = .int .i64 j ∧ i < j ∧ j ≤ xs.length ∧ xs.length - j ≤ gk ∧ Qz (Kd.R k76 76 wr base (fun _ => True) (.slice (some ⟨gg, 0, none⟩) xs.length c) dk) ∧ Qz (dk.take i = (xs.take j).filter (fun x => !p x)) ∧ Qz (∀ q, j ≤ q → dk.getD q z76 = xs.getD q z76) ∧ Qz (Below base w0 wr) ∧ Qz (StayBut W wr (.slice (some ⟨gg, 0, none⟩) xs.length c)))
    case atStart =>
      refine ⟨k, k + 1, xs, rfl, by first | rfl | go_num, by omega, by omega, by omega, ⟨Kd.R_below HR.out hb1⟩, ⟨?_⟩, ⟨fun q _ => rfl⟩, ⟨HB.out.trans (hb1.mono hbase)⟩, ⟨StayBut.below hb1 _⟩⟩
      rw [take_snoc xs k z76 hk, List.filter_append, filter_idx p z76 xs k (H4.out _)]
      have h5 := H3.out z76
      rw [List.filter_cons, h5]
      simp
    case round =>
      obtain ⟨i, j, dk, rfl, rfl, hij, hjn, hg, HO, HT, HQ, HBr, HS⟩ := hrel
      by_cases hlt : j < xs.length
      · have hd : decide ((j : Int) < (xs.length : Int)) = true := decide_eq_true (by omega)
        obtain ⟨ce, hcl, hM, hcc, hfr⟩ := Kd.R_elem HO.out z76 (j : Int) (by omega) (by omega)
        obtain rfl := k76_openM hM
        rw [Int.toNat_natCast] at hcc hfr
        have HX : Qz (dk.getD j z76 = xs.getD j z76) := ⟨HQ.out j (Nat.le_refl _)⟩
        clear hM hcl
        generalize dk.getD j z76 = x at hcc HX
        have hx0 : wr.cell? ⟨gg, j * 2, none⟩ = some (.string x.f0) := hcc 0 _ rfl
        have hx1 : wr.cell? ⟨gg, j * 2 + 1, none⟩ = some (.string x.f1) := hcc 1 _ rfl
        clear hcc hfr
        cases hq : p x with
        | true =>
          go_wp2_with fail
          (with_reducible refine (HP.out x _ ?hH).mono ?_)
          case hH => exact HS.out.step (qc (Below.refl _ _) _)
          rintro e w2 ⟨rfl, hb2⟩
          have HBX : Below wr.heap.size wr w2 := (qc (Below.refl _ _) _).trans (hb2.mono (by simp))
          rw [hq]
          have HQ' := Qz.mk hq
          clear hq
          go_wp2
          go_roundg (xs.length - (j + 1))
          case measure => omega
          case rel =>
            refine ⟨i, j + 1, dk, rfl, by first | rfl | go_num, by omega, by omega, Nat.le_refl _, ⟨Kd.R_below HO.out HBX⟩, ⟨?_⟩, ⟨fun q hq => HQ.out q (by omega)⟩, ⟨HBr.out.trans (HBX.mono (Nat.le_trans hbase HS.out.1))⟩, ⟨HS.out.step HBX⟩⟩
            rw [HT.out, take_snoc xs j z76 hlt, List.filter_append, ← HX.out, List.filter_cons, HQ'.out]
            simp
        | false =>
          go_wp2_with fail
          (with_reducible refine (HP.out x _ ?hH).mono ?_)
          case hH => exact HS.out.step (qc (Below.refl _ _) _)
          rintro e w2 ⟨rfl, hb2⟩
          have HBX : Below wr.heap.size wr w2 := (qc (Below.refl _ _) _).trans (hb2.mono (by simp))
          rw [hq]
          have HQ' := Qz.mk hq
          clear hq
          have hv0 : w2.cell? ⟨wr.heap.size, 0, none⟩ = some (.string x.f0) := (hb2.cell (p := ⟨wr.heap.size, 0, none⟩) (by simp)).trans (by simp)
          have hv1 : w2.cell? ⟨wr.heap.size, 1, none⟩ = some (.string x.f1) := (hb2.cell (p := ⟨wr.heap.size, 1, none⟩) (by simp)).trans (by simp)
          have HO2 := Qz.mk (Kd.R_below HO.out HBX)
          have HB2 := Qz.mk (HBr.out.trans (HBX.mono (Nat.le_trans hbase HS.out.1)))
          have HS2 := Qz.mk (HS.out.step HBX)
          clear hx0 hx1 HO HBr HS hb2 HBX
          obtain ⟨ce, hcl, hM, hcc, hfr⟩ := Kd.R_elem HO2.out z76 (i : Int) (by omega) (by omega)
          obtain rfl := k76_openM hM
          have HC2 := Qz.mk hcc
          clear hM hcl hfr hcc
          go_wp2_with (first | ((with_reducible refine gate_ (.store 76 (.tmp 33) (.tmp 32)) rfl ?_); refine Kd.R_store k76 (w0 := w0) base rfl rfl 76 (.tmp 33) (.tmp 32) rfl 76 (i : Int) 0 dk x (.agg #[.string x.f0, .string x.f1]) [.string x.f0, .string x.f1] _ (fun _ => True) (fun _ => False) rfl (by rw [Int.toNat_natCast]; rfl) rfl rfl (show (Try.prog.info? 76).map (·.size) = some 2 from by kernel_rfl) (by intro q hq; simp at hq; rcases hq with rfl | rfl <;> rfl) HO2.out (by omega) (by omega) rfl HC2.out (show 2 ≤ 2 from Nat.le_refl _) (k76_mkM _ _ _ x) (fun _ hk => hk.elim) HB2.out ?_; intro w3 hR3 hB3 hg3))
          go_roundg (xs.length - (j + 1))
          case measure => omega
          case rel =>
            refine ⟨i + 1, j + 1, dk.set i x, by first | rfl | go_num, by first | rfl | go_num, by omega, by omega, Nat.le_refl _, ⟨by rw [Int.toNat_natCast] at hR3; exact hR3⟩, ⟨?_⟩, ⟨fun q hq => ?_⟩, ⟨hB3⟩, ⟨HS2.out.grown hg3 rfl⟩⟩
            · have hdl : dk.length = xs.length := (Kd.R_reads' HO2.out).1.symm
              rw [set_take dk i x (by omega), HT.out, take_snoc xs j z76 hlt, List.filter_append, ← HX.out, List.filter_cons, HQ'.out]
              simp
            · rw [List.getD_eq_getElem?_getD, List.getElem?_set_ne (by omega), ← List.getD_eq_getElem?_getD]
              exact HQ.out q (by omega)
      · have hd : decide ((j : Int) < (xs.length : Int)) = false := decide_eq_false (by omega)
        obtain rfl : j = xs.length := by omega
        obtain ⟨W3, hcl, hR3, hg3⟩ := R_clear (P := Try.prog) k76 HO.out i (by omega) 71 (.agg #[.string ⟨#[]⟩, .string ⟨#[]⟩]) Try.underlying71 (fun w => by kernel_rfl) rfl (by decide) (by intro q hq; simp [Value.cells] at hq; rcases hq with rfl | rfl <;> rfl) (some ⟨gg, i * 2, none⟩) (fun _ => rfl) (c - i)
        have hcl0 := hcl 0
        clear hcl
        go_wp2
        go_ret
        have ht := HT.out
        rw [List.take_length] at ht
        rw [← ht]
        exact ⟨_, rfl, hR3, HBr.out.grown hg3 (Nat.le_trans hbase HS.out.1) (fun q hq => by injection hq with hq; omega)⟩
end Go.Proofs.Ytbojfnijgmppbaa.P
end

section
namespace Go.Proofs.Ytbojfnijgmppbaa.Pure
open Go.RowKit Go.Proofs.YtbojfnijgmppbaaW.PrintWords Go.Proofs.YtbojfnijgmppbaaW.PrintLast Go.Proofs.YtbojfnijgmppbaaW.PrintMore
open Go.Proofs.Ytbojfnijgmppbaa.P
set_option linter.unusedVariables false
set_option linter.unusedSimpArgs false
theorem drawGet_ev {l : List Int} (h : okc l) : ∃ r, Ev (fun k => spec_DrawMemGet.f k l) r ∧ r.1.length ≤ 13 := by
  obtain ⟨r1, h1, hl1, hp1⟩ := dentries_ev h (okp0 l) 12 (by omega) (by omega)
  obtain ⟨r2, h2, _, hp2⟩ := duser_ev h hp1
  obtain ⟨r3, h3, _, hp3⟩ := off_ev h hp2 0 14 (by omega) (by omega) (by omega)
  refine ⟨(r1.1, r2.1, r3.1), ?_, by simp only []; omega⟩
  unfold spec_DrawMemGet.f
  exact Ev.bindS rfl (Ev.bind h1 (Ev.bindS h2 (Ev.bind h3 (Ev.now _))))
theorem keyCmp_ev (x y : E_) (hx : isEx x) (hy : isEx y) : Ev (fun k => impl_KeyCmp.f k x.f0.f0 x.f0.f1 x.f0.f2 y.f0.f0 y.f0.f1 y.f0.f2) (ecmp x y) := by
  unfold impl_KeyCmp.f
  exact Ev.bindS (keyOk_ev _ _ _) (Ev.pos (decide_eq_true hx.1) (Ev.bindS (keyOk_ev _ _ _) (Ev.pos (decide_eq_true hy.1) (Ev.bind (cmpKeys_ev _ _ _ _ _ _) (Ev.now _)))))
theorem hasText_ev (us : List ByteArray) (u : ByteArray) (hu : us.length ≤ 400) (h : u ∈ us) : Ev (fun k => laws_hasText.f k us u) true := by
  unfold laws_hasText.f
  have key : ∀ i, i ≤ us.length → u ∈ us.drop i → Ev (fun k => laws_hasText.l0 k us u (i : Int)) true := by
    refine downTo us.length (fun h => by rw [List.drop_length] at h; cases h) ?_
    intro i hi ih hm
    have hr : rdOf ByteArray.empty us (i : Int) = us[i] := by
      unfold rdOf
      rw [Int.toNat_natCast, List.getD_eq_getElem?_getD, List.getElem?_eq_getElem hi]
      rfl
    refine Ev.step (fun k => laws_hasText.l0.eq_2 ..) ?_
    rw [hr, wsucc (show i < 4611686018427387904 by omega)]
    refine Ev.pos (by omega) (Ev.pos (by omega) ?_)
    by_cases c : us[i].toList = u.toList
    · exact Ev.pos c (Ev.now _)
    · refine Ev.neg c (ih ?_)
      rw [List.drop_eq_getElem_cons hi] at hm
      rcases List.mem_cons.1 hm with hm | hm
      · exact absurd (by rw [hm]) c
      · exact hm
  exact key 0 (Nat.zero_le _) (by simpa using h)
theorem ug_has : ∀ (l : List E_) (c : ByteArray), ∀ e ∈ l, e.f0.f0 = c ∨ e.f0.f0 ∈ ug c l
  | [], _, _, h => by cases h
  | x :: xs, c, e, h => by
    rw [ug]
    by_cases hx : x.f0.f0 = c
    · rw [if_pos hx]
      rcases List.mem_cons.1 h with h | h
      · exact .inl (h ▸ hx)
      · exact ug_has xs c e h
    · rw [if_neg hx]
      rcases List.mem_cons.1 h with h | h
      · exact .inr (by rw [h]; exact List.mem_cons_self)
      · rcases ug_has xs x.f0.f0 e h with h2 | h2
        · exact .inr (by rw [h2]; exact List.mem_cons_self)
        · exact .inr (List.mem_cons_of_mem _ h2)
theorem users_has (l : List E_) (e : E_) (h : e ∈ l) : e.f0.f0 ∈ usersOf l := by
  rw [uu_uf]
  cases l with
  | nil => cases h
  | cons x xs =>
    rw [uf]
    rcases List.mem_cons.1 h with h | h
    · rw [h]; exact List.mem_cons_self
    · rcases ug_has xs x.f0.f0 e h with h2 | h2
      · rw [h2]; exact List.mem_cons_self
      · exact List.mem_cons_of_mem _ h2
theorem ug_sorted : ∀ (l : List E_) (c : ByteArray), srt l → (ug c l).Pairwise fun a b => tless a b = true
  | [], _, _ => List.Pairwise.nil
  | x :: xs, c, h => by
    have h' := List.pairwise_cons.1 h
    rw [ug]
    split
    · exact ug_sorted xs c h'.2
    · exact List.pairwise_cons.2 ⟨ug_ne xs x.f0.f0 h'.2 h'.1, ug_sorted xs _ h'.2⟩
theorem users_sorted {l : List E_} (h : srt l) : (usersOf l).Pairwise fun a b => tless a b = true := by
  rw [uu_uf]
  cases l with
  | nil => exact List.Pairwise.nil
  | cons x xs =>
    have h' := List.pairwise_cons.1 h
    exact List.pairwise_cons.2 ⟨ug_ne xs x.f0.f0 h'.2 h'.1, ug_sorted xs _ h'.2⟩
def bst (idx : Int) (i : Nat) : Int := if 0 ≤ idx ∧ idx < (i : Int) then idx else -1
theorem FnGot : laws_FnGot.Pure := by
  intro l _ _ hb
  refine Ev.rounds (g := fun k => laws_FnGot.f k l) ?_
  unfold laws_FnGot.f
  refine Ev.bindS (a := decide ((l.length : Int) > 1048576)) rfl ?_
  by_cases big : (l.length : Int) > 1048576
  · exact Ev.pos (decide_eq_true big) (Ev.now _)
  · have hc := byteOk (l := l) (by omega) hb
    refine Ev.neg (by simpa using big) ?_
    obtain ⟨d, hd, hd1⟩ := drawGet_ev hc
    obtain ⟨l, u, s⟩ := d
    simp only [] at hd1
    have hm := memGet_ev l (by omega) u s
    have hm2 := sMemGet_ev l (by omega) u s
    refine Ev.bind hd (Ev.bind hm (Ev.bind hm2 (Ev.pos rfl (Ev.pos rfl (Ev.bind (sEntriesOk_ev l (by omega)) ?_)))))
    by_cases c : isRow l
    · rw [decide_eq_true c]
      refine Ev.step (fun k => laws_FnGot.j0.eq_2 ..) ?_
      refine Ev.neg (by decide) ?_
      have hlen := c.1
      have hmg : mgV l u s = gotV l u s := if_pos c
      rw [hmg]
      have hE : ∀ j, (h : j < l.length) → isEx l[j] := fun j h => (c.2 j (Nat.zero_le _) h).1
      have hul : (usersOf l).length ≤ 400 := Nat.le_trans (uu_len l l.length) hlen
      have fin : ∀ (x10 : Int), ((x10 = -1 ∧ l.find? (lookp u s) = none) ∨ ∃ (k : Nat) (h : k < l.length), x10 = (k : Int) ∧ l.find? (lookp u s) = some l[k]) →
          ∀ j : Int, ((usersOf l).length : Int) ≤ j → Ev (fun k => laws_FnGot.l2 k l (gotV l u s).1 (gotV l u s).2 x10 (usersOf l) j) true := by
        intro x10 hx j hj
        refine Ev.step (fun k => laws_FnGot.l2.eq_2 ..) ?_
        refine Ev.neg (by omega) ?_
        rcases hx with ⟨rfl, hf⟩ | ⟨k, hk, rfl, hf⟩
        · refine Ev.pos (by omega) ((Ev.now _).eqr ?_)
          unfold gotV
          rw [hf]
          rfl
        · rw [rdE l k hk]
          refine Ev.neg (by omega) (Ev.pos (by omega) (Ev.pos (by omega) ?_))
          have he := hE k hk
          unfold gotV
          rw [hf]
          unfold isEx isE isK at he
          simp only []
          by_cases k0 : l[k].f0.f2 = 0
          · have hv : l[k].f1.toList = [] := by
              rcases he.2.2 with h | h
              · omega
              · exact h
            rw [if_pos k0, k0]
            refine Ev.pos ?_ ((Ev.now _).eqr (beq_iff_eq.2 (by show (2 : Int) = _; unfold wrap64; omega)))
            rw [hv]
            exact (toList_toL _).trans rfl
          · have k1 : l[k].f0.f2 = 1 := by omega
            rw [if_neg k0, k1]
            exact Ev.pos rfl ((Ev.now _).eqr (beq_iff_eq.2 (by show (1 : Int) = _; unfold wrap64; omega)))
      have hl2 : ∀ (x10 : Int), ((x10 = -1 ∧ l.find? (lookp u s) = none) ∨ ∃ (k : Nat) (h : k < l.length), x10 = (k : Int) ∧ l.find? (lookp u s) = some l[k]) →
          ∀ j, 1 ≤ j → j ≤ (usersOf l).length → Ev (fun k => laws_FnGot.l2 k l (gotV l u s).1 (gotV l u s).2 x10 (usersOf l) (j : Int)) true := by
        intro x10 hx j hj1 hj
        have hso := List.pairwise_iff_getElem.1 (users_sorted (row_srt c.2))
        have := fin x10 hx _ (Int.le_refl _)
        clear fin
        generalize usersOf l = us at *
        have key : ∀ i, i ≤ us.length → 1 ≤ i → Ev (fun k => laws_FnGot.l2 k l (gotV l u s).1 (gotV l u s).2 x10 us (i : Int)) true := by
          refine downTo us.length (fun _ => this) ?_
          intro i hi ih h1
          have hr : rdOf ByteArray.empty us (i : Int) = us[i] := by
            unfold rdOf
            rw [Int.toNat_natCast, List.getD_eq_getElem?_getD, List.getElem?_eq_getElem hi]
            rfl
          have hr2 : rdOf ByteArray.empty us (wrap64 ((i : Int) - 1)) = us[i - 1] := by
            rw [wid (by omega) (by omega)]
            unfold rdOf
            rw [show ((i : Int) - 1).toNat = i - 1 from by omega, List.getD_eq_getElem?_getD, List.getElem?_eq_getElem (by omega)]
            rfl
          refine Ev.step (fun k => laws_FnGot.l2.eq_2 ..) ?_
          rw [hr, hr2, wsucc (show i < 4611686018427387904 by omega), wid (x := (i : Int) - 1) (by omega) (by omega)]
          exact Ev.pos (by omega) (Ev.pos (by omega) (Ev.pos (by omega) (Ev.pos (by omega) (Ev.pos (hso (i - 1) i (by omega) hi (by omega)) (ih (by omega))))))
        exact key j hj hj1
      have hl2' : ∀ (x10 : Int), ((x10 = -1 ∧ l.find? (lookp u s) = none) ∨ ∃ (k : Nat) (h : k < l.length), x10 = (k : Int) ∧ l.find? (lookp u s) = some l[k]) →
          Ev (fun k => laws_FnGot.l2 k l (gotV l u s).1 (gotV l u s).2 x10 (usersOf l) 1) true := by
        intro x10 hx
        rcases Nat.lt_or_ge 0 (usersOf l).length with h | h
        · exact hl2 x10 hx 1 (Nat.le_refl _) h
        · exact fin x10 hx 1 (by omega)
      have hl1 : ∀ (x10 : Int), ((x10 = -1 ∧ l.find? (lookp u s) = none) ∨ ∃ (k : Nat) (h : k < l.length), x10 = (k : Int) ∧ l.find? (lookp u s) = some l[k]) →
          Ev (fun k => laws_FnGot.l1 k l (gotV l u s).1 (gotV l u s).2 x10 (usersOf l) 0) true := by
        intro x10 hx
        have key : ∀ i, i ≤ l.length → Ev (fun k => laws_FnGot.l1 k l (gotV l u s).1 (gotV l u s).2 x10 (usersOf l) (i : Int)) true := by
          refine downTo l.length ?_ ?_
          · refine Ev.step (fun k => laws_FnGot.l1.eq_2 ..) ?_
            exact Ev.neg (by omega) (hl2' x10 hx)
          · intro i hi ih
            refine Ev.step (fun k => laws_FnGot.l1.eq_2 ..) ?_
            rw [rdE l i hi, wsucc (show i < 4611686018427387904 by omega)]
            exact Ev.pos (by omega) (Ev.pos (by omega) (Ev.bind (hasText_ev _ _ hul (users_has l _ (List.getElem_mem hi))) (Ev.pos rfl ih)))
        exact key 0 (Nat.zero_le _)
      have hmu : Ev (fun k => impl_MemUsers.f k l) (usersOf l) := (memUsers_ev l (by omega)).eqr (if_pos c)
      generalize hidx : idxf (lookp u s) l 0 = idx
      have hdone : ∀ x10, x10 = bst idx l.length → (x10 = -1 ∧ l.find? (lookp u s) = none) ∨ ∃ (k : Nat) (h : k < l.length), x10 = (k : Int) ∧ l.find? (lookp u s) = some l[k] := by
        intro x10 hx
        rcases find_idxf (lookp u s) l 0 with ⟨h1, h2⟩ | ⟨k, hk, h1, h2⟩
        · rw [hidx] at h2
          exact .inl ⟨by rw [hx, bst, if_neg (by omega)], h1⟩
        · rw [hidx, Nat.zero_add] at h2
          exact .inr ⟨k, hk, by rw [hx, bst, if_pos (by omega), h2], h1⟩
      have key : ∀ i, i ≤ l.length → Ev (fun k => laws_FnGot.l0 k l u s (gotV l u s).1 (gotV l u s).2 (bst idx i) (i : Int)) true := by
        refine downTo l.length ?_ ?_
        · refine Ev.step (fun k => laws_FnGot.l0.eq_2 ..) ?_
          exact Ev.neg (by omega) (Ev.bind hmu (hl1 _ (hdone _ rfl)))
        · intro i hi ih
          have hp : lookp u s l[i] = (l[i].f0.f0.toList == u.toList && decide (l[i].f0.f1 ≤ s)) := rfl
          have hno : lookp u s l[i] = false → bst idx i = bst idx (i + 1) := by
            intro hq
            unfold bst
            rcases idxf_neg (lookp u s) l 0 with h2 | ⟨k, hk, h2, h3, h4⟩
            · rw [hidx] at h2
              rw [if_neg (by omega), if_neg (by omega)]
            · rw [hidx, Nat.zero_add] at h2
              have hne : k ≠ i := fun e => by
                have := h3 l[i]
                rw [e, List.getD_eq_getElem?_getD, List.getElem?_eq_getElem hi] at this
                rw [show (some l[i]).getD l[i] = l[i] from rfl, hq] at this
                cases this
              by_cases hki : k < i
              · rw [if_pos (by omega), if_pos (by omega)]
              · rw [if_neg (by omega), if_neg (by omega)]
          refine Ev.step (fun k => laws_FnGot.l0.eq_2 ..) ?_
          rw [rdE l i hi, wsucc (show i < 4611686018427387904 by omega)]
          refine Ev.pos (by omega) (Ev.pos (by omega) ?_)
          by_cases c1 : l[i].f0.f0.toList = u.toList
          · refine Ev.pos c1 ?_
            by_cases c2 : l[i].f0.f1 ≤ s
            · refine Ev.pos c2 ?_
              have hq : lookp u s l[i] = true := by rw [hp, Bool.and_eq_true]; exact ⟨beq_iff_eq.2 c1, decide_eq_true c2⟩
              rcases idxf_neg (lookp u s) l 0 with h2 | ⟨k, hk, h2, h3, h4⟩
              · exfalso
                rcases find_idxf (lookp u s) l 0 with ⟨h5, _⟩ | ⟨k, hk, _, h6⟩
                · have := List.find?_eq_none.1 h5 l[i] (List.getElem_mem hi)
                  exact this hq
                · omega
              · rw [hidx, Nat.zero_add] at h2
                have hki : k ≤ i := by
                  rcases Nat.lt_or_ge i k with h | h
                  · have := h4 l[i] i h
                    rw [List.getD_eq_getElem?_getD, List.getElem?_eq_getElem hi, show (some l[i]).getD l[i] = l[i] from rfl, hq] at this
                    cases this
                  · exact h
                by_cases e : k = i
                · have h5 : bst idx i = -1 := by unfold bst; rw [if_neg (by omega)]
                  have h6 : bst idx (i + 1) = (i : Int) := by unfold bst; rw [if_pos (by omega)]; omega
                  rw [h5]
                  rw [h6] at ih
                  exact Ev.pos (by omega) ih
                · have h5 : bst idx i = (k : Int) := by unfold bst; rw [if_pos (by omega)]; omega
                  have h6 : bst idx (i + 1) = (k : Int) := by unfold bst; rw [if_pos (by omega)]; omega
                  rw [h5, rdE l k hk]
                  rw [h6] at ih
                  have hlt := row_lt c.2 (i - k - 1) k (by omega)
                  have e2 : k + (i - k - 1) + 1 = i := by omega
                  simp only [e2] at hlt
                  refine Ev.neg (by omega) (Ev.pos (by omega) (Ev.pos (by omega) (Ev.bind (keyCmp_ev l[i] l[k] (hE i hi) (hE k hk)) (Ev.neg (fun h => ?_) ih))))
                  have h7 := kcmp_trans hlt h
                  have : kcmp l[k].f0.f0 l[k].f0.f1 l[k].f0.f2 l[k].f0.f0 l[k].f0.f1 l[k].f0.f2 = 0 := (kcmp_zero _ _ _ _ _ _).2 ⟨rfl, rfl, rfl⟩
                  omega
            · refine Ev.neg c2 ?_
              rw [hno (by rw [hp, decide_eq_false c2, Bool.and_false])]
              exact ih
          · refine Ev.neg c1 ?_
            rw [hno (by rw [hp, show (l[i].f0.f0.toList == u.toList) = false from beq_eq_false_iff_ne.2 c1, Bool.false_and])]
            exact ih
      have := key 0 (Nat.zero_le _)
      rw [show bst idx 0 = -1 from by unfold bst; rw [if_neg (by omega)]] at this
      exact this
    · rw [decide_eq_false c]
      refine Ev.step (fun k => laws_FnGot.j0.eq_2 ..) ?_
      exact Ev.pos (by decide) (Ev.pos rfl ((Ev.now _).eqr (by simp)))
end Go.Proofs.Ytbojfnijgmppbaa.Pure
end
