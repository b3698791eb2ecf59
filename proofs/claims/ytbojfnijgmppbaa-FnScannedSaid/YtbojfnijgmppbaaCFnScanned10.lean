/- Proved: the law FnScanned of the given program returns true for every input of its Go types and leaves each argument as it was; no condition. (Part 11 of 13.) -/
import Derived.Test.YtbojfnijgmppbaaCFnScanned4
import Derived.Test.YtbojfnijgmppbaaCFnScanned7
import Derived.Test.YtbojfnijgmppbaaCFnScanned8
import Derived.Test.YtbojfnijgmppbaaCFnScanned9
import Derived.Lib.EndianBits
import Derived.Test.YtbojfnijgmppbaaCFnScanned5
import Derived.Test.YtbojfnijgmppbaaCFnScanned0
import Derived.Test.YtbojfnijgmppbaaCFnScanned6
section
namespace Go.Proofs.Ytbojfnijgmppbaa.P
open Go.RowKit Go.Proofs.YtbojfnijgmppbaaW.PrintWords Go.Proofs.YtbojfnijgmppbaaW.PrintLast Go.Proofs.YtbojfnijgmppbaaW.PrintMore
attribute [local go_sem] str_gtr str_leq str_geq max2_int min2_int max_two min_two max_three min_three max_four min_four
set_option linter.unusedVariables false
set_option linter.unusedSimpArgs false
def okc (l : List Int) : Prop := l.length ≤ 1048576 ∧ ∀ x ∈ l, 0 ≤ x ∧ x ≤ 255
def okp (l : List Int) (p : Int) : Prop := 0 ≤ p ∧ p ≤ (l.length : Int)
theorem okc_rd {l : List Int} (h : okc l) (i : Int) : 0 ≤ rd l i ∧ rd l i ≤ 255 := by
  unfold rd
  rw [List.getD_eq_getElem?_getD]
  by_cases c : i.toNat < l.length
  · rw [List.getElem?_eq_getElem c]
    exact h.2 _ (List.getElem_mem c)
  · rw [List.getElem?_eq_none (by omega)]
    simp
theorem next_ev {l : List Int} {p : Int} (h : okc l) (hp : okp l p) : ∃ r, spec_l1Rd_next.f l p = some r ∧ (0 ≤ r.1 ∧ r.1 ≤ 255) ∧ okp l r.2 := by
  obtain ⟨h1, h2⟩ := hp
  have hl := h.1
  unfold spec_l1Rd_next.f
  by_cases c : p ≥ (l.length : Int)
  · exact ⟨_, if_pos c, by simp, h1, h2⟩
  · have e1 : wrap64 (p + 1) = p + 1 := wid (by omega) (by omega)
    have e2 : wrap64 (p + 1 - 1) = p := by rw [wid (by omega) (by omega)]; omega
    obtain ⟨r0, r1⟩ := okc_rd h p
    rw [if_neg c, e1, e2, if_pos h1, if_pos (by omega)]
    refine ⟨_, rfl, ?_, ?_⟩
    · show 0 ≤ wrap64 (rd l p) ∧ wrap64 (rd l p) ≤ 255
      rw [wid (by omega) (by omega)]
      exact ⟨r0, r1⟩
    · exact ⟨by show 0 ≤ p + 1; omega, by show p + 1 ≤ _; omega⟩
theorem below_ev {l : List Int} {p : Int} (h : okc l) (hp : okp l p) (n : Int) (hn : 1 ≤ n) : ∃ r, spec_l1Rd_below.f l p n = some r ∧ (0 ≤ r.1 ∧ r.1 < n) ∧ okp l r.2 := by
  unfold spec_l1Rd_below.f
  by_cases c : n ≤ 1
  · exact ⟨_, if_pos c, ⟨by simp, by show (0 : Int) < n; omega⟩, hp⟩
  · rw [if_neg c]
    obtain ⟨a, ha, ha1, ha2⟩ := next_ev h hp
    by_cases c2 : n ≤ 256
    · rw [if_pos c2, ha]
      refine ⟨(Int.tmod a.1 n, a.2), by rw [Option.bind_some, if_neg (by omega)], ?_, ha2⟩
      show 0 ≤ Int.tmod a.1 n ∧ Int.tmod a.1 n < n
      rw [Int.tmod_eq_emod_of_nonneg ha1.1]
      exact ⟨Int.emod_nonneg _ (by omega), Int.emod_lt_of_pos _ (by omega)⟩
    · obtain ⟨b, hb, hb1, hb2⟩ := next_ev h ha2
      rw [if_neg c2, ha, Option.bind_some, hb, Option.bind_some, if_neg (by omega)]
      refine ⟨_, rfl, ?_, hb2⟩
      show 0 ≤ Int.tmod (wrap64 (wrap64 (a.1 * 256) + b.1)) n ∧ Int.tmod (wrap64 (wrap64 (a.1 * 256) + b.1)) n < n
      rw [wid (x := a.1 * 256) (by omega) (by omega), wid (by omega) (by omega), Int.tmod_eq_emod_of_nonneg (by omega)]
      exact ⟨Int.emod_nonneg _ (by omega), Int.emod_lt_of_pos _ (by omega)⟩
theorem once_ev {l : List Int} {p : Int} (h : okc l) (hp : okp l p) (n : Int) (hn : 1 ≤ n) : ∃ r, spec_l1Rd_once.f l p n = some r ∧ okp l r.2 := by
  obtain ⟨a, ha, _, ha2⟩ := below_ev h hp n hn
  unfold spec_l1Rd_once.f
  rw [ha]
  exact ⟨_, rfl, ha2⟩
theorem bits_u64 (o : BinOp) (a b : Int) : 0 ≤ Go.bits o .u64 a b ∧ Go.bits o .u64 a b ≤ 18446744073709551615 := by
  unfold Go.bits
  simp only [IntKind.wrap_u64]
  omega
theorem word_ev {l : List Int} {p : Int} (h : okc l) (hp : okp l p) : ∃ r, Ev (fun k => spec_l1Rd_word.f k l p) r ∧ (0 ≤ r.1 ∧ r.1 ≤ 18446744073709551615) ∧ okp l r.2 := by
  have key : ∀ i : Nat, i ≤ 8 → ∀ (x p : Int), 0 ≤ x ∧ x ≤ 18446744073709551615 → okp l p → ∃ r, Ev (fun k => spec_l1Rd_word.l0 k x (i : Int) l p) r ∧ (0 ≤ r.1 ∧ r.1 ≤ 18446744073709551615) ∧ okp l r.2 := by
    refine downTo 8 ?_ ?_
    · intro x p hx hp
      exact ⟨(x, p), Ev.step (fun k => spec_l1Rd_word.l0.eq_2 ..) (Ev.neg (by omega) (Ev.now _)), hx, hp⟩
    · intro i hi ih x p hx hp
      obtain ⟨a, ha, _, ha2⟩ := next_ev h hp
      obtain ⟨r, hr, hr2⟩ := ih _ a.2 (bits_u64 .or (IntKind.u64.wrap (x * 256)) (IntKind.u64.wrap a.1)) ha2
      refine ⟨r, Ev.step (fun k => spec_l1Rd_word.l0.eq_2 ..) (Ev.pos (by omega) (Ev.bindS ha ?_)), hr2⟩
      rw [wsucc (by omega)]
      exact hr
  exact key 0 (by omega) 0 p (by omega) hp
theorem bytes_ev {l : List Int} {p : Int} (h : okc l) (hp : okp l p) (n : Int) (hn : 0 ≤ n) (hn2 : n ≤ 1000000) : ∃ r, Ev (fun k => spec_l1Rd_bytes.f k l p n) r ∧ (r.1.size : Int) ≤ n ∧ okp l r.2 := by
  have key : ∀ (i : Nat) (acc : List Int) (p : Int), (acc.length : Int) + i ≤ 1000000 → okp l p → ∃ r, Ev (fun k => spec_l1Rd_bytes.l0 k acc (i : Int) l p) r ∧ r.1.size = acc.length + i ∧ okp l r.2 := by
    intro i
    induction i with
    | zero =>
      intro acc p ha hp
      refine ⟨(strOfNums acc, p), Ev.step (fun k => spec_l1Rd_bytes.l0.eq_2 ..) (Ev.neg (by omega) (Ev.now _)), ?_, hp⟩
      show (strOfNums acc).size = acc.length + 0
      unfold strOfNums
      simp [ByteArray.size]
    | succ i ih =>
      intro acc p ha hp
      obtain ⟨a, ha', _, ha2⟩ := below_ev h hp 256 (by omega)
      obtain ⟨r, hr, hr1, hr2⟩ := ih (acc ++ [a.1 % 256]) a.2 (by simp only [List.length_append, List.length_cons, List.length_nil]; omega) ha2
      refine ⟨r, Ev.step (fun k => spec_l1Rd_bytes.l0.eq_2 ..) (Ev.pos (by omega) (Ev.bindS ha' (Ev.pos (by omega) ?_))), ?_, hr2⟩
      · rw [wid (by omega) (by omega), show (((i + 1 : Nat) : Int) - 1) = (i : Int) from by omega]
        exact hr
      · rw [hr1, List.length_append]
        simp only [List.length_cons, List.length_nil]
        omega
  obtain ⟨a, ha, ha1, ha2⟩ := below_ev h hp (n + 1) (by omega)
  obtain ⟨r, hr, hr1, hr2⟩ := key a.1.toNat [] a.2 (by simp; omega) ha2
  refine ⟨r, ?_, ?_, hr2⟩
  · unfold spec_l1Rd_bytes.f
    rw [wid (by omega) (by omega)]
    refine Ev.bindS ha ?_
    rw [show ((a.1.toNat : Nat) : Int) = a.1 from by omega] at hr
    exact hr
  · rw [hr1]
    simp only [List.length_nil]
    omega
theorem dtext_ev {l : List Int} {p : Int} (h : okc l) (hp : okp l p) : ∃ r, spec_l1Rd_text.f l p = some r ∧ (r.1.size ≤ 4) ∧ okp l r.2 := by
  obtain ⟨a, ha, ha1, ha2⟩ := below_ev h hp 12 (by omega)
  unfold spec_l1Rd_text.f
  rw [Option.bind_some, ha, Option.bind_some, if_pos ha1.1, if_pos (by simp only [List.length_cons, List.length_nil]; omega)]
  refine ⟨_, rfl, ?_, ha2⟩
  obtain ⟨m, hm⟩ : ∃ m : Nat, a.1 = m := ⟨a.1.toNat, by omega⟩
  have hlt : m < 12 := by omega
  simp only [hm]
  clear hm ha1 ha ha2
  revert m
  unfold rdOf
  simp only [Int.toNat_natCast]
  decide +kernel
theorem duser_ev {l : List Int} {p : Int} (h : okc l) (hp : okp l p) : ∃ r, spec_l1Rd_user.f l p = some r ∧ (isU r.1) ∧ okp l r.2 := by
  obtain ⟨a, ha, ha1, ha2⟩ := below_ev h hp 10 (by omega)
  unfold spec_l1Rd_user.f
  rw [Option.bind_some, ha, Option.bind_some, if_pos ha1.1, if_pos (by simp only [List.length_cons, List.length_nil]; omega)]
  refine ⟨_, rfl, ?_, ha2⟩
  obtain ⟨m, hm⟩ : ∃ m : Nat, a.1 = m := ⟨a.1.toNat, by omega⟩
  have hlt : m < 10 := by omega
  simp only [hm]
  clear hm ha1 ha ha2
  revert m
  unfold rdOf
  simp only [Int.toNat_natCast]
  decide +kernel
theorem dvalue_ev {l : List Int} {p : Int} (h : okc l) (hp : okp l p) : ∃ r, spec_l1Rd_value.f l p = some r ∧ (r.1.size ≤ 5) ∧ okp l r.2 := by
  obtain ⟨a, ha, ha1, ha2⟩ := below_ev h hp 5 (by omega)
  unfold spec_l1Rd_value.f
  rw [Option.bind_some, ha, Option.bind_some, if_pos ha1.1, if_pos (by simp only [List.length_cons, List.length_nil]; omega)]
  refine ⟨_, rfl, ?_, ha2⟩
  obtain ⟨m, hm⟩ : ∃ m : Nat, a.1 = m := ⟨a.1.toNat, by omega⟩
  have hlt : m < 5 := by omega
  simp only [hm]
  clear hm ha1 ha ha2
  revert m
  unfold rdOf
  simp only [Int.toNat_natCast]
  decide +kernel
theorem near_ev {l : List Int} {p : Int} (h : okc l) (hp : okp l p) (a b : Int) (hab : a ≤ b) (ha : -1000000000000000 ≤ a) (hb : b ≤ 1000000000000000) : ∃ r, Ev (fun k => spec_l1Rd_near.f k l p a b) r ∧ (a ≤ r.1 ∧ r.1 ≤ b) ∧ okp l r.2 := by
  unfold spec_l1Rd_near.f
  obtain ⟨x, hx, hx1, hx2⟩ := below_ev h hp 8 (by omega)
  by_cases c0 : x.1 = 0
  · exact ⟨_, Ev.bindS hx (Ev.pos c0 (Ev.now _)), ⟨Int.le_refl _, hab⟩, hx2⟩
  · by_cases c1 : x.1 = 1
    · exact ⟨_, Ev.bindS hx (Ev.neg c0 (Ev.pos c1 (Ev.now _))), ⟨hab, Int.le_refl _⟩, hx2⟩
    · obtain ⟨y, hy, hy1, hy2⟩ := word_ev h hx2
      have e : IntKind.u64.wrap (wrap64 (wrap64 (b - a) + 1)) = b - a + 1 := by
        rw [wid (x := b - a) (by omega) (by omega), wid (by omega) (by omega), uid (by omega) (by omega)]
      have m0 : 0 ≤ Int.tmod (y.1 / 2) (b - a + 1) ∧ Int.tmod (y.1 / 2) (b - a + 1) < b - a + 1 := by
        rw [Int.tmod_eq_emod_of_nonneg (by omega)]
        exact ⟨Int.emod_nonneg _ (by omega), Int.emod_lt_of_pos _ (by omega)⟩
      refine ⟨(a + Int.tmod (y.1 / 2) (b - a + 1), y.2), Ev.bindS hx (Ev.neg c0 (Ev.neg c1 (Ev.neg (by omega) (Ev.bind hy ?_)))), ⟨by show a ≤ a + _; omega, by show a + _ ≤ b; omega⟩, hy2⟩
      rw [e, wid (x := Int.tmod (y.1 / 2) (b - a + 1)) (by omega) (by omega), wid (by omega) (by omega)]
      exact Ev.neg (by omega) (Ev.now _)
theorem off_ev {l : List Int} {p : Int} (h : okc l) (hp : okp l p) (a b : Int) (hab : a ≤ b) (ha : -1000000000000000 ≤ a) (hb : b ≤ 1000000000000000) : ∃ r, Ev (fun k => spec_l1Rd_off.f k l p a b) r ∧ (-9223372036854775808 ≤ r.1 ∧ r.1 ≤ 9223372036854775807) ∧ okp l r.2 := by
  unfold spec_l1Rd_off.f
  obtain ⟨x, hx, hx2⟩ := once_ev h hp 24 (by omega)
  by_cases c0 : x.1 = true
  · obtain ⟨y, hy, hy1, hy2⟩ := below_ev h hx2 4 (by omega)
    refine ⟨_, Ev.bindS hx (Ev.pos c0 (Ev.bindS rfl (Ev.bindS hy (Ev.pos hy1.1 (Ev.pos (by simp only [List.length_cons, List.length_nil]; omega) (Ev.now _)))))), ?_, hy2⟩
    rw [wid (x := a - 1) (by omega) (by omega), wid (x := b + 1) (by omega) (by omega)]
    obtain ⟨m, hm⟩ : ∃ m : Nat, y.1 = m := ⟨y.1.toNat, by omega⟩
    have hlt : m < 4 := by omega
    simp only [hm]
    unfold rd
    rw [Int.toNat_natCast]
    match m, hlt with
    | 0, _ => show -9223372036854775808 ≤ a - 1 ∧ a - 1 ≤ 9223372036854775807; omega
    | 1, _ => show -9223372036854775808 ≤ b + 1 ∧ b + 1 ≤ 9223372036854775807; omega
    | 2, _ => show (-9223372036854775808 : Int) ≤ -9223372036854775808 ∧ (-9223372036854775808 : Int) ≤ 9223372036854775807; omega
    | 3, _ => show (-9223372036854775808 : Int) ≤ 9223372036854775807 ∧ (9223372036854775807 : Int) ≤ 9223372036854775807; omega
  · obtain ⟨y, hy, hy1, hy2⟩ := near_ev h hx2 a b hab ha hb
    exact ⟨_, Ev.bindS hx (Ev.neg c0 (Ev.bind hy (Ev.now _))), ⟨by omega, by omega⟩, hy2⟩
end Go.Proofs.Ytbojfnijgmppbaa.P
end

section
namespace Go.Proofs.Ytbojfnijgmppbaa.P
open Go.RowKit Go.Proofs.YtbojfnijgmppbaaW.PrintWords Go.Proofs.YtbojfnijgmppbaaW.PrintLast Go.Proofs.YtbojfnijgmppbaaW.PrintMore
attribute [local go_sem] str_gtr str_leq str_geq max2_int min2_int max_two min_two max_three min_three max_four min_four
set_option linter.unusedVariables false
set_option linter.unusedSimpArgs false
def isK (u : ByteArray) (seq kind : Int) : Prop := isU u ∧ (0 ≤ seq ∧ seq ≤ 1000000000000) ∧ 0 ≤ kind ∧ kind ≤ 1
instance (u : ByteArray) (seq kind : Int) : Decidable (isK u seq kind) := by unfold isK; infer_instance
def isE (u : ByteArray) (seq kind : Int) (v : ByteArray) : Prop := isK u seq kind ∧ v.size ≤ 200 ∧ (kind = 1 ∨ v.toList = [])
instance (u : ByteArray) (seq kind : Int) (v : ByteArray) : Decidable (isE u seq kind v) := by unfold isE; infer_instance
theorem beq_dec (a b : List UInt8) : (a == b) = decide (a = b) := by
  by_cases h : a = b <;> simp [h]
theorem keyOk_ev (u : ByteArray) (q d : Int) : impl_KeyOk.f u q d = some (decide (isK u q d)) := by
  unfold impl_KeyOk.f isK
  rw [isUser_ev, within_ev, within_ev]
  by_cases h : isU u
  · by_cases h2 : 0 ≤ q ∧ q ≤ 1000000000000
    · simp [h, h2]
    · simp [h, h2]
  · simp [h]
theorem sKeyOk_ev (u : ByteArray) (q d : Int) : spec_KeyOk.f u q d = some (decide (isK u q d)) := by
  unfold spec_KeyOk.f isK
  rw [l2User_ev, in_ev, in_ev]
  by_cases h : isU u
  · by_cases h2 : 0 ≤ q ∧ q ≤ 1000000000000
    · simp [h, h2]
    · simp [h, h2]
  · simp [h]
theorem entryOk_ev (u : ByteArray) (q d : Int) (v : ByteArray) : impl_EntryOk.f u q d v = some (decide (isE u q d v)) := by
  unfold impl_EntryOk.f isE
  rw [keyOk_ev]
  by_cases h : isK u q d
  · by_cases h2 : v.size ≤ 200
    · have h2' : (v.size : Int) ≤ 200 := by omega
      by_cases h3 : d = 1
      · subst h3
        simp [h, h2, h2']
      · simp only [h, h2, h2', h3, decide_true, Option.bind_some, if_true, if_false, true_and, false_or]
        congr 1
        exact beq_dec _ _
    · have h2' : ¬ (v.size : Int) ≤ 200 := by omega
      simp [h, h2, h2']
  · simp [h]
theorem sEntryOk_ev (u : ByteArray) (q d : Int) (v : ByteArray) : spec_EntryOk.f u q d v = some (decide (isE u q d v)) := by
  unfold spec_EntryOk.f isE
  rw [sKeyOk_ev]
  by_cases h : isK u q d
  · by_cases h2 : v.size ≤ 200
    · have h2' : (v.size : Int) ≤ 200 := by omega
      by_cases h3 : d = 1
      · subst h3
        simp [h, h2, h2']
      · simp only [h, h2, h2', h3, decide_true, Option.bind_some, if_true, if_false, true_and, false_or]
        congr 1
        exact beq_dec _ _
    · have h2' : ¬ (v.size : Int) ≤ 200 := by omega
      simp [h, h2, h2']
  · simp [h]
end Go.Proofs.Ytbojfnijgmppbaa.P
end

section
namespace Go.Proofs.Ytbojfnijgmppbaa.P
open Go.RowKit Go.Proofs.YtbojfnijgmppbaaW.PrintWords Go.Proofs.YtbojfnijgmppbaaW.PrintLast Go.Proofs.YtbojfnijgmppbaaW.PrintMore
attribute [local go_sem] str_gtr str_leq str_geq max2_int min2_int max_two min_two max_three min_three max_four min_four
set_option linter.unusedVariables false
set_option linter.unusedSimpArgs false
theorem bl_irrefl : ∀ a : List UInt8, Op.bytesLess a a = false
  | [] => by simp [Op.bytesLess]
  | a :: x => by
    have ih := bl_irrefl x
    have h1 : ¬ a < a := fun h => by have := UInt8.lt_iff_toNat_lt.1 h; omega
    simp [Op.bytesLess, ih, h1]
theorem bl_not {a b : List UInt8} (h : Op.bytesLess a b = true) : Op.bytesLess b a = false := by
  rw [← bytesLess_swap, h]
  rfl
theorem bl_eq {a b : List UInt8} (h : Op.bytesLess a b = false) (h' : Op.bytesLess b a = false) : a = b := by
  rw [← bytesLess_swap, h] at h'
  simpa using h'
theorem bl_cons (a b : UInt8) (x y : List UInt8) : Op.bytesLess (a :: x) (b :: y) = true ↔ a < b ∨ a = b ∧ Op.bytesLess x y = true := by
  rcases Nat.lt_trichotomy a.toNat b.toNat with h | h | h
  · have h1 : a < b := UInt8.lt_iff_toNat_lt.2 h
    simp [Op.bytesLess, h1]
  · have h1 : a = b := UInt8.toNat_inj.1 h
    subst h1
    have h2 : ¬ a < a := fun h => by have := UInt8.lt_iff_toNat_lt.1 h; omega
    simp [Op.bytesLess, h2]
  · have h1 : ¬ a < b := fun h' => by have := UInt8.lt_iff_toNat_lt.1 h'; omega
    have h2 : ¬ a = b := fun h' => by rw [h'] at h; omega
    simp [Op.bytesLess, h1, h2]
theorem bl_trans : ∀ {a b c : List UInt8}, Op.bytesLess a b = true → Op.bytesLess b c = true → Op.bytesLess a c = true
  | _, [], _, h, _ => by cases ‹List UInt8› <;> simp [Op.bytesLess] at h
  | [], b :: y, [], _, h => by simp [Op.bytesLess] at h
  | [], b :: y, c :: z, _, _ => by simp [Op.bytesLess]
  | a :: x, b :: y, [], _, h => by simp [Op.bytesLess] at h
  | a :: x, b :: y, c :: z, h, h' => by
    rw [bl_cons] at h h' ⊢
    rcases h with h | ⟨rfl, h⟩
    · rcases h' with h' | ⟨rfl, h'⟩
      · exact .inl (UInt8.lt_iff_toNat_lt.2 (by have := UInt8.lt_iff_toNat_lt.1 h; have := UInt8.lt_iff_toNat_lt.1 h'; omega))
      · exact .inl h
    · rcases h' with h' | ⟨rfl, h'⟩
      · exact .inl h'
      · exact .inr ⟨rfl, bl_trans h h'⟩
def tless (a b : ByteArray) : Bool := Op.bytesLess a.toList b.toList
theorem compareS_ev (a b : ByteArray) : cmp_Compare_string.f a b = some (if tless a b = true then -1 else if tless b a = true then 1 else 0) := by
  unfold cmp_Compare_string.f cmp_isNaN_string.f tless
  simp only [bne_self_eq_false, Option.bind_some, Bool.false_eq_true, if_false]
  split
  · rfl
  · split <;> rfl
theorem compareI_ev (a b : Int) : cmp_Compare_int64.f a b = some (if a < b then -1 else if b < a then 1 else 0) := by
  unfold cmp_Compare_int64.f cmp_isNaN_int64.f
  simp only [bne_self_eq_false, Option.bind_some, Bool.false_eq_true, if_false]
  split
  · rfl
  · by_cases h : b < a
    · rw [if_pos h, if_pos h]
    · rw [if_neg h, if_neg h]
theorem orInt_ev : ∀ (n : Nat) (l : List Int), l.length = n → n < 1000 → Ev (fun k => cmp_Or_int.f k l) ((l.find? fun x => x != 0).getD 0) := by
  intro n l hn hb
  have key : ∀ i, i ≤ l.length → Ev (fun k => cmp_Or_int.l0 k 0 l (l.length : Int) (i : Int)) (((l.drop i).find? fun x => x != 0).getD 0) := by
    refine downTo l.length ?_ ?_
    · refine Ev.step (fun k => cmp_Or_int.l0.eq_2 ..) (Ev.neg (by omega) ?_)
      rw [List.drop_length]
      exact Ev.now _
    · intro i hi ih
      have hr : rd l (i : Int) = l[i] := by
        unfold rd
        rw [Int.toNat_natCast, List.getD_eq_getElem?_getD, List.getElem?_eq_getElem hi]
        rfl
      rw [List.drop_eq_getElem_cons hi]
      refine Ev.step (fun k => cmp_Or_int.l0.eq_2 ..) (Ev.pos (by omega) (Ev.pos (by omega) (Ev.pos (by omega) ?_)))
      rw [hr, wsucc (by omega)]
      by_cases c : l[i] = 0
      · refine Ev.pos c ?_
        rw [List.find?_cons_of_neg (by simp [c])]
        exact ih
      · refine Ev.neg c ?_
        rw [List.find?_cons_of_pos (by simp [c])]
        exact Ev.now _
  exact key 0 (Nat.zero_le _)
def kcmp (u : ByteArray) (q d : Int) (u' : ByteArray) (q' d' : Int) : Int :=
  if tless u u' = true then -1 else if tless u' u = true then 1 else if q' < q then -1 else if q < q' then 1 else if d' < d then -1 else if d < d' then 1 else 0
theorem cmpKeys_ev (u : ByteArray) (q d : Int) (u' : ByteArray) (q' d' : Int) : Ev (fun k => impl_cmpKeys.f k u q d u' q' d') (kcmp u q d u' q' d') := by
  have h1 := compareS_ev u u'
  have h2 := compareI_ev q' q
  have h3 := compareI_ev d' d
  unfold impl_cmpKeys.f
  refine Ev.bindS h1 (Ev.bindS h2 (Ev.bindS h3 (Ev.bind (orInt_ev 3 _ rfl (by omega)) ((Ev.now _).eqr ?_))))
  unfold kcmp
  by_cases c1 : tless u u' = true
  · simp [c1]
  · by_cases c2 : tless u' u = true
    · simp [c1, c2]
    · by_cases c3 : q' < q
      · simp [c1, c2, c3]
      · by_cases c4 : q < q'
        · simp [c1, c2, c3, c4]
        · by_cases c5 : d' < d
          · simp [c1, c2, c3, c4, c5]
          · by_cases c6 : d < d'
            · simp [c1, c2, c3, c4, c5, c6]
            · simp [c1, c2, c3, c4, c5, c6]
theorem sKeyCmp_ev (u : ByteArray) (q d : Int) (u' : ByteArray) (q' d' : Int) : Ev (fun k => spec_KeyCmp.f k u q d u' q' d') (if isK u q d ∧ isK u' q' d' then kcmp u q d u' q' d' else 0) := by
  have h1 := sKeyOk_ev u q d
  have h2 := sKeyOk_ev u' q' d'
  have jt : Ev (fun k => spec_KeyCmp.j0 k true u q d u' q' d') 0 := Ev.step (fun k => spec_KeyCmp.j0.eq_2 ..) (Ev.pos rfl (Ev.now _))
  unfold spec_KeyCmp.f
  refine Ev.bindS h1 ?_
  by_cases c1 : isK u q d
  · refine Ev.pos (decide_eq_true c1) (Ev.bindS h2 ?_)
    by_cases c2 : isK u' q' d'
    · rw [decide_eq_true c2]
      refine Ev.eqr ?_ (if_pos ⟨c1, c2⟩).symm
      refine Ev.step (fun k => spec_KeyCmp.j0.eq_2 ..) (Ev.neg (by decide) ?_)
      have e : ∀ a b : ByteArray, Op.bytesLess a.toList b.toList = tless a b := fun _ _ => rfl
      rw [e]
      unfold kcmp
      by_cases k1 : tless u u' = true
      · have hne : u.toList ≠ u'.toList := fun h => by rw [← e, h, bl_irrefl] at k1; cases k1
        exact Ev.neg (by simp [hne]) (Ev.pos k1 ((Ev.now _).eqr (if_pos k1).symm))
      · by_cases k2 : tless u' u = true
        · have hne : u.toList ≠ u'.toList := fun h => by rw [← e, h, bl_irrefl] at k2; cases k2
          exact Ev.neg (by simp [hne]) (Ev.neg k1 (Ev.neg hne ((Ev.now _).eqr (by rw [if_neg k1, if_pos k2]))))
        · have heq : u.toList = u'.toList := bl_eq (by simpa [tless] using k1) (by simpa [tless] using k2)
          refine Ev.eqr ?_ (show (if q' < q then (-1 : Int) else if q < q' then 1 else if d' < d then -1 else if d < d' then 1 else 0) = _ from by rw [if_neg k1, if_neg k2])
          by_cases ce : q = q' ∧ d = d'
          · refine Ev.pos (by simp [heq, ce.1, ce.2]) ((Ev.now _).eqr ?_)
            rw [if_neg (by omega), if_neg (by omega), if_neg (by omega), if_neg (by omega)]
          · refine Ev.neg (by simp [heq]; omega) (Ev.neg k1 (Ev.pos heq ?_))
            by_cases k3 : q > q'
            · exact Ev.pos k3 ((Ev.now _).eqr (by rw [if_pos (by omega)]))
            · refine Ev.neg k3 ?_
              by_cases k4 : q = q'
              · refine Ev.pos k4 ?_
                by_cases k5 : d > d'
                · exact Ev.pos k5 ((Ev.now _).eqr (by rw [if_neg (by omega), if_neg (by omega), if_pos (by omega)]))
                · exact Ev.neg k5 ((Ev.now _).eqr (by rw [if_neg (by omega), if_neg (by omega), if_neg (by omega), if_pos (by omega)]))
              · exact Ev.neg k4 ((Ev.now _).eqr (by rw [if_neg (by omega), if_pos (by omega)]))
    · rw [decide_eq_false c2]
      exact jt.eqr (if_neg fun h => c2 h.2).symm
  · exact Ev.neg (by simpa using c1) (jt.eqr (if_neg fun h => c1 h.1).symm)
theorem kcmp_lt (u : ByteArray) (q d : Int) (u' : ByteArray) (q' d' : Int) : kcmp u q d u' q' d' < 0 ↔ tless u u' = true ∨ u = u' ∧ (q' < q ∨ q = q' ∧ d' < d) := by
  unfold kcmp
  by_cases k1 : tless u u' = true
  · simp [k1]
  · by_cases k2 : tless u' u = true
    · have hne : u ≠ u' := fun h => by rw [h] at k2; rw [tless, bl_irrefl] at k2; cases k2
      simp [k1, k2, hne]
    · have heq : u = u' := by
        have := bl_eq (a := u.toList) (b := u'.toList) (by simpa [tless] using k1) (by simpa [tless] using k2)
        rw [ByteArray.toList_eq, ByteArray.toList_eq] at this
        exact ByteArray.ext (Array.toList_inj.1 this)
      rw [if_neg k1, if_neg k2]
      subst heq
      simp only [k1, true_and, false_or]
      by_cases h1 : q' < q
      · simp [h1]
      · by_cases h2 : q < q'
        · rw [if_neg h1, if_pos h2]; constructor
          · intro h; omega
          · intro h; simp at h; omega
        · by_cases h3 : d' < d
          · rw [if_neg h1, if_neg h2, if_pos h3]; simp; omega
          · rw [if_neg h1, if_neg h2, if_neg h3]
            constructor
            · intro h; split at h <;> omega
            · intro h; simp at h; omega
def isEx (x : S48) : Prop := isE x.f0.f0 x.f0.f1 x.f0.f2 x.f1
instance (x : S48) : Decidable (isEx x) := by unfold isEx; infer_instance
def ecmp (x y : S48) : Int := kcmp x.f0.f0 x.f0.f1 x.f0.f2 y.f0.f0 y.f0.f1 y.f0.f2
theorem rdE (l : List S48) (i : Nat) (h : i < l.length) : rd_T48 l (i : Int) = l[i] := by
  unfold rd_T48
  rw [Int.toNat_natCast, List.getD_eq_getElem?_getD, List.getElem?_eq_getElem h]
  rfl
def rowFrom (l : List S48) (i : Nat) : Prop := ∀ j, i ≤ j → ∀ h : j < l.length, isEx l[j] ∧ (0 < j → ecmp (l[j - 1]'(by omega)) l[j] < 0)
noncomputable instance (l : List S48) (i : Nat) : Decidable (rowFrom l i) := Classical.propDecidable _
def isRow (l : List S48) : Prop := l.length ≤ 400 ∧ rowFrom l 0
noncomputable instance (l : List S48) : Decidable (isRow l) := Classical.propDecidable _
theorem rowFrom_step (l : List S48) (i : Nat) (h : i < l.length) : rowFrom l i ↔ (isEx l[i] ∧ (0 < i → ecmp (l[i - 1]'(by omega)) l[i] < 0)) ∧ rowFrom l (i + 1) := by
  constructor
  · exact fun hr => ⟨hr i (Nat.le_refl _) h, fun j hj hl => hr j (by omega) hl⟩
  · rintro ⟨h1, h2⟩ j hj hl
    by_cases e : j = i
    · subst e; exact h1
    · exact h2 j (by omega) hl
theorem entriesOk_ev (l : List S48) (hl : l.length < 2097152) : Ev (fun k => impl_EntriesOk.f k l) (decide (isRow l)) := by
  unfold impl_EntriesOk.f
  by_cases c : (l.length : Int) > 400
  · exact Ev.pos c ((Ev.now _).eqr (decide_eq_false fun h => by have := h.1; omega).symm)
  · have key : ∀ i, i ≤ l.length → (∀ h : 0 < i, isEx (l.getD (i - 1) z48)) → Ev (fun k => impl_EntriesOk.l0 k l l (l.length : Int) (i : Int)) (decide (rowFrom l i)) := by
      refine downTo l.length ?_ ?_
      · intro _
        exact Ev.step (fun k => impl_EntriesOk.l0.eq_2 ..) (Ev.neg (by omega) ((Ev.now _).eqr (decide_eq_true (show rowFrom l l.length from fun j h1 h2 => by omega)).symm))
      · intro i hi ih hp
        have hg : l.getD (i + 1 - 1) z48 = l[i] := by rw [Nat.add_sub_cancel, List.getD_eq_getElem?_getD, List.getElem?_eq_getElem hi]; rfl
        refine Ev.step (fun k => impl_EntriesOk.l0.eq_2 ..) (Ev.pos (by omega) (Ev.pos (by omega) ?_))
        refine Ev.pos (by omega) ?_
        rw [rdE l i hi]
        refine Ev.bindS (entryOk_ev l[i].f0.f0 l[i].f0.f1 l[i].f0.f2 l[i].f1) ?_
        by_cases ce : isE l[i].f0.f0 l[i].f0.f1 l[i].f0.f2 l[i].f1
        · refine Ev.pos (decide_eq_true ce) ?_
          have ih := ih (fun _ => by rw [hg]; exact ce)
          by_cases c0 : (i : Int) > 0
          · have hw : wrap64 ((i : Int) - 1) = ((i - 1 : Nat) : Int) := by rw [wid (by omega) (by omega)]; omega
            rw [hw, rdE l (i - 1) (by omega)]
            have hq := hp (by omega)
            rw [show l.getD (i - 1) z48 = l[i - 1]'(by omega) from by rw [List.getD_eq_getElem?_getD, List.getElem?_eq_getElem (by omega)]; rfl] at hq
            refine Ev.pos c0 (Ev.pos (by omega) (Ev.pos (by omega) (Ev.bind (cmpKeys_ev _ _ _ _ _ _) ?_)))
            skip
            by_cases cc : ecmp (l[i - 1]'(by omega)) l[i] ≥ 0
            · exact Ev.pos cc ((Ev.now _).eqr (decide_eq_false fun h => by have := ((rowFrom_step l i hi).1 h).1.2 (by omega); omega).symm)
            · refine Ev.neg cc ?_
              rw [wsucc (by omega)]
              exact ih.eqr (decide_eq_decide.2 ⟨fun h => (rowFrom_step l i hi).2 ⟨⟨ce, fun _ => by omega⟩, h⟩, fun h => ((rowFrom_step l i hi).1 h).2⟩)
          · refine Ev.neg c0 ?_
            rw [wsucc (by omega)]
            exact ih.eqr (decide_eq_decide.2 ⟨fun h => (rowFrom_step l i hi).2 ⟨⟨ce, fun _ => by omega⟩, h⟩, fun h => ((rowFrom_step l i hi).1 h).2⟩)
        · exact Ev.neg (by simpa using ce) ((Ev.now _).eqr (decide_eq_false fun h => ce ((rowFrom_step l i hi).1 h).1.1).symm)
    exact Ev.neg c ((key 0 (Nat.zero_le _) (fun h => absurd h (by omega))).eqr (decide_eq_decide.2 ⟨fun h => ⟨by omega, h⟩, fun h => h.2⟩))
theorem sEntriesOk_ev (l : List S48) (hl : l.length < 2097152) : Ev (fun k => spec_EntriesOk.f k l) (decide (isRow l)) := by
  unfold spec_EntriesOk.f
  by_cases c : (l.length : Int) > 400
  · exact Ev.pos c ((Ev.now _).eqr (decide_eq_false fun h => by have := h.1; omega).symm)
  · have key : ∀ i, i ≤ l.length → (∀ h : 0 < i, isEx (l.getD (i - 1) z48)) → Ev (fun k => spec_EntriesOk.l0 k l (i : Int)) (decide (rowFrom l i)) := by
      refine downTo l.length ?_ ?_
      · intro _
        exact Ev.step (fun k => spec_EntriesOk.l0.eq_2 ..) (Ev.neg (by omega) ((Ev.now _).eqr (decide_eq_true (show rowFrom l l.length from fun j h1 h2 => by omega)).symm))
      · intro i hi ih hp
        have hg : l.getD (i + 1 - 1) z48 = l[i] := by rw [Nat.add_sub_cancel, List.getD_eq_getElem?_getD, List.getElem?_eq_getElem hi]; rfl
        refine Ev.step (fun k => spec_EntriesOk.l0.eq_2 ..) (Ev.pos (by omega) (Ev.pos (by omega) ?_))
        rw [rdE l i hi]
        refine Ev.bindS (sEntryOk_ev l[i].f0.f0 l[i].f0.f1 l[i].f0.f2 l[i].f1) ?_
        by_cases ce : isE l[i].f0.f0 l[i].f0.f1 l[i].f0.f2 l[i].f1
        · refine Ev.pos (decide_eq_true ce) ?_
          have ih := ih (fun _ => by rw [hg]; exact ce)
          by_cases c0 : (i : Int) > 0
          · have hw : wrap64 ((i : Int) - 1) = ((i - 1 : Nat) : Int) := by rw [wid (by omega) (by omega)]; omega
            rw [hw, rdE l (i - 1) (by omega)]
            have hq := hp (by omega)
            rw [show l.getD (i - 1) z48 = l[i - 1]'(by omega) from by rw [List.getD_eq_getElem?_getD, List.getElem?_eq_getElem (by omega)]; rfl] at hq
            refine Ev.pos c0 (Ev.pos (by omega) (Ev.pos (by omega) (Ev.bind (sKeyCmp_ev _ _ _ _ _ _) ?_)))
            rw [if_pos ⟨hq.1, ce.1⟩]
            by_cases cc : ecmp (l[i - 1]'(by omega)) l[i] ≥ 0
            · exact Ev.pos cc ((Ev.now _).eqr (decide_eq_false fun h => by have := ((rowFrom_step l i hi).1 h).1.2 (by omega); omega).symm)
            · refine Ev.neg cc ?_
              rw [wsucc (by omega)]
              exact ih.eqr (decide_eq_decide.2 ⟨fun h => (rowFrom_step l i hi).2 ⟨⟨ce, fun _ => by omega⟩, h⟩, fun h => ((rowFrom_step l i hi).1 h).2⟩)
          · refine Ev.neg c0 ?_
            rw [wsucc (by omega)]
            exact ih.eqr (decide_eq_decide.2 ⟨fun h => (rowFrom_step l i hi).2 ⟨⟨ce, fun _ => by omega⟩, h⟩, fun h => ((rowFrom_step l i hi).1 h).2⟩)
        · exact Ev.neg (by simpa using ce) ((Ev.now _).eqr (decide_eq_false fun h => ce ((rowFrom_step l i hi).1 h).1.1).symm)
    exact Ev.neg c ((key 0 (Nat.zero_le _) (fun h => absurd h (by omega))).eqr (decide_eq_decide.2 ⟨fun h => ⟨by omega, h⟩, fun h => h.2⟩))
end Go.Proofs.Ytbojfnijgmppbaa.P
end

section
namespace Go.Proofs.Ytbojfnijgmppbaa.P
open Go.RowKit Go.Proofs.YtbojfnijgmppbaaW.PrintWords Go.Proofs.YtbojfnijgmppbaaW.PrintLast Go.Proofs.YtbojfnijgmppbaaW.PrintMore
attribute [local go_sem] str_gtr str_leq str_geq max2_int min2_int max_two min_two max_three min_three max_four min_four
set_option linter.unusedVariables false
set_option linter.unusedSimpArgs false
theorem dkey_ev {l : List Int} {p : Int} (h : okc l) (hp : okp l p) : ∃ r, Ev (fun k => spec_l1Rd_key.f k l p) r ∧ okp l r.2.2.2 := by
  unfold spec_l1Rd_key.f
  obtain ⟨a, ha, _, ha2⟩ := duser_ev h hp
  obtain ⟨b, hb, _, hb2⟩ := near_ev h ha2 0 12 (by omega) (by omega) (by omega)
  obtain ⟨c, hc, _, hc2⟩ := below_ev h hb2 2 (by omega)
  obtain ⟨d, hd, _, hd2⟩ := below_ev h hc2 24 (by omega)
  by_cases c0 : d.1 = 0
  · obtain ⟨e, he, _, he2⟩ := off_ev h hd2 0 1000000000000 (by omega) (by omega) (by omega)
    exact ⟨_, Ev.bindS ha (Ev.bind hb (Ev.bindS hc (Ev.bindS hd (Ev.pos c0 (Ev.bind he (Ev.now _)))))), he2⟩
  · by_cases c1 : d.1 = 1
    · obtain ⟨e, he, _, he2⟩ := off_ev h hd2 0 1 (by omega) (by omega) (by omega)
      exact ⟨_, Ev.bindS ha (Ev.bind hb (Ev.bindS hc (Ev.bindS hd (Ev.neg c0 (Ev.pos c1 (Ev.bind he (Ev.now _))))))), he2⟩
    · by_cases c2 : d.1 = 2
      · obtain ⟨e, he, _, he2⟩ := bytes_ev h hd2 45 (by omega) (by omega)
        exact ⟨_, Ev.bindS ha (Ev.bind hb (Ev.bindS hc (Ev.bindS hd (Ev.neg c0 (Ev.neg c1 (Ev.pos c2 (Ev.bind he (Ev.now _)))))))), he2⟩
      · exact ⟨_, Ev.bindS ha (Ev.bind hb (Ev.bindS hc (Ev.bindS hd (Ev.neg c0 (Ev.neg c1 (Ev.neg c2 (Ev.now _))))))), hd2⟩
theorem dentry_ev {l : List Int} {p : Int} (h : okc l) (hp : okp l p) : ∃ r, Ev (fun k => spec_l1Rd_entry.f k l p) r ∧ okp l r.2.2.2.2 := by
  unfold spec_l1Rd_entry.f
  obtain ⟨a, ha, ha2⟩ := dkey_ev h hp
  obtain ⟨b, hb, _, hb2⟩ := dvalue_ev h ha2
  by_cases c0 : a.2.2.1 = 0
  · obtain ⟨c, hc, hc2⟩ := once_ev h hb2 12 (by omega)
    by_cases c1 : c.1 = true
    · exact ⟨_, Ev.bind ha (Ev.bindS hb (Ev.pos c0 (Ev.bindS hc (Ev.pos c1 (Ev.now _))))), hc2⟩
    · exact ⟨_, Ev.bind ha (Ev.bindS hb (Ev.pos c0 (Ev.bindS hc (Ev.neg c1 (Ev.now _))))), hc2⟩
  · exact ⟨_, Ev.bind ha (Ev.bindS hb (Ev.neg c0 (Ev.now _))), hb2⟩
theorem dentries_ev {l : List Int} {p : Int} (h : okc l) (hp : okp l p) (n : Int) (hn : 0 ≤ n) (hn2 : n ≤ 1000) : ∃ r, Ev (fun k => spec_l1Rd_entries.f k l p n) r ∧ (r.1.length : Int) ≤ n + 1 ∧ okp l r.2 := by
  have key : ∀ (j : Nat) (acc : List S48) (p : Int), acc.length + j ≤ 2000 → okp l p → ∃ r, Ev (fun k => spec_l1Rd_entries.l0 k acc (j : Int) l p) r ∧ r.1.length ≤ acc.length + j + 1 ∧ okp l r.2 := by
    intro j
    induction j with
    | zero =>
      intro acc p ha hp
      obtain ⟨a, ha', ha2⟩ := once_ev h hp 24 (by omega)
      by_cases c : a.1 = true
      · obtain ⟨b, hb, hb2⟩ := dentry_ev h ha2
        refine ⟨_, Ev.step (fun k => spec_l1Rd_entries.l0.eq_2 ..) (Ev.neg (by omega) (Ev.bindS ha' (Ev.pos c (Ev.bind hb (Ev.pos (by omega) (Ev.now _)))))), ?_, hb2⟩
        show (acc ++ [_]).length ≤ _
        rw [List.length_append]
        simp only [List.length_cons, List.length_nil]
        omega
      · exact ⟨_, Ev.step (fun k => spec_l1Rd_entries.l0.eq_2 ..) (Ev.neg (by omega) (Ev.bindS ha' (Ev.neg c (Ev.now _)))), by show acc.length ≤ _; omega, ha2⟩
    | succ j ih =>
      intro acc p ha hp
      obtain ⟨e, he, he2⟩ := dentry_ev h hp
      have hw : wrap64 (((j + 1 : Nat) : Int) - 1) = (j : Int) := by rw [wid (by omega) (by omega)]; omega
      by_cases c : isE e.1 e.2.1 e.2.2.1 e.2.2.2.1
      ·
        have seek : ∀ d i : Nat, i + d = acc.length → ∃ r, Ev (fun k => spec_l1Rd_entries.l1 k acc ((j + 1 : Nat) : Int) (i : Int) l e.2.2.2.2 e.1 e.2.1 e.2.2.1 e.2.2.2.1) r ∧ r.1.length ≤ acc.length + (j + 1) + 1 ∧ okp l r.2 := by
          intro d
          induction d with
          | zero =>
            intro i hi
            obtain ⟨r, hr, hr1, hr2⟩ := ih ((([] ++ acc.take i) ++ [⟨⟨e.1, e.2.1, e.2.2.1⟩, e.2.2.2.1⟩]) ++ acc.drop i) e.2.2.2.2 (by simp; omega) he2
            refine ⟨r, Ev.step (fun k => spec_l1Rd_entries.l1.eq_2 ..) (Ev.neg (by omega) (Ev.bindS rfl (Ev.pos (by omega) (Ev.pos (by omega) (Ev.bindS rfl (Ev.pos (by simp; omega) (Ev.bindS rfl (Ev.pos (by simp; omega) (Ev.bindS rfl (Ev.bindS rfl (Ev.pos (by simp; omega) ?_))))))))))), ?_, hr2⟩
            · rw [hw, Int.toNat_natCast]
              exact hr
            · refine Nat.le_trans hr1 ?_
              simp
              omega
          | succ d ihd =>
            intro i hi
            have hc := sKeyCmp_ev (rd_T48 acc (i : Int)).f0.f0 (rd_T48 acc (i : Int)).f0.f1 (rd_T48 acc (i : Int)).f0.f2 e.1 e.2.1 e.2.2.1
            generalize (if isK (rd_T48 acc (i : Int)).f0.f0 (rd_T48 acc (i : Int)).f0.f1 (rd_T48 acc (i : Int)).f0.f2 ∧ isK e.1 e.2.1 e.2.2.1 then kcmp (rd_T48 acc (i : Int)).f0.f0 (rd_T48 acc (i : Int)).f0.f1 (rd_T48 acc (i : Int)).f0.f2 e.1 e.2.1 e.2.2.1 else 0) = cv at hc
            by_cases c1 : cv < 0
            · obtain ⟨r, hr, hr2⟩ := ihd (i + 1) (by omega)
              refine ⟨r, Ev.step (fun k => spec_l1Rd_entries.l1.eq_2 ..) (Ev.pos (by omega) (Ev.pos (by omega) (Ev.bind hc (Ev.pos c1 ?_)))), hr2⟩
              rw [wsucc (by omega)]
              exact hr
            · generalize hb : (((rd_T48 acc (i : Int)).f0.f0.toList == e.1.toList) && ((rd_T48 acc (i : Int)).f0.f1 == e.2.1 && ((rd_T48 acc (i : Int)).f0.f2 == e.2.2.1))) = bb
              cases bb with
              | true =>
                obtain ⟨r, hr, hr1, hr2⟩ := ih acc e.2.2.2.2 (by omega) he2
                refine ⟨r, Ev.step (fun k => spec_l1Rd_entries.l1.eq_2 ..) (Ev.pos (by omega) (Ev.pos (by omega) (Ev.bind hc (Ev.neg c1 (Ev.pos hb ?_))))), by omega, hr2⟩
                rw [hw]
                exact hr
              | false =>
                obtain ⟨r, hr, hr1, hr2⟩ := ih ((([] ++ acc.take i) ++ [⟨⟨e.1, e.2.1, e.2.2.1⟩, e.2.2.2.1⟩]) ++ acc.drop i) e.2.2.2.2 (by simp; omega) he2
                refine ⟨r, Ev.step (fun k => spec_l1Rd_entries.l1.eq_2 ..) (Ev.pos (by omega) (Ev.pos (by omega) (Ev.bind hc (Ev.neg c1 (Ev.neg (by rw [hb]; simp) (Ev.bindS rfl (Ev.pos (by omega) (Ev.bindS rfl (Ev.pos (by simp; omega) (Ev.bindS rfl (Ev.pos (by simp; omega) (Ev.bindS rfl (Ev.bindS rfl (Ev.pos (by simp; omega) ?_)))))))))))))), ?_, hr2⟩
                · rw [hw, Int.toNat_natCast]
                  exact hr
                · refine Nat.le_trans hr1 ?_
                  simp
                  omega
        obtain ⟨r, hr, hr2⟩ := seek acc.length 0 (by omega)
        exact ⟨r, Ev.step (fun k => spec_l1Rd_entries.l0.eq_2 ..) (Ev.pos (by omega) (Ev.bind he (Ev.bindS (sEntryOk_ev _ _ _ _) (Ev.pos (decide_eq_true c) hr)))), hr2⟩
      · obtain ⟨r, hr, hr1, hr2⟩ := ih acc e.2.2.2.2 (by omega) he2
        refine ⟨r, Ev.step (fun k => spec_l1Rd_entries.l0.eq_2 ..) (Ev.pos (by omega) (Ev.bind he (Ev.bindS (sEntryOk_ev _ _ _ _) (Ev.neg (by simpa using c) ?_)))), by omega, hr2⟩
        rw [hw]
        exact hr
  obtain ⟨a, ha, ha1, ha2⟩ := below_ev h hp (n + 1) (by omega)
  obtain ⟨r, hr, hr1, hr2⟩ := key a.1.toNat [] a.2 (by simp; omega) ha2
  refine ⟨r, ?_, ?_, hr2⟩
  · unfold spec_l1Rd_entries.f
    rw [wid (by omega) (by omega)]
    refine Ev.bindS ha ?_
    rw [show ((a.1.toNat : Nat) : Int) = a.1 from by omega] at hr
    exact hr
  · simp only [List.length_nil] at hr1
    omega
end Go.Proofs.Ytbojfnijgmppbaa.P
end

section
namespace Go.Proofs.Ytbojfnijgmppbaa.P
open Go.RowKit Go.Proofs.YtbojfnijgmppbaaW.PrintWords Go.Proofs.YtbojfnijgmppbaaW.PrintLast Go.Proofs.YtbojfnijgmppbaaW.PrintMore
attribute [local go_sem] str_gtr str_leq str_geq max2_int min2_int max_two min_two max_three min_three max_four min_four
set_option linter.unusedVariables false
set_option linter.unusedSimpArgs false
theorem kcmp_trans {u u' u'' : ByteArray} {q d q' d' q'' d'' : Int} (h1 : kcmp u q d u' q' d' < 0) (h2 : kcmp u' q' d' u'' q'' d'' < 0) : kcmp u q d u'' q'' d'' < 0 := by
  rw [kcmp_lt] at *
  rcases h1 with h1 | ⟨rfl, h1⟩
  · rcases h2 with h2 | ⟨rfl, h2⟩
    · exact .inl (bl_trans h1 h2)
    · exact .inl h1
  · rcases h2 with h2 | ⟨rfl, h2⟩
    · exact .inl h2
    · exact .inr ⟨rfl, by omega⟩
theorem row_lt {l : List S48} (h : rowFrom l 0) : ∀ (d i : Nat) (hj : i + d + 1 < l.length), ecmp (l[i]'(by omega)) l[i + d + 1] < 0
  | 0, i, hj => (h (i + 1) (Nat.zero_le _) hj).2 (by omega)
  | d + 1, i, hj => kcmp_trans (row_lt h d i (by omega)) ((h (i + (d + 1) + 1) (Nat.zero_le _) hj).2 (by omega))
theorem eqA48 (d : Nat) (w : World) (x0 y0 : ByteArray) (x1 y1 : Int) (x2 y2 : Int) (x3 y3 : ByteArray) :
    (Op.equalIn (d + 3) 48 (.agg #[.string x0, .int .i64 x1, .int .i64 x2, .string x3]) (.agg #[.string y0, .int .i64 y1, .int .i64 y2, .string y3])).run Try.prog w = .ok ((x0.toList == y0.toList && (x1 == y1 && (x2 == y2))) && (x3.toList == y3.toList)) w := by
  refine eqA_of Try.underlying48 (by kernel_rfl) ?_
  refine eqf_cons (by rfl) (by go_simp) (by go_simp) (eqA46 (d + 0) w _ _ _ _ _ _) ?_
  exact eqf_last (by rfl) (by go_simp; rfl) (by go_simp; rfl) (by go_simp)
end Go.Proofs.Ytbojfnijgmppbaa.P
end

section
namespace Go.Proofs.Ytbojfnijgmppbaa.P
open Go.RowKit Go.Proofs.YtbojfnijgmppbaaW.PrintWords Go.Proofs.YtbojfnijgmppbaaW.PrintLast Go.Proofs.YtbojfnijgmppbaaW.PrintMore
attribute [local go_sem] str_gtr str_leq str_geq max2_int min2_int max_two min_two max_three min_three max_four min_four
set_option linter.unusedVariables false
set_option linter.unusedSimpArgs false
theorem samePairs_self (l : List S76) (h : l.length < 2097152) : Ev (fun k => laws_samePairs.f k l l) true := by
  unfold laws_samePairs.f
  have key : ∀ i, i ≤ l.length → Ev (fun k => laws_samePairs.l0 k l l (i : Int)) true := by
    refine downTo l.length (Ev.step (fun k => laws_samePairs.l0.eq_2 ..) (Ev.neg (by omega) (Ev.now _))) ?_
    intro i hi ih
    refine Ev.step (fun k => laws_samePairs.l0.eq_2 ..) (Ev.pos (by omega) (Ev.pos (by omega) (Ev.pos (by omega) (Ev.neg (by simp) ?_))))
    rw [wsucc (by omega)]
    exact ih
  exact Ev.pos rfl (key 0 (Nat.zero_le _))
end Go.Proofs.Ytbojfnijgmppbaa.P
end

section
namespace Go.Proofs.Ytbojfnijgmppbaa.Pure
open Go.RowKit Go.Proofs.YtbojfnijgmppbaaW.PrintWords Go.Proofs.YtbojfnijgmppbaaW.PrintLast Go.Proofs.YtbojfnijgmppbaaW.PrintMore
open Go.Proofs.Ytbojfnijgmppbaa.P
set_option linter.unusedVariables false
set_option linter.unusedSimpArgs false
theorem toL_inj {a b : ByteArray} (h : toL a = toL b) : a = b := by rw [← ofL_toL a, ← ofL_toL b, h]
theorem toList_toL (a : ByteArray) : a.toList = toL a := ByteArray.toList_eq a
def uu (l : List S48) : Nat → List ByteArray
  | 0 => []
  | i + 1 => uu l i ++ (if i = 0 ∨ (l.getD (i - 1) z48).f0.f0 ≠ (l.getD i z48).f0.f0 then [(l.getD i z48).f0.f0] else [])
theorem uu_len (l : List S48) : ∀ i, (uu l i).length ≤ i
  | 0 => by simp [uu]
  | i + 1 => by
    have := uu_len l i
    rw [uu, List.length_append]
    split <;> simp <;> omega
def usersOf (l : List S48) : List ByteArray := uu l l.length
theorem cptB_users (l : List S48) : cptB (l.map fun e => e.f0.f0) = usersOf l := by
  unfold cptB Lib.compact usersOf
  rw [List.length_map, List.length_map]
  have key : ∀ m, m ≤ l.length → (Lib.compactUpTo ((l.map fun e => e.f0.f0).map toL).toArray m).map ofL = uu l m := by
    intro m
    induction m with
    | zero => intro _; rfl
    | succ m ih =>
      intro hm
      have hd : ∀ j, j < l.length → ((l.map fun e => e.f0.f0).map toL).toArray[j]! = toL (l.getD j z48).f0.f0 := fun j hj => by
        rw [getElem!_pos _ j (by simpa using hj)]
        simp [List.getD_eq_getElem?_getD, List.getElem?_eq_getElem hj]
      rw [Lib.compactUpTo_succ, List.map_append, ih (by omega), uu]
      congr 1
      unfold Lib.keeps
      rw [hd m (by omega)]
      by_cases c : m = 0
      · subst c
        simp [ofL_toL]
      · rw [hd (m - 1) (by omega)]
        by_cases c2 : (l.getD (m - 1) z48).f0.f0 = (l.getD m z48).f0.f0
        · rw [if_neg (by simp only [decide_eq_true_eq]; rintro (h | h); exact c h; exact h (by rw [c2])), if_neg (by rintro (h | h); exact c h; exact h c2)]
          rfl
        · rw [if_pos (by simp only [decide_eq_true_eq]; exact .inr fun h => c2 (toL_inj h).symm), if_pos (.inr c2)]
          simp [ofL_toL]
  exact key l.length (Nat.le_refl _)
theorem users_ev (l : List S48) (hl : l.length ≤ 400) : Ev (fun k => impl_users.f k l) (usersOf l) := by
  unfold impl_users.f
  have key : ∀ i, i ≤ l.length → Ev (fun k => impl_users.l0 k ((l.take i).map fun e => e.f0.f0) l (l.length : Int) (i : Int)) (usersOf l) := by
    refine downTo l.length ?_ ?_
    · refine Ev.step (fun k => impl_users.l0.eq_2 ..) ?_
      rw [List.take_length]
      refine Ev.neg (by omega) ?_
      refine Ev.bindS (show slices_Compact_string_string.f _ = some (usersOf l) from ?_) (Ev.now _)
      rw [← cptB_users]
      rfl
    · intro i hi ih
      refine Ev.step (fun k => impl_users.l0.eq_2 ..) ?_
      rw [rdE l i hi, wsucc (show i < 4611686018427387904 by omega)]
      refine Ev.pos (by omega) (Ev.pos (by omega) (Ev.pos (by omega) (Ev.pos (by rw [List.length_map, List.length_take]; omega) ?_)))
      rw [List.take_add_one, List.getElem?_eq_getElem hi, List.map_append] at ih
      exact ih
  exact key 0 (Nat.zero_le _)
end Go.Proofs.Ytbojfnijgmppbaa.Pure
end

section
namespace Go.Proofs.Ytbojfnijgmppbaa.Pure
open Go.RowKit Go.Proofs.YtbojfnijgmppbaaW.PrintWords Go.Proofs.YtbojfnijgmppbaaW.PrintLast Go.Proofs.YtbojfnijgmppbaaW.PrintMore
open Go.Proofs.Ytbojfnijgmppbaa.P
set_option linter.unusedVariables false
set_option linter.unusedSimpArgs false
abbrev E_ := S48
abbrev P_ := S76
def gotV (l : List E_) (u : ByteArray) (s : Int) : Int × ByteArray := match l.find? (lookp u s) with
  | none => (0, ⟨#[]⟩)
  | some e => if e.f0.f2 = 0 then (2, ⟨#[]⟩) else (1, e.f1)
def got (l : List E_) (s : Int) (u : ByteArray) : Option P_ := if (gotV l u s).1 = 1 then some ⟨u, (gotV l u s).2⟩ else none
theorem find_idxf {α : Type} (p : α → Bool) : ∀ (l : List α) (i : Nat), (l.find? p = none ∧ idxf p l i = -1) ∨ ∃ (k : Nat) (h : k < l.length), l.find? p = some l[k] ∧ idxf p l i = ((i + k : Nat) : Int)
  | [], _ => .inl ⟨rfl, rfl⟩
  | x :: xs, i => by
    cases h : p x with
    | true => exact .inr ⟨0, by simp, by simp [h], by simp [idxf, h]⟩
    | false =>
      simp only [idxf, h, Bool.false_eq_true, if_false, List.find?_cons_of_neg, not_false_eq_true]
      rcases find_idxf p xs (i + 1) with ⟨h1, h2⟩ | ⟨k, hk, h1, h2⟩
      · exact .inl ⟨h1, h2⟩
      · exact .inr ⟨k + 1, by simpa using hk, by simpa using h1, by rw [h2]; congr 1; omega⟩
theorem get_ev (l : List E_) (u : ByteArray) (s : Int) : impl_get.f l u s = some (gotV l u s) := by
  unfold impl_get.f impl_looked.f gotV
  rw [Option.bind_some]
  rcases find_idxf (lookp u s) l 0 with ⟨h1, h2⟩ | ⟨k, hk, h1, h2⟩
  · rw [h1, h2, if_pos (by omega)]
  · rw [h1, h2, Nat.zero_add, if_neg (by omega), if_pos (by omega), if_pos (by omega), rdE l k hk]
    simp only []
    split <;> rfl
def visV (l : List E_) (s : Int) : List P_ := (usersOf l).filterMap (got l s)
theorem filterMap_le {α β : Type} (f : α → Option β) : ∀ l : List α, (l.filterMap f).length ≤ l.length
  | [] => by simp
  | x :: xs => by
    have := filterMap_le f xs
    rw [List.filterMap_cons]
    split <;> simp <;> omega
theorem visV_len (l : List E_) (s : Int) : (visV l s).length ≤ l.length := Nat.le_trans (filterMap_le _ _) (uu_len l l.length)
theorem visible_ev (l : List E_) (hl : l.length ≤ 400) (s : Int) : Ev (fun k => impl_visible.f k l s) (visV l s) := by
  unfold impl_visible.f
  refine Ev.bind (users_ev l hl) ?_
  have hu : (usersOf l).length ≤ 400 := Nat.le_trans (uu_len l l.length) hl
  unfold visV
  generalize usersOf l = us at hu
  have key : ∀ i, i ≤ us.length → Ev (fun k => impl_visible.l0 k l s ((us.take i).filterMap (got l s)) us (us.length : Int) (i : Int)) (us.filterMap (got l s)) := by
    refine downTo us.length ?_ ?_
    · refine Ev.step (fun k => impl_visible.l0.eq_2 ..) ?_
      rw [List.take_length]
      exact Ev.neg (by omega) (Ev.now _)
    · intro i hi ih
      have hle := filterMap_le (got l s) (us.take i)
      rw [List.length_take] at hle
      have hr : rdOf ByteArray.empty us (i : Int) = us[i] := by
        unfold rdOf
        rw [Int.toNat_natCast, List.getD_eq_getElem?_getD, List.getElem?_eq_getElem hi]
        rfl
      refine Ev.step (fun k => impl_visible.l0.eq_2 ..) ?_
      rw [hr, wsucc (show i < 4611686018427387904 by omega)]
      rw [List.take_add_one, List.getElem?_eq_getElem hi, List.filterMap_append] at ih
      refine Ev.pos (by omega) (Ev.pos (by omega) (Ev.pos (by omega) (Ev.bindS (get_ev l us[i] s) ?_)))
      by_cases c : (gotV l us[i] s).1 = 1
      · have hg : got l s us[i] = some ⟨us[i], (gotV l us[i] s).2⟩ := if_pos c
        simp only [Option.toList, List.filterMap_cons, hg, List.filterMap_nil] at ih
        exact Ev.pos c (Ev.pos (by omega) ih)
      · have hg : got l s us[i] = none := if_neg c
        simp only [Option.toList, List.filterMap_cons, hg, List.filterMap_nil, List.append_nil] at ih
        exact Ev.neg c ih
  exact key 0 (Nat.zero_le _)
def sv (s : Int) : ByteArray → List E_ → List P_
  | _, [] => []
  | last, e :: es => if e.f0.f1 > s ∨ e.f0.f0 = last then sv s last es else (if e.f0.f2 = 1 then [(⟨e.f0.f0, e.f1⟩ : P_)] else []) ++ sv s e.f0.f0 es
theorem sVisible_loop (l : List E_) (hl : l.length ≤ 400) (s : Int) : Ev (fun k => spec_l13Visible.l0 k l s [] ⟨#[]⟩ 0) (sv s ⟨#[]⟩ l) := by
  have key : ∀ i, i ≤ l.length → ∀ (out : List P_) (last : ByteArray), out.length ≤ i → Ev (fun k => spec_l13Visible.l0 k l s out last (i : Int)) (out ++ sv s last (l.drop i)) := by
    refine downTo l.length ?_ ?_
    · intro out last _
      refine Ev.step (fun k => spec_l13Visible.l0.eq_2 ..) ?_
      rw [List.drop_length, sv, List.append_nil]
      exact Ev.neg (by omega) (Ev.now _)
    · intro i hi ih out last ho
      have hd : l.drop i = l[i] :: l.drop (i + 1) := List.drop_eq_getElem_cons hi
      refine Ev.step (fun k => spec_l13Visible.l0.eq_2 ..) ?_
      rw [rdE l i hi]
      refine Ev.pos (by omega) (Ev.pos (by omega) ?_)
      have skip : (l[i].f0.f1 > s ∨ l[i].f0.f0 = last) → Ev (fun k => spec_l13Visible.j1 k l s out last (i : Int) true l[i].f0.f0 l[i].f0.f1 l[i].f0.f2) (out ++ sv s last (l.drop i)) := fun h => by
        refine Ev.step (fun k => spec_l13Visible.j1.eq_2 ..) ?_
        rw [wsucc (show i < 4611686018427387904 by omega)]
        refine Ev.pos rfl ((ih out last (by omega)).eqr ?_)
        rw [hd, sv, if_pos h]
      by_cases c : l[i].f0.f1 > s
      · exact Ev.pos c (skip (.inl c))
      · refine Ev.neg c ?_
        by_cases c2 : l[i].f0.f0 = last
        · rw [show (l[i].f0.f0.toList == last.toList) = true from beq_iff_eq.2 (by rw [c2])]
          exact skip (.inr c2)
        · rw [show (l[i].f0.f0.toList == last.toList) = false from beq_eq_false_iff_ne.2 fun h => c2 (by rw [toList_toL, toList_toL] at h; exact toL_inj h)]
          refine Ev.step (fun k => spec_l13Visible.j1.eq_2 ..) ?_
          rw [rdE l i hi, wsucc (show i < 4611686018427387904 by omega)]
          have hs : sv s last (l.drop i) = (if l[i].f0.f2 = 1 then [(⟨l[i].f0.f0, l[i].f1⟩ : P_)] else []) ++ sv s l[i].f0.f0 (l.drop (i + 1)) := by rw [hd, sv, if_neg (by rintro (h | h); exact c h; exact c2 h)]
          rw [hs]
          refine Ev.neg (by simp) ?_
          by_cases c3 : l[i].f0.f2 = 1
          · refine Ev.pos c3 (Ev.pos (by omega) (Ev.pos (by omega) (Ev.pos (by omega) ((ih _ _ (by rw [List.length_append]; simp only [List.length_cons, List.length_nil]; omega)).eqr ?_))))
            simp [c3]
          · refine Ev.neg c3 ((ih _ _ (by omega)).eqr ?_)
            simp [c3]
  exact (key 0 (Nat.zero_le _) [] _ (by simp)).eqr rfl
def srt (l : List E_) : Prop := l.Pairwise fun a b => tless b.f0.f0 a.f0.f0 = false
theorem row_srt {l : List E_} (h : rowFrom l 0) : srt l := by
  unfold srt
  rw [List.pairwise_iff_getElem]
  intro i j hi hj hij
  have h1 := row_lt h (j - i - 1) i (by omega)
  have e : i + (j - i - 1) + 1 = j := by omega
  simp only [e] at h1
  unfold ecmp at h1
  rw [kcmp_lt] at h1
  rcases h1 with h1 | ⟨h1, _⟩
  · exact bl_not h1
  · rw [h1]
    exact bl_irrefl _
def ug : ByteArray → List E_ → List ByteArray
  | _, [] => []
  | c, e :: es => if e.f0.f0 = c then ug c es else e.f0.f0 :: ug e.f0.f0 es
def uf : List E_ → List ByteArray
  | [] => []
  | e :: es => e.f0.f0 :: ug e.f0.f0 es
theorem uu_uf (l : List E_) : usersOf l = uf l := by
  have key : ∀ (l pre : List E_) (p : E_), ∀ i, i ≤ l.length → uu (pre ++ p :: l) (pre.length + 1 + l.length) = uu (pre ++ p :: l) (pre.length + 1) ++ ug p.f0.f0 l := by
    intro l
    induction l with
    | nil => intro pre p i _; simp [ug]
    | cons e es ih =>
      intro pre p i hi
      have h := ih (pre ++ [p]) e 0 (Nat.zero_le _)
      rw [List.append_assoc, List.length_append] at h
      have e1 : pre.length + [p].length + 1 + es.length = pre.length + 1 + (e :: es).length := by simp; omega
      rw [e1] at h
      have e2 : (pre ++ ([p] ++ e :: es)) = pre ++ p :: e :: es := rfl
      rw [e2] at h
      rw [h]
      have e3 : pre.length + [p].length + 1 = (pre.length + 1) + 1 := by simp
      rw [e3, uu, List.append_assoc]
      congr 1
      have g1 : (pre ++ p :: e :: es).getD (pre.length + 1 - 1) z48 = p := by rw [List.getD_eq_getElem?_getD, Nat.add_sub_cancel, List.getElem?_append_right (Nat.le_refl _), Nat.sub_self]; rfl
      have g2 : (pre ++ p :: e :: es).getD (pre.length + 1) z48 = e := by rw [List.getD_eq_getElem?_getD, List.getElem?_append_right (by omega), Nat.add_sub_cancel_left]; rfl
      rw [g1, g2, ug]
      by_cases c : e.f0.f0 = p.f0.f0
      · rw [if_neg (by rintro (h | h); omega; exact h c.symm), if_pos c, c, List.nil_append]
      · rw [if_pos (.inr fun h => c h.symm), if_neg c]
        rfl
  cases l with
  | nil => rfl
  | cons e es =>
    have := key es [] e 0 (Nat.zero_le _)
    unfold usersOf
    rw [show (e :: es).length = ([] : List E_).length + 1 + es.length from by simp; omega]
    refine this.trans ?_
    simp [uu, uf]
theorem gotV_none (l : List E_) (s : Int) (c : ByteArray) (h : ∀ e ∈ l, e.f0.f0 ≠ c) : got l s c = none := by
  have : l.find? (lookp c s) = none := by
    rw [List.find?_eq_none]
    intro e he hp
    unfold lookp at hp
    rw [Bool.and_eq_true, beq_iff_eq, toList_toL, toList_toL] at hp
    exact h e he (toL_inj hp.1)
  unfold got gotV
  rw [this]
  rfl
theorem got_cons_ne (e : E_) (l : List E_) (s : Int) (u : ByteArray) (h : lookp u s e = false) : got (e :: l) s u = got l s u := by
  unfold got gotV
  rw [List.find?_cons_of_neg (by simp [h])]
theorem got_cons_eq (e : E_) (l : List E_) (s : Int) (u : ByteArray) (h : lookp u s e = true) (hk : e.f0.f2 = 0 ∨ e.f0.f2 = 1) : got (e :: l) s u = if e.f0.f2 = 1 then some ⟨u, e.f1⟩ else none := by
  unfold got gotV
  rw [List.find?_cons_of_pos h]
  rcases hk with hk | hk <;> simp [hk]
theorem ug_ne : ∀ (l : List E_) (c : ByteArray), srt l → (∀ e ∈ l, tless e.f0.f0 c = false) → ∀ u ∈ ug c l, tless c u = true
  | [], _, _, _, _, h => by simp [ug] at h
  | e :: es, c, hs, hc, u, h => by
    have hs' := List.pairwise_cons.1 hs
    rw [ug] at h
    split at h
    · exact ug_ne es c hs'.2 (fun x hx => hc x (List.mem_cons_of_mem _ hx)) u h
    · rename_i hne
      have hlt : tless c e.f0.f0 = true := by
        cases hq : tless c e.f0.f0 with
        | true => rfl
        | false =>
          have := bl_eq (a := e.f0.f0.toList) (b := c.toList) (hc e List.mem_cons_self) hq
          rw [toList_toL, toList_toL] at this
          exact absurd (toL_inj this) hne
      rcases List.mem_cons.1 h with h | h
      · rw [h]; exact hlt
      · exact bl_trans hlt (ug_ne es e.f0.f0 hs'.2 (fun x hx => hs'.1 x hx) u h)
theorem filterMap_congr' {α β : Type} {f g : α → Option β} : ∀ {l : List α}, (∀ x ∈ l, f x = g x) → l.filterMap f = l.filterMap g
  | [], _ => rfl
  | x :: xs, h => by rw [List.filterMap_cons, List.filterMap_cons, h x List.mem_cons_self, filterMap_congr' (fun y hy => h y (List.mem_cons_of_mem _ hy))]
theorem tless_ne {a b : ByteArray} (h : tless a b = true) : a ≠ b := fun e => by
  rw [e] at h
  have := bl_irrefl b.toList
  unfold tless at h
  rw [h] at this
  cases this
theorem lookp_ne {u : ByteArray} {s : Int} {e : E_} (h : e.f0.f0 ≠ u) : lookp u s e = false := by
  unfold lookp
  rw [show (e.f0.f0.toList == u.toList) = false from beq_eq_false_iff_ne.2 fun h2 => h (by rw [toList_toL, toList_toL] at h2; exact toL_inj h2), Bool.false_and]
theorem sv_all (s : Int) : ∀ (l : List E_), srt l → (∀ e ∈ l, e.f0.f2 = 0 ∨ e.f0.f2 = 1) →
    (∀ last, (∀ e ∈ l, e.f0.f0 ≠ last) → sv s last l = (uf l).filterMap (got l s)) ∧
    (∀ c, (∀ e ∈ l, tless e.f0.f0 c = false) → sv s c l = (ug c l).filterMap (got l s)) ∧
    (∀ c last, (∀ e ∈ l, tless e.f0.f0 c = false) → (∀ e ∈ l, e.f0.f0 ≠ last) → sv s last l = (got l s c).toList ++ (ug c l).filterMap (got l s)) := by
  intro l
  induction l with
  | nil =>
    intro _ _
    refine ⟨fun _ _ => rfl, fun _ _ => rfl, fun c last _ _ => ?_⟩
    rw [gotV_none [] s c (by simp)]
    rfl
  | cons e es ih =>
    intro hs hk
    have hs' := List.pairwise_cons.1 hs
    obtain ⟨iP, iQ, iR⟩ := ih hs'.2 (fun x hx => hk x (List.mem_cons_of_mem _ hx))
    have hup : ∀ x ∈ es, tless x.f0.f0 e.f0.f0 = false := hs'.1
    have hrest : ∀ u ∈ ug e.f0.f0 es, got (e :: es) s u = got es s u := fun u hu => got_cons_ne e es s u (lookp_ne (tless_ne (ug_ne es _ hs'.2 hup u hu)))
    have hP : ∀ last, (∀ x ∈ e :: es, x.f0.f0 ≠ last) → sv s last (e :: es) = (got (e :: es) s e.f0.f0).toList ++ (ug e.f0.f0 es).filterMap (got (e :: es) s) := by
      intro last hl
      rw [filterMap_congr' hrest]
      by_cases c : e.f0.f1 > s
      · have hn : lookp e.f0.f0 s e = false := by unfold lookp; rw [decide_eq_false (by omega), Bool.and_false]
        rw [sv, if_pos (.inl c), got_cons_ne e es s _ hn]
        exact iR _ _ hup (fun x hx => hl x (List.mem_cons_of_mem _ hx))
      · have hn : lookp e.f0.f0 s e = true := by unfold lookp; rw [decide_eq_true (by omega), Bool.and_true]; exact beq_self_eq_true _
        rw [sv, if_neg (by rintro (h | h); exact c h; exact hl e List.mem_cons_self h), got_cons_eq e es s _ hn (hk e List.mem_cons_self), iQ _ hup]
        congr 1
        split <;> rfl
    refine ⟨fun last hl => ?_, fun c hc => ?_, fun c last hc hl => ?_⟩
    · rw [hP last hl, uf, List.filterMap_cons]
      cases got (e :: es) s e.f0.f0 <;> rfl
    · by_cases h : e.f0.f0 = c
      · subst h
        rw [sv, if_pos (.inr rfl), ug, if_pos rfl, filterMap_congr' hrest]
        exact iQ _ hup
      · have hall : ∀ x ∈ e :: es, x.f0.f0 ≠ c := by
          have hlt : tless c e.f0.f0 = true := ug_ne (e :: es) c hs hc _ (by rw [ug, if_neg h]; exact List.mem_cons_self)
          intro x hx hxc
          rcases List.mem_cons.1 hx with hx | hx
          · exact h (hx ▸ hxc)
          · have := hup x hx
            rw [hxc, hlt] at this
            cases this
        rw [hP c hall, ug, if_neg h, List.filterMap_cons]
        cases got (e :: es) s e.f0.f0 <;> rfl
    · by_cases h : e.f0.f0 = c
      · subst h
        rw [hP last hl, ug, if_pos rfl]
      · have hall : ∀ x ∈ e :: es, x.f0.f0 ≠ c := by
          have hlt : tless c e.f0.f0 = true := ug_ne (e :: es) c hs hc _ (by rw [ug, if_neg h]; exact List.mem_cons_self)
          intro x hx hxc
          rcases List.mem_cons.1 hx with hx | hx
          · exact h (hx ▸ hxc)
          · have := hup x hx
            rw [hxc, hlt] at this
            cases this
        rw [hP last hl, gotV_none _ s c hall, ug, if_neg h, List.filterMap_cons]
        cases got (e :: es) s e.f0.f0 <;> rfl
theorem row_kind {l : List E_} (h : rowFrom l 0) : ∀ e ∈ l, (e.f0.f2 = 0 ∨ e.f0.f2 = 1) ∧ 1 ≤ e.f0.f0.size := by
  intro e he
  obtain ⟨j, hj, rfl⟩ := List.getElem_of_mem he
  have := (h j (Nat.zero_le _) hj).1
  unfold isEx isE isK isU at this
  omega
theorem sv_vis {l : List E_} (h : rowFrom l 0) (s : Int) : sv s ⟨#[]⟩ l = visV l s := by
  unfold visV
  rw [uu_uf]
  refine (sv_all s l (row_srt h) (fun e he => (row_kind h e he).1)).1 _ (fun e he hx => ?_)
  have := (row_kind h e he).2
  rw [hx] at this
  have h0 : (⟨#[]⟩ : ByteArray).size = 0 := rfl
  omega
noncomputable def vsV (l : List E_) (s : Int) : List P_ := if isRow l then visV l s else []
theorem Visible_ev (l : List E_) (hl : l.length < 2097152) (s : Int) : Ev (fun k => impl_Visible.f k l s) (vsV l s) := by
  unfold impl_Visible.f vsV
  refine Ev.bind (entriesOk_ev l hl) ?_
  by_cases c : isRow l
  · rw [if_pos c]
    exact Ev.pos (decide_eq_true c) (Ev.bind (visible_ev l c.1 s) (Ev.now _))
  · rw [if_neg c]
    exact Ev.neg (by simp [c]) (Ev.now _)
theorem vsV_len (l : List E_) (s : Int) : (vsV l s).length ≤ 400 := by
  unfold vsV
  split
  · rename_i h
    exact Nat.le_trans (visV_len l s) h.1
  · simp
end Go.Proofs.Ytbojfnijgmppbaa.Pure
end

section
namespace Go.Proofs.Ytbojfnijgmppbaa.Pure
open Go.RowKit Go.Proofs.YtbojfnijgmppbaaW.PrintWords Go.Proofs.YtbojfnijgmppbaaW.PrintLast Go.Proofs.YtbojfnijgmppbaaW.PrintMore
open Go.Proofs.Ytbojfnijgmppbaa.P
set_option linter.unusedVariables false
set_option linter.unusedSimpArgs false
theorem rdP (l : List P_) (i : Nat) (h : i < l.length) : rd_T76 l (i : Int) = l[i] := by
  unfold rd_T76
  rw [Int.toNat_natCast, List.getD_eq_getElem?_getD, List.getElem?_eq_getElem h]
  rfl
theorem range_ev (x : List P_) (hx : x.length ≤ 400) (a b : ByteArray) : Ev (fun k => spec_l13Range.f k x a b) (x.filter fun y => !outp a b y) := by
  unfold spec_l13Range.f
  have key : ∀ i, i ≤ x.length → ∀ out : List P_, out.length ≤ i → Ev (fun k => spec_l13Range.l0 k x a b out (i : Int)) (out ++ (x.drop i).filter fun y => !outp a b y) := by
    refine downTo x.length ?_ ?_
    · intro out _
      refine Ev.step (fun k => spec_l13Range.l0.eq_2 ..) ?_
      rw [List.drop_length]
      exact Ev.neg (by omega) ((Ev.now _).eqr (by simp))
    · intro i hi ih out ho
      have hd : x.drop i = x[i] :: x.drop (i + 1) := List.drop_eq_getElem_cons hi
      have out' : outp a b x[i] = true → out ++ (x.drop (i + 1)).filter (fun y => !outp a b y) = out ++ (x.drop i).filter (fun y => !outp a b y) := fun h => by rw [hd, List.filter_cons, h]; rfl
      have in' : outp a b x[i] = false → (out ++ [x[i]]) ++ (x.drop (i + 1)).filter (fun y => !outp a b y) = out ++ (x.drop i).filter (fun y => !outp a b y) := fun h => by rw [hd, List.filter_cons, h, List.append_assoc]; rfl
      have hl1 : (out ++ [x[i]]).length ≤ i + 1 := by rw [List.length_append]; simp only [List.length_cons, List.length_nil]; omega
      refine Ev.step (fun k => spec_l13Range.l0.eq_2 ..) ?_
      rw [rdP x i hi, wsucc (show i < 4611686018427387904 by omega)]
      refine Ev.pos (by omega) (Ev.pos (by omega) ?_)
      by_cases c1 : Op.bytesLess x[i].f0.toList a.toList = true
      · exact Ev.pos c1 ((ih out (by omega)).eqr (out' (by unfold outp; rw [c1, Bool.true_or])))
      · refine Ev.neg c1 ?_
        rw [Bool.not_eq_true] at c1
        by_cases c2 : b.toList = ([] : List UInt8)
        · refine Ev.pos c2 (Ev.pos (by omega) ((ih _ hl1).eqr (in' ?_)))
          unfold outp
          rw [c1, c2]
          rfl
        · refine Ev.neg c2 ?_
          have e2 : (b.toList == ([] : List UInt8)) = false := beq_eq_false_iff_ne.2 c2
          by_cases c3 : Op.bytesLess x[i].f0.toList b.toList = true
          · refine Ev.pos c3 (Ev.pos (by omega) ((ih _ hl1).eqr (in' ?_)))
            unfold outp
            rw [c1, c3, e2]
            rfl
          · refine Ev.neg c3 ((ih out (by omega)).eqr (out' ?_))
            rw [Bool.not_eq_true] at c3
            unfold outp
            rw [c1, c3, e2]
            rfl
  exact (key 0 (Nat.zero_le _) [] (by simp)).eqr (by simp)
noncomputable def scV (l : List E_) (s : Int) (a b : ByteArray) : List P_ := (vsV l s).filter fun y => !outp a b y
theorem scV_len (l : List E_) (s : Int) (a b : ByteArray) : (scV l s a b).length ≤ 400 := Nat.le_trans (List.length_filter_le _ _) (vsV_len l s)
theorem scan_ev (l : List E_) (hl : l.length < 2097152) (s : Int) (a b : ByteArray) : Ev (fun k => impl_Scan.f k l s a b) (scV l s a b) := by
  unfold impl_Scan.f
  exact Ev.bind (Visible_ev l hl s) (Ev.bindS rfl (Ev.now _))
theorem sScan_ev (l : List E_) (hl : l.length < 2097152) (s : Int) (a b : ByteArray) : Ev (fun k => spec_Scan.f k l s a b) (scV l s a b) := by
  unfold spec_Scan.f scV vsV
  refine Ev.bind (sEntriesOk_ev l hl) ?_
  by_cases c : isRow l
  · rw [if_pos c]
    refine Ev.pos (decide_eq_true c) (Ev.bind (a := visV l s) ?_ (Ev.bind (range_ev _ (Nat.le_trans (visV_len l s) c.1) a b) (Ev.now _)))
    unfold spec_l13Visible.f
    exact (sVisible_loop l c.1 s).eqr (sv_vis c.2 s)
  · rw [if_neg c]
    exact Ev.neg (by simp [c]) (Ev.now _)
end Go.Proofs.Ytbojfnijgmppbaa.Pure
end

section
namespace Go.Proofs.Ytbojfnijgmppbaa.Pure
open Go.RowKit Go.Proofs.YtbojfnijgmppbaaW.PrintWords Go.Proofs.YtbojfnijgmppbaaW.PrintLast Go.Proofs.YtbojfnijgmppbaaW.PrintMore
open Go.Proofs.Ytbojfnijgmppbaa.P
set_option linter.unusedVariables false
set_option linter.unusedSimpArgs false
theorem scanBack_ev (l : List E_) (hl : l.length < 2097152) (s : Int) (a b : ByteArray) : Ev (fun k => impl_ScanBack.f k l s a b) (scV l s a b).reverse := by
  unfold impl_ScanBack.f
  have h := scV_len l s a b
  exact Ev.bind (scan_ev l hl s a b) (Ev.bind (reverse_ev _ (by omega)) (Ev.now _))
end Go.Proofs.Ytbojfnijgmppbaa.Pure
end

section
namespace Go.Proofs.Ytbojfnijgmppbaa.Pure
open Go.RowKit Go.Proofs.YtbojfnijgmppbaaW.PrintWords Go.Proofs.YtbojfnijgmppbaaW.PrintLast Go.Proofs.YtbojfnijgmppbaaW.PrintMore
open Go.Proofs.Ytbojfnijgmppbaa.P
set_option linter.unusedVariables false
set_option linter.unusedSimpArgs false
theorem byteOk {l : List Int} (h1 : l.length ≤ 1048576) (h2 : ∀ x ∈ l, (Lit.int .u8 x).wf = true) : okc l := by
  refine ⟨h1, fun x hx => ?_⟩
  have := h2 x hx
  simpa [Lit.wf, IntKind.min, IntKind.max, IntKind.signed, IntKind.bits] using this
theorem okp0 (l : List Int) : okp l 0 := ⟨by omega, by omega⟩
end Go.Proofs.Ytbojfnijgmppbaa.Pure
end

section
namespace Go.Proofs.Ytbojfnijgmppbaa.Pure
open Go.RowKit Go.Proofs.YtbojfnijgmppbaaW.PrintWords Go.Proofs.YtbojfnijgmppbaaW.PrintLast Go.Proofs.YtbojfnijgmppbaaW.PrintMore
open Go.Proofs.Ytbojfnijgmppbaa.P
set_option linter.unusedVariables false
set_option linter.unusedSimpArgs false
theorem ug_sorted : ∀ (l : List E_) (c : ByteArray), srt l → (ug c l).Pairwise fun a b => tless a b = true
  | [], _, _ => List.Pairwise.nil
  | x :: xs, c, h => by
    have h' := List.pairwise_cons.1 h
    rw [ug]
    split
    · exact ug_sorted xs c h'.2
    · exact List.pairwise_cons.2 ⟨ug_ne xs x.f0.f0 h'.2 h'.1, ug_sorted xs _ h'.2⟩
theorem users_sorted {l : List E_} (h : srt l) : (usersOf l).Pairwise fun a b => tless a b = true := by
  rw [uu_uf]
  cases l with
  | nil => exact List.Pairwise.nil
  | cons x xs =>
    have h' := List.pairwise_cons.1 h
    exact List.pairwise_cons.2 ⟨ug_ne xs x.f0.f0 h'.2 h'.1, ug_sorted xs _ h'.2⟩
end Go.Proofs.Ytbojfnijgmppbaa.Pure
end

section
namespace Go.Proofs.Ytbojfnijgmppbaa.Pure
open Go.RowKit Go.Proofs.YtbojfnijgmppbaaW.PrintWords Go.Proofs.YtbojfnijgmppbaaW.PrintLast Go.Proofs.YtbojfnijgmppbaaW.PrintMore
open Go.Proofs.Ytbojfnijgmppbaa.P
set_option linter.unusedVariables false
set_option linter.unusedSimpArgs false
theorem drawScan_ev {l : List Int} (h : okc l) : ∃ r, Ev (fun k => spec_DrawScan.f k l) r ∧ r.1.length ≤ 15 := by
  obtain ⟨r1, h1, hl1, hp1⟩ := dentries_ev h (okp0 l) 14 (by omega) (by omega)
  have hj1 : ∀ (p : Int) (a b : ByteArray), okp l p → ∃ r, Ev (fun k => spec_DrawScan.j1 k r1.1 a b l p) r ∧ r.1 = r1.1 := by
    intro p a b hp
    obtain ⟨o, ho, hp2⟩ := once_ev h hp 3 (by omega)
    cases c : o.1 with
    | true =>
      obtain ⟨q, hq, _, _⟩ := off_ev h hp2 0 13 (by omega) (by omega) (by omega)
      refine ⟨(r1.1, q.1, a, b), ?_, rfl⟩
      refine Ev.step (fun k => spec_DrawScan.j1.eq_2 ..) ?_
      exact Ev.bindS ho (Ev.pos c (Ev.bind hq (Ev.now _)))
    | false =>
      obtain ⟨q, hq, _, _⟩ := below_ev h hp2 9 (by omega)
      refine ⟨(r1.1, wrap64 (10 + q.1), a, b), ?_, rfl⟩
      refine Ev.step (fun k => spec_DrawScan.j1.eq_2 ..) ?_
      exact Ev.bindS ho (Ev.neg (by simp [c]) (Ev.bindS hq (Ev.now _)))
  have hj0 : ∀ (p : Int) (a b : ByteArray), okp l p → ∃ r, Ev (fun k => spec_DrawScan.j0 k r1.1 a b l p) r ∧ r.1 = r1.1 := by
    intro p a b hp
    obtain ⟨o, ho, hp2⟩ := once_ev h hp 2 (by omega)
    cases c : o.1 with
    | true =>
      obtain ⟨q, hq, _, hp3⟩ := dtext_ev h hp2
      obtain ⟨r, hr, he⟩ := hj1 q.2 a q.1 hp3
      refine ⟨r, ?_, he⟩
      refine Ev.step (fun k => spec_DrawScan.j0.eq_2 ..) ?_
      exact Ev.bindS ho (Ev.pos c (Ev.bindS hq hr))
    | false =>
      obtain ⟨r, hr, he⟩ := hj1 o.2 a b hp2
      refine ⟨r, ?_, he⟩
      refine Ev.step (fun k => spec_DrawScan.j0.eq_2 ..) ?_
      exact Ev.bindS ho (Ev.neg (by simp [c]) hr)
  obtain ⟨o, ho, hp2⟩ := once_ev h hp1 2 (by omega)
  unfold spec_DrawScan.f
  cases c : o.1 with
  | true =>
    obtain ⟨q, hq, _, hp3⟩ := dtext_ev h hp2
    obtain ⟨r, hr, he⟩ := hj0 q.2 q.1 ⟨#[]⟩ hp3
    exact ⟨r, Ev.bindS rfl (Ev.bind h1 (Ev.bindS ho (Ev.pos c (Ev.bindS hq hr)))), by rw [he]; omega⟩
  | false =>
    obtain ⟨r, hr, he⟩ := hj0 o.2 ⟨#[]⟩ ⟨#[]⟩ hp2
    exact ⟨r, Ev.bindS rfl (Ev.bind h1 (Ev.bindS ho (Ev.neg (by simp [c]) hr))), by rw [he]; omega⟩
theorem vis_sorted {l : List E_} (s : Int) : (vsV l s).Pairwise fun a b => tless a.f0 b.f0 = true := by
  unfold vsV
  split
  · rename_i h
    refine List.Pairwise.filterMap _ (fun a a' haa b hb b' hb' => ?_) (users_sorted (row_srt h.2))
    unfold got at hb hb'
    split at hb
    · split at hb'
      · injection hb with hb
        injection hb' with hb'
        rw [← hb, ← hb']
        exact haa
      · cases hb'
    · cases hb
  · exact List.Pairwise.nil
theorem three_parts (p q : P_ → Bool) (hpq : ∀ x, p x = true → q x = true) : ∀ xs : List P_, xs.Pairwise (fun a b => (p b = true → p a = true) ∧ (q b = true → q a = true)) → xs.filter p ++ xs.filter (fun x => !p x && q x) ++ xs.filter (fun x => !q x) = xs
  | [], _ => rfl
  | x :: xs, h => by
    have h' := List.pairwise_cons.1 h
    have ih := three_parts p q hpq xs h'.2
    cases hp : p x with
    | true =>
      rw [List.filter_cons, List.filter_cons, List.filter_cons, hp, hpq x hp]
      simp only [if_true, Bool.not_true, Bool.false_and, Bool.false_eq_true, if_false]
      rw [List.cons_append, List.cons_append, ih]
    | false =>
      have hp' : xs.filter p = [] := by
        rw [List.filter_eq_nil_iff]
        intro y hy hyp
        have := (h'.1 y hy).1 hyp
        rw [hp] at this
        cases this
      rw [hp', List.nil_append] at ih
      cases hq : q x with
      | true =>
        rw [List.filter_cons, List.filter_cons, List.filter_cons, hp, hq]
        simp only [if_true, Bool.not_true, Bool.not_false, Bool.true_and, Bool.false_eq_true, if_false]
        rw [hp', List.nil_append, List.cons_append, ih]
      | false =>
        have hq' : xs.filter (fun x => !p x && q x) = [] := by
          rw [List.filter_eq_nil_iff]
          intro y hy hyq
          have := (h'.1 y hy).2 (Bool.and_eq_true .. ▸ hyq).2
          rw [hq] at this
          cases this
        rw [hq', List.nil_append] at ih
        rw [List.filter_cons, List.filter_cons, List.filter_cons, hp, hq]
        simp only [if_true, Bool.not_false, Bool.and_false, Bool.false_eq_true, if_false]
        rw [hp', hq', List.nil_append, List.nil_append, ih]
theorem bl_empty : ∀ a : List UInt8, Op.bytesLess a [] = false
  | [] => rfl
  | _ :: _ => rfl
theorem empty_list : (⟨#[]⟩ : ByteArray).toList = [] := (toList_toL _).trans rfl
theorem FnScanned : laws_FnScanned.Pure := by
  intro l _ _ hb
  refine Ev.rounds (g := fun k => laws_FnScanned.f k l) ?_
  unfold laws_FnScanned.f
  refine Ev.bindS (a := decide ((l.length : Int) > 1048576)) rfl ?_
  by_cases big : (l.length : Int) > 1048576
  · exact Ev.pos (decide_eq_true big) (Ev.now _)
  · have hc := byteOk (l := l) (by omega) hb
    refine Ev.neg (by simpa using big) ?_
    obtain ⟨d, hd, hd1⟩ := drawScan_ev hc
    obtain ⟨l, s, a, b⟩ := d
    simp only [] at hd1
    have hi := scan_ev l (by omega) s a b
    have hs := sScan_ev l (by omega) s a b
    have hbk := scanBack_ev l (by omega) s a b
    have hv := scV_len l s a b
    have hself := samePairs_self (scV l s a b) (by omega)
    refine Ev.bind hd (Ev.bind hi (Ev.bind hs (Ev.bind hself (Ev.pos rfl (Ev.bind hbk (Ev.pos (by rw [List.length_reverse]) ?_))))))
    have hmem : ∀ x ∈ scV l s a b, outp a b x = false := fun x hx => by
      have := (List.mem_filter.1 hx).2
      simpa using this
    have jend : ∀ c : Bool, (c = false → a.toList ≠ [] ∧ b.toList ≠ [] ∧ Op.bytesLess b.toList a.toList = false) → Ev (fun k => laws_FnScanned.j1 k l s a b (scV l s a b) c) true := by
      intro c hcc
      refine Ev.step (fun k => laws_FnScanned.j1.eq_2 ..) ?_
      cases c with
      | true => exact Ev.pos rfl (Ev.now _)
      | false =>
        obtain ⟨ha, hbb, hab⟩ := hcc rfl
        have e1 := scan_ev l (by omega) s ⟨#[]⟩ a
        have e2 := scan_ev l (by omega) s b ⟨#[]⟩
        have e3 := scan_ev l (by omega) s ⟨#[]⟩ ⟨#[]⟩
        have l1 := scV_len l s ⟨#[]⟩ a
        have l2 := scV_len l s b ⟨#[]⟩
        have l3 := scV_len l s ⟨#[]⟩ ⟨#[]⟩
        have hall : ([] ++ scV l s ⟨#[]⟩ a) ++ scV l s a b ++ scV l s b ⟨#[]⟩ = scV l s ⟨#[]⟩ ⟨#[]⟩ := by
          have hso := vis_sorted (l := l) s
          have f1 : ∀ x : P_, (!outp ⟨#[]⟩ a x) = tless x.f0 a := fun x => by
            unfold outp tless
            rw [empty_list, bl_empty, show (a.toList == ([] : List UInt8)) = false from beq_eq_false_iff_ne.2 ha]
            simp
          have f2 : ∀ x : P_, (!outp a b x) = (!tless x.f0 a && tless x.f0 b) := fun x => by
            unfold outp tless
            rw [show (b.toList == ([] : List UInt8)) = false from beq_eq_false_iff_ne.2 hbb]
            simp
          have f3 : ∀ x : P_, (!outp b ⟨#[]⟩ x) = !tless x.f0 b := fun x => by
            unfold outp tless
            rw [empty_list]
            simp
          have f4 : ∀ x : P_, (!outp ⟨#[]⟩ ⟨#[]⟩ x) = true := fun x => by
            unfold outp
            rw [empty_list, bl_empty]
            simp
          unfold scV
          simp only [f1, f2, f3, f4, List.nil_append]
          rw [three_parts (fun x => tless x.f0 a) (fun x => tless x.f0 b)]
          · exact (List.filter_eq_self.2 (fun _ _ => rfl)).symm
          · intro x hx
            cases hq : tless b a with
            | true => unfold tless at hq; rw [hq] at hab; cases hab
            | false =>
              cases hq2 : tless a b with
              | true => exact bl_trans hx hq2
              | false =>
                have := bl_eq (a := a.toList) (b := b.toList) hq2 hq
                unfold tless at hx ⊢
                rw [← this]
                exact hx
          · exact hso.imp fun {x y} hxy => ⟨fun h => bl_trans hxy h, fun h => bl_trans hxy h⟩
        have hsame := samePairs_self (scV l s ⟨#[]⟩ ⟨#[]⟩) (by omega)
        rw [← hall] at hsame
        refine Ev.neg (by decide) (Ev.bindS rfl (Ev.bind e1 (Ev.pos (by rw [List.length_nil]; omega) (Ev.bindS rfl (Ev.pos (by rw [List.nil_append]; omega) (Ev.bindS rfl (Ev.bind e2 (Ev.pos (by rw [List.nil_append, List.length_append]; omega) (Ev.bind e3 ?_)))))))))
        rw [← hall]
        exact Ev.bind hsame (Ev.now _)
    generalize hp : scV l s a b = p at *
    have key : ∀ i, i ≤ p.length → Ev (fun k => laws_FnScanned.l0 k l s a b p p.reverse (i : Int)) true := by
      refine downTo p.length ?_ ?_
      · refine Ev.step (fun k => laws_FnScanned.l0.eq_2 ..) ?_
        refine Ev.neg (by omega) ?_
        by_cases c1 : a.toList = ([] : List UInt8)
        · exact Ev.pos c1 (jend true (fun h => by cases h))
        · refine Ev.neg c1 ?_
          by_cases c2 : b.toList = ([] : List UInt8)
          · exact Ev.pos c2 (jend true (fun h => by cases h))
          · exact Ev.neg c2 (jend _ (fun h => ⟨c1, c2, h⟩))
      · intro i hi ih
        have e1 : wrap64 (wrap64 ((p.length : Int) - 1) - (i : Int)) = ((p.length - 1 - i : Nat) : Int) := by
          rw [wid (x := (p.length : Int) - 1) (by omega) (by omega), wid (by omega) (by omega)]
          omega
        have hrl : p.reverse.length = p.length := List.length_reverse
        have hr : rd_T76 p.reverse ((p.length - 1 - i : Nat) : Int) = p[i] := by
          rw [rdP p.reverse _ (by omega), List.getElem_reverse]
          simp only [show p.length - 1 - (p.length - 1 - i) = i from by omega]
        have ho := hmem p[i] (List.getElem_mem hi)
        unfold outp at ho
        rw [Bool.or_eq_false_iff] at ho
        refine Ev.step (fun k => laws_FnScanned.l0.eq_2 ..) ?_
        rw [e1, hr, rdP p i hi, wsucc (show i < 4611686018427387904 by omega)]
        refine Ev.pos (by omega) (Ev.pos (by omega) (Ev.pos (by omega) (Ev.pos (by omega) (Ev.neg (by simp) (Ev.neg (by rw [ho.1]; decide) ?_)))))
        by_cases c2 : b.toList = ([] : List UInt8)
        · exact Ev.pos c2 ih
        · refine Ev.neg c2 (Ev.pos ?_ ih)
          have h2 := ho.2
          rw [show (b.toList == ([] : List UInt8)) = false from beq_eq_false_iff_ne.2 c2] at h2
          simpa using h2
    exact key 0 (Nat.zero_le _)
end Go.Proofs.Ytbojfnijgmppbaa.Pure
end
