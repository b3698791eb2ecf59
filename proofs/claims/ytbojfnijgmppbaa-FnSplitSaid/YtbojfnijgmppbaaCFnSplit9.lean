/- Proved: the law FnSplit of the given program returns true for every input of its Go types and leaves each argument as it was; no condition. (Part 10 of 12.) -/
import Derived.Test.YtbojfnijgmppbaaCFnSplit4
import Derived.Test.YtbojfnijgmppbaaCFnSplit6
import Derived.Test.YtbojfnijgmppbaaCFnSplit7
import Derived.Test.YtbojfnijgmppbaaCFnSplit8
import Derived.Lib.EndianBits
import Derived.Test.YtbojfnijgmppbaaCFnSplit5
import Derived.Test.YtbojfnijgmppbaaCFnSplit0
section
namespace Go.Proofs.Ytbojfnijgmppbaa.P
open Go.RowKit Go.Proofs.YtbojfnijgmppbaaW.PrintWords Go.Proofs.YtbojfnijgmppbaaW.PrintLast Go.Proofs.YtbojfnijgmppbaaW.PrintMore
attribute [local go_sem] str_gtr str_leq str_geq max2_int min2_int max_two min_two max_three min_three max_four min_four
set_option linter.unusedVariables false
set_option linter.unusedSimpArgs false
def okc (l : List Int) : Prop := l.length ≤ 1048576 ∧ ∀ x ∈ l, 0 ≤ x ∧ x ≤ 255
def okp (l : List Int) (p : Int) : Prop := 0 ≤ p ∧ p ≤ (l.length : Int)
theorem okc_rd {l : List Int} (h : okc l) (i : Int) : 0 ≤ rd l i ∧ rd l i ≤ 255 := by
  unfold rd
  rw [List.getD_eq_getElem?_getD]
  by_cases c : i.toNat < l.length
  · rw [List.getElem?_eq_getElem c]
    exact h.2 _ (List.getElem_mem c)
  · rw [List.getElem?_eq_none (by omega)]
    simp
theorem next_ev {l : List Int} {p : Int} (h : okc l) (hp : okp l p) : ∃ r, spec_l1Rd_next.f l p = some r ∧ (0 ≤ r.1 ∧ r.1 ≤ 255) ∧ okp l r.2 := by
  obtain ⟨h1, h2⟩ := hp
  have hl := h.1
  unfold spec_l1Rd_next.f
  by_cases c : p ≥ (l.length : Int)
  · exact ⟨_, if_pos c, by simp, h1, h2⟩
  · have e1 : wrap64 (p + 1) = p + 1 := wid (by omega) (by omega)
    have e2 : wrap64 (p + 1 - 1) = p := by rw [wid (by omega) (by omega)]; omega
    obtain ⟨r0, r1⟩ := okc_rd h p
    rw [if_neg c, e1, e2, if_pos h1, if_pos (by omega)]
    refine ⟨_, rfl, ?_, ?_⟩
    · show 0 ≤ wrap64 (rd l p) ∧ wrap64 (rd l p) ≤ 255
      rw [wid (by omega) (by omega)]
      exact ⟨r0, r1⟩
    · exact ⟨by show 0 ≤ p + 1; omega, by show p + 1 ≤ _; omega⟩
theorem below_ev {l : List Int} {p : Int} (h : okc l) (hp : okp l p) (n : Int) (hn : 1 ≤ n) : ∃ r, spec_l1Rd_below.f l p n = some r ∧ (0 ≤ r.1 ∧ r.1 < n) ∧ okp l r.2 := by
  unfold spec_l1Rd_below.f
  by_cases c : n ≤ 1
  · exact ⟨_, if_pos c, ⟨by simp, by show (0 : Int) < n; omega⟩, hp⟩
  · rw [if_neg c]
    obtain ⟨a, ha, ha1, ha2⟩ := next_ev h hp
    by_cases c2 : n ≤ 256
    · rw [if_pos c2, ha]
      refine ⟨(Int.tmod a.1 n, a.2), by rw [Option.bind_some, if_neg (by omega)], ?_, ha2⟩
      show 0 ≤ Int.tmod a.1 n ∧ Int.tmod a.1 n < n
      rw [Int.tmod_eq_emod_of_nonneg ha1.1]
      exact ⟨Int.emod_nonneg _ (by omega), Int.emod_lt_of_pos _ (by omega)⟩
    · obtain ⟨b, hb, hb1, hb2⟩ := next_ev h ha2
      rw [if_neg c2, ha, Option.bind_some, hb, Option.bind_some, if_neg (by omega)]
      refine ⟨_, rfl, ?_, hb2⟩
      show 0 ≤ Int.tmod (wrap64 (wrap64 (a.1 * 256) + b.1)) n ∧ Int.tmod (wrap64 (wrap64 (a.1 * 256) + b.1)) n < n
      rw [wid (x := a.1 * 256) (by omega) (by omega), wid (by omega) (by omega), Int.tmod_eq_emod_of_nonneg (by omega)]
      exact ⟨Int.emod_nonneg _ (by omega), Int.emod_lt_of_pos _ (by omega)⟩
theorem once_ev {l : List Int} {p : Int} (h : okc l) (hp : okp l p) (n : Int) (hn : 1 ≤ n) : ∃ r, spec_l1Rd_once.f l p n = some r ∧ okp l r.2 := by
  obtain ⟨a, ha, _, ha2⟩ := below_ev h hp n hn
  unfold spec_l1Rd_once.f
  rw [ha]
  exact ⟨_, rfl, ha2⟩
theorem bits_u64 (o : BinOp) (a b : Int) : 0 ≤ Go.bits o .u64 a b ∧ Go.bits o .u64 a b ≤ 18446744073709551615 := by
  unfold Go.bits
  simp only [IntKind.wrap_u64]
  omega
theorem word_ev {l : List Int} {p : Int} (h : okc l) (hp : okp l p) : ∃ r, Ev (fun k => spec_l1Rd_word.f k l p) r ∧ (0 ≤ r.1 ∧ r.1 ≤ 18446744073709551615) ∧ okp l r.2 := by
  have key : ∀ i : Nat, i ≤ 8 → ∀ (x p : Int), 0 ≤ x ∧ x ≤ 18446744073709551615 → okp l p → ∃ r, Ev (fun k => spec_l1Rd_word.l0 k x (i : Int) l p) r ∧ (0 ≤ r.1 ∧ r.1 ≤ 18446744073709551615) ∧ okp l r.2 := by
    refine downTo 8 ?_ ?_
    · intro x p hx hp
      exact ⟨(x, p), Ev.step (fun k => spec_l1Rd_word.l0.eq_2 ..) (Ev.neg (by omega) (Ev.now _)), hx, hp⟩
    · intro i hi ih x p hx hp
      obtain ⟨a, ha, _, ha2⟩ := next_ev h hp
      obtain ⟨r, hr, hr2⟩ := ih _ a.2 (bits_u64 .or (IntKind.u64.wrap (x * 256)) (IntKind.u64.wrap a.1)) ha2
      refine ⟨r, Ev.step (fun k => spec_l1Rd_word.l0.eq_2 ..) (Ev.pos (by omega) (Ev.bindS ha ?_)), hr2⟩
      rw [wsucc (by omega)]
      exact hr
  exact key 0 (by omega) 0 p (by omega) hp
theorem bytes_ev {l : List Int} {p : Int} (h : okc l) (hp : okp l p) (n : Int) (hn : 0 ≤ n) (hn2 : n ≤ 1000000) : ∃ r, Ev (fun k => spec_l1Rd_bytes.f k l p n) r ∧ (r.1.size : Int) ≤ n ∧ okp l r.2 := by
  have key : ∀ (i : Nat) (acc : List Int) (p : Int), (acc.length : Int) + i ≤ 1000000 → okp l p → ∃ r, Ev (fun k => spec_l1Rd_bytes.l0 k acc (i : Int) l p) r ∧ r.1.size = acc.length + i ∧ okp l r.2 := by
    intro i
    induction i with
    | zero =>
      intro acc p ha hp
      refine ⟨(strOfNums acc, p), Ev.step (fun k => spec_l1Rd_bytes.l0.eq_2 ..) (Ev.neg (by omega) (Ev.now _)), ?_, hp⟩
      show (strOfNums acc).size = acc.length + 0
      unfold strOfNums
      simp [ByteArray.size]
    | succ i ih =>
      intro acc p ha hp
      obtain ⟨a, ha', _, ha2⟩ := below_ev h hp 256 (by omega)
      obtain ⟨r, hr, hr1, hr2⟩ := ih (acc ++ [a.1 % 256]) a.2 (by simp only [List.length_append, List.length_cons, List.length_nil]; omega) ha2
      refine ⟨r, Ev.step (fun k => spec_l1Rd_bytes.l0.eq_2 ..) (Ev.pos (by omega) (Ev.bindS ha' (Ev.pos (by omega) ?_))), ?_, hr2⟩
      · rw [wid (by omega) (by omega), show (((i + 1 : Nat) : Int) - 1) = (i : Int) from by omega]
        exact hr
      · rw [hr1, List.length_append]
        simp only [List.length_cons, List.length_nil]
        omega
  obtain ⟨a, ha, ha1, ha2⟩ := below_ev h hp (n + 1) (by omega)
  obtain ⟨r, hr, hr1, hr2⟩ := key a.1.toNat [] a.2 (by simp; omega) ha2
  refine ⟨r, ?_, ?_, hr2⟩
  · unfold spec_l1Rd_bytes.f
    rw [wid (by omega) (by omega)]
    refine Ev.bindS ha ?_
    rw [show ((a.1.toNat : Nat) : Int) = a.1 from by omega] at hr
    exact hr
  · rw [hr1]
    simp only [List.length_nil]
    omega
theorem duser_ev {l : List Int} {p : Int} (h : okc l) (hp : okp l p) : ∃ r, spec_l1Rd_user.f l p = some r ∧ (isU r.1) ∧ okp l r.2 := by
  obtain ⟨a, ha, ha1, ha2⟩ := below_ev h hp 10 (by omega)
  unfold spec_l1Rd_user.f
  rw [Option.bind_some, ha, Option.bind_some, if_pos ha1.1, if_pos (by simp only [List.length_cons, List.length_nil]; omega)]
  refine ⟨_, rfl, ?_, ha2⟩
  obtain ⟨m, hm⟩ : ∃ m : Nat, a.1 = m := ⟨a.1.toNat, by omega⟩
  have hlt : m < 10 := by omega
  simp only [hm]
  clear hm ha1 ha ha2
  revert m
  unfold rdOf
  simp only [Int.toNat_natCast]
  decide +kernel
theorem dvalue_ev {l : List Int} {p : Int} (h : okc l) (hp : okp l p) : ∃ r, spec_l1Rd_value.f l p = some r ∧ (r.1.size ≤ 5) ∧ okp l r.2 := by
  obtain ⟨a, ha, ha1, ha2⟩ := below_ev h hp 5 (by omega)
  unfold spec_l1Rd_value.f
  rw [Option.bind_some, ha, Option.bind_some, if_pos ha1.1, if_pos (by simp only [List.length_cons, List.length_nil]; omega)]
  refine ⟨_, rfl, ?_, ha2⟩
  obtain ⟨m, hm⟩ : ∃ m : Nat, a.1 = m := ⟨a.1.toNat, by omega⟩
  have hlt : m < 5 := by omega
  simp only [hm]
  clear hm ha1 ha ha2
  revert m
  unfold rdOf
  simp only [Int.toNat_natCast]
  decide +kernel
theorem near_ev {l : List Int} {p : Int} (h : okc l) (hp : okp l p) (a b : Int) (hab : a ≤ b) (ha : -1000000000000000 ≤ a) (hb : b ≤ 1000000000000000) : ∃ r, Ev (fun k => spec_l1Rd_near.f k l p a b) r ∧ (a ≤ r.1 ∧ r.1 ≤ b) ∧ okp l r.2 := by
  unfold spec_l1Rd_near.f
  obtain ⟨x, hx, hx1, hx2⟩ := below_ev h hp 8 (by omega)
  by_cases c0 : x.1 = 0
  · exact ⟨_, Ev.bindS hx (Ev.pos c0 (Ev.now _)), ⟨Int.le_refl _, hab⟩, hx2⟩
  · by_cases c1 : x.1 = 1
    · exact ⟨_, Ev.bindS hx (Ev.neg c0 (Ev.pos c1 (Ev.now _))), ⟨hab, Int.le_refl _⟩, hx2⟩
    · obtain ⟨y, hy, hy1, hy2⟩ := word_ev h hx2
      have e : IntKind.u64.wrap (wrap64 (wrap64 (b - a) + 1)) = b - a + 1 := by
        rw [wid (x := b - a) (by omega) (by omega), wid (by omega) (by omega), uid (by omega) (by omega)]
      have m0 : 0 ≤ Int.tmod (y.1 / 2) (b - a + 1) ∧ Int.tmod (y.1 / 2) (b - a + 1) < b - a + 1 := by
        rw [Int.tmod_eq_emod_of_nonneg (by omega)]
        exact ⟨Int.emod_nonneg _ (by omega), Int.emod_lt_of_pos _ (by omega)⟩
      refine ⟨(a + Int.tmod (y.1 / 2) (b - a + 1), y.2), Ev.bindS hx (Ev.neg c0 (Ev.neg c1 (Ev.neg (by omega) (Ev.bind hy ?_)))), ⟨by show a ≤ a + _; omega, by show a + _ ≤ b; omega⟩, hy2⟩
      rw [e, wid (x := Int.tmod (y.1 / 2) (b - a + 1)) (by omega) (by omega), wid (by omega) (by omega)]
      exact Ev.neg (by omega) (Ev.now _)
theorem off_ev {l : List Int} {p : Int} (h : okc l) (hp : okp l p) (a b : Int) (hab : a ≤ b) (ha : -1000000000000000 ≤ a) (hb : b ≤ 1000000000000000) : ∃ r, Ev (fun k => spec_l1Rd_off.f k l p a b) r ∧ (-9223372036854775808 ≤ r.1 ∧ r.1 ≤ 9223372036854775807) ∧ okp l r.2 := by
  unfold spec_l1Rd_off.f
  obtain ⟨x, hx, hx2⟩ := once_ev h hp 24 (by omega)
  by_cases c0 : x.1 = true
  · obtain ⟨y, hy, hy1, hy2⟩ := below_ev h hx2 4 (by omega)
    refine ⟨_, Ev.bindS hx (Ev.pos c0 (Ev.bindS rfl (Ev.bindS hy (Ev.pos hy1.1 (Ev.pos (by simp only [List.length_cons, List.length_nil]; omega) (Ev.now _)))))), ?_, hy2⟩
    rw [wid (x := a - 1) (by omega) (by omega), wid (x := b + 1) (by omega) (by omega)]
    obtain ⟨m, hm⟩ : ∃ m : Nat, y.1 = m := ⟨y.1.toNat, by omega⟩
    have hlt : m < 4 := by omega
    simp only [hm]
    unfold rd
    rw [Int.toNat_natCast]
    match m, hlt with
    | 0, _ => show -9223372036854775808 ≤ a - 1 ∧ a - 1 ≤ 9223372036854775807; omega
    | 1, _ => show -9223372036854775808 ≤ b + 1 ∧ b + 1 ≤ 9223372036854775807; omega
    | 2, _ => show (-9223372036854775808 : Int) ≤ -9223372036854775808 ∧ (-9223372036854775808 : Int) ≤ 9223372036854775807; omega
    | 3, _ => show (-9223372036854775808 : Int) ≤ 9223372036854775807 ∧ (9223372036854775807 : Int) ≤ 9223372036854775807; omega
  · obtain ⟨y, hy, hy1, hy2⟩ := near_ev h hx2 a b hab ha hb
    exact ⟨_, Ev.bindS hx (Ev.neg c0 (Ev.bind hy (Ev.now _))), ⟨by omega, by omega⟩, hy2⟩
end Go.Proofs.Ytbojfnijgmppbaa.P
end

section
namespace Go.Proofs.Ytbojfnijgmppbaa.P
open Go.RowKit Go.Proofs.YtbojfnijgmppbaaW.PrintWords Go.Proofs.YtbojfnijgmppbaaW.PrintLast Go.Proofs.YtbojfnijgmppbaaW.PrintMore
attribute [local go_sem] str_gtr str_leq str_geq max2_int min2_int max_two min_two max_three min_three max_four min_four
set_option linter.unusedVariables false
set_option linter.unusedSimpArgs false
def isK (u : ByteArray) (seq kind : Int) : Prop := isU u ∧ (0 ≤ seq ∧ seq ≤ 1000000000000) ∧ 0 ≤ kind ∧ kind ≤ 1
instance (u : ByteArray) (seq kind : Int) : Decidable (isK u seq kind) := by unfold isK; infer_instance
def isE (u : ByteArray) (seq kind : Int) (v : ByteArray) : Prop := isK u seq kind ∧ v.size ≤ 200 ∧ (kind = 1 ∨ v.toList = [])
instance (u : ByteArray) (seq kind : Int) (v : ByteArray) : Decidable (isE u seq kind v) := by unfold isE; infer_instance
theorem beq_dec (a b : List UInt8) : (a == b) = decide (a = b) := by
  by_cases h : a = b <;> simp [h]
theorem keyOk_ev (u : ByteArray) (q d : Int) : impl_KeyOk.f u q d = some (decide (isK u q d)) := by
  unfold impl_KeyOk.f isK
  rw [isUser_ev, within_ev, within_ev]
  by_cases h : isU u
  · by_cases h2 : 0 ≤ q ∧ q ≤ 1000000000000
    · simp [h, h2]
    · simp [h, h2]
  · simp [h]
theorem sKeyOk_ev (u : ByteArray) (q d : Int) : spec_KeyOk.f u q d = some (decide (isK u q d)) := by
  unfold spec_KeyOk.f isK
  rw [l2User_ev, in_ev, in_ev]
  by_cases h : isU u
  · by_cases h2 : 0 ≤ q ∧ q ≤ 1000000000000
    · simp [h, h2]
    · simp [h, h2]
  · simp [h]
theorem entryOk_ev (u : ByteArray) (q d : Int) (v : ByteArray) : impl_EntryOk.f u q d v = some (decide (isE u q d v)) := by
  unfold impl_EntryOk.f isE
  rw [keyOk_ev]
  by_cases h : isK u q d
  · by_cases h2 : v.size ≤ 200
    · have h2' : (v.size : Int) ≤ 200 := by omega
      by_cases h3 : d = 1
      · subst h3
        simp [h, h2, h2']
      · simp only [h, h2, h2', h3, decide_true, Option.bind_some, if_true, if_false, true_and, false_or]
        congr 1
        exact beq_dec _ _
    · have h2' : ¬ (v.size : Int) ≤ 200 := by omega
      simp [h, h2, h2']
  · simp [h]
theorem sEntryOk_ev (u : ByteArray) (q d : Int) (v : ByteArray) : spec_EntryOk.f u q d v = some (decide (isE u q d v)) := by
  unfold spec_EntryOk.f isE
  rw [sKeyOk_ev]
  by_cases h : isK u q d
  · by_cases h2 : v.size ≤ 200
    · have h2' : (v.size : Int) ≤ 200 := by omega
      by_cases h3 : d = 1
      · subst h3
        simp [h, h2, h2']
      · simp only [h, h2, h2', h3, decide_true, Option.bind_some, if_true, if_false, true_and, false_or]
        congr 1
        exact beq_dec _ _
    · have h2' : ¬ (v.size : Int) ≤ 200 := by omega
      simp [h, h2, h2']
  · simp [h]
end Go.Proofs.Ytbojfnijgmppbaa.P
end

section
namespace Go.Proofs.Ytbojfnijgmppbaa.P
open Go.RowKit Go.Proofs.YtbojfnijgmppbaaW.PrintWords Go.Proofs.YtbojfnijgmppbaaW.PrintLast Go.Proofs.YtbojfnijgmppbaaW.PrintMore
attribute [local go_sem] str_gtr str_leq str_geq max2_int min2_int max_two min_two max_three min_three max_four min_four
set_option linter.unusedVariables false
set_option linter.unusedSimpArgs false
theorem bl_irrefl : ∀ a : List UInt8, Op.bytesLess a a = false
  | [] => by simp [Op.bytesLess]
  | a :: x => by
    have ih := bl_irrefl x
    have h1 : ¬ a < a := fun h => by have := UInt8.lt_iff_toNat_lt.1 h; omega
    simp [Op.bytesLess, ih, h1]
theorem bl_eq {a b : List UInt8} (h : Op.bytesLess a b = false) (h' : Op.bytesLess b a = false) : a = b := by
  rw [← bytesLess_swap, h] at h'
  simpa using h'
def tless (a b : ByteArray) : Bool := Op.bytesLess a.toList b.toList
theorem compareS_ev (a b : ByteArray) : cmp_Compare_string.f a b = some (if tless a b = true then -1 else if tless b a = true then 1 else 0) := by
  unfold cmp_Compare_string.f cmp_isNaN_string.f tless
  simp only [bne_self_eq_false, Option.bind_some, Bool.false_eq_true, if_false]
  split
  · rfl
  · split <;> rfl
theorem compareI_ev (a b : Int) : cmp_Compare_int64.f a b = some (if a < b then -1 else if b < a then 1 else 0) := by
  unfold cmp_Compare_int64.f cmp_isNaN_int64.f
  simp only [bne_self_eq_false, Option.bind_some, Bool.false_eq_true, if_false]
  split
  · rfl
  · by_cases h : b < a
    · rw [if_pos h, if_pos h]
    · rw [if_neg h, if_neg h]
theorem orInt_ev : ∀ (n : Nat) (l : List Int), l.length = n → n < 1000 → Ev (fun k => cmp_Or_int.f k l) ((l.find? fun x => x != 0).getD 0) := by
  intro n l hn hb
  have key : ∀ i, i ≤ l.length → Ev (fun k => cmp_Or_int.l0 k 0 l (l.length : Int) (i : Int)) (((l.drop i).find? fun x => x != 0).getD 0) := by
    refine downTo l.length ?_ ?_
    · refine Ev.step (fun k => cmp_Or_int.l0.eq_2 ..) (Ev.neg (by omega) ?_)
      rw [List.drop_length]
      exact Ev.now _
    · intro i hi ih
      have hr : rd l (i : Int) = l[i] := by
        unfold rd
        rw [Int.toNat_natCast, List.getD_eq_getElem?_getD, List.getElem?_eq_getElem hi]
        rfl
      rw [List.drop_eq_getElem_cons hi]
      refine Ev.step (fun k => cmp_Or_int.l0.eq_2 ..) (Ev.pos (by omega) (Ev.pos (by omega) (Ev.pos (by omega) ?_)))
      rw [hr, wsucc (by omega)]
      by_cases c : l[i] = 0
      · refine Ev.pos c ?_
        rw [List.find?_cons_of_neg (by simp [c])]
        exact ih
      · refine Ev.neg c ?_
        rw [List.find?_cons_of_pos (by simp [c])]
        exact Ev.now _
  exact key 0 (Nat.zero_le _)
def kcmp (u : ByteArray) (q d : Int) (u' : ByteArray) (q' d' : Int) : Int :=
  if tless u u' = true then -1 else if tless u' u = true then 1 else if q' < q then -1 else if q < q' then 1 else if d' < d then -1 else if d < d' then 1 else 0
theorem cmpKeys_ev (u : ByteArray) (q d : Int) (u' : ByteArray) (q' d' : Int) : Ev (fun k => impl_cmpKeys.f k u q d u' q' d') (kcmp u q d u' q' d') := by
  have h1 := compareS_ev u u'
  have h2 := compareI_ev q' q
  have h3 := compareI_ev d' d
  unfold impl_cmpKeys.f
  refine Ev.bindS h1 (Ev.bindS h2 (Ev.bindS h3 (Ev.bind (orInt_ev 3 _ rfl (by omega)) ((Ev.now _).eqr ?_))))
  unfold kcmp
  by_cases c1 : tless u u' = true
  · simp [c1]
  · by_cases c2 : tless u' u = true
    · simp [c1, c2]
    · by_cases c3 : q' < q
      · simp [c1, c2, c3]
      · by_cases c4 : q < q'
        · simp [c1, c2, c3, c4]
        · by_cases c5 : d' < d
          · simp [c1, c2, c3, c4, c5]
          · by_cases c6 : d < d'
            · simp [c1, c2, c3, c4, c5, c6]
            · simp [c1, c2, c3, c4, c5, c6]
theorem sKeyCmp_ev (u : ByteArray) (q d : Int) (u' : ByteArray) (q' d' : Int) : Ev (fun k => spec_KeyCmp.f k u q d u' q' d') (if isK u q d ∧ isK u' q' d' then kcmp u q d u' q' d' else 0) := by
  have h1 := sKeyOk_ev u q d
  have h2 := sKeyOk_ev u' q' d'
  have jt : Ev (fun k => spec_KeyCmp.j0 k true u q d u' q' d') 0 := Ev.step (fun k => spec_KeyCmp.j0.eq_2 ..) (Ev.pos rfl (Ev.now _))
  unfold spec_KeyCmp.f
  refine Ev.bindS h1 ?_
  by_cases c1 : isK u q d
  · refine Ev.pos (decide_eq_true c1) (Ev.bindS h2 ?_)
    by_cases c2 : isK u' q' d'
    · rw [decide_eq_true c2]
      refine Ev.eqr ?_ (if_pos ⟨c1, c2⟩).symm
      refine Ev.step (fun k => spec_KeyCmp.j0.eq_2 ..) (Ev.neg (by decide) ?_)
      have e : ∀ a b : ByteArray, Op.bytesLess a.toList b.toList = tless a b := fun _ _ => rfl
      rw [e]
      unfold kcmp
      by_cases k1 : tless u u' = true
      · have hne : u.toList ≠ u'.toList := fun h => by rw [← e, h, bl_irrefl] at k1; cases k1
        exact Ev.neg (by simp [hne]) (Ev.pos k1 ((Ev.now _).eqr (if_pos k1).symm))
      · by_cases k2 : tless u' u = true
        · have hne : u.toList ≠ u'.toList := fun h => by rw [← e, h, bl_irrefl] at k2; cases k2
          exact Ev.neg (by simp [hne]) (Ev.neg k1 (Ev.neg hne ((Ev.now _).eqr (by rw [if_neg k1, if_pos k2]))))
        · have heq : u.toList = u'.toList := bl_eq (by simpa [tless] using k1) (by simpa [tless] using k2)
          refine Ev.eqr ?_ (show (if q' < q then (-1 : Int) else if q < q' then 1 else if d' < d then -1 else if d < d' then 1 else 0) = _ from by rw [if_neg k1, if_neg k2])
          by_cases ce : q = q' ∧ d = d'
          · refine Ev.pos (by simp [heq, ce.1, ce.2]) ((Ev.now _).eqr ?_)
            rw [if_neg (by omega), if_neg (by omega), if_neg (by omega), if_neg (by omega)]
          · refine Ev.neg (by simp [heq]; omega) (Ev.neg k1 (Ev.pos heq ?_))
            by_cases k3 : q > q'
            · exact Ev.pos k3 ((Ev.now _).eqr (by rw [if_pos (by omega)]))
            · refine Ev.neg k3 ?_
              by_cases k4 : q = q'
              · refine Ev.pos k4 ?_
                by_cases k5 : d > d'
                · exact Ev.pos k5 ((Ev.now _).eqr (by rw [if_neg (by omega), if_neg (by omega), if_pos (by omega)]))
                · exact Ev.neg k5 ((Ev.now _).eqr (by rw [if_neg (by omega), if_neg (by omega), if_neg (by omega), if_pos (by omega)]))
              · exact Ev.neg k4 ((Ev.now _).eqr (by rw [if_neg (by omega), if_pos (by omega)]))
    · rw [decide_eq_false c2]
      exact jt.eqr (if_neg fun h => c2 h.2).symm
  · exact Ev.neg (by simpa using c1) (jt.eqr (if_neg fun h => c1 h.1).symm)
theorem kcmp_lt (u : ByteArray) (q d : Int) (u' : ByteArray) (q' d' : Int) : kcmp u q d u' q' d' < 0 ↔ tless u u' = true ∨ u = u' ∧ (q' < q ∨ q = q' ∧ d' < d) := by
  unfold kcmp
  by_cases k1 : tless u u' = true
  · simp [k1]
  · by_cases k2 : tless u' u = true
    · have hne : u ≠ u' := fun h => by rw [h] at k2; rw [tless, bl_irrefl] at k2; cases k2
      simp [k1, k2, hne]
    · have heq : u = u' := by
        have := bl_eq (a := u.toList) (b := u'.toList) (by simpa [tless] using k1) (by simpa [tless] using k2)
        rw [ByteArray.toList_eq, ByteArray.toList_eq] at this
        exact ByteArray.ext (Array.toList_inj.1 this)
      rw [if_neg k1, if_neg k2]
      subst heq
      simp only [k1, true_and, false_or]
      by_cases h1 : q' < q
      · simp [h1]
      · by_cases h2 : q < q'
        · rw [if_neg h1, if_pos h2]; constructor
          · intro h; omega
          · intro h; simp at h; omega
        · by_cases h3 : d' < d
          · rw [if_neg h1, if_neg h2, if_pos h3]; simp; omega
          · rw [if_neg h1, if_neg h2, if_neg h3]
            constructor
            · intro h; split at h <;> omega
            · intro h; simp at h; omega
def isEx (x : S48) : Prop := isE x.f0.f0 x.f0.f1 x.f0.f2 x.f1
instance (x : S48) : Decidable (isEx x) := by unfold isEx; infer_instance
def ecmp (x y : S48) : Int := kcmp x.f0.f0 x.f0.f1 x.f0.f2 y.f0.f0 y.f0.f1 y.f0.f2
theorem rdE (l : List S48) (i : Nat) (h : i < l.length) : qb l (i : Int) = l[i] := by
  unfold qb
  rw [Int.toNat_natCast, List.getD_eq_getElem?_getD, List.getElem?_eq_getElem h]
  rfl
def rowFrom (l : List S48) (i : Nat) : Prop := ∀ j, i ≤ j → ∀ h : j < l.length, isEx l[j] ∧ (0 < j → ecmp (l[j - 1]'(by omega)) l[j] < 0)
noncomputable instance (l : List S48) (i : Nat) : Decidable (rowFrom l i) := Classical.propDecidable _
def isRow (l : List S48) : Prop := l.length ≤ 400 ∧ rowFrom l 0
noncomputable instance (l : List S48) : Decidable (isRow l) := Classical.propDecidable _
theorem rowFrom_step (l : List S48) (i : Nat) (h : i < l.length) : rowFrom l i ↔ (isEx l[i] ∧ (0 < i → ecmp (l[i - 1]'(by omega)) l[i] < 0)) ∧ rowFrom l (i + 1) := by
  constructor
  · exact fun hr => ⟨hr i (Nat.le_refl _) h, fun j hj hl => hr j (by omega) hl⟩
  · rintro ⟨h1, h2⟩ j hj hl
    by_cases e : j = i
    · subst e; exact h1
    · exact h2 j (by omega) hl
theorem entriesOk_ev (l : List S48) (hl : l.length < 2097152) : Ev (fun k => impl_EntriesOk.f k l) (decide (isRow l)) := by
  unfold impl_EntriesOk.f
  by_cases c : (l.length : Int) > 400
  · exact Ev.pos c ((Ev.now _).eqr (decide_eq_false fun h => by have := h.1; omega).symm)
  · have key : ∀ i, i ≤ l.length → (∀ h : 0 < i, isEx (l.getD (i - 1) z48)) → Ev (fun k => impl_EntriesOk.l0 k l l (l.length : Int) (i : Int)) (decide (rowFrom l i)) := by
      refine downTo l.length ?_ ?_
      · intro _
        exact Ev.step (fun k => impl_EntriesOk.l0.eq_2 ..) (Ev.neg (by omega) ((Ev.now _).eqr (decide_eq_true (show rowFrom l l.length from fun j h1 h2 => by omega)).symm))
      · intro i hi ih hp
        have hg : l.getD (i + 1 - 1) z48 = l[i] := by rw [Nat.add_sub_cancel, List.getD_eq_getElem?_getD, List.getElem?_eq_getElem hi]; rfl
        refine Ev.step (fun k => impl_EntriesOk.l0.eq_2 ..) (Ev.pos (by omega) (Ev.pos (by omega) ?_))
        refine Ev.pos (by omega) ?_
        rw [rdE l i hi]
        refine Ev.bindS (entryOk_ev l[i].f0.f0 l[i].f0.f1 l[i].f0.f2 l[i].f1) ?_
        by_cases ce : isE l[i].f0.f0 l[i].f0.f1 l[i].f0.f2 l[i].f1
        · refine Ev.pos (decide_eq_true ce) ?_
          have ih := ih (fun _ => by rw [hg]; exact ce)
          by_cases c0 : (i : Int) > 0
          · have hw : wrap64 ((i : Int) - 1) = ((i - 1 : Nat) : Int) := by rw [wid (by omega) (by omega)]; omega
            rw [hw, rdE l (i - 1) (by omega)]
            have hq := hp (by omega)
            rw [show l.getD (i - 1) z48 = l[i - 1]'(by omega) from by rw [List.getD_eq_getElem?_getD, List.getElem?_eq_getElem (by omega)]; rfl] at hq
            refine Ev.pos c0 (Ev.pos (by omega) (Ev.pos (by omega) (Ev.bind (cmpKeys_ev _ _ _ _ _ _) ?_)))
            skip
            by_cases cc : ecmp (l[i - 1]'(by omega)) l[i] ≥ 0
            · exact Ev.pos cc ((Ev.now _).eqr (decide_eq_false fun h => by have := ((rowFrom_step l i hi).1 h).1.2 (by omega); omega).symm)
            · refine Ev.neg cc ?_
              rw [wsucc (by omega)]
              exact ih.eqr (decide_eq_decide.2 ⟨fun h => (rowFrom_step l i hi).2 ⟨⟨ce, fun _ => by omega⟩, h⟩, fun h => ((rowFrom_step l i hi).1 h).2⟩)
          · refine Ev.neg c0 ?_
            rw [wsucc (by omega)]
            exact ih.eqr (decide_eq_decide.2 ⟨fun h => (rowFrom_step l i hi).2 ⟨⟨ce, fun _ => by omega⟩, h⟩, fun h => ((rowFrom_step l i hi).1 h).2⟩)
        · exact Ev.neg (by simpa using ce) ((Ev.now _).eqr (decide_eq_false fun h => ce ((rowFrom_step l i hi).1 h).1.1).symm)
    exact Ev.neg c ((key 0 (Nat.zero_le _) (fun h => absurd h (by omega))).eqr (decide_eq_decide.2 ⟨fun h => ⟨by omega, h⟩, fun h => h.2⟩))
theorem sEntriesOk_ev (l : List S48) (hl : l.length < 2097152) : Ev (fun k => spec_EntriesOk.f k l) (decide (isRow l)) := by
  unfold spec_EntriesOk.f
  by_cases c : (l.length : Int) > 400
  · exact Ev.pos c ((Ev.now _).eqr (decide_eq_false fun h => by have := h.1; omega).symm)
  · have key : ∀ i, i ≤ l.length → (∀ h : 0 < i, isEx (l.getD (i - 1) z48)) → Ev (fun k => spec_EntriesOk.l0 k l (i : Int)) (decide (rowFrom l i)) := by
      refine downTo l.length ?_ ?_
      · intro _
        exact Ev.step (fun k => spec_EntriesOk.l0.eq_2 ..) (Ev.neg (by omega) ((Ev.now _).eqr (decide_eq_true (show rowFrom l l.length from fun j h1 h2 => by omega)).symm))
      · intro i hi ih hp
        have hg : l.getD (i + 1 - 1) z48 = l[i] := by rw [Nat.add_sub_cancel, List.getD_eq_getElem?_getD, List.getElem?_eq_getElem hi]; rfl
        refine Ev.step (fun k => spec_EntriesOk.l0.eq_2 ..) (Ev.pos (by omega) (Ev.pos (by omega) ?_))
        rw [rdE l i hi]
        refine Ev.bindS (sEntryOk_ev l[i].f0.f0 l[i].f0.f1 l[i].f0.f2 l[i].f1) ?_
        by_cases ce : isE l[i].f0.f0 l[i].f0.f1 l[i].f0.f2 l[i].f1
        · refine Ev.pos (decide_eq_true ce) ?_
          have ih := ih (fun _ => by rw [hg]; exact ce)
          by_cases c0 : (i : Int) > 0
          · have hw : wrap64 ((i : Int) - 1) = ((i - 1 : Nat) : Int) := by rw [wid (by omega) (by omega)]; omega
            rw [hw, rdE l (i - 1) (by omega)]
            have hq := hp (by omega)
            rw [show l.getD (i - 1) z48 = l[i - 1]'(by omega) from by rw [List.getD_eq_getElem?_getD, List.getElem?_eq_getElem (by omega)]; rfl] at hq
            refine Ev.pos c0 (Ev.pos (by omega) (Ev.pos (by omega) (Ev.bind (sKeyCmp_ev _ _ _ _ _ _) ?_)))
            rw [if_pos ⟨hq.1, ce.1⟩]
            by_cases cc : ecmp (l[i - 1]'(by omega)) l[i] ≥ 0
            · exact Ev.pos cc ((Ev.now _).eqr (decide_eq_false fun h => by have := ((rowFrom_step l i hi).1 h).1.2 (by omega); omega).symm)
            · refine Ev.neg cc ?_
              rw [wsucc (by omega)]
              exact ih.eqr (decide_eq_decide.2 ⟨fun h => (rowFrom_step l i hi).2 ⟨⟨ce, fun _ => by omega⟩, h⟩, fun h => ((rowFrom_step l i hi).1 h).2⟩)
          · refine Ev.neg c0 ?_
            rw [wsucc (by omega)]
            exact ih.eqr (decide_eq_decide.2 ⟨fun h => (rowFrom_step l i hi).2 ⟨⟨ce, fun _ => by omega⟩, h⟩, fun h => ((rowFrom_step l i hi).1 h).2⟩)
        · exact Ev.neg (by simpa using ce) ((Ev.now _).eqr (decide_eq_false fun h => ce ((rowFrom_step l i hi).1 h).1.1).symm)
    exact Ev.neg c ((key 0 (Nat.zero_le _) (fun h => absurd h (by omega))).eqr (decide_eq_decide.2 ⟨fun h => ⟨by omega, h⟩, fun h => h.2⟩))
end Go.Proofs.Ytbojfnijgmppbaa.P
end

section
namespace Go.Proofs.Ytbojfnijgmppbaa.P
open Go.RowKit Go.Proofs.YtbojfnijgmppbaaW.PrintWords Go.Proofs.YtbojfnijgmppbaaW.PrintLast Go.Proofs.YtbojfnijgmppbaaW.PrintMore
attribute [local go_sem] str_gtr str_leq str_geq max2_int min2_int max_two min_two max_three min_three max_four min_four
set_option linter.unusedVariables false
set_option linter.unusedSimpArgs false
theorem dkey_ev {l : List Int} {p : Int} (h : okc l) (hp : okp l p) : ∃ r, Ev (fun k => spec_l1Rd_key.f k l p) r ∧ okp l r.2.2.2 := by
  unfold spec_l1Rd_key.f
  obtain ⟨a, ha, _, ha2⟩ := duser_ev h hp
  obtain ⟨b, hb, _, hb2⟩ := near_ev h ha2 0 12 (by omega) (by omega) (by omega)
  obtain ⟨c, hc, _, hc2⟩ := below_ev h hb2 2 (by omega)
  obtain ⟨d, hd, _, hd2⟩ := below_ev h hc2 24 (by omega)
  by_cases c0 : d.1 = 0
  · obtain ⟨e, he, _, he2⟩ := off_ev h hd2 0 1000000000000 (by omega) (by omega) (by omega)
    exact ⟨_, Ev.bindS ha (Ev.bind hb (Ev.bindS hc (Ev.bindS hd (Ev.pos c0 (Ev.bind he (Ev.now _)))))), he2⟩
  · by_cases c1 : d.1 = 1
    · obtain ⟨e, he, _, he2⟩ := off_ev h hd2 0 1 (by omega) (by omega) (by omega)
      exact ⟨_, Ev.bindS ha (Ev.bind hb (Ev.bindS hc (Ev.bindS hd (Ev.neg c0 (Ev.pos c1 (Ev.bind he (Ev.now _))))))), he2⟩
    · by_cases c2 : d.1 = 2
      · obtain ⟨e, he, _, he2⟩ := bytes_ev h hd2 45 (by omega) (by omega)
        exact ⟨_, Ev.bindS ha (Ev.bind hb (Ev.bindS hc (Ev.bindS hd (Ev.neg c0 (Ev.neg c1 (Ev.pos c2 (Ev.bind he (Ev.now _)))))))), he2⟩
      · exact ⟨_, Ev.bindS ha (Ev.bind hb (Ev.bindS hc (Ev.bindS hd (Ev.neg c0 (Ev.neg c1 (Ev.neg c2 (Ev.now _))))))), hd2⟩
theorem dentry_ev {l : List Int} {p : Int} (h : okc l) (hp : okp l p) : ∃ r, Ev (fun k => spec_l1Rd_entry.f k l p) r ∧ okp l r.2.2.2.2 := by
  unfold spec_l1Rd_entry.f
  obtain ⟨a, ha, ha2⟩ := dkey_ev h hp
  obtain ⟨b, hb, _, hb2⟩ := dvalue_ev h ha2
  by_cases c0 : a.2.2.1 = 0
  · obtain ⟨c, hc, hc2⟩ := once_ev h hb2 12 (by omega)
    by_cases c1 : c.1 = true
    · exact ⟨_, Ev.bind ha (Ev.bindS hb (Ev.pos c0 (Ev.bindS hc (Ev.pos c1 (Ev.now _))))), hc2⟩
    · exact ⟨_, Ev.bind ha (Ev.bindS hb (Ev.pos c0 (Ev.bindS hc (Ev.neg c1 (Ev.now _))))), hc2⟩
  · exact ⟨_, Ev.bind ha (Ev.bindS hb (Ev.neg c0 (Ev.now _))), hb2⟩
theorem dentries_ev {l : List Int} {p : Int} (h : okc l) (hp : okp l p) (n : Int) (hn : 0 ≤ n) (hn2 : n ≤ 1000) : ∃ r, Ev (fun k => spec_l1Rd_entries.f k l p n) r ∧ (r.1.length : Int) ≤ n + 1 ∧ okp l r.2 := by
  have key : ∀ (j : Nat) (acc : List S48) (p : Int), acc.length + j ≤ 2000 → okp l p → ∃ r, Ev (fun k => spec_l1Rd_entries.l0 k acc (j : Int) l p) r ∧ r.1.length ≤ acc.length + j + 1 ∧ okp l r.2 := by
    intro j
    induction j with
    | zero =>
      intro acc p ha hp
      obtain ⟨a, ha', ha2⟩ := once_ev h hp 24 (by omega)
      by_cases c : a.1 = true
      · obtain ⟨b, hb, hb2⟩ := dentry_ev h ha2
        refine ⟨_, Ev.step (fun k => spec_l1Rd_entries.l0.eq_2 ..) (Ev.neg (by omega) (Ev.bindS ha' (Ev.pos c (Ev.bind hb (Ev.pos (by omega) (Ev.now _)))))), ?_, hb2⟩
        show (acc ++ [_]).length ≤ _
        rw [List.length_append]
        simp only [List.length_cons, List.length_nil]
        omega
      · exact ⟨_, Ev.step (fun k => spec_l1Rd_entries.l0.eq_2 ..) (Ev.neg (by omega) (Ev.bindS ha' (Ev.neg c (Ev.now _)))), by show acc.length ≤ _; omega, ha2⟩
    | succ j ih =>
      intro acc p ha hp
      obtain ⟨e, he, he2⟩ := dentry_ev h hp
      have hw : wrap64 (((j + 1 : Nat) : Int) - 1) = (j : Int) := by rw [wid (by omega) (by omega)]; omega
      by_cases c : isE e.1 e.2.1 e.2.2.1 e.2.2.2.1
      ·
        have seek : ∀ d i : Nat, i + d = acc.length → ∃ r, Ev (fun k => spec_l1Rd_entries.l1 k acc ((j + 1 : Nat) : Int) (i : Int) l e.2.2.2.2 e.1 e.2.1 e.2.2.1 e.2.2.2.1) r ∧ r.1.length ≤ acc.length + (j + 1) + 1 ∧ okp l r.2 := by
          intro d
          induction d with
          | zero =>
            intro i hi
            obtain ⟨r, hr, hr1, hr2⟩ := ih ((([] ++ acc.take i) ++ [⟨⟨e.1, e.2.1, e.2.2.1⟩, e.2.2.2.1⟩]) ++ acc.drop i) e.2.2.2.2 (by simp; omega) he2
            refine ⟨r, Ev.step (fun k => spec_l1Rd_entries.l1.eq_2 ..) (Ev.neg (by omega) (Ev.bindS rfl (Ev.pos (by omega) (Ev.pos (by omega) (Ev.bindS rfl (Ev.pos (by simp; omega) (Ev.bindS rfl (Ev.pos (by simp; omega) (Ev.bindS rfl (Ev.bindS rfl (Ev.pos (by simp; omega) ?_))))))))))), ?_, hr2⟩
            · rw [hw, Int.toNat_natCast]
              exact hr
            · refine Nat.le_trans hr1 ?_
              simp
              omega
          | succ d ihd =>
            intro i hi
            have hc := sKeyCmp_ev (qb acc (i : Int)).f0.f0 (qb acc (i : Int)).f0.f1 (qb acc (i : Int)).f0.f2 e.1 e.2.1 e.2.2.1
            generalize (if isK (qb acc (i : Int)).f0.f0 (qb acc (i : Int)).f0.f1 (qb acc (i : Int)).f0.f2 ∧ isK e.1 e.2.1 e.2.2.1 then kcmp (qb acc (i : Int)).f0.f0 (qb acc (i : Int)).f0.f1 (qb acc (i : Int)).f0.f2 e.1 e.2.1 e.2.2.1 else 0) = cv at hc
            by_cases c1 : cv < 0
            · obtain ⟨r, hr, hr2⟩ := ihd (i + 1) (by omega)
              refine ⟨r, Ev.step (fun k => spec_l1Rd_entries.l1.eq_2 ..) (Ev.pos (by omega) (Ev.pos (by omega) (Ev.bind hc (Ev.pos c1 ?_)))), hr2⟩
              rw [wsucc (by omega)]
              exact hr
            · generalize hb : (((qb acc (i : Int)).f0.f0.toList == e.1.toList) && ((qb acc (i : Int)).f0.f1 == e.2.1 && ((qb acc (i : Int)).f0.f2 == e.2.2.1))) = bb
              cases bb with
              | true =>
                obtain ⟨r, hr, hr1, hr2⟩ := ih acc e.2.2.2.2 (by omega) he2
                refine ⟨r, Ev.step (fun k => spec_l1Rd_entries.l1.eq_2 ..) (Ev.pos (by omega) (Ev.pos (by omega) (Ev.bind hc (Ev.neg c1 (Ev.pos hb ?_))))), by omega, hr2⟩
                rw [hw]
                exact hr
              | false =>
                obtain ⟨r, hr, hr1, hr2⟩ := ih ((([] ++ acc.take i) ++ [⟨⟨e.1, e.2.1, e.2.2.1⟩, e.2.2.2.1⟩]) ++ acc.drop i) e.2.2.2.2 (by simp; omega) he2
                refine ⟨r, Ev.step (fun k => spec_l1Rd_entries.l1.eq_2 ..) (Ev.pos (by omega) (Ev.pos (by omega) (Ev.bind hc (Ev.neg c1 (Ev.neg (by rw [hb]; simp) (Ev.bindS rfl (Ev.pos (by omega) (Ev.bindS rfl (Ev.pos (by simp; omega) (Ev.bindS rfl (Ev.pos (by simp; omega) (Ev.bindS rfl (Ev.bindS rfl (Ev.pos (by simp; omega) ?_)))))))))))))), ?_, hr2⟩
                · rw [hw, Int.toNat_natCast]
                  exact hr
                · refine Nat.le_trans hr1 ?_
                  simp
                  omega
        obtain ⟨r, hr, hr2⟩ := seek acc.length 0 (by omega)
        exact ⟨r, Ev.step (fun k => spec_l1Rd_entries.l0.eq_2 ..) (Ev.pos (by omega) (Ev.bind he (Ev.bindS (sEntryOk_ev _ _ _ _) (Ev.pos (decide_eq_true c) hr)))), hr2⟩
      · obtain ⟨r, hr, hr1, hr2⟩ := ih acc e.2.2.2.2 (by omega) he2
        refine ⟨r, Ev.step (fun k => spec_l1Rd_entries.l0.eq_2 ..) (Ev.pos (by omega) (Ev.bind he (Ev.bindS (sEntryOk_ev _ _ _ _) (Ev.neg (by simpa using c) ?_)))), by omega, hr2⟩
        rw [hw]
        exact hr
  obtain ⟨a, ha, ha1, ha2⟩ := below_ev h hp (n + 1) (by omega)
  obtain ⟨r, hr, hr1, hr2⟩ := key a.1.toNat [] a.2 (by simp; omega) ha2
  refine ⟨r, ?_, ?_, hr2⟩
  · unfold spec_l1Rd_entries.f
    rw [wid (by omega) (by omega)]
    refine Ev.bindS ha ?_
    rw [show ((a.1.toNat : Nat) : Int) = a.1 from by omega] at hr
    exact hr
  · simp only [List.length_nil] at hr1
    omega
theorem eqA76 (d : Nat) (w : World) (x0 y0 : ByteArray) (x1 y1 : ByteArray) :
  (Op.equalIn (d + 2) 76 (.agg #[.string x0, .string x1]) (.agg #[.string y0, .string y1])).run Try.prog w = .ok (x0.toList == y0.toList && (x1.toList == y1.toList)) w := by
 refine eqA_of Try.underlying76 (by kernel_rfl) ?_
 refine eqf_cons (by rfl) (by go_simp; rfl) (by go_simp; rfl) (by go_simp) ?_
 exact eqf_last (by rfl) (by go_simp; rfl) (by go_simp; rfl) (by go_simp)
end Go.Proofs.Ytbojfnijgmppbaa.P
end

section
namespace Go.Proofs.Ytbojfnijgmppbaa.P
open Go.RowKit Go.Proofs.YtbojfnijgmppbaaW.PrintWords Go.Proofs.YtbojfnijgmppbaaW.PrintLast Go.Proofs.YtbojfnijgmppbaaW.PrintMore
attribute [local go_sem] str_gtr str_leq str_geq max2_int min2_int max_two min_two max_three min_three max_four min_four
set_option linter.unusedVariables false
set_option linter.unusedSimpArgs false
theorem sameEntries_self (l : List S48) (h : l.length < 2097152) : Ev (fun k => laws_sameEntries.f k l l) true := by
  unfold laws_sameEntries.f
  have key : ∀ i, i ≤ l.length → Ev (fun k => laws_sameEntries.l0 k l l (i : Int)) true := by
    refine downTo l.length (Ev.step (fun k => laws_sameEntries.l0.eq_2 ..) (Ev.neg (by omega) (Ev.now _))) ?_
    intro i hi ih
    refine Ev.step (fun k => laws_sameEntries.l0.eq_2 ..) (Ev.pos (by omega) (Ev.pos (by omega) (Ev.pos (by omega) (Ev.neg (by simp) ?_))))
    rw [wsucc (by omega)]
    exact ih
  exact Ev.pos rfl (key 0 (Nat.zero_le _))
end Go.Proofs.Ytbojfnijgmppbaa.P
end

section
namespace Go.Proofs.Ytbojfnijgmppbaa.Pure
open Go.RowKit Go.Proofs.YtbojfnijgmppbaaW.PrintWords Go.Proofs.YtbojfnijgmppbaaW.PrintLast Go.Proofs.YtbojfnijgmppbaaW.PrintMore
open Go.Proofs.Ytbojfnijgmppbaa.P
set_option linter.unusedVariables false
set_option linter.unusedSimpArgs false
theorem byteOk {l : List Int} (h1 : l.length ≤ 1048576) (h2 : ∀ x ∈ l, (Lit.int .u8 x).wf = true) : okc l := by
  refine ⟨h1, fun x hx => ?_⟩
  have := h2 x hx
  simpa [Lit.wf, IntKind.min, IntKind.max, IntKind.signed, IntKind.bits] using this
theorem okp0 (l : List Int) : okp l 0 := ⟨by omega, by omega⟩
def spGo (most : Int) : List S48 → S48 → List S48 → List (List S48)
  | cur, e, [] => [cur ++ [e]]
  | cur, e, x :: xs => if ((cur ++ [e]).length : Int) ≥ most ∧ x.f0.f0.toList ≠ e.f0.f0.toList then (cur ++ [e]) :: spGo most [] x xs else spGo most (cur ++ [e]) x xs
noncomputable def spAll (l : List S48) (most : Int) : List (List S48) := match l with
  | [] => []
  | e :: es => spGo most [] e es
def mkRun (l : List S48) : S44 := ⟨l⟩
theorem eta_e (e : S48) : (⟨⟨e.f0.f0, e.f0.f1, e.f0.f2⟩, e.f1⟩ : S48) = e := rfl
theorem iSplit_ev (l : List S48) (hl : l.length ≤ 400) (most : Int) : Ev (fun k => impl_SplitRun.l0 k l most [] [] l (l.length : Int) 0) ((spAll l most).map mkRun) := by
  have fin : ∀ out own, Ev (fun k => impl_SplitRun.l0 k l most out own l (l.length : Int) (l.length : Int)) out := fun out own => by
    refine Ev.step (fun k => impl_SplitRun.l0.eq_2 ..) ?_
    exact Ev.neg (by omega) (Ev.now _)
  cases l with
  | nil => exact fin [] []
  | cons e0 es0 =>
    generalize hL : e0 :: es0 = l at *
    have hpos : 0 < l.length := by rw [← hL]; simp
    have key : ∀ i, i < l.length → ∀ h : i < l.length, ∀ (out : List S44) (own : List S48), out.length ≤ i → own.length ≤ i → Ev (fun k => impl_SplitRun.l0 k l most out own l (l.length : Int) (i : Int)) (out ++ (spGo most own l[i] (l.drop (i + 1))).map mkRun) := by
      have step : ∀ d i, i + d + 1 = l.length → ∀ h : i < l.length, ∀ (out : List S44) (own : List S48), out.length ≤ i → own.length ≤ i → Ev (fun k => impl_SplitRun.l0 k l most out own l (l.length : Int) (i : Int)) (out ++ (spGo most own l[i] (l.drop (i + 1))).map mkRun) := by
        intro d
        induction d with
        | zero =>
          intro i hi h out own ho hw
          rw [List.drop_eq_nil_of_le (by omega)]
          refine Ev.step (fun k => impl_SplitRun.l0.eq_2 ..) ?_
          rw [rdE l i h, eta_e]
          refine Ev.pos (by omega) (Ev.pos (by omega) (Ev.pos (by omega) (Ev.pos (by omega) (Ev.bindS rfl (Ev.pos ?_ (Ev.pos (by omega) ?_))))))
          · rw [wid (by omega) (by omega)]; omega
          · rw [wsucc (by omega), show i + 1 = l.length from by omega]
            exact fin _ _
        | succ d ih =>
          intro i hi h out own ho hw
          have h1 : i + 1 < l.length := by omega
          rw [List.drop_eq_getElem_cons h1]
          refine Ev.step (fun k => impl_SplitRun.l0.eq_2 ..) ?_
          rw [rdE l i h, eta_e, wsucc (show i < 4611686018427387904 by omega), rdE l (i + 1) h1]
          refine Ev.pos (by omega) (Ev.pos (by omega) (Ev.pos (by omega) (Ev.pos (by omega) (Ev.bindS rfl (Ev.neg ?_ ?_)))))
          · rw [wid (by omega) (by omega)]; omega
          by_cases c : ((own ++ [l[i]]).length : Int) ≥ most
          · refine Ev.pos c (Ev.pos (by omega) (Ev.pos (by omega) ?_))
            by_cases c2 : l[i + 1].f0.f0.toList = l[i].f0.f0.toList
            · refine Ev.pos c2 ?_
              rw [spGo, if_neg (fun q => q.2 c2)]
              exact ih (i + 1) (by omega) h1 out _ (by omega) (by rw [List.length_append]; simp only [List.length_cons, List.length_nil]; omega)
            · refine Ev.neg c2 (Ev.pos (by omega) ?_)
              rw [spGo, if_pos ⟨c, c2⟩, List.map_cons]
              refine (ih (i + 1) (by omega) h1 (out ++ [⟨own ++ [l[i]]⟩]) [] (by rw [List.length_append]; simp only [List.length_cons, List.length_nil]; omega) (by simp)).eqr ?_
              rw [List.append_assoc]
              rfl
          · refine Ev.neg c ?_
            rw [spGo, if_neg (fun q => c q.1)]
            exact ih (i + 1) (by omega) h1 out _ (by omega) (by rw [List.length_append]; simp only [List.length_cons, List.length_nil]; omega)
      intro i hi h out own ho hw
      exact step (l.length - i - 1) i (by omega) h out own ho hw
    refine (key 0 hpos hpos [] [] (by simp) (by simp)).eqr ?_
    subst hL
    rfl
theorem rdR_last (out : List S44) (c : List S48) : qy (out ++ [⟨c⟩]) (out.length : Int) = ⟨c⟩ := by
  unfold qy
  rw [Int.toNat_natCast, List.getD_eq_getElem?_getD, List.getElem?_append_right (Nat.le_refl _), Nat.sub_self]
  rfl
theorem lt_last {α : Type} (A : List α) (x : α) : (A.length : Int) < ((A ++ [x]).length : Int) := by rw [List.length_append]; simp only [List.length_cons, List.length_nil]; omega
theorem set_last (out : List S44) (c c' : S44) : (out ++ [c]).set out.length c' = out ++ [c'] := by
  rw [List.set_append_right _ _ (Nat.le_refl _), Nat.sub_self]
  rfl
theorem sSplit_ev (l : List S48) (hl : l.length ≤ 400) (most : Int) : Ev (fun k => spec_SplitRun.l0 k l most [] 0) ((spAll l most).map mkRun) := by
  have key : ∀ d i, i + d = l.length → ∀ (out : List S44) (cur : List S48) (h : 0 < i) (h2 : i - 1 < l.length), out.length < i → cur.length < i → Ev (fun k => spec_SplitRun.l0 k l most (out ++ [⟨cur ++ [l[i - 1]]⟩]) (i : Int)) (out ++ (spGo most cur l[i - 1] (l.drop i)).map mkRun) := by
    intro d
    induction d with
    | zero =>
      intro i hi out cur h h2 ho hw
      refine Ev.step (fun k => spec_SplitRun.l0.eq_2 ..) ?_
      rw [List.drop_eq_nil_of_le (by omega)]
      exact Ev.neg (by omega) (Ev.now _)
    | succ d ih =>
      intro i hi out cur h h2 ho hw
      have h1 : i < l.length := by omega
      have hlen : ((out ++ [(⟨cur ++ [l[i - 1]]⟩ : S44)]).length : Int) = (out.length : Int) + 1 := by simp
      have hw1 : wrap64 (((out ++ [(⟨cur ++ [l[i - 1]]⟩ : S44)]).length : Int) - 1) = (out.length : Int) := by rw [hlen, wid (by omega) (by omega)]; omega
      have hw2 : wrap64 ((i : Int) - 1) = ((i - 1 : Nat) : Int) := by rw [wid (by omega) (by omega)]; omega
      have hcl : (cur ++ [l[i - 1]]).length = cur.length + 1 := by simp
      rw [List.drop_eq_getElem_cons h1]
      refine Ev.step (fun k => spec_SplitRun.l0.eq_2 ..) ?_
      rw [hw1, hw2, rdE l i h1, rdE l (i - 1) h2, eta_e, rdR_last, wsucc (show i < 4611686018427387904 by omega), Int.toNat_natCast, set_last]
      refine Ev.pos (by omega) (Ev.neg (by omega) (Ev.pos (by omega) (Ev.pos (by omega) ?_)))
      by_cases c : ((cur ++ [l[i - 1]]).length : Int) ≥ most
      · refine Ev.pos c (Ev.pos (by omega) (Ev.pos (by omega) (Ev.pos (by omega) ?_)))
        by_cases c2 : l[i - 1].f0.f0.toList = l[i].f0.f0.toList
        · refine Ev.pos c2 (Ev.pos (by show (cur ++ [l[i - 1]]).length < _; omega) ?_)
          rw [spGo, if_neg (fun q => q.2 c2.symm)]
          have := ih (i + 1) (by omega) out (cur ++ [l[i - 1]]) (by omega) (by omega) (by omega) (by omega)
          exact this
        · refine Ev.neg c2 (Ev.pos (by omega) (Ev.bindS rfl ?_))
          have hw3 : wrap64 ((out.length : Int) + 1) = ((out ++ [(⟨cur ++ [l[i - 1]]⟩ : S44)]).length : Int) := by rw [hlen, wid (by omega) (by omega)]
          rw [hw3, rdR_last (out ++ [(⟨cur ++ [l[i - 1]]⟩ : S44)]) [], Int.toNat_natCast, set_last (out ++ [(⟨cur ++ [l[i - 1]]⟩ : S44)])]
          have hz0 : ([] : List S48).length < 2932031007402 := by rw [List.length_nil]; omega
          refine Ev.pos (Int.natCast_nonneg _) ?_
          refine Ev.pos (lt_last _ _) ?_
          refine Ev.pos hz0 ?_
          rw [spGo, if_pos ⟨c, fun q => c2 q.symm⟩, List.map_cons]
          have := ih (i + 1) (by omega) (out ++ [(⟨cur ++ [l[i - 1]]⟩ : S44)]) [] (by omega) (by omega) (by simp; omega) (by simp)
          refine Ev.eqr this ?_
          rw [List.append_assoc]
          rfl
      · refine Ev.neg c (Ev.pos (by omega) (Ev.pos (by show (cur ++ [l[i - 1]]).length < _; omega) ?_))
        rw [spGo, if_neg (fun q => c q.1)]
        have := ih (i + 1) (by omega) out (cur ++ [l[i - 1]]) (by omega) (by omega) (by omega) (by omega)
        exact this
  cases l with
  | nil =>
    refine Ev.step (fun k => spec_SplitRun.l0.eq_2 ..) ?_
    exact Ev.neg (by simp) (Ev.now _)
  | cons e es =>
    refine Ev.step (fun k => spec_SplitRun.l0.eq_2 ..) ?_
    have hr := rdE (e :: es) 0 (by simp)
    have hr : qb (e :: es) 0 = e := hr
    rw [hr, eta_e]
    refine Ev.pos (by rw [List.length_cons]; omega) (Ev.pos rfl (Ev.pos (by simp) (Ev.bindS rfl ?_)))
    have hz : wrap64 (wrap64 ((([] : List S44).length : Int) - 1) + 1) = 0 := by rw [show (([] : List S44).length : Int) = 0 from rfl, wid (x := (0 : Int) - 1) (by omega) (by omega), wid (by omega) (by omega)]; omega
    rw [hz]
    refine Ev.pos (by omega) (Ev.pos (by simp) (Ev.pos (by omega) (Ev.pos (by show (0 : Nat) < _; omega) ?_)))
    rw [show wrap64 ((0 : Int) + 1) = ((1 : Nat) : Int) from by rw [wid (by omega) (by omega)]; rfl]
    have := key es.length 1 (by simp; omega) [] [] (by omega) (by simp) (by simp) (by simp)
    exact this
theorem split_evs (l : List S48) (hl : l.length < 2097152) (most : Int) : ∃ r, Ev (fun k => impl_SplitRun.f k l most) r ∧ Ev (fun k => spec_SplitRun.f k l most) r ∧ (isRow l → 1 ≤ most → r = (spAll l most).map mkRun) := by
  have jt1 : Ev (fun k => impl_SplitRun.j0 k l most true) [] := by
    refine Ev.step (fun k => impl_SplitRun.j0.eq_2 ..) ?_
    exact Ev.pos rfl (Ev.now _)
  have jt2 : Ev (fun k => spec_SplitRun.j0 k l most [] true) [] := by
    refine Ev.step (fun k => spec_SplitRun.j0.eq_2 ..) ?_
    exact Ev.pos rfl (Ev.now _)
  unfold impl_SplitRun.f spec_SplitRun.f
  by_cases c : isRow l
  · by_cases c2 : most < 1
    · refine ⟨[], Ev.bind (entriesOk_ev l hl) (Ev.pos (decide_eq_true c) ?_), Ev.bindS rfl (Ev.bind (sEntriesOk_ev l hl) (Ev.pos (decide_eq_true c) ?_)), fun _ h => by omega⟩
      · rw [decide_eq_true c2]; exact jt1
      · rw [decide_eq_true c2]; exact jt2
    · refine ⟨(spAll l most).map mkRun, Ev.bind (entriesOk_ev l hl) (Ev.pos (decide_eq_true c) ?_), Ev.bindS rfl (Ev.bind (sEntriesOk_ev l hl) (Ev.pos (decide_eq_true c) ?_)), fun _ _ => rfl⟩
      · rw [decide_eq_false c2]
        refine Ev.step (fun k => impl_SplitRun.j0.eq_2 ..) ?_
        exact Ev.neg (by decide) (iSplit_ev l c.1 most)
      · rw [decide_eq_false c2]
        refine Ev.step (fun k => spec_SplitRun.j0.eq_2 ..) ?_
        exact Ev.neg (by decide) (sSplit_ev l c.1 most)
  · exact ⟨[], Ev.bind (entriesOk_ev l hl) (Ev.neg (by simpa using c) jt1), Ev.bindS rfl (Ev.bind (sEntriesOk_ev l hl) (Ev.neg (by simpa using c) jt2)), fun h => absurd h c⟩
theorem row_users {l : List S48} (h : rowFrom l 0) (i : Nat) (hi : i + 1 < l.length) : tless l[i].f0.f0 l[i + 1].f0.f0 = true ∨ l[i].f0.f0 = l[i + 1].f0.f0 := by
  have := (h (i + 1) (Nat.zero_le _) hi).2 (by omega)
  rcases (kcmp_lt _ _ _ _ _ _).1 this with h | h
  · exact .inl h
  · exact .inr h.1
theorem pieces_ev (l : List S48) (hr : isRow l) (most : Int) (R : List S44) (hR : R.length ≤ 400) : ∀ (es : List S48) (cur : List S48) (e : S48) (all : List S48) (i : Nat),
    R.drop i = (spGo most cur e es).map mkRun → l = all ++ cur ++ e :: es → i ≤ R.length → (∀ h : all ≠ [], ∀ x, (cur ++ [e]).head? = some x → tless (all.getLast h).f0.f0 x.f0.f0 = true) →
    Ev (fun k => laws_FnSplit.l0 k l R all (i : Int)) true := by
  have hlen := hr.1
  have take : ∀ (p all : List S48) (i : Nat) (rest : List (List S48)), R.drop i = (p :: rest).map mkRun → p ≠ [] → all.length + p.length ≤ 400 → (∀ h : all ≠ [], ∀ x, p.head? = some x → tless (all.getLast h).f0.f0 x.f0.f0 = true) → Ev (fun k => laws_FnSplit.l0 k l R (all ++ p) ((i + 1 : Nat) : Int)) true → Ev (fun k => laws_FnSplit.l0 k l R all (i : Int)) true := by
    intro p all i rest hd hp hz hx h
    have hi : i < R.length := by
      apply Classical.byContradiction
      intro c
      rw [List.drop_eq_nil_of_le (by omega)] at hd
      cases hd
    have hg : qy R (i : Int) = mkRun p := by
      rw [List.drop_eq_getElem_cons hi, List.map_cons] at hd
      injection hd with h1 _
      unfold qy
      rw [Int.toNat_natCast, List.getD_eq_getElem?_getD, List.getElem?_eq_getElem hi]
      exact h1
    have hpl : 0 < p.length := List.length_pos_iff.2 hp
    refine Ev.step (fun k => laws_FnSplit.l0.eq_2 ..) ?_
    rw [hg, wsucc (by omega)]
    refine Ev.pos (by omega) (Ev.pos (by omega) (Ev.neg (by show ¬ ((p.length : Int) = 0); omega) ?_))
    by_cases ca : all = []
    · subst ca
      exact Ev.neg (by simp) (Ev.pos (by show 0 + p.length < _; omega) h)
    · have hal : 0 < all.length := List.length_pos_iff.2 ca
      have hw : wrap64 ((all.length : Int) - 1) = ((all.length - 1 : Nat) : Int) := by rw [wid (by omega) (by omega)]; omega
      rw [hw, rdE all (all.length - 1) (by omega)]
      have h0 : qb (mkRun p).f0 0 = p[0] := rdE p 0 hpl
      rw [h0]
      refine Ev.pos (by omega) (Ev.pos (by omega) (Ev.pos (by omega) (Ev.pos (by show (0 : Int) < (p.length : Int); omega) (Ev.pos ?_ (Ev.pos (by show all.length + p.length < _; omega) h)))))
      have := hx ca p[0] (by rw [List.head?_eq_getElem?, List.getElem?_eq_getElem hpl])
      rw [List.getLast_eq_getElem] at this
      simpa [tless] using this
  intro es
  induction es with
  | nil =>
    intro cur e all i hd hl hi hx
    have hcl : l.length = all.length + (cur ++ [e]).length := by rw [hl]; simp only [List.length_append, List.length_cons, List.length_nil]; omega
    refine take (cur ++ [e]) all i [] hd (by simp) (by omega) hx ?_
    have hRl : R.length = i + 1 := by
      have := congrArg List.length hd
      rw [List.length_drop] at this
      simp [spGo] at this
      omega
    refine Ev.step (fun k => laws_FnSplit.l0.eq_2 ..) ?_
    refine Ev.neg (by omega) ?_
    rw [show all ++ (cur ++ [e]) = l from by rw [hl, List.append_assoc]]
    exact Ev.bind (sameEntries_self l (by omega)) (Ev.now _)
  | cons x xs ih =>
    intro cur e all i hd hl hi hx
    have hcl : l.length = all.length + cur.length + 1 + xs.length + 1 := by rw [hl]; simp; omega
    by_cases c : ((cur ++ [e]).length : Int) ≥ most ∧ x.f0.f0.toList ≠ e.f0.f0.toList
    · rw [spGo, if_pos c] at hd
      have hlt : i < R.length := by
        apply Classical.byContradiction
        intro c
        rw [List.drop_eq_nil_of_le (by omega)] at hd
        cases hd
      refine take (cur ++ [e]) all i _ hd (by simp) (by simp; omega) hx ?_
      have hd2 : R.drop (i + 1) = (spGo most [] x xs).map mkRun := by
        rw [List.drop_eq_getElem_cons hlt, List.map_cons] at hd
        injection hd
      refine ih [] x (all ++ (cur ++ [e])) (i + 1) hd2 (by rw [hl]; simp) (by omega) ?_
      intro hne y hy
      simp only [List.nil_append, List.head?_cons, Option.some.injEq] at hy
      subst hy
      have e1 : (all ++ (cur ++ [e])).getLast hne = e := by simp
      rw [e1]
      have q1 : l = (all ++ cur) ++ e :: x :: xs := hl
      have g1 : ∀ h, l[(all ++ cur).length]'h = e := fun h => by
        simp only [q1]
        rw [List.getElem_append_right (Nat.le_refl _)]
        simp
      have g2 : ∀ h, l[(all ++ cur).length + 1]'h = x := fun h => by
        simp only [q1]
        rw [List.getElem_append_right (by omega)]
        simp
      have hu := row_users hr.2 (all ++ cur).length (by simp; omega)
      rw [g1, g2] at hu
      rcases hu with h | h
      · exact h
      · exact absurd (by rw [h]) c.2
    · rw [spGo, if_neg c] at hd
      exact ih (cur ++ [e]) x all i hd (by rw [hl]; simp) hi (fun h y hy => hx h y (by
        cases cur with
        | nil => simpa using hy
        | cons a b => simpa using hy))
theorem drawSplit_ev {l : List Int} (h : okc l) : ∃ r, Ev (fun k => spec_DrawSplitRun.f k l) r ∧ r.1.length ≤ 15 := by
  unfold spec_DrawSplitRun.f
  obtain ⟨a, ha, ha1, ha2⟩ := dentries_ev h (okp0 l) 14 (by omega) (by omega)
  obtain ⟨b, hb, _, hb2⟩ := off_ev h ha2 1 5 (by omega) (by omega) (by omega)
  exact ⟨_, Ev.bindS rfl (Ev.bind ha (Ev.bind hb (Ev.now _))), by show a.1.length ≤ 15; omega⟩
theorem spGo_len (most : Int) : ∀ (es cur : List S48) (e : S48), (spGo most cur e es).length ≤ es.length + 1 := by
  intro es
  induction es with
  | nil => intro cur e; simp [spGo]
  | cons x xs ih =>
    intro cur e
    rw [spGo]
    split
    · have := ih [] x
      simp only [List.length_cons]
      omega
    · have := ih (cur ++ [e]) x
      simp only [List.length_cons]
      omega
theorem FnSplit : laws_FnSplit.Pure := by
  intro l _ _ hb
  refine Ev.rounds (g := fun k => laws_FnSplit.f k l) ?_
  unfold laws_FnSplit.f
  refine Ev.bindS (a := decide ((l.length : Int) > 1048576)) rfl ?_
  by_cases big : (l.length : Int) > 1048576
  · exact Ev.pos (decide_eq_true big) (Ev.now _)
  · have hc := byteOk (l := l) (by omega) hb
    refine Ev.neg (by simpa using big) ?_
    obtain ⟨d, hd, hd1⟩ := drawSplit_ev hc
    obtain ⟨r, r1, r2, r3⟩ := split_evs d.1 (by omega) d.2
    have jt : Ev (fun k => laws_FnSplit.j0 k d.1 r r true) true := by
      refine Ev.step (fun k => laws_FnSplit.j0.eq_2 ..) ?_
      exact Ev.pos rfl ((Ev.now _).eqr (by simp))
    refine Ev.bind hd (Ev.bind r1 (Ev.bind r2 (Ev.pos rfl (Ev.bind (sEntriesOk_ev d.1 (by omega)) ?_))))
    by_cases c : isRow d.1
    · refine Ev.pos (decide_eq_true c) ?_
      by_cases c2 : d.2 < 1
      · rw [decide_eq_true c2]; exact jt
      · rw [decide_eq_false c2]
        refine Ev.step (fun k => laws_FnSplit.j0.eq_2 ..) ?_
        refine Ev.neg (by decide) ?_
        have hr := r3 c (by omega)
        subst hr
        generalize hq : d.1 = q at *
        cases q with
        | nil =>
          refine Ev.step (fun k => laws_FnSplit.l0.eq_2 ..) ?_
          exact Ev.neg (by simp [spAll]) (Ev.bind (sameEntries_self [] (by simp)) (Ev.now _))
        | cons e es =>
          have := spGo_len d.2 es [] e
          refine pieces_ev (e :: es) c d.2 _ ?_ es [] e [] 0 rfl rfl (by omega) (fun h => absurd rfl h)
          show ((spGo d.2 [] e es).map mkRun).length ≤ 400
          rw [List.length_map]
          simp only [List.length_cons] at hd1
          omega
    · exact Ev.neg (by simpa using c) jt
end Go.Proofs.Ytbojfnijgmppbaa.Pure
end
