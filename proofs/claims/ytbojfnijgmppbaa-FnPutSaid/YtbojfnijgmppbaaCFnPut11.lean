/- Proved: the law FnPut of the given program returns true for every input of its Go types and leaves each argument as it was; no condition. (Part 12 of 15.) -/
import Derived.Test.YtbojfnijgmppbaaCFnPut4
import Derived.Test.YtbojfnijgmppbaaCFnPut5
import Derived.Lib.EndianBits
import Derived.Test.YtbojfnijgmppbaaCFnPut8
import Derived.Test.YtbojfnijgmppbaaCFnPut9
section
namespace Go.Proofs.Ytbojfnijgmppbaa.P
open Go.RowKit Go.Proofs.YtbojfnijgmppbaaW.PrintWords Go.Proofs.YtbojfnijgmppbaaW.PrintLast Go.Proofs.YtbojfnijgmppbaaW.PrintMore
attribute [local go_sem] str_gtr str_leq str_geq max2_int min2_int max_two min_two max_three min_three max_four min_four
set_option linter.unusedVariables false
set_option linter.unusedSimpArgs false
def tvGo (s : ByteArray) : Nat → Nat → Int → Int × ByteArray × Bool
  | 0, _, _ => (0, ⟨#[]⟩, false)
  | d + 1, i, acc => if i < s.size then
      (if i = 9 ∧ 1 < bt s i then (0, ⟨#[]⟩, false)
      else if bt s i < 128 then (if 0 < i ∧ bt s i = 0 then (0, ⟨#[]⟩, false) else (acc + bt s i * 128 ^ i, s.extract (i + 1) s.size, true))
      else tvGo s d (i + 1) (acc + (bt s i - 128) * 128 ^ i))
    else (0, ⟨#[]⟩, false)
def tv (s : ByteArray) : Int × ByteArray × Bool := tvGo s 10 0 0
end Go.Proofs.Ytbojfnijgmppbaa.P
end

section
namespace Go.Proofs.Ytbojfnijgmppbaa.P
open Go.RowKit Go.Proofs.YtbojfnijgmppbaaW.PrintWords Go.Proofs.YtbojfnijgmppbaaW.PrintLast Go.Proofs.YtbojfnijgmppbaaW.PrintMore
attribute [local go_sem] str_gtr str_leq str_geq max2_int min2_int max_two min_two max_three min_three max_four min_four
set_option linter.unusedVariables false
set_option linter.unusedSimpArgs false
def okc (l : List Int) : Prop := l.length ≤ 1048576 ∧ ∀ x ∈ l, 0 ≤ x ∧ x ≤ 255
def okp (l : List Int) (p : Int) : Prop := 0 ≤ p ∧ p ≤ (l.length : Int)
theorem okc_rd {l : List Int} (h : okc l) (i : Int) : 0 ≤ rd l i ∧ rd l i ≤ 255 := by
  unfold rd
  rw [List.getD_eq_getElem?_getD]
  by_cases c : i.toNat < l.length
  · rw [List.getElem?_eq_getElem c]
    exact h.2 _ (List.getElem_mem c)
  · rw [List.getElem?_eq_none (by omega)]
    simp
theorem next_ev {l : List Int} {p : Int} (h : okc l) (hp : okp l p) : ∃ r, spec_l1Rd_next.f l p = some r ∧ (0 ≤ r.1 ∧ r.1 ≤ 255) ∧ okp l r.2 := by
  obtain ⟨h1, h2⟩ := hp
  have hl := h.1
  unfold spec_l1Rd_next.f
  by_cases c : p ≥ (l.length : Int)
  · exact ⟨_, if_pos c, by simp, h1, h2⟩
  · have e1 : wrap64 (p + 1) = p + 1 := wid (by omega) (by omega)
    have e2 : wrap64 (p + 1 - 1) = p := by rw [wid (by omega) (by omega)]; omega
    obtain ⟨r0, r1⟩ := okc_rd h p
    rw [if_neg c, e1, e2, if_pos h1, if_pos (by omega)]
    refine ⟨_, rfl, ?_, ?_⟩
    · show 0 ≤ wrap64 (rd l p) ∧ wrap64 (rd l p) ≤ 255
      rw [wid (by omega) (by omega)]
      exact ⟨r0, r1⟩
    · exact ⟨by show 0 ≤ p + 1; omega, by show p + 1 ≤ _; omega⟩
theorem below_ev {l : List Int} {p : Int} (h : okc l) (hp : okp l p) (n : Int) (hn : 1 ≤ n) : ∃ r, spec_l1Rd_below.f l p n = some r ∧ (0 ≤ r.1 ∧ r.1 < n) ∧ okp l r.2 := by
  unfold spec_l1Rd_below.f
  by_cases c : n ≤ 1
  · exact ⟨_, if_pos c, ⟨by simp, by show (0 : Int) < n; omega⟩, hp⟩
  · rw [if_neg c]
    obtain ⟨a, ha, ha1, ha2⟩ := next_ev h hp
    by_cases c2 : n ≤ 256
    · rw [if_pos c2, ha]
      refine ⟨(Int.tmod a.1 n, a.2), by rw [Option.bind_some, if_neg (by omega)], ?_, ha2⟩
      show 0 ≤ Int.tmod a.1 n ∧ Int.tmod a.1 n < n
      rw [Int.tmod_eq_emod_of_nonneg ha1.1]
      exact ⟨Int.emod_nonneg _ (by omega), Int.emod_lt_of_pos _ (by omega)⟩
    · obtain ⟨b, hb, hb1, hb2⟩ := next_ev h ha2
      rw [if_neg c2, ha, Option.bind_some, hb, Option.bind_some, if_neg (by omega)]
      refine ⟨_, rfl, ?_, hb2⟩
      show 0 ≤ Int.tmod (wrap64 (wrap64 (a.1 * 256) + b.1)) n ∧ Int.tmod (wrap64 (wrap64 (a.1 * 256) + b.1)) n < n
      rw [wid (x := a.1 * 256) (by omega) (by omega), wid (by omega) (by omega), Int.tmod_eq_emod_of_nonneg (by omega)]
      exact ⟨Int.emod_nonneg _ (by omega), Int.emod_lt_of_pos _ (by omega)⟩
theorem once_ev {l : List Int} {p : Int} (h : okc l) (hp : okp l p) (n : Int) (hn : 1 ≤ n) : ∃ r, spec_l1Rd_once.f l p n = some r ∧ okp l r.2 := by
  obtain ⟨a, ha, _, ha2⟩ := below_ev h hp n hn
  unfold spec_l1Rd_once.f
  rw [ha]
  exact ⟨_, rfl, ha2⟩
theorem bits_u64 (o : BinOp) (a b : Int) : 0 ≤ Go.bits o .u64 a b ∧ Go.bits o .u64 a b ≤ 18446744073709551615 := by
  unfold Go.bits
  simp only [IntKind.wrap_u64]
  omega
theorem word_ev {l : List Int} {p : Int} (h : okc l) (hp : okp l p) : ∃ r, Ev (fun k => spec_l1Rd_word.f k l p) r ∧ (0 ≤ r.1 ∧ r.1 ≤ 18446744073709551615) ∧ okp l r.2 := by
  have key : ∀ i : Nat, i ≤ 8 → ∀ (x p : Int), 0 ≤ x ∧ x ≤ 18446744073709551615 → okp l p → ∃ r, Ev (fun k => spec_l1Rd_word.l0 k x (i : Int) l p) r ∧ (0 ≤ r.1 ∧ r.1 ≤ 18446744073709551615) ∧ okp l r.2 := by
    refine downTo 8 ?_ ?_
    · intro x p hx hp
      exact ⟨(x, p), Ev.step (fun k => spec_l1Rd_word.l0.eq_2 ..) (Ev.neg (by omega) (Ev.now _)), hx, hp⟩
    · intro i hi ih x p hx hp
      obtain ⟨a, ha, _, ha2⟩ := next_ev h hp
      obtain ⟨r, hr, hr2⟩ := ih _ a.2 (bits_u64 .or (IntKind.u64.wrap (x * 256)) (IntKind.u64.wrap a.1)) ha2
      refine ⟨r, Ev.step (fun k => spec_l1Rd_word.l0.eq_2 ..) (Ev.pos (by omega) (Ev.bindS ha ?_)), hr2⟩
      rw [wsucc (by omega)]
      exact hr
  exact key 0 (by omega) 0 p (by omega) hp
theorem bytes_ev {l : List Int} {p : Int} (h : okc l) (hp : okp l p) (n : Int) (hn : 0 ≤ n) (hn2 : n ≤ 1000000) : ∃ r, Ev (fun k => spec_l1Rd_bytes.f k l p n) r ∧ (r.1.size : Int) ≤ n ∧ okp l r.2 := by
  have key : ∀ (i : Nat) (acc : List Int) (p : Int), (acc.length : Int) + i ≤ 1000000 → okp l p → ∃ r, Ev (fun k => spec_l1Rd_bytes.l0 k acc (i : Int) l p) r ∧ r.1.size = acc.length + i ∧ okp l r.2 := by
    intro i
    induction i with
    | zero =>
      intro acc p ha hp
      refine ⟨(strOfNums acc, p), Ev.step (fun k => spec_l1Rd_bytes.l0.eq_2 ..) (Ev.neg (by omega) (Ev.now _)), ?_, hp⟩
      show (strOfNums acc).size = acc.length + 0
      unfold strOfNums
      simp [ByteArray.size]
    | succ i ih =>
      intro acc p ha hp
      obtain ⟨a, ha', _, ha2⟩ := below_ev h hp 256 (by omega)
      obtain ⟨r, hr, hr1, hr2⟩ := ih (acc ++ [a.1 % 256]) a.2 (by simp only [List.length_append, List.length_cons, List.length_nil]; omega) ha2
      refine ⟨r, Ev.step (fun k => spec_l1Rd_bytes.l0.eq_2 ..) (Ev.pos (by omega) (Ev.bindS ha' (Ev.pos (by omega) ?_))), ?_, hr2⟩
      · rw [wid (by omega) (by omega), show (((i + 1 : Nat) : Int) - 1) = (i : Int) from by omega]
        exact hr
      · rw [hr1, List.length_append]
        simp only [List.length_cons, List.length_nil]
        omega
  obtain ⟨a, ha, ha1, ha2⟩ := below_ev h hp (n + 1) (by omega)
  obtain ⟨r, hr, hr1, hr2⟩ := key a.1.toNat [] a.2 (by simp; omega) ha2
  refine ⟨r, ?_, ?_, hr2⟩
  · unfold spec_l1Rd_bytes.f
    rw [wid (by omega) (by omega)]
    refine Ev.bindS ha ?_
    rw [show ((a.1.toNat : Nat) : Int) = a.1 from by omega] at hr
    exact hr
  · rw [hr1]
    simp only [List.length_nil]
    omega
theorem duser_ev {l : List Int} {p : Int} (h : okc l) (hp : okp l p) : ∃ r, spec_l1Rd_user.f l p = some r ∧ (isU r.1) ∧ okp l r.2 := by
  obtain ⟨a, ha, ha1, ha2⟩ := below_ev h hp 10 (by omega)
  unfold spec_l1Rd_user.f
  rw [Option.bind_some, ha, Option.bind_some, if_pos ha1.1, if_pos (by simp only [List.length_cons, List.length_nil]; omega)]
  refine ⟨_, rfl, ?_, ha2⟩
  obtain ⟨m, hm⟩ : ∃ m : Nat, a.1 = m := ⟨a.1.toNat, by omega⟩
  have hlt : m < 10 := by omega
  simp only [hm]
  clear hm ha1 ha ha2
  revert m
  unfold rdOf
  simp only [Int.toNat_natCast]
  decide +kernel
theorem dvalue_ev {l : List Int} {p : Int} (h : okc l) (hp : okp l p) : ∃ r, spec_l1Rd_value.f l p = some r ∧ (r.1.size ≤ 5) ∧ okp l r.2 := by
  obtain ⟨a, ha, ha1, ha2⟩ := below_ev h hp 5 (by omega)
  unfold spec_l1Rd_value.f
  rw [Option.bind_some, ha, Option.bind_some, if_pos ha1.1, if_pos (by simp only [List.length_cons, List.length_nil]; omega)]
  refine ⟨_, rfl, ?_, ha2⟩
  obtain ⟨m, hm⟩ : ∃ m : Nat, a.1 = m := ⟨a.1.toNat, by omega⟩
  have hlt : m < 5 := by omega
  simp only [hm]
  clear hm ha1 ha ha2
  revert m
  unfold rdOf
  simp only [Int.toNat_natCast]
  decide +kernel
theorem near_ev {l : List Int} {p : Int} (h : okc l) (hp : okp l p) (a b : Int) (hab : a ≤ b) (ha : -1000000000000000 ≤ a) (hb : b ≤ 1000000000000000) : ∃ r, Ev (fun k => spec_l1Rd_near.f k l p a b) r ∧ (a ≤ r.1 ∧ r.1 ≤ b) ∧ okp l r.2 := by
  unfold spec_l1Rd_near.f
  obtain ⟨x, hx, hx1, hx2⟩ := below_ev h hp 8 (by omega)
  by_cases c0 : x.1 = 0
  · exact ⟨_, Ev.bindS hx (Ev.pos c0 (Ev.now _)), ⟨Int.le_refl _, hab⟩, hx2⟩
  · by_cases c1 : x.1 = 1
    · exact ⟨_, Ev.bindS hx (Ev.neg c0 (Ev.pos c1 (Ev.now _))), ⟨hab, Int.le_refl _⟩, hx2⟩
    · obtain ⟨y, hy, hy1, hy2⟩ := word_ev h hx2
      have e : IntKind.u64.wrap (wrap64 (wrap64 (b - a) + 1)) = b - a + 1 := by
        rw [wid (x := b - a) (by omega) (by omega), wid (by omega) (by omega), uid (by omega) (by omega)]
      have m0 : 0 ≤ Int.tmod (y.1 / 2) (b - a + 1) ∧ Int.tmod (y.1 / 2) (b - a + 1) < b - a + 1 := by
        rw [Int.tmod_eq_emod_of_nonneg (by omega)]
        exact ⟨Int.emod_nonneg _ (by omega), Int.emod_lt_of_pos _ (by omega)⟩
      refine ⟨(a + Int.tmod (y.1 / 2) (b - a + 1), y.2), Ev.bindS hx (Ev.neg c0 (Ev.neg c1 (Ev.neg (by omega) (Ev.bind hy ?_)))), ⟨by show a ≤ a + _; omega, by show a + _ ≤ b; omega⟩, hy2⟩
      rw [e, wid (x := Int.tmod (y.1 / 2) (b - a + 1)) (by omega) (by omega), wid (by omega) (by omega)]
      exact Ev.neg (by omega) (Ev.now _)
theorem off_ev {l : List Int} {p : Int} (h : okc l) (hp : okp l p) (a b : Int) (hab : a ≤ b) (ha : -1000000000000000 ≤ a) (hb : b ≤ 1000000000000000) : ∃ r, Ev (fun k => spec_l1Rd_off.f k l p a b) r ∧ (-9223372036854775808 ≤ r.1 ∧ r.1 ≤ 9223372036854775807) ∧ okp l r.2 := by
  unfold spec_l1Rd_off.f
  obtain ⟨x, hx, hx2⟩ := once_ev h hp 24 (by omega)
  by_cases c0 : x.1 = true
  · obtain ⟨y, hy, hy1, hy2⟩ := below_ev h hx2 4 (by omega)
    refine ⟨_, Ev.bindS hx (Ev.pos c0 (Ev.bindS rfl (Ev.bindS hy (Ev.pos hy1.1 (Ev.pos (by simp only [List.length_cons, List.length_nil]; omega) (Ev.now _)))))), ?_, hy2⟩
    rw [wid (x := a - 1) (by omega) (by omega), wid (x := b + 1) (by omega) (by omega)]
    obtain ⟨m, hm⟩ : ∃ m : Nat, y.1 = m := ⟨y.1.toNat, by omega⟩
    have hlt : m < 4 := by omega
    simp only [hm]
    unfold rd
    rw [Int.toNat_natCast]
    match m, hlt with
    | 0, _ => show -9223372036854775808 ≤ a - 1 ∧ a - 1 ≤ 9223372036854775807; omega
    | 1, _ => show -9223372036854775808 ≤ b + 1 ∧ b + 1 ≤ 9223372036854775807; omega
    | 2, _ => show (-9223372036854775808 : Int) ≤ -9223372036854775808 ∧ (-9223372036854775808 : Int) ≤ 9223372036854775807; omega
    | 3, _ => show (-9223372036854775808 : Int) ≤ 9223372036854775807 ∧ (9223372036854775807 : Int) ≤ 9223372036854775807; omega
  · obtain ⟨y, hy, hy1, hy2⟩ := near_ev h hx2 a b hab ha hb
    exact ⟨_, Ev.bindS hx (Ev.neg c0 (Ev.bind hy (Ev.now _))), ⟨by omega, by omega⟩, hy2⟩
end Go.Proofs.Ytbojfnijgmppbaa.P
end

section
namespace Go.Proofs.Ytbojfnijgmppbaa.P
open Go.RowKit Go.Proofs.YtbojfnijgmppbaaW.PrintWords Go.Proofs.YtbojfnijgmppbaaW.PrintLast Go.Proofs.YtbojfnijgmppbaaW.PrintMore
attribute [local go_sem] str_gtr str_leq str_geq max2_int min2_int max_two min_two max_three min_three max_four min_four
set_option linter.unusedVariables false
set_option linter.unusedSimpArgs false
theorem dkey_ev {l : List Int} {p : Int} (h : okc l) (hp : okp l p) : ∃ r, Ev (fun k => spec_l1Rd_key.f k l p) r ∧ okp l r.2.2.2 := by
  unfold spec_l1Rd_key.f
  obtain ⟨a, ha, _, ha2⟩ := duser_ev h hp
  obtain ⟨b, hb, _, hb2⟩ := near_ev h ha2 0 12 (by omega) (by omega) (by omega)
  obtain ⟨c, hc, _, hc2⟩ := below_ev h hb2 2 (by omega)
  obtain ⟨d, hd, _, hd2⟩ := below_ev h hc2 24 (by omega)
  by_cases c0 : d.1 = 0
  · obtain ⟨e, he, _, he2⟩ := off_ev h hd2 0 1000000000000 (by omega) (by omega) (by omega)
    exact ⟨_, Ev.bindS ha (Ev.bind hb (Ev.bindS hc (Ev.bindS hd (Ev.pos c0 (Ev.bind he (Ev.now _)))))), he2⟩
  · by_cases c1 : d.1 = 1
    · obtain ⟨e, he, _, he2⟩ := off_ev h hd2 0 1 (by omega) (by omega) (by omega)
      exact ⟨_, Ev.bindS ha (Ev.bind hb (Ev.bindS hc (Ev.bindS hd (Ev.neg c0 (Ev.pos c1 (Ev.bind he (Ev.now _))))))), he2⟩
    · by_cases c2 : d.1 = 2
      · obtain ⟨e, he, _, he2⟩ := bytes_ev h hd2 45 (by omega) (by omega)
        exact ⟨_, Ev.bindS ha (Ev.bind hb (Ev.bindS hc (Ev.bindS hd (Ev.neg c0 (Ev.neg c1 (Ev.pos c2 (Ev.bind he (Ev.now _)))))))), he2⟩
      · exact ⟨_, Ev.bindS ha (Ev.bind hb (Ev.bindS hc (Ev.bindS hd (Ev.neg c0 (Ev.neg c1 (Ev.neg c2 (Ev.now _))))))), hd2⟩
theorem dentry_ev {l : List Int} {p : Int} (h : okc l) (hp : okp l p) : ∃ r, Ev (fun k => spec_l1Rd_entry.f k l p) r ∧ okp l r.2.2.2.2 := by
  unfold spec_l1Rd_entry.f
  obtain ⟨a, ha, ha2⟩ := dkey_ev h hp
  obtain ⟨b, hb, _, hb2⟩ := dvalue_ev h ha2
  by_cases c0 : a.2.2.1 = 0
  · obtain ⟨c, hc, hc2⟩ := once_ev h hb2 12 (by omega)
    by_cases c1 : c.1 = true
    · exact ⟨_, Ev.bind ha (Ev.bindS hb (Ev.pos c0 (Ev.bindS hc (Ev.pos c1 (Ev.now _))))), hc2⟩
    · exact ⟨_, Ev.bind ha (Ev.bindS hb (Ev.pos c0 (Ev.bindS hc (Ev.neg c1 (Ev.now _))))), hc2⟩
  · exact ⟨_, Ev.bind ha (Ev.bindS hb (Ev.neg c0 (Ev.now _))), hb2⟩
theorem dentries_ev {l : List Int} {p : Int} (h : okc l) (hp : okp l p) (n : Int) (hn : 0 ≤ n) (hn2 : n ≤ 1000) : ∃ r, Ev (fun k => spec_l1Rd_entries.f k l p n) r ∧ (r.1.length : Int) ≤ n + 1 ∧ okp l r.2 := by
  have key : ∀ (j : Nat) (acc : List S48) (p : Int), acc.length + j ≤ 2000 → okp l p → ∃ r, Ev (fun k => spec_l1Rd_entries.l0 k acc (j : Int) l p) r ∧ r.1.length ≤ acc.length + j + 1 ∧ okp l r.2 := by
    intro j
    induction j with
    | zero =>
      intro acc p ha hp
      obtain ⟨a, ha', ha2⟩ := once_ev h hp 24 (by omega)
      by_cases c : a.1 = true
      · obtain ⟨b, hb, hb2⟩ := dentry_ev h ha2
        refine ⟨_, Ev.step (fun k => spec_l1Rd_entries.l0.eq_2 ..) (Ev.neg (by omega) (Ev.bindS ha' (Ev.pos c (Ev.bind hb (Ev.pos (by omega) (Ev.now _)))))), ?_, hb2⟩
        show (acc ++ [_]).length ≤ _
        rw [List.length_append]
        simp only [List.length_cons, List.length_nil]
        omega
      · exact ⟨_, Ev.step (fun k => spec_l1Rd_entries.l0.eq_2 ..) (Ev.neg (by omega) (Ev.bindS ha' (Ev.neg c (Ev.now _)))), by show acc.length ≤ _; omega, ha2⟩
    | succ j ih =>
      intro acc p ha hp
      obtain ⟨e, he, he2⟩ := dentry_ev h hp
      have hw : wrap64 (((j + 1 : Nat) : Int) - 1) = (j : Int) := by rw [wid (by omega) (by omega)]; omega
      by_cases c : isE e.1 e.2.1 e.2.2.1 e.2.2.2.1
      ·
        have seek : ∀ d i : Nat, i + d = acc.length → ∃ r, Ev (fun k => spec_l1Rd_entries.l1 k acc ((j + 1 : Nat) : Int) (i : Int) l e.2.2.2.2 e.1 e.2.1 e.2.2.1 e.2.2.2.1) r ∧ r.1.length ≤ acc.length + (j + 1) + 1 ∧ okp l r.2 := by
          intro d
          induction d with
          | zero =>
            intro i hi
            obtain ⟨r, hr, hr1, hr2⟩ := ih ((([] ++ acc.take i) ++ [⟨⟨e.1, e.2.1, e.2.2.1⟩, e.2.2.2.1⟩]) ++ acc.drop i) e.2.2.2.2 (by simp; omega) he2
            refine ⟨r, Ev.step (fun k => spec_l1Rd_entries.l1.eq_2 ..) (Ev.neg (by omega) (Ev.bindS rfl (Ev.pos (by omega) (Ev.pos (by omega) (Ev.bindS rfl (Ev.pos (by simp; omega) (Ev.bindS rfl (Ev.pos (by simp; omega) (Ev.bindS rfl (Ev.bindS rfl (Ev.pos (by simp; omega) ?_))))))))))), ?_, hr2⟩
            · rw [hw, Int.toNat_natCast]
              exact hr
            · refine Nat.le_trans hr1 ?_
              simp
              omega
          | succ d ihd =>
            intro i hi
            have hc := sKeyCmp_ev (rd_T48 acc (i : Int)).f0.f0 (rd_T48 acc (i : Int)).f0.f1 (rd_T48 acc (i : Int)).f0.f2 e.1 e.2.1 e.2.2.1
            generalize (if isK (rd_T48 acc (i : Int)).f0.f0 (rd_T48 acc (i : Int)).f0.f1 (rd_T48 acc (i : Int)).f0.f2 ∧ isK e.1 e.2.1 e.2.2.1 then kcmp (rd_T48 acc (i : Int)).f0.f0 (rd_T48 acc (i : Int)).f0.f1 (rd_T48 acc (i : Int)).f0.f2 e.1 e.2.1 e.2.2.1 else 0) = cv at hc
            by_cases c1 : cv < 0
            · obtain ⟨r, hr, hr2⟩ := ihd (i + 1) (by omega)
              refine ⟨r, Ev.step (fun k => spec_l1Rd_entries.l1.eq_2 ..) (Ev.pos (by omega) (Ev.pos (by omega) (Ev.bind hc (Ev.pos c1 ?_)))), hr2⟩
              rw [wsucc (by omega)]
              exact hr
            · generalize hb : (((rd_T48 acc (i : Int)).f0.f0.toList == e.1.toList) && ((rd_T48 acc (i : Int)).f0.f1 == e.2.1 && ((rd_T48 acc (i : Int)).f0.f2 == e.2.2.1))) = bb
              cases bb with
              | true =>
                obtain ⟨r, hr, hr1, hr2⟩ := ih acc e.2.2.2.2 (by omega) he2
                refine ⟨r, Ev.step (fun k => spec_l1Rd_entries.l1.eq_2 ..) (Ev.pos (by omega) (Ev.pos (by omega) (Ev.bind hc (Ev.neg c1 (Ev.pos hb ?_))))), by omega, hr2⟩
                rw [hw]
                exact hr
              | false =>
                obtain ⟨r, hr, hr1, hr2⟩ := ih ((([] ++ acc.take i) ++ [⟨⟨e.1, e.2.1, e.2.2.1⟩, e.2.2.2.1⟩]) ++ acc.drop i) e.2.2.2.2 (by simp; omega) he2
                refine ⟨r, Ev.step (fun k => spec_l1Rd_entries.l1.eq_2 ..) (Ev.pos (by omega) (Ev.pos (by omega) (Ev.bind hc (Ev.neg c1 (Ev.neg (by rw [hb]; simp) (Ev.bindS rfl (Ev.pos (by omega) (Ev.bindS rfl (Ev.pos (by simp; omega) (Ev.bindS rfl (Ev.pos (by simp; omega) (Ev.bindS rfl (Ev.bindS rfl (Ev.pos (by simp; omega) ?_)))))))))))))), ?_, hr2⟩
                · rw [hw, Int.toNat_natCast]
                  exact hr
                · refine Nat.le_trans hr1 ?_
                  simp
                  omega
        obtain ⟨r, hr, hr2⟩ := seek acc.length 0 (by omega)
        exact ⟨r, Ev.step (fun k => spec_l1Rd_entries.l0.eq_2 ..) (Ev.pos (by omega) (Ev.bind he (Ev.bindS (sEntryOk_ev _ _ _ _) (Ev.pos (decide_eq_true c) hr)))), hr2⟩
      · obtain ⟨r, hr, hr1, hr2⟩ := ih acc e.2.2.2.2 (by omega) he2
        refine ⟨r, Ev.step (fun k => spec_l1Rd_entries.l0.eq_2 ..) (Ev.pos (by omega) (Ev.bind he (Ev.bindS (sEntryOk_ev _ _ _ _) (Ev.neg (by simpa using c) ?_)))), by omega, hr2⟩
        rw [hw]
        exact hr
  obtain ⟨a, ha, ha1, ha2⟩ := below_ev h hp (n + 1) (by omega)
  obtain ⟨r, hr, hr1, hr2⟩ := key a.1.toNat [] a.2 (by simp; omega) ha2
  refine ⟨r, ?_, ?_, hr2⟩
  · unfold spec_l1Rd_entries.f
    rw [wid (by omega) (by omega)]
    refine Ev.bindS ha ?_
    rw [show ((a.1.toNat : Nat) : Int) = a.1 from by omega] at hr
    exact hr
  · simp only [List.length_nil] at hr1
    omega
theorem eqA76 (d : Nat) (w : World) (x0 y0 : ByteArray) (x1 y1 : ByteArray) :
    (Op.equalIn (d + 2) 76 (.agg #[.string x0, .string x1]) (.agg #[.string y0, .string y1])).run Try.prog w = .ok (x0.toList == y0.toList && (x1.toList == y1.toList)) w := by
  refine eqA_of Try.underlying76 (by kernel_rfl) ?_
  refine eqf_cons (by rfl) (by go_simp; rfl) (by go_simp; rfl) (by go_simp) ?_
  exact eqf_last (by rfl) (by go_simp; rfl) (by go_simp; rfl) (by go_simp)
end Go.Proofs.Ytbojfnijgmppbaa.P
end

section
namespace Go.Proofs.Ytbojfnijgmppbaa.P
open Go.RowKit Go.Proofs.YtbojfnijgmppbaaW.PrintWords Go.Proofs.YtbojfnijgmppbaaW.PrintLast Go.Proofs.YtbojfnijgmppbaaW.PrintMore
attribute [local go_sem] str_gtr str_leq str_geq max2_int min2_int max_two min_two max_three min_three max_four min_four
set_option linter.unusedVariables false
set_option linter.unusedSimpArgs false
theorem sameEntries_self (l : List S48) (h : l.length < 2097152) : Ev (fun k => laws_sameEntries.f k l l) true := by
  unfold laws_sameEntries.f
  have key : ∀ i, i ≤ l.length → Ev (fun k => laws_sameEntries.l0 k l l (i : Int)) true := by
    refine downTo l.length (Ev.step (fun k => laws_sameEntries.l0.eq_2 ..) (Ev.neg (by omega) (Ev.now _))) ?_
    intro i hi ih
    refine Ev.step (fun k => laws_sameEntries.l0.eq_2 ..) (Ev.pos (by omega) (Ev.pos (by omega) (Ev.pos (by omega) (Ev.neg (by simp) ?_))))
    rw [wsucc (by omega)]
    exact ih
  exact Ev.pos rfl (key 0 (Nat.zero_le _))
end Go.Proofs.Ytbojfnijgmppbaa.P
end
