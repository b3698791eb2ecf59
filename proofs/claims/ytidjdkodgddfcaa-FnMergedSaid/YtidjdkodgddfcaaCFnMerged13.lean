/- Proved: the law FnMerged of the given program returns true for every input of its Go types and leaves each argument as it was; no condition. (Part 14 of 16.) -/
import Derived.Test.YtidjdkodgddfcaaCFnMerged4
import Derived.Test.YtidjdkodgddfcaaCFnMerged10
import Derived.Test.YtidjdkodgddfcaaCFnMerged5
import Derived.Lib.EndianBits
import Derived.Test.YtidjdkodgddfcaaCFnMerged11
import Derived.Test.YtidjdkodgddfcaaCFnMerged7
import Derived.Test.YtidjdkodgddfcaaCFnMerged9
import Derived.Test.YtidjdkodgddfcaaCFnMerged6
import Derived.Test.YtidjdkodgddfcaaCFnMerged12
section
namespace Go.Proofs.Ytidjdkodgddfcaa.P
open Go.RowKit Go.Proofs.YtidjdkodgddfcaaW.PrintWords Go.Proofs.YtidjdkodgddfcaaW.PrintLast Go.Proofs.YtidjdkodgddfcaaW.PrintMore
attribute [local go_sem] str_gtr str_leq str_geq qd1 qb1 max_two min_two qy qx qc1 qa1
set_option linter.unusedVariables false
set_option linter.unusedSimpArgs false
def okc (l : List Int) : Prop := l.length ≤ 1048576 ∧ ∀ x ∈ l, 0 ≤ x ∧ x ≤ 255
def okp (l : List Int) (p : Int) : Prop := 0 ≤ p ∧ p ≤ (l.length : Int)
theorem okc_rd {l : List Int} (h : okc l) (i : Int) : 0 ≤ rd l i ∧ rd l i ≤ 255 := by
  unfold rd
  rw [List.getD_eq_getElem?_getD]
  by_cases c : i.toNat < l.length
  · rw [List.getElem?_eq_getElem c]
    exact h.2 _ (List.getElem_mem c)
  · rw [List.getElem?_eq_none (by omega)]
    simp
theorem next_ev {l : List Int} {p : Int} (h : okc l) (hp : okp l p) : ∃ r, spec_l1Rd_next.f l p = some r ∧ (0 ≤ r.1 ∧ r.1 ≤ 255) ∧ okp l r.2 := by
  obtain ⟨h1, h2⟩ := hp
  have hl := h.1
  unfold spec_l1Rd_next.f
  by_cases c : p ≥ (l.length : Int)
  · exact ⟨_, if_pos c, by simp, h1, h2⟩
  · have e1 : wrap64 (p + 1) = p + 1 := wid (by omega) (by omega)
    have e2 : wrap64 (p + 1 - 1) = p := by rw [wid (by omega) (by omega)]; omega
    obtain ⟨r0, r1⟩ := okc_rd h p
    rw [if_neg c, e1, e2, if_pos h1, if_pos (by omega)]
    refine ⟨_, rfl, ?_, ?_⟩
    · show 0 ≤ wrap64 (rd l p) ∧ wrap64 (rd l p) ≤ 255
      rw [wid (by omega) (by omega)]
      exact ⟨r0, r1⟩
    · exact ⟨by show 0 ≤ p + 1; omega, by show p + 1 ≤ _; omega⟩
theorem below_ev {l : List Int} {p : Int} (h : okc l) (hp : okp l p) (n : Int) (hn : 1 ≤ n) : ∃ r, spec_l1Rd_below.f l p n = some r ∧ (0 ≤ r.1 ∧ r.1 < n) ∧ okp l r.2 := by
  unfold spec_l1Rd_below.f
  by_cases c : n ≤ 1
  · exact ⟨_, if_pos c, ⟨by simp, by show (0 : Int) < n; omega⟩, hp⟩
  · rw [if_neg c]
    obtain ⟨a, ha, ha1, ha2⟩ := next_ev h hp
    by_cases c2 : n ≤ 256
    · rw [if_pos c2, ha]
      refine ⟨(Int.tmod a.1 n, a.2), by rw [Option.bind_some, if_neg (by omega)], ?_, ha2⟩
      show 0 ≤ Int.tmod a.1 n ∧ Int.tmod a.1 n < n
      rw [Int.tmod_eq_emod_of_nonneg ha1.1]
      exact ⟨Int.emod_nonneg _ (by omega), Int.emod_lt_of_pos _ (by omega)⟩
    · obtain ⟨b, hb, hb1, hb2⟩ := next_ev h ha2
      rw [if_neg c2, ha, Option.bind_some, hb, Option.bind_some, if_neg (by omega)]
      refine ⟨_, rfl, ?_, hb2⟩
      show 0 ≤ Int.tmod (wrap64 (wrap64 (a.1 * 256) + b.1)) n ∧ Int.tmod (wrap64 (wrap64 (a.1 * 256) + b.1)) n < n
      rw [wid (x := a.1 * 256) (by omega) (by omega), wid (by omega) (by omega), Int.tmod_eq_emod_of_nonneg (by omega)]
      exact ⟨Int.emod_nonneg _ (by omega), Int.emod_lt_of_pos _ (by omega)⟩
theorem once_ev {l : List Int} {p : Int} (h : okc l) (hp : okp l p) (n : Int) (hn : 1 ≤ n) : ∃ r, spec_l1Rd_once.f l p n = some r ∧ okp l r.2 := by
  obtain ⟨a, ha, _, ha2⟩ := below_ev h hp n hn
  unfold spec_l1Rd_once.f
  rw [ha]
  exact ⟨_, rfl, ha2⟩
theorem bits_u64 (o : BinOp) (a b : Int) : 0 ≤ Go.bits o .u64 a b ∧ Go.bits o .u64 a b ≤ 18446744073709551615 := by
  unfold Go.bits
  simp only [IntKind.wrap_u64]
  omega
theorem word_ev {l : List Int} {p : Int} (h : okc l) (hp : okp l p) : ∃ r, Ev (fun k => spec_l1Rd_word.f k l p) r ∧ (0 ≤ r.1 ∧ r.1 ≤ 18446744073709551615) ∧ okp l r.2 := by
  have key : ∀ i : Nat, i ≤ 8 → ∀ (x p : Int), 0 ≤ x ∧ x ≤ 18446744073709551615 → okp l p → ∃ r, Ev (fun k => spec_l1Rd_word.l0 k x (i : Int) l p) r ∧ (0 ≤ r.1 ∧ r.1 ≤ 18446744073709551615) ∧ okp l r.2 := by
    refine downTo 8 ?_ ?_
    · intro x p hx hp
      exact ⟨(x, p), Ev.step (fun k => spec_l1Rd_word.l0.eq_2 ..) (Ev.neg (by omega) (Ev.now _)), hx, hp⟩
    · intro i hi ih x p hx hp
      obtain ⟨a, ha, _, ha2⟩ := next_ev h hp
      obtain ⟨r, hr, hr2⟩ := ih _ a.2 (bits_u64 .or (IntKind.u64.wrap (x * 256)) (IntKind.u64.wrap a.1)) ha2
      refine ⟨r, Ev.step (fun k => spec_l1Rd_word.l0.eq_2 ..) (Ev.pos (by omega) (Ev.bindS ha ?_)), hr2⟩
      rw [wsucc (by omega)]
      exact hr
  exact key 0 (by omega) 0 p (by omega) hp
theorem bytes_ev {l : List Int} {p : Int} (h : okc l) (hp : okp l p) (n : Int) (hn : 0 ≤ n) (hn2 : n ≤ 1000000) : ∃ r, Ev (fun k => spec_l1Rd_bytes.f k l p n) r ∧ (r.1.size : Int) ≤ n ∧ okp l r.2 := by
  have key : ∀ (i : Nat) (acc : List Int) (p : Int), (acc.length : Int) + i ≤ 1000000 → okp l p → ∃ r, Ev (fun k => spec_l1Rd_bytes.l0 k acc (i : Int) l p) r ∧ r.1.size = acc.length + i ∧ okp l r.2 := by
    intro i
    induction i with
    | zero =>
      intro acc p ha hp
      refine ⟨(strOfNums acc, p), Ev.step (fun k => spec_l1Rd_bytes.l0.eq_2 ..) (Ev.neg (by omega) (Ev.now _)), ?_, hp⟩
      show (strOfNums acc).size = acc.length + 0
      unfold strOfNums
      simp [ByteArray.size]
    | succ i ih =>
      intro acc p ha hp
      obtain ⟨a, ha', _, ha2⟩ := below_ev h hp 256 (by omega)
      obtain ⟨r, hr, hr1, hr2⟩ := ih (acc ++ [a.1 % 256]) a.2 (by simp only [List.length_append, List.length_cons, List.length_nil]; omega) ha2
      refine ⟨r, Ev.step (fun k => spec_l1Rd_bytes.l0.eq_2 ..) (Ev.pos (by omega) (Ev.bindS ha' (Ev.pos (by omega) ?_))), ?_, hr2⟩
      · rw [wid (by omega) (by omega), show (((i + 1 : Nat) : Int) - 1) = (i : Int) from by omega]
        exact hr
      · rw [hr1, List.length_append]
        simp only [List.length_cons, List.length_nil]
        omega
  obtain ⟨a, ha, ha1, ha2⟩ := below_ev h hp (n + 1) (by omega)
  obtain ⟨r, hr, hr1, hr2⟩ := key a.1.toNat [] a.2 (by simp; omega) ha2
  refine ⟨r, ?_, ?_, hr2⟩
  · unfold spec_l1Rd_bytes.f
    rw [wid (by omega) (by omega)]
    refine Ev.bindS ha ?_
    rw [show ((a.1.toNat : Nat) : Int) = a.1 from by omega] at hr
    exact hr
  · rw [hr1]
    simp only [List.length_nil]
    omega
theorem duser_ev {l : List Int} {p : Int} (h : okc l) (hp : okp l p) : ∃ r, spec_l1Rd_user.f l p = some r ∧ (isU r.1) ∧ okp l r.2 := by
  obtain ⟨a, ha, ha1, ha2⟩ := below_ev h hp 10 (by omega)
  unfold spec_l1Rd_user.f
  rw [Option.bind_some, ha, Option.bind_some, if_pos ha1.1, if_pos (by simp only [List.length_cons, List.length_nil]; omega)]
  refine ⟨_, rfl, ?_, ha2⟩
  obtain ⟨m, hm⟩ : ∃ m : Nat, a.1 = m := ⟨a.1.toNat, by omega⟩
  have hlt : m < 10 := by omega
  simp only [hm]
  clear hm ha1 ha ha2
  revert m
  unfold rdOf
  simp only [Int.toNat_natCast]
  decide +kernel
theorem dvalue_ev {l : List Int} {p : Int} (h : okc l) (hp : okp l p) : ∃ r, spec_l1Rd_value.f l p = some r ∧ (r.1.size ≤ 5) ∧ okp l r.2 := by
  obtain ⟨a, ha, ha1, ha2⟩ := below_ev h hp 5 (by omega)
  unfold spec_l1Rd_value.f
  rw [Option.bind_some, ha, Option.bind_some, if_pos ha1.1, if_pos (by simp only [List.length_cons, List.length_nil]; omega)]
  refine ⟨_, rfl, ?_, ha2⟩
  obtain ⟨m, hm⟩ : ∃ m : Nat, a.1 = m := ⟨a.1.toNat, by omega⟩
  have hlt : m < 5 := by omega
  simp only [hm]
  clear hm ha1 ha ha2
  revert m
  unfold rdOf
  simp only [Int.toNat_natCast]
  decide +kernel
theorem near_ev {l : List Int} {p : Int} (h : okc l) (hp : okp l p) (a b : Int) (hab : a ≤ b) (ha : -1000000000000000 ≤ a) (hb : b ≤ 1000000000000000) : ∃ r, Ev (fun k => spec_l1Rd_near.f k l p a b) r ∧ (a ≤ r.1 ∧ r.1 ≤ b) ∧ okp l r.2 := by
  unfold spec_l1Rd_near.f
  obtain ⟨x, hx, hx1, hx2⟩ := below_ev h hp 8 (by omega)
  by_cases c0 : x.1 = 0
  · exact ⟨_, Ev.bindS hx (Ev.pos c0 (Ev.now _)), ⟨Int.le_refl _, hab⟩, hx2⟩
  · by_cases c1 : x.1 = 1
    · exact ⟨_, Ev.bindS hx (Ev.neg c0 (Ev.pos c1 (Ev.now _))), ⟨hab, Int.le_refl _⟩, hx2⟩
    · obtain ⟨y, hy, hy1, hy2⟩ := word_ev h hx2
      have e : IntKind.u64.wrap (wrap64 (wrap64 (b - a) + 1)) = b - a + 1 := by
        rw [wid (x := b - a) (by omega) (by omega), wid (by omega) (by omega), uid (by omega) (by omega)]
      have m0 : 0 ≤ Int.tmod (y.1 / 2) (b - a + 1) ∧ Int.tmod (y.1 / 2) (b - a + 1) < b - a + 1 := by
        rw [Int.tmod_eq_emod_of_nonneg (by omega)]
        exact ⟨Int.emod_nonneg _ (by omega), Int.emod_lt_of_pos _ (by omega)⟩
      refine ⟨(a + Int.tmod (y.1 / 2) (b - a + 1), y.2), Ev.bindS hx (Ev.neg c0 (Ev.neg c1 (Ev.neg (by omega) (Ev.bind hy ?_)))), ⟨by show a ≤ a + _; omega, by show a + _ ≤ b; omega⟩, hy2⟩
      rw [e, wid (x := Int.tmod (y.1 / 2) (b - a + 1)) (by omega) (by omega), wid (by omega) (by omega)]
      exact Ev.neg (by omega) (Ev.now _)
theorem off_ev {l : List Int} {p : Int} (h : okc l) (hp : okp l p) (a b : Int) (hab : a ≤ b) (ha : -1000000000000000 ≤ a) (hb : b ≤ 1000000000000000) : ∃ r, Ev (fun k => spec_l1Rd_off.f k l p a b) r ∧ (-9223372036854775808 ≤ r.1 ∧ r.1 ≤ 9223372036854775807) ∧ okp l r.2 := by
  unfold spec_l1Rd_off.f
  obtain ⟨x, hx, hx2⟩ := once_ev h hp 24 (by omega)
  by_cases c0 : x.1 = true
  · obtain ⟨y, hy, hy1, hy2⟩ := below_ev h hx2 4 (by omega)
    refine ⟨_, Ev.bindS hx (Ev.pos c0 (Ev.bindS rfl (Ev.bindS hy (Ev.pos hy1.1 (Ev.pos (by simp only [List.length_cons, List.length_nil]; omega) (Ev.now _)))))), ?_, hy2⟩
    rw [wid (x := a - 1) (by omega) (by omega), wid (x := b + 1) (by omega) (by omega)]
    obtain ⟨m, hm⟩ : ∃ m : Nat, y.1 = m := ⟨y.1.toNat, by omega⟩
    have hlt : m < 4 := by omega
    simp only [hm]
    unfold rd
    rw [Int.toNat_natCast]
    match m, hlt with
    | 0, _ => show -9223372036854775808 ≤ a - 1 ∧ a - 1 ≤ 9223372036854775807; omega
    | 1, _ => show -9223372036854775808 ≤ b + 1 ∧ b + 1 ≤ 9223372036854775807; omega
    | 2, _ => show (-9223372036854775808 : Int) ≤ -9223372036854775808 ∧ (-9223372036854775808 : Int) ≤ 9223372036854775807; omega
    | 3, _ => show (-9223372036854775808 : Int) ≤ 9223372036854775807 ∧ (9223372036854775807 : Int) ≤ 9223372036854775807; omega
  · obtain ⟨y, hy, hy1, hy2⟩ := near_ev h hx2 a b hab ha hb
    exact ⟨_, Ev.bindS hx (Ev.neg c0 (Ev.bind hy (Ev.now _))), ⟨by omega, by omega⟩, hy2⟩
end Go.Proofs.Ytidjdkodgddfcaa.P
end

section
namespace Go.Proofs.Ytidjdkodgddfcaa.P
open Go.RowKit Go.Proofs.YtidjdkodgddfcaaW.PrintWords Go.Proofs.YtidjdkodgddfcaaW.PrintLast Go.Proofs.YtidjdkodgddfcaaW.PrintMore
attribute [local go_sem] str_gtr str_leq str_geq qd1 qb1 max_two min_two qy qx qc1 qa1
set_option linter.unusedVariables false
set_option linter.unusedSimpArgs false
theorem dkey_ev {l : List Int} {p : Int} (h : okc l) (hp : okp l p) : ∃ r, Ev (fun k => spec_l1Rd_key.f k l p) r ∧ okp l r.2.2.2 := by
  unfold spec_l1Rd_key.f
  obtain ⟨a, ha, _, ha2⟩ := duser_ev h hp
  obtain ⟨b, hb, _, hb2⟩ := near_ev h ha2 0 12 (by omega) (by omega) (by omega)
  obtain ⟨c, hc, _, hc2⟩ := below_ev h hb2 2 (by omega)
  obtain ⟨d, hd, _, hd2⟩ := below_ev h hc2 24 (by omega)
  by_cases c0 : d.1 = 0
  · obtain ⟨e, he, _, he2⟩ := off_ev h hd2 0 1000000000000 (by omega) (by omega) (by omega)
    exact ⟨_, Ev.bindS ha (Ev.bind hb (Ev.bindS hc (Ev.bindS hd (Ev.pos c0 (Ev.bind he (Ev.now _)))))), he2⟩
  · by_cases c1 : d.1 = 1
    · obtain ⟨e, he, _, he2⟩ := off_ev h hd2 0 1 (by omega) (by omega) (by omega)
      exact ⟨_, Ev.bindS ha (Ev.bind hb (Ev.bindS hc (Ev.bindS hd (Ev.neg c0 (Ev.pos c1 (Ev.bind he (Ev.now _))))))), he2⟩
    · by_cases c2 : d.1 = 2
      · obtain ⟨e, he, _, he2⟩ := bytes_ev h hd2 45 (by omega) (by omega)
        exact ⟨_, Ev.bindS ha (Ev.bind hb (Ev.bindS hc (Ev.bindS hd (Ev.neg c0 (Ev.neg c1 (Ev.pos c2 (Ev.bind he (Ev.now _)))))))), he2⟩
      · exact ⟨_, Ev.bindS ha (Ev.bind hb (Ev.bindS hc (Ev.bindS hd (Ev.neg c0 (Ev.neg c1 (Ev.neg c2 (Ev.now _))))))), hd2⟩
theorem dentry_ev {l : List Int} {p : Int} (h : okc l) (hp : okp l p) : ∃ r, Ev (fun k => spec_l1Rd_entry.f k l p) r ∧ okp l r.2.2.2.2 := by
  unfold spec_l1Rd_entry.f
  obtain ⟨a, ha, ha2⟩ := dkey_ev h hp
  obtain ⟨b, hb, _, hb2⟩ := dvalue_ev h ha2
  by_cases c0 : a.2.2.1 = 0
  · obtain ⟨c, hc, hc2⟩ := once_ev h hb2 12 (by omega)
    by_cases c1 : c.1 = true
    · exact ⟨_, Ev.bind ha (Ev.bindS hb (Ev.pos c0 (Ev.bindS hc (Ev.pos c1 (Ev.now _))))), hc2⟩
    · exact ⟨_, Ev.bind ha (Ev.bindS hb (Ev.pos c0 (Ev.bindS hc (Ev.neg c1 (Ev.now _))))), hc2⟩
  · exact ⟨_, Ev.bind ha (Ev.bindS hb (Ev.neg c0 (Ev.now _))), hb2⟩
theorem dentries_ev {l : List Int} {p : Int} (h : okc l) (hp : okp l p) (n : Int) (hn : 0 ≤ n) (hn2 : n ≤ 1000) : ∃ r, Ev (fun k => spec_l1Rd_entries.f k l p n) r ∧ (r.1.length : Int) ≤ n + 1 ∧ okp l r.2 := by
  have key : ∀ (j : Nat) (acc : List S64) (p : Int), acc.length + j ≤ 2000 → okp l p → ∃ r, Ev (fun k => spec_l1Rd_entries.l0 k acc (j : Int) l p) r ∧ r.1.length ≤ acc.length + j + 1 ∧ okp l r.2 := by
    intro j
    induction j with
    | zero =>
      intro acc p ha hp
      obtain ⟨a, ha', ha2⟩ := once_ev h hp 24 (by omega)
      by_cases c : a.1 = true
      · obtain ⟨b, hb, hb2⟩ := dentry_ev h ha2
        refine ⟨_, Ev.step (fun k => spec_l1Rd_entries.l0.eq_2 ..) (Ev.neg (by omega) (Ev.bindS ha' (Ev.pos c (Ev.bind hb (Ev.pos (by omega) (Ev.now _)))))), ?_, hb2⟩
        show (acc ++ [_]).length ≤ _
        rw [List.length_append]
        simp only [List.length_cons, List.length_nil]
        omega
      · exact ⟨_, Ev.step (fun k => spec_l1Rd_entries.l0.eq_2 ..) (Ev.neg (by omega) (Ev.bindS ha' (Ev.neg c (Ev.now _)))), by show acc.length ≤ _; omega, ha2⟩
    | succ j ih =>
      intro acc p ha hp
      obtain ⟨e, he, he2⟩ := dentry_ev h hp
      have hw : wrap64 (((j + 1 : Nat) : Int) - 1) = (j : Int) := by rw [wid (by omega) (by omega)]; omega
      by_cases c : isE e.1 e.2.1 e.2.2.1 e.2.2.2.1
      ·
        have seek : ∀ d i : Nat, i + d = acc.length → ∃ r, Ev (fun k => spec_l1Rd_entries.l1 k acc ((j + 1 : Nat) : Int) (i : Int) l e.2.2.2.2 e.1 e.2.1 e.2.2.1 e.2.2.2.1) r ∧ r.1.length ≤ acc.length + (j + 1) + 1 ∧ okp l r.2 := by
          intro d
          induction d with
          | zero =>
            intro i hi
            obtain ⟨r, hr, hr1, hr2⟩ := ih ((([] ++ acc.take i) ++ [⟨⟨e.1, e.2.1, e.2.2.1⟩, e.2.2.2.1⟩]) ++ acc.drop i) e.2.2.2.2 (by simp; omega) he2
            refine ⟨r, Ev.step (fun k => spec_l1Rd_entries.l1.eq_2 ..) (Ev.neg (by omega) (Ev.bindS rfl (Ev.pos (by omega) (Ev.pos (by omega) (Ev.bindS rfl (Ev.pos (by simp; omega) (Ev.bindS rfl (Ev.pos (by simp; omega) (Ev.bindS rfl (Ev.bindS rfl (Ev.pos (by simp; omega) ?_))))))))))), ?_, hr2⟩
            · rw [hw, Int.toNat_natCast]
              exact hr
            · refine Nat.le_trans hr1 ?_
              simp
              omega
          | succ d ihd =>
            intro i hi
            have hc := sKeyCmp_ev (qd acc (i : Int)).f0.f0 (qd acc (i : Int)).f0.f1 (qd acc (i : Int)).f0.f2 e.1 e.2.1 e.2.2.1
            generalize (if isK (qd acc (i : Int)).f0.f0 (qd acc (i : Int)).f0.f1 (qd acc (i : Int)).f0.f2 ∧ isK e.1 e.2.1 e.2.2.1 then kcmp (qd acc (i : Int)).f0.f0 (qd acc (i : Int)).f0.f1 (qd acc (i : Int)).f0.f2 e.1 e.2.1 e.2.2.1 else 0) = cv at hc
            by_cases c1 : cv < 0
            · obtain ⟨r, hr, hr2⟩ := ihd (i + 1) (by omega)
              refine ⟨r, Ev.step (fun k => spec_l1Rd_entries.l1.eq_2 ..) (Ev.pos (by omega) (Ev.pos (by omega) (Ev.bind hc (Ev.pos c1 ?_)))), hr2⟩
              rw [wsucc (by omega)]
              exact hr
            · generalize hb : (((qd acc (i : Int)).f0.f0.toList == e.1.toList) && ((qd acc (i : Int)).f0.f1 == e.2.1 && ((qd acc (i : Int)).f0.f2 == e.2.2.1))) = bb
              cases bb with
              | true =>
                obtain ⟨r, hr, hr1, hr2⟩ := ih acc e.2.2.2.2 (by omega) he2
                refine ⟨r, Ev.step (fun k => spec_l1Rd_entries.l1.eq_2 ..) (Ev.pos (by omega) (Ev.pos (by omega) (Ev.bind hc (Ev.neg c1 (Ev.pos hb ?_))))), by omega, hr2⟩
                rw [hw]
                exact hr
              | false =>
                obtain ⟨r, hr, hr1, hr2⟩ := ih ((([] ++ acc.take i) ++ [⟨⟨e.1, e.2.1, e.2.2.1⟩, e.2.2.2.1⟩]) ++ acc.drop i) e.2.2.2.2 (by simp; omega) he2
                refine ⟨r, Ev.step (fun k => spec_l1Rd_entries.l1.eq_2 ..) (Ev.pos (by omega) (Ev.pos (by omega) (Ev.bind hc (Ev.neg c1 (Ev.neg (by rw [hb]; simp) (Ev.bindS rfl (Ev.pos (by omega) (Ev.bindS rfl (Ev.pos (by simp; omega) (Ev.bindS rfl (Ev.pos (by simp; omega) (Ev.bindS rfl (Ev.bindS rfl (Ev.pos (by simp; omega) ?_)))))))))))))), ?_, hr2⟩
                · rw [hw, Int.toNat_natCast]
                  exact hr
                · refine Nat.le_trans hr1 ?_
                  simp
                  omega
        obtain ⟨r, hr, hr2⟩ := seek acc.length 0 (by omega)
        exact ⟨r, Ev.step (fun k => spec_l1Rd_entries.l0.eq_2 ..) (Ev.pos (by omega) (Ev.bind he (Ev.bindS (sEntryOk_ev _ _ _ _) (Ev.pos (decide_eq_true c) hr)))), hr2⟩
      · obtain ⟨r, hr, hr1, hr2⟩ := ih acc e.2.2.2.2 (by omega) he2
        refine ⟨r, Ev.step (fun k => spec_l1Rd_entries.l0.eq_2 ..) (Ev.pos (by omega) (Ev.bind he (Ev.bindS (sEntryOk_ev _ _ _ _) (Ev.neg (by simpa using c) ?_)))), by omega, hr2⟩
        rw [hw]
        exact hr
  obtain ⟨a, ha, ha1, ha2⟩ := below_ev h hp (n + 1) (by omega)
  obtain ⟨r, hr, hr1, hr2⟩ := key a.1.toNat [] a.2 (by simp; omega) ha2
  refine ⟨r, ?_, ?_, hr2⟩
  · unfold spec_l1Rd_entries.f
    rw [wid (by omega) (by omega)]
    refine Ev.bindS ha ?_
    rw [show ((a.1.toNat : Nat) : Int) = a.1 from by omega] at hr
    exact hr
  · simp only [List.length_nil] at hr1
    omega
theorem eqA148 (d : Nat) (w : World) (x0 y0 : Int) (x1 y1 : ByteArray) (x2 y2 : ByteArray) :
  (Op.equalIn (d + 2) 148 (.agg #[.int .i64 x0, .string x1, .string x2]) (.agg #[.int .i64 y0, .string y1, .string y2])).run Try.prog w = .ok (x0 == y0 && (x1.toList == y1.toList && (x2.toList == y2.toList))) w := by
 refine eqA_of Try.underlying148 (by kernel_rfl) ?_
 refine eqf_cons (by rfl) (by go_simp; rfl) (by go_simp; rfl) (by go_simp) ?_
 refine eqf_cons (by rfl) (by go_simp; rfl) (by go_simp; rfl) (by go_simp) ?_
 exact eqf_last (by rfl) (by go_simp; rfl) (by go_simp; rfl) (by go_simp)
end Go.Proofs.Ytidjdkodgddfcaa.P
end

section
namespace Go.Proofs.Ytidjdkodgddfcaa.P
open Go.RowKit Go.Proofs.YtidjdkodgddfcaaW.PrintWords Go.Proofs.YtidjdkodgddfcaaW.PrintLast Go.Proofs.YtidjdkodgddfcaaW.PrintMore
attribute [local go_sem] str_gtr str_leq str_geq qd1 qb1 max_two min_two qy qx qc1 qa1
set_option linter.unusedVariables false
set_option linter.unusedSimpArgs false
theorem sameEntries_self (l : List S64) (h : l.length < 2097152) : Ev (fun k => laws_sameEntries.f k l l) true := by
  unfold laws_sameEntries.f
  have key : ∀ i, i ≤ l.length → Ev (fun k => laws_sameEntries.l0 k l l (i : Int)) true := by
    refine downTo l.length (Ev.step (fun k => laws_sameEntries.l0.eq_2 ..) (Ev.neg (by omega) (Ev.now _))) ?_
    intro i hi ih
    refine Ev.step (fun k => laws_sameEntries.l0.eq_2 ..) (Ev.pos (by omega) (Ev.pos (by omega) (Ev.pos (by omega) (Ev.neg (by simp) ?_))))
    rw [wsucc (by omega)]
    exact ih
  exact Ev.pos rfl (key 0 (Nat.zero_le _))
end Go.Proofs.Ytidjdkodgddfcaa.P
end

section
namespace Go.Proofs.Ytidjdkodgddfcaa.P
open Go.RowKit Go.Proofs.YtidjdkodgddfcaaW.PrintWords Go.Proofs.YtidjdkodgddfcaaW.PrintLast Go.Proofs.YtidjdkodgddfcaaW.PrintMore
attribute [local go_sem] str_gtr str_leq str_geq qd1 qb1 max_two min_two qy qx qc1 qa1
set_option linter.unusedVariables false
set_option linter.unusedSimpArgs false
open Go.Sort
def stLt (c : S64 → S64 → Int) (p q : S64 × Nat) : Bool := decide (c p.1 q.1 < 0) || (!decide (c q.1 p.1 < 0) && decide (p.2 < q.2))
structure Ord (c : S64 → S64 → Int) : Prop where
  irrefl : ∀ x, ¬ c x x < 0
  trans : ∀ x y z, c x y < 0 → c y z < 0 → c x z < 0
  ntrans : ∀ x y z, ¬ c x y < 0 → ¬ c y z < 0 → ¬ c x z < 0
theorem stLt_swo {c : S64 → S64 → Int} (h : Ord c) : SWO (stLt c) := by
  refine ⟨fun x => ?_, fun x y z h1 h2 => ?_, fun x y z h1 h2 => ?_⟩
  · simp [stLt, h.irrefl]
  · simp only [stLt, Bool.or_eq_true, Bool.and_eq_true, Bool.not_eq_true', decide_eq_true_eq, decide_eq_false_iff_not] at *
    rcases h1 with h1 | ⟨h1, h1'⟩
    · rcases h2 with h2 | ⟨h2, _⟩
      · exact .inl (h.trans _ _ _ h1 h2)
      · exact .inl (Classical.byContradiction fun k => h.ntrans _ _ _ k h2 h1)
    · rcases h2 with h2 | ⟨h2, h2'⟩
      · exact .inl (Classical.byContradiction fun k => h.ntrans _ _ _ h1 k h2)
      · exact .inr ⟨h.ntrans _ _ _ h2 h1, by omega⟩
  · simp only [stLt, Bool.or_eq_false_iff, Bool.and_eq_false_iff, Bool.not_eq_false', decide_eq_true_eq, decide_eq_false_iff_not] at *
    refine ⟨h.ntrans _ _ _ h1.1 h2.1, ?_⟩
    rcases h1.2 with k1 | k1
    · exact .inl (Classical.byContradiction fun k => h.ntrans _ _ _ h2.1 k k1)
    · rcases h2.2 with k2 | k2
      · exact .inl (Classical.byContradiction fun k => h.ntrans _ _ _ k h1.1 k2)
      · exact .inr (by omega)
theorem srt_spec {c : S64 → S64 → Int} (h : Ord c) (l : List S64) : ∃ L : List (S64 × Nat), L.Perm l.zipIdx ∧ srt c l = L.map (fun p => p.1) ∧ L.Pairwise (fun p q => stLt c q p = false) := by
  have hA : ∀ p q, p < q → q < (zipA l).size → ltOf (cfL c) (zipA l)[q]! (zipA l)[p]! = stLt c (zipA l)[q]! (zipA l)[p]! := by
    intro p q hpq hq
    rw [zipA_size] at hq
    rw [zipA_at l q hq, zipA_at l p (by omega)]
    show decide (c _ _ < 0) = (decide (c _ _ < 0) || (!decide (c _ _ < 0) && decide (q < p)))
    rw [decide_eq_false (show ¬ q < p by omega), Bool.and_false, Bool.or_false]
  obtain ⟨⟨z1, _, z3⟩, z4⟩ := stab_spec (lt := ltOf (cfL c)) (stLt_swo h) hA
  refine ⟨(stab (ltOf (cfL c)) (zipA l)).toList, ?_, rfl, ?_⟩
  · rw [Array.extract_eq_self_of_le (by omega), Array.extract_eq_self_of_le (by omega)] at z3
    exact z3
  · rw [List.pairwise_iff_getElem]
    intro i j hi hj hij
    have := z4 i j (Nat.zero_le _) hij (by rw [← z1]; simpa using hj)
    rw [getElem!_pos _ i (by simpa using hi), getElem!_pos _ j (by simpa using hj)] at this
    simpa using this
theorem srt_sorted {c : S64 → S64 → Int} (h : Ord c) (l : List S64) : (srt c l).Pairwise (fun x y => ¬ c y x < 0) := by
  obtain ⟨L, _, h2, h3⟩ := srt_spec h l
  rw [h2, List.pairwise_map]
  refine h3.imp fun {p q} hpq => ?_
  simp only [stLt, Bool.or_eq_false_iff, decide_eq_false_iff_not] at hpq
  exact hpq.1
theorem tless_ntrans {a b c : ByteArray} (h1 : ¬ tless a b = true) (h2 : ¬ tless b c = true) : ¬ tless a c = true := by
  intro h
  unfold tless at *
  by_cases k : Op.bytesLess b.toList a.toList = true
  · exact h2 (bl_trans k h)
  · have e : a.toList = b.toList := bl_eq (by simpa using h1) (by simpa using k)
    rw [e] at h
    exact h2 h
theorem ecmp_ord : Ord ecmp := by
  refine ⟨fun x h => ?_, fun x y z h1 h2 => ?_, fun x y z h1 h2 h => ?_⟩
  · have := (kcmp_zero x.f0.f0 x.f0.f1 x.f0.f2 x.f0.f0 x.f0.f1 x.f0.f2).2 ⟨rfl, rfl, rfl⟩
    unfold ecmp at h
    omega
  · unfold ecmp at *
    rw [kcmp_lt] at *
    rcases h1 with h1 | ⟨e1, h1⟩
    · rcases h2 with h2 | ⟨e2, h2⟩
      · exact .inl (bl_trans h1 h2)
      · rw [e2] at h1; exact .inl h1
    · rcases h2 with h2 | ⟨e2, h2⟩
      · rw [e1]; exact .inl h2
      · exact .inr ⟨e1.trans e2, by omega⟩
  · unfold ecmp at *
    rw [kcmp_lt] at h1 h2 h
    have u1 : ¬ tless x.f0.f0 y.f0.f0 = true := fun k => h1 (.inl k)
    have u2 : ¬ tless y.f0.f0 z.f0.f0 = true := fun k => h2 (.inl k)
    have ueq : ∀ a b : ByteArray, ¬ tless a b = true → ¬ tless b a = true → a = b := fun a b p q => by
      have := bl_eq (a := a.toList) (b := b.toList) (by simpa [tless] using p) (by simpa [tless] using q)
      rw [ByteArray.toList_eq, ByteArray.toList_eq] at this
      exact ByteArray.ext (Array.toList_inj.1 this)
    rcases h with h | ⟨e, h⟩
    · exact tless_ntrans u1 u2 h
    · have v1 : ¬ tless y.f0.f0 x.f0.f0 = true := fun k => u2 (by rw [← e]; exact k)
      have e1 := ueq _ _ u1 v1
      have e2 : y.f0.f0 = z.f0.f0 := e1.symm.trans e
      have w1 : ¬ (y.f0.f1 < x.f0.f1 ∨ x.f0.f1 = y.f0.f1 ∧ y.f0.f2 < x.f0.f2) := fun k => h1 (.inr ⟨e1, k⟩)
      have w2 : ¬ (z.f0.f1 < y.f0.f1 ∨ y.f0.f1 = z.f0.f1 ∧ z.f0.f2 < y.f0.f2) := fun k => h2 (.inr ⟨e2, k⟩)
      omega
theorem ecmp_zero (x y : S64) (h1 : ¬ ecmp x y < 0) (h2 : ¬ ecmp y x < 0) : x.f0 = y.f0 := by
  have h0 : ecmp x y = 0 := by
    rcases kcmp_cases x.f0.f0 x.f0.f1 x.f0.f2 y.f0.f0 y.f0.f1 y.f0.f2 with h | h | h
    · exact absurd (show ecmp x y < 0 by unfold ecmp; omega) h1
    · exact h
    · exfalso
      apply h2
      unfold ecmp at h1 ⊢
      rw [kcmp_lt] at h1 ⊢
      by_cases k1 : tless y.f0.f0 x.f0.f0 = true
      · exact .inl k1
      · have e : x.f0.f0 = y.f0.f0 := by
          have := bl_eq (a := x.f0.f0.toList) (b := y.f0.f0.toList) (by have : ¬ tless x.f0.f0 y.f0.f0 = true := fun k => h1 (.inl k); simpa [tless] using this) (by simpa [tless] using k1)
          rw [ByteArray.toList_eq, ByteArray.toList_eq] at this
          exact ByteArray.ext (Array.toList_inj.1 this)
        have w : ¬ (y.f0.f1 < x.f0.f1 ∨ x.f0.f1 = y.f0.f1 ∧ y.f0.f2 < x.f0.f2) := fun k => h1 (.inr ⟨e, k⟩)
        have nz : ¬ (x.f0.f1 = y.f0.f1 ∧ x.f0.f2 = y.f0.f2) := fun k => by
          have := (kcmp_zero x.f0.f0 x.f0.f1 x.f0.f2 y.f0.f0 y.f0.f1 y.f0.f2).2 ⟨e, k.1, k.2⟩
          omega
        exact .inr ⟨e.symm, by omega⟩
  have := (kcmp_zero x.f0.f0 x.f0.f1 x.f0.f2 y.f0.f0 y.f0.f1 y.f0.f2).1 h0
  obtain ⟨⟨u, q, d⟩, v⟩ := x
  obtain ⟨⟨u', q', d'⟩, v'⟩ := y
  obtain ⟨rfl, rfl, rfl⟩ := this
  rfl
end Go.Proofs.Ytidjdkodgddfcaa.P
end

section
namespace Go.Proofs.Ytidjdkodgddfcaa.Pure
open Go.RowKit Go.Proofs.YtidjdkodgddfcaaW.PrintWords Go.Proofs.YtidjdkodgddfcaaW.PrintLast Go.Proofs.YtidjdkodgddfcaaW.PrintMore
open Go.Proofs.Ytidjdkodgddfcaa.P
set_option linter.unusedVariables false
set_option linter.unusedSimpArgs false
noncomputable def seekV (l : List S64) (u : ByteArray) (q d : Int) : Int := if isRow l ∧ isK u q d then ((bsc l ⟨⟨u, q, d⟩, ⟨#[]⟩⟩ : Nat) : Int) else -1
theorem seek_ev (l : List S64) (hl : l.length < 2097152) (u : ByteArray) (q d : Int) : Ev (fun k => impl_SeekEntry.f k l u q d) (seekV l u q d) := by
  unfold impl_SeekEntry.f seekV
  refine Ev.bind (entriesOk_ev l hl) ?_
  by_cases c : isRow l
  case neg => exact Ev.neg (by simp [c]) ((Ev.now _).eqr (if_neg (fun h => c h.1)).symm)
  refine Ev.pos (decide_eq_true c) (Ev.bindS (keyOk_ev u q d) ?_)
  by_cases c2 : isK u q d
  case neg => exact Ev.neg (by simp [c2]) ((Ev.now _).eqr (if_neg (fun h => c2 h.2)).symm)
  have hb := bsearch_ev c ⟨⟨u, q, d⟩, ⟨#[]⟩⟩
  exact Ev.pos (decide_eq_true c2) (Ev.bindS hb ((Ev.now _).eqr (if_pos ⟨c, c2⟩).symm))
end Go.Proofs.Ytidjdkodgddfcaa.Pure
end

section
namespace Go.Proofs.Ytidjdkodgddfcaa.Pure
open Go.RowKit Go.Proofs.YtidjdkodgddfcaaW.PrintWords Go.Proofs.YtidjdkodgddfcaaW.PrintLast Go.Proofs.YtidjdkodgddfcaaW.PrintMore
open Go.Proofs.Ytidjdkodgddfcaa.P
set_option linter.unusedVariables false
set_option linter.unusedSimpArgs false
abbrev R_ := S62
def total : List R_ → Nat
  | [] => 0
  | x :: xs => x.f0.length + total xs
def rOk (l : List R_) : Prop := l.length ≤ 20 ∧ (∀ x ∈ l, isRow x.f0) ∧ total l ≤ 400
noncomputable instance (l : List R_) : Decidable (rOk l) := Classical.propDecidable _
noncomputable instance (l : List R_) : Decidable (∀ x ∈ l, isRow x.f0) := Classical.propDecidable _
theorem runsOk1_ev (x : R_) (h : x.f0.length < 2097152) : Ev (fun k => impl_RunsOk_1.f k x.f0) (!decide (isRow x.f0)) := by
  unfold impl_RunsOk_1.f
  exact Ev.bind (entriesOk_ev x.f0 h) (Ev.now _)
theorem contains_ev : ∀ l : List R_, (∀ x ∈ l, x.f0.length < 2097152) → Ev (fun k => containsFunc_notRow.f k l) (!decide (∀ x ∈ l, isRow x.f0))
  | [], _ => by
    refine (Ev.now false).eqr ?_
    rw [decide_eq_true (show ∀ x ∈ ([] : List R_), isRow x.f0 from fun x hx => by cases hx)]
    rfl
  | x :: xs, h => by
    have h1 := runsOk1_ev x (h x List.mem_cons_self)
    have h2 := contains_ev xs (fun y hy => h y (List.mem_cons_of_mem _ hy))
    unfold containsFunc_notRow.f at *
    unfold runsBad
    refine Ev.bind h1 (Ev.bind h2 ((Ev.now _).eqr ?_))
    by_cases c1 : isRow x.f0
    · by_cases c2 : ∀ y ∈ xs, isRow y.f0
      · rw [decide_eq_true c1, decide_eq_true c2, decide_eq_true (show ∀ y ∈ x :: xs, isRow y.f0 from fun y hy => (List.mem_cons.1 hy).elim (fun e => e ▸ c1) (c2 y))]
        rfl
      · rw [decide_eq_true c1, decide_eq_false c2, decide_eq_false (show ¬ ∀ y ∈ x :: xs, isRow y.f0 from fun hh => c2 fun y hy => hh y (List.mem_cons_of_mem _ hy))]
        rfl
    · rw [decide_eq_false c1, decide_eq_false (show ¬ ∀ y ∈ x :: xs, isRow y.f0 from fun hh => c1 (hh x List.mem_cons_self))]
      rfl
theorem rdRn (l : List R_) (i : Nat) (h : i < l.length) : qv l (i : Int) = l[i] := by
  unfold qv
  rw [Int.toNat_natCast, List.getD_eq_getElem?_getD, List.getElem?_eq_getElem h]
  rfl
theorem total_drop (l : List R_) (i : Nat) (h : i < l.length) : total (l.drop i) = l[i].f0.length + total (l.drop (i + 1)) := by rw [List.drop_eq_getElem_cons h, total]
theorem joined_ev (l : List R_) (hl : l.length ≤ 20) (h : ∀ x ∈ l, x.f0.length ≤ 400) : ∃ r, Ev (fun k => impl_joined.f k l) r ∧ r.length = total l := by
  unfold impl_joined.f
  have key : ∀ i, i ≤ l.length → ∀ out : List S64, out.length ≤ i * 400 → ∃ r, Ev (fun k => impl_joined.l0 k out l (l.length : Int) (i : Int)) r ∧ r.length = out.length + total (l.drop i) := by
    refine downTo l.length ?_ ?_
    · intro out _
      refine ⟨out, ?_, by rw [List.drop_length]; rfl⟩
      refine Ev.step (fun k => impl_joined.l0.eq_2 ..) ?_
      exact Ev.neg (by omega) (Ev.now _)
    · intro i hi ih out ho
      have hx := h l[i] (List.getElem_mem hi)
      obtain ⟨r, h1, h2⟩ := ih (out ++ l[i].f0) (by rw [List.length_append]; omega)
      refine ⟨r, ?_, by rw [h2, List.length_append, total_drop l i hi]; omega⟩
      refine Ev.step (fun k => impl_joined.l0.eq_2 ..) ?_
      rw [rdRn l i hi, wsucc (show i < 4611686018427387904 by omega)]
      exact Ev.pos (by omega) (Ev.pos (by omega) (Ev.pos (by omega) (Ev.pos (by omega) h1)))
  obtain ⟨r, h1, h2⟩ := key 0 (Nat.zero_le _) [] (by simp)
  exact ⟨r, h1, by simpa using h2⟩
theorem runsOk_ev (l : List R_) (h : ∀ x ∈ l, x.f0.length < 2097152) : Ev (fun k => impl_RunsOk.f k l) (decide (rOk l)) := by
  unfold impl_RunsOk.f
  by_cases c : (l.length : Int) ≤ 20
  case neg => exact Ev.neg c ((Ev.now _).eqr (decide_eq_false fun hh => c (by have := hh.1; omega)).symm)
  refine Ev.pos c (Ev.bind (contains_ev l h) ?_)
  by_cases c2 : ∀ x ∈ l, isRow x.f0
  case neg =>
    refine Ev.pos (by simp [c2]) ((Ev.now _).eqr (decide_eq_false fun hh => c2 hh.2.1).symm)
  obtain ⟨r, h1, h2⟩ := joined_ev l (by omega) (fun x hx => (c2 x hx).1)
  refine Ev.neg (by rw [decide_eq_true c2]; simp) (Ev.bind h1 ((Ev.now _).eqr ?_))
  rw [h2]
  exact decide_eq_decide.2 ⟨fun h3 => ⟨by omega, c2, by omega⟩, fun h3 => by have := h3.2.2; omega⟩
theorem sRunsOk_ev (l : List R_) (h : ∀ x ∈ l, x.f0.length < 2097152) : Ev (fun k => spec_RunsOk.f k l) (decide (rOk l)) := by
  unfold spec_RunsOk.f
  by_cases c : (l.length : Int) > 20
  · exact Ev.pos c ((Ev.now _).eqr (decide_eq_false fun hh => by have := hh.1; omega).symm)
  refine Ev.neg c ?_
  have key : ∀ i, i ≤ l.length → ∀ n : Nat, n ≤ i * 400 → (n + total (l.drop i) = total l) → (∀ j, (hj : j < i) → (hl : j < l.length) → isRow l[j].f0) → Ev (fun k => spec_RunsOk.l0 k l (n : Int) (i : Int)) (decide (rOk l)) := by
    refine downTo l.length ?_ ?_
    · intro n hn ht hb
      refine Ev.step (fun k => spec_RunsOk.l0.eq_2 ..) ?_
      rw [List.drop_length] at ht
      simp only [total, Nat.add_zero] at ht
      refine Ev.neg (by omega) ((Ev.now _).eqr (decide_eq_decide.2 ⟨fun h3 => ⟨by omega, fun x hx => ?_, by omega⟩, fun h3 => by have := h3.2.2; omega⟩))
      obtain ⟨j, hj, rfl⟩ := List.getElem_of_mem hx
      exact hb j hj hj
    · intro i hi ih n hn ht hb
      refine Ev.step (fun k => spec_RunsOk.l0.eq_2 ..) ?_
      rw [rdRn l i hi, wsucc (show i < 4611686018427387904 by omega)]
      refine Ev.pos (by omega) (Ev.pos (by omega) (Ev.bind (sEntriesOk_ev l[i].f0 (h _ (List.getElem_mem hi))) ?_))
      by_cases c2 : isRow l[i].f0
      · have hx := c2.1
        rw [wid (x := (n : Int) + (l[i].f0.length : Int)) (by omega) (by omega)]
        rw [total_drop l i hi] at ht
        refine Ev.pos (decide_eq_true c2) ?_
        have := ih (n + l[i].f0.length) (by omega) (by omega) (fun j hj hl => ?_)
        · rw [Int.natCast_add] at this
          exact this
        · by_cases e : j = i
          · subst e; exact c2
          · exact hb j (by omega) hl
      · exact Ev.neg (by simp [c2]) ((Ev.now _).eqr (decide_eq_false fun h3 => c2 (h3.2.1 _ (List.getElem_mem hi))).symm)
  exact key 0 (Nat.zero_le _) 0 (Nat.zero_le _) (by simp) (fun j hj => absurd hj (Nat.not_lt_zero _))
end Go.Proofs.Ytidjdkodgddfcaa.Pure
end

section
namespace Go.Proofs.Ytidjdkodgddfcaa.Pure
open Go.RowKit Go.Proofs.YtidjdkodgddfcaaW.PrintWords Go.Proofs.YtidjdkodgddfcaaW.PrintLast Go.Proofs.YtidjdkodgddfcaaW.PrintMore
open Go.Proofs.Ytidjdkodgddfcaa.P
set_option linter.unusedVariables false
set_option linter.unusedSimpArgs false
abbrev E_ := S64
theorem eqK_iff (x y : E_) : eqK x y = true ↔ x.f0 = y.f0 := by
  unfold eqK
  rw [Bool.and_eq_true, Bool.and_eq_true, beq_iff_eq, beq_iff_eq, beq_iff_eq]
  constructor
  · rintro ⟨h1, h2, h3⟩
    obtain ⟨⟨u, q, d⟩, v⟩ := x
    obtain ⟨⟨u', q', d'⟩, v'⟩ := y
    simp only at h1 h2 h3
    rw [ByteArray.toList_eq, ByteArray.toList_eq] at h1
    have := ByteArray.ext (Array.toList_inj.1 h1)
    subst this; subst h2; subst h3
    rfl
  · intro h
    rw [h]
    exact ⟨rfl, rfl, rfl⟩
theorem ecmp_l {x x' : E_} (h : x.f0 = x'.f0) (y : E_) : ecmp x y = ecmp x' y := by unfold ecmp; rw [h]
theorem ecmp_r {x x' : E_} (h : x.f0 = x'.f0) (y : E_) : ecmp y x = ecmp y x' := by unfold ecmp; rw [h]
theorem lt_ne {x y : E_} (h : ecmp x y < 0) : ¬ eqK x y = true := fun k => ecmp_ord.irrefl y (by rw [← ecmp_l ((eqK_iff x y).1 k) y]; exact h)
theorem lt_ne' {x y : E_} (h : ecmp x y < 0) : ¬ eqK y x = true := fun k => lt_ne h ((eqK_iff x y).2 ((eqK_iff y x).1 k).symm)
theorem lt_asym {x y : E_} (h : ecmp x y < 0) : ¬ ecmp y x < 0 := fun k => ecmp_ord.irrefl x (ecmp_ord.trans _ _ _ h k)
theorem strict_ext {α : Type} {R : α → α → Prop} (hR : ∀ a b, R a b → ¬ R b a) : ∀ A B : List α, A.Pairwise R → B.Pairwise R → (∀ e, e ∈ A ↔ e ∈ B) → A = B
  | [], [], _, _, _ => rfl
  | [], b :: B, _, _, h => by have := (h b).2 (List.mem_cons_self ..); cases this
  | a :: A, [], _, _, h => by have := (h a).1 (List.mem_cons_self ..); cases this
  | a :: A, b :: B, hA, hB, h => by
    have a1 := List.pairwise_cons.1 hA
    have b1 := List.pairwise_cons.1 hB
    have e : a = b := by
      rcases List.mem_cons.1 ((h a).1 (List.mem_cons_self ..)) with e | e
      · exact e
      · rcases List.mem_cons.1 ((h b).2 (List.mem_cons_self ..)) with e' | e'
        · exact e'.symm
        · exact absurd (a1.1 b e') (hR _ _ (b1.1 a e))
    subst e
    have nA : ¬ a ∈ A := fun k => hR _ _ (a1.1 a k) (a1.1 a k)
    have nB : ¬ a ∈ B := fun k => hR _ _ (b1.1 a k) (b1.1 a k)
    rw [strict_ext hR A B a1.2 b1.2 (fun x => ⟨fun hx => ?_, fun hx => ?_⟩)]
    · rcases List.mem_cons.1 ((h x).1 (List.mem_cons_of_mem _ hx)) with e | e
      · exact absurd (e ▸ hx) nA
      · exact e
    · rcases List.mem_cons.1 ((h x).2 (List.mem_cons_of_mem _ hx)) with e | e
      · exact absurd (e ▸ hx) nB
      · exact e
def strict (l : List E_) : Prop := l.Pairwise fun x y => ecmp x y < 0
theorem strict_eq {A B : List E_} (hA : strict A) (hB : strict B) (h : ∀ e, e ∈ A ↔ e ∈ B) : A = B := strict_ext (fun _ _ h => lt_asym h) A B hA hB h
def fk (l : List E_) (e : E_) : Option E_ := l.find? fun x => eqK x e
theorem fk_pos {a : E_} {l : List E_} {e : E_} (h : eqK a e = true) : fk (a :: l) e = some a := List.find?_cons_of_pos (p := fun x => eqK x e) h
theorem fk_neg {a : E_} {l : List E_} {e : E_} (h : ¬ eqK a e = true) : fk (a :: l) e = fk l e := List.find?_cons_of_neg (p := fun x => eqK x e) h
theorem cptF_spec : ∀ (l : List E_) (p : E_), (p :: l).Pairwise (fun x y => ¬ ecmp y x < 0) → strict (cptF eqK p l) ∧ (∀ e ∈ cptF eqK p l, ecmp p e < 0) ∧ ∀ e, e ∈ cptF eqK p l ↔ (¬ eqK p e = true ∧ fk l e = some e)
  | [], p, _ => ⟨List.Pairwise.nil, fun e he => (by cases he), fun e => ⟨fun he => (by cases he), fun h => (by cases h.2)⟩⟩
  | y :: ys, p, h => by
    have h1 := List.pairwise_cons.1 h
    obtain ⟨i1, i2, i3⟩ := cptF_spec ys y h1.2
    rw [cptF]
    by_cases c : eqK y p = true
    · rw [if_pos c]
      have ek := (eqK_iff y p).1 c
      refine ⟨i1, fun e he => by rw [← ecmp_l ek]; exact i2 e he, fun e => ?_⟩
      have q : eqK y e = eqK p e := by
        by_cases k : eqK p e = true
        · rw [k]
          exact (eqK_iff _ _).2 (ek.trans ((eqK_iff _ _).1 k))
        · have k2 : ¬ eqK y e = true := fun k2 => k ((eqK_iff _ _).2 (ek.symm.trans ((eqK_iff _ _).1 k2)))
          simp only [Bool.not_eq_true] at k k2
          rw [k, k2]
      rw [i3 e, q]
      constructor
      · rintro ⟨k1, k2⟩
        exact ⟨k1, by rw [fk_neg (by rw [q]; exact k1)]; exact k2⟩
      · rintro ⟨k1, k2⟩
        exact ⟨k1, by rwa [fk_neg (by rw [q]; exact k1)] at k2⟩
    · rw [if_neg c]
      have hpy : ecmp p y < 0 := by
        apply Classical.byContradiction
        intro k
        exact c ((eqK_iff y p).2 (ecmp_zero p y k (h1.1 y (List.mem_cons_self ..))).symm)
      refine ⟨List.pairwise_cons.2 ⟨i2, i1⟩, fun e he => ?_, fun e => ?_⟩
      · rcases List.mem_cons.1 he with e1 | he
        · rw [e1]; exact hpy
        · exact ecmp_ord.trans _ _ _ hpy (i2 e he)
      · constructor
        · intro he
          rcases List.mem_cons.1 he with e1 | he
          · subst e1
            exact ⟨lt_ne hpy, fk_pos ((eqK_iff _ _).2 rfl)⟩
          · have := (i3 e).1 he
            exact ⟨lt_ne (ecmp_ord.trans _ _ _ hpy (i2 e he)), by rw [fk_neg this.1]; exact this.2⟩
        · rintro ⟨k1, k2⟩
          by_cases ke : eqK y e = true
          · rw [fk_pos ke] at k2
            injection k2 with k2
            rw [k2]
            exact List.mem_cons_self ..
          · rw [fk_neg ke] at k2
            exact List.mem_cons_of_mem _ ((i3 e).2 ⟨ke, k2⟩)
theorem cptL_spec (l : List E_) (h : l.Pairwise (fun x y => ¬ ecmp y x < 0)) : strict (cptL eqK l) ∧ ∀ e, e ∈ cptL eqK l ↔ fk l e = some e := by
  cases l with
  | nil => exact ⟨List.Pairwise.nil, fun e => ⟨fun he => (by cases he), fun h => (by cases h)⟩⟩
  | cons x xs =>
    obtain ⟨h1, h2, h3⟩ := cptF_spec xs x h
    refine ⟨List.pairwise_cons.2 ⟨h2, h1⟩, fun e => ?_⟩
    rw [cptL, List.mem_cons]
    by_cases k : eqK x e = true
    · rw [fk_pos k]
      constructor
      · rintro (e1 | he)
        · rw [e1]
        · exact absurd k (lt_ne (h2 e he))
      · intro he
        injection he with he
        exact .inl he.symm
    · rw [fk_neg k, h3 e]
      constructor
      · rintro (e1 | he)
        · exact absurd ((eqK_iff x e).2 (by rw [e1])) k
        · exact he.2
      · intro he
        exact .inr ⟨k, he⟩
theorem srt_find (J : List E_) (e : E_) : fk (srt ecmp J) e = fk J e := by
  unfold fk
  obtain ⟨L, h1, h2, h3⟩ := srt_spec ecmp_ord J
  have key : L.filter (fun p => eqK p.1 e) = J.zipIdx.filter (fun p => eqK p.1 e) := by
    refine strict_ext (R := fun p q => p.2 < q.2) (fun a b h1 h2 => by omega) _ _ ?_ ?_ (fun x => (h1.filter _).mem_iff)
    · have nd : L.Pairwise (fun p q => p.2 ≠ q.2) := by
        have : (L.map (fun p => p.2)).Nodup := by
          rw [(h1.map (fun p => p.2)).nodup_iff, List.zipIdx_map_snd]
          exact List.nodup_range'
        exact List.pairwise_map.1 this
      have := (h3.and nd).filter (fun p => eqK p.1 e)
      rw [List.pairwise_filter] at *
      refine (h3.and nd).imp fun {p q} hpq hp hq => ?_
      have ek : p.1.f0 = q.1.f0 := ((eqK_iff _ _).1 hp).trans ((eqK_iff _ _).1 hq).symm
      have z : ¬ ecmp p.1 q.1 < 0 := by rw [ecmp_l ek]; exact ecmp_ord.irrefl _
      have := hpq.1
      simp only [stLt, Bool.or_eq_false_iff, Bool.and_eq_false_iff, Bool.not_eq_false', decide_eq_true_eq, decide_eq_false_iff_not] at this
      have := hpq.2
      omega
    · rw [List.pairwise_filter, List.pairwise_iff_getElem]
      intro i j hi hj hij _ _
      simp only [List.getElem_zipIdx]
      omega
  rw [← List.head?_filter, ← List.head?_filter, h2]
  conv => rhs; rw [← List.zipIdx_map_fst 0 J]
  rw [List.filter_map, List.filter_map]
  show ((L.filter (fun p => eqK p.1 e)).map _).head? = ((J.zipIdx.filter (fun p => eqK p.1 e)).map _).head?
  rw [key]
theorem merged_spec (J : List E_) : strict (cptL eqK (srt ecmp J)) ∧ ∀ e, e ∈ cptL eqK (srt ecmp J) ↔ fk J e = some e := by
  obtain ⟨h1, h2⟩ := cptL_spec _ (srt_sorted ecmp_ord J)
  exact ⟨h1, fun e => by rw [h2 e, srt_find]⟩
def putG : Bool → List E_ → E_ → List E_
  | done, [], e => if done = true then [] else [e]
  | done, x :: xs, e => ((if done = false ∧ 0 ≤ ecmp x e then [e] else []) ++ (if ecmp x e = 0 then [] else [x])) ++ putG (done || decide (0 ≤ ecmp x e)) xs e
theorem ecmp_cases (x y : E_) : ecmp x y = -1 ∨ ecmp x y = 0 ∨ ecmp x y = 1 := kcmp_cases _ _ _ _ _ _
theorem ecmp_pos {x y : E_} (h : 0 < ecmp x y) : ecmp y x < 0 := by
  apply Classical.byContradiction
  intro k
  have hk : ¬ ecmp x y < 0 := by omega
  have e := ecmp_zero x y hk k
  have : ecmp x y = ecmp y y := ecmp_l e y
  have z : ecmp y y = 0 := (kcmp_zero ..).2 ⟨rfl, rfl, rfl⟩
  omega
theorem ecmp_eq0 {x y : E_} (h : ecmp x y = 0) : x.f0 = y.f0 := by
  obtain ⟨h1, h2, h3⟩ := (kcmp_zero ..).1 h
  obtain ⟨⟨u, q, d⟩, v⟩ := x
  obtain ⟨⟨u', q', d'⟩, v'⟩ := y
  simp only at h1 h2 h3
  subst h1; subst h2; subst h3
  rfl
theorem putG_true (e : E_) : ∀ l : List E_, (∀ x ∈ l, 0 < ecmp x e) → putG true l e = l
  | [], _ => rfl
  | x :: xs, h => by
    have hx := h x (List.mem_cons_self ..)
    rw [putG, if_neg (by simp), if_neg (by omega), Bool.true_or, putG_true e xs (fun y hy => h y (List.mem_cons_of_mem _ hy))]
    rfl
theorem ecmp_flip {x y : E_} (h : ecmp x y < 0) : 0 < ecmp y x := by
  rcases ecmp_cases y x with k | k | k
  · exact absurd (show ecmp y x < 0 by omega) (lt_asym h)
  · have e := ecmp_eq0 k
    have : ecmp x y = ecmp x x := ecmp_r e x
    have z : ecmp x x = 0 := (kcmp_zero ..).2 ⟨rfl, rfl, rfl⟩
    omega
  · omega
theorem putG_spec (e : E_) : ∀ l : List E_, strict l → strict (putG false l e) ∧ ∀ y, y ∈ putG false l e ↔ y = e ∨ (y ∈ l ∧ ¬ eqK y e = true)
  | [], _ => ⟨List.pairwise_singleton _ _, fun y => by rw [putG, if_neg (by simp)]; simp⟩
  | x :: xs, h => by
    have h1 := List.pairwise_cons.1 h
    obtain ⟨i1, i2⟩ := putG_spec e xs h1.2
    rcases ecmp_cases x e with c | c | c
    · have e1 : putG false (x :: xs) e = x :: putG false xs e := by
        rw [putG, if_neg (by omega), if_neg (by omega), decide_eq_false (show ¬ 0 ≤ ecmp x e by omega)]
        rfl
      have hx : ecmp x e < 0 := by omega
      rw [e1]
      refine ⟨List.pairwise_cons.2 ⟨fun y hy => ?_, i1⟩, fun y => ?_⟩
      · rcases (i2 y).1 hy with k | k
        · rw [k]; exact hx
        · exact h1.1 y k.1
      · rw [List.mem_cons, List.mem_cons, i2 y]
        constructor
        · rintro (k | k | k)
          · exact .inr ⟨.inl k, by rw [k]; exact lt_ne hx⟩
          · exact .inl k
          · exact .inr ⟨.inr k.1, k.2⟩
        · rintro (k | ⟨k | k, k2⟩)
          · exact .inr (.inl k)
          · exact .inl k
          · exact .inr (.inr ⟨k, k2⟩)
    · have ek := ecmp_eq0 c
      have hgt : ∀ y ∈ xs, 0 < ecmp y e := fun y hy => by rw [← ecmp_r ek]; exact ecmp_flip (h1.1 y hy)
      have e1 : putG false (x :: xs) e = e :: xs := by
        rw [putG, if_pos ⟨rfl, by omega⟩, if_pos c, decide_eq_true (show 0 ≤ ecmp x e by omega), Bool.or_true, putG_true e xs hgt]
        rfl
      rw [e1]
      refine ⟨List.pairwise_cons.2 ⟨fun y hy => ecmp_pos (hgt y hy), h1.2⟩, fun y => ?_⟩
      rw [List.mem_cons, List.mem_cons]
      constructor
      · rintro (k | k)
        · exact .inl k
        · exact .inr ⟨.inr k, lt_ne' (ecmp_pos (hgt y k))⟩
      · rintro (k | ⟨k | k, k2⟩)
        · exact .inl k
        · exact absurd ((eqK_iff y e).2 (by rw [k]; exact ek)) k2
        · exact .inr k
    · have hex : ecmp e x < 0 := ecmp_pos (by omega)
      have hgt : ∀ y ∈ xs, 0 < ecmp y e := fun y hy => ecmp_flip (ecmp_ord.trans _ _ _ hex (h1.1 y hy))
      have e1 : putG false (x :: xs) e = e :: x :: xs := by
        rw [putG, if_pos ⟨rfl, by omega⟩, if_neg (by omega), decide_eq_true (show 0 ≤ ecmp x e by omega), Bool.or_true, putG_true e xs hgt]
        rfl
      rw [e1]
      refine ⟨List.pairwise_cons.2 ⟨fun y hy => ?_, h⟩, fun y => ?_⟩
      · rcases List.mem_cons.1 hy with k | k
        · rw [k]; exact hex
        · exact ecmp_pos (hgt y k)
      · rw [List.mem_cons]
        constructor
        · rintro (k | k)
          · exact .inl k
          · refine .inr ⟨k, ?_⟩
            rcases List.mem_cons.1 k with k | k
            · rw [k]; exact lt_ne' hex
            · exact lt_ne' (ecmp_pos (hgt y k))
        · rintro (k | k)
          · exact .inl k
          · exact .inr k.1
theorem putG_lt (e : E_) : ∀ l : List E_, (putG true l e).length ≤ l.length
  | [] => by simp [putG]
  | y :: ys => by
    have := putG_lt e ys
    rw [putG, List.length_append, List.length_append, if_neg (by simp), Bool.true_or, List.length_cons]
    split <;> simp only [List.length_nil, List.length_cons] <;> omega
theorem putG_lf (e : E_) : ∀ l : List E_, (putG false l e).length ≤ l.length + 1
  | [] => by simp [putG]
  | x :: xs => by
    have h1 := putG_lf e xs
    have h2 := putG_lt e xs
    rw [putG, List.length_append, List.length_append, List.length_cons, Bool.false_or]
    by_cases c : 0 ≤ ecmp x e
    · rw [decide_eq_true c]
      split <;> split <;> simp only [List.length_nil, List.length_cons] <;> omega
    · rw [decide_eq_false c, if_neg (fun k => c k.2)]
      split <;> simp only [List.length_nil, List.length_cons] <;> omega
def mgL : List R_ → List E_
  | [] => []
  | r :: rs => r.f0.foldl (putG false) (mgL rs)
def flat (l : List R_) : List E_ := (l.map fun r => r.f0).flatten
theorem foldl_spec : ∀ (r L0 : List E_), strict L0 → strict r → strict (r.foldl (putG false) L0) ∧ ∀ y, y ∈ r.foldl (putG false) L0 ↔ (fk r y = some y ∨ (fk r y = none ∧ y ∈ L0))
  | [], L0, h, _ => ⟨h, fun y => by simp [fk]⟩
  | a :: tl, L0, h, hr => by
    have h1 := List.pairwise_cons.1 hr
    obtain ⟨p1, p2⟩ := putG_spec a L0 h
    obtain ⟨i1, i2⟩ := foldl_spec tl _ p1 h1.2
    rw [List.foldl_cons]
    refine ⟨i1, fun y => ?_⟩
    rw [i2 y, p2 y]
    by_cases k : eqK a y = true
    · rw [fk_pos k]
      have hn : fk tl y = none := by
        unfold fk
        rw [List.find?_eq_none]
        intro x hx hk
        have e1 := (eqK_iff _ _).1 k
        have e2 := (eqK_iff _ _).1 hk
        exact lt_ne (h1.1 x hx) ((eqK_iff _ _).2 (e1.trans e2.symm))
      rw [hn]
      have k' : eqK y a = true := (eqK_iff _ _).2 ((eqK_iff _ _).1 k).symm
      constructor
      · rintro (j | ⟨_, j | j⟩)
        · cases j
        · rw [j]; exact .inl rfl
        · exact absurd k' j.2
      · rintro (j | j)
        · injection j with j
          exact .inr ⟨rfl, .inl j.symm⟩
        · cases j.1
    · rw [fk_neg k]
      have k' : ¬ eqK y a = true := fun k' => k ((eqK_iff _ _).2 ((eqK_iff _ _).1 k').symm)
      constructor
      · rintro (j | ⟨j1, j | j⟩)
        · exact .inl j
        · exact absurd ((eqK_iff a y).2 (by rw [j])) k
        · exact .inr ⟨j1, j.1⟩
      · rintro (j | j)
        · exact .inl j
        · exact .inr ⟨j.1, .inr ⟨j.2, k'⟩⟩
theorem row_strict {l : List E_} (h : isRow l) : strict l := by
  refine List.pairwise_iff_getElem.2 fun i j hi hj hij => ?_
  have := row_lt h.2 (j - i - 1) i (by omega)
  simp only [show i + (j - i - 1) + 1 = j from by omega] at this
  exact this
theorem mgL_spec : ∀ l : List R_, (∀ r ∈ l, isRow r.f0) → strict (mgL l) ∧ ∀ y, y ∈ mgL l ↔ fk (flat l) y = some y
  | [], _ => ⟨List.Pairwise.nil, fun y => by simp [mgL, flat, fk]⟩
  | r :: rs, h => by
    obtain ⟨i1, i2⟩ := mgL_spec rs (fun x hx => h x (List.mem_cons_of_mem _ hx))
    obtain ⟨f1, f2⟩ := foldl_spec r.f0 (mgL rs) i1 (row_strict (h r (List.mem_cons_self ..)))
    refine ⟨f1, fun y => ?_⟩
    show y ∈ r.f0.foldl (putG false) (mgL rs) ↔ _
    rw [f2 y, i2 y]
    show _ ↔ fk (r.f0 ++ flat rs) y = some y
    unfold fk
    rw [List.find?_append]
    cases r.f0.find? (fun x => eqK x y) with
    | none => simp
    | some z => simp
theorem merge_eq {l : List R_} (h : rOk l) : cptL eqK (srt ecmp (flat l)) = mgL l := by
  obtain ⟨a1, a2⟩ := merged_spec (flat l)
  obtain ⟨b1, b2⟩ := mgL_spec l h.2.1
  exact strict_eq a1 b1 fun e => by rw [a2 e, b2 e]
theorem flat_len : ∀ l : List R_, (flat l).length = total l
  | [] => rfl
  | r :: rs => by
    show (r.f0 ++ flat rs).length = _
    rw [List.length_append, flat_len rs]
    rfl
theorem mem_flat {l : List R_} {x : E_} : x ∈ flat l ↔ ∃ r ∈ l, x ∈ r.f0 := by
  unfold flat
  rw [List.mem_flatten]
  constructor
  · rintro ⟨s, hs, hx⟩
    obtain ⟨r, hr, e⟩ := List.mem_map.1 hs
    exact ⟨r, hr, e ▸ hx⟩
  · rintro ⟨r, hr, hx⟩
    exact ⟨_, List.mem_map.2 ⟨r, hr, rfl⟩, hx⟩
theorem joinedC_ev (l : List R_) (hl : l.length ≤ 20) (h : ∀ x ∈ l, x.f0.length ≤ 400) : Ev (fun k => impl_joined.f k l) (flat l) := by
  unfold impl_joined.f
  have key : ∀ i, i ≤ l.length → ∀ out : List E_, out.length ≤ i * 400 → Ev (fun k => impl_joined.l0 k out l (l.length : Int) (i : Int)) (out ++ flat (l.drop i)) := by
    refine downTo l.length ?_ ?_
    · intro out _
      refine Ev.step (fun k => impl_joined.l0.eq_2 ..) ?_
      refine Ev.neg (by omega) ((Ev.now _).eqr ?_)
      rw [List.drop_length]
      simp [flat]
    · intro i hi ih out ho
      have hx := h l[i] (List.getElem_mem hi)
      refine Ev.step (fun k => impl_joined.l0.eq_2 ..) ?_
      rw [rdRn l i hi, wsucc (show i < 4611686018427387904 by omega)]
      refine Ev.pos (by omega) (Ev.pos (by omega) (Ev.pos (by omega) (Ev.pos (by omega) ((ih (out ++ l[i].f0) (by rw [List.length_append]; omega)).eqr ?_))))
      rw [List.drop_eq_getElem_cons hi, List.append_assoc]
      rfl
  have := key 0 (Nat.zero_le _) [] (by simp)
  simpa using this
theorem mergeRuns_ev (l : List R_) (h : ∀ x ∈ l, x.f0.length < 2097152) : Ev (fun k => impl_MergeRuns.f k l) (if rOk l then (mgL l, true) else ([], false)) := by
  unfold impl_MergeRuns.f
  refine Ev.bind (runsOk_ev l h) ?_
  by_cases c : rOk l
  · rw [if_pos c]
    have hl := flat_len l
    have h3 := c.2.2
    refine Ev.pos (decide_eq_true c) (Ev.bind (joinedC_ev l c.1 (fun x hx => (c.2.1 x hx).1)) (Ev.bindS (show impl_merged.f (flat l) = some (mgL l) from ?_) (Ev.now _)))
    unfold impl_merged.f
    rw [if_pos (by omega), merge_eq c]
  · rw [if_neg c]
    exact Ev.neg (by simpa using c) (Ev.now _)
theorem put_ev (l : List E_) (hl : l.length ≤ 1000) (he : ∀ x ∈ l, isEx x) (e : E_) (hx : isEx e) : Ev (fun k => spec_l8Put.f k l e.f0.f0 e.f0.f1 e.f0.f2 e.f1) (putG false l e) := by
  unfold spec_l8Put.f
  have key : ∀ i, i ≤ l.length → ∀ (out : List E_) (done : Bool), out.length ≤ 2 * i → Ev (fun k => spec_l8Put.l0 k l out done (i : Int) e.f0.f0 e.f0.f1 e.f0.f2 e.f1) (out ++ putG done (l.drop i) e) := by
    refine downTo l.length ?_ ?_
    · intro out done ho
      rw [List.drop_length]
      refine Ev.step (fun k => spec_l8Put.l0.eq_2 ..) ?_
      refine Ev.neg (by omega) ?_
      cases done with
      | true => exact Ev.pos rfl ((Ev.now _).eqr (by simp [putG]))
      | false => exact Ev.neg (by simp) (Ev.pos (by omega) ((Ev.now _).eqr (by simp [putG])))
    · intro i hi ih out done ho
      have hc := sKeyCmp_ev l[i].f0.f0 l[i].f0.f1 l[i].f0.f2 e.f0.f0 e.f0.f1 e.f0.f2
      rw [if_pos ⟨(he _ (List.getElem_mem hi)).1, hx.1⟩] at hc
      have hc : Ev (fun k => spec_KeyCmp.f k l[i].f0.f0 l[i].f0.f1 l[i].f0.f2 e.f0.f0 e.f0.f1 e.f0.f2) (ecmp l[i] e) := hc
      rw [List.drop_eq_getElem_cons hi]
      refine Ev.step (fun k => spec_l8Put.l0.eq_2 ..) ?_
      rw [rdE l i hi]
      refine Ev.pos (by omega) (Ev.pos (by omega) (Ev.bind hc ?_))
      have jt : ∀ b : Bool, b = (!done && decide (0 ≤ ecmp l[i] e)) → Ev (fun k => spec_l8Put.j1 k l out done (i : Int) (ecmp l[i] e) b e.f0.f0 e.f0.f1 e.f0.f2 e.f1) (out ++ putG done (l[i] :: l.drop (i + 1)) e) := by
        intro b hb
        rw [putG]
        generalize hci : ecmp l[i] e = c at hb
        refine Ev.step (fun k => spec_l8Put.j1.eq_2 ..) ?_
        rw [rdE l i hi, wsucc (show i < 4611686018427387904 by omega)]
        cases b with
        | true =>
          have hd : done = false ∧ 0 ≤ c := by
            rw [eq_comm, Bool.and_eq_true] at hb
            exact ⟨by simpa using hb.1, by simpa using hb.2⟩
          refine Ev.pos rfl (Ev.pos (by omega) (Ev.bindS rfl ?_))
          rw [if_pos hd, decide_eq_true hd.2, Bool.or_true]
          by_cases c0 : c = 0
          · rw [if_pos c0]
            refine Ev.pos c0 ((ih (out ++ [e]) true (by rw [List.length_append]; simp only [List.length_cons, List.length_nil]; omega)).eqr (by simp))
          · rw [if_neg c0]
            refine Ev.neg c0 (Ev.pos (by omega) (Ev.pos (by omega) (Ev.pos (by rw [List.length_append]; simp only [List.length_cons, List.length_nil]; omega) ((ih ((out ++ [e]) ++ [l[i]]) true (by rw [List.length_append, List.length_append]; simp only [List.length_cons, List.length_nil]; omega)).eqr (by simp)))))
        | false =>
          have hd : ¬ (done = false ∧ 0 ≤ c) := by
            intro k
            rw [k.1, decide_eq_true k.2] at hb
            cases hb
          have hdd : (done || decide (0 ≤ c)) = done := by
            cases done with
            | true => rfl
            | false => exact decide_eq_false (fun k => hd ⟨rfl, k⟩)
          rw [if_neg hd, hdd]
          by_cases c0 : c = 0
          · rw [if_pos c0]
            refine Ev.neg (by simp) (Ev.pos c0 ((ih out done (by omega)).eqr (by simp)))
          · rw [if_neg c0]
            refine Ev.neg (by simp) (Ev.neg c0 (Ev.pos (by omega) (Ev.pos (by omega) (Ev.pos (by omega) ((ih (out ++ [l[i]]) done (by rw [List.length_append]; simp only [List.length_cons, List.length_nil]; omega)).eqr (by simp))))))
      cases done with
      | true => exact Ev.pos rfl (jt false rfl)
      | false => exact Ev.neg (by simp) (jt _ (by simp))
  have := key 0 (Nat.zero_le _) [] false (by simp)
  simpa using this
theorem foldl_len : ∀ (r L0 : List E_), (r.foldl (putG false) L0).length ≤ L0.length + r.length
  | [], L0 => Nat.le_refl _
  | a :: tl, L0 => by
    have h1 := putG_lf a L0
    have h2 := foldl_len tl (putG false L0 a)
    rw [List.foldl_cons, List.length_cons]
    omega
theorem mgL_len : ∀ l : List R_, (mgL l).length ≤ total l
  | [] => Nat.le_refl _
  | r :: rs => by
    have h1 := foldl_len r.f0 (mgL rs)
    have h2 := mgL_len rs
    show (r.f0.foldl (putG false) (mgL rs)).length ≤ r.f0.length + total rs
    omega
theorem total_mono (l : List R_) (i : Nat) : total (l.drop i) ≤ total l := by
  induction l generalizing i with
  | nil => simp
  | cons r rs ih =>
    cases i with
    | zero => exact Nat.le_refl _
    | succ i =>
      rw [List.drop_succ_cons]
      have := ih i
      show _ ≤ r.f0.length + total rs
      omega
theorem l13_ev (l : List R_) (h : rOk l) : Ev (fun k => spec_l13Merge.f k l) (mgL l) := by
  have hex : ∀ x ∈ flat l, isEx x := by
    intro x hx
    obtain ⟨r, hr, hxr⟩ := mem_flat.1 hx
    obtain ⟨j, hj, rfl⟩ := List.getElem_of_mem hxr
    exact ((h.2.1 r hr).2 j (Nat.zero_le _) hj).1
  have memM : ∀ (L : List R_), (∀ r ∈ L, r ∈ l) → ∀ y ∈ mgL L, isEx y := by
    intro L hL y hy
    have hok : ∀ r ∈ L, isRow r.f0 := fun r hr => h.2.1 r (hL r hr)
    have := ((mgL_spec L hok).2 y).1 hy
    have := List.mem_of_find?_eq_some this
    obtain ⟨r, hr, hyr⟩ := mem_flat.1 this
    exact hex y (mem_flat.2 ⟨r, hL r hr, hyr⟩)
  unfold spec_l13Merge.f
  have key : ∀ m, m ≤ l.length → Ev (fun k => spec_l13Merge.l0 k l (mgL (l.drop m)) ((m : Int) - 1)) (mgL l) := by
    intro m
    induction m with
    | zero =>
      intro _
      refine Ev.step (fun k => spec_l13Merge.l0.eq_2 ..) ?_
      exact Ev.neg (by omega) (Ev.now _)
    | succ m ih =>
      intro hm
      have ih := ih (by omega)
      have hrow := h.2.1 l[m] (List.getElem_mem _)
      have hlen := h.1
      rw [show (((m + 1 : Nat) : Int) - 1) = (m : Int) from by omega]
      refine Ev.step (fun k => spec_l13Merge.l0.eq_2 ..) ?_
      refine Ev.pos (by omega) ?_
      have inner : ∀ j, j ≤ l[m].f0.length → Ev (fun k => spec_l13Merge.l1 k l ((l[m].f0.take j).foldl (putG false) (mgL (l.drop (m + 1)))) (m : Int) (j : Int)) (mgL l) := by
        refine downTo l[m].f0.length ?_ ?_
        · refine Ev.step (fun k => spec_l13Merge.l1.eq_2 ..) ?_
          rw [rdRn l m (by omega), wid (x := (m : Int) - 1) (by omega) (by omega), List.take_length]
          refine Ev.pos (by omega) (Ev.pos (by omega) (Ev.neg (by omega) ?_))
          rw [List.drop_eq_getElem_cons (show m < l.length by omega)] at ih
          exact ih
        · intro j hj ihj
          refine Ev.step (fun k => spec_l13Merge.l1.eq_2 ..) ?_
          rw [rdRn l m (by omega), rdE _ j hj, wsucc (show j < 4611686018427387904 by have := hrow.1; omega)]
          have hL : ((l[m].f0.take j).foldl (putG false) (mgL (l.drop (m + 1)))).length ≤ 1000 := by
            have h1 := foldl_len (l[m].f0.take j) (mgL (l.drop (m + 1)))
            have h2 := mgL_len (l.drop (m + 1))
            have h3 := total_mono l (m + 1)
            have h4 := h.2.2
            have h5 := hrow.1
            rw [List.length_take] at h1
            omega
          have hX : ∀ y ∈ (l[m].f0.take j).foldl (putG false) (mgL (l.drop (m + 1))), isEx y := by
            intro y hy
            have hst : strict (l[m].f0.take j) := (row_strict hrow).sublist (List.take_sublist _ _)
            have hdr : ∀ r ∈ l.drop (m + 1), r ∈ l := fun r hr => List.mem_of_mem_drop hr
            rcases ((foldl_spec _ _ ((mgL_spec _ (fun r hr => h.2.1 r (hdr r hr))).1) hst).2 y).1 hy with k | k
            · exact hex y (mem_flat.2 ⟨l[m], List.getElem_mem _, List.mem_of_mem_take (List.mem_of_find?_eq_some k)⟩)
            · exact memM _ hdr y k.2
          refine Ev.pos (by omega) (Ev.pos (by omega) (Ev.pos (by omega) (Ev.pos (by omega) (Ev.bind (put_ev _ hL hX l[m].f0[j] (hex _ (mem_flat.2 ⟨l[m], List.getElem_mem _, List.getElem_mem _⟩))) ?_))))
          rw [List.take_succ_eq_append_getElem hj, List.foldl_append] at ihj
          exact ihj
      have := inner 0 (Nat.zero_le _)
      simpa using this
  have hlen := h.1
  rw [wid (x := (l.length : Int) - 1) (by omega) (by omega)]
  have := key l.length (Nat.le_refl _)
  rw [List.drop_length] at this
  exact this
theorem sMergeRuns_ev (l : List R_) (h : ∀ x ∈ l, x.f0.length < 2097152) : Ev (fun k => spec_MergeRuns.f k l) (if rOk l then (mgL l, true) else ([], false)) := by
  unfold spec_MergeRuns.f
  refine Ev.bind (sRunsOk_ev l h) ?_
  by_cases c : rOk l
  · rw [if_pos c]
    exact Ev.pos (decide_eq_true c) (Ev.bind (l13_ev l c) (Ev.now _))
  · rw [if_neg c]
    exact Ev.neg (by simpa using c) (Ev.now _)
end Go.Proofs.Ytidjdkodgddfcaa.Pure
end

section
namespace Go.Proofs.Ytidjdkodgddfcaa.Pure
open Go.RowKit Go.Proofs.YtidjdkodgddfcaaW.PrintWords Go.Proofs.YtidjdkodgddfcaaW.PrintLast Go.Proofs.YtidjdkodgddfcaaW.PrintMore
open Go.Proofs.Ytidjdkodgddfcaa.P
set_option linter.unusedVariables false
set_option linter.unusedSimpArgs false
theorem byteOk {l : List Int} (h1 : l.length ≤ 1048576) (h2 : ∀ x ∈ l, (Lit.int .u8 x).wf = true) : okc l := by
  refine ⟨by omega, fun x hx => ?_⟩
  have := h2 x hx
  simpa [Lit.wf, IntKind.min, IntKind.max, IntKind.signed, IntKind.bits] using this
theorem okp0 (l : List Int) : okp l 0 := ⟨by omega, by omega⟩
theorem druns_ev {l : List Int} (h : okc l) : ∃ r, Ev (fun k => spec_DrawMergeRuns.f k l) r ∧ ∀ x ∈ r, x.f0.length ≤ 7 := by
  obtain ⟨b, hb, hb1, hb2⟩ := below_ev h (okp0 l) 5 (by omega)
  have key : ∀ (j : Nat) (acc : List R_) (p : Int), acc.length + j ≤ 4 → okp l p → (∀ x ∈ acc, x.f0.length ≤ 7) → ∃ r, Ev (fun k => spec_l1Rd_runs.l0 k acc (j : Int) l p) r ∧ ∀ x ∈ r.1, x.f0.length ≤ 7 := by
    intro j
    induction j with
    | zero => exact fun acc p _ _ ha => ⟨_, Ev.step (fun k => spec_l1Rd_runs.l0.eq_2 ..) (Ev.neg (by omega) (Ev.now _)), ha⟩
    | succ j ih =>
      intro acc p hl hp ha
      obtain ⟨e, he, he1, he2⟩ := dentries_ev h hp 6 (by omega) (by omega)
      obtain ⟨r, hr, hr1⟩ := ih (acc ++ [⟨e.1⟩]) e.2 (by rw [List.length_append]; simp only [List.length_cons, List.length_nil]; omega) he2 (fun x hx => by
        rcases List.mem_append.1 hx with hx | hx
        · exact ha x hx
        · rw [List.mem_singleton.1 hx]
          show e.1.length ≤ 7
          omega)
      refine ⟨r, Ev.step (fun k => spec_l1Rd_runs.l0.eq_2 ..) (Ev.pos (by omega) (Ev.bind he (Ev.pos (by omega) ?_))), hr1⟩
      rw [show wrap64 (((j + 1 : Nat) : Int) - 1) = (j : Int) from by rw [wid (by omega) (by omega)]; omega]
      exact hr
  obtain ⟨r, hr, hr1⟩ := key b.1.toNat [] b.2 (by simp; omega) hb2 (fun x hx => by cases hx)
  refine ⟨r.1, ?_, hr1⟩
  unfold spec_DrawMergeRuns.f spec_l1Rd_runs.f
  rw [Int.toNat_of_nonneg hb1.1] at hr
  exact Ev.bindS rfl (Ev.bind (Ev.bindS (show spec_l1Rd_below.f l 0 (wrap64 (4 + 1)) = some b by rw [show wrap64 (4 + 1) = 5 from wid (by omega) (by omega)]; exact hb) hr) (Ev.now _))
theorem fk_some {l : List E_} {e z : E_} (h : fk l e = some z) : z.f0 = e.f0 ∧ z ∈ l := ⟨(eqK_iff _ _).1 (List.find?_some (p := fun x => eqK x e) h), List.mem_of_find?_eq_some h⟩
theorem fk_none {l : List E_} {e : E_} (h : fk l e = none) : ∀ x ∈ l, ¬ eqK x e = true := fun x hx => by simpa using List.find?_eq_none.1 h x hx
theorem fk_key {y z : E_} (h : y.f0 = z.f0) (l : List E_) : fk l y = fk l z := by
  unfold fk
  congr 1
  funext x
  unfold eqK
  rw [h]
theorem strict_uniq {l : List E_} (h : strict l) {x y : E_} (hx : x ∈ l) (hy : y ∈ l) (e : x.f0 = y.f0) : x = y := by
  obtain ⟨i, hi, rfl⟩ := List.getElem_of_mem hx
  obtain ⟨j, hj, rfl⟩ := List.getElem_of_mem hy
  have hp := List.pairwise_iff_getElem.1 h
  rcases Nat.lt_trichotomy i j with c | c | c
  · exact absurd ((eqK_iff _ _).2 e) (lt_ne (hp i j hi hj c))
  · subst c; rfl
  · exact absurd ((eqK_iff _ _).2 e.symm) (lt_ne (hp j i hj hi c))
theorem mg_ex {rs : List R_} (h : rOk rs) : ∀ y ∈ mgL rs, isEx y := by
  intro y hy
  have := List.mem_of_find?_eq_some (((mgL_spec rs h.2.1).2 y).1 hy)
  obtain ⟨r, hr, hyr⟩ := mem_flat.1 this
  obtain ⟨j, hj, rfl⟩ := List.getElem_of_mem hyr
  exact ((h.2.1 r hr).2 j (Nat.zero_le _) hj).1
theorem mg_row {rs : List R_} (h : rOk rs) : isRow (mgL rs) :=
  ⟨Nat.le_trans (mgL_len rs) h.2.2, fun j _ hj => ⟨mg_ex h _ (List.getElem_mem _), fun hp => List.pairwise_iff_getElem.1 (mgL_spec rs h.2.1).1 (j - 1) j (by omega) hj (by omega)⟩⟩
theorem mg_twice {rs : List R_} (h : rOk rs) (h2 : 2 * (mgL rs).length ≤ 400) : rOk [⟨mgL rs⟩, ⟨mgL rs⟩] ∧ mgL [⟨mgL rs⟩, ⟨mgL rs⟩] = mgL rs := by
  have hr := mg_row h
  have hok : rOk [⟨mgL rs⟩, ⟨mgL rs⟩] := by
    refine ⟨by simp, fun x hx => ?_, ?_⟩
    · simp only [List.mem_cons, List.not_mem_nil, or_false, or_self] at hx
      rw [hx]; exact hr
    · show (mgL rs).length + ((mgL rs).length + 0) ≤ 400
      omega
  refine ⟨hok, strict_eq (mgL_spec _ hok.2.1).1 (row_strict hr) fun e => ?_⟩
  rw [(mgL_spec _ hok.2.1).2 e]
  show fk (mgL rs ++ (mgL rs ++ [])) e = some e ↔ _
  constructor
  · intro he
    have := List.mem_of_find?_eq_some he
    simpa using this
  · intro he
    unfold fk
    rw [List.find?_append]
    cases hf : (mgL rs).find? (fun x => eqK x e) with
    | none => exact absurd ((eqK_iff e e).2 rfl) (by simpa using List.find?_eq_none.1 hf e he)
    | some z =>
      have hz := List.find?_some hf
      have := strict_uniq (row_strict hr) (List.mem_of_find?_eq_some hf) he ((eqK_iff _ _).1 hz)
      rw [this]
      rfl
theorem bsc_at {L : List E_} (h : strict L) (y : E_) (j : Nat) (hj : j < L.length) (e : L[j].f0 = y.f0) : bsc L y = j := by
  refine findIdx_at _ z64 L j (Nat.le_of_lt hj) (fun t ht => decide_eq_false ?_) (fun h2 => decide_eq_true ?_)
  · rw [getD_at L t _ (by omega), ← ecmp_r e]
    have := List.pairwise_iff_getElem.1 h t j (by omega) hj ht
    omega
  · rw [getD_at L j _ hj, ← ecmp_r e]
    have := ecmp_ord.irrefl L[j]
    omega
theorem FnMerged : laws_FnMerged.Pure := by
  intro l _ _ hb
  refine Ev.rounds (g := fun k => laws_FnMerged.f k l) ?_
  unfold laws_FnMerged.f
  refine Ev.bindS (a := decide ((l.length : Int) > 1048576)) rfl ?_
  by_cases big : (l.length : Int) > 1048576
  · exact Ev.pos (decide_eq_true big) (Ev.now _)
  have hc := byteOk (l := l) (by omega) hb
  refine Ev.neg (by simpa using big) ?_
  obtain ⟨rs, hd, hd1⟩ := druns_ev hc
  have hlen : ∀ x ∈ rs, x.f0.length < 2097152 := fun x hx => by have := hd1 x hx; omega
  have hi := mergeRuns_ev rs hlen
  have hs := sMergeRuns_ev rs hlen
  have ho := runsOk_ev rs hlen
  refine Ev.bind hd (Ev.bind hi (Ev.bind hs (Ev.neg (by simp) ?_)))
  by_cases c : rOk rs
  case neg =>
    rw [if_neg c]
    refine Ev.bind (sameEntries_self [] (by simp)) (Ev.pos rfl (Ev.bind ho ?_))
    rw [decide_eq_false c]
    refine Ev.step (fun k => laws_FnMerged.j0.eq_2 ..) ?_
    exact Ev.neg (by decide) (Ev.neg (by decide) (Ev.now _))
  rw [if_pos c]
  have hrow := mg_row c
  have hml := mgL_len rs
  have h400 := c.2.2
  have h20 := c.1
  obtain ⟨hst, hmem⟩ := mgL_spec rs c.2.1
  refine Ev.bind (sameEntries_self (mgL rs) (by omega)) (Ev.pos rfl (Ev.bind ho ?_))
  rw [decide_eq_true c]
  refine Ev.step (fun k => laws_FnMerged.j0.eq_2 ..) ?_
  refine Ev.neg (by simp) (Ev.pos rfl ?_)
  have hseek : ∀ a (ha : a < rs.length) j (hj : j < rs[a].f0.length), ∃ t, ∃ ht : t < (mgL rs).length, (mgL rs)[t].f0 = (rs[a].f0[j]).f0 ∧ Ev (fun k => impl_SeekEntry.f k (mgL rs) rs[a].f0[j].f0.f0 rs[a].f0[j].f0.f1 rs[a].f0[j].f0.f2) (t : Int) := by
    intro a ha j hj
    have hin : rs[a].f0[j] ∈ flat rs := mem_flat.2 ⟨rs[a], List.getElem_mem _, List.getElem_mem _⟩
    have hex : isEx rs[a].f0[j] := ((c.2.1 rs[a] (List.getElem_mem _)).2 j (Nat.zero_le _) hj).1
    cases hf : fk (flat rs) rs[a].f0[j] with
    | none => exact absurd ((eqK_iff _ _).2 rfl) (fk_none hf _ hin)
    | some z =>
      have hz := (fk_some hf).1
      have hzm : z ∈ mgL rs := (hmem z).2 (by rw [fk_key hz]; exact hf)
      obtain ⟨t, ht, rfl⟩ := List.getElem_of_mem hzm
      refine ⟨t, ht, hz, (seek_ev (mgL rs) (by omega) _ _ _).eqr ?_⟩
      unfold seekV
      rw [if_pos ⟨hrow, hex.1⟩, bsc_at hst ⟨⟨rs[a].f0[j].f0.f0, rs[a].f0[j].f0.f1, rs[a].f0[j].f0.f2⟩, ⟨#[]⟩⟩ t ht hz]
  have last : ∀ n : Nat, n = total rs → Ev (fun k => (impl_MergeRuns.f k (([(⟨mgL rs⟩ : R_), (⟨mgL rs⟩ : R_)] : List R_))).bind fun bt125 => ((impl_EntriesOk.f k (mgL rs)).bind fun t129 => (if t129 = true then (if (n : Int) ≥ ((mgL rs).length : Int) then (if bt125.2 = true then ((laws_sameEntries.f k bt125.1 (mgL rs)).bind fun t130 => (some t130)) else (if (wrap64 (2 * ((mgL rs).length : Int))) > 400 then (some true) else (some false))) else (some false)) else (some false)))) true := by
    intro n hn
    refine Ev.bind (mergeRuns_ev [⟨mgL rs⟩, ⟨mgL rs⟩] (fun x hx => ?_)) (Ev.bind (entriesOk_ev _ (by omega)) (Ev.pos (decide_eq_true hrow) (Ev.pos (by omega) ?_)))
    · simp only [List.mem_cons, List.not_mem_nil, or_false, or_self] at hx
      rw [hx]
      show (mgL rs).length < _
      omega
    by_cases c2 : 2 * (mgL rs).length ≤ 400
    · obtain ⟨k1, k2⟩ := mg_twice c c2
      rw [if_pos k1, k2]
      exact Ev.pos rfl (Ev.bind (sameEntries_self (mgL rs) (by omega)) (Ev.now _))
    · rw [if_neg (fun k => c2 (by have := k.2.2; simp only [total] at this; omega))]
      exact Ev.neg (by decide) (Ev.pos (by rw [wid (by omega) (by omega)]; omega) (Ev.now _))
  have third : ∀ a, a ≤ rs.length → ∀ n : Nat, n + total (rs.drop a) = total rs → Ev (fun k => laws_FnMerged.l3 k rs (mgL rs) (n : Int) (a : Int)) true := by
    refine downTo rs.length ?_ ?_
    · intro n hn
      rw [List.drop_length] at hn
      refine Ev.step (fun k => laws_FnMerged.l3.eq_2 ..) ?_
      exact Ev.neg (by omega) (last n (by simpa [total] using hn))
    · intro a ha ih n hn
      rw [total_drop rs a ha] at hn
      have hra := (c.2.1 rs[a] (List.getElem_mem _)).1
      refine Ev.step (fun k => laws_FnMerged.l3.eq_2 ..) ?_
      refine Ev.pos (by omega) ?_
      have inn : ∀ j, j ≤ rs[a].f0.length → ∀ m : Nat, m + (rs[a].f0.length - j) + total (rs.drop (a + 1)) = total rs → Ev (fun k => laws_FnMerged.l4 k rs (mgL rs) (m : Int) (a : Int) (j : Int)) true := by
        refine downTo rs[a].f0.length ?_ ?_
        · intro m hm
          refine Ev.step (fun k => laws_FnMerged.l4.eq_2 ..) ?_
          rw [rdRn rs a ha, wsucc (show a < 4611686018427387904 by omega)]
          exact Ev.pos (by omega) (Ev.pos (by omega) (Ev.neg (by omega) (ih m (by omega))))
        · intro j hj ihj m hm
          obtain ⟨t, ht, hk, hev⟩ := hseek a ha j hj
          refine Ev.step (fun k => laws_FnMerged.l4.eq_2 ..) ?_
          rw [rdRn rs a ha, rdE _ j hj, wsucc (show j < 4611686018427387904 by omega), wsucc (show m < 4611686018427387904 by omega)]
          refine Ev.pos (by omega) (Ev.pos (by omega) (Ev.pos (by omega) (Ev.pos (by omega) (Ev.bind hev (Ev.neg (by omega) (Ev.pos (by omega) (Ev.pos (by omega) ?_)))))))
          rw [rdE _ t ht, hk]
          exact Ev.neg (by simp) (ihj (m + 1) (by omega))
      exact inn 0 (Nat.zero_le _) n (by omega)
  have first : ∀ i, i ≤ (mgL rs).length → Ev (fun k => laws_FnMerged.l0 k rs (mgL rs) 0 (i : Int)) true := by
    refine downTo (mgL rs).length ?_ ?_
    · refine Ev.step (fun k => laws_FnMerged.l0.eq_2 ..) ?_
      exact Ev.neg (by omega) (third 0 (Nat.zero_le _) 0 (by simp))
    · intro i hi ih
      have hy := (hmem (mgL rs)[i]).1 (List.getElem_mem _)
      refine Ev.step (fun k => laws_FnMerged.l0.eq_2 ..) ?_
      refine Ev.pos (by omega) ?_
      have found : ∀ a : Nat, Ev (fun k => laws_FnMerged.l1 k rs (mgL rs) 0 (i : Int) true (a : Int)) true := by
        intro a
        have fin : ∀ b : Bool, b = false → Ev (fun k => laws_FnMerged.j3 k rs (mgL rs) 0 (i : Int) true (a : Int) b) true := by
          intro b hb
          refine Ev.step (fun k => laws_FnMerged.j3.eq_2 ..) ?_
          rw [hb, wsucc (show i < 4611686018427387904 by omega)]
          exact Ev.neg (by decide) (Ev.pos rfl ih)
        refine Ev.step (fun k => laws_FnMerged.l1.eq_2 ..) ?_
        by_cases ca : (a : Int) < (rs.length : Int)
        · exact Ev.pos ca (fin _ rfl)
        · exact Ev.neg ca (fin _ rfl)
      have look : ∀ a, a ≤ rs.length → fk (flat (rs.drop a)) (mgL rs)[i] = some (mgL rs)[i] → Ev (fun k => laws_FnMerged.l1 k rs (mgL rs) 0 (i : Int) false (a : Int)) true := by
        refine downTo rs.length ?_ ?_
        · intro h
          rw [List.drop_length] at h
          exact absurd h (by simp [flat, fk])
        · intro a ha iha h
          rw [List.drop_eq_getElem_cons ha] at h
          have hra := (c.2.1 rs[a] (List.getElem_mem _))
          have hra1 := hra.1
          have hfl : fk (flat (rs[a] :: rs.drop (a + 1))) (mgL rs)[i] = (fk rs[a].f0 (mgL rs)[i]).or (fk (flat (rs.drop (a + 1))) (mgL rs)[i]) := by
            show fk (rs[a].f0 ++ flat (rs.drop (a + 1))) _ = _
            unfold fk
            rw [List.find?_append]
          rw [hfl] at h
          have same : ∀ j (hj : j < rs[a].f0.length), eqK rs[a].f0[j] (mgL rs)[i] = true → rs[a].f0[j] = (mgL rs)[i] := by
            intro j hj hk
            cases hf : fk rs[a].f0 (mgL rs)[i] with
            | none => exact absurd hk (fk_none hf _ (List.getElem_mem hj))
            | some z =>
              rw [hf] at h
              have hz : z = (mgL rs)[i] := by simpa using h
              have := (fk_some hf).2
              rw [hz] at this
              exact strict_uniq (row_strict hra) (List.getElem_mem _) this ((eqK_iff _ _).1 hk)
          refine Ev.step (fun k => laws_FnMerged.l1.eq_2 ..) ?_
          refine Ev.pos (by omega) ?_
          refine Ev.step (fun k => laws_FnMerged.j3.eq_2 ..) ?_
          refine Ev.pos rfl ?_
          have inn : ∀ j, j ≤ rs[a].f0.length → ∀ b : Bool, b = (rs[a].f0.take j).any (fun x => eqK x (mgL rs)[i]) → Ev (fun k => laws_FnMerged.l2 k rs (mgL rs) 0 (i : Int) b (a : Int) (j : Int)) true := by
            refine downTo rs[a].f0.length ?_ ?_
            · intro b hb
              rw [List.take_length] at hb
              refine Ev.step (fun k => laws_FnMerged.l2.eq_2 ..) ?_
              rw [rdRn rs a ha, wsucc (show a < 4611686018427387904 by omega)]
              refine Ev.pos (by omega) (Ev.pos (by omega) (Ev.neg (by omega) ?_))
              cases b with
              | true => exact found (a + 1)
              | false =>
                refine iha ?_
                have hn : fk rs[a].f0 (mgL rs)[i] = none := by
                  unfold fk
                  rw [List.find?_eq_none]
                  exact fun x hx hk => by
                    have := List.any_eq_false.1 hb.symm x hx
                    exact this hk
                rw [hn] at h
                simpa using h
            · intro j hj ihj b hb
              have hb2 : (rs[a].f0.take (j + 1)).any (fun x => eqK x (mgL rs)[i]) = (b || eqK rs[a].f0[j] (mgL rs)[i]) := by
                rw [List.take_succ_eq_append_getElem hj, List.any_append, ← hb]
                simp
              refine Ev.step (fun k => laws_FnMerged.l2.eq_2 ..) ?_
              rw [rdRn rs a ha, rdE _ j hj, rdE _ i hi, wsucc (show j < 4611686018427387904 by omega)]
              refine Ev.pos (by omega) (Ev.pos (by omega) (Ev.pos (by omega) (Ev.pos (by omega) (Ev.pos (by omega) (Ev.pos (by omega) ?_)))))
              by_cases hk : eqK rs[a].f0[j] (mgL rs)[i] = true
              · have e := same j hj hk
                refine Ev.pos hk (Ev.neg (by rw [e]; simp) (ihj true ?_))
                rw [hb2, hk, Bool.or_true]
              · refine Ev.neg hk (ihj b ?_)
                rw [hb2]
                simp only [Bool.not_eq_true] at hk
                rw [hk, Bool.or_false]
          exact inn 0 (Nat.zero_le _) false (by simp)
      exact look 0 (Nat.zero_le _) hy
  exact first 0 (Nat.zero_le _)
end Go.Proofs.Ytidjdkodgddfcaa.Pure
end
