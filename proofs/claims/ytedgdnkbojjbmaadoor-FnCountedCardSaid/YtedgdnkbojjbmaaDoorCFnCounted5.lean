/- Proved: the law FnCounted of the given program returns true for every input of its Go types and leaves each argument as it was; no condition. (Part 6 of 8.) -/
import Derived.Test.YtedgdnkbojjbmaaDoorCFnCounted3
import Derived.Test.YtedgdnkbojjbmaaDoorCFnCounted4
import Derived.Lib.EndianBits
section
namespace Go.Proofs.YtedgdnkbojjbmaaDoor.P
open Go.RowKit Go.Proofs.YtedgdnkbojjbmaaDoorW.PrintWords Go.Proofs.YtedgdnkbojjbmaaDoorW.PrintLast Go.Proofs.YtedgdnkbojjbmaaDoorW.PrintMore
attribute [local go_sem] str_gtr str_leq str_geq max2_int min2_int max_two min_two max_three min_three max_four min_four
set_option linter.unusedVariables false
set_option linter.unusedSimpArgs false
def okc (l : List Int) : Prop := l.length ≤ 1048576 ∧ ∀ x ∈ l, 0 ≤ x ∧ x ≤ 255
def okp (l : List Int) (p : Int) : Prop := 0 ≤ p ∧ p ≤ (l.length : Int)
theorem okc_rd {l : List Int} (h : okc l) (i : Int) : 0 ≤ rd l i ∧ rd l i ≤ 255 := by
  unfold rd
  rw [List.getD_eq_getElem?_getD]
  by_cases c : i.toNat < l.length
  · rw [List.getElem?_eq_getElem c]
    exact h.2 _ (List.getElem_mem c)
  · rw [List.getElem?_eq_none (by omega)]
    simp
theorem next_ev {l : List Int} {p : Int} (h : okc l) (hp : okp l p) : ∃ r, spec_l1Rd_next.f l p = some r ∧ (0 ≤ r.1 ∧ r.1 ≤ 255) ∧ okp l r.2 := by
  obtain ⟨h1, h2⟩ := hp
  have hl := h.1
  unfold spec_l1Rd_next.f
  by_cases c : p ≥ (l.length : Int)
  · exact ⟨_, if_pos c, by simp, h1, h2⟩
  · have e1 : wrap64 (p + 1) = p + 1 := wid (by omega) (by omega)
    have e2 : wrap64 (p + 1 - 1) = p := by rw [wid (by omega) (by omega)]; omega
    obtain ⟨r0, r1⟩ := okc_rd h p
    rw [if_neg c, e1, e2, if_pos h1, if_pos (by omega)]
    refine ⟨_, rfl, ?_, ?_⟩
    · show 0 ≤ wrap64 (rd l p) ∧ wrap64 (rd l p) ≤ 255
      rw [wid (by omega) (by omega)]
      exact ⟨r0, r1⟩
    · exact ⟨by show 0 ≤ p + 1; omega, by show p + 1 ≤ _; omega⟩
theorem below_ev {l : List Int} {p : Int} (h : okc l) (hp : okp l p) (n : Int) (hn : 1 ≤ n) : ∃ r, spec_l1Rd_below.f l p n = some r ∧ (0 ≤ r.1 ∧ r.1 < n) ∧ okp l r.2 := by
  unfold spec_l1Rd_below.f
  by_cases c : n ≤ 1
  · exact ⟨_, if_pos c, ⟨by simp, by show (0 : Int) < n; omega⟩, hp⟩
  · rw [if_neg c]
    obtain ⟨a, ha, ha1, ha2⟩ := next_ev h hp
    by_cases c2 : n ≤ 256
    · rw [if_pos c2, ha]
      refine ⟨(Int.tmod a.1 n, a.2), by rw [Option.bind_some, if_neg (by omega)], ?_, ha2⟩
      show 0 ≤ Int.tmod a.1 n ∧ Int.tmod a.1 n < n
      rw [Int.tmod_eq_emod_of_nonneg ha1.1]
      exact ⟨Int.emod_nonneg _ (by omega), Int.emod_lt_of_pos _ (by omega)⟩
    · obtain ⟨b, hb, hb1, hb2⟩ := next_ev h ha2
      rw [if_neg c2, ha, Option.bind_some, hb, Option.bind_some, if_neg (by omega)]
      refine ⟨_, rfl, ?_, hb2⟩
      show 0 ≤ Int.tmod (wrap64 (wrap64 (a.1 * 256) + b.1)) n ∧ Int.tmod (wrap64 (wrap64 (a.1 * 256) + b.1)) n < n
      rw [wid (x := a.1 * 256) (by omega) (by omega), wid (by omega) (by omega), Int.tmod_eq_emod_of_nonneg (by omega)]
      exact ⟨Int.emod_nonneg _ (by omega), Int.emod_lt_of_pos _ (by omega)⟩
theorem once_ev {l : List Int} {p : Int} (h : okc l) (hp : okp l p) (n : Int) (hn : 1 ≤ n) : ∃ r, spec_l1Rd_once.f l p n = some r ∧ okp l r.2 := by
  obtain ⟨a, ha, _, ha2⟩ := below_ev h hp n hn
  unfold spec_l1Rd_once.f
  rw [ha]
  exact ⟨_, rfl, ha2⟩
theorem bytes_ev {l : List Int} {p : Int} (h : okc l) (hp : okp l p) (n : Int) (hn : 0 ≤ n) (hn2 : n ≤ 1000000) : ∃ r, Ev (fun k => spec_l1Rd_bytes.f k l p n) r ∧ (r.1.size : Int) ≤ n ∧ okp l r.2 := by
  have key : ∀ (i : Nat) (acc : List Int) (p : Int), (acc.length : Int) + i ≤ 1000000 → okp l p → ∃ r, Ev (fun k => spec_l1Rd_bytes.l0 k acc (i : Int) l p) r ∧ r.1.size = acc.length + i ∧ okp l r.2 := by
    intro i
    induction i with
    | zero =>
      intro acc p ha hp
      refine ⟨(strOfNums acc, p), Ev.step (fun k => spec_l1Rd_bytes.l0.eq_2 ..) (Ev.neg (by omega) (Ev.now _)), ?_, hp⟩
      show (strOfNums acc).size = acc.length + 0
      unfold strOfNums
      simp [ByteArray.size]
    | succ i ih =>
      intro acc p ha hp
      obtain ⟨a, ha', _, ha2⟩ := below_ev h hp 256 (by omega)
      obtain ⟨r, hr, hr1, hr2⟩ := ih (acc ++ [a.1 % 256]) a.2 (by simp only [List.length_append, List.length_cons, List.length_nil]; omega) ha2
      refine ⟨r, Ev.step (fun k => spec_l1Rd_bytes.l0.eq_2 ..) (Ev.pos (by omega) (Ev.bindS ha' (Ev.pos (by omega) ?_))), ?_, hr2⟩
      · rw [wid (by omega) (by omega), show (((i + 1 : Nat) : Int) - 1) = (i : Int) from by omega]
        exact hr
      · rw [hr1, List.length_append]
        simp only [List.length_cons, List.length_nil]
        omega
  obtain ⟨a, ha, ha1, ha2⟩ := below_ev h hp (n + 1) (by omega)
  obtain ⟨r, hr, hr1, hr2⟩ := key a.1.toNat [] a.2 (by simp; omega) ha2
  refine ⟨r, ?_, ?_, hr2⟩
  · unfold spec_l1Rd_bytes.f
    rw [wid (by omega) (by omega)]
    refine Ev.bindS ha ?_
    rw [show ((a.1.toNat : Nat) : Int) = a.1 from by omega] at hr
    exact hr
  · rw [hr1]
    simp only [List.length_nil]
    omega
theorem dtext_ev {l : List Int} {p : Int} (h : okc l) (hp : okp l p) : ∃ r, spec_l1Rd_text.f l p = some r ∧ (r.1.size ≤ 4) ∧ okp l r.2 := by
  obtain ⟨a, ha, ha1, ha2⟩ := below_ev h hp 12 (by omega)
  unfold spec_l1Rd_text.f
  rw [Option.bind_some, ha, Option.bind_some, if_pos ha1.1, if_pos (by simp only [List.length_cons, List.length_nil]; omega)]
  refine ⟨_, rfl, ?_, ha2⟩
  obtain ⟨m, hm⟩ : ∃ m : Nat, a.1 = m := ⟨a.1.toNat, by omega⟩
  have hlt : m < 12 := by omega
  simp only [hm]
  clear hm ha1 ha ha2
  revert m
  unfold rdOf
  simp only [Int.toNat_natCast]
  decide +kernel
theorem duser_ev {l : List Int} {p : Int} (h : okc l) (hp : okp l p) : ∃ r, spec_l1Rd_user.f l p = some r ∧ (isU r.1) ∧ okp l r.2 := by
  obtain ⟨a, ha, ha1, ha2⟩ := below_ev h hp 10 (by omega)
  unfold spec_l1Rd_user.f
  rw [Option.bind_some, ha, Option.bind_some, if_pos ha1.1, if_pos (by simp only [List.length_cons, List.length_nil]; omega)]
  refine ⟨_, rfl, ?_, ha2⟩
  obtain ⟨m, hm⟩ : ∃ m : Nat, a.1 = m := ⟨a.1.toNat, by omega⟩
  have hlt : m < 10 := by omega
  simp only [hm]
  clear hm ha1 ha ha2
  revert m
  unfold rdOf
  simp only [Int.toNat_natCast]
  decide +kernel
end Go.Proofs.YtedgdnkbojjbmaaDoor.P
end

section
namespace Go.Proofs.YtedgdnkbojjbmaaDoor.Pure
open Go.RowKit Go.Proofs.YtedgdnkbojjbmaaDoorW.PrintWords Go.Proofs.YtedgdnkbojjbmaaDoorW.PrintLast Go.Proofs.YtedgdnkbojjbmaaDoorW.PrintMore
open Go.Proofs.YtedgdnkbojjbmaaDoor.P
set_option linter.unusedVariables false
set_option linter.unusedSimpArgs false
theorem hll_bytes (l : List Int) (h : ∀ x ∈ l, 0 ≤ x ∧ x < 256) : bytesOf (strOfNums l) = l := by
  unfold bytesOf strOfNums
  simp only [List.map_map]
  apply List.ext_getElem?
  intro i
  simp only [List.getElem?_map]
  cases hq : l[i]? with
  | none => rfl
  | some x =>
    have := h x (List.mem_of_getElem? hq)
    simp only [Option.map_some, Function.comp_apply, Option.some.injEq]
    rw [UInt8.toNat_ofNat']
    omega
theorem hb64 (o : BinOp) (a b : Int) : 0 ≤ Go.bits o .u64 a b ∧ Go.bits o .u64 a b ≤ 18446744073709551615 := by
  unfold Go.bits
  simp only [IntKind.wrap_u64]
  omega
theorem hash2_ev (a : Int) (t : ByteArray) (ht : t.size ≤ 1000000) : ∃ r : Nat, r < 18446744073709551616 ∧ Ev (fun k => impl_Hash.f k a t) (r : Int) ∧ Ev (fun k => spec_Hash.f k a t) (r : Int) := by
  have bn : ∀ o x y, ∃ r : Nat, r < 18446744073709551616 ∧ Go.bits o .u64 x y = (r : Int) := fun o x y => by
    obtain ⟨h1, h2⟩ := hb64 o x y
    exact ⟨(Go.bits o .u64 x y).toNat, by omega, by omega⟩
  have key : ∀ i, i ≤ t.size → ∀ h : Int, ∃ r : Nat, r < 18446744073709551616 ∧ Ev (fun k => impl_Hash.l0 k t h (t.size : Int) (i : Int)) (r : Int) ∧ Ev (fun k => spec_Hash.l0 k t h (i : Int)) (r : Int) := by
    refine downTo t.size ?_ ?_
    · intro h
      obtain ⟨r, hr, he⟩ := bn .xor (IntKind.u64.wrap ((Go.bits .xor .u64 (IntKind.u64.wrap ((Go.bits .xor .u64 h (h / 1073741824)) * 13787848793156543929)) ((IntKind.u64.wrap ((Go.bits .xor .u64 h (h / 1073741824)) * 13787848793156543929)) / 134217728)) * 10723151780598845931)) ((IntKind.u64.wrap ((Go.bits .xor .u64 (IntKind.u64.wrap ((Go.bits .xor .u64 h (h / 1073741824)) * 13787848793156543929)) ((IntKind.u64.wrap ((Go.bits .xor .u64 h (h / 1073741824)) * 13787848793156543929)) / 134217728)) * 10723151780598845931)) / 2147483648)
      refine ⟨r, hr, ?_, ?_⟩
      · refine Ev.step (fun k => impl_Hash.l0.eq_2 ..) ?_
        exact Ev.neg (by omega) ((Ev.now _).eqr he)
      · refine Ev.step (fun k => spec_Hash.l0.eq_2 ..) ?_
        exact Ev.neg (by omega) ((Ev.now _).eqr he)
    · intro i hi ih h
      obtain ⟨r, hr, h1, h2⟩ := ih (IntKind.u64.wrap ((Go.bits .xor .u64 h (IntKind.u64.wrap (bt t (i : Int)))) * 1099511628211))
      refine ⟨r, hr, ?_, ?_⟩
      · refine Ev.step (fun k => impl_Hash.l0.eq_2 ..) ?_
        rw [wsucc (by omega)]
        exact Ev.pos (by omega) (Ev.pos (by omega) (Ev.pos (by omega) h1))
      · refine Ev.step (fun k => spec_Hash.l0.eq_2 ..) ?_
        rw [wsucc (by omega)]
        exact Ev.pos (by omega) (Ev.pos (by omega) h2)
  exact key 0 (Nat.zero_le _) _
def hOk (h : ByteArray) : Prop := h.size = 64 ∧ ∀ j : Nat, j < h.size → bt h (j : Int) ≤ 58
noncomputable instance (h : ByteArray) : Decidable (hOk h) := Classical.propDecidable _
def lowH (h : ByteArray) (i : Nat) : Prop := ∀ j : Nat, i ≤ j → j < h.size → bt h (j : Int) ≤ 58
noncomputable instance (h : ByteArray) (i : Nat) : Decidable (lowH h i) := Classical.propDecidable _
theorem hllOk_ev (h : ByteArray) (hs : h.size ≤ 1000000) : Ev (fun k => impl_HllOk.f k h) (decide (hOk h)) := by
  unfold impl_HllOk.f
  have key : ∀ i, i ≤ h.size → Ev (fun k => impl_HllOk.l0 k h (h.size : Int) (i : Int)) (decide (h.size = 64 ∧ lowH h i)) := by
    refine downTo h.size ?_ ?_
    · refine Ev.step (fun k => impl_HllOk.l0.eq_2 ..) ?_
      refine Ev.neg (by omega) ((Ev.now _).eqr ?_)
      by_cases c : h.size = 64
      · rw [c, decide_eq_true (show (64 : Nat) = 64 ∧ lowH h 64 from ⟨rfl, fun j h1 h2 => by omega⟩)]
        rfl
      · rw [decide_eq_false (fun hh => c hh.1)]
        simp
        omega
    · intro i hi ih
      refine Ev.step (fun k => impl_HllOk.l0.eq_2 ..) ?_
      refine Ev.pos (by omega) (Ev.pos (by omega) (Ev.pos (by omega) ?_))
      by_cases cz : bt h (i : Int) > 58
      · exact Ev.pos cz ((Ev.now _).eqr (decide_eq_false (fun hh => by have := hh.2 i (Nat.le_refl _) hi; omega)).symm)
      · refine Ev.neg cz ?_
        rw [wsucc (by omega)]
        refine ih.eqr (decide_eq_decide.2 ⟨fun hh => ⟨hh.1, fun j h1 h2 => ?_⟩, fun hh => ⟨hh.1, fun j h1 h2 => hh.2 j (by omega) h2⟩⟩)
        by_cases e : j = i
        · subst e; omega
        · exact hh.2 j (by omega) h2
  exact (key 0 (Nat.zero_le _)).eqr (decide_eq_decide.2 ⟨fun hh => ⟨hh.1, fun j hj => hh.2 j (Nat.zero_le _) hj⟩, fun hh => ⟨hh.1, fun j _ hj => hh.2 j hj⟩⟩)
theorem sHllOk_ev (h : ByteArray) (hs : h.size ≤ 1000000) : Ev (fun k => spec_HllOk.f k h) (decide (hOk h)) := by
  unfold spec_HllOk.f
  by_cases c : (h.size : Int) = 64
  case neg => exact Ev.neg c ((Ev.now _).eqr (decide_eq_false (fun hh => c (by have := hh.1; omega))).symm)
  refine Ev.pos c ?_
  have key : ∀ i, i ≤ h.size → Ev (fun k => spec_HllOk.l0 k h (i : Int)) (decide (lowH h i)) := by
    refine downTo h.size ?_ ?_
    · refine Ev.step (fun k => spec_HllOk.l0.eq_2 ..) ?_
      exact Ev.neg (by omega) ((Ev.now _).eqr (decide_eq_true (show lowH h h.size from fun j h1 h2 => by omega)).symm)
    · intro i hi ih
      refine Ev.step (fun k => spec_HllOk.l0.eq_2 ..) ?_
      refine Ev.pos (by omega) (Ev.pos (by omega) ?_)
      by_cases cz : bt h (i : Int) > 58
      · exact Ev.pos cz ((Ev.now _).eqr (decide_eq_false (fun hh => by have := hh i (Nat.le_refl _) hi; omega)).symm)
      · refine Ev.neg cz ?_
        rw [wsucc (by omega)]
        refine ih.eqr (decide_eq_decide.2 ⟨fun hh j h1 h2 => ?_, fun hh j h1 h2 => hh j (by omega) h2⟩)
        by_cases e : j = i
        · subst e; omega
        · exact hh j (by omega) h2
  exact (key 0 (Nat.zero_le _)).eqr (decide_eq_decide.2 ⟨fun hh => ⟨by omega, fun j hj => hh j (Nat.zero_le _) hj⟩, fun hh j _ hj => hh.2 j hj⟩)
theorem shRank_zero : ∀ d, shRank d 0 = 58
  | 0 => rfl
  | d + 1 => by rw [shRank, if_pos rfl]; exact shRank_zero d
theorem shRank_ctz : ∀ (d x f : Nat), d ≤ 57 → d ≤ f → 0 < x → shRank d x = min (58 - d + Lib.ctzFrom f x) 58
  | 0, x, f, _, _, _ => by rw [shRank]; omega
  | d + 1, x, 0, _, h, _ => by omega
  | d + 1, x, f + 1, h57, h, hx => by
    rw [shRank, Lib.ctzFrom]
    by_cases c : x % 2 = 0
    · rw [if_pos c, if_neg (by omega), shRank_ctz d (x / 2) f (by omega) (by omega) (by omega)]
      omega
    · rw [if_neg c, if_pos (by omega)]
      omega
theorem rank_eq (x : Nat) : mn (1 + (Lib.ctz 64 x : Int)) 58 = (shRank 57 x : Int) := by
  unfold mn Lib.ctz
  by_cases c : x = 0
  · subst c
    rw [if_pos rfl, shRank_zero]
    decide
  · rw [if_neg c, shRank_ctz 57 x 64 (Nat.le_refl _) (by decide) (by omega)]
    split <;> omega
def addL (l : List Int) (n : Nat) : List Int := l.set (n % 64) (mx (l.getD (n % 64) 0) (shRank 57 (n / 64) : Int))
theorem set_self (l : List Int) (i : Nat) : l.set i (l.getD i 0) = l := by
  apply List.ext_getElem?
  intro j
  rw [List.getElem?_set]
  by_cases e : i = j
  · subst e
    rw [if_pos rfl, List.getD_eq_getElem?_getD]
    by_cases h : i < l.length
    · rw [if_pos h, List.getElem?_eq_getElem h]
      rfl
    · rw [if_neg h, List.getElem?_eq_none (by omega)]
  · rw [if_neg e]
theorem haR_eq (h : ByteArray) (n : Nat) : haR h (n : Int) = strOfNums (addL (bytesOf h) n) := by
  unfold haR addL
  rw [Int.toNat_natCast, rank_eq, getD_rd]
theorem shR_eq (h : ByteArray) (n : Nat) : shR h n = strOfNums (addL (bytesOf h) n) := by
  unfold shR addL mx
  split
  · rfl
  · rw [set_self]
noncomputable def haV (h u : ByteArray) (n : Nat) : ByteArray := if hOk h ∧ isU u then strOfNums (addL (bytesOf h) n) else ⟨#[]⟩
theorem hAdd_ev (u : ByteArray) (hu : u.size ≤ 1000000) : ∃ n : Nat, ∀ h : ByteArray, h.size ≤ 1000000 → Ev (fun k => impl_HllAdd.f k h u) (haV h u n) ∧ Ev (fun k => spec_HllAdd.f k h u) (haV h u n) := by
  obtain ⟨n, hn, h1, h2⟩ := hash2_ev 7 u hu
  refine ⟨n, fun h hs => ?_⟩
  have o1 := hllOk_ev h hs
  have o2 := sHllOk_ev h hs
  unfold impl_HllAdd.f spec_HllAdd.f haV
  by_cases c : hOk h
  case neg =>
    rw [decide_eq_false c] at o1 o2
    rw [if_neg (fun hh => c hh.1)]
    exact ⟨Ev.bind o1 (Ev.neg (by decide) (Ev.now _)), Ev.bind o2 (Ev.neg (by decide) (Ev.now _))⟩
  rw [decide_eq_true c] at o1 o2
  by_cases cu : isU u
  case neg =>
    rw [if_neg (fun hh => cu hh.2)]
    exact ⟨Ev.bind o1 (Ev.pos rfl (Ev.bindS (isUser_ev u) (Ev.neg (by simp [cu]) (Ev.now _)))), Ev.bind o2 (Ev.pos rfl (Ev.bindS (l2User_ev u) (Ev.neg (by simp [cu]) (Ev.now _))))⟩
  rw [if_pos ⟨c, cu⟩]
  refine ⟨Ev.bind o1 (Ev.pos rfl (Ev.bindS (isUser_ev u) (Ev.pos (decide_eq_true cu) (Ev.bind h1 (Ev.pos ⟨by omega, by omega, c.1⟩ ((Ev.now _).eqr (haR_eq h n))))))), Ev.bind o2 (Ev.pos rfl (Ev.bindS (l2User_ev u) (Ev.pos (decide_eq_true cu) (Ev.bind h2 (Ev.pos ⟨by omega, by omega, c.1⟩ ((Ev.now _).eqr ?_))))))⟩
  rw [Int.toNat_natCast, shR_eq]
theorem sON_size (l : List Int) : (strOfNums l).size = l.length := by
  unfold strOfNums
  simp [ByteArray.size]
theorem haV_size (h u : ByteArray) (n : Nat) : (haV h u n).size ≤ 64 := by
  unfold haV
  split
  · rename_i c
    rw [sON_size, addL, List.length_set, bytesOf_length, c.1.1]
    exact Nat.le_refl _
  · exact Nat.zero_le _
theorem sUsersOk_ev (us : List ByteArray) (h : us.length ≤ 15) : ∃ b, Ev (fun k => spec_UsersOk.f k us) b := by
  unfold spec_UsersOk.f
  have key : ∀ i, i ≤ us.length → ∃ b, Ev (fun k => spec_UsersOk.l0 k us (i : Int)) b := by
    refine downTo us.length ?_ ?_
    · exact ⟨true, Ev.step (fun k => spec_UsersOk.l0.eq_2 ..) (Ev.neg (by omega) (Ev.now _))⟩
    · intro i hi ih
      obtain ⟨b, hb⟩ := ih
      by_cases c : isU (rdOf ByteArray.empty us (i : Int))
      · refine ⟨b, ?_⟩
        refine Ev.step (fun k => spec_UsersOk.l0.eq_2 ..) ?_
        rw [wsucc (by omega)]
        exact Ev.pos (by omega) (Ev.pos (by omega) (Ev.bindS (l2User_ev _) (Ev.pos (decide_eq_true c) hb)))
      · refine ⟨false, ?_⟩
        refine Ev.step (fun k => spec_UsersOk.l0.eq_2 ..) ?_
        exact Ev.pos (by omega) (Ev.pos (by omega) (Ev.bindS (l2User_ev _) (Ev.neg (by simp [c]) (Ev.now _))))
  obtain ⟨b, hb⟩ := key 0 (Nat.zero_le _)
  exact ⟨b, Ev.neg (by omega) hb⟩
theorem rdOf_mem {us : List ByteArray} {i : Nat} (h : i < us.length) (n : Nat) (hs : ∀ u ∈ us, u.size ≤ n) : (rdOf ByteArray.empty us (i : Int)).size ≤ n := by
  unfold rdOf
  rw [Int.toNat_natCast, List.getD_eq_getElem?_getD, List.getElem?_eq_getElem h]
  exact hs _ (List.getElem_mem h)
theorem dusers_ev {l : List Int} {p : Int} (h : okc l) (hp : okp l p) : ∃ r, Ev (fun k => spec_l1Rd_users.f k l p 14) r ∧ (r.1.length ≤ 15 ∧ ∀ u ∈ r.1, u.size ≤ 100) ∧ okp l r.2 := by
  obtain ⟨a, ha, ha1, ha2⟩ := below_ev h hp 15 (by omega)
  unfold spec_l1Rd_users.f
  rw [wid (x := 14 + 1) (by decide) (by decide), show (14 + 1 : Int) = 15 from rfl]
  have key : ∀ (m : Nat) (acc : List ByteArray) (p : Int), acc.length + m ≤ 14 → (∀ u ∈ acc, u.size ≤ 100) → okp l p → ∃ r, Ev (fun k => spec_l1Rd_users.l0 k acc (m : Int) l p) r ∧ (r.1.length ≤ 15 ∧ ∀ u ∈ r.1, u.size ≤ 100) ∧ okp l r.2 := by
    intro m
    induction m with
    | zero =>
      intro acc p hm hs hp
      obtain ⟨b, hb, hb2⟩ := once_ev h hp 24 (by omega)
      by_cases c : b.1 = true
      · obtain ⟨t, ht, ht1, ht2⟩ := bytes_ev h hb2 44 (by omega) (by omega)
        refine ⟨(acc ++ [t.1], t.2), ?_, ⟨by simp; omega, fun u hu => ?_⟩, ht2⟩
        · refine Ev.step (fun k => spec_l1Rd_users.l0.eq_2 ..) ?_
          exact Ev.neg (by omega) (Ev.bindS hb (Ev.pos c (Ev.bind ht (Ev.pos (by omega) (Ev.now _)))))
        · rcases List.mem_append.1 hu with hu | hu
          · exact hs u hu
          · rw [List.mem_singleton] at hu
            subst hu
            omega
      · refine ⟨(acc, b.2), ?_, ⟨by simp only []; omega, hs⟩, hb2⟩
        refine Ev.step (fun k => spec_l1Rd_users.l0.eq_2 ..) ?_
        exact Ev.neg (by omega) (Ev.bindS hb (Ev.neg c (Ev.now _)))
    | succ m ih =>
      intro acc p hm hs hp
      have hw : wrap64 (((m + 1 : Nat) : Int) - 1) = (m : Int) := by rw [wid (by omega) (by omega)]; omega
      obtain ⟨b, hb, hb2⟩ := once_ev h hp 3 (by omega)
      by_cases c : b.1 = true
      · obtain ⟨t, ht, ht1, ht2⟩ := bytes_ev h hb2 3 (by omega) (by omega)
        obtain ⟨r, hr, hr2⟩ := ih (acc ++ [(⟨#[107]⟩ : ByteArray) ++ t.1]) t.2 (by simp; omega) (fun u hu => by
          rcases List.mem_append.1 hu with hu | hu
          · exact hs u hu
          · rw [List.mem_singleton] at hu
            subst hu
            rw [ByteArray.size_append, show (⟨#[107]⟩ : ByteArray).size = 1 from rfl]
            omega) ht2
        refine ⟨r, ?_, hr2⟩
        refine Ev.step (fun k => spec_l1Rd_users.l0.eq_2 ..) ?_
        rw [hw]
        exact Ev.pos (by omega) (Ev.bindS hb (Ev.pos c (Ev.bind ht (Ev.pos (by omega) (Ev.pos (by omega) hr)))))
      · obtain ⟨t, ht, ht1, ht2⟩ := duser_ev h hb2
        obtain ⟨r, hr, hr2⟩ := ih (acc ++ [t.1]) t.2 (by simp; omega) (fun u hu => by
          rcases List.mem_append.1 hu with hu | hu
          · exact hs u hu
          · rw [List.mem_singleton] at hu
            subst hu
            unfold isU at ht1
            omega) ht2
        refine ⟨r, ?_, hr2⟩
        refine Ev.step (fun k => spec_l1Rd_users.l0.eq_2 ..) ?_
        rw [hw]
        exact Ev.pos (by omega) (Ev.bindS hb (Ev.neg c (Ev.bindS ht (Ev.pos (by omega) hr))))
  obtain ⟨r, hr, hr2⟩ := key a.1.toNat [] a.2 (by simp; omega) (by simp) ha2
  rw [Int.toNat_of_nonneg ha1.1] at hr
  exact ⟨r, Ev.bindS ha hr, hr2⟩
end Go.Proofs.YtedgdnkbojjbmaaDoor.Pure
end

section
namespace Go.Proofs.YtedgdnkbojjbmaaDoor.Pure
open Go.RowKit Go.Proofs.YtedgdnkbojjbmaaDoorW.PrintWords Go.Proofs.YtedgdnkbojjbmaaDoorW.PrintLast Go.Proofs.YtedgdnkbojjbmaaDoorW.PrintMore
open Go.Proofs.YtedgdnkbojjbmaaDoor.P
set_option linter.unusedVariables false
set_option linter.unusedSimpArgs false
theorem okc0 {l : List Int} (h1 : l.length ≤ 1048576) (h2 : ∀ x ∈ l, (Lit.int .u8 x).wf = true) : okc l := by
  refine ⟨h1, fun x hx => ?_⟩
  have := h2 x hx
  simpa [Lit.wf, IntKind.min, IntKind.max, IntKind.signed, IntKind.bits] using this
theorem okp0 (l : List Int) : okp l 0 := ⟨by omega, by omega⟩
def numsH (l : List Int) : Prop := l.length = 64 ∧ ∀ j : Nat, j < 64 → 0 ≤ l.getD j 0 ∧ l.getD j 0 ≤ 58
theorem hOk_nums {h : ByteArray} (c : hOk h) : numsH (bytesOf h) := by
  refine ⟨by rw [bytesOf_length]; exact c.1, fun j hj => ?_⟩
  have h1 := c.2 j (by rw [c.1]; exact hj)
  have h2 := bt_range h (j : Int)
  rw [← rd_bytesOf, getD_rd] at h1 h2
  exact ⟨h2.1, h1⟩
theorem nums_mem {l : List Int} (c : numsH l) : ∀ x ∈ l, 0 ≤ x ∧ x < 256 := by
  intro x hx
  obtain ⟨j, hj, rfl⟩ := List.getElem_of_mem hx
  have := c.2 j (by rw [← c.1]; exact hj)
  rw [List.getD_eq_getElem?_getD, List.getElem?_eq_getElem hj] at this
  simp only [Option.getD_some] at this
  omega
theorem nums_ok {l : List Int} (c : numsH l) : hOk (strOfNums l) ∧ bytesOf (strOfNums l) = l := by
  have hb := hll_bytes l (nums_mem c)
  refine ⟨⟨by rw [sON_size]; exact c.1, fun j hj => ?_⟩, hb⟩
  rw [sON_size, c.1] at hj
  rw [← rd_bytesOf, getD_rd, hb]
  exact (c.2 j hj).2
theorem mx_ge (a b : Int) : a ≤ mx a b ∧ b ≤ mx a b := by
  unfold mx
  split <;> omega
theorem mx_left {a b : Int} (h : b ≤ a) : mx a b = a := by
  unfold mx
  rw [if_neg (by omega)]
theorem addL_get (l : List Int) (n j : Nat) (h : l.length = 64) : (addL l n).getD j 0 = if n % 64 = j then mx (l.getD j 0) (shRank 57 (n / 64) : Int) else l.getD j 0 := by
  unfold addL
  rw [List.getD_eq_getElem?_getD, List.getElem?_set]
  by_cases e : n % 64 = j
  · subst e
    rw [if_pos rfl, if_pos (by have := Nat.mod_lt n (show 0 < 64 by decide); omega), if_pos rfl]
    rfl
  · rw [if_neg e, if_neg e, List.getD_eq_getElem?_getD]
theorem addL_nums {l : List Int} (c : numsH l) (n : Nat) : numsH (addL l n) := by
  refine ⟨by unfold addL; rw [List.length_set]; exact c.1, fun j hj => ?_⟩
  have h := c.2 j hj
  have hr := shRank_le 57 (n / 64)
  rw [addL_get l n j c.1]
  split
  · unfold mx
    split <;> omega
  · exact h
theorem addL_ge {l : List Int} (c : numsH l) (n j : Nat) : l.getD j 0 ≤ (addL l n).getD j 0 := by
  rw [addL_get l n j c.1]
  split
  · exact (mx_ge _ _).1
  · exact Int.le_refl _
theorem addL_twice {l : List Int} (c : numsH l) (n : Nat) : addL (addL l n) n = addL l n := by
  have e : mx ((addL l n).getD (n % 64) 0) (shRank 57 (n / 64) : Int) = (addL l n).getD (n % 64) 0 := by
    rw [addL_get l n _ c.1, if_pos rfl]
    exact mx_left (mx_ge _ _).2
  conv => lhs; unfold addL
  rw [show (l.set (n % 64) (mx (l.getD (n % 64) 0) (shRank 57 (n / 64) : Int))) = addL l n from rfl, e, set_self]
theorem hmL_same (l : List Int) (h : ByteArray) (hh : ∀ j : Nat, j < 64 → bt h (j : Int) ≤ l.getD j 0) : ∀ i, i ≤ 64 → hmL l h i = l
  | 0, _ => rfl
  | i + 1, hi => by
    rw [hmL, hmL_same l h hh i (by omega), mx_left (hh i (by omega)), set_self]
theorem merge_ev {a h : ByteArray} (ca : hOk a) (ch : hOk h) (hh : ∀ j : Nat, j < 64 → bt h (j : Int) ≤ (bytesOf a).getD j 0) (hb : strOfNums (bytesOf a) = a) : Ev (fun k => impl_HllMerge.f k a h) a := by
  have o1 := hllOk_ev a (by have := ca.1; omega)
  have o2 := hllOk_ev h (by have := ch.1; omega)
  rw [decide_eq_true ca] at o1
  rw [decide_eq_true ch] at o2
  unfold impl_HllMerge.f
  refine Ev.bind o1 (Ev.pos rfl (Ev.bind o2 (Ev.pos rfl (Ev.pos ⟨ca.1, ch.1⟩ ((Ev.now _).eqr ?_)))))
  rw [hmL_same _ _ hh 64 (Nat.le_refl _), hb]
theorem count_ev {a : ByteArray} (ca : hOk a) : Ev (fun k => impl_HllCount.f k a) (hcV a) ∧ Ev (fun k => spec_HllCount.f k a) (hcV a) := by
  have o1 := hllOk_ev a (by have := ca.1; omega)
  have o2 := sHllOk_ev a (by have := ca.1; omega)
  rw [decide_eq_true ca] at o1 o2
  unfold impl_HllCount.f spec_HllCount.f
  exact ⟨Ev.bind o1 (Ev.pos rfl (Ev.pos ca.1 (Ev.now _))), Ev.bind o2 (Ev.pos rfl (Ev.pos ca.1 (Ev.now _)))⟩
theorem zero_nums : numsH (List.replicate 64 0) := by
  refine ⟨by simp, fun j hj => ?_⟩
  rw [List.getD_eq_getElem?_getD, List.getElem?_replicate]
  split <;> simp
theorem zero_bt (j : Nat) : bt (strOfNums (List.replicate 64 0)) (j : Int) = 0 := by
  rw [← rd_bytesOf, getD_rd, (nums_ok zero_nums).2, List.getD_eq_getElem?_getD, List.getElem?_replicate]
  split <;> rfl
theorem zero_zs : ∀ i, zsN (strOfNums (List.replicate 64 0)) i = i * 1099511627776
  | 0 => rfl
  | i + 1 => by
    rw [zsN, zero_zs i, zero_bt]
    rw [show 2 ^ (40 - min (0 : Int).toNat 40) = 1099511627776 from by decide]
    omega
theorem zero_vs : ∀ i, vsN (strOfNums (List.replicate 64 0)) i = i
  | 0 => rfl
  | i + 1 => by rw [vsN, zero_vs i, zero_bt, if_pos rfl]
theorem zero_count : hcV (strOfNums (List.replicate 64 0)) = 0 := by
  unfold hcV
  rw [zero_zs, zero_vs]
  decide
theorem none_ev : Ev (fun k => impl_HllOf.f k []) (strOfNums (List.replicate 64 0)) := by
  have hu : Ev (fun k => impl_UsersOk.f k []) true := by
    unfold impl_UsersOk.f
    refine Ev.neg (by decide) ?_
    refine Ev.step (fun k => impl_UsersOk.l0.eq_2 ..) ?_
    exact Ev.neg (by decide) (Ev.now _)
  unfold impl_HllOf.f
  exact Ev.bind hu (Ev.pos rfl (Ev.now _))
theorem hllOf_ev (us : List ByteArray) (h : us.length ≤ 15) (hs : ∀ u ∈ us, u.size ≤ 100) : ∃ r : ByteArray, Ev (fun k => spec_HllOf.f k us) r ∧ r.size ≤ 64 := by
  obtain ⟨b, hb⟩ := sUsersOk_ev us h
  unfold spec_HllOf.f
  cases b with
  | false => exact ⟨⟨#[]⟩, Ev.bind hb (Ev.neg (by decide) (Ev.now _)), Nat.zero_le _⟩
  | true =>
  have key : ∀ i, i ≤ us.length → ∀ x : ByteArray, x.size ≤ 64 → ∃ r : ByteArray, Ev (fun k => spec_HllOf.l0 k us x (i : Int)) r ∧ r.size ≤ 64 := by
    refine downTo us.length ?_ ?_
    · intro x hx
      exact ⟨x, Ev.step (fun k => spec_HllOf.l0.eq_2 ..) (Ev.neg (by omega) (Ev.now _)), hx⟩
    · intro i hi ih x hx
      obtain ⟨n, hn⟩ := hAdd_ev (rdOf ByteArray.empty us (i : Int)) (by have := rdOf_mem hi 100 hs; omega)
      obtain ⟨r, hr, h2⟩ := ih (haV x (rdOf ByteArray.empty us (i : Int)) n) (haV_size _ _ _)
      refine ⟨r, ?_, h2⟩
      refine Ev.step (fun k => spec_HllOf.l0.eq_2 ..) ?_
      rw [wsucc (by omega)]
      exact Ev.pos (by omega) (Ev.pos (by omega) (Ev.bind (hn x (by omega)).2 hr))
  obtain ⟨r, hr, h2⟩ := key 0 (Nat.zero_le _) (strOfNums (List.replicate 64 0)) (by rw [sON_size]; simp)
  exact ⟨r, Ev.bind hb (Ev.pos rfl (Ev.pos (by decide) hr)), h2⟩
theorem hllE_ev {l : List Int} {p : Int} (h : okc l) (hp : okp l p) (t : ByteArray) (ht : t.size ≤ 64) : ∃ r, hllE l t p = some r ∧ r.1.size ≤ 65 ∧ okp l r.2 := by
  obtain ⟨o, ho, ho2⟩ := once_ev h hp 20 (by omega)
  unfold hllE
  rw [ho, Option.bind_some]
  by_cases c : o.1 = true
  · rw [if_pos c, if_pos (by omega)]
    refine ⟨_, rfl, ?_, ho2⟩
    show (t ++ (⟨#[120]⟩ : ByteArray)).size ≤ 65
    rw [ByteArray.size_append, show (⟨#[120]⟩ : ByteArray).size = 1 from rfl]
    omega
  · rw [if_neg c]
    exact ⟨_, rfl, by show t.size ≤ 65; omega, ho2⟩
theorem dhll_ev {l : List Int} {p : Int} (h : okc l) (hp : okp l p) : ∃ r, Ev (fun k => spec_l1Rd_hll.f k l p) r ∧ r.1.size ≤ 65 ∧ okp l r.2 := by
  obtain ⟨u, hu, hu1, hu2⟩ := dusers_ev h hp
  obtain ⟨t, ht, ht1⟩ := hllOf_ev u.1 hu1.1 hu1.2
  obtain ⟨o, ho, ho2⟩ := once_ev h hu2 6 (by omega)
  unfold spec_l1Rd_hll.f
  by_cases c : o.1 = true
  · have key : ∀ (d i : Nat) (xs : List Int) (p : Int), i + d = xs.length → xs.length ≤ 64 → okp l p → ∃ r, Ev (fun k => spec_l1Rd_hll.l0 k xs i l p) r ∧ r.1.length ≤ 64 ∧ okp l r.2 := by
      intro d
      induction d with
      | zero =>
        intro i xs p hi hx hp
        exact ⟨(xs, p), Ev.step (fun k => spec_l1Rd_hll.l0.eq_2 ..) (Ev.neg (by omega) (Ev.now _)), hx, hp⟩
      | succ d ih =>
        intro i xs p hi hx hp
        obtain ⟨b, hb, _, hb2⟩ := below_ev h hp 60 (by omega)
        obtain ⟨r, hr, hr2⟩ := ih (i + 1) (xs.set i (b.1 % 256)) b.2 (by rw [List.length_set]; omega) (by rw [List.length_set]; exact hx) hb2
        refine ⟨r, ?_, hr2⟩
        refine Ev.step (fun k => spec_l1Rd_hll.l0.eq_2 ..) ?_
        exact Ev.pos (by omega) (Ev.pos (by omega) (Ev.bindS hb hr))
    obtain ⟨s, hs, hs1, hs2⟩ := key t.size 0 (bytesOf t) o.2 (by rw [bytesOf_length]; omega) (by rw [bytesOf_length]; exact ht1) ho2
    obtain ⟨r, hr, hr1, hr2⟩ := hllE_ev h hs2 (strOfNums s.1) (by rw [sON_size]; exact hs1)
    exact ⟨r, Ev.bind hu (Ev.bind ht (Ev.bindS ho (Ev.pos c (Ev.bind hs (Ev.ofS hr))))), hr1, hr2⟩
  · obtain ⟨r, hr, hr1, hr2⟩ := hllE_ev h ho2 t ht1
    exact ⟨r, Ev.bind hu (Ev.bind ht (Ev.bindS ho (Ev.neg c (Ev.ofS hr)))), hr1, hr2⟩
theorem drawAdd_ev {l : List Int} (h : okc l) : ∃ r, Ev (fun k => spec_DrawHllAdd.f k l) r ∧ r.1.size ≤ 65 ∧ r.2.size ≤ 4 := by
  obtain ⟨t, ht, ht1, hp⟩ := dhll_ev h (okp0 l)
  obtain ⟨x, hx, hx1, _⟩ := dtext_ev h hp
  unfold spec_DrawHllAdd.f
  exact ⟨_, Ev.bindS rfl (Ev.bind ht (Ev.bindS hx (Ev.now _))), ht1, hx1⟩
theorem FnCounted : laws_FnCounted.Pure := by
  intro l _ _ hb
  refine Ev.rounds (g := fun k => laws_FnCounted.f k l) ?_
  unfold laws_FnCounted.f
  refine Ev.bindS (a := decide ((l.length : Int) > 1048576)) rfl ?_
  by_cases big : (l.length : Int) > 1048576
  · exact Ev.pos (decide_eq_true big) (Ev.now _)
  have hc := okc0 (l := l) (by omega) hb
  refine Ev.neg (by simpa using big) ?_
  obtain ⟨d, hd, hd1, hd2⟩ := drawAdd_ev hc
  obtain ⟨h, u⟩ := d
  replace hd1 : h.size ≤ 65 := hd1
  replace hd2 : u.size ≤ 4 := hd2
  obtain ⟨n, hn⟩ := hAdd_ev u (by omega)
  have a1 := hn h (by omega)
  refine Ev.bind hd (Ev.bind a1.1 (Ev.bind a1.2 (Ev.pos rfl ?_)))
  by_cases c : hOk h ∧ isU u
  case neg =>
    have e : haV h u n = ⟨#[]⟩ := if_neg c
    rw [e] at a1 ⊢
    rw [show (((⟨#[]⟩ : ByteArray).toList == ([] : List UInt8)) = true) from by simp [ByteArray.toList_eq]]
    refine Ev.step (fun k => laws_FnCounted.j0.eq_2 ..) ?_
    exact Ev.pos rfl (Ev.bind a1.2 ((Ev.now _).eqr (by simp)))
  have e : haV h u n = strOfNums (addL (bytesOf h) n) := if_pos c
  have nh := hOk_nums c.1
  have na := addL_nums nh n
  obtain ⟨oa, ba⟩ := nums_ok na
  have za := sON_size (addL (bytesOf h) n)
  have zl := na.1
  rw [e]
  have a2 := (hn (strOfNums (addL (bytesOf h) n)) (by omega)).1
  rw [show haV (strOfNums (addL (bytesOf h) n)) u n = strOfNums (addL (bytesOf h) n) from by
    unfold haV
    rw [if_pos ⟨oa, c.2⟩, ba, addL_twice nh]] at a2
  have ge : ∀ j : Nat, j < 64 → bt h (j : Int) ≤ bt (strOfNums (addL (bytesOf h) n)) (j : Int) := fun j hj => by
    rw [← rd_bytesOf, ← rd_bytesOf, getD_rd, getD_rd, ba]
    exact addL_ge nh n j
  have mg := merge_ev oa c.1 (fun j hj => by have := ge j hj; rw [← rd_bytesOf (strOfNums _), getD_rd] at this; exact this) (by rw [ba])
  have cn := count_ev oa
  have zh := c.1.1
  generalize strOfNums (addL (bytesOf h) n) = a at *
  rw [show ((a.toList == ([] : List UInt8)) = false) from by
    rw [ByteArray.toList_eq]
    have : a.data.toList.length = 64 := by rw [data_length]; omega
    cases hq : a.data.toList with
    | nil => rw [hq] at this; cases this
    | cons x xs => rfl]
  refine Ev.step (fun k => laws_FnCounted.j0.eq_2 ..) ?_
  refine Ev.neg (by decide) (Ev.pos (show (a.size : Int) = (h.size : Int) by omega) (Ev.bind a2 (Ev.pos rfl (Ev.bind mg (Ev.pos rfl (Ev.bind cn.1 (Ev.bind cn.2 ?_)))))))
  rw [show (hcV a != hcV a) = false from by simp]
  refine Ev.step (fun k => laws_FnCounted.j1.eq_2 ..) ?_
  refine Ev.neg (by decide) ?_
  have fin : Ev (fun k => laws_FnCounted.l0 k h a ((64 : Nat) : Int)) true := by
    refine Ev.step (fun k => laws_FnCounted.l0.eq_2 ..) ?_
    refine Ev.neg (by omega) (Ev.bind none_ev (Ev.bind (count_ev (nums_ok zero_nums).1).1 ((Ev.now _).eqr ?_)))
    rw [zero_count]
    rfl
  have key : ∀ i : Nat, i ≤ 64 → Ev (fun k => laws_FnCounted.l0 k h a (i : Int)) true := by
    refine downTo 64 fin ?_
    intro i hi ih
    have := ge i hi
    refine Ev.step (fun k => laws_FnCounted.l0.eq_2 ..) ?_
    rw [wsucc (by omega)]
    exact Ev.pos (by omega) (Ev.pos (by omega) (Ev.pos (by omega) (Ev.neg (by omega) ih)))
  exact key 0 (by omega)
end Go.Proofs.YtedgdnkbojjbmaaDoor.Pure
end
