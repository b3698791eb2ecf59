/- Proved: the law FnExactBlockSeek of the given program returns true for every input of its Go types and leaves each argument as it was; no condition. (Part 9 of 13.) -/
import Derived.Test.YtidjdkodgddfcaaCFnExactBlockSeek4
import Derived.Test.YtidjdkodgddfcaaCFnExactBlockSeek6
import Derived.Test.YtidjdkodgddfcaaCFnExactBlockSeek7
import Derived.Test.YtidjdkodgddfcaaCFnExactBlockSeek0
section
namespace Go.Proofs.Ytidjdkodgddfcaa.P
open Go.RowKit Go.Proofs.YtidjdkodgddfcaaW.PrintWords Go.Proofs.YtidjdkodgddfcaaW.PrintLast Go.Proofs.YtidjdkodgddfcaaW.PrintMore
attribute [local go_sem] str_gtr str_leq str_geq max2_int min2_int max_two min_two max_three min_three max_four min_four
set_option linter.unusedVariables false
set_option linter.unusedSimpArgs false
theorem bl_irrefl : ∀ a : List UInt8, Op.bytesLess a a = false
  | [] => by simp [Op.bytesLess]
  | a :: x => by
    have ih := bl_irrefl x
    have h1 : ¬ a < a := fun h => by have := UInt8.lt_iff_toNat_lt.1 h; omega
    simp [Op.bytesLess, ih, h1]
theorem bl_eq {a b : List UInt8} (h : Op.bytesLess a b = false) (h' : Op.bytesLess b a = false) : a = b := by
  rw [← bytesLess_swap, h] at h'
  simpa using h'
theorem bl_cons (a b : UInt8) (x y : List UInt8) : Op.bytesLess (a :: x) (b :: y) = true ↔ a < b ∨ a = b ∧ Op.bytesLess x y = true := by
  rcases Nat.lt_trichotomy a.toNat b.toNat with h | h | h
  · have h1 : a < b := UInt8.lt_iff_toNat_lt.2 h
    simp [Op.bytesLess, h1]
  · have h1 : a = b := UInt8.toNat_inj.1 h
    subst h1
    have h2 : ¬ a < a := fun h => by have := UInt8.lt_iff_toNat_lt.1 h; omega
    simp [Op.bytesLess, h2]
  · have h1 : ¬ a < b := fun h' => by have := UInt8.lt_iff_toNat_lt.1 h'; omega
    have h2 : ¬ a = b := fun h' => by rw [h'] at h; omega
    simp [Op.bytesLess, h1, h2]
theorem bl_trans : ∀ {a b c : List UInt8}, Op.bytesLess a b = true → Op.bytesLess b c = true → Op.bytesLess a c = true
  | _, [], _, h, _ => by cases ‹List UInt8› <;> simp [Op.bytesLess] at h
  | [], b :: y, [], _, h => by simp [Op.bytesLess] at h
  | [], b :: y, c :: z, _, _ => by simp [Op.bytesLess]
  | a :: x, b :: y, [], _, h => by simp [Op.bytesLess] at h
  | a :: x, b :: y, c :: z, h, h' => by
    rw [bl_cons] at h h' ⊢
    rcases h with h | ⟨rfl, h⟩
    · rcases h' with h' | ⟨rfl, h'⟩
      · exact .inl (UInt8.lt_iff_toNat_lt.2 (by have := UInt8.lt_iff_toNat_lt.1 h; have := UInt8.lt_iff_toNat_lt.1 h'; omega))
      · exact .inl h
    · rcases h' with h' | ⟨rfl, h'⟩
      · exact .inl h'
      · exact .inr ⟨rfl, bl_trans h h'⟩
def tless (a b : ByteArray) : Bool := Op.bytesLess a.toList b.toList
theorem compareS_ev (a b : ByteArray) : cmp_Compare_string.f a b = some (if tless a b = true then -1 else if tless b a = true then 1 else 0) := by
  unfold cmp_Compare_string.f cmp_isNaN_string.f tless
  simp only [bne_self_eq_false, Option.bind_some, Bool.false_eq_true, if_false]
  split
  · rfl
  · split <;> rfl
theorem compareI_ev (a b : Int) : cmp_Compare_int64.f a b = some (if a < b then -1 else if b < a then 1 else 0) := by
  unfold cmp_Compare_int64.f cmp_isNaN_int64.f
  simp only [bne_self_eq_false, Option.bind_some, Bool.false_eq_true, if_false]
  split
  · rfl
  · by_cases h : b < a
    · rw [if_pos h, if_pos h]
    · rw [if_neg h, if_neg h]
theorem orInt_ev : ∀ (n : Nat) (l : List Int), l.length = n → n < 1000 → Ev (fun k => cmp_Or_int.f k l) ((l.find? fun x => x != 0).getD 0) := by
  intro n l hn hb
  have key : ∀ i, i ≤ l.length → Ev (fun k => cmp_Or_int.l0 k 0 l (l.length : Int) (i : Int)) (((l.drop i).find? fun x => x != 0).getD 0) := by
    refine downTo l.length ?_ ?_
    · refine Ev.step (fun k => cmp_Or_int.l0.eq_2 ..) (Ev.neg (by omega) ?_)
      rw [List.drop_length]
      exact Ev.now _
    · intro i hi ih
      have hr : rd l (i : Int) = l[i] := by
        unfold rd
        rw [Int.toNat_natCast, List.getD_eq_getElem?_getD, List.getElem?_eq_getElem hi]
        rfl
      rw [List.drop_eq_getElem_cons hi]
      refine Ev.step (fun k => cmp_Or_int.l0.eq_2 ..) (Ev.pos (by omega) (Ev.pos (by omega) (Ev.pos (by omega) ?_)))
      rw [hr, wsucc (by omega)]
      by_cases c : l[i] = 0
      · refine Ev.pos c ?_
        rw [List.find?_cons_of_neg (by simp [c])]
        exact ih
      · refine Ev.neg c ?_
        rw [List.find?_cons_of_pos (by simp [c])]
        exact Ev.now _
  exact key 0 (Nat.zero_le _)
def kcmp (u : ByteArray) (q d : Int) (u' : ByteArray) (q' d' : Int) : Int :=
  if tless u u' = true then -1 else if tless u' u = true then 1 else if q' < q then -1 else if q < q' then 1 else if d' < d then -1 else if d < d' then 1 else 0
theorem cmpKeys_ev (u : ByteArray) (q d : Int) (u' : ByteArray) (q' d' : Int) : Ev (fun k => impl_cmpKeys.f k u q d u' q' d') (kcmp u q d u' q' d') := by
  have h1 := compareS_ev u u'
  have h2 := compareI_ev q' q
  have h3 := compareI_ev d' d
  unfold impl_cmpKeys.f
  refine Ev.bindS h1 (Ev.bindS h2 (Ev.bindS h3 (Ev.bind (orInt_ev 3 _ rfl (by omega)) ((Ev.now _).eqr ?_))))
  unfold kcmp
  by_cases c1 : tless u u' = true
  · simp [c1]
  · by_cases c2 : tless u' u = true
    · simp [c1, c2]
    · by_cases c3 : q' < q
      · simp [c1, c2, c3]
      · by_cases c4 : q < q'
        · simp [c1, c2, c3, c4]
        · by_cases c5 : d' < d
          · simp [c1, c2, c3, c4, c5]
          · by_cases c6 : d < d'
            · simp [c1, c2, c3, c4, c5, c6]
            · simp [c1, c2, c3, c4, c5, c6]
theorem sKeyCmp_ev (u : ByteArray) (q d : Int) (u' : ByteArray) (q' d' : Int) : Ev (fun k => spec_KeyCmp.f k u q d u' q' d') (if isK u q d ∧ isK u' q' d' then kcmp u q d u' q' d' else 0) := by
  have h1 := sKeyOk_ev u q d
  have h2 := sKeyOk_ev u' q' d'
  have jt : Ev (fun k => spec_KeyCmp.j0 k true u q d u' q' d') 0 := Ev.step (fun k => spec_KeyCmp.j0.eq_2 ..) (Ev.pos rfl (Ev.now _))
  unfold spec_KeyCmp.f
  refine Ev.bindS h1 ?_
  by_cases c1 : isK u q d
  · refine Ev.pos (decide_eq_true c1) (Ev.bindS h2 ?_)
    by_cases c2 : isK u' q' d'
    · rw [decide_eq_true c2]
      refine Ev.eqr ?_ (if_pos ⟨c1, c2⟩).symm
      refine Ev.step (fun k => spec_KeyCmp.j0.eq_2 ..) (Ev.neg (by decide) ?_)
      have e : ∀ a b : ByteArray, Op.bytesLess a.toList b.toList = tless a b := fun _ _ => rfl
      rw [e]
      unfold kcmp
      by_cases k1 : tless u u' = true
      · have hne : u.toList ≠ u'.toList := fun h => by rw [← e, h, bl_irrefl] at k1; cases k1
        exact Ev.neg (by simp [hne]) (Ev.pos k1 ((Ev.now _).eqr (if_pos k1).symm))
      · by_cases k2 : tless u' u = true
        · have hne : u.toList ≠ u'.toList := fun h => by rw [← e, h, bl_irrefl] at k2; cases k2
          exact Ev.neg (by simp [hne]) (Ev.neg k1 (Ev.neg hne ((Ev.now _).eqr (by rw [if_neg k1, if_pos k2]))))
        · have heq : u.toList = u'.toList := bl_eq (by simpa [tless] using k1) (by simpa [tless] using k2)
          refine Ev.eqr ?_ (show (if q' < q then (-1 : Int) else if q < q' then 1 else if d' < d then -1 else if d < d' then 1 else 0) = _ from by rw [if_neg k1, if_neg k2])
          by_cases ce : q = q' ∧ d = d'
          · refine Ev.pos (by simp [heq, ce.1, ce.2]) ((Ev.now _).eqr ?_)
            rw [if_neg (by omega), if_neg (by omega), if_neg (by omega), if_neg (by omega)]
          · refine Ev.neg (by simp [heq]; omega) (Ev.neg k1 (Ev.pos heq ?_))
            by_cases k3 : q > q'
            · exact Ev.pos k3 ((Ev.now _).eqr (by rw [if_pos (by omega)]))
            · refine Ev.neg k3 ?_
              by_cases k4 : q = q'
              · refine Ev.pos k4 ?_
                by_cases k5 : d > d'
                · exact Ev.pos k5 ((Ev.now _).eqr (by rw [if_neg (by omega), if_neg (by omega), if_pos (by omega)]))
                · exact Ev.neg k5 ((Ev.now _).eqr (by rw [if_neg (by omega), if_neg (by omega), if_neg (by omega), if_pos (by omega)]))
              · exact Ev.neg k4 ((Ev.now _).eqr (by rw [if_neg (by omega), if_pos (by omega)]))
    · rw [decide_eq_false c2]
      exact jt.eqr (if_neg fun h => c2 h.2).symm
  · exact Ev.neg (by simpa using c1) (jt.eqr (if_neg fun h => c1 h.1).symm)
theorem kcmp_lt (u : ByteArray) (q d : Int) (u' : ByteArray) (q' d' : Int) : kcmp u q d u' q' d' < 0 ↔ tless u u' = true ∨ u = u' ∧ (q' < q ∨ q = q' ∧ d' < d) := by
  unfold kcmp
  by_cases k1 : tless u u' = true
  · simp [k1]
  · by_cases k2 : tless u' u = true
    · have hne : u ≠ u' := fun h => by rw [h] at k2; rw [tless, bl_irrefl] at k2; cases k2
      simp [k1, k2, hne]
    · have heq : u = u' := by
        have := bl_eq (a := u.toList) (b := u'.toList) (by simpa [tless] using k1) (by simpa [tless] using k2)
        rw [ByteArray.toList_eq, ByteArray.toList_eq] at this
        exact ByteArray.ext (Array.toList_inj.1 this)
      rw [if_neg k1, if_neg k2]
      subst heq
      simp only [k1, true_and, false_or]
      by_cases h1 : q' < q
      · simp [h1]
      · by_cases h2 : q < q'
        · rw [if_neg h1, if_pos h2]; constructor
          · intro h; omega
          · intro h; simp at h; omega
        · by_cases h3 : d' < d
          · rw [if_neg h1, if_neg h2, if_pos h3]; simp; omega
          · rw [if_neg h1, if_neg h2, if_neg h3]
            constructor
            · intro h; split at h <;> omega
            · intro h; simp at h; omega
def isEx (x : S64) : Prop := isE x.f0.f0 x.f0.f1 x.f0.f2 x.f1
instance (x : S64) : Decidable (isEx x) := by unfold isEx; infer_instance
def ecmp (x y : S64) : Int := kcmp x.f0.f0 x.f0.f1 x.f0.f2 y.f0.f0 y.f0.f1 y.f0.f2
theorem rdE (l : List S64) (i : Nat) (h : i < l.length) : rd_T64 l (i : Int) = l[i] := by
  unfold rd_T64
  rw [Int.toNat_natCast, List.getD_eq_getElem?_getD, List.getElem?_eq_getElem h]
  rfl
def rowFrom (l : List S64) (i : Nat) : Prop := ∀ j, i ≤ j → ∀ h : j < l.length, isEx l[j] ∧ (0 < j → ecmp (l[j - 1]'(by omega)) l[j] < 0)
noncomputable instance (l : List S64) (i : Nat) : Decidable (rowFrom l i) := Classical.propDecidable _
def isRow (l : List S64) : Prop := l.length ≤ 400 ∧ rowFrom l 0
noncomputable instance (l : List S64) : Decidable (isRow l) := Classical.propDecidable _
theorem rowFrom_step (l : List S64) (i : Nat) (h : i < l.length) : rowFrom l i ↔ (isEx l[i] ∧ (0 < i → ecmp (l[i - 1]'(by omega)) l[i] < 0)) ∧ rowFrom l (i + 1) := by
  constructor
  · exact fun hr => ⟨hr i (Nat.le_refl _) h, fun j hj hl => hr j (by omega) hl⟩
  · rintro ⟨h1, h2⟩ j hj hl
    by_cases e : j = i
    · subst e; exact h1
    · exact h2 j (by omega) hl
theorem entriesOk_ev (l : List S64) (hl : l.length < 2097152) : Ev (fun k => impl_EntriesOk.f k l) (decide (isRow l)) := by
  unfold impl_EntriesOk.f
  by_cases c : (l.length : Int) > 400
  · exact Ev.pos c ((Ev.now _).eqr (decide_eq_false fun h => by have := h.1; omega).symm)
  · have key : ∀ i, i ≤ l.length → (∀ h : 0 < i, isEx (l.getD (i - 1) z64)) → Ev (fun k => impl_EntriesOk.l0 k l l (l.length : Int) (i : Int)) (decide (rowFrom l i)) := by
      refine downTo l.length ?_ ?_
      · intro _
        exact Ev.step (fun k => impl_EntriesOk.l0.eq_2 ..) (Ev.neg (by omega) ((Ev.now _).eqr (decide_eq_true (show rowFrom l l.length from fun j h1 h2 => by omega)).symm))
      · intro i hi ih hp
        have hg : l.getD (i + 1 - 1) z64 = l[i] := by rw [Nat.add_sub_cancel, List.getD_eq_getElem?_getD, List.getElem?_eq_getElem hi]; rfl
        refine Ev.step (fun k => impl_EntriesOk.l0.eq_2 ..) (Ev.pos (by omega) (Ev.pos (by omega) ?_))
        refine Ev.pos (by omega) ?_
        rw [rdE l i hi]
        refine Ev.bindS (entryOk_ev l[i].f0.f0 l[i].f0.f1 l[i].f0.f2 l[i].f1) ?_
        by_cases ce : isE l[i].f0.f0 l[i].f0.f1 l[i].f0.f2 l[i].f1
        · refine Ev.pos (decide_eq_true ce) ?_
          have ih := ih (fun _ => by rw [hg]; exact ce)
          by_cases c0 : (i : Int) > 0
          · have hw : wrap64 ((i : Int) - 1) = ((i - 1 : Nat) : Int) := by rw [wid (by omega) (by omega)]; omega
            rw [hw, rdE l (i - 1) (by omega)]
            have hq := hp (by omega)
            rw [show l.getD (i - 1) z64 = l[i - 1]'(by omega) from by rw [List.getD_eq_getElem?_getD, List.getElem?_eq_getElem (by omega)]; rfl] at hq
            refine Ev.pos c0 (Ev.pos (by omega) (Ev.pos (by omega) (Ev.bind (cmpKeys_ev _ _ _ _ _ _) ?_)))
            skip
            by_cases cc : ecmp (l[i - 1]'(by omega)) l[i] ≥ 0
            · exact Ev.pos cc ((Ev.now _).eqr (decide_eq_false fun h => by have := ((rowFrom_step l i hi).1 h).1.2 (by omega); omega).symm)
            · refine Ev.neg cc ?_
              rw [wsucc (by omega)]
              exact ih.eqr (decide_eq_decide.2 ⟨fun h => (rowFrom_step l i hi).2 ⟨⟨ce, fun _ => by omega⟩, h⟩, fun h => ((rowFrom_step l i hi).1 h).2⟩)
          · refine Ev.neg c0 ?_
            rw [wsucc (by omega)]
            exact ih.eqr (decide_eq_decide.2 ⟨fun h => (rowFrom_step l i hi).2 ⟨⟨ce, fun _ => by omega⟩, h⟩, fun h => ((rowFrom_step l i hi).1 h).2⟩)
        · exact Ev.neg (by simpa using ce) ((Ev.now _).eqr (decide_eq_false fun h => ce ((rowFrom_step l i hi).1 h).1.1).symm)
    exact Ev.neg c ((key 0 (Nat.zero_le _) (fun h => absurd h (by omega))).eqr (decide_eq_decide.2 ⟨fun h => ⟨by omega, h⟩, fun h => h.2⟩))
theorem sEntriesOk_ev (l : List S64) (hl : l.length < 2097152) : Ev (fun k => spec_EntriesOk.f k l) (decide (isRow l)) := by
  unfold spec_EntriesOk.f
  by_cases c : (l.length : Int) > 400
  · exact Ev.pos c ((Ev.now _).eqr (decide_eq_false fun h => by have := h.1; omega).symm)
  · have key : ∀ i, i ≤ l.length → (∀ h : 0 < i, isEx (l.getD (i - 1) z64)) → Ev (fun k => spec_EntriesOk.l0 k l (i : Int)) (decide (rowFrom l i)) := by
      refine downTo l.length ?_ ?_
      · intro _
        exact Ev.step (fun k => spec_EntriesOk.l0.eq_2 ..) (Ev.neg (by omega) ((Ev.now _).eqr (decide_eq_true (show rowFrom l l.length from fun j h1 h2 => by omega)).symm))
      · intro i hi ih hp
        have hg : l.getD (i + 1 - 1) z64 = l[i] := by rw [Nat.add_sub_cancel, List.getD_eq_getElem?_getD, List.getElem?_eq_getElem hi]; rfl
        refine Ev.step (fun k => spec_EntriesOk.l0.eq_2 ..) (Ev.pos (by omega) (Ev.pos (by omega) ?_))
        rw [rdE l i hi]
        refine Ev.bindS (sEntryOk_ev l[i].f0.f0 l[i].f0.f1 l[i].f0.f2 l[i].f1) ?_
        by_cases ce : isE l[i].f0.f0 l[i].f0.f1 l[i].f0.f2 l[i].f1
        · refine Ev.pos (decide_eq_true ce) ?_
          have ih := ih (fun _ => by rw [hg]; exact ce)
          by_cases c0 : (i : Int) > 0
          · have hw : wrap64 ((i : Int) - 1) = ((i - 1 : Nat) : Int) := by rw [wid (by omega) (by omega)]; omega
            rw [hw, rdE l (i - 1) (by omega)]
            have hq := hp (by omega)
            rw [show l.getD (i - 1) z64 = l[i - 1]'(by omega) from by rw [List.getD_eq_getElem?_getD, List.getElem?_eq_getElem (by omega)]; rfl] at hq
            refine Ev.pos c0 (Ev.pos (by omega) (Ev.pos (by omega) (Ev.bind (sKeyCmp_ev _ _ _ _ _ _) ?_)))
            rw [if_pos ⟨hq.1, ce.1⟩]
            by_cases cc : ecmp (l[i - 1]'(by omega)) l[i] ≥ 0
            · exact Ev.pos cc ((Ev.now _).eqr (decide_eq_false fun h => by have := ((rowFrom_step l i hi).1 h).1.2 (by omega); omega).symm)
            · refine Ev.neg cc ?_
              rw [wsucc (by omega)]
              exact ih.eqr (decide_eq_decide.2 ⟨fun h => (rowFrom_step l i hi).2 ⟨⟨ce, fun _ => by omega⟩, h⟩, fun h => ((rowFrom_step l i hi).1 h).2⟩)
          · refine Ev.neg c0 ?_
            rw [wsucc (by omega)]
            exact ih.eqr (decide_eq_decide.2 ⟨fun h => (rowFrom_step l i hi).2 ⟨⟨ce, fun _ => by omega⟩, h⟩, fun h => ((rowFrom_step l i hi).1 h).2⟩)
        · exact Ev.neg (by simpa using ce) ((Ev.now _).eqr (decide_eq_false fun h => ce ((rowFrom_step l i hi).1 h).1.1).symm)
    exact Ev.neg c ((key 0 (Nat.zero_le _) (fun h => absurd h (by omega))).eqr (decide_eq_decide.2 ⟨fun h => ⟨by omega, h⟩, fun h => h.2⟩))
end Go.Proofs.Ytidjdkodgddfcaa.P
end

section
namespace Go.Proofs.Ytidjdkodgddfcaa.P
open Go.RowKit Go.Proofs.YtidjdkodgddfcaaW.PrintWords Go.Proofs.YtidjdkodgddfcaaW.PrintLast Go.Proofs.YtidjdkodgddfcaaW.PrintMore
attribute [local go_sem] str_gtr str_leq str_geq max2_int min2_int max_two min_two max_three min_three max_four min_four
set_option linter.unusedVariables false
set_option linter.unusedSimpArgs false
theorem kcmp_trans {u u' u'' : ByteArray} {q d q' d' q'' d'' : Int} (h1 : kcmp u q d u' q' d' < 0) (h2 : kcmp u' q' d' u'' q'' d'' < 0) : kcmp u q d u'' q'' d'' < 0 := by
  rw [kcmp_lt] at *
  rcases h1 with h1 | ⟨rfl, h1⟩
  · rcases h2 with h2 | ⟨rfl, h2⟩
    · exact .inl (bl_trans h1 h2)
    · exact .inl h1
  · rcases h2 with h2 | ⟨rfl, h2⟩
    · exact .inl h2
    · exact .inr ⟨rfl, by omega⟩
theorem getD_at {α : Type} (l : List α) (i : Nat) (d : α) (h : i < l.length) : l.getD i d = l[i] := by
  rw [List.getD_eq_getElem?_getD, List.getElem?_eq_getElem h]
  rfl
def bsc (l : List S64) (y : S64) : Nat := l.findIdx fun x => decide (0 ≤ ecmp x y)
end Go.Proofs.Ytidjdkodgddfcaa.P
end
