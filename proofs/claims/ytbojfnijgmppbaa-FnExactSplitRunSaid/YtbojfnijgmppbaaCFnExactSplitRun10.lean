/- Proved: the law FnExactSplitRun of the given program returns true for every input of its Go types and leaves each argument as it was; no condition. (Part 11 of 12.) -/
import Derived.Test.YtbojfnijgmppbaaCFnExactSplitRun4
import Derived.Test.YtbojfnijgmppbaaCFnExactSplitRun9
import Derived.Lib.EndianBits
import Derived.Test.YtbojfnijgmppbaaCFnExactSplitRun6
import Derived.Test.YtbojfnijgmppbaaCFnExactSplitRun8
import Derived.Test.YtbojfnijgmppbaaCFnExactSplitRun5
section
namespace Go.Proofs.Ytbojfnijgmppbaa.P
open Go.RowKit Go.Proofs.YtbojfnijgmppbaaW.PrintWords Go.Proofs.YtbojfnijgmppbaaW.PrintLast Go.Proofs.YtbojfnijgmppbaaW.PrintMore
attribute [local go_sem] str_gtr str_leq str_geq max2_int min2_int max_two min_two max_three min_three max_four min_four
set_option linter.unusedVariables false
set_option linter.unusedSimpArgs false
def okp (l : List Int) (p : Int) : Prop := 0 ≤ p ∧ p ≤ (l.length : Int)
theorem eqA76 (d : Nat) (w : World) (x0 y0 : ByteArray) (x1 y1 : ByteArray) :
    (Op.equalIn (d + 2) 76 (.agg #[.string x0, .string x1]) (.agg #[.string y0, .string y1])).run Try.prog w = .ok (x0.toList == y0.toList && (x1.toList == y1.toList)) w := by
  refine eqA_of Try.underlying76 (by kernel_rfl) ?_
  refine eqf_cons (by rfl) (by go_simp; rfl) (by go_simp; rfl) (by go_simp) ?_
  exact eqf_last (by rfl) (by go_simp; rfl) (by go_simp; rfl) (by go_simp)
end Go.Proofs.Ytbojfnijgmppbaa.P
end

section
namespace Go.Proofs.Ytbojfnijgmppbaa.Pure
open Go.RowKit Go.Proofs.YtbojfnijgmppbaaW.PrintWords Go.Proofs.YtbojfnijgmppbaaW.PrintLast Go.Proofs.YtbojfnijgmppbaaW.PrintMore
open Go.Proofs.Ytbojfnijgmppbaa.P
set_option linter.unusedVariables false
set_option linter.unusedSimpArgs false
def spGo (most : Int) : List S48 → S48 → List S48 → List (List S48)
  | cur, e, [] => [cur ++ [e]]
  | cur, e, x :: xs => if ((cur ++ [e]).length : Int) ≥ most ∧ x.f0.f0.toList ≠ e.f0.f0.toList then (cur ++ [e]) :: spGo most [] x xs else spGo most (cur ++ [e]) x xs
noncomputable def spAll (l : List S48) (most : Int) : List (List S48) := match l with
  | [] => []
  | e :: es => spGo most [] e es
def mkRun (l : List S48) : S44 := ⟨l⟩
theorem eta_e (e : S48) : (⟨⟨e.f0.f0, e.f0.f1, e.f0.f2⟩, e.f1⟩ : S48) = e := rfl
theorem iSplit_ev (l : List S48) (hl : l.length ≤ 400) (most : Int) : Ev (fun k => impl_SplitRun.l0 k l most [] [] l (l.length : Int) 0) ((spAll l most).map mkRun) := by
  have fin : ∀ out own, Ev (fun k => impl_SplitRun.l0 k l most out own l (l.length : Int) (l.length : Int)) out := fun out own => by
    refine Ev.step (fun k => impl_SplitRun.l0.eq_2 ..) ?_
    exact Ev.neg (by omega) (Ev.now _)
  cases l with
  | nil => exact fin [] []
  | cons e0 es0 =>
    generalize hL : e0 :: es0 = l at *
    have hpos : 0 < l.length := by rw [← hL]; simp
    have key : ∀ i, i < l.length → ∀ h : i < l.length, ∀ (out : List S44) (own : List S48), out.length ≤ i → own.length ≤ i → Ev (fun k => impl_SplitRun.l0 k l most out own l (l.length : Int) (i : Int)) (out ++ (spGo most own l[i] (l.drop (i + 1))).map mkRun) := by
      have step : ∀ d i, i + d + 1 = l.length → ∀ h : i < l.length, ∀ (out : List S44) (own : List S48), out.length ≤ i → own.length ≤ i → Ev (fun k => impl_SplitRun.l0 k l most out own l (l.length : Int) (i : Int)) (out ++ (spGo most own l[i] (l.drop (i + 1))).map mkRun) := by
        intro d
        induction d with
        | zero =>
          intro i hi h out own ho hw
          rw [List.drop_eq_nil_of_le (by omega)]
          refine Ev.step (fun k => impl_SplitRun.l0.eq_2 ..) ?_
          rw [rdE l i h, eta_e]
          refine Ev.pos (by omega) (Ev.pos (by omega) (Ev.pos (by omega) (Ev.pos (by omega) (Ev.bindS rfl (Ev.pos ?_ (Ev.pos (by omega) ?_))))))
          · rw [wid (by omega) (by omega)]; omega
          · rw [wsucc (by omega), show i + 1 = l.length from by omega]
            exact fin _ _
        | succ d ih =>
          intro i hi h out own ho hw
          have h1 : i + 1 < l.length := by omega
          rw [List.drop_eq_getElem_cons h1]
          refine Ev.step (fun k => impl_SplitRun.l0.eq_2 ..) ?_
          rw [rdE l i h, eta_e, wsucc (show i < 4611686018427387904 by omega), rdE l (i + 1) h1]
          refine Ev.pos (by omega) (Ev.pos (by omega) (Ev.pos (by omega) (Ev.pos (by omega) (Ev.bindS rfl (Ev.neg ?_ ?_)))))
          · rw [wid (by omega) (by omega)]; omega
          by_cases c : ((own ++ [l[i]]).length : Int) ≥ most
          · refine Ev.pos c (Ev.pos (by omega) (Ev.pos (by omega) ?_))
            by_cases c2 : l[i + 1].f0.f0.toList = l[i].f0.f0.toList
            · refine Ev.pos c2 ?_
              rw [spGo, if_neg (fun q => q.2 c2)]
              exact ih (i + 1) (by omega) h1 out _ (by omega) (by rw [List.length_append]; simp only [List.length_cons, List.length_nil]; omega)
            · refine Ev.neg c2 (Ev.pos (by omega) ?_)
              rw [spGo, if_pos ⟨c, c2⟩, List.map_cons]
              refine (ih (i + 1) (by omega) h1 (out ++ [⟨own ++ [l[i]]⟩]) [] (by rw [List.length_append]; simp only [List.length_cons, List.length_nil]; omega) (by simp)).eqr ?_
              rw [List.append_assoc]
              rfl
          · refine Ev.neg c ?_
            rw [spGo, if_neg (fun q => c q.1)]
            exact ih (i + 1) (by omega) h1 out _ (by omega) (by rw [List.length_append]; simp only [List.length_cons, List.length_nil]; omega)
      intro i hi h out own ho hw
      exact step (l.length - i - 1) i (by omega) h out own ho hw
    refine (key 0 hpos hpos [] [] (by simp) (by simp)).eqr ?_
    subst hL
    rfl
theorem rdR_last (out : List S44) (c : List S48) : rd_T44 (out ++ [⟨c⟩]) (out.length : Int) = ⟨c⟩ := by
  unfold rd_T44
  rw [Int.toNat_natCast, List.getD_eq_getElem?_getD, List.getElem?_append_right (Nat.le_refl _), Nat.sub_self]
  rfl
theorem lt_last {α : Type} (A : List α) (x : α) : (A.length : Int) < ((A ++ [x]).length : Int) := by rw [List.length_append]; simp only [List.length_cons, List.length_nil]; omega
theorem set_last (out : List S44) (c c' : S44) : (out ++ [c]).set out.length c' = out ++ [c'] := by
  rw [List.set_append_right _ _ (Nat.le_refl _), Nat.sub_self]
  rfl
theorem sSplit_ev (l : List S48) (hl : l.length ≤ 400) (most : Int) : Ev (fun k => spec_SplitRun.l0 k l most [] 0) ((spAll l most).map mkRun) := by
  have key : ∀ d i, i + d = l.length → ∀ (out : List S44) (cur : List S48) (h : 0 < i) (h2 : i - 1 < l.length), out.length < i → cur.length < i → Ev (fun k => spec_SplitRun.l0 k l most (out ++ [⟨cur ++ [l[i - 1]]⟩]) (i : Int)) (out ++ (spGo most cur l[i - 1] (l.drop i)).map mkRun) := by
    intro d
    induction d with
    | zero =>
      intro i hi out cur h h2 ho hw
      refine Ev.step (fun k => spec_SplitRun.l0.eq_2 ..) ?_
      rw [List.drop_eq_nil_of_le (by omega)]
      exact Ev.neg (by omega) (Ev.now _)
    | succ d ih =>
      intro i hi out cur h h2 ho hw
      have h1 : i < l.length := by omega
      have hlen : ((out ++ [(⟨cur ++ [l[i - 1]]⟩ : S44)]).length : Int) = (out.length : Int) + 1 := by simp
      have hw1 : wrap64 (((out ++ [(⟨cur ++ [l[i - 1]]⟩ : S44)]).length : Int) - 1) = (out.length : Int) := by rw [hlen, wid (by omega) (by omega)]; omega
      have hw2 : wrap64 ((i : Int) - 1) = ((i - 1 : Nat) : Int) := by rw [wid (by omega) (by omega)]; omega
      have hcl : (cur ++ [l[i - 1]]).length = cur.length + 1 := by simp
      rw [List.drop_eq_getElem_cons h1]
      refine Ev.step (fun k => spec_SplitRun.l0.eq_2 ..) ?_
      rw [hw1, hw2, rdE l i h1, rdE l (i - 1) h2, eta_e, rdR_last, wsucc (show i < 4611686018427387904 by omega), Int.toNat_natCast, set_last]
      refine Ev.pos (by omega) (Ev.neg (by omega) (Ev.pos (by omega) (Ev.pos (by omega) ?_)))
      by_cases c : ((cur ++ [l[i - 1]]).length : Int) ≥ most
      · refine Ev.pos c (Ev.pos (by omega) (Ev.pos (by omega) (Ev.pos (by omega) ?_)))
        by_cases c2 : l[i - 1].f0.f0.toList = l[i].f0.f0.toList
        · refine Ev.pos c2 (Ev.pos (by show (cur ++ [l[i - 1]]).length < _; omega) ?_)
          rw [spGo, if_neg (fun q => q.2 c2.symm)]
          have := ih (i + 1) (by omega) out (cur ++ [l[i - 1]]) (by omega) (by omega) (by omega) (by omega)
          exact this
        · refine Ev.neg c2 (Ev.pos (by omega) (Ev.bindS rfl ?_))
          have hw3 : wrap64 ((out.length : Int) + 1) = ((out ++ [(⟨cur ++ [l[i - 1]]⟩ : S44)]).length : Int) := by rw [hlen, wid (by omega) (by omega)]
          rw [hw3, rdR_last (out ++ [(⟨cur ++ [l[i - 1]]⟩ : S44)]) [], Int.toNat_natCast, set_last (out ++ [(⟨cur ++ [l[i - 1]]⟩ : S44)])]
          have hz0 : ([] : List S48).length < 2932031007402 := by rw [List.length_nil]; omega
          refine Ev.pos (Int.natCast_nonneg _) ?_
          refine Ev.pos (lt_last _ _) ?_
          refine Ev.pos hz0 ?_
          rw [spGo, if_pos ⟨c, fun q => c2 q.symm⟩, List.map_cons]
          have := ih (i + 1) (by omega) (out ++ [(⟨cur ++ [l[i - 1]]⟩ : S44)]) [] (by omega) (by omega) (by simp; omega) (by simp)
          refine Ev.eqr this ?_
          rw [List.append_assoc]
          rfl
      · refine Ev.neg c (Ev.pos (by omega) (Ev.pos (by show (cur ++ [l[i - 1]]).length < _; omega) ?_))
        rw [spGo, if_neg (fun q => c q.1)]
        have := ih (i + 1) (by omega) out (cur ++ [l[i - 1]]) (by omega) (by omega) (by omega) (by omega)
        exact this
  cases l with
  | nil =>
    refine Ev.step (fun k => spec_SplitRun.l0.eq_2 ..) ?_
    exact Ev.neg (by simp) (Ev.now _)
  | cons e es =>
    refine Ev.step (fun k => spec_SplitRun.l0.eq_2 ..) ?_
    have hr := rdE (e :: es) 0 (by simp)
    have hr : rd_T48 (e :: es) 0 = e := hr
    rw [hr, eta_e]
    refine Ev.pos (by rw [List.length_cons]; omega) (Ev.pos rfl (Ev.pos (by simp) (Ev.bindS rfl ?_)))
    have hz : wrap64 (wrap64 ((([] : List S44).length : Int) - 1) + 1) = 0 := by rw [show (([] : List S44).length : Int) = 0 from rfl, wid (x := (0 : Int) - 1) (by omega) (by omega), wid (by omega) (by omega)]; omega
    rw [hz]
    refine Ev.pos (by omega) (Ev.pos (by simp) (Ev.pos (by omega) (Ev.pos (by show (0 : Nat) < _; omega) ?_)))
    rw [show wrap64 ((0 : Int) + 1) = ((1 : Nat) : Int) from by rw [wid (by omega) (by omega)]; rfl]
    have := key es.length 1 (by simp; omega) [] [] (by omega) (by simp) (by simp) (by simp)
    exact this
theorem split_evs2 (l : List S48) (hl : l.length < 2097152) (most : Int) : ∃ r, Ev (fun k => impl_SplitRun.f k l most) r ∧ Ev (fun k => spec_SplitRun.f k l most) r ∧ (isRow l → 1 ≤ most → r = (spAll l most).map mkRun) ∧ (r = [] ∨ l.length ≤ 400 ∧ r = (spAll l most).map mkRun) := by
  have jt1 : Ev (fun k => impl_SplitRun.j0 k l most true) [] := by
    refine Ev.step (fun k => impl_SplitRun.j0.eq_2 ..) ?_
    exact Ev.pos rfl (Ev.now _)
  have jt2 : Ev (fun k => spec_SplitRun.j0 k l most [] true) [] := by
    refine Ev.step (fun k => spec_SplitRun.j0.eq_2 ..) ?_
    exact Ev.pos rfl (Ev.now _)
  unfold impl_SplitRun.f spec_SplitRun.f
  by_cases c : isRow l
  · by_cases c2 : most < 1
    · refine ⟨[], Ev.bind (entriesOk_ev l hl) (Ev.pos (decide_eq_true c) ?_), Ev.bindS rfl (Ev.bind (sEntriesOk_ev l hl) (Ev.pos (decide_eq_true c) ?_)), fun _ h => by omega, .inl rfl⟩
      · rw [decide_eq_true c2]; exact jt1
      · rw [decide_eq_true c2]; exact jt2
    · refine ⟨(spAll l most).map mkRun, Ev.bind (entriesOk_ev l hl) (Ev.pos (decide_eq_true c) ?_), Ev.bindS rfl (Ev.bind (sEntriesOk_ev l hl) (Ev.pos (decide_eq_true c) ?_)), fun _ _ => rfl, .inr ⟨c.1, rfl⟩⟩
      · rw [decide_eq_false c2]
        refine Ev.step (fun k => impl_SplitRun.j0.eq_2 ..) ?_
        exact Ev.neg (by decide) (iSplit_ev l c.1 most)
      · rw [decide_eq_false c2]
        refine Ev.step (fun k => spec_SplitRun.j0.eq_2 ..) ?_
        exact Ev.neg (by decide) (sSplit_ev l c.1 most)
  · exact ⟨[], Ev.bind (entriesOk_ev l hl) (Ev.neg (by simpa using c) jt1), Ev.bindS rfl (Ev.bind (sEntriesOk_ev l hl) (Ev.neg (by simpa using c) jt2)), fun h => absurd h c, .inl rfl⟩
end Go.Proofs.Ytbojfnijgmppbaa.Pure
end

section
namespace Go.Proofs.Ytbojfnijgmppbaa.Pure
open Go.RowKit Go.Proofs.YtbojfnijgmppbaaW.PrintWords Go.Proofs.YtbojfnijgmppbaaW.PrintLast Go.Proofs.YtbojfnijgmppbaaW.PrintMore
open Go.Proofs.Ytbojfnijgmppbaa.P
set_option linter.unusedVariables false
set_option linter.unusedSimpArgs false
theorem spGo_total (most : Int) : ∀ (xs : List S48) (cur : List S48) (e : S48), total ((spGo most cur e xs).map mkRun) = cur.length + 1 + xs.length ∧ (spGo most cur e xs).length ≤ xs.length + 1
  | [], cur, e => by simp [spGo, total, mkRun]
  | x :: xs, cur, e => by
    rw [spGo]
    split
    · obtain ⟨h1, h2⟩ := spGo_total most xs [] x
      constructor
      · show (cur ++ [e]).length + total ((spGo most [] x xs).map mkRun) = _
        rw [h1]
        simp only [List.length_append, List.length_cons, List.length_nil]
        omega
      · simp only [List.length_cons]
        omega
    · obtain ⟨h1, h2⟩ := spGo_total most xs (cur ++ [e]) x
      rw [h1]
      simp only [List.length_append, List.length_cons, List.length_nil]
      omega
theorem mem_total : ∀ (l : List R_) (x : R_), x ∈ l → x.f0.length ≤ total l
  | y :: ys, x, h => by
    rcases List.mem_cons.1 h with h | h
    · rw [h]; show _ ≤ y.f0.length + total ys; omega
    · have := mem_total ys x h
      show _ ≤ y.f0.length + total ys
      omega
theorem FnExactSplitRun : ∀ (l0 : (List S56)) (a1 : Int), (l0.length ≤ 9223372036854775807 ∧ ∀ x ∈ l0, wf_Entry x) → (-9223372036854775808 ≤ a1 ∧ a1 ≤ 9223372036854775807) → Ev (fun k => laws_FnExactSplitRun.f k l0 a1) true := by
  intro l a hl _
  unfold laws_FnExactSplitRun.f
  obtain ⟨q, hq, hqa, hq2⟩ := szEntryS_ev l 1048576 hl.2 hl.1 (by omega) (by omega)
  rcases hq2 with rfl | ⟨hq0, hlen, _⟩
  · exact Ev.bind hq (Ev.pos (by omega) (Ev.now _))
  have hlm : (l.map cv_Entry).length < 2097152 := by rw [List.length_map]; omega
  obtain ⟨r, hi, hs, _, hr⟩ := split_evs2 (l.map cv_Entry) hlm a
  have hb : total r ≤ 400 ∧ r.length ≤ 400 := by
    rcases hr with rfl | ⟨h4, rfl⟩
    · exact ⟨by simp [total], by simp⟩
    · generalize l.map cv_Entry = L at h4
      cases L with
      | nil => exact ⟨by simp [spAll, total], by simp [spAll]⟩
      | cons e es =>
        obtain ⟨k1, k2⟩ := spGo_total a es [] e
        rw [List.length_cons] at h4
        constructor
        · show total ((spGo a [] e es).map mkRun) ≤ 400
          rw [k1]
          simp only [List.length_nil]
          omega
        · show ((spGo a [] e es).map mkRun).length ≤ 400
          rw [List.length_map]
          omega
  have hrl : ∀ x ∈ r, x.f0.length < 2097152 := fun x hx => by have := mem_total r x hx; omega
  have hm := markEntryS_ev (l.map cv_Entry) hlm 1 (by omega) (by omega)
  refine Ev.bind hq (Ev.neg (by omega) (Ev.bind (toEntryS_ev l (by omega)) (Ev.bind hs (Ev.bind hi (Ev.bind (eqRunS_ev r (by omega) hrl) (Ev.pos rfl (Ev.bind (eqEntryS_ev _ hlm) (Ev.pos rfl (Ev.bind hm (Ev.pos (by simp only []; omega) (Ev.bind (markRunS_ev r (by omega) hrl 1 (by omega) (by omega)) (Ev.bind (heldRunS_ev r (by omega) hrl 1 (by omega) (by omega)) (Ev.pos (by omega) (Ev.pos rfl (Ev.now _)))))))))))))))
end Go.Proofs.Ytbojfnijgmppbaa.Pure
end
