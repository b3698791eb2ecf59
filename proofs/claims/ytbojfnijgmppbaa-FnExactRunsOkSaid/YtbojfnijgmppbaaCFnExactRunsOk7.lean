/- Proved: the law FnExactRunsOk of the given program returns true for every input of its Go types and leaves each argument as it was; no condition. (Part 8 of 9.) -/
import Derived.Test.YtbojfnijgmppbaaCFnExactRunsOk4
import Derived.Test.YtbojfnijgmppbaaCFnExactRunsOk5
import Derived.ProofKit
import Derived.WideShapes
import Derived.DataReads
import Derived.ChangeArms
import Derived.Lib.SmallJoins
import Derived.Test.YtbojfnijgmppbaaCFnExactRunsOk6
section
namespace Go.Proofs.Ytbojfnijgmppbaa.P
open Go.RowKit Go.Proofs.YtbojfnijgmppbaaW.PrintWords Go.Proofs.YtbojfnijgmppbaaW.PrintLast Go.Proofs.YtbojfnijgmppbaaW.PrintMore
attribute [local go_sem] str_gtr str_leq str_geq max2_int min2_int max_two min_two max_three min_three max_four min_four
set_option linter.unusedVariables false
set_option linter.unusedSimpArgs false
def Opens {α : Type} (P : Program) (d : Kd α) (t : TypeId) (wf : α → Prop) : Prop :=
  ∀ {H : Type} (enc : TypeId × Value → H) (w : World) (fuel : Nat) (cs : List Value) (x : DataW H × List MemPlace), DataW.trod enc P w 0 (fun _ => true) true fuel t cs = some x → ∃ a, d.K w a cs ∧ wf a
theorem opens_i64 {P : Program} {t : TypeId} (ht : P.underlying t = some (.int .i64)) : Opens P (Kd.int .i64) t (fun n => -9223372036854775808 ≤ n ∧ n ≤ 9223372036854775807) := by
  intro H enc w fuel cs x h
  obtain ⟨n, rfl, _, hw⟩ := DataW.trod_int ht h
  exact ⟨n, rfl, by simpa [Lit.wf, IntKind.min, IntKind.max, IntKind.signed, IntKind.bits] using hw⟩
theorem opens_str {P : Program} {t : TypeId} (ht : P.underlying t = some .string) : Opens P Kd.string t (fun s => s.size ≤ 9223372036854775807) := by
  intro H enc w fuel cs x h
  obtain ⟨n, rfl, _, hw⟩ := DataW.trod_string ht h
  exact ⟨n, rfl, by simpa [Go.maxLen] using hw⟩
theorem choose_list {α : Type} (n : Nat) (Q : Nat → α → Prop) (h : ∀ j, j < n → ∃ a, Q j a) : ∃ l : List α, l.length = n ∧ ∀ j a, l[j]? = some a → Q j a := by
  induction n with
  | zero => exact ⟨[], rfl, fun j a h => by simp at h⟩
  | succ n ih =>
    obtain ⟨l, hl, hq⟩ := ih (fun j hj => h j (by omega))
    obtain ⟨a, ha⟩ := h n (by omega)
    refine ⟨l ++ [a], by simp [hl], fun j b hb => ?_⟩
    rcases Nat.lt_or_ge j l.length with hj | hj
    · rw [List.getElem?_append_left hj] at hb
      exact hq j b hb
    · rw [List.getElem?_append_right hj] at hb
      have hj0 : j - l.length = 0 := by
        rcases Nat.eq_zero_or_pos (j - l.length) with h0 | h0
        · exact h0
        · rw [List.getElem?_eq_none (by simp; omega)] at hb
          cases hb
      rw [hj0] at hb
      obtain rfl : a = b := by simpa using hb
      rw [show j = n from by omega]
      exact ha
theorem opens_slice {α : Type} {P : Program} {d : Kd α} {t e : TypeId} {wf : α → Prop} (ht : P.underlying t = some (.slice e)) (hsz : P.cellsOf e = d.sz) (h : Opens P d e wf) :
    Opens P (Kd.slice e d) t (fun l => l.length ≤ 9223372036854775807 ∧ ∀ x ∈ l, wf x) := by
  intro H enc w fuel cs x hx
  rcases DataW.trod_slice ht hx with ⟨rfl, _⟩ | ⟨a, len, cap, elems, rest, n, _, rfl, _, _, hlc, hcm, hel, hi, _, _⟩
  · exact ⟨[], ⟨none, 0, rfl, Nat.le_refl _, Kd.C_nil d w⟩, by simp, by simp⟩
  · obtain ⟨l, hl, hq⟩ := choose_list len (fun j x => wf x ∧ ∃ c, c.length = d.sz ∧ d.K w x c ∧ ∀ i u, c[i]? = some u → w.cell? (a.add (j * d.sz + i)) = some u) (fun j hj => by
      have h1 := hi j hj
      rw [List.getElem?_eq_getElem (show j < elems.length by omega), Option.bind_eq_some_iff] at h1
      obtain ⟨c, hc, hy⟩ := h1
      obtain ⟨x, hx, hw⟩ := h enc w n c _ hy
      obtain ⟨_, hlen, hcell⟩ := World.cells?_some hc
      refine ⟨x, hw, c, by rw [hlen, hsz], hx, fun i u hu => ?_⟩
      have hil : i < P.cellsOf e := by
        rw [← hlen]
        exact (List.getElem?_eq_some_iff.1 hu).1
      have := hcell i hil
      rw [hsz] at this
      rw [← hu, ← this, Addr.add_add])
    have hm : len ≤ 9223372036854775807 := by
      have : cap ≤ 9223372036854775807 := by simpa [Go.maxLen] using hcm
      omega
    refine ⟨l, ⟨some a, cap, by rw [hl], by omega, hl.trans hl.symm, by omega, fun _ => ⟨a, rfl, fun j p hp => (hq j p hp).2⟩⟩, by omega, fun x hx => ?_⟩
    obtain ⟨j, hj, rfl⟩ := List.getElem_of_mem hx
    exact (hq j _ (List.getElem?_eq_getElem hj)).1
end Go.Proofs.Ytbojfnijgmppbaa.P
end

section
namespace Go.Proofs.Ytbojfnijgmppbaa.P
open Go.RowKit Go.Proofs.YtbojfnijgmppbaaW.PrintWords Go.Proofs.YtbojfnijgmppbaaW.PrintLast Go.Proofs.YtbojfnijgmppbaaW.PrintMore
attribute [local go_sem] str_gtr str_leq str_geq max2_int min2_int max_two min_two max_three min_three max_four min_four
set_option linter.unusedVariables false
set_option linter.unusedSimpArgs false
def wf_Key (x : S54) : Prop := x.f0.size ≤ 9223372036854775807 ∧ -9223372036854775808 ≤ x.f1 ∧ x.f1 ≤ 9223372036854775807 ∧ -9223372036854775808 ≤ x.f2 ∧ x.f2 ≤ 9223372036854775807
def sm_Key (x : S54) : Prop := x.f0.size ≤ 1048576
theorem szKey_ev (x : S54) (a : Int) (hw : wf_Key x) (h0 : 0 ≤ a) (h1 : a ≤ 1048576) : ∃ r, laws_szKey.f (x.f0) (x.f1) (x.f2) a = some r ∧ r ≤ a ∧ (r = -1 ∨ 0 ≤ r ∧ sm_Key x) := by
  unfold wf_Key at hw
  unfold sm_Key
  unfold laws_szKey.f
  rw [wid (x := a - (x.f0.size : Int)) (by omega) (by omega)]
  by_cases c0 : a - (x.f0.size : Int) < 0
  · exact ⟨-1, by rw [if_pos c0], by omega, .inl rfl⟩
  · rw [if_neg c0]
    exact ⟨_, rfl, by omega, .inr ⟨by omega, by omega⟩⟩
def cv_Entry (x : S56) : S48 := ⟨⟨x.f0.f0, x.f0.f1, x.f0.f2⟩, x.f1⟩
def wf_Entry (x : S56) : Prop := x.f0.f0.size ≤ 9223372036854775807 ∧ -9223372036854775808 ≤ x.f0.f1 ∧ x.f0.f1 ≤ 9223372036854775807 ∧ -9223372036854775808 ≤ x.f0.f2 ∧ x.f0.f2 ≤ 9223372036854775807 ∧ x.f1.size ≤ 9223372036854775807
def sm_Entry (x : S56) : Prop := x.f0.f0.size ≤ 1048576 ∧ x.f1.size ≤ 1048576
theorem szEntry_ev (x : S56) (a : Int) (hw : wf_Entry x) (h0 : 0 ≤ a) (h1 : a ≤ 1048576) : ∃ r, laws_szEntry.f (x.f0.f0) (x.f0.f1) (x.f0.f2) (x.f1) a = some r ∧ r ≤ a ∧ (r = -1 ∨ 0 ≤ r ∧ sm_Entry x) := by
  unfold wf_Entry at hw
  unfold sm_Entry
  obtain ⟨q, hq, hqa, hq2⟩ := szKey_ev x.f0 a (by unfold wf_Key; exact ⟨hw.1, hw.2.1, hw.2.2.1, hw.2.2.2.1, hw.2.2.2.2.1⟩) h0 h1
  unfold sm_Key at hq2
  unfold laws_szEntry.f
  rw [hq]
  simp only [Option.bind_some]
  rcases hq2 with rfl | ⟨hq0, hq1⟩
  · exact ⟨-1, by simp, by omega, .inl rfl⟩
  · rw [if_neg (by omega), wid (by omega) (by omega)]
    by_cases c : q - (x.f1.size : Int) < 0
    · exact ⟨-1, by rw [if_pos c], by omega, .inl rfl⟩
    · exact ⟨_, by rw [if_neg c], by omega, .inr ⟨by omega, by omega, by omega⟩⟩
theorem szEntryS_ev (l : List S56) (a : Int) (hw : ∀ x ∈ l, wf_Entry x) (hl : l.length ≤ 9223372036854775807) (h0 : 0 ≤ a) (h1 : a ≤ 1048576) :
    ∃ r, Ev (fun k => laws_szEntryS.f k l a) r ∧ r ≤ a ∧ (r = -1 ∨ 0 ≤ r ∧ (l.length : Int) ≤ a ∧ ∀ x ∈ l, sm_Entry x) := by
  unfold laws_szEntryS.f
  rw [wid (x := a - (l.length : Int)) (by omega) (by omega)]
  by_cases c : a - (l.length : Int) < 0
  · exact ⟨-1, Ev.pos c (Ev.now _), by omega, .inl rfl⟩
  · have key : ∀ i, i ≤ l.length → ∀ b : Int, 0 ≤ b → b ≤ 1048576 → ∃ r, Ev (fun k => laws_szEntryS.l0 k l b (i : Int)) r ∧ r ≤ b ∧ (r = -1 ∨ 0 ≤ r ∧ ∀ j, i ≤ j → j < l.length → sm_Entry (l.getD j z56)) := by
      refine downTo l.length ?_ ?_
      · intro b hb _
        exact ⟨b, Ev.step (fun k => rfl) (Ev.neg (by omega) (Ev.now _)), by omega, .inr ⟨hb, fun j h1 h2 => by omega⟩⟩
      · intro i hi ih b hb hb1
        have hmem : l.getD i z56 ∈ l := by rw [List.getD_eq_getElem?_getD, List.getElem?_eq_getElem hi]; exact List.getElem_mem hi
        obtain ⟨q, hq, hqb, hq2⟩ := szEntry_ev (l.getD i z56) b (hw _ hmem) hb hb1
        rcases hq2 with rfl | ⟨hq0, hq1⟩
        · exact ⟨-1, Ev.step (fun k => rfl) (Ev.pos (by omega) (Ev.pos (by omega) (Ev.bindS hq (Ev.pos (by omega) (Ev.now _))))), by omega, .inl rfl⟩
        · obtain ⟨r, hr, hrq, hr2⟩ := ih q hq0 (by omega)
          refine ⟨r, Ev.step (fun k => rfl) (Ev.pos (by omega) (Ev.pos (by omega) (Ev.bindS hq (Ev.neg (by omega) ?_)))), by omega, ?_⟩
          · rw [wsucc (by omega)]
            exact hr
          · rcases hr2 with h | ⟨h, h'⟩
            · exact .inl h
            · refine .inr ⟨h, fun j hj1 hj2 => ?_⟩
              by_cases e : j = i
              · rw [e]
                exact hq1
              · exact h' j (by omega) hj2
    obtain ⟨r, hr, hra, hr2⟩ := key 0 (Nat.zero_le _) (a - l.length) (by omega) (by omega)
    refine ⟨r, Ev.neg c hr, by omega, ?_⟩
    rcases hr2 with h | ⟨h, h'⟩
    · exact .inl h
    · refine .inr ⟨h, by omega, fun x hx => ?_⟩
      obtain ⟨j, hj, rfl⟩ := List.getElem_of_mem hx
      have := h' j (Nat.zero_le _) hj
      rwa [List.getD_eq_getElem?_getD, List.getElem?_eq_getElem hj] at this
theorem toEntryS_ev (l : List S56) (h : l.length < 2097152) : Ev (fun k => laws_toEntryS.f k l) (l.map cv_Entry) := by
  unfold laws_toEntryS.f
  refine Ev.pos (by omega) (Ev.pos (by omega) ?_)
  refine copyLoop laws_toEntryS.l0 cv_Entry z56 2097152 (by omega) ?_ ?_ l h _ (by simp)
  · intro xs ys i r hx hi hy h
    refine Ev.step (fun k => rfl) (Ev.pos (by omega) (Ev.pos (by omega) (Ev.bindS rfl (Ev.pos (by omega) ?_))))
    rw [wsucc (by omega)]
    exact h
  · intro xs ys
    exact Ev.step (fun k => rfl) (Ev.neg (by omega) (Ev.now _))
theorem eqEntry_self (a0 : ByteArray) (a1 : Int) (a2 : Int) (a3 : ByteArray) : laws_eqEntry.f a0 a1 a2 a3 a0 a1 a2 a3 = some true := by simp [laws_eqEntry.f, laws_eqKey.f]
theorem eqEntryS_ev (l : List S48) (h : l.length < 2097152) : Ev (fun k => laws_eqEntryS.f k l l) true := by
  unfold laws_eqEntryS.f
  refine Ev.pos rfl ?_
  have key : ∀ i, i ≤ l.length → Ev (fun k => laws_eqEntryS.l0 k l l (i : Int)) true := by
    refine downTo l.length (Ev.step (fun k => rfl) (Ev.neg (by omega) (Ev.now _))) ?_
    intro i hi ih
    refine Ev.step (fun k => rfl) (Ev.pos (by omega) (Ev.pos (by omega) (Ev.pos (by omega) (Ev.bindS (eqEntry_self _ _ _ _) (Ev.pos rfl ?_)))))
    rw [wsucc (by omega)]
    exact ih
  exact key 0 (Nat.zero_le _)
end Go.Proofs.Ytbojfnijgmppbaa.P
end

section
namespace Go.Proofs.Ytbojfnijgmppbaa.Pure
open Go.RowKit Go.Proofs.YtbojfnijgmppbaaW.PrintWords Go.Proofs.YtbojfnijgmppbaaW.PrintLast Go.Proofs.YtbojfnijgmppbaaW.PrintMore
open Go.Proofs.Ytbojfnijgmppbaa.P
set_option linter.unusedVariables false
set_option linter.unusedSimpArgs false
abbrev R_ := S44
def total : List R_ → Nat
  | [] => 0
  | x :: xs => x.f0.length + total xs
def rOk (l : List R_) : Prop := l.length ≤ 20 ∧ (∀ x ∈ l, isRow x.f0) ∧ total l ≤ 400
noncomputable instance (l : List R_) : Decidable (rOk l) := Classical.propDecidable _
noncomputable instance (l : List R_) : Decidable (∀ x ∈ l, isRow x.f0) := Classical.propDecidable _
theorem runsOk1_ev (x : R_) (h : x.f0.length < 2097152) : Ev (fun k => impl_RunsOk_1.f k x.f0) (!decide (isRow x.f0)) := by
  unfold impl_RunsOk_1.f
  exact Ev.bind (entriesOk_ev x.f0 h) (Ev.now _)
theorem contains_ev : ∀ l : List R_, (∀ x ∈ l, x.f0.length < 2097152) → Ev (fun k => containsFunc_notRow.f k l) (!decide (∀ x ∈ l, isRow x.f0))
  | [], _ => by
    refine (Ev.now false).eqr ?_
    rw [decide_eq_true (show ∀ x ∈ ([] : List R_), isRow x.f0 from fun x hx => by cases hx)]
    rfl
  | x :: xs, h => by
    have h1 := runsOk1_ev x (h x List.mem_cons_self)
    have h2 := contains_ev xs (fun y hy => h y (List.mem_cons_of_mem _ hy))
    unfold containsFunc_notRow.f at *
    unfold runsBad
    refine Ev.bind h1 (Ev.bind h2 ((Ev.now _).eqr ?_))
    by_cases c1 : isRow x.f0
    · by_cases c2 : ∀ y ∈ xs, isRow y.f0
      · rw [decide_eq_true c1, decide_eq_true c2, decide_eq_true (show ∀ y ∈ x :: xs, isRow y.f0 from fun y hy => (List.mem_cons.1 hy).elim (fun e => e ▸ c1) (c2 y))]
        rfl
      · rw [decide_eq_true c1, decide_eq_false c2, decide_eq_false (show ¬ ∀ y ∈ x :: xs, isRow y.f0 from fun hh => c2 fun y hy => hh y (List.mem_cons_of_mem _ hy))]
        rfl
    · rw [decide_eq_false c1, decide_eq_false (show ¬ ∀ y ∈ x :: xs, isRow y.f0 from fun hh => c1 (hh x List.mem_cons_self))]
      rfl
theorem rdRn (l : List R_) (i : Nat) (h : i < l.length) : rd_T44 l (i : Int) = l[i] := by
  unfold rd_T44
  rw [Int.toNat_natCast, List.getD_eq_getElem?_getD, List.getElem?_eq_getElem h]
  rfl
theorem total_drop (l : List R_) (i : Nat) (h : i < l.length) : total (l.drop i) = l[i].f0.length + total (l.drop (i + 1)) := by rw [List.drop_eq_getElem_cons h, total]
theorem joined_ev (l : List R_) (hl : l.length ≤ 20) (h : ∀ x ∈ l, x.f0.length ≤ 400) : ∃ r, Ev (fun k => impl_joined.f k l) r ∧ r.length = total l := by
  unfold impl_joined.f
  have key : ∀ i, i ≤ l.length → ∀ out : List S48, out.length ≤ i * 400 → ∃ r, Ev (fun k => impl_joined.l0 k out l (l.length : Int) (i : Int)) r ∧ r.length = out.length + total (l.drop i) := by
    refine downTo l.length ?_ ?_
    · intro out _
      refine ⟨out, ?_, by rw [List.drop_length]; rfl⟩
      refine Ev.step (fun k => impl_joined.l0.eq_2 ..) ?_
      exact Ev.neg (by omega) (Ev.now _)
    · intro i hi ih out ho
      have hx := h l[i] (List.getElem_mem hi)
      obtain ⟨r, h1, h2⟩ := ih (out ++ l[i].f0) (by rw [List.length_append]; omega)
      refine ⟨r, ?_, by rw [h2, List.length_append, total_drop l i hi]; omega⟩
      refine Ev.step (fun k => impl_joined.l0.eq_2 ..) ?_
      rw [rdRn l i hi, wsucc (show i < 4611686018427387904 by omega)]
      exact Ev.pos (by omega) (Ev.pos (by omega) (Ev.pos (by omega) (Ev.pos (by omega) h1)))
  obtain ⟨r, h1, h2⟩ := key 0 (Nat.zero_le _) [] (by simp)
  exact ⟨r, h1, by simpa using h2⟩
theorem runsOk_ev (l : List R_) (h : ∀ x ∈ l, x.f0.length < 2097152) : Ev (fun k => impl_RunsOk.f k l) (decide (rOk l)) := by
  unfold impl_RunsOk.f
  by_cases c : (l.length : Int) ≤ 20
  case neg => exact Ev.neg c ((Ev.now _).eqr (decide_eq_false fun hh => c (by have := hh.1; omega)).symm)
  refine Ev.pos c (Ev.bind (contains_ev l h) ?_)
  by_cases c2 : ∀ x ∈ l, isRow x.f0
  case neg =>
    refine Ev.pos (by simp [c2]) ((Ev.now _).eqr (decide_eq_false fun hh => c2 hh.2.1).symm)
  obtain ⟨r, h1, h2⟩ := joined_ev l (by omega) (fun x hx => (c2 x hx).1)
  refine Ev.neg (by rw [decide_eq_true c2]; simp) (Ev.bind h1 ((Ev.now _).eqr ?_))
  rw [h2]
  exact decide_eq_decide.2 ⟨fun h3 => ⟨by omega, c2, by omega⟩, fun h3 => by have := h3.2.2; omega⟩
theorem sRunsOk_ev (l : List R_) (h : ∀ x ∈ l, x.f0.length < 2097152) : Ev (fun k => spec_RunsOk.f k l) (decide (rOk l)) := by
  unfold spec_RunsOk.f
  by_cases c : (l.length : Int) > 20
  · exact Ev.pos c ((Ev.now _).eqr (decide_eq_false fun hh => by have := hh.1; omega).symm)
  refine Ev.neg c ?_
  have key : ∀ i, i ≤ l.length → ∀ n : Nat, n ≤ i * 400 → (n + total (l.drop i) = total l) → (∀ j, (hj : j < i) → (hl : j < l.length) → isRow l[j].f0) → Ev (fun k => spec_RunsOk.l0 k l (n : Int) (i : Int)) (decide (rOk l)) := by
    refine downTo l.length ?_ ?_
    · intro n hn ht hb
      refine Ev.step (fun k => spec_RunsOk.l0.eq_2 ..) ?_
      rw [List.drop_length] at ht
      simp only [total, Nat.add_zero] at ht
      refine Ev.neg (by omega) ((Ev.now _).eqr (decide_eq_decide.2 ⟨fun h3 => ⟨by omega, fun x hx => ?_, by omega⟩, fun h3 => by have := h3.2.2; omega⟩))
      obtain ⟨j, hj, rfl⟩ := List.getElem_of_mem hx
      exact hb j hj hj
    · intro i hi ih n hn ht hb
      refine Ev.step (fun k => spec_RunsOk.l0.eq_2 ..) ?_
      rw [rdRn l i hi, wsucc (show i < 4611686018427387904 by omega)]
      refine Ev.pos (by omega) (Ev.pos (by omega) (Ev.bind (sEntriesOk_ev l[i].f0 (h _ (List.getElem_mem hi))) ?_))
      by_cases c2 : isRow l[i].f0
      · have hx := c2.1
        rw [wid (x := (n : Int) + (l[i].f0.length : Int)) (by omega) (by omega)]
        rw [total_drop l i hi] at ht
        refine Ev.pos (decide_eq_true c2) ?_
        have := ih (n + l[i].f0.length) (by omega) (by omega) (fun j hj hl => ?_)
        · rw [Int.natCast_add] at this
          exact this
        · by_cases e : j = i
          · subst e; exact c2
          · exact hb j (by omega) hl
      · exact Ev.neg (by simp [c2]) ((Ev.now _).eqr (decide_eq_false fun h3 => c2 (h3.2.1 _ (List.getElem_mem hi))).symm)
  exact key 0 (Nat.zero_le _) 0 (Nat.zero_le _) (by simp) (fun j hj => absurd hj (Nat.not_lt_zero _))
end Go.Proofs.Ytbojfnijgmppbaa.Pure
end

section
namespace Go.Proofs.Ytbojfnijgmppbaa.Pure
open Go.RowKit Go.Proofs.YtbojfnijgmppbaaW.PrintWords Go.Proofs.YtbojfnijgmppbaaW.PrintLast Go.Proofs.YtbojfnijgmppbaaW.PrintMore
open Go.Proofs.Ytbojfnijgmppbaa.P
set_option linter.unusedVariables false
set_option linter.unusedSimpArgs false
abbrev Rl_ := S83
def wfS83 (x : Rl_) : Prop := (x.f0.length ≤ 9223372036854775807 ∧ ∀ y ∈ x.f0, wf_Entry y)
def cvR (x : Rl_) : R_ := ⟨x.f0.map cv_Entry⟩
theorem rdRl (l : List Rl_) (i : Nat) (h : i < l.length) : rd_T83 l (i : Int) = l[i] := by
  unfold rd_T83
  rw [Int.toNat_natCast, List.getD_eq_getElem?_getD, List.getElem?_eq_getElem h]
  rfl
theorem szRunS_ev (l : List Rl_) (hl : l.length ≤ 9223372036854775807) (hw : ∀ x ∈ l, x.f0.length ≤ 9223372036854775807 ∧ ∀ y ∈ x.f0, wf_Entry y) : ∃ r, Ev (fun k => laws_szRunS.f k l 1048576) r ∧ (r = -1 ∨ 0 ≤ r ∧ (l.length : Int) ≤ 1048576 ∧ ∀ x ∈ l, x.f0.length ≤ 1048576) := by
  unfold laws_szRunS.f
  rw [wid (x := 1048576 - (l.length : Int)) (by omega) (by omega)]
  by_cases c : 1048576 - (l.length : Int) < 0
  · exact ⟨-1, Ev.pos c (Ev.now _), .inl rfl⟩
  · have key : ∀ i, i ≤ l.length → ∀ b : Int, 0 ≤ b → b ≤ 1048576 → ∃ r, Ev (fun k => laws_szRunS.l0 k l b (i : Int)) r ∧ (r = -1 ∨ 0 ≤ r ∧ ∀ j, i ≤ j → (hj : j < l.length) → l[j].f0.length ≤ 1048576) := by
      refine downTo l.length ?_ ?_
      · intro b hb _
        refine ⟨b, ?_, .inr ⟨hb, fun j h1 h2 => by omega⟩⟩
        refine Ev.step (fun k => laws_szRunS.l0.eq_2 ..) ?_
        exact Ev.neg (by omega) (Ev.now _)
      · intro i hi ih b hb hb1
        have hx := hw l[i] (List.getElem_mem hi)
        obtain ⟨q, hq, hqb, hq2⟩ := szEntryS_ev l[i].f0 b hx.2 hx.1 hb hb1
        rcases hq2 with rfl | ⟨hq0, hq1, _⟩
        · refine ⟨-1, ?_, .inl rfl⟩
          refine Ev.step (fun k => laws_szRunS.l0.eq_2 ..) ?_
          rw [rdRl l i hi]
          refine Ev.pos (by omega) (Ev.pos (by omega) (Ev.bind (a := -1) ?_ (Ev.pos (by omega) (Ev.now _))))
          unfold laws_szRun.f
          exact Ev.bind hq (Ev.pos (by omega) (Ev.now _))
        · obtain ⟨r, hr, hr2⟩ := ih q hq0 (by omega)
          refine ⟨r, ?_, ?_⟩
          · refine Ev.step (fun k => laws_szRunS.l0.eq_2 ..) ?_
            rw [rdRl l i hi, wsucc (show i < 4611686018427387904 by omega)]
            refine Ev.pos (by omega) (Ev.pos (by omega) (Ev.bind (a := q) ?_ (Ev.neg (by omega) hr)))
            unfold laws_szRun.f
            exact Ev.bind hq (Ev.neg (by omega) (Ev.now _))
          · rcases hr2 with h | ⟨h, h'⟩
            · exact .inl h
            · refine .inr ⟨h, fun j hj1 hj2 => ?_⟩
              by_cases e : j = i
              · subst e; omega
              · exact h' j (by omega) hj2
    obtain ⟨r, hr, hr2⟩ := key 0 (Nat.zero_le _) (1048576 - l.length) (by omega) (by omega)
    refine ⟨r, Ev.neg c hr, ?_⟩
    rcases hr2 with h | ⟨h, h'⟩
    · exact .inl h
    · refine .inr ⟨h, by omega, fun x hx => ?_⟩
      obtain ⟨j, hj, rfl⟩ := List.getElem_of_mem hx
      exact h' j (Nat.zero_le _) hj
theorem toRunS_ev (l : List Rl_) (hl : l.length < 2097152) (hx : ∀ x ∈ l, x.f0.length < 2097152) : Ev (fun k => laws_toRunS.f k l) (l.map cvR) := by
  unfold laws_toRunS.f
  refine Ev.pos (by omega) (Ev.pos (by omega) ?_)
  rw [Int.toNat_natCast]
  have key : ∀ i, i ≤ l.length → ∀ ys : List R_, ys.length = l.length → ys.take i = (l.take i).map cvR → Ev (fun k => laws_toRunS.l0 k l ys (i : Int)) (l.map cvR) := by
    refine downTo l.length ?_ ?_
    · intro ys hy ht
      refine Ev.step (fun k => laws_toRunS.l0.eq_2 ..) ?_
      rw [List.take_length, ← hy, List.take_length] at ht
      exact Ev.neg (by omega) ((Ev.now _).eqr ht)
    · intro i hi ih ys hy ht
      refine Ev.step (fun k => laws_toRunS.l0.eq_2 ..) ?_
      rw [rdRl l i hi, wsucc (show i < 4611686018427387904 by omega), Int.toNat_natCast]
      refine Ev.pos (by omega) (Ev.pos (by omega) (Ev.bind (a := l[i].f0.map cv_Entry) ?_ (Ev.pos (by omega) (ih _ (by rw [List.length_set]; exact hy) ?_))))
      · unfold laws_toRun.f
        exact Ev.bind (toEntryS_ev l[i].f0 (hx _ (List.getElem_mem hi))) (Ev.now _)
      · rw [set_take ys i _ (by omega), ht, List.take_add_one, List.getElem?_eq_getElem hi, List.map_append]
        rfl
  exact key 0 (Nat.zero_le _) _ (by simp) rfl
theorem eqRunS_ev (l : List R_) (hl : l.length < 2097152) (hx : ∀ x ∈ l, x.f0.length < 2097152) : Ev (fun k => laws_eqRunS.f k l l) true := by
  unfold laws_eqRunS.f
  refine Ev.pos rfl ?_
  have key : ∀ i, i ≤ l.length → Ev (fun k => laws_eqRunS.l0 k l l (i : Int)) true := by
    refine downTo l.length ?_ ?_
    · refine Ev.step (fun k => laws_eqRunS.l0.eq_2 ..) ?_
      exact Ev.neg (by omega) (Ev.now _)
    · intro i hi ih
      refine Ev.step (fun k => laws_eqRunS.l0.eq_2 ..) ?_
      rw [rdRn l i hi, wsucc (show i < 4611686018427387904 by omega)]
      refine Ev.pos (by omega) (Ev.pos (by omega) (Ev.pos (by omega) (Ev.bind (a := true) ?_ (Ev.pos rfl ih))))
      unfold laws_eqRun.f
      exact Ev.bind (eqEntryS_ev l[i].f0 (hx _ (List.getElem_mem hi))) (Ev.pos rfl (Ev.now _))
  exact key 0 (Nat.zero_le _)
theorem FnExactRunsOk : ∀ (l0 : (List Rl_)), (l0.length ≤ 9223372036854775807 ∧ ∀ x ∈ l0, wfS83 x) → Ev (fun k => laws_FnExactRunsOk.f k l0) true := by
  intro l hl
  unfold laws_FnExactRunsOk.f
  obtain ⟨q, hq, hq2⟩ := szRunS_ev l hl.1 hl.2
  rcases hq2 with rfl | ⟨hq0, hlen, hsm⟩
  · exact Ev.bind hq (Ev.pos (by omega) (Ev.now _))
  · have ht := toRunS_ev l (by omega) (fun x hx => by have := hsm x hx; omega)
    have hm : (l.map cvR).length < 2097152 := by rw [List.length_map]; omega
    have hme : ∀ x ∈ l.map cvR, x.f0.length < 2097152 := fun x hx => by
      obtain ⟨y, hy, rfl⟩ := List.mem_map.1 hx
      have := hsm y hy
      show (y.f0.map cv_Entry).length < _
      rw [List.length_map]
      omega
    exact Ev.bind hq (Ev.neg (by omega) (Ev.bind ht (Ev.bind (sRunsOk_ev _ hme) (Ev.bind ht (Ev.bind (runsOk_ev _ hme) (Ev.neg (by simp) (Ev.bind ht (Ev.bind (eqRunS_ev _ hm hme) (Ev.pos rfl (Ev.now _))))))))))
end Go.Proofs.Ytbojfnijgmppbaa.Pure
end
