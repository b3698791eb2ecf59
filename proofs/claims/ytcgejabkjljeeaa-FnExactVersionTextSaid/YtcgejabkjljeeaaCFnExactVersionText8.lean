/- Proved: the law FnExactVersionText of the given program returns true for every input of its Go types and leaves each argument as it was; no condition. (Part 9 of 12.) -/
import Derived.Test.YtcgejabkjljeeaaCFnExactVersionText3
import Derived.Test.YtcgejabkjljeeaaCFnExactVersionText5
import Derived.ProofKit
import Derived.WideShapes
import Derived.DataReads
import Derived.ChangeArms
import Derived.Lib.SmallJoins
section
namespace Go.Proofs.Ytcgejabkjljeeaa.P
open Go.RowKit Go.Proofs.YtcgejabkjljeeaaW.PrintWords Go.Proofs.YtcgejabkjljeeaaW.PrintLast Go.Proofs.YtcgejabkjljeeaaW.PrintMore
attribute [local go_sem] str_gtr str_leq str_geq max2_int min2_int max_two min_two max_three min_three max_four min_four
set_option linter.unusedVariables false
set_option linter.unusedSimpArgs false
def Opens {α : Type} (P : Program) (d : Kd α) (t : TypeId) (wf : α → Prop) : Prop :=
  ∀ {H : Type} (enc : TypeId × Value → H) (w : World) (fuel : Nat) (cs : List Value) (x : DataW H × List MemPlace), DataW.trod enc P w 0 (fun _ => true) true fuel t cs = some x → ∃ a, d.K w a cs ∧ wf a
theorem opens_i64 {P : Program} {t : TypeId} (ht : P.underlying t = some (.int .i64)) : Opens P (Kd.int .i64) t (fun n => -9223372036854775808 ≤ n ∧ n ≤ 9223372036854775807) := by
  intro H enc w fuel cs x h
  obtain ⟨n, rfl, _, hw⟩ := DataW.trod_int ht h
  exact ⟨n, rfl, by simpa [Lit.wf, IntKind.min, IntKind.max, IntKind.signed, IntKind.bits] using hw⟩
theorem opens_str {P : Program} {t : TypeId} (ht : P.underlying t = some .string) : Opens P Kd.string t (fun s => s.size ≤ 9223372036854775807) := by
  intro H enc w fuel cs x h
  obtain ⟨n, rfl, _, hw⟩ := DataW.trod_string ht h
  exact ⟨n, rfl, by simpa [Go.maxLen] using hw⟩
theorem choose_list {α : Type} (n : Nat) (Q : Nat → α → Prop) (h : ∀ j, j < n → ∃ a, Q j a) : ∃ l : List α, l.length = n ∧ ∀ j a, l[j]? = some a → Q j a := by
  induction n with
  | zero => exact ⟨[], rfl, fun j a h => by simp at h⟩
  | succ n ih =>
    obtain ⟨l, hl, hq⟩ := ih (fun j hj => h j (by omega))
    obtain ⟨a, ha⟩ := h n (by omega)
    refine ⟨l ++ [a], by simp [hl], fun j b hb => ?_⟩
    rcases Nat.lt_or_ge j l.length with hj | hj
    · rw [List.getElem?_append_left hj] at hb
      exact hq j b hb
    · rw [List.getElem?_append_right hj] at hb
      have hj0 : j - l.length = 0 := by
        rcases Nat.eq_zero_or_pos (j - l.length) with h0 | h0
        · exact h0
        · rw [List.getElem?_eq_none (by simp; omega)] at hb
          cases hb
      rw [hj0] at hb
      obtain rfl : a = b := by simpa using hb
      rw [show j = n from by omega]
      exact ha
theorem opens_slice {α : Type} {P : Program} {d : Kd α} {t e : TypeId} {wf : α → Prop} (ht : P.underlying t = some (.slice e)) (hsz : P.cellsOf e = d.sz) (h : Opens P d e wf) :
    Opens P (Kd.slice e d) t (fun l => l.length ≤ 9223372036854775807 ∧ ∀ x ∈ l, wf x) := by
  intro H enc w fuel cs x hx
  rcases DataW.trod_slice ht hx with ⟨rfl, _⟩ | ⟨a, len, cap, elems, rest, n, _, rfl, _, _, hlc, hcm, hel, hi, _, _⟩
  · exact ⟨[], ⟨none, 0, rfl, Nat.le_refl _, Kd.C_nil d w⟩, by simp, by simp⟩
  · obtain ⟨l, hl, hq⟩ := choose_list len (fun j x => wf x ∧ ∃ c, c.length = d.sz ∧ d.K w x c ∧ ∀ i u, c[i]? = some u → w.cell? (a.add (j * d.sz + i)) = some u) (fun j hj => by
      have h1 := hi j hj
      rw [List.getElem?_eq_getElem (show j < elems.length by omega), Option.bind_eq_some_iff] at h1
      obtain ⟨c, hc, hy⟩ := h1
      obtain ⟨x, hx, hw⟩ := h enc w n c _ hy
      obtain ⟨_, hlen, hcell⟩ := World.cells?_some hc
      refine ⟨x, hw, c, by rw [hlen, hsz], hx, fun i u hu => ?_⟩
      have hil : i < P.cellsOf e := by
        rw [← hlen]
        exact (List.getElem?_eq_some_iff.1 hu).1
      have := hcell i hil
      rw [hsz] at this
      rw [← hu, ← this, Addr.add_add])
    have hm : len ≤ 9223372036854775807 := by
      have : cap ≤ 9223372036854775807 := by simpa [Go.maxLen] using hcm
      omega
    refine ⟨l, ⟨some a, cap, by rw [hl], by omega, hl.trans hl.symm, by omega, fun _ => ⟨a, rfl, fun j p hp => (hq j p hp).2⟩⟩, by omega, fun x hx => ?_⟩
    obtain ⟨j, hj, rfl⟩ := List.getElem_of_mem hx
    exact (hq j _ (List.getElem?_eq_getElem hj)).1
end Go.Proofs.Ytcgejabkjljeeaa.P
end

section
namespace Go.Proofs.Ytcgejabkjljeeaa.P
open Go.RowKit Go.Proofs.YtcgejabkjljeeaaW.PrintWords Go.Proofs.YtcgejabkjljeeaaW.PrintLast Go.Proofs.YtcgejabkjljeeaaW.PrintMore
attribute [local go_sem] str_gtr str_leq str_geq max2_int min2_int max_two min_two max_three min_three max_four min_four
set_option linter.unusedVariables false
set_option linter.unusedSimpArgs false
def cv_Meta (x : S114) : S66 := ⟨x.f0, x.f1, x.f2, x.f3, x.f4⟩
def wf_Meta (x : S114) : Prop := -9223372036854775808 ≤ x.f0 ∧ x.f0 ≤ 9223372036854775807 ∧ -9223372036854775808 ≤ x.f1 ∧ x.f1 ≤ 9223372036854775807 ∧ x.f2.size ≤ 9223372036854775807 ∧ x.f3.size ≤ 9223372036854775807 ∧ -9223372036854775808 ≤ x.f4 ∧ x.f4 ≤ 9223372036854775807
def sm_Meta (x : S114) : Prop := x.f2.size ≤ 1048576 ∧ x.f3.size ≤ 1048576
theorem szMeta_ev (x : S114) (a : Int) (hw : wf_Meta x) (h0 : 0 ≤ a) (h1 : a ≤ 1048576) : ∃ r, laws_szMeta.f (x.f0) (x.f1) (x.f2) (x.f3) (x.f4) a = some r ∧ r ≤ a ∧ (r = -1 ∨ 0 ≤ r ∧ sm_Meta x) := by
  unfold wf_Meta at hw
  unfold sm_Meta
  unfold laws_szMeta.f
  rw [wid (x := a - (x.f2.size : Int)) (by omega) (by omega)]
  by_cases c0 : a - (x.f2.size : Int) < 0
  · exact ⟨-1, by rw [if_pos c0], by omega, .inl rfl⟩
  · rw [if_neg c0]
    rw [wid (x := (a - (x.f2.size : Int)) - (x.f3.size : Int)) (by omega) (by omega)]
    by_cases c1 : (a - (x.f2.size : Int)) - (x.f3.size : Int) < 0
    · exact ⟨-1, by rw [if_pos c1], by omega, .inl rfl⟩
    · rw [if_neg c1]
      exact ⟨_, rfl, by omega, .inr ⟨by omega, by omega, by omega⟩⟩
theorem szMetaS_ev (l : List S114) (a : Int) (hw : ∀ x ∈ l, wf_Meta x) (hl : l.length ≤ 9223372036854775807) (h0 : 0 ≤ a) (h1 : a ≤ 1048576) :
    ∃ r, Ev (fun k => laws_szMetaS.f k l a) r ∧ r ≤ a ∧ (r = -1 ∨ 0 ≤ r ∧ (l.length : Int) ≤ a ∧ ∀ x ∈ l, sm_Meta x) := by
  unfold laws_szMetaS.f
  rw [wid (x := a - (l.length : Int)) (by omega) (by omega)]
  by_cases c : a - (l.length : Int) < 0
  · exact ⟨-1, Ev.pos c (Ev.now _), by omega, .inl rfl⟩
  · have key : ∀ i, i ≤ l.length → ∀ b : Int, 0 ≤ b → b ≤ 1048576 → ∃ r, Ev (fun k => laws_szMetaS.l0 k l b (i : Int)) r ∧ r ≤ b ∧ (r = -1 ∨ 0 ≤ r ∧ ∀ j, i ≤ j → j < l.length → sm_Meta (l.getD j z114)) := by
      refine downTo l.length ?_ ?_
      · intro b hb _
        exact ⟨b, Ev.step (fun k => rfl) (Ev.neg (by omega) (Ev.now _)), by omega, .inr ⟨hb, fun j h1 h2 => by omega⟩⟩
      · intro i hi ih b hb hb1
        have hmem : l.getD i z114 ∈ l := by rw [List.getD_eq_getElem?_getD, List.getElem?_eq_getElem hi]; exact List.getElem_mem hi
        obtain ⟨q, hq, hqb, hq2⟩ := szMeta_ev (l.getD i z114) b (hw _ hmem) hb hb1
        rcases hq2 with rfl | ⟨hq0, hq1⟩
        · exact ⟨-1, Ev.step (fun k => rfl) (Ev.pos (by omega) (Ev.pos (by omega) (Ev.bindS hq (Ev.pos (by omega) (Ev.now _))))), by omega, .inl rfl⟩
        · obtain ⟨r, hr, hrq, hr2⟩ := ih q hq0 (by omega)
          refine ⟨r, Ev.step (fun k => rfl) (Ev.pos (by omega) (Ev.pos (by omega) (Ev.bindS hq (Ev.neg (by omega) ?_)))), by omega, ?_⟩
          · rw [wsucc (by omega)]
            exact hr
          · rcases hr2 with h | ⟨h, h'⟩
            · exact .inl h
            · refine .inr ⟨h, fun j hj1 hj2 => ?_⟩
              by_cases e : j = i
              · rw [e]
                exact hq1
              · exact h' j (by omega) hj2
    obtain ⟨r, hr, hra, hr2⟩ := key 0 (Nat.zero_le _) (a - l.length) (by omega) (by omega)
    refine ⟨r, Ev.neg c hr, by omega, ?_⟩
    rcases hr2 with h | ⟨h, h'⟩
    · exact .inl h
    · refine .inr ⟨h, by omega, fun x hx => ?_⟩
      obtain ⟨j, hj, rfl⟩ := List.getElem_of_mem hx
      have := h' j (Nat.zero_le _) hj
      rwa [List.getD_eq_getElem?_getD, List.getElem?_eq_getElem hj] at this
theorem toMetaS_ev (l : List S114) (h : l.length < 2097152) : Ev (fun k => laws_toMetaS.f k l) (l.map cv_Meta) := by
  unfold laws_toMetaS.f
  refine Ev.pos (by omega) (Ev.pos (by omega) ?_)
  refine copyLoop laws_toMetaS.l0 cv_Meta z114 2097152 (by omega) ?_ ?_ l h _ (by simp)
  · intro xs ys i r hx hi hy h
    refine Ev.step (fun k => rfl) (Ev.pos (by omega) (Ev.pos (by omega) (Ev.bindS rfl (Ev.pos (by omega) ?_))))
    rw [wsucc (by omega)]
    exact h
  · intro xs ys
    exact Ev.step (fun k => rfl) (Ev.neg (by omega) (Ev.now _))
theorem eqMeta_self (a0 : Int) (a1 : Int) (a2 : ByteArray) (a3 : ByteArray) (a4 : Int) : laws_eqMeta.f a0 a1 a2 a3 a4 a0 a1 a2 a3 a4 = some true := by simp [laws_eqMeta.f]
theorem eqMetaS_ev (l : List S66) (h : l.length < 2097152) : Ev (fun k => laws_eqMetaS.f k l l) true := by
  unfold laws_eqMetaS.f
  refine Ev.pos rfl ?_
  have key : ∀ i, i ≤ l.length → Ev (fun k => laws_eqMetaS.l0 k l l (i : Int)) true := by
    refine downTo l.length (Ev.step (fun k => rfl) (Ev.neg (by omega) (Ev.now _))) ?_
    intro i hi ih
    refine Ev.step (fun k => rfl) (Ev.pos (by omega) (Ev.pos (by omega) (Ev.pos (by omega) (Ev.bindS (eqMeta_self _ _ _ _ _) (Ev.pos rfl ?_)))))
    rw [wsucc (by omega)]
    exact ih
  exact key 0 (Nat.zero_le _)
end Go.Proofs.Ytcgejabkjljeeaa.P
end
