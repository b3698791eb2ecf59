/- Proved: the law FnExactMemPut of the given program returns true for every input of its Go types and leaves each argument as it was; no condition. (Part 11 of 12.) -/
import Derived.Test.YtbojfnijgmppbaaCFnExactMemPut4
import Derived.ProofKit
import Derived.WideShapes
import Derived.DataReads
import Derived.ChangeArms
import Derived.Lib.SmallJoins
import Derived.Test.YtbojfnijgmppbaaCFnExactMemPut8
import Derived.Test.YtbojfnijgmppbaaCFnExactMemPut9
import Derived.Test.YtbojfnijgmppbaaCFnExactMemPut5
import Derived.Test.YtbojfnijgmppbaaCFnExactMemPut6
section
namespace Go.Proofs.Ytbojfnijgmppbaa.P
open Go.RowKit Go.Proofs.YtbojfnijgmppbaaW.PrintWords Go.Proofs.YtbojfnijgmppbaaW.PrintLast Go.Proofs.YtbojfnijgmppbaaW.PrintMore
attribute [local go_sem] str_gtr str_leq str_geq max2_int min2_int max_two min_two max_three min_three max_four min_four
set_option linter.unusedVariables false
set_option linter.unusedSimpArgs false
def Opens {α : Type} (P : Program) (d : Kd α) (t : TypeId) (wf : α → Prop) : Prop :=
  ∀ {H : Type} (enc : TypeId × Value → H) (w : World) (fuel : Nat) (cs : List Value) (x : DataW H × List MemPlace), DataW.trod enc P w 0 (fun _ => true) true fuel t cs = some x → ∃ a, d.K w a cs ∧ wf a
theorem opens_i64 {P : Program} {t : TypeId} (ht : P.underlying t = some (.int .i64)) : Opens P (Kd.int .i64) t (fun n => -9223372036854775808 ≤ n ∧ n ≤ 9223372036854775807) := by
  intro H enc w fuel cs x h
  obtain ⟨n, rfl, _, hw⟩ := DataW.trod_int ht h
  exact ⟨n, rfl, by simpa [Lit.wf, IntKind.min, IntKind.max, IntKind.signed, IntKind.bits] using hw⟩
theorem opens_str {P : Program} {t : TypeId} (ht : P.underlying t = some .string) : Opens P Kd.string t (fun s => s.size ≤ 9223372036854775807) := by
  intro H enc w fuel cs x h
  obtain ⟨n, rfl, _, hw⟩ := DataW.trod_string ht h
  exact ⟨n, rfl, by simpa [Go.maxLen] using hw⟩
theorem choose_list {α : Type} (n : Nat) (Q : Nat → α → Prop) (h : ∀ j, j < n → ∃ a, Q j a) : ∃ l : List α, l.length = n ∧ ∀ j a, l[j]? = some a → Q j a := by
  induction n with
  | zero => exact ⟨[], rfl, fun j a h => by simp at h⟩
  | succ n ih =>
    obtain ⟨l, hl, hq⟩ := ih (fun j hj => h j (by omega))
    obtain ⟨a, ha⟩ := h n (by omega)
    refine ⟨l ++ [a], by simp [hl], fun j b hb => ?_⟩
    rcases Nat.lt_or_ge j l.length with hj | hj
    · rw [List.getElem?_append_left hj] at hb
      exact hq j b hb
    · rw [List.getElem?_append_right hj] at hb
      have hj0 : j - l.length = 0 := by
        rcases Nat.eq_zero_or_pos (j - l.length) with h0 | h0
        · exact h0
        · rw [List.getElem?_eq_none (by simp; omega)] at hb
          cases hb
      rw [hj0] at hb
      obtain rfl : a = b := by simpa using hb
      rw [show j = n from by omega]
      exact ha
theorem opens_slice {α : Type} {P : Program} {d : Kd α} {t e : TypeId} {wf : α → Prop} (ht : P.underlying t = some (.slice e)) (hsz : P.cellsOf e = d.sz) (h : Opens P d e wf) :
    Opens P (Kd.slice e d) t (fun l => l.length ≤ 9223372036854775807 ∧ ∀ x ∈ l, wf x) := by
  intro H enc w fuel cs x hx
  rcases DataW.trod_slice ht hx with ⟨rfl, _⟩ | ⟨a, len, cap, elems, rest, n, _, rfl, _, _, hlc, hcm, hel, hi, _, _⟩
  · exact ⟨[], ⟨none, 0, rfl, Nat.le_refl _, Kd.C_nil d w⟩, by simp, by simp⟩
  · obtain ⟨l, hl, hq⟩ := choose_list len (fun j x => wf x ∧ ∃ c, c.length = d.sz ∧ d.K w x c ∧ ∀ i u, c[i]? = some u → w.cell? (a.add (j * d.sz + i)) = some u) (fun j hj => by
      have h1 := hi j hj
      rw [List.getElem?_eq_getElem (show j < elems.length by omega), Option.bind_eq_some_iff] at h1
      obtain ⟨c, hc, hy⟩ := h1
      obtain ⟨x, hx, hw⟩ := h enc w n c _ hy
      obtain ⟨_, hlen, hcell⟩ := World.cells?_some hc
      refine ⟨x, hw, c, by rw [hlen, hsz], hx, fun i u hu => ?_⟩
      have hil : i < P.cellsOf e := by
        rw [← hlen]
        exact (List.getElem?_eq_some_iff.1 hu).1
      have := hcell i hil
      rw [hsz] at this
      rw [← hu, ← this, Addr.add_add])
    have hm : len ≤ 9223372036854775807 := by
      have : cap ≤ 9223372036854775807 := by simpa [Go.maxLen] using hcm
      omega
    refine ⟨l, ⟨some a, cap, by rw [hl], by omega, hl.trans hl.symm, by omega, fun _ => ⟨a, rfl, fun j p hp => (hq j p hp).2⟩⟩, by omega, fun x hx => ?_⟩
    obtain ⟨j, hj, rfl⟩ := List.getElem_of_mem hx
    exact (hq j _ (List.getElem?_eq_getElem hj)).1
end Go.Proofs.Ytbojfnijgmppbaa.P
end

section
namespace Go.Proofs.Ytbojfnijgmppbaa.P
open Go.RowKit Go.Proofs.YtbojfnijgmppbaaW.PrintWords Go.Proofs.YtbojfnijgmppbaaW.PrintLast Go.Proofs.YtbojfnijgmppbaaW.PrintMore
attribute [local go_sem] str_gtr str_leq str_geq max2_int min2_int max_two min_two max_three min_three max_four min_four
set_option linter.unusedVariables false
set_option linter.unusedSimpArgs false
theorem strOfNums_size (l : List Int) : (strOfNums l).size = l.length := by
  unfold strOfNums
  simp [ByteArray.size]
theorem markText_ends (n : Int) (h : n < 1099511627776) : ∃ r, Ev (fun k => laws_markText.f k n) r := by
  by_cases h0 : n ≤ 0
  · exact ⟨_, by unfold laws_markText.f; exact Ev.pos h0 (Ev.now _)⟩
  · have key : ∀ (d : Nat) (x : Int) (y : ByteArray), 0 ≤ x → x ≤ d → y.size + d < 2199023255552 → ∃ r, Ev (fun k => laws_markText.l0 k x y) r := by
      intro d
      induction d using Nat.strongRecOn with
      | _ d ih =>
        intro x y hx hd hy
        by_cases hp : x > 0
        · have ht : Int.tdiv x 10 = x / 10 := Int.tdiv_eq_ediv_of_nonneg hx
          obtain ⟨r, hr⟩ := ih (d - 1) (by omega) (x / 10) ((strOfNums [(wrap64 (48 + (Int.tmod x 10))) % 256]) ++ y) (by omega) (by omega) (by
            rw [ByteArray.size_append, strOfNums_size]
            simp only [List.length_cons, List.length_nil]
            omega)
          refine ⟨r, Ev.step (fun k => rfl) (Ev.pos hp (Ev.bindS rfl (Ev.pos (by rw [strOfNums_size]; simp only [List.length_cons, List.length_nil]; omega) ?_)))⟩
          rw [ht, wid (by omega) (by omega)]
          exact hr
        · exact ⟨_, Ev.step (fun k => rfl) (Ev.neg hp (Ev.pos (by omega) (Ev.now _)))⟩
    obtain ⟨r, hr⟩ := key n.toNat n ⟨#[]⟩ (by omega) (by omega) (by
      show 0 + n.toNat < _
      omega)
    exact ⟨r, by unfold laws_markText.f; exact Ev.neg h0 hr⟩
noncomputable def mt (n : Int) : ByteArray := if h : n < 1099511627776 then (markText_ends n h).choose else ⟨#[]⟩
theorem markText_ev (n : Int) (h : n < 1099511627776) : Ev (fun k => laws_markText.f k n) (mt n) := by
  rw [mt, dif_pos h]
  exact (markText_ends n h).choose_spec
theorem markLoop {α : Type} (l : Nat → List α → Int → Int → Option (Int × List α)) (mk : Int → α) (c n : Nat) (hn : n < 2097152) (hc : c ≤ 8)
    (hs : ∀ (ys : List α) (i : Nat) (kk : Int) (r : Int × List α), ys.length = n → i < n → 0 ≤ kk → kk < 549755813888 → Ev (fun k => l k (ys.set i (mk kk)) (kk + c) ((i + 1 : Nat) : Int)) r → Ev (fun k => l k ys kk (i : Int)) r)
    (he : ∀ (ys : List α) (kk : Int), ys.length = n → Ev (fun k => l k ys kk (n : Int)) (kk, ys)) (ys : List α) (hy : ys.length = n) (k0 : Int) (h0 : 0 ≤ k0) (h1 : k0 < 274877906944) :
    Ev (fun k => l k ys k0 0) (k0 + c * n, (List.range n).map fun j : Nat => mk (k0 + (c : Int) * (j : Int))) := by
  have key : ∀ i, i ≤ n → ∀ ys : List α, ys.length = n → Ev (fun k => l k ys (k0 + c * i) (i : Int)) (k0 + c * n, ys.take i ++ (List.range' i (n - i)).map fun j : Nat => mk (k0 + (c : Int) * (j : Int))) := by
    refine downTo n ?_ ?_
    · intro ys hy
      refine Ev.eqr (he ys _ hy) ?_
      rw [Nat.sub_self, List.range'_zero, List.map_nil, List.append_nil, List.take_of_length_le (by omega)]
    · intro i hi ih ys hy
      have hcb : (c : Int) * (i : Int) ≤ 16777216 := by
        have h2 : c * i ≤ 8 * i := Nat.mul_le_mul_right i hc
        have e : (c : Int) * (i : Int) = ((c * i : Nat) : Int) := (Int.natCast_mul c i).symm
        rw [e]
        omega
      have hcp : (0 : Int) ≤ (c : Int) * (i : Int) := Int.mul_nonneg (by omega) (by omega)
      refine hs ys i _ _ hy hi (by omega) (by omega) ?_
      rw [show k0 + (c : Int) * (i : Int) + (c : Int) = k0 + (c : Int) * ((i + 1 : Nat) : Int) from by rw [Int.natCast_add, Int.mul_add]; omega]
      refine Ev.eqr (ih (ys.set i (mk (k0 + (c : Int) * (i : Int)))) (by simpa using hy)) ?_
      rw [set_take _ _ _ (by omega), List.append_assoc, show n - i = (n - (i + 1)) + 1 from by omega, List.range'_succ, List.map_cons]
      rfl
  have := key 0 (Nat.zero_le _) ys hy
  simp only [Int.natCast_zero, Int.mul_zero, Int.add_zero, List.take_zero, List.nil_append, Nat.sub_zero, ← List.range_eq_range'] at this
  exact this
theorem heldLoop {α : Type} (l : Nat → List α → Int → Int → Option Int) (mk : Int → α) (c n : Nat) (d : α) (hn : n < 2097152) (hc : c ≤ 8)
    (hs : ∀ (ys : List α) (i : Nat) (kk : Int) (r : Int), ys.length = n → i < n → 0 ≤ kk → kk < 549755813888 → ys.getD i d = mk kk → Ev (fun k => l k ys (kk + c) ((i + 1 : Nat) : Int)) r → Ev (fun k => l k ys kk (i : Int)) r)
    (he : ∀ (ys : List α) (kk : Int), ys.length = n → Ev (fun k => l k ys kk (n : Int)) kk) (k0 : Int) (h0 : 0 ≤ k0) (h1 : k0 < 274877906944) :
    Ev (fun k => l k ((List.range n).map fun j : Nat => mk (k0 + (c : Int) * (j : Int))) k0 0) (k0 + c * n) := by
  have key : ∀ i, i ≤ n → Ev (fun k => l k ((List.range n).map fun j : Nat => mk (k0 + (c : Int) * (j : Int))) (k0 + c * i) (i : Int)) (k0 + c * n) := by
    refine downTo n (he _ _ (by simp)) ?_
    intro i hi ih
    have hcb : (c : Int) * (i : Int) ≤ 16777216 := by
      have h2 : c * i ≤ 8 * i := Nat.mul_le_mul_right i hc
      have e : (c : Int) * (i : Int) = ((c * i : Nat) : Int) := (Int.natCast_mul c i).symm
      rw [e]
      omega
    have hcp : (0 : Int) ≤ (c : Int) * (i : Int) := Int.mul_nonneg (by omega) (by omega)
    refine hs _ i _ _ (by simp) hi (by omega) (by omega) ?_ ?_
    · rw [List.getD_eq_getElem?_getD, List.getElem?_map, List.getElem?_range hi]
      rfl
    · rw [show k0 + (c : Int) * (i : Int) + (c : Int) = k0 + (c : Int) * ((i + 1 : Nat) : Int) from by rw [Int.natCast_add, Int.mul_add]; omega]
      exact ih
  have := key 0 (Nat.zero_le _)
  simp only [Int.natCast_zero, Int.mul_zero, Int.add_zero] at this
  exact this
def wf_Key (x : S54) : Prop := x.f0.size ≤ 9223372036854775807 ∧ -9223372036854775808 ≤ x.f1 ∧ x.f1 ≤ 9223372036854775807 ∧ -9223372036854775808 ≤ x.f2 ∧ x.f2 ≤ 9223372036854775807
def sm_Key (x : S54) : Prop := x.f0.size ≤ 1048576
theorem szKey_ev (x : S54) (a : Int) (hw : wf_Key x) (h0 : 0 ≤ a) (h1 : a ≤ 1048576) : ∃ r, laws_szKey.f (x.f0) (x.f1) (x.f2) a = some r ∧ r ≤ a ∧ (r = -1 ∨ 0 ≤ r ∧ sm_Key x) := by
  unfold wf_Key at hw
  unfold sm_Key
  unfold laws_szKey.f
  rw [wid (x := a - (x.f0.size : Int)) (by omega) (by omega)]
  by_cases c0 : a - (x.f0.size : Int) < 0
  · exact ⟨-1, by rw [if_pos c0], by omega, .inl rfl⟩
  · rw [if_neg c0]
    exact ⟨_, rfl, by omega, .inr ⟨by omega, by omega⟩⟩
def cv_Entry (x : S56) : S48 := ⟨⟨x.f0.f0, x.f0.f1, x.f0.f2⟩, x.f1⟩
def wf_Entry (x : S56) : Prop := x.f0.f0.size ≤ 9223372036854775807 ∧ -9223372036854775808 ≤ x.f0.f1 ∧ x.f0.f1 ≤ 9223372036854775807 ∧ -9223372036854775808 ≤ x.f0.f2 ∧ x.f0.f2 ≤ 9223372036854775807 ∧ x.f1.size ≤ 9223372036854775807
def sm_Entry (x : S56) : Prop := x.f0.f0.size ≤ 1048576 ∧ x.f1.size ≤ 1048576
theorem szEntry_ev (x : S56) (a : Int) (hw : wf_Entry x) (h0 : 0 ≤ a) (h1 : a ≤ 1048576) : ∃ r, laws_szEntry.f (x.f0.f0) (x.f0.f1) (x.f0.f2) (x.f1) a = some r ∧ r ≤ a ∧ (r = -1 ∨ 0 ≤ r ∧ sm_Entry x) := by
  unfold wf_Entry at hw
  unfold sm_Entry
  obtain ⟨q, hq, hqa, hq2⟩ := szKey_ev x.f0 a (by unfold wf_Key; exact ⟨hw.1, hw.2.1, hw.2.2.1, hw.2.2.2.1, hw.2.2.2.2.1⟩) h0 h1
  unfold sm_Key at hq2
  unfold laws_szEntry.f
  rw [hq]
  simp only [Option.bind_some]
  rcases hq2 with rfl | ⟨hq0, hq1⟩
  · exact ⟨-1, by simp, by omega, .inl rfl⟩
  · rw [if_neg (by omega), wid (by omega) (by omega)]
    by_cases c : q - (x.f1.size : Int) < 0
    · exact ⟨-1, by rw [if_pos c], by omega, .inl rfl⟩
    · exact ⟨_, by rw [if_neg c], by omega, .inr ⟨by omega, by omega, by omega⟩⟩
theorem szEntryS_ev (l : List S56) (a : Int) (hw : ∀ x ∈ l, wf_Entry x) (hl : l.length ≤ 9223372036854775807) (h0 : 0 ≤ a) (h1 : a ≤ 1048576) :
    ∃ r, Ev (fun k => laws_szEntryS.f k l a) r ∧ r ≤ a ∧ (r = -1 ∨ 0 ≤ r ∧ (l.length : Int) ≤ a ∧ ∀ x ∈ l, sm_Entry x) := by
  unfold laws_szEntryS.f
  rw [wid (x := a - (l.length : Int)) (by omega) (by omega)]
  by_cases c : a - (l.length : Int) < 0
  · exact ⟨-1, Ev.pos c (Ev.now _), by omega, .inl rfl⟩
  · have key : ∀ i, i ≤ l.length → ∀ b : Int, 0 ≤ b → b ≤ 1048576 → ∃ r, Ev (fun k => laws_szEntryS.l0 k l b (i : Int)) r ∧ r ≤ b ∧ (r = -1 ∨ 0 ≤ r ∧ ∀ j, i ≤ j → j < l.length → sm_Entry (l.getD j z56)) := by
      refine downTo l.length ?_ ?_
      · intro b hb _
        exact ⟨b, Ev.step (fun k => rfl) (Ev.neg (by omega) (Ev.now _)), by omega, .inr ⟨hb, fun j h1 h2 => by omega⟩⟩
      · intro i hi ih b hb hb1
        have hmem : l.getD i z56 ∈ l := by rw [List.getD_eq_getElem?_getD, List.getElem?_eq_getElem hi]; exact List.getElem_mem hi
        obtain ⟨q, hq, hqb, hq2⟩ := szEntry_ev (l.getD i z56) b (hw _ hmem) hb hb1
        rcases hq2 with rfl | ⟨hq0, hq1⟩
        · exact ⟨-1, Ev.step (fun k => rfl) (Ev.pos (by omega) (Ev.pos (by omega) (Ev.bindS hq (Ev.pos (by omega) (Ev.now _))))), by omega, .inl rfl⟩
        · obtain ⟨r, hr, hrq, hr2⟩ := ih q hq0 (by omega)
          refine ⟨r, Ev.step (fun k => rfl) (Ev.pos (by omega) (Ev.pos (by omega) (Ev.bindS hq (Ev.neg (by omega) ?_)))), by omega, ?_⟩
          · rw [wsucc (by omega)]
            exact hr
          · rcases hr2 with h | ⟨h, h'⟩
            · exact .inl h
            · refine .inr ⟨h, fun j hj1 hj2 => ?_⟩
              by_cases e : j = i
              · rw [e]
                exact hq1
              · exact h' j (by omega) hj2
    obtain ⟨r, hr, hra, hr2⟩ := key 0 (Nat.zero_le _) (a - l.length) (by omega) (by omega)
    refine ⟨r, Ev.neg c hr, by omega, ?_⟩
    rcases hr2 with h | ⟨h, h'⟩
    · exact .inl h
    · refine .inr ⟨h, by omega, fun x hx => ?_⟩
      obtain ⟨j, hj, rfl⟩ := List.getElem_of_mem hx
      have := h' j (Nat.zero_le _) hj
      rwa [List.getD_eq_getElem?_getD, List.getElem?_eq_getElem hj] at this
theorem toEntryS_ev (l : List S56) (h : l.length < 2097152) : Ev (fun k => laws_toEntryS.f k l) (l.map cv_Entry) := by
  unfold laws_toEntryS.f
  refine Ev.pos (by omega) (Ev.pos (by omega) ?_)
  refine copyLoop laws_toEntryS.l0 cv_Entry z56 2097152 (by omega) ?_ ?_ l h _ (by simp)
  · intro xs ys i r hx hi hy h
    refine Ev.step (fun k => rfl) (Ev.pos (by omega) (Ev.pos (by omega) (Ev.bindS rfl (Ev.pos (by omega) ?_))))
    rw [wsucc (by omega)]
    exact h
  · intro xs ys
    exact Ev.step (fun k => rfl) (Ev.neg (by omega) (Ev.now _))
theorem eqEntry_self (a0 : ByteArray) (a1 : Int) (a2 : Int) (a3 : ByteArray) : laws_eqEntry.f a0 a1 a2 a3 a0 a1 a2 a3 = some true := by simp [laws_eqEntry.f, laws_eqKey.f]
theorem eqEntryS_ev (l : List S48) (h : l.length < 2097152) : Ev (fun k => laws_eqEntryS.f k l l) true := by
  unfold laws_eqEntryS.f
  refine Ev.pos rfl ?_
  have key : ∀ i, i ≤ l.length → Ev (fun k => laws_eqEntryS.l0 k l l (i : Int)) true := by
    refine downTo l.length (Ev.step (fun k => rfl) (Ev.neg (by omega) (Ev.now _))) ?_
    intro i hi ih
    refine Ev.step (fun k => rfl) (Ev.pos (by omega) (Ev.pos (by omega) (Ev.pos (by omega) (Ev.bindS (eqEntry_self _ _ _ _) (Ev.pos rfl ?_)))))
    rw [wsucc (by omega)]
    exact ih
  exact key 0 (Nat.zero_le _)
noncomputable def mk_Entry (k : Int) : S48 := ⟨⟨mt k, k + 1, k + 2⟩, mt (k + 3)⟩
theorem markEntryS_ev (l : List S48) (hl : l.length < 2097152) (k0 : Int) (h0 : 0 ≤ k0) (h1 : k0 < 274877906944) : Ev (fun k => laws_markEntryS.f k l k0) (k0 + 4 * l.length, (List.range l.length).map fun j : Nat => mk_Entry (k0 + 4 * (j : Int))) := by
  unfold laws_markEntryS.f
  refine markLoop laws_markEntryS.l0 mk_Entry 4 l.length hl (by omega) ?_ ?_ l rfl k0 h0 h1
  · intro ys i kk r hy hi k0 k1 h
    have rs : ∀ v : S48, rd_T48 (ys.set i v) (i : Int) = v := fun v => by
      unfold rd_T48
      rw [Int.toNat_natCast, List.getD_eq_getElem?_getD, List.getElem?_set_self (by omega)]
      rfl
    have w1 : wrap64 (kk + 1) = kk + 1 := by rw [wid (by omega) (by omega)]
    have w2 : wrap64 (kk + 1 + 1) = kk + 2 := by rw [wid (by omega) (by omega)]; omega
    have w3 : wrap64 (kk + 2 + 1) = kk + 3 := by rw [wid (by omega) (by omega)]; omega
    have w4 : wrap64 (kk + 3 + 1) = kk + 4 := by rw [wid (by omega) (by omega)]; omega
    refine Ev.step (fun k => laws_markEntryS.l0.eq_2 ..) ?_
    simp only [w1, w2, w3, w4, Int.toNat_natCast]
    refine Ev.pos (by omega) ?_
    refine Ev.bind (markText_ev _ (by omega)) ?_
    refine Ev.pos (by omega) ?_
    refine Ev.bindS rfl ?_
    refine Ev.bindS rfl ?_
    refine Ev.bindS rfl ?_
    refine Ev.bind (markText_ev _ (by omega)) ?_
    simp only [rs, List.set_set]
    rw [wsucc (by omega)]
    exact h
  · intro ys kk hy
    exact Ev.step (fun k => laws_markEntryS.l0.eq_2 ..) (Ev.neg (by omega) (Ev.now _))
theorem heldEntryS_ev (n : Nat) (hl : n < 2097152) (k0 : Int) (h0 : 0 ≤ k0) (h1 : k0 < 274877906944) : Ev (fun k => laws_heldEntryS.f k ((List.range n).map fun j : Nat => mk_Entry (k0 + 4 * (j : Int))) k0) (k0 + 4 * n) := by
  unfold laws_heldEntryS.f
  refine heldLoop laws_heldEntryS.l0 mk_Entry 4 n z48 hl (by omega) ?_ ?_ k0 h0 h1
  · intro ys i kk r hy hi k0 k1 hg h
    have rs : rd_T48 ys (i : Int) = mk_Entry kk := by
      unfold rd_T48
      rw [Int.toNat_natCast]
      exact hg
    have w1 : wrap64 (kk + 1) = kk + 1 := by rw [wid (by omega) (by omega)]
    have w2 : wrap64 (kk + 1 + 1) = kk + 2 := by rw [wid (by omega) (by omega)]; omega
    have w3 : wrap64 (kk + 2 + 1) = kk + 3 := by rw [wid (by omega) (by omega)]; omega
    have w4 : wrap64 (kk + 3 + 1) = kk + 4 := by rw [wid (by omega) (by omega)]; omega
    refine Ev.step (fun k => laws_heldEntryS.l0.eq_2 ..) ?_
    simp only [w1, w2, w3, w4, rs, mk_Entry]
    refine Ev.pos (by omega) ?_
    refine Ev.pos (by omega) ?_
    refine Ev.bind (markText_ev _ (by omega)) (Ev.pos rfl ?_)
    refine Ev.pos trivial ?_
    refine Ev.pos trivial ?_
    refine Ev.bind (markText_ev _ (by omega)) (Ev.pos rfl ?_)
    rw [wsucc (by omega)]
    exact h
  · intro ys kk hy
    exact Ev.step (fun k => laws_heldEntryS.l0.eq_2 ..) (Ev.neg (by omega) (Ev.now _))
end Go.Proofs.Ytbojfnijgmppbaa.P
end

section
namespace Go.Proofs.Ytbojfnijgmppbaa.Pure
open Go.RowKit Go.Proofs.YtbojfnijgmppbaaW.PrintWords Go.Proofs.YtbojfnijgmppbaaW.PrintLast Go.Proofs.YtbojfnijgmppbaaW.PrintMore
open Go.Proofs.Ytbojfnijgmppbaa.P
set_option linter.unusedVariables false
set_option linter.unusedSimpArgs false
theorem bsc_le (l : List S48) (y : S48) : bsc l y ≤ l.length := List.findIdx_le_length
theorem bsc_ahead {l : List S48} {y : S48} {i : Nat} (h : i < bsc l y) : ecmp (l.getD i z48) y < 0 := by
  have hl : i < l.length := Nat.lt_of_lt_of_le h (bsc_le l y)
  have := List.not_of_lt_findIdx h
  rw [List.getD_eq_getElem?_getD, List.getElem?_eq_getElem hl]
  simp at this ⊢
  exact this
theorem bsc_at {l : List S48} {y : S48} (h : bsc l y < l.length) : 0 ≤ ecmp (l.getD (bsc l y) z48) y := by
  have := List.findIdx_getElem (p := fun x => decide (0 ≤ ecmp x y)) (xs := l) (w := h)
  rw [List.getD_eq_getElem?_getD, List.getElem?_eq_getElem h]
  unfold bsc
  simpa using this
theorem bsc_behind {l : List S48} {y : S48} (hr : rowFrom l 0) {i : Nat} (h : bsc l y < i) (hi : i < l.length) : ecmp (l.getD i z48) y ≠ 0 := by
  intro h0
  obtain ⟨e1, e2, e3⟩ := (kcmp_zero _ _ _ _ _ _).1 h0
  have h1 := up_lt (upB_of hr) (i - bsc l y - 1) (bsc l y) (by omega)
  rw [show bsc l y + (i - bsc l y - 1) + 1 = i from by omega] at h1
  have h2 := bsc_at (l := l) (y := y) (by omega)
  unfold ecmp at h1 h2
  rw [e1, e2, e3] at h1
  omega
def putL (l : List S48) (y : S48) (i : Nat) : List S48 :=
  if i ≤ bsc l y then l.take i else if ecmp (l.getD (bsc l y) z48) y = 0 then l.take (bsc l y) ++ y :: (l.drop (bsc l y + 1)).take (i - (bsc l y + 1)) else l.take (bsc l y) ++ y :: (l.drop (bsc l y)).take (i - bsc l y)
def putV (l : List S48) (y : S48) : List S48 := if bsc l y < l.length then putL l y l.length else l ++ [y]
theorem take_one {α : Type} (l : List α) (z : α) (a n : Nat) (h : a + n < l.length) : (l.drop a).take (n + 1) = (l.drop a).take n ++ [l.getD (a + n) z] := by
  rw [List.take_add_one, List.getElem?_drop, List.getElem?_eq_getElem h, List.getD_eq_getElem?_getD, List.getElem?_eq_getElem h]
  rfl
theorem putL_len (l : List S48) (y : S48) (i : Nat) : (putL l y i).length ≤ l.length + 1 := by
  unfold putL
  have := bsc_le l y
  split
  · rw [List.length_take]; omega
  · split <;> (rw [List.length_append, List.length_cons, List.length_take, List.length_take, List.length_drop]; omega)
theorem putL_ahead {l : List S48} {y : S48} {i : Nat} (h : i < bsc l y) : putL l y (i + 1) = putL l y i ++ [l.getD i z48] := by
  have hl : i < l.length := Nat.lt_of_lt_of_le h (bsc_le l y)
  unfold putL
  rw [if_pos (show i + 1 ≤ bsc l y by omega), if_pos (show i ≤ bsc l y by omega)]
  have := take_one l z48 0 i (by omega)
  simpa using this
theorem putL_at {l : List S48} {y : S48} (h : bsc l y < l.length) : putL l y (bsc l y + 1) = if ecmp (l.getD (bsc l y) z48) y = 0 then putL l y (bsc l y) ++ [y] else putL l y (bsc l y) ++ [y] ++ [l.getD (bsc l y) z48] := by
  unfold putL
  rw [if_neg (show ¬ bsc l y + 1 ≤ bsc l y by omega), if_pos (Nat.le_refl _)]
  split
  · simp
  · have := take_one l z48 (bsc l y) 0 (by omega)
    rw [show bsc l y + 1 - bsc l y = 0 + 1 from by omega, this]
    simp
theorem putL_behind {l : List S48} {y : S48} {i : Nat} (h : bsc l y < i) (hi : i < l.length) : putL l y (i + 1) = putL l y i ++ [l.getD i z48] := by
  unfold putL
  rw [if_neg (show ¬ i + 1 ≤ bsc l y by omega), if_neg (show ¬ i ≤ bsc l y by omega)]
  split
  · have := take_one l z48 (bsc l y + 1) (i - (bsc l y + 1)) (by omega)
    rw [show i + 1 - (bsc l y + 1) = i - (bsc l y + 1) + 1 from by omega, this, show bsc l y + 1 + (i - (bsc l y + 1)) = i from by omega]
    simp
  · have := take_one l z48 (bsc l y) (i - bsc l y) (by omega)
    rw [show i + 1 - bsc l y = i - bsc l y + 1 from by omega, this, show bsc l y + (i - bsc l y) = i from by omega]
    simp
theorem l8Put_ev {l : List S48} (hr : isRow l) {y : S48} (hy : isEx y) : Ev (fun k => spec_l8Put.f k l y.f0.f0 y.f0.f1 y.f0.f2 y.f1) (putV l y) := by
  have hl := hr.1
  have hble := bsc_le l y
  have key : ∀ i, i ≤ l.length → Ev (fun k => spec_l8Put.l0 k l (putL l y i) (decide (bsc l y < i)) (i : Int) y.f0.f0 y.f0.f1 y.f0.f2 y.f1) (putV l y) := by
    refine downTo l.length ?_ ?_
    · refine Ev.step (fun k => spec_l8Put.l0.eq_2 ..) ?_
      refine Ev.neg (by omega) ?_
      by_cases c : bsc l y < l.length
      · rw [decide_eq_true c]
        refine Ev.pos rfl (Ev.eqr (Ev.now _) ?_)
        unfold putV
        rw [if_pos c]
      · rw [decide_eq_false c]
        have hp := putL_len l y l.length
        refine Ev.neg (by decide) (Ev.pos (by omega) (Ev.eqr (Ev.now _) ?_))
        unfold putV putL
        rw [if_neg c, if_pos (by omega), List.take_length]
    · intro i hi ih
      have hp := putL_len l y i
      have hg : rd_T48 l (i : Int) = l.getD i z48 := by unfold rd_T48; rw [Int.toNat_natCast]
      have hgl : l.getD i z48 = l[i] := by rw [List.getD_eq_getElem?_getD, List.getElem?_eq_getElem hi]; rfl
      have hk : isK (l.getD i z48).f0.f0 (l.getD i z48).f0.f1 (l.getD i z48).f0.f2 := by rw [hgl]; exact (hr.2 i (Nat.zero_le _) hi).1.1
      have hc := sKeyCmp_ev (l.getD i z48).f0.f0 (l.getD i z48).f0.f1 (l.getD i z48).f0.f2 y.f0.f0 y.f0.f1 y.f0.f2
      rw [if_pos ⟨hk, hy.1⟩] at hc
      have hce : ecmp (l.getD i z48) y = kcmp (l.getD i z48).f0.f0 (l.getD i z48).f0.f1 (l.getD i z48).f0.f2 y.f0.f0 y.f0.f1 y.f0.f2 := rfl
      rw [← hce] at hc
      refine Ev.step (fun k => spec_l8Put.l0.eq_2 ..) ?_
      rw [hg]
      refine Ev.pos (by omega) (Ev.pos (by omega) (Ev.bind hc ?_))
      rcases Nat.lt_trichotomy i (bsc l y) with c | c | c
      · have h1 := bsc_ahead c
        rw [decide_eq_false (by omega : ¬ bsc l y < i), decide_eq_false (by omega : ¬ ecmp (l.getD i z48) y ≥ 0)]
        refine Ev.neg (by decide) ?_
        refine Ev.step (fun k => spec_l8Put.j1.eq_2 ..) ?_
        rw [hg, wsucc (show i < 4611686018427387904 by omega)]
        rw [putL_ahead c, decide_eq_false (by omega : ¬ bsc l y < i + 1)] at ih
        exact Ev.neg (by decide) (Ev.neg (by omega) (Ev.pos (by omega) (Ev.pos (by omega) (Ev.pos (by omega) ih))))
      · have h1 := bsc_at (l := l) (y := y) (by omega)
        rw [← c] at h1
        rw [decide_eq_false (by omega : ¬ bsc l y < i), decide_eq_true (by omega : ecmp (l.getD i z48) y ≥ 0)]
        refine Ev.neg (by decide) ?_
        refine Ev.step (fun k => spec_l8Put.j1.eq_2 ..) ?_
        rw [hg, wsucc (show i < 4611686018427387904 by omega)]
        have hat := putL_at (l := l) (y := y) (by omega)
        rw [← c] at hat
        rw [hat, decide_eq_true (by omega : bsc l y < i + 1)] at ih
        refine Ev.pos rfl (Ev.pos (by omega) (Ev.bindS rfl ?_))
        by_cases c0 : ecmp (l.getD i z48) y = 0
        · rw [if_pos c0] at ih
          exact Ev.pos c0 ih
        · rw [if_neg c0] at ih
          exact Ev.neg c0 (Ev.pos (by omega) (Ev.pos (by omega) (Ev.pos (by rw [List.length_append, List.length_singleton]; omega) ih)))
      · have h1 := bsc_behind (y := y) hr.2 c hi
        rw [decide_eq_true c]
        refine Ev.pos rfl ?_
        refine Ev.step (fun k => spec_l8Put.j1.eq_2 ..) ?_
        rw [hg, wsucc (show i < 4611686018427387904 by omega)]
        rw [putL_behind c hi, decide_eq_true (by omega : bsc l y < i + 1)] at ih
        exact Ev.neg (by decide) (Ev.neg h1 (Ev.pos (by omega) (Ev.pos (by omega) (Ev.pos (by omega) ih))))
  have h0 := key 0 (Nat.zero_le _)
  rw [decide_eq_false (by omega : ¬ bsc l y < 0), show putL l y 0 = [] from by unfold putL; rw [if_pos (Nat.zero_le _)]; rfl] at h0
  exact h0
noncomputable def mpV (l : List S48) (y : S48) : List S48 × Bool :=
  if isRow l ∧ isEx y ∧ l.length < 400 ∧ ¬ (bsc l y < l.length ∧ ecmp (l.getD (bsc l y) z48) y = 0) then (l.take (bsc l y) ++ y :: l.drop (bsc l y), true) else ([], false)
theorem putV_len (l : List S48) (y : S48) (c : ¬ (bsc l y < l.length ∧ ecmp (l.getD (bsc l y) z48) y = 0)) : putV l y = l.take (bsc l y) ++ y :: l.drop (bsc l y) := by
  have := bsc_le l y
  unfold putV putL
  split
  · rename_i h
    rw [if_neg (show ¬ l.length ≤ bsc l y by omega), if_neg (fun h0 => c ⟨h, h0⟩), List.take_of_length_le (l := l.drop _) (by rw [List.length_drop]; exact Nat.le_refl _)]
  · rename_i h
    rw [List.take_of_length_le (by omega), List.drop_eq_nil_of_le (by omega)]
theorem putV_same (l : List S48) (y : S48) (c : bsc l y < l.length ∧ ecmp (l.getD (bsc l y) z48) y = 0) : (putV l y).length = l.length := by
  unfold putV putL
  rw [if_pos c.1, if_neg (show ¬ l.length ≤ bsc l y by omega), if_pos c.2, List.length_append, List.length_cons, List.length_take, List.length_take, List.length_drop]
  omega
theorem sMemPut_ev (l : List S48) (hl : l.length < 2097152) (y : S48) : Ev (fun k => spec_MemPut.f k l y.f0.f0 y.f0.f1 y.f0.f2 y.f1) (mpV l y) := by
  unfold spec_MemPut.f
  refine Ev.bind (sEntriesOk_ev l hl) ?_
  by_cases hr : isRow l
  · rw [decide_eq_true hr]
    refine Ev.pos rfl (Ev.bindS (sEntryOk_ev _ _ _ _) ?_)
    by_cases hy : isEx y
    · rw [decide_eq_true (show isE _ _ _ _ from hy)]
      refine Ev.pos rfl ?_
      refine Ev.step (fun k => spec_MemPut.j0.eq_2 ..) ?_
      by_cases h4 : l.length < 400
      · rw [decide_eq_false (by omega)]
        refine Ev.neg (by decide) (Ev.bind (l8Put_ev hr hy) ?_)
        by_cases c : bsc l y < l.length ∧ ecmp (l.getD (bsc l y) z48) y = 0
        · refine Ev.pos (by rw [putV_same l y c]) (Ev.eqr (Ev.now _) ?_)
          unfold mpV
          rw [if_neg (fun h => h.2.2.2 c)]
        · have := bsc_le l y
          refine Ev.neg (by rw [putV_len l y c, List.length_append, List.length_cons, List.length_take, List.length_drop]; omega) (Ev.eqr (Ev.now _) ?_)
          unfold mpV
          rw [if_pos ⟨hr, hy, h4, c⟩, putV_len l y c]
      · rw [decide_eq_true (by omega)]
        refine Ev.pos rfl (Ev.eqr (Ev.now _) ?_)
        unfold mpV
        rw [if_neg (fun h => h4 h.2.2.1)]
    · rw [decide_eq_false (show ¬ isE _ _ _ _ from hy)]
      refine Ev.neg (by decide) ?_
      refine Ev.step (fun k => spec_MemPut.j0.eq_2 ..) ?_
      refine Ev.pos rfl (Ev.eqr (Ev.now _) ?_)
      unfold mpV
      rw [if_neg (fun h => hy h.2.1)]
  · rw [decide_eq_false hr]
    refine Ev.neg (by decide) ?_
    refine Ev.step (fun k => spec_MemPut.j0.eq_2 ..) ?_
    refine Ev.pos rfl (Ev.eqr (Ev.now _) ?_)
    unfold mpV
    rw [if_neg (fun h => hr h.1)]
theorem memPut_ev (l : List S48) (hl : l.length < 2097152) (y : S48) : Ev (fun k => impl_MemPut.f k l y.f0.f0 y.f0.f1 y.f0.f2 y.f1) (mpV l y) := by
  unfold impl_MemPut.f
  refine Ev.bind (entriesOk_ev l hl) ?_
  by_cases hr : isRow l
  · have h400 := hr.1
    rw [decide_eq_true hr]
    refine Ev.pos rfl (Ev.bindS (entryOk_ev _ _ _ _) ?_)
    by_cases hy : isEx y
    · rw [decide_eq_true (show isE _ _ _ _ from hy)]
      refine Ev.pos rfl ?_
      by_cases h4 : l.length < 400
      · have hb := bsc_le l y
        refine Ev.neg (by omega) (Ev.bindS (bsearch_ev hr y) ?_)
        by_cases c : bsc l y < l.length ∧ ecmp (l.getD (bsc l y) z48) y = 0
        · refine Ev.pos (by simp only [Bool.and_eq_true, decide_eq_true_eq]; exact c) (Ev.eqr (Ev.now _) ?_)
          unfold mpV
          rw [if_neg (fun h => h.2.2.2 c)]
        · refine Ev.neg (by simpa using fun h1 h2 => c ⟨h1, h2⟩) (Ev.pos ⟨by simp, by simp; omega⟩ (Ev.eqr (Ev.now _) ?_))
          unfold mpV
          rw [if_pos ⟨hr, hy, h4, c⟩]
          simp only [Int.toNat_natCast]
      · refine Ev.pos (by omega) (Ev.eqr (Ev.now _) ?_)
        unfold mpV
        rw [if_neg (fun h => h4 h.2.2.1)]
    · rw [decide_eq_false (show ¬ isE _ _ _ _ from hy)]
      refine Ev.neg (by decide) (Ev.eqr (Ev.now _) ?_)
      unfold mpV
      rw [if_neg (fun h => hy h.2.1)]
  · rw [decide_eq_false hr]
    refine Ev.neg (by decide) (Ev.eqr (Ev.now _) ?_)
    unfold mpV
    rw [if_neg (fun h => hr h.1)]
theorem mpV_len (l : List S48) (y : S48) : (mpV l y).1.length ≤ 401 := by
  unfold mpV
  split
  · rename_i h
    have := h.1.1
    have := bsc_le l y
    simp only [List.length_append, List.length_cons, List.length_take, List.length_drop]
    omega
  · simp
end Go.Proofs.Ytbojfnijgmppbaa.Pure
end

section
namespace Go.Proofs.Ytbojfnijgmppbaa.Pure
open Go.RowKit Go.Proofs.YtbojfnijgmppbaaW.PrintWords Go.Proofs.YtbojfnijgmppbaaW.PrintLast Go.Proofs.YtbojfnijgmppbaaW.PrintMore
open Go.Proofs.Ytbojfnijgmppbaa.P
set_option linter.unusedVariables false
set_option linter.unusedSimpArgs false
theorem FnExactMemPut : ∀ (l0 : (List S56)) (a1_0 : ByteArray) (a1_1 : Int) (a1_2 : Int) (a1_3 : ByteArray), (l0.length ≤ 9223372036854775807 ∧ ∀ x ∈ l0, wf_Entry x) → a1_0.size ≤ 9223372036854775807 → (-9223372036854775808 ≤ a1_1 ∧ a1_1 ≤ 9223372036854775807) → (-9223372036854775808 ≤ a1_2 ∧ a1_2 ≤ 9223372036854775807) → a1_3.size ≤ 9223372036854775807 → Ev (fun k => laws_FnExactMemPut.f k l0 a1_0 a1_1 a1_2 a1_3) true := by
  intro l u q d v hl hu hq hd hv
  unfold laws_FnExactMemPut.f
  obtain ⟨s, hs, hs1, hs2⟩ := szEntryS_ev l 1048576 hl.2 hl.1 (by omega) (by omega)
  rcases hs2 with rfl | ⟨hs0, hlen, hsm⟩
  · exact Ev.bind hs (Ev.pos (by omega) (Ev.now _))
  · obtain ⟨s2, he2, h21, h22⟩ := szEntry_ev ⟨⟨u, q, d⟩, v⟩ s ⟨hu, hq.1, hq.2, hd.1, hd.2, hv⟩ (by omega) (by omega)
    refine Ev.bind hs (Ev.neg (by omega) (Ev.bindS he2 ?_))
    rcases h22 with rfl | ⟨h20, _⟩
    · exact Ev.pos (by omega) (Ev.now _)
    · have ht := toEntryS_ev l (by omega)
      have hm : (l.map cv_Entry).length < 2097152 := by rw [List.length_map]; omega
      have he := eqEntryS_ev (l.map cv_Entry) hm
      have hto : laws_toEntry.f u q d v = some (u, q, d, v) := rfl
      have hsp := sMemPut_ev (l.map cv_Entry) hm ⟨⟨u, q, d⟩, v⟩
      have him := memPut_ev (l.map cv_Entry) hm ⟨⟨u, q, d⟩, v⟩
      have hvl := mpV_len (l.map cv_Entry) ⟨⟨u, q, d⟩, v⟩
      generalize mpV (l.map cv_Entry) ⟨⟨u, q, d⟩, v⟩ = m at hsp him hvl
      have hev := eqEntryS_ev m.1 (by omega)
      have hma := markEntryS_ev (l.map cv_Entry) hm 1 (by omega) (by omega)
      have hmv := markEntryS_ev m.1 (by omega) 1 (by omega) (by omega)
      have hhv := heldEntryS_ev m.1.length (by omega) 1 (by omega) (by omega)
      refine Ev.neg (by omega) (Ev.bind ht (Ev.bindS hto (Ev.bind hsp (Ev.bind ht (Ev.bindS hto (Ev.bind him (Ev.bind hev (Ev.pos rfl ?_))))))))
      refine Ev.step (fun k => laws_FnExactMemPut.j0.eq_2 ..) ?_
      refine Ev.neg (by simp) (Ev.bind ht (Ev.bind he (Ev.pos rfl (Ev.bind hma (Ev.neg (by simp only []; omega) (Ev.bind hev (Ev.pos rfl ?_)))))))
      refine Ev.step (fun k => laws_FnExactMemPut.j1.eq_2 ..) ?_
      refine Ev.neg (by simp) (Ev.bind hmv (Ev.bind hhv (Ev.neg (by omega) (Ev.pos rfl (Ev.bind ht (Ev.bindS hto (Ev.bind him (Ev.bind hev (Ev.pos rfl ?_)))))))))
      refine Ev.step (fun k => laws_FnExactMemPut.j2.eq_2 ..) ?_
      exact Ev.neg (by simp) (Ev.bind hhv (Ev.neg (by omega) (Ev.pos rfl (Ev.now _))))
end Go.Proofs.Ytbojfnijgmppbaa.Pure
end
