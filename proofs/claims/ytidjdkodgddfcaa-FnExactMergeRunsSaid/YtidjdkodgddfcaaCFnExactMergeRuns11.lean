/- Proved: the law FnExactMergeRuns of the given program returns true for every input of its Go types and leaves each argument as it was; no condition. (Part 12 of 13.) -/
import Derived.Test.YtidjdkodgddfcaaCFnExactMergeRuns4
import Derived.ProofKit
import Derived.WideShapes
import Derived.DataReads
import Derived.ChangeArms
import Derived.Lib.SmallJoins
import Derived.Test.YtidjdkodgddfcaaCFnExactMergeRuns5
import Derived.Test.YtidjdkodgddfcaaCFnExactMergeRuns10
import Derived.Test.YtidjdkodgddfcaaCFnExactMergeRuns6
import Derived.Test.YtidjdkodgddfcaaCFnExactMergeRuns7
import Derived.Test.YtidjdkodgddfcaaCFnExactMergeRuns9
section
namespace Go.Proofs.Ytidjdkodgddfcaa.P
open Go.RowKit Go.Proofs.YtidjdkodgddfcaaW.PrintWords Go.Proofs.YtidjdkodgddfcaaW.PrintLast Go.Proofs.YtidjdkodgddfcaaW.PrintMore
attribute [local go_sem] str_gtr str_leq str_geq max2_int min2_int max_two min_two max_three min_three max_four min_four
set_option linter.unusedVariables false
set_option linter.unusedSimpArgs false
def Opens {α : Type} (P : Program) (d : Kd α) (t : TypeId) (wf : α → Prop) : Prop :=
  ∀ {H : Type} (enc : TypeId × Value → H) (w : World) (fuel : Nat) (cs : List Value) (x : DataW H × List MemPlace), DataW.trod enc P w 0 (fun _ => true) true fuel t cs = some x → ∃ a, d.K w a cs ∧ wf a
theorem opens_i64 {P : Program} {t : TypeId} (ht : P.underlying t = some (.int .i64)) : Opens P (Kd.int .i64) t (fun n => -9223372036854775808 ≤ n ∧ n ≤ 9223372036854775807) := by
  intro H enc w fuel cs x h
  obtain ⟨n, rfl, _, hw⟩ := DataW.trod_int ht h
  exact ⟨n, rfl, by simpa [Lit.wf, IntKind.min, IntKind.max, IntKind.signed, IntKind.bits] using hw⟩
theorem opens_str {P : Program} {t : TypeId} (ht : P.underlying t = some .string) : Opens P Kd.string t (fun s => s.size ≤ 9223372036854775807) := by
  intro H enc w fuel cs x h
  obtain ⟨n, rfl, _, hw⟩ := DataW.trod_string ht h
  exact ⟨n, rfl, by simpa [Go.maxLen] using hw⟩
theorem choose_list {α : Type} (n : Nat) (Q : Nat → α → Prop) (h : ∀ j, j < n → ∃ a, Q j a) : ∃ l : List α, l.length = n ∧ ∀ j a, l[j]? = some a → Q j a := by
  induction n with
  | zero => exact ⟨[], rfl, fun j a h => by simp at h⟩
  | succ n ih =>
    obtain ⟨l, hl, hq⟩ := ih (fun j hj => h j (by omega))
    obtain ⟨a, ha⟩ := h n (by omega)
    refine ⟨l ++ [a], by simp [hl], fun j b hb => ?_⟩
    rcases Nat.lt_or_ge j l.length with hj | hj
    · rw [List.getElem?_append_left hj] at hb
      exact hq j b hb
    · rw [List.getElem?_append_right hj] at hb
      have hj0 : j - l.length = 0 := by
        rcases Nat.eq_zero_or_pos (j - l.length) with h0 | h0
        · exact h0
        · rw [List.getElem?_eq_none (by simp; omega)] at hb
          cases hb
      rw [hj0] at hb
      obtain rfl : a = b := by simpa using hb
      rw [show j = n from by omega]
      exact ha
theorem opens_slice {α : Type} {P : Program} {d : Kd α} {t e : TypeId} {wf : α → Prop} (ht : P.underlying t = some (.slice e)) (hsz : P.cellsOf e = d.sz) (h : Opens P d e wf) :
    Opens P (Kd.slice e d) t (fun l => l.length ≤ 9223372036854775807 ∧ ∀ x ∈ l, wf x) := by
  intro H enc w fuel cs x hx
  rcases DataW.trod_slice ht hx with ⟨rfl, _⟩ | ⟨a, len, cap, elems, rest, n, _, rfl, _, _, hlc, hcm, hel, hi, _, _⟩
  · exact ⟨[], ⟨none, 0, rfl, Nat.le_refl _, Kd.C_nil d w⟩, by simp, by simp⟩
  · obtain ⟨l, hl, hq⟩ := choose_list len (fun j x => wf x ∧ ∃ c, c.length = d.sz ∧ d.K w x c ∧ ∀ i u, c[i]? = some u → w.cell? (a.add (j * d.sz + i)) = some u) (fun j hj => by
      have h1 := hi j hj
      rw [List.getElem?_eq_getElem (show j < elems.length by omega), Option.bind_eq_some_iff] at h1
      obtain ⟨c, hc, hy⟩ := h1
      obtain ⟨x, hx, hw⟩ := h enc w n c _ hy
      obtain ⟨_, hlen, hcell⟩ := World.cells?_some hc
      refine ⟨x, hw, c, by rw [hlen, hsz], hx, fun i u hu => ?_⟩
      have hil : i < P.cellsOf e := by
        rw [← hlen]
        exact (List.getElem?_eq_some_iff.1 hu).1
      have := hcell i hil
      rw [hsz] at this
      rw [← hu, ← this, Addr.add_add])
    have hm : len ≤ 9223372036854775807 := by
      have : cap ≤ 9223372036854775807 := by simpa [Go.maxLen] using hcm
      omega
    refine ⟨l, ⟨some a, cap, by rw [hl], by omega, hl.trans hl.symm, by omega, fun _ => ⟨a, rfl, fun j p hp => (hq j p hp).2⟩⟩, by omega, fun x hx => ?_⟩
    obtain ⟨j, hj, rfl⟩ := List.getElem_of_mem hx
    exact (hq j _ (List.getElem?_eq_getElem hj)).1
end Go.Proofs.Ytidjdkodgddfcaa.P
end

section
namespace Go.Proofs.Ytidjdkodgddfcaa.P
open Go.RowKit Go.Proofs.YtidjdkodgddfcaaW.PrintWords Go.Proofs.YtidjdkodgddfcaaW.PrintLast Go.Proofs.YtidjdkodgddfcaaW.PrintMore
attribute [local go_sem] str_gtr str_leq str_geq max2_int min2_int max_two min_two max_three min_three max_four min_four
set_option linter.unusedVariables false
set_option linter.unusedSimpArgs false
theorem strOfNums_size (l : List Int) : (strOfNums l).size = l.length := by
  unfold strOfNums
  simp [ByteArray.size]
theorem markText_ends (n : Int) (h : n < 1099511627776) : ∃ r, Ev (fun k => laws_markText.f k n) r := by
  by_cases h0 : n ≤ 0
  · exact ⟨_, by unfold laws_markText.f; exact Ev.pos h0 (Ev.now _)⟩
  · have key : ∀ (d : Nat) (x : Int) (y : ByteArray), 0 ≤ x → x ≤ d → y.size + d < 2199023255552 → ∃ r, Ev (fun k => laws_markText.l0 k x y) r := by
      intro d
      induction d using Nat.strongRecOn with
      | _ d ih =>
        intro x y hx hd hy
        by_cases hp : x > 0
        · have ht : Int.tdiv x 10 = x / 10 := Int.tdiv_eq_ediv_of_nonneg hx
          obtain ⟨r, hr⟩ := ih (d - 1) (by omega) (x / 10) ((strOfNums [(wrap64 (48 + (Int.tmod x 10))) % 256]) ++ y) (by omega) (by omega) (by
            rw [ByteArray.size_append, strOfNums_size]
            simp only [List.length_cons, List.length_nil]
            omega)
          refine ⟨r, Ev.step (fun k => rfl) (Ev.pos hp (Ev.bindS rfl (Ev.pos (by rw [strOfNums_size]; simp only [List.length_cons, List.length_nil]; omega) ?_)))⟩
          rw [ht, wid (by omega) (by omega)]
          exact hr
        · exact ⟨_, Ev.step (fun k => rfl) (Ev.neg hp (Ev.pos (by omega) (Ev.now _)))⟩
    obtain ⟨r, hr⟩ := key n.toNat n ⟨#[]⟩ (by omega) (by omega) (by
      show 0 + n.toNat < _
      omega)
    exact ⟨r, by unfold laws_markText.f; exact Ev.neg h0 hr⟩
noncomputable def mt (n : Int) : ByteArray := if h : n < 1099511627776 then (markText_ends n h).choose else ⟨#[]⟩
theorem markText_ev (n : Int) (h : n < 1099511627776) : Ev (fun k => laws_markText.f k n) (mt n) := by
  rw [mt, dif_pos h]
  exact (markText_ends n h).choose_spec
theorem markLoop {α : Type} (l : Nat → List α → Int → Int → Option (Int × List α)) (mk : Int → α) (c n : Nat) (hn : n < 2097152) (hc : c ≤ 8)
    (hs : ∀ (ys : List α) (i : Nat) (kk : Int) (r : Int × List α), ys.length = n → i < n → 0 ≤ kk → kk < 549755813888 → Ev (fun k => l k (ys.set i (mk kk)) (kk + c) ((i + 1 : Nat) : Int)) r → Ev (fun k => l k ys kk (i : Int)) r)
    (he : ∀ (ys : List α) (kk : Int), ys.length = n → Ev (fun k => l k ys kk (n : Int)) (kk, ys)) (ys : List α) (hy : ys.length = n) (k0 : Int) (h0 : 0 ≤ k0) (h1 : k0 < 274877906944) :
    Ev (fun k => l k ys k0 0) (k0 + c * n, (List.range n).map fun j : Nat => mk (k0 + (c : Int) * (j : Int))) := by
  have key : ∀ i, i ≤ n → ∀ ys : List α, ys.length = n → Ev (fun k => l k ys (k0 + c * i) (i : Int)) (k0 + c * n, ys.take i ++ (List.range' i (n - i)).map fun j : Nat => mk (k0 + (c : Int) * (j : Int))) := by
    refine downTo n ?_ ?_
    · intro ys hy
      refine Ev.eqr (he ys _ hy) ?_
      rw [Nat.sub_self, List.range'_zero, List.map_nil, List.append_nil, List.take_of_length_le (by omega)]
    · intro i hi ih ys hy
      have hcb : (c : Int) * (i : Int) ≤ 16777216 := by
        have h2 : c * i ≤ 8 * i := Nat.mul_le_mul_right i hc
        have e : (c : Int) * (i : Int) = ((c * i : Nat) : Int) := (Int.natCast_mul c i).symm
        rw [e]
        omega
      have hcp : (0 : Int) ≤ (c : Int) * (i : Int) := Int.mul_nonneg (by omega) (by omega)
      refine hs ys i _ _ hy hi (by omega) (by omega) ?_
      rw [show k0 + (c : Int) * (i : Int) + (c : Int) = k0 + (c : Int) * ((i + 1 : Nat) : Int) from by rw [Int.natCast_add, Int.mul_add]; omega]
      refine Ev.eqr (ih (ys.set i (mk (k0 + (c : Int) * (i : Int)))) (by simpa using hy)) ?_
      rw [set_take _ _ _ (by omega), List.append_assoc, show n - i = (n - (i + 1)) + 1 from by omega, List.range'_succ, List.map_cons]
      rfl
  have := key 0 (Nat.zero_le _) ys hy
  simp only [Int.natCast_zero, Int.mul_zero, Int.add_zero, List.take_zero, List.nil_append, Nat.sub_zero, ← List.range_eq_range'] at this
  exact this
theorem heldLoop {α : Type} (l : Nat → List α → Int → Int → Option Int) (mk : Int → α) (c n : Nat) (d : α) (hn : n < 2097152) (hc : c ≤ 8)
    (hs : ∀ (ys : List α) (i : Nat) (kk : Int) (r : Int), ys.length = n → i < n → 0 ≤ kk → kk < 549755813888 → ys.getD i d = mk kk → Ev (fun k => l k ys (kk + c) ((i + 1 : Nat) : Int)) r → Ev (fun k => l k ys kk (i : Int)) r)
    (he : ∀ (ys : List α) (kk : Int), ys.length = n → Ev (fun k => l k ys kk (n : Int)) kk) (k0 : Int) (h0 : 0 ≤ k0) (h1 : k0 < 274877906944) :
    Ev (fun k => l k ((List.range n).map fun j : Nat => mk (k0 + (c : Int) * (j : Int))) k0 0) (k0 + c * n) := by
  have key : ∀ i, i ≤ n → Ev (fun k => l k ((List.range n).map fun j : Nat => mk (k0 + (c : Int) * (j : Int))) (k0 + c * i) (i : Int)) (k0 + c * n) := by
    refine downTo n (he _ _ (by simp)) ?_
    intro i hi ih
    have hcb : (c : Int) * (i : Int) ≤ 16777216 := by
      have h2 : c * i ≤ 8 * i := Nat.mul_le_mul_right i hc
      have e : (c : Int) * (i : Int) = ((c * i : Nat) : Int) := (Int.natCast_mul c i).symm
      rw [e]
      omega
    have hcp : (0 : Int) ≤ (c : Int) * (i : Int) := Int.mul_nonneg (by omega) (by omega)
    refine hs _ i _ _ (by simp) hi (by omega) (by omega) ?_ ?_
    · rw [List.getD_eq_getElem?_getD, List.getElem?_map, List.getElem?_range hi]
      rfl
    · rw [show k0 + (c : Int) * (i : Int) + (c : Int) = k0 + (c : Int) * ((i + 1 : Nat) : Int) from by rw [Int.natCast_add, Int.mul_add]; omega]
      exact ih
  have := key 0 (Nat.zero_le _)
  simp only [Int.natCast_zero, Int.mul_zero, Int.add_zero] at this
  exact this
def wf_Key (x : S31) : Prop := x.f0.size ≤ 9223372036854775807 ∧ -9223372036854775808 ≤ x.f1 ∧ x.f1 ≤ 9223372036854775807 ∧ -9223372036854775808 ≤ x.f2 ∧ x.f2 ≤ 9223372036854775807
def sm_Key (x : S31) : Prop := x.f0.size ≤ 1048576
theorem szKey_ev (x : S31) (a : Int) (hw : wf_Key x) (h0 : 0 ≤ a) (h1 : a ≤ 1048576) : ∃ r, laws_szKey.f (x.f0) (x.f1) (x.f2) a = some r ∧ r ≤ a ∧ (r = -1 ∨ 0 ≤ r ∧ sm_Key x) := by
  unfold wf_Key at hw
  unfold sm_Key
  unfold laws_szKey.f
  rw [wid (x := a - (x.f0.size : Int)) (by omega) (by omega)]
  by_cases c0 : a - (x.f0.size : Int) < 0
  · exact ⟨-1, by rw [if_pos c0], by omega, .inl rfl⟩
  · rw [if_neg c0]
    exact ⟨_, rfl, by omega, .inr ⟨by omega, by omega⟩⟩
def cv_Entry (x : S101) : S64 := ⟨⟨x.f0.f0, x.f0.f1, x.f0.f2⟩, x.f1⟩
def wf_Entry (x : S101) : Prop := x.f0.f0.size ≤ 9223372036854775807 ∧ -9223372036854775808 ≤ x.f0.f1 ∧ x.f0.f1 ≤ 9223372036854775807 ∧ -9223372036854775808 ≤ x.f0.f2 ∧ x.f0.f2 ≤ 9223372036854775807 ∧ x.f1.size ≤ 9223372036854775807
def sm_Entry (x : S101) : Prop := x.f0.f0.size ≤ 1048576 ∧ x.f1.size ≤ 1048576
theorem szEntry_ev (x : S101) (a : Int) (hw : wf_Entry x) (h0 : 0 ≤ a) (h1 : a ≤ 1048576) : ∃ r, laws_szEntry.f (x.f0.f0) (x.f0.f1) (x.f0.f2) (x.f1) a = some r ∧ r ≤ a ∧ (r = -1 ∨ 0 ≤ r ∧ sm_Entry x) := by
  unfold wf_Entry at hw
  unfold sm_Entry
  obtain ⟨q, hq, hqa, hq2⟩ := szKey_ev x.f0 a (by unfold wf_Key; exact ⟨hw.1, hw.2.1, hw.2.2.1, hw.2.2.2.1, hw.2.2.2.2.1⟩) h0 h1
  unfold sm_Key at hq2
  unfold laws_szEntry.f
  rw [hq]
  simp only [Option.bind_some]
  rcases hq2 with rfl | ⟨hq0, hq1⟩
  · exact ⟨-1, by simp, by omega, .inl rfl⟩
  · rw [if_neg (by omega), wid (by omega) (by omega)]
    by_cases c : q - (x.f1.size : Int) < 0
    · exact ⟨-1, by rw [if_pos c], by omega, .inl rfl⟩
    · exact ⟨_, by rw [if_neg c], by omega, .inr ⟨by omega, by omega, by omega⟩⟩
theorem toEntryS_ev (l : List S101) (h : l.length < 2097152) : Ev (fun k => laws_toEntryS.f k l) (l.map cv_Entry) := by
  unfold laws_toEntryS.f
  refine Ev.pos (by omega) (Ev.pos (by omega) ?_)
  refine copyLoop laws_toEntryS.l0 cv_Entry z101 2097152 (by omega) ?_ ?_ l h _ (by simp)
  · intro xs ys i r hx hi hy h
    refine Ev.step (fun k => rfl) (Ev.pos (by omega) (Ev.pos (by omega) (Ev.bindS rfl (Ev.pos (by omega) ?_))))
    rw [wsucc (by omega)]
    exact h
  · intro xs ys
    exact Ev.step (fun k => rfl) (Ev.neg (by omega) (Ev.now _))
theorem eqEntry_self (a0 : ByteArray) (a1 : Int) (a2 : Int) (a3 : ByteArray) : laws_eqEntry.f a0 a1 a2 a3 a0 a1 a2 a3 = some true := by simp [laws_eqEntry.f, laws_eqKey.f]
theorem eqEntryS_ev (l : List S64) (h : l.length < 2097152) : Ev (fun k => laws_eqEntryS.f k l l) true := by
  unfold laws_eqEntryS.f
  refine Ev.pos rfl ?_
  have key : ∀ i, i ≤ l.length → Ev (fun k => laws_eqEntryS.l0 k l l (i : Int)) true := by
    refine downTo l.length (Ev.step (fun k => rfl) (Ev.neg (by omega) (Ev.now _))) ?_
    intro i hi ih
    refine Ev.step (fun k => rfl) (Ev.pos (by omega) (Ev.pos (by omega) (Ev.pos (by omega) (Ev.bindS (eqEntry_self _ _ _ _) (Ev.pos rfl ?_)))))
    rw [wsucc (by omega)]
    exact ih
  exact key 0 (Nat.zero_le _)
noncomputable def mk_Entry (k : Int) : S64 := ⟨⟨mt k, k + 1, k + 2⟩, mt (k + 3)⟩
theorem markEntryS_ev (l : List S64) (hl : l.length < 2097152) (k0 : Int) (h0 : 0 ≤ k0) (h1 : k0 < 274877906944) : Ev (fun k => laws_markEntryS.f k l k0) (k0 + 4 * l.length, (List.range l.length).map fun j : Nat => mk_Entry (k0 + 4 * (j : Int))) := by
  unfold laws_markEntryS.f
  refine markLoop laws_markEntryS.l0 mk_Entry 4 l.length hl (by omega) ?_ ?_ l rfl k0 h0 h1
  · intro ys i kk r hy hi k0 k1 h
    have rs : ∀ v : S64, rd_T64 (ys.set i v) (i : Int) = v := fun v => by
      unfold rd_T64
      rw [Int.toNat_natCast, List.getD_eq_getElem?_getD, List.getElem?_set_self (by omega)]
      rfl
    have w1 : wrap64 (kk + 1) = kk + 1 := by rw [wid (by omega) (by omega)]
    have w2 : wrap64 (kk + 1 + 1) = kk + 2 := by rw [wid (by omega) (by omega)]; omega
    have w3 : wrap64 (kk + 2 + 1) = kk + 3 := by rw [wid (by omega) (by omega)]; omega
    have w4 : wrap64 (kk + 3 + 1) = kk + 4 := by rw [wid (by omega) (by omega)]; omega
    refine Ev.step (fun k => laws_markEntryS.l0.eq_2 ..) ?_
    simp only [w1, w2, w3, w4, Int.toNat_natCast]
    refine Ev.pos (by omega) ?_
    refine Ev.bind (markText_ev _ (by omega)) ?_
    refine Ev.pos (by omega) ?_
    refine Ev.bindS rfl ?_
    refine Ev.bindS rfl ?_
    refine Ev.bindS rfl ?_
    refine Ev.bind (markText_ev _ (by omega)) ?_
    simp only [rs, List.set_set]
    rw [wsucc (by omega)]
    exact h
  · intro ys kk hy
    exact Ev.step (fun k => laws_markEntryS.l0.eq_2 ..) (Ev.neg (by omega) (Ev.now _))
theorem heldEntryS_ev (n : Nat) (hl : n < 2097152) (k0 : Int) (h0 : 0 ≤ k0) (h1 : k0 < 274877906944) : Ev (fun k => laws_heldEntryS.f k ((List.range n).map fun j : Nat => mk_Entry (k0 + 4 * (j : Int))) k0) (k0 + 4 * n) := by
  unfold laws_heldEntryS.f
  refine heldLoop laws_heldEntryS.l0 mk_Entry 4 n z64 hl (by omega) ?_ ?_ k0 h0 h1
  · intro ys i kk r hy hi k0 k1 hg h
    have rs : rd_T64 ys (i : Int) = mk_Entry kk := by
      unfold rd_T64
      rw [Int.toNat_natCast]
      exact hg
    have w1 : wrap64 (kk + 1) = kk + 1 := by rw [wid (by omega) (by omega)]
    have w2 : wrap64 (kk + 1 + 1) = kk + 2 := by rw [wid (by omega) (by omega)]; omega
    have w3 : wrap64 (kk + 2 + 1) = kk + 3 := by rw [wid (by omega) (by omega)]; omega
    have w4 : wrap64 (kk + 3 + 1) = kk + 4 := by rw [wid (by omega) (by omega)]; omega
    refine Ev.step (fun k => laws_heldEntryS.l0.eq_2 ..) ?_
    simp only [w1, w2, w3, w4, rs, mk_Entry]
    refine Ev.pos (by omega) ?_
    refine Ev.pos (by omega) ?_
    refine Ev.bind (markText_ev _ (by omega)) (Ev.pos rfl ?_)
    refine Ev.pos trivial ?_
    refine Ev.pos trivial ?_
    refine Ev.bind (markText_ev _ (by omega)) (Ev.pos rfl ?_)
    rw [wsucc (by omega)]
    exact h
  · intro ys kk hy
    exact Ev.step (fun k => laws_heldEntryS.l0.eq_2 ..) (Ev.neg (by omega) (Ev.now _))
end Go.Proofs.Ytidjdkodgddfcaa.P
end

section
namespace Go.Proofs.Ytidjdkodgddfcaa.Pure
open Go.RowKit Go.Proofs.YtidjdkodgddfcaaW.PrintWords Go.Proofs.YtidjdkodgddfcaaW.PrintLast Go.Proofs.YtidjdkodgddfcaaW.PrintMore
open Go.Proofs.Ytidjdkodgddfcaa.P
set_option linter.unusedVariables false
set_option linter.unusedSimpArgs false
abbrev R_ := S62
def total : List R_ → Nat
  | [] => 0
  | x :: xs => x.f0.length + total xs
def rOk (l : List R_) : Prop := l.length ≤ 20 ∧ (∀ x ∈ l, isRow x.f0) ∧ total l ≤ 400
noncomputable instance (l : List R_) : Decidable (rOk l) := Classical.propDecidable _
noncomputable instance (l : List R_) : Decidable (∀ x ∈ l, isRow x.f0) := Classical.propDecidable _
theorem runsOk1_ev (x : R_) (h : x.f0.length < 2097152) : Ev (fun k => impl_RunsOk_1.f k x.f0) (!decide (isRow x.f0)) := by
  unfold impl_RunsOk_1.f
  exact Ev.bind (entriesOk_ev x.f0 h) (Ev.now _)
theorem contains_ev : ∀ l : List R_, (∀ x ∈ l, x.f0.length < 2097152) → Ev (fun k => containsFunc_notRow.f k l) (!decide (∀ x ∈ l, isRow x.f0))
  | [], _ => by
    refine (Ev.now false).eqr ?_
    rw [decide_eq_true (show ∀ x ∈ ([] : List R_), isRow x.f0 from fun x hx => by cases hx)]
    rfl
  | x :: xs, h => by
    have h1 := runsOk1_ev x (h x List.mem_cons_self)
    have h2 := contains_ev xs (fun y hy => h y (List.mem_cons_of_mem _ hy))
    unfold containsFunc_notRow.f at *
    unfold runsBad
    refine Ev.bind h1 (Ev.bind h2 ((Ev.now _).eqr ?_))
    by_cases c1 : isRow x.f0
    · by_cases c2 : ∀ y ∈ xs, isRow y.f0
      · rw [decide_eq_true c1, decide_eq_true c2, decide_eq_true (show ∀ y ∈ x :: xs, isRow y.f0 from fun y hy => (List.mem_cons.1 hy).elim (fun e => e ▸ c1) (c2 y))]
        rfl
      · rw [decide_eq_true c1, decide_eq_false c2, decide_eq_false (show ¬ ∀ y ∈ x :: xs, isRow y.f0 from fun hh => c2 fun y hy => hh y (List.mem_cons_of_mem _ hy))]
        rfl
    · rw [decide_eq_false c1, decide_eq_false (show ¬ ∀ y ∈ x :: xs, isRow y.f0 from fun hh => c1 (hh x List.mem_cons_self))]
      rfl
theorem rdRn (l : List R_) (i : Nat) (h : i < l.length) : rd_T62 l (i : Int) = l[i] := by
  unfold rd_T62
  rw [Int.toNat_natCast, List.getD_eq_getElem?_getD, List.getElem?_eq_getElem h]
  rfl
theorem total_drop (l : List R_) (i : Nat) (h : i < l.length) : total (l.drop i) = l[i].f0.length + total (l.drop (i + 1)) := by rw [List.drop_eq_getElem_cons h, total]
theorem joined_ev (l : List R_) (hl : l.length ≤ 20) (h : ∀ x ∈ l, x.f0.length ≤ 400) : ∃ r, Ev (fun k => impl_joined.f k l) r ∧ r.length = total l := by
  unfold impl_joined.f
  have key : ∀ i, i ≤ l.length → ∀ out : List S64, out.length ≤ i * 400 → ∃ r, Ev (fun k => impl_joined.l0 k out l (l.length : Int) (i : Int)) r ∧ r.length = out.length + total (l.drop i) := by
    refine downTo l.length ?_ ?_
    · intro out _
      refine ⟨out, ?_, by rw [List.drop_length]; rfl⟩
      refine Ev.step (fun k => impl_joined.l0.eq_2 ..) ?_
      exact Ev.neg (by omega) (Ev.now _)
    · intro i hi ih out ho
      have hx := h l[i] (List.getElem_mem hi)
      obtain ⟨r, h1, h2⟩ := ih (out ++ l[i].f0) (by rw [List.length_append]; omega)
      refine ⟨r, ?_, by rw [h2, List.length_append, total_drop l i hi]; omega⟩
      refine Ev.step (fun k => impl_joined.l0.eq_2 ..) ?_
      rw [rdRn l i hi, wsucc (show i < 4611686018427387904 by omega)]
      exact Ev.pos (by omega) (Ev.pos (by omega) (Ev.pos (by omega) (Ev.pos (by omega) h1)))
  obtain ⟨r, h1, h2⟩ := key 0 (Nat.zero_le _) [] (by simp)
  exact ⟨r, h1, by simpa using h2⟩
theorem runsOk_ev (l : List R_) (h : ∀ x ∈ l, x.f0.length < 2097152) : Ev (fun k => impl_RunsOk.f k l) (decide (rOk l)) := by
  unfold impl_RunsOk.f
  by_cases c : (l.length : Int) ≤ 20
  case neg => exact Ev.neg c ((Ev.now _).eqr (decide_eq_false fun hh => c (by have := hh.1; omega)).symm)
  refine Ev.pos c (Ev.bind (contains_ev l h) ?_)
  by_cases c2 : ∀ x ∈ l, isRow x.f0
  case neg =>
    refine Ev.pos (by simp [c2]) ((Ev.now _).eqr (decide_eq_false fun hh => c2 hh.2.1).symm)
  obtain ⟨r, h1, h2⟩ := joined_ev l (by omega) (fun x hx => (c2 x hx).1)
  refine Ev.neg (by rw [decide_eq_true c2]; simp) (Ev.bind h1 ((Ev.now _).eqr ?_))
  rw [h2]
  exact decide_eq_decide.2 ⟨fun h3 => ⟨by omega, c2, by omega⟩, fun h3 => by have := h3.2.2; omega⟩
theorem sRunsOk_ev (l : List R_) (h : ∀ x ∈ l, x.f0.length < 2097152) : Ev (fun k => spec_RunsOk.f k l) (decide (rOk l)) := by
  unfold spec_RunsOk.f
  by_cases c : (l.length : Int) > 20
  · exact Ev.pos c ((Ev.now _).eqr (decide_eq_false fun hh => by have := hh.1; omega).symm)
  refine Ev.neg c ?_
  have key : ∀ i, i ≤ l.length → ∀ n : Nat, n ≤ i * 400 → (n + total (l.drop i) = total l) → (∀ j, (hj : j < i) → (hl : j < l.length) → isRow l[j].f0) → Ev (fun k => spec_RunsOk.l0 k l (n : Int) (i : Int)) (decide (rOk l)) := by
    refine downTo l.length ?_ ?_
    · intro n hn ht hb
      refine Ev.step (fun k => spec_RunsOk.l0.eq_2 ..) ?_
      rw [List.drop_length] at ht
      simp only [total, Nat.add_zero] at ht
      refine Ev.neg (by omega) ((Ev.now _).eqr (decide_eq_decide.2 ⟨fun h3 => ⟨by omega, fun x hx => ?_, by omega⟩, fun h3 => by have := h3.2.2; omega⟩))
      obtain ⟨j, hj, rfl⟩ := List.getElem_of_mem hx
      exact hb j hj hj
    · intro i hi ih n hn ht hb
      refine Ev.step (fun k => spec_RunsOk.l0.eq_2 ..) ?_
      rw [rdRn l i hi, wsucc (show i < 4611686018427387904 by omega)]
      refine Ev.pos (by omega) (Ev.pos (by omega) (Ev.bind (sEntriesOk_ev l[i].f0 (h _ (List.getElem_mem hi))) ?_))
      by_cases c2 : isRow l[i].f0
      · have hx := c2.1
        rw [wid (x := (n : Int) + (l[i].f0.length : Int)) (by omega) (by omega)]
        rw [total_drop l i hi] at ht
        refine Ev.pos (decide_eq_true c2) ?_
        have := ih (n + l[i].f0.length) (by omega) (by omega) (fun j hj hl => ?_)
        · rw [Int.natCast_add] at this
          exact this
        · by_cases e : j = i
          · subst e; exact c2
          · exact hb j (by omega) hl
      · exact Ev.neg (by simp [c2]) ((Ev.now _).eqr (decide_eq_false fun h3 => c2 (h3.2.1 _ (List.getElem_mem hi))).symm)
  exact key 0 (Nat.zero_le _) 0 (Nat.zero_le _) (by simp) (fun j hj => absurd hj (Nat.not_lt_zero _))
end Go.Proofs.Ytidjdkodgddfcaa.Pure
end

section
namespace Go.Proofs.Ytidjdkodgddfcaa.Pure
open Go.RowKit Go.Proofs.YtidjdkodgddfcaaW.PrintWords Go.Proofs.YtidjdkodgddfcaaW.PrintLast Go.Proofs.YtidjdkodgddfcaaW.PrintMore
open Go.Proofs.Ytidjdkodgddfcaa.P
set_option linter.unusedVariables false
set_option linter.unusedSimpArgs false
abbrev Rl_ := S137
def wfS137 (x : Rl_) : Prop := (x.f0.length ≤ 9223372036854775807 ∧ ∀ y ∈ x.f0, wf_Entry y)
def cvR (x : Rl_) : R_ := ⟨x.f0.map cv_Entry⟩
theorem rdRl (l : List Rl_) (i : Nat) (h : i < l.length) : rd_T137 l (i : Int) = l[i] := by
  unfold rd_T137
  rw [Int.toNat_natCast, List.getD_eq_getElem?_getD, List.getElem?_eq_getElem h]
  rfl
theorem szEntryS_ev2 (l : List S101) (a : Int) (hw : ∀ x ∈ l, wf_Entry x) (hl : l.length ≤ 9223372036854775807) (h0 : 0 ≤ a) (h1 : a ≤ 1048576) :
    ∃ r, Ev (fun k => laws_szEntryS.f k l a) r ∧ (r = -1 ∨ 0 ≤ r ∧ r + (l.length : Int) ≤ a) := by
  unfold laws_szEntryS.f
  rw [wid (x := a - (l.length : Int)) (by omega) (by omega)]
  by_cases c : a - (l.length : Int) < 0
  · exact ⟨-1, Ev.pos c (Ev.now _), .inl rfl⟩
  · have key : ∀ i, i ≤ l.length → ∀ b : Int, 0 ≤ b → b ≤ 1048576 → ∃ r, Ev (fun k => laws_szEntryS.l0 k l b (i : Int)) r ∧ (r = -1 ∨ 0 ≤ r ∧ r ≤ b) := by
      refine downTo l.length ?_ ?_
      · intro b hb _
        exact ⟨b, Ev.step (fun k => rfl) (Ev.neg (by omega) (Ev.now _)), .inr ⟨hb, by omega⟩⟩
      · intro i hi ih b hb hb1
        have hmem : l.getD i z101 ∈ l := by rw [List.getD_eq_getElem?_getD, List.getElem?_eq_getElem hi]; exact List.getElem_mem hi
        obtain ⟨q, hq, hqb, hq2⟩ := szEntry_ev (l.getD i z101) b (hw _ hmem) hb hb1
        rcases hq2 with rfl | ⟨hq0, hq1⟩
        · exact ⟨-1, Ev.step (fun k => rfl) (Ev.pos (by omega) (Ev.pos (by omega) (Ev.bindS hq (Ev.pos (by omega) (Ev.now _))))), .inl rfl⟩
        · obtain ⟨r, hr, hr2⟩ := ih q hq0 (by omega)
          refine ⟨r, Ev.step (fun k => rfl) (Ev.pos (by omega) (Ev.pos (by omega) (Ev.bindS hq (Ev.neg (by omega) ?_)))), by omega⟩
          rw [wsucc (by omega)]
          exact hr
    obtain ⟨r, hr, hr2⟩ := key 0 (Nat.zero_le _) (a - l.length) (by omega) (by omega)
    exact ⟨r, Ev.neg c hr, by omega⟩
def totl : List Rl_ → Nat
  | [] => 0
  | x :: xs => x.f0.length + totl xs
theorem totl_drop (l : List Rl_) (i : Nat) (h : i < l.length) : totl (l.drop i) = l[i].f0.length + totl (l.drop (i + 1)) := by rw [List.drop_eq_getElem_cons h, totl]
theorem totl_cv : ∀ l : List Rl_, total (l.map cvR) = totl l
  | [] => rfl
  | x :: xs => by
    show (x.f0.map cv_Entry).length + total (xs.map cvR) = x.f0.length + totl xs
    rw [List.length_map, totl_cv xs]
theorem szRunS_ev2 (l : List Rl_) (hl : l.length ≤ 9223372036854775807) (hw : ∀ x ∈ l, x.f0.length ≤ 9223372036854775807 ∧ ∀ y ∈ x.f0, wf_Entry y) : ∃ r, Ev (fun k => laws_szRunS.f k l 1048576) r ∧ (r = -1 ∨ 0 ≤ r ∧ l.length ≤ 1048576 ∧ totl l ≤ 1048576) := by
  unfold laws_szRunS.f
  rw [wid (x := 1048576 - (l.length : Int)) (by omega) (by omega)]
  by_cases c : 1048576 - (l.length : Int) < 0
  · exact ⟨-1, Ev.pos c (Ev.now _), .inl rfl⟩
  · have key : ∀ i, i ≤ l.length → ∀ b : Int, 0 ≤ b → b ≤ 1048576 → ∃ r, Ev (fun k => laws_szRunS.l0 k l b (i : Int)) r ∧ (r = -1 ∨ 0 ≤ r ∧ r + (totl (l.drop i) : Int) ≤ b) := by
      refine downTo l.length ?_ ?_
      · intro b hb _
        refine ⟨b, ?_, .inr ⟨hb, ?_⟩⟩
        · refine Ev.step (fun k => laws_szRunS.l0.eq_2 ..) ?_
          exact Ev.neg (by omega) (Ev.now _)
        · rw [List.drop_length]
          simp [totl]
      · intro i hi ih b hb hb1
        have hx := hw l[i] (List.getElem_mem hi)
        rw [totl_drop l i hi]
        obtain ⟨q, hq, hq2⟩ := szEntryS_ev2 l[i].f0 b hx.2 hx.1 hb hb1
        rcases hq2 with rfl | ⟨hq0, hq1⟩
        · refine ⟨-1, ?_, .inl rfl⟩
          refine Ev.step (fun k => laws_szRunS.l0.eq_2 ..) ?_
          rw [rdRl l i hi]
          refine Ev.pos (by omega) (Ev.pos (by omega) (Ev.bind (a := -1) ?_ (Ev.pos (by omega) (Ev.now _))))
          unfold laws_szRun.f
          exact Ev.bind hq (Ev.pos (by omega) (Ev.now _))
        · obtain ⟨r, hr, hr2⟩ := ih q hq0 (by omega)
          refine ⟨r, ?_, by omega⟩
          refine Ev.step (fun k => laws_szRunS.l0.eq_2 ..) ?_
          rw [rdRl l i hi, wsucc (show i < 4611686018427387904 by omega)]
          refine Ev.pos (by omega) (Ev.pos (by omega) (Ev.bind (a := q) ?_ (Ev.neg (by omega) hr)))
          unfold laws_szRun.f
          exact Ev.bind hq (Ev.neg (by omega) (Ev.now _))
    obtain ⟨r, hr, hr2⟩ := key 0 (Nat.zero_le _) (1048576 - l.length) (by omega) (by omega)
    rw [List.drop_zero] at hr2
    exact ⟨r, Ev.neg c hr, by omega⟩
theorem toRunS_ev (l : List Rl_) (hl : l.length < 2097152) (hx : ∀ x ∈ l, x.f0.length < 2097152) : Ev (fun k => laws_toRunS.f k l) (l.map cvR) := by
  unfold laws_toRunS.f
  refine Ev.pos (by omega) (Ev.pos (by omega) ?_)
  rw [Int.toNat_natCast]
  have key : ∀ i, i ≤ l.length → ∀ ys : List R_, ys.length = l.length → ys.take i = (l.take i).map cvR → Ev (fun k => laws_toRunS.l0 k l ys (i : Int)) (l.map cvR) := by
    refine downTo l.length ?_ ?_
    · intro ys hy ht
      refine Ev.step (fun k => laws_toRunS.l0.eq_2 ..) ?_
      rw [List.take_length, ← hy, List.take_length] at ht
      exact Ev.neg (by omega) ((Ev.now _).eqr ht)
    · intro i hi ih ys hy ht
      refine Ev.step (fun k => laws_toRunS.l0.eq_2 ..) ?_
      rw [rdRl l i hi, wsucc (show i < 4611686018427387904 by omega), Int.toNat_natCast]
      refine Ev.pos (by omega) (Ev.pos (by omega) (Ev.bind (a := l[i].f0.map cv_Entry) ?_ (Ev.pos (by omega) (ih _ (by rw [List.length_set]; exact hy) ?_))))
      · unfold laws_toRun.f
        exact Ev.bind (toEntryS_ev l[i].f0 (hx _ (List.getElem_mem hi))) (Ev.now _)
      · rw [set_take ys i _ (by omega), ht, List.take_add_one, List.getElem?_eq_getElem hi, List.map_append]
        rfl
  exact key 0 (Nat.zero_le _) _ (by simp) rfl
theorem eqRunS_ev (l : List R_) (hl : l.length < 2097152) (hx : ∀ x ∈ l, x.f0.length < 2097152) : Ev (fun k => laws_eqRunS.f k l l) true := by
  unfold laws_eqRunS.f
  refine Ev.pos rfl ?_
  have key : ∀ i, i ≤ l.length → Ev (fun k => laws_eqRunS.l0 k l l (i : Int)) true := by
    refine downTo l.length ?_ ?_
    · refine Ev.step (fun k => laws_eqRunS.l0.eq_2 ..) ?_
      exact Ev.neg (by omega) (Ev.now _)
    · intro i hi ih
      refine Ev.step (fun k => laws_eqRunS.l0.eq_2 ..) ?_
      rw [rdRn l i hi, wsucc (show i < 4611686018427387904 by omega)]
      refine Ev.pos (by omega) (Ev.pos (by omega) (Ev.pos (by omega) (Ev.bind (a := true) ?_ (Ev.pos rfl ih))))
      unfold laws_eqRun.f
      exact Ev.bind (eqEntryS_ev l[i].f0 (hx _ (List.getElem_mem hi))) (Ev.pos rfl (Ev.now _))
  exact key 0 (Nat.zero_le _)
end Go.Proofs.Ytidjdkodgddfcaa.Pure
end

section
namespace Go.Proofs.Ytidjdkodgddfcaa.Pure
open Go.RowKit Go.Proofs.YtidjdkodgddfcaaW.PrintWords Go.Proofs.YtidjdkodgddfcaaW.PrintLast Go.Proofs.YtidjdkodgddfcaaW.PrintMore
open Go.Proofs.Ytidjdkodgddfcaa.P
set_option linter.unusedVariables false
set_option linter.unusedSimpArgs false
noncomputable def mkR : Int → List R_ → List R_
  | _, [] => []
  | k0, x :: xs => ⟨(List.range x.f0.length).map fun j : Nat => mk_Entry (k0 + 4 * (j : Int))⟩ :: mkR (k0 + 4 * (x.f0.length : Int)) xs
theorem markRunS_ev (l : List R_) (hl : l.length < 2097152) (hx : ∀ x ∈ l, x.f0.length < 2097152) (k0 : Int) (h0 : 0 ≤ k0) (h1 : k0 + 4 * (total l : Int) < 274877906944) : Ev (fun k => laws_markRunS.f k l k0) (k0 + 4 * (total l : Int), mkR k0 l) := by
  unfold laws_markRunS.f
  have key : ∀ i, i ≤ l.length → ∀ (ys : List R_) (kk : Int), ys.length = l.length → ys.drop i = l.drop i → 0 ≤ kk → kk + 4 * (total (l.drop i) : Int) < 274877906944 → Ev (fun k => laws_markRunS.l0 k ys kk (i : Int)) (kk + 4 * (total (l.drop i) : Int), ys.take i ++ mkR kk (l.drop i)) := by
    refine downTo l.length ?_ ?_
    · intro ys kk hy _ h2 h3
      refine Ev.step (fun k => laws_markRunS.l0.eq_2 ..) ?_
      refine Ev.neg (by omega) ((Ev.now _).eqr ?_)
      rw [List.drop_length, ← hy, List.take_length, mkR, List.append_nil]
      simp [total]
    · intro i hi ih ys kk hy hd h2 h3
      have hi' : i < ys.length := by omega
      rw [List.drop_eq_getElem_cons hi, List.drop_eq_getElem_cons hi'] at hd
      injection hd with hd1 hd2
      rw [total_drop l i hi] at h3 ⊢
      have hxi := hx l[i] (List.getElem_mem hi)
      have hm := markEntryS_ev l[i].f0 hxi kk h2 (by omega)
      refine Ev.step (fun k => laws_markRunS.l0.eq_2 ..) ?_
      rw [rdRn ys i hi', hd1, wsucc (show i < 4611686018427387904 by omega), Int.toNat_natCast]
      refine Ev.pos (by omega) (Ev.pos (by omega) (Ev.bind hm ((ih _ _ (by rw [List.length_set]; exact hy) ?_ (by simp only []; omega) (by simp only []; omega)).eqr ?_)))
      · rw [List.drop_set_of_lt (by omega)]
        exact hd2
      · rw [List.drop_eq_getElem_cons hi, mkR, set_take ys i _ hi', List.append_assoc]
        simp only [Prod.mk.injEq]
        exact ⟨by omega, rfl⟩
  have := key 0 (Nat.zero_le _) l k0 rfl rfl h0 (by simpa using h1)
  simpa using this
end Go.Proofs.Ytidjdkodgddfcaa.Pure
end

section
namespace Go.Proofs.Ytidjdkodgddfcaa.P
open Go.RowKit Go.Proofs.YtidjdkodgddfcaaW.PrintWords Go.Proofs.YtidjdkodgddfcaaW.PrintLast Go.Proofs.YtidjdkodgddfcaaW.PrintMore
attribute [local go_sem] str_gtr str_leq str_geq max2_int min2_int max_two min_two max_three min_three max_four min_four
set_option linter.unusedVariables false
set_option linter.unusedSimpArgs false
theorem kcmp_trans {u u' u'' : ByteArray} {q d q' d' q'' d'' : Int} (h1 : kcmp u q d u' q' d' < 0) (h2 : kcmp u' q' d' u'' q'' d'' < 0) : kcmp u q d u'' q'' d'' < 0 := by
  rw [kcmp_lt] at *
  rcases h1 with h1 | ⟨rfl, h1⟩
  · rcases h2 with h2 | ⟨rfl, h2⟩
    · exact .inl (bl_trans h1 h2)
    · exact .inl h1
  · rcases h2 with h2 | ⟨rfl, h2⟩
    · exact .inl h2
    · exact .inr ⟨rfl, by omega⟩
theorem row_lt {l : List S64} (h : rowFrom l 0) : ∀ (d i : Nat) (hj : i + d + 1 < l.length), ecmp (l[i]'(by omega)) l[i + d + 1] < 0
  | 0, i, hj => (h (i + 1) (Nat.zero_le _) hj).2 (by omega)
  | d + 1, i, hj => kcmp_trans (row_lt h d i (by omega)) ((h (i + (d + 1) + 1) (Nat.zero_le _) hj).2 (by omega))
end Go.Proofs.Ytidjdkodgddfcaa.P
end

section
namespace Go.Proofs.Ytidjdkodgddfcaa.P
open Go.RowKit Go.Proofs.YtidjdkodgddfcaaW.PrintWords Go.Proofs.YtidjdkodgddfcaaW.PrintLast Go.Proofs.YtidjdkodgddfcaaW.PrintMore
attribute [local go_sem] str_gtr str_leq str_geq max2_int min2_int max_two min_two max_three min_three max_four min_four
set_option linter.unusedVariables false
set_option linter.unusedSimpArgs false
open Go.Sort
def stLt (c : S64 → S64 → Int) (p q : S64 × Nat) : Bool := decide (c p.1 q.1 < 0) || (!decide (c q.1 p.1 < 0) && decide (p.2 < q.2))
structure Ord (c : S64 → S64 → Int) : Prop where
  irrefl : ∀ x, ¬ c x x < 0
  trans : ∀ x y z, c x y < 0 → c y z < 0 → c x z < 0
  ntrans : ∀ x y z, ¬ c x y < 0 → ¬ c y z < 0 → ¬ c x z < 0
theorem stLt_swo {c : S64 → S64 → Int} (h : Ord c) : SWO (stLt c) := by
  refine ⟨fun x => ?_, fun x y z h1 h2 => ?_, fun x y z h1 h2 => ?_⟩
  · simp [stLt, h.irrefl]
  · simp only [stLt, Bool.or_eq_true, Bool.and_eq_true, Bool.not_eq_true', decide_eq_true_eq, decide_eq_false_iff_not] at *
    rcases h1 with h1 | ⟨h1, h1'⟩
    · rcases h2 with h2 | ⟨h2, _⟩
      · exact .inl (h.trans _ _ _ h1 h2)
      · exact .inl (Classical.byContradiction fun k => h.ntrans _ _ _ k h2 h1)
    · rcases h2 with h2 | ⟨h2, h2'⟩
      · exact .inl (Classical.byContradiction fun k => h.ntrans _ _ _ h1 k h2)
      · exact .inr ⟨h.ntrans _ _ _ h2 h1, by omega⟩
  · simp only [stLt, Bool.or_eq_false_iff, Bool.and_eq_false_iff, Bool.not_eq_false', decide_eq_true_eq, decide_eq_false_iff_not] at *
    refine ⟨h.ntrans _ _ _ h1.1 h2.1, ?_⟩
    rcases h1.2 with k1 | k1
    · exact .inl (Classical.byContradiction fun k => h.ntrans _ _ _ h2.1 k k1)
    · rcases h2.2 with k2 | k2
      · exact .inl (Classical.byContradiction fun k => h.ntrans _ _ _ k h1.1 k2)
      · exact .inr (by omega)
theorem srt_spec {c : S64 → S64 → Int} (h : Ord c) (l : List S64) : ∃ L : List (S64 × Nat), L.Perm l.zipIdx ∧ srt c l = L.map (fun p => p.1) ∧ L.Pairwise (fun p q => stLt c q p = false) := by
  have hA : ∀ p q, p < q → q < (zipA l).size → ltOf (cfL c) (zipA l)[q]! (zipA l)[p]! = stLt c (zipA l)[q]! (zipA l)[p]! := by
    intro p q hpq hq
    rw [zipA_size] at hq
    rw [zipA_at l q hq, zipA_at l p (by omega)]
    show decide (c _ _ < 0) = (decide (c _ _ < 0) || (!decide (c _ _ < 0) && decide (q < p)))
    rw [decide_eq_false (show ¬ q < p by omega), Bool.and_false, Bool.or_false]
  obtain ⟨⟨z1, _, z3⟩, z4⟩ := stab_spec (lt := ltOf (cfL c)) (stLt_swo h) hA
  refine ⟨(stab (ltOf (cfL c)) (zipA l)).toList, ?_, rfl, ?_⟩
  · rw [Array.extract_eq_self_of_le (by omega), Array.extract_eq_self_of_le (by omega)] at z3
    exact z3
  · rw [List.pairwise_iff_getElem]
    intro i j hi hj hij
    have := z4 i j (Nat.zero_le _) hij (by rw [← z1]; simpa using hj)
    rw [getElem!_pos _ i (by simpa using hi), getElem!_pos _ j (by simpa using hj)] at this
    simpa using this
theorem srt_sorted {c : S64 → S64 → Int} (h : Ord c) (l : List S64) : (srt c l).Pairwise (fun x y => ¬ c y x < 0) := by
  obtain ⟨L, _, h2, h3⟩ := srt_spec h l
  rw [h2, List.pairwise_map]
  refine h3.imp fun {p q} hpq => ?_
  simp only [stLt, Bool.or_eq_false_iff, decide_eq_false_iff_not] at hpq
  exact hpq.1
theorem tless_ntrans {a b c : ByteArray} (h1 : ¬ tless a b = true) (h2 : ¬ tless b c = true) : ¬ tless a c = true := by
  intro h
  unfold tless at *
  by_cases k : Op.bytesLess b.toList a.toList = true
  · exact h2 (bl_trans k h)
  · have e : a.toList = b.toList := bl_eq (by simpa using h1) (by simpa using k)
    rw [e] at h
    exact h2 h
theorem ecmp_ord : Ord ecmp := by
  refine ⟨fun x h => ?_, fun x y z h1 h2 => ?_, fun x y z h1 h2 h => ?_⟩
  · have := (kcmp_zero x.f0.f0 x.f0.f1 x.f0.f2 x.f0.f0 x.f0.f1 x.f0.f2).2 ⟨rfl, rfl, rfl⟩
    unfold ecmp at h
    omega
  · unfold ecmp at *
    rw [kcmp_lt] at *
    rcases h1 with h1 | ⟨e1, h1⟩
    · rcases h2 with h2 | ⟨e2, h2⟩
      · exact .inl (bl_trans h1 h2)
      · rw [e2] at h1; exact .inl h1
    · rcases h2 with h2 | ⟨e2, h2⟩
      · rw [e1]; exact .inl h2
      · exact .inr ⟨e1.trans e2, by omega⟩
  · unfold ecmp at *
    rw [kcmp_lt] at h1 h2 h
    have u1 : ¬ tless x.f0.f0 y.f0.f0 = true := fun k => h1 (.inl k)
    have u2 : ¬ tless y.f0.f0 z.f0.f0 = true := fun k => h2 (.inl k)
    have ueq : ∀ a b : ByteArray, ¬ tless a b = true → ¬ tless b a = true → a = b := fun a b p q => by
      have := bl_eq (a := a.toList) (b := b.toList) (by simpa [tless] using p) (by simpa [tless] using q)
      rw [ByteArray.toList_eq, ByteArray.toList_eq] at this
      exact ByteArray.ext (Array.toList_inj.1 this)
    rcases h with h | ⟨e, h⟩
    · exact tless_ntrans u1 u2 h
    · have v1 : ¬ tless y.f0.f0 x.f0.f0 = true := fun k => u2 (by rw [← e]; exact k)
      have e1 := ueq _ _ u1 v1
      have e2 : y.f0.f0 = z.f0.f0 := e1.symm.trans e
      have w1 : ¬ (y.f0.f1 < x.f0.f1 ∨ x.f0.f1 = y.f0.f1 ∧ y.f0.f2 < x.f0.f2) := fun k => h1 (.inr ⟨e1, k⟩)
      have w2 : ¬ (z.f0.f1 < y.f0.f1 ∨ y.f0.f1 = z.f0.f1 ∧ z.f0.f2 < y.f0.f2) := fun k => h2 (.inr ⟨e2, k⟩)
      omega
theorem ecmp_zero (x y : S64) (h1 : ¬ ecmp x y < 0) (h2 : ¬ ecmp y x < 0) : x.f0 = y.f0 := by
  have h0 : ecmp x y = 0 := by
    rcases kcmp_cases x.f0.f0 x.f0.f1 x.f0.f2 y.f0.f0 y.f0.f1 y.f0.f2 with h | h | h
    · exact absurd (show ecmp x y < 0 by unfold ecmp; omega) h1
    · exact h
    · exfalso
      apply h2
      unfold ecmp at h1 ⊢
      rw [kcmp_lt] at h1 ⊢
      by_cases k1 : tless y.f0.f0 x.f0.f0 = true
      · exact .inl k1
      · have e : x.f0.f0 = y.f0.f0 := by
          have := bl_eq (a := x.f0.f0.toList) (b := y.f0.f0.toList) (by have : ¬ tless x.f0.f0 y.f0.f0 = true := fun k => h1 (.inl k); simpa [tless] using this) (by simpa [tless] using k1)
          rw [ByteArray.toList_eq, ByteArray.toList_eq] at this
          exact ByteArray.ext (Array.toList_inj.1 this)
        have w : ¬ (y.f0.f1 < x.f0.f1 ∨ x.f0.f1 = y.f0.f1 ∧ y.f0.f2 < x.f0.f2) := fun k => h1 (.inr ⟨e, k⟩)
        have nz : ¬ (x.f0.f1 = y.f0.f1 ∧ x.f0.f2 = y.f0.f2) := fun k => by
          have := (kcmp_zero x.f0.f0 x.f0.f1 x.f0.f2 y.f0.f0 y.f0.f1 y.f0.f2).2 ⟨e, k.1, k.2⟩
          omega
        exact .inr ⟨e.symm, by omega⟩
  have := (kcmp_zero x.f0.f0 x.f0.f1 x.f0.f2 y.f0.f0 y.f0.f1 y.f0.f2).1 h0
  obtain ⟨⟨u, q, d⟩, v⟩ := x
  obtain ⟨⟨u', q', d'⟩, v'⟩ := y
  obtain ⟨rfl, rfl, rfl⟩ := this
  rfl
end Go.Proofs.Ytidjdkodgddfcaa.P
end

section
namespace Go.Proofs.Ytidjdkodgddfcaa.Pure
open Go.RowKit Go.Proofs.YtidjdkodgddfcaaW.PrintWords Go.Proofs.YtidjdkodgddfcaaW.PrintLast Go.Proofs.YtidjdkodgddfcaaW.PrintMore
open Go.Proofs.Ytidjdkodgddfcaa.P
set_option linter.unusedVariables false
set_option linter.unusedSimpArgs false
abbrev E_ := S64
theorem eqK_iff (x y : E_) : eqK x y = true ↔ x.f0 = y.f0 := by
  unfold eqK
  rw [Bool.and_eq_true, Bool.and_eq_true, beq_iff_eq, beq_iff_eq, beq_iff_eq]
  constructor
  · rintro ⟨h1, h2, h3⟩
    obtain ⟨⟨u, q, d⟩, v⟩ := x
    obtain ⟨⟨u', q', d'⟩, v'⟩ := y
    simp only at h1 h2 h3
    rw [ByteArray.toList_eq, ByteArray.toList_eq] at h1
    have := ByteArray.ext (Array.toList_inj.1 h1)
    subst this; subst h2; subst h3
    rfl
  · intro h
    rw [h]
    exact ⟨rfl, rfl, rfl⟩
theorem ecmp_l {x x' : E_} (h : x.f0 = x'.f0) (y : E_) : ecmp x y = ecmp x' y := by unfold ecmp; rw [h]
theorem ecmp_r {x x' : E_} (h : x.f0 = x'.f0) (y : E_) : ecmp y x = ecmp y x' := by unfold ecmp; rw [h]
theorem lt_ne {x y : E_} (h : ecmp x y < 0) : ¬ eqK x y = true := fun k => ecmp_ord.irrefl y (by rw [← ecmp_l ((eqK_iff x y).1 k) y]; exact h)
theorem lt_ne' {x y : E_} (h : ecmp x y < 0) : ¬ eqK y x = true := fun k => lt_ne h ((eqK_iff x y).2 ((eqK_iff y x).1 k).symm)
theorem lt_asym {x y : E_} (h : ecmp x y < 0) : ¬ ecmp y x < 0 := fun k => ecmp_ord.irrefl x (ecmp_ord.trans _ _ _ h k)
theorem strict_ext {α : Type} {R : α → α → Prop} (hR : ∀ a b, R a b → ¬ R b a) : ∀ A B : List α, A.Pairwise R → B.Pairwise R → (∀ e, e ∈ A ↔ e ∈ B) → A = B
  | [], [], _, _, _ => rfl
  | [], b :: B, _, _, h => by have := (h b).2 (List.mem_cons_self ..); cases this
  | a :: A, [], _, _, h => by have := (h a).1 (List.mem_cons_self ..); cases this
  | a :: A, b :: B, hA, hB, h => by
    have a1 := List.pairwise_cons.1 hA
    have b1 := List.pairwise_cons.1 hB
    have e : a = b := by
      rcases List.mem_cons.1 ((h a).1 (List.mem_cons_self ..)) with e | e
      · exact e
      · rcases List.mem_cons.1 ((h b).2 (List.mem_cons_self ..)) with e' | e'
        · exact e'.symm
        · exact absurd (a1.1 b e') (hR _ _ (b1.1 a e))
    subst e
    have nA : ¬ a ∈ A := fun k => hR _ _ (a1.1 a k) (a1.1 a k)
    have nB : ¬ a ∈ B := fun k => hR _ _ (b1.1 a k) (b1.1 a k)
    rw [strict_ext hR A B a1.2 b1.2 (fun x => ⟨fun hx => ?_, fun hx => ?_⟩)]
    · rcases List.mem_cons.1 ((h x).1 (List.mem_cons_of_mem _ hx)) with e | e
      · exact absurd (e ▸ hx) nA
      · exact e
    · rcases List.mem_cons.1 ((h x).2 (List.mem_cons_of_mem _ hx)) with e | e
      · exact absurd (e ▸ hx) nB
      · exact e
def strict (l : List E_) : Prop := l.Pairwise fun x y => ecmp x y < 0
theorem strict_eq {A B : List E_} (hA : strict A) (hB : strict B) (h : ∀ e, e ∈ A ↔ e ∈ B) : A = B := strict_ext (fun _ _ h => lt_asym h) A B hA hB h
def fk (l : List E_) (e : E_) : Option E_ := l.find? fun x => eqK x e
theorem fk_pos {a : E_} {l : List E_} {e : E_} (h : eqK a e = true) : fk (a :: l) e = some a := List.find?_cons_of_pos (p := fun x => eqK x e) h
theorem fk_neg {a : E_} {l : List E_} {e : E_} (h : ¬ eqK a e = true) : fk (a :: l) e = fk l e := List.find?_cons_of_neg (p := fun x => eqK x e) h
theorem cptF_spec : ∀ (l : List E_) (p : E_), (p :: l).Pairwise (fun x y => ¬ ecmp y x < 0) → strict (cptF eqK p l) ∧ (∀ e ∈ cptF eqK p l, ecmp p e < 0) ∧ ∀ e, e ∈ cptF eqK p l ↔ (¬ eqK p e = true ∧ fk l e = some e)
  | [], p, _ => ⟨List.Pairwise.nil, fun e he => (by cases he), fun e => ⟨fun he => (by cases he), fun h => (by cases h.2)⟩⟩
  | y :: ys, p, h => by
    have h1 := List.pairwise_cons.1 h
    obtain ⟨i1, i2, i3⟩ := cptF_spec ys y h1.2
    rw [cptF]
    by_cases c : eqK y p = true
    · rw [if_pos c]
      have ek := (eqK_iff y p).1 c
      refine ⟨i1, fun e he => by rw [← ecmp_l ek]; exact i2 e he, fun e => ?_⟩
      have q : eqK y e = eqK p e := by
        by_cases k : eqK p e = true
        · rw [k]
          exact (eqK_iff _ _).2 (ek.trans ((eqK_iff _ _).1 k))
        · have k2 : ¬ eqK y e = true := fun k2 => k ((eqK_iff _ _).2 (ek.symm.trans ((eqK_iff _ _).1 k2)))
          simp only [Bool.not_eq_true] at k k2
          rw [k, k2]
      rw [i3 e, q]
      constructor
      · rintro ⟨k1, k2⟩
        exact ⟨k1, by rw [fk_neg (by rw [q]; exact k1)]; exact k2⟩
      · rintro ⟨k1, k2⟩
        exact ⟨k1, by rwa [fk_neg (by rw [q]; exact k1)] at k2⟩
    · rw [if_neg c]
      have hpy : ecmp p y < 0 := by
        apply Classical.byContradiction
        intro k
        exact c ((eqK_iff y p).2 (ecmp_zero p y k (h1.1 y (List.mem_cons_self ..))).symm)
      refine ⟨List.pairwise_cons.2 ⟨i2, i1⟩, fun e he => ?_, fun e => ?_⟩
      · rcases List.mem_cons.1 he with e1 | he
        · rw [e1]; exact hpy
        · exact ecmp_ord.trans _ _ _ hpy (i2 e he)
      · constructor
        · intro he
          rcases List.mem_cons.1 he with e1 | he
          · subst e1
            exact ⟨lt_ne hpy, fk_pos ((eqK_iff _ _).2 rfl)⟩
          · have := (i3 e).1 he
            exact ⟨lt_ne (ecmp_ord.trans _ _ _ hpy (i2 e he)), by rw [fk_neg this.1]; exact this.2⟩
        · rintro ⟨k1, k2⟩
          by_cases ke : eqK y e = true
          · rw [fk_pos ke] at k2
            injection k2 with k2
            rw [k2]
            exact List.mem_cons_self ..
          · rw [fk_neg ke] at k2
            exact List.mem_cons_of_mem _ ((i3 e).2 ⟨ke, k2⟩)
theorem cptL_spec (l : List E_) (h : l.Pairwise (fun x y => ¬ ecmp y x < 0)) : strict (cptL eqK l) ∧ ∀ e, e ∈ cptL eqK l ↔ fk l e = some e := by
  cases l with
  | nil => exact ⟨List.Pairwise.nil, fun e => ⟨fun he => (by cases he), fun h => (by cases h)⟩⟩
  | cons x xs =>
    obtain ⟨h1, h2, h3⟩ := cptF_spec xs x h
    refine ⟨List.pairwise_cons.2 ⟨h2, h1⟩, fun e => ?_⟩
    rw [cptL, List.mem_cons]
    by_cases k : eqK x e = true
    · rw [fk_pos k]
      constructor
      · rintro (e1 | he)
        · rw [e1]
        · exact absurd k (lt_ne (h2 e he))
      · intro he
        injection he with he
        exact .inl he.symm
    · rw [fk_neg k, h3 e]
      constructor
      · rintro (e1 | he)
        · exact absurd ((eqK_iff x e).2 (by rw [e1])) k
        · exact he.2
      · intro he
        exact .inr ⟨k, he⟩
theorem srt_find (J : List E_) (e : E_) : fk (srt ecmp J) e = fk J e := by
  unfold fk
  obtain ⟨L, h1, h2, h3⟩ := srt_spec ecmp_ord J
  have key : L.filter (fun p => eqK p.1 e) = J.zipIdx.filter (fun p => eqK p.1 e) := by
    refine strict_ext (R := fun p q => p.2 < q.2) (fun a b h1 h2 => by omega) _ _ ?_ ?_ (fun x => (h1.filter _).mem_iff)
    · have nd : L.Pairwise (fun p q => p.2 ≠ q.2) := by
        have : (L.map (fun p => p.2)).Nodup := by
          rw [(h1.map (fun p => p.2)).nodup_iff, List.zipIdx_map_snd]
          exact List.nodup_range'
        exact List.pairwise_map.1 this
      have := (h3.and nd).filter (fun p => eqK p.1 e)
      rw [List.pairwise_filter] at *
      refine (h3.and nd).imp fun {p q} hpq hp hq => ?_
      have ek : p.1.f0 = q.1.f0 := ((eqK_iff _ _).1 hp).trans ((eqK_iff _ _).1 hq).symm
      have z : ¬ ecmp p.1 q.1 < 0 := by rw [ecmp_l ek]; exact ecmp_ord.irrefl _
      have := hpq.1
      simp only [stLt, Bool.or_eq_false_iff, Bool.and_eq_false_iff, Bool.not_eq_false', decide_eq_true_eq, decide_eq_false_iff_not] at this
      have := hpq.2
      omega
    · rw [List.pairwise_filter, List.pairwise_iff_getElem]
      intro i j hi hj hij _ _
      simp only [List.getElem_zipIdx]
      omega
  rw [← List.head?_filter, ← List.head?_filter, h2]
  conv => rhs; rw [← List.zipIdx_map_fst 0 J]
  rw [List.filter_map, List.filter_map]
  show ((L.filter (fun p => eqK p.1 e)).map _).head? = ((J.zipIdx.filter (fun p => eqK p.1 e)).map _).head?
  rw [key]
theorem merged_spec (J : List E_) : strict (cptL eqK (srt ecmp J)) ∧ ∀ e, e ∈ cptL eqK (srt ecmp J) ↔ fk J e = some e := by
  obtain ⟨h1, h2⟩ := cptL_spec _ (srt_sorted ecmp_ord J)
  exact ⟨h1, fun e => by rw [h2 e, srt_find]⟩
def putG : Bool → List E_ → E_ → List E_
  | done, [], e => if done = true then [] else [e]
  | done, x :: xs, e => ((if done = false ∧ 0 ≤ ecmp x e then [e] else []) ++ (if ecmp x e = 0 then [] else [x])) ++ putG (done || decide (0 ≤ ecmp x e)) xs e
theorem ecmp_cases (x y : E_) : ecmp x y = -1 ∨ ecmp x y = 0 ∨ ecmp x y = 1 := kcmp_cases _ _ _ _ _ _
theorem ecmp_pos {x y : E_} (h : 0 < ecmp x y) : ecmp y x < 0 := by
  apply Classical.byContradiction
  intro k
  have hk : ¬ ecmp x y < 0 := by omega
  have e := ecmp_zero x y hk k
  have : ecmp x y = ecmp y y := ecmp_l e y
  have z : ecmp y y = 0 := (kcmp_zero ..).2 ⟨rfl, rfl, rfl⟩
  omega
theorem ecmp_eq0 {x y : E_} (h : ecmp x y = 0) : x.f0 = y.f0 := by
  obtain ⟨h1, h2, h3⟩ := (kcmp_zero ..).1 h
  obtain ⟨⟨u, q, d⟩, v⟩ := x
  obtain ⟨⟨u', q', d'⟩, v'⟩ := y
  simp only at h1 h2 h3
  subst h1; subst h2; subst h3
  rfl
theorem putG_true (e : E_) : ∀ l : List E_, (∀ x ∈ l, 0 < ecmp x e) → putG true l e = l
  | [], _ => rfl
  | x :: xs, h => by
    have hx := h x (List.mem_cons_self ..)
    rw [putG, if_neg (by simp), if_neg (by omega), Bool.true_or, putG_true e xs (fun y hy => h y (List.mem_cons_of_mem _ hy))]
    rfl
theorem ecmp_flip {x y : E_} (h : ecmp x y < 0) : 0 < ecmp y x := by
  rcases ecmp_cases y x with k | k | k
  · exact absurd (show ecmp y x < 0 by omega) (lt_asym h)
  · have e := ecmp_eq0 k
    have : ecmp x y = ecmp x x := ecmp_r e x
    have z : ecmp x x = 0 := (kcmp_zero ..).2 ⟨rfl, rfl, rfl⟩
    omega
  · omega
theorem putG_spec (e : E_) : ∀ l : List E_, strict l → strict (putG false l e) ∧ ∀ y, y ∈ putG false l e ↔ y = e ∨ (y ∈ l ∧ ¬ eqK y e = true)
  | [], _ => ⟨List.pairwise_singleton _ _, fun y => by rw [putG, if_neg (by simp)]; simp⟩
  | x :: xs, h => by
    have h1 := List.pairwise_cons.1 h
    obtain ⟨i1, i2⟩ := putG_spec e xs h1.2
    rcases ecmp_cases x e with c | c | c
    · have e1 : putG false (x :: xs) e = x :: putG false xs e := by
        rw [putG, if_neg (by omega), if_neg (by omega), decide_eq_false (show ¬ 0 ≤ ecmp x e by omega)]
        rfl
      have hx : ecmp x e < 0 := by omega
      rw [e1]
      refine ⟨List.pairwise_cons.2 ⟨fun y hy => ?_, i1⟩, fun y => ?_⟩
      · rcases (i2 y).1 hy with k | k
        · rw [k]; exact hx
        · exact h1.1 y k.1
      · rw [List.mem_cons, List.mem_cons, i2 y]
        constructor
        · rintro (k | k | k)
          · exact .inr ⟨.inl k, by rw [k]; exact lt_ne hx⟩
          · exact .inl k
          · exact .inr ⟨.inr k.1, k.2⟩
        · rintro (k | ⟨k | k, k2⟩)
          · exact .inr (.inl k)
          · exact .inl k
          · exact .inr (.inr ⟨k, k2⟩)
    · have ek := ecmp_eq0 c
      have hgt : ∀ y ∈ xs, 0 < ecmp y e := fun y hy => by rw [← ecmp_r ek]; exact ecmp_flip (h1.1 y hy)
      have e1 : putG false (x :: xs) e = e :: xs := by
        rw [putG, if_pos ⟨rfl, by omega⟩, if_pos c, decide_eq_true (show 0 ≤ ecmp x e by omega), Bool.or_true, putG_true e xs hgt]
        rfl
      rw [e1]
      refine ⟨List.pairwise_cons.2 ⟨fun y hy => ecmp_pos (hgt y hy), h1.2⟩, fun y => ?_⟩
      rw [List.mem_cons, List.mem_cons]
      constructor
      · rintro (k | k)
        · exact .inl k
        · exact .inr ⟨.inr k, lt_ne' (ecmp_pos (hgt y k))⟩
      · rintro (k | ⟨k | k, k2⟩)
        · exact .inl k
        · exact absurd ((eqK_iff y e).2 (by rw [k]; exact ek)) k2
        · exact .inr k
    · have hex : ecmp e x < 0 := ecmp_pos (by omega)
      have hgt : ∀ y ∈ xs, 0 < ecmp y e := fun y hy => ecmp_flip (ecmp_ord.trans _ _ _ hex (h1.1 y hy))
      have e1 : putG false (x :: xs) e = e :: x :: xs := by
        rw [putG, if_pos ⟨rfl, by omega⟩, if_neg (by omega), decide_eq_true (show 0 ≤ ecmp x e by omega), Bool.or_true, putG_true e xs hgt]
        rfl
      rw [e1]
      refine ⟨List.pairwise_cons.2 ⟨fun y hy => ?_, h⟩, fun y => ?_⟩
      · rcases List.mem_cons.1 hy with k | k
        · rw [k]; exact hex
        · exact ecmp_pos (hgt y k)
      · rw [List.mem_cons]
        constructor
        · rintro (k | k)
          · exact .inl k
          · refine .inr ⟨k, ?_⟩
            rcases List.mem_cons.1 k with k | k
            · rw [k]; exact lt_ne' hex
            · exact lt_ne' (ecmp_pos (hgt y k))
        · rintro (k | k)
          · exact .inl k
          · exact .inr k.1
theorem putG_lt (e : E_) : ∀ l : List E_, (putG true l e).length ≤ l.length
  | [] => by simp [putG]
  | y :: ys => by
    have := putG_lt e ys
    rw [putG, List.length_append, List.length_append, if_neg (by simp), Bool.true_or, List.length_cons]
    split <;> simp only [List.length_nil, List.length_cons] <;> omega
theorem putG_lf (e : E_) : ∀ l : List E_, (putG false l e).length ≤ l.length + 1
  | [] => by simp [putG]
  | x :: xs => by
    have h1 := putG_lf e xs
    have h2 := putG_lt e xs
    rw [putG, List.length_append, List.length_append, List.length_cons, Bool.false_or]
    by_cases c : 0 ≤ ecmp x e
    · rw [decide_eq_true c]
      split <;> split <;> simp only [List.length_nil, List.length_cons] <;> omega
    · rw [decide_eq_false c, if_neg (fun k => c k.2)]
      split <;> simp only [List.length_nil, List.length_cons] <;> omega
def mgL : List R_ → List E_
  | [] => []
  | r :: rs => r.f0.foldl (putG false) (mgL rs)
def flat (l : List R_) : List E_ := (l.map fun r => r.f0).flatten
theorem foldl_spec : ∀ (r L0 : List E_), strict L0 → strict r → strict (r.foldl (putG false) L0) ∧ ∀ y, y ∈ r.foldl (putG false) L0 ↔ (fk r y = some y ∨ (fk r y = none ∧ y ∈ L0))
  | [], L0, h, _ => ⟨h, fun y => by simp [fk]⟩
  | a :: tl, L0, h, hr => by
    have h1 := List.pairwise_cons.1 hr
    obtain ⟨p1, p2⟩ := putG_spec a L0 h
    obtain ⟨i1, i2⟩ := foldl_spec tl _ p1 h1.2
    rw [List.foldl_cons]
    refine ⟨i1, fun y => ?_⟩
    rw [i2 y, p2 y]
    by_cases k : eqK a y = true
    · rw [fk_pos k]
      have hn : fk tl y = none := by
        unfold fk
        rw [List.find?_eq_none]
        intro x hx hk
        have e1 := (eqK_iff _ _).1 k
        have e2 := (eqK_iff _ _).1 hk
        exact lt_ne (h1.1 x hx) ((eqK_iff _ _).2 (e1.trans e2.symm))
      rw [hn]
      have k' : eqK y a = true := (eqK_iff _ _).2 ((eqK_iff _ _).1 k).symm
      constructor
      · rintro (j | ⟨_, j | j⟩)
        · cases j
        · rw [j]; exact .inl rfl
        · exact absurd k' j.2
      · rintro (j | j)
        · injection j with j
          exact .inr ⟨rfl, .inl j.symm⟩
        · cases j.1
    · rw [fk_neg k]
      have k' : ¬ eqK y a = true := fun k' => k ((eqK_iff _ _).2 ((eqK_iff _ _).1 k').symm)
      constructor
      · rintro (j | ⟨j1, j | j⟩)
        · exact .inl j
        · exact absurd ((eqK_iff a y).2 (by rw [j])) k
        · exact .inr ⟨j1, j.1⟩
      · rintro (j | j)
        · exact .inl j
        · exact .inr ⟨j.1, .inr ⟨j.2, k'⟩⟩
theorem row_strict {l : List E_} (h : isRow l) : strict l := by
  refine List.pairwise_iff_getElem.2 fun i j hi hj hij => ?_
  have := row_lt h.2 (j - i - 1) i (by omega)
  simp only [show i + (j - i - 1) + 1 = j from by omega] at this
  exact this
theorem mgL_spec : ∀ l : List R_, (∀ r ∈ l, isRow r.f0) → strict (mgL l) ∧ ∀ y, y ∈ mgL l ↔ fk (flat l) y = some y
  | [], _ => ⟨List.Pairwise.nil, fun y => by simp [mgL, flat, fk]⟩
  | r :: rs, h => by
    obtain ⟨i1, i2⟩ := mgL_spec rs (fun x hx => h x (List.mem_cons_of_mem _ hx))
    obtain ⟨f1, f2⟩ := foldl_spec r.f0 (mgL rs) i1 (row_strict (h r (List.mem_cons_self ..)))
    refine ⟨f1, fun y => ?_⟩
    show y ∈ r.f0.foldl (putG false) (mgL rs) ↔ _
    rw [f2 y, i2 y]
    show _ ↔ fk (r.f0 ++ flat rs) y = some y
    unfold fk
    rw [List.find?_append]
    cases r.f0.find? (fun x => eqK x y) with
    | none => simp
    | some z => simp
theorem merge_eq {l : List R_} (h : rOk l) : cptL eqK (srt ecmp (flat l)) = mgL l := by
  obtain ⟨a1, a2⟩ := merged_spec (flat l)
  obtain ⟨b1, b2⟩ := mgL_spec l h.2.1
  exact strict_eq a1 b1 fun e => by rw [a2 e, b2 e]
theorem flat_len : ∀ l : List R_, (flat l).length = total l
  | [] => rfl
  | r :: rs => by
    show (r.f0 ++ flat rs).length = _
    rw [List.length_append, flat_len rs]
    rfl
theorem mem_flat {l : List R_} {x : E_} : x ∈ flat l ↔ ∃ r ∈ l, x ∈ r.f0 := by
  unfold flat
  rw [List.mem_flatten]
  constructor
  · rintro ⟨s, hs, hx⟩
    obtain ⟨r, hr, e⟩ := List.mem_map.1 hs
    exact ⟨r, hr, e ▸ hx⟩
  · rintro ⟨r, hr, hx⟩
    exact ⟨_, List.mem_map.2 ⟨r, hr, rfl⟩, hx⟩
theorem joinedC_ev (l : List R_) (hl : l.length ≤ 20) (h : ∀ x ∈ l, x.f0.length ≤ 400) : Ev (fun k => impl_joined.f k l) (flat l) := by
  unfold impl_joined.f
  have key : ∀ i, i ≤ l.length → ∀ out : List E_, out.length ≤ i * 400 → Ev (fun k => impl_joined.l0 k out l (l.length : Int) (i : Int)) (out ++ flat (l.drop i)) := by
    refine downTo l.length ?_ ?_
    · intro out _
      refine Ev.step (fun k => impl_joined.l0.eq_2 ..) ?_
      refine Ev.neg (by omega) ((Ev.now _).eqr ?_)
      rw [List.drop_length]
      simp [flat]
    · intro i hi ih out ho
      have hx := h l[i] (List.getElem_mem hi)
      refine Ev.step (fun k => impl_joined.l0.eq_2 ..) ?_
      rw [rdRn l i hi, wsucc (show i < 4611686018427387904 by omega)]
      refine Ev.pos (by omega) (Ev.pos (by omega) (Ev.pos (by omega) (Ev.pos (by omega) ((ih (out ++ l[i].f0) (by rw [List.length_append]; omega)).eqr ?_))))
      rw [List.drop_eq_getElem_cons hi, List.append_assoc]
      rfl
  have := key 0 (Nat.zero_le _) [] (by simp)
  simpa using this
theorem mergeRuns_ev (l : List R_) (h : ∀ x ∈ l, x.f0.length < 2097152) : Ev (fun k => impl_MergeRuns.f k l) (if rOk l then (mgL l, true) else ([], false)) := by
  unfold impl_MergeRuns.f
  refine Ev.bind (runsOk_ev l h) ?_
  by_cases c : rOk l
  · rw [if_pos c]
    have hl := flat_len l
    have h3 := c.2.2
    refine Ev.pos (decide_eq_true c) (Ev.bind (joinedC_ev l c.1 (fun x hx => (c.2.1 x hx).1)) (Ev.bindS (show impl_merged.f (flat l) = some (mgL l) from ?_) (Ev.now _)))
    unfold impl_merged.f
    rw [if_pos (by omega), merge_eq c]
  · rw [if_neg c]
    exact Ev.neg (by simpa using c) (Ev.now _)
theorem put_ev (l : List E_) (hl : l.length ≤ 1000) (he : ∀ x ∈ l, isEx x) (e : E_) (hx : isEx e) : Ev (fun k => spec_l8Put.f k l e.f0.f0 e.f0.f1 e.f0.f2 e.f1) (putG false l e) := by
  unfold spec_l8Put.f
  have key : ∀ i, i ≤ l.length → ∀ (out : List E_) (done : Bool), out.length ≤ 2 * i → Ev (fun k => spec_l8Put.l0 k l out done (i : Int) e.f0.f0 e.f0.f1 e.f0.f2 e.f1) (out ++ putG done (l.drop i) e) := by
    refine downTo l.length ?_ ?_
    · intro out done ho
      rw [List.drop_length]
      refine Ev.step (fun k => spec_l8Put.l0.eq_2 ..) ?_
      refine Ev.neg (by omega) ?_
      cases done with
      | true => exact Ev.pos rfl ((Ev.now _).eqr (by simp [putG]))
      | false => exact Ev.neg (by simp) (Ev.pos (by omega) ((Ev.now _).eqr (by simp [putG])))
    · intro i hi ih out done ho
      have hc := sKeyCmp_ev l[i].f0.f0 l[i].f0.f1 l[i].f0.f2 e.f0.f0 e.f0.f1 e.f0.f2
      rw [if_pos ⟨(he _ (List.getElem_mem hi)).1, hx.1⟩] at hc
      have hc : Ev (fun k => spec_KeyCmp.f k l[i].f0.f0 l[i].f0.f1 l[i].f0.f2 e.f0.f0 e.f0.f1 e.f0.f2) (ecmp l[i] e) := hc
      rw [List.drop_eq_getElem_cons hi]
      refine Ev.step (fun k => spec_l8Put.l0.eq_2 ..) ?_
      rw [rdE l i hi]
      refine Ev.pos (by omega) (Ev.pos (by omega) (Ev.bind hc ?_))
      have jt : ∀ b : Bool, b = (!done && decide (0 ≤ ecmp l[i] e)) → Ev (fun k => spec_l8Put.j1 k l out done (i : Int) (ecmp l[i] e) b e.f0.f0 e.f0.f1 e.f0.f2 e.f1) (out ++ putG done (l[i] :: l.drop (i + 1)) e) := by
        intro b hb
        rw [putG]
        generalize hci : ecmp l[i] e = c at hb
        refine Ev.step (fun k => spec_l8Put.j1.eq_2 ..) ?_
        rw [rdE l i hi, wsucc (show i < 4611686018427387904 by omega)]
        cases b with
        | true =>
          have hd : done = false ∧ 0 ≤ c := by
            rw [eq_comm, Bool.and_eq_true] at hb
            exact ⟨by simpa using hb.1, by simpa using hb.2⟩
          refine Ev.pos rfl (Ev.pos (by omega) (Ev.bindS rfl ?_))
          rw [if_pos hd, decide_eq_true hd.2, Bool.or_true]
          by_cases c0 : c = 0
          · rw [if_pos c0]
            refine Ev.pos c0 ((ih (out ++ [e]) true (by rw [List.length_append]; simp only [List.length_cons, List.length_nil]; omega)).eqr (by simp))
          · rw [if_neg c0]
            refine Ev.neg c0 (Ev.pos (by omega) (Ev.pos (by omega) (Ev.pos (by rw [List.length_append]; simp only [List.length_cons, List.length_nil]; omega) ((ih ((out ++ [e]) ++ [l[i]]) true (by rw [List.length_append, List.length_append]; simp only [List.length_cons, List.length_nil]; omega)).eqr (by simp)))))
        | false =>
          have hd : ¬ (done = false ∧ 0 ≤ c) := by
            intro k
            rw [k.1, decide_eq_true k.2] at hb
            cases hb
          have hdd : (done || decide (0 ≤ c)) = done := by
            cases done with
            | true => rfl
            | false => exact decide_eq_false (fun k => hd ⟨rfl, k⟩)
          rw [if_neg hd, hdd]
          by_cases c0 : c = 0
          · rw [if_pos c0]
            refine Ev.neg (by simp) (Ev.pos c0 ((ih out done (by omega)).eqr (by simp)))
          · rw [if_neg c0]
            refine Ev.neg (by simp) (Ev.neg c0 (Ev.pos (by omega) (Ev.pos (by omega) (Ev.pos (by omega) ((ih (out ++ [l[i]]) done (by rw [List.length_append]; simp only [List.length_cons, List.length_nil]; omega)).eqr (by simp))))))
      cases done with
      | true => exact Ev.pos rfl (jt false rfl)
      | false => exact Ev.neg (by simp) (jt _ (by simp))
  have := key 0 (Nat.zero_le _) [] false (by simp)
  simpa using this
theorem foldl_len : ∀ (r L0 : List E_), (r.foldl (putG false) L0).length ≤ L0.length + r.length
  | [], L0 => Nat.le_refl _
  | a :: tl, L0 => by
    have h1 := putG_lf a L0
    have h2 := foldl_len tl (putG false L0 a)
    rw [List.foldl_cons, List.length_cons]
    omega
theorem mgL_len : ∀ l : List R_, (mgL l).length ≤ total l
  | [] => Nat.le_refl _
  | r :: rs => by
    have h1 := foldl_len r.f0 (mgL rs)
    have h2 := mgL_len rs
    show (r.f0.foldl (putG false) (mgL rs)).length ≤ r.f0.length + total rs
    omega
theorem total_mono (l : List R_) (i : Nat) : total (l.drop i) ≤ total l := by
  induction l generalizing i with
  | nil => simp
  | cons r rs ih =>
    cases i with
    | zero => exact Nat.le_refl _
    | succ i =>
      rw [List.drop_succ_cons]
      have := ih i
      show _ ≤ r.f0.length + total rs
      omega
theorem l13_ev (l : List R_) (h : rOk l) : Ev (fun k => spec_l13Merge.f k l) (mgL l) := by
  have hex : ∀ x ∈ flat l, isEx x := by
    intro x hx
    obtain ⟨r, hr, hxr⟩ := mem_flat.1 hx
    obtain ⟨j, hj, rfl⟩ := List.getElem_of_mem hxr
    exact ((h.2.1 r hr).2 j (Nat.zero_le _) hj).1
  have memM : ∀ (L : List R_), (∀ r ∈ L, r ∈ l) → ∀ y ∈ mgL L, isEx y := by
    intro L hL y hy
    have hok : ∀ r ∈ L, isRow r.f0 := fun r hr => h.2.1 r (hL r hr)
    have := ((mgL_spec L hok).2 y).1 hy
    have := List.mem_of_find?_eq_some this
    obtain ⟨r, hr, hyr⟩ := mem_flat.1 this
    exact hex y (mem_flat.2 ⟨r, hL r hr, hyr⟩)
  unfold spec_l13Merge.f
  have key : ∀ m, m ≤ l.length → Ev (fun k => spec_l13Merge.l0 k l (mgL (l.drop m)) ((m : Int) - 1)) (mgL l) := by
    intro m
    induction m with
    | zero =>
      intro _
      refine Ev.step (fun k => spec_l13Merge.l0.eq_2 ..) ?_
      exact Ev.neg (by omega) (Ev.now _)
    | succ m ih =>
      intro hm
      have ih := ih (by omega)
      have hrow := h.2.1 l[m] (List.getElem_mem _)
      have hlen := h.1
      rw [show (((m + 1 : Nat) : Int) - 1) = (m : Int) from by omega]
      refine Ev.step (fun k => spec_l13Merge.l0.eq_2 ..) ?_
      refine Ev.pos (by omega) ?_
      have inner : ∀ j, j ≤ l[m].f0.length → Ev (fun k => spec_l13Merge.l1 k l ((l[m].f0.take j).foldl (putG false) (mgL (l.drop (m + 1)))) (m : Int) (j : Int)) (mgL l) := by
        refine downTo l[m].f0.length ?_ ?_
        · refine Ev.step (fun k => spec_l13Merge.l1.eq_2 ..) ?_
          rw [rdRn l m (by omega), wid (x := (m : Int) - 1) (by omega) (by omega), List.take_length]
          refine Ev.pos (by omega) (Ev.pos (by omega) (Ev.neg (by omega) ?_))
          rw [List.drop_eq_getElem_cons (show m < l.length by omega)] at ih
          exact ih
        · intro j hj ihj
          refine Ev.step (fun k => spec_l13Merge.l1.eq_2 ..) ?_
          rw [rdRn l m (by omega), rdE _ j hj, wsucc (show j < 4611686018427387904 by have := hrow.1; omega)]
          have hL : ((l[m].f0.take j).foldl (putG false) (mgL (l.drop (m + 1)))).length ≤ 1000 := by
            have h1 := foldl_len (l[m].f0.take j) (mgL (l.drop (m + 1)))
            have h2 := mgL_len (l.drop (m + 1))
            have h3 := total_mono l (m + 1)
            have h4 := h.2.2
            have h5 := hrow.1
            rw [List.length_take] at h1
            omega
          have hX : ∀ y ∈ (l[m].f0.take j).foldl (putG false) (mgL (l.drop (m + 1))), isEx y := by
            intro y hy
            have hst : strict (l[m].f0.take j) := (row_strict hrow).sublist (List.take_sublist _ _)
            have hdr : ∀ r ∈ l.drop (m + 1), r ∈ l := fun r hr => List.mem_of_mem_drop hr
            rcases ((foldl_spec _ _ ((mgL_spec _ (fun r hr => h.2.1 r (hdr r hr))).1) hst).2 y).1 hy with k | k
            · exact hex y (mem_flat.2 ⟨l[m], List.getElem_mem _, List.mem_of_mem_take (List.mem_of_find?_eq_some k)⟩)
            · exact memM _ hdr y k.2
          refine Ev.pos (by omega) (Ev.pos (by omega) (Ev.pos (by omega) (Ev.pos (by omega) (Ev.bind (put_ev _ hL hX l[m].f0[j] (hex _ (mem_flat.2 ⟨l[m], List.getElem_mem _, List.getElem_mem _⟩))) ?_))))
          rw [List.take_succ_eq_append_getElem hj, List.foldl_append] at ihj
          exact ihj
      have := inner 0 (Nat.zero_le _)
      simpa using this
  have hlen := h.1
  rw [wid (x := (l.length : Int) - 1) (by omega) (by omega)]
  have := key l.length (Nat.le_refl _)
  rw [List.drop_length] at this
  exact this
theorem sMergeRuns_ev (l : List R_) (h : ∀ x ∈ l, x.f0.length < 2097152) : Ev (fun k => spec_MergeRuns.f k l) (if rOk l then (mgL l, true) else ([], false)) := by
  unfold spec_MergeRuns.f
  refine Ev.bind (sRunsOk_ev l h) ?_
  by_cases c : rOk l
  · rw [if_pos c]
    exact Ev.pos (decide_eq_true c) (Ev.bind (l13_ev l c) (Ev.now _))
  · rw [if_neg c]
    exact Ev.neg (by simpa using c) (Ev.now _)
end Go.Proofs.Ytidjdkodgddfcaa.Pure
end

section
namespace Go.Proofs.Ytidjdkodgddfcaa.Pure
open Go.RowKit Go.Proofs.YtidjdkodgddfcaaW.PrintWords Go.Proofs.YtidjdkodgddfcaaW.PrintLast Go.Proofs.YtidjdkodgddfcaaW.PrintMore
open Go.Proofs.Ytidjdkodgddfcaa.P
set_option linter.unusedVariables false
set_option linter.unusedSimpArgs false
theorem mem_totl : ∀ (l : List Rl_) (x : Rl_), x ∈ l → x.f0.length ≤ totl l
  | y :: ys, x, h => by
    rcases List.mem_cons.1 h with h | h
    · rw [h]; show _ ≤ y.f0.length + totl ys; omega
    · have := mem_totl ys x h
      show _ ≤ y.f0.length + totl ys
      omega
theorem FnExactMergeRuns : ∀ (l0 : (List Rl_)), (l0.length ≤ 9223372036854775807 ∧ ∀ x ∈ l0, wfS137 x) → Ev (fun k => laws_FnExactMergeRuns.f k l0) true := by
  intro l hl
  unfold laws_FnExactMergeRuns.f
  obtain ⟨q, hq, hq2⟩ := szRunS_ev2 l hl.1 hl.2
  rcases hq2 with rfl | ⟨hq0, hlen, ht⟩
  · exact Ev.bind hq (Ev.pos (by omega) (Ev.now _))
  have hto := toRunS_ev l (by omega) (fun x hx => by have := mem_totl l x hx; omega)
  have hm : (l.map cvR).length < 2097152 := by rw [List.length_map]; omega
  have htot : total (l.map cvR) ≤ 1048576 := by rw [totl_cv]; exact ht
  have hme : ∀ x ∈ l.map cvR, x.f0.length < 2097152 := fun x hx => by
    obtain ⟨y, hy, rfl⟩ := List.mem_map.1 hx
    have := mem_totl l y hy
    show (y.f0.map cv_Entry).length < _
    rw [List.length_map]
    omega
  have hs := sMergeRuns_ev (l.map cvR) hme
  have hi := mergeRuns_ev (l.map cvR) hme
  have hg : ∃ g : List E_ × Bool, (if rOk (l.map cvR) then (mgL (l.map cvR), true) else ([], false)) = g ∧ g.1.length ≤ 400 := by
    by_cases c : rOk (l.map cvR)
    · exact ⟨_, if_pos c, Nat.le_trans (mgL_len _) c.2.2⟩
    · exact ⟨_, if_neg c, by simp⟩
  obtain ⟨g, hge, hgl⟩ := hg
  rw [hge] at hs hi
  have he := eqEntryS_ev g.1 (by omega)
  have h1 := markEntryS_ev g.1 (by omega) 1 (by omega) (by omega)
  have h2 := heldEntryS_ev g.1.length (by omega) 1 (by omega) (by omega)
  exact Ev.bind hq (Ev.neg (by omega) (Ev.bind hto (Ev.bind hs (Ev.bind hi (Ev.bind he (Ev.pos rfl (Ev.pos rfl (Ev.bind (eqRunS_ev _ hm hme) (Ev.pos rfl (Ev.bind (markRunS_ev _ hm hme 1 (by omega) (by omega)) (Ev.pos (by simp only []; omega) (Ev.bind h1 (Ev.bind h2 (Ev.pos (by omega) (Ev.pos rfl (Ev.now _))))))))))))))))
end Go.Proofs.Ytidjdkodgddfcaa.Pure
end
