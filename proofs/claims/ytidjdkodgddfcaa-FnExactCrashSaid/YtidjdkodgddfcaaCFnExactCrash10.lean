/- Proved: the law FnExactCrash of the given program returns true for every input of its Go types and leaves each argument as it was; no condition. (Part 11 of 12.) -/
import Derived.Test.YtidjdkodgddfcaaCFnExactCrash4
import Derived.ProofKit
import Derived.WideShapes
import Derived.DataReads
import Derived.ChangeArms
import Derived.Lib.SmallJoins
import Derived.Test.YtidjdkodgddfcaaCFnExactCrash7
import Derived.Test.YtidjdkodgddfcaaCFnExactCrash8
import Derived.Test.YtidjdkodgddfcaaCFnExactCrash9
import Derived.Test.YtidjdkodgddfcaaCFnExactCrash6
section
namespace Go.Proofs.Ytidjdkodgddfcaa.P
open Go.RowKit Go.Proofs.YtidjdkodgddfcaaW.PrintWords Go.Proofs.YtidjdkodgddfcaaW.PrintLast Go.Proofs.YtidjdkodgddfcaaW.PrintMore
attribute [local go_sem] str_gtr str_leq str_geq qb1 qz max_two min_two qv qu qa1 qy
set_option linter.unusedVariables false
set_option linter.unusedSimpArgs false
def Opens {α : Type} (P : Program) (d : Kd α) (t : TypeId) (wf : α → Prop) : Prop :=
 ∀ {H : Type} (enc : TypeId × Value → H) (w : World) (fuel : Nat) (cs : List Value) (x : DataW H × List MemPlace), DataW.trod enc P w 0 (fun _ => true) true fuel t cs = some x → ∃ a, d.K w a cs ∧ wf a
theorem opens_i64 {P : Program} {t : TypeId} (ht : P.underlying t = some (.int .i64)) : Opens P (Kd.int .i64) t (fun n => -9223372036854775808 ≤ n ∧ n ≤ 9223372036854775807) := by
 intro H enc w fuel cs x h
 obtain ⟨n, rfl, _, hw⟩ := DataW.trod_int ht h
 exact ⟨n, rfl, by simpa [Lit.wf, IntKind.min, IntKind.max, IntKind.signed, IntKind.bits] using hw⟩
theorem opens_str {P : Program} {t : TypeId} (ht : P.underlying t = some .string) : Opens P Kd.string t (fun s => s.size ≤ 9223372036854775807) := by
 intro H enc w fuel cs x h
 obtain ⟨n, rfl, _, hw⟩ := DataW.trod_string ht h
 exact ⟨n, rfl, by simpa [Go.maxLen] using hw⟩
theorem choose_list {α : Type} (n : Nat) (Q : Nat → α → Prop) (h : ∀ j, j < n → ∃ a, Q j a) : ∃ l : List α, l.length = n ∧ ∀ j a, l[j]? = some a → Q j a := by
 induction n with
 | zero => exact ⟨[], rfl, fun j a h => by simp at h⟩
 | succ n ih =>
  obtain ⟨l, hl, hq⟩ := ih (fun j hj => h j (by omega))
  obtain ⟨a, ha⟩ := h n (by omega)
  refine ⟨l ++ [a], by simp [hl], fun j b hb => ?_⟩
  rcases Nat.lt_or_ge j l.length with hj | hj
  ·rw [List.getElem?_append_left hj] at hb
   exact hq j b hb
  ·rw [List.getElem?_append_right hj] at hb
   have hj0 : j - l.length = 0 := by
    rcases Nat.eq_zero_or_pos (j - l.length) with h0 | h0
    ·exact h0
    ·rw [List.getElem?_eq_none (by simp; omega)] at hb
     cases hb
   rw [hj0] at hb
   obtain rfl : a = b := by simpa using hb
   rw [show j = n from by omega]
   exact ha
theorem opens_slice {α : Type} {P : Program} {d : Kd α} {t e : TypeId} {wf : α → Prop} (ht : P.underlying t = some (.slice e)) (hsz : P.cellsOf e = d.sz) (h : Opens P d e wf) :
  Opens P (Kd.slice e d) t (fun l => l.length ≤ 9223372036854775807 ∧ ∀ x ∈ l, wf x) := by
 intro H enc w fuel cs x hx
 rcases DataW.trod_slice ht hx with ⟨rfl, _⟩ | ⟨a, len, cap, elems, rest, n, _, rfl, _, _, hlc, hcm, hel, hi, _, _⟩
 ·exact ⟨[], ⟨none, 0, rfl, Nat.le_refl _, Kd.C_nil d w⟩, by simp, by simp⟩
 ·obtain ⟨l, hl, hq⟩ := choose_list len (fun j x => wf x ∧ ∃ c, c.length = d.sz ∧ d.K w x c ∧ ∀ i u, c[i]? = some u → w.cell? (a.add (j * d.sz + i)) = some u) (fun j hj => by
   have h1 := hi j hj
   rw [List.getElem?_eq_getElem (show j < elems.length by omega), Option.bind_eq_some_iff] at h1
   obtain ⟨c, hc, hy⟩ := h1
   obtain ⟨x, hx, hw⟩ := h enc w n c _ hy
   obtain ⟨_, hlen, hcell⟩ := World.cells?_some hc
   refine ⟨x, hw, c, by rw [hlen, hsz], hx, fun i u hu => ?_⟩
   have hil : i < P.cellsOf e := by
    rw [← hlen]
    exact (List.getElem?_eq_some_iff.1 hu).1
   have := hcell i hil
   rw [hsz] at this
   rw [← hu, ← this, Addr.add_add])
  have hm : len ≤ 9223372036854775807 := by
   have : cap ≤ 9223372036854775807 := by simpa [Go.maxLen] using hcm
   omega
  refine ⟨l, ⟨some a, cap, by rw [hl], by omega, hl.trans hl.symm, by omega, fun _ => ⟨a, rfl, fun j p hp => (hq j p hp).2⟩⟩, by omega, fun x hx => ?_⟩
  obtain ⟨j, hj, rfl⟩ := List.getElem_of_mem hx
  exact (hq j _ (List.getElem?_eq_getElem hj)).1
end Go.Proofs.Ytidjdkodgddfcaa.P
end

section
namespace Go.Proofs.Ytidjdkodgddfcaa.P
open Go.RowKit Go.Proofs.YtidjdkodgddfcaaW.PrintWords Go.Proofs.YtidjdkodgddfcaaW.PrintLast Go.Proofs.YtidjdkodgddfcaaW.PrintMore
attribute [local go_sem] str_gtr str_leq str_geq qb1 qz max_two min_two qv qu qa1 qy
set_option linter.unusedVariables false
set_option linter.unusedSimpArgs false
theorem strOfNums_size (l : List Int) : (strOfNums l).size = l.length := by
 unfold strOfNums
 simp [ByteArray.size]
theorem markText_ends (n : Int) (h : n < 1099511627776) : ∃ r, Ev (fun k => laws_markText.f k n) r := by
 by_cases h0 : n ≤ 0
 ·exact ⟨_, by unfold laws_markText.f; exact Ev.pos h0 (Ev.now _)⟩
 ·have key : ∀ (d : Nat) (x : Int) (y : ByteArray), 0 ≤ x → x ≤ d → y.size + d < 2199023255552 → ∃ r, Ev (fun k => laws_markText.l0 k x y) r := by
   intro d
   induction d using Nat.strongRecOn with
   | _ d ih =>
    intro x y hx hd hy
    by_cases hp : x > 0
    ·have ht : Int.tdiv x 10 = x / 10 := Int.tdiv_eq_ediv_of_nonneg hx
     obtain ⟨r, hr⟩ := ih (d - 1) (by omega) (x / 10) ((strOfNums [(wrap64 (48 + (Int.tmod x 10))) % 256]) ++ y) (by omega) (by omega) (by
      rw [ByteArray.size_append, strOfNums_size]
      simp only [List.length_cons, List.length_nil]
      omega)
     refine ⟨r, Ev.step (fun k => rfl) (Ev.pos hp (Ev.bindS rfl (Ev.pos (by rw [strOfNums_size]; simp only [List.length_cons, List.length_nil]; omega) ?_)))⟩
     rw [ht, wid (by omega) (by omega)]
     exact hr
    ·exact ⟨_, Ev.step (fun k => rfl) (Ev.neg hp (Ev.pos (by omega) (Ev.now _)))⟩
  obtain ⟨r, hr⟩ := key n.toNat n ⟨#[]⟩ (by omega) (by omega) (by
   show 0 + n.toNat < _
   omega)
  exact ⟨r, by unfold laws_markText.f; exact Ev.neg h0 hr⟩
noncomputable def mt (n : Int) : ByteArray := if h : n < 1099511627776 then (markText_ends n h).choose else ⟨#[]⟩
theorem markText_ev (n : Int) (h : n < 1099511627776) : Ev (fun k => laws_markText.f k n) (mt n) := by
 rw [mt, dif_pos h]
 exact (markText_ends n h).choose_spec
theorem markLoop {α : Type} (l : Nat → List α → Int → Int → Option (Int × List α)) (mk : Int → α) (c n : Nat) (hn : n < 2097152) (hc : c ≤ 8)
  (hs : ∀ (ys : List α) (i : Nat) (kk : Int) (r : Int × List α), ys.length = n → i < n → 0 ≤ kk → kk < 549755813888 → Ev (fun k => l k (ys.set i (mk kk)) (kk + c) ((i + 1 : Nat) : Int)) r → Ev (fun k => l k ys kk (i : Int)) r)
  (he : ∀ (ys : List α) (kk : Int), ys.length = n → Ev (fun k => l k ys kk (n : Int)) (kk, ys)) (ys : List α) (hy : ys.length = n) (k0 : Int) (h0 : 0 ≤ k0) (h1 : k0 < 274877906944) :
  Ev (fun k => l k ys k0 0) (k0 + c * n, (List.range n).map fun j : Nat => mk (k0 + (c : Int) * (j : Int))) := by
 have key : ∀ i, i ≤ n → ∀ ys : List α, ys.length = n → Ev (fun k => l k ys (k0 + c * i) (i : Int)) (k0 + c * n, ys.take i ++ (List.range' i (n - i)).map fun j : Nat => mk (k0 + (c : Int) * (j : Int))) := by
  refine downTo n ?_ ?_
  ·intro ys hy
   refine Ev.eqr (he ys _ hy) ?_
   rw [Nat.sub_self, List.range'_zero, List.map_nil, List.append_nil, List.take_of_length_le (by omega)]
  ·intro i hi ih ys hy
   have hcb : (c : Int) * (i : Int) ≤ 16777216 := by
    have h2 : c * i ≤ 8 * i := Nat.mul_le_mul_right i hc
    have e : (c : Int) * (i : Int) = ((c * i : Nat) : Int) := (Int.natCast_mul c i).symm
    rw [e]
    omega
   have hcp : (0 : Int) ≤ (c : Int) * (i : Int) := Int.mul_nonneg (by omega) (by omega)
   refine hs ys i _ _ hy hi (by omega) (by omega) ?_
   rw [show k0 + (c : Int) * (i : Int) + (c : Int) = k0 + (c : Int) * ((i + 1 : Nat) : Int) from by rw [Int.natCast_add, Int.mul_add]; omega]
   refine Ev.eqr (ih (ys.set i (mk (k0 + (c : Int) * (i : Int)))) (by simpa using hy)) ?_
   rw [set_take _ _ _ (by omega), List.append_assoc, show n - i = (n - (i + 1)) + 1 from by omega, List.range'_succ, List.map_cons]
   rfl
 have := key 0 (Nat.zero_le _) ys hy
 simp only [Int.natCast_zero, Int.mul_zero, Int.add_zero, List.take_zero, List.nil_append, Nat.sub_zero, ← List.range_eq_range'] at this
 exact this
theorem heldLoop {α : Type} (l : Nat → List α → Int → Int → Option Int) (mk : Int → α) (c n : Nat) (d : α) (hn : n < 2097152) (hc : c ≤ 8)
  (hs : ∀ (ys : List α) (i : Nat) (kk : Int) (r : Int), ys.length = n → i < n → 0 ≤ kk → kk < 549755813888 → ys.getD i d = mk kk → Ev (fun k => l k ys (kk + c) ((i + 1 : Nat) : Int)) r → Ev (fun k => l k ys kk (i : Int)) r)
  (he : ∀ (ys : List α) (kk : Int), ys.length = n → Ev (fun k => l k ys kk (n : Int)) kk) (k0 : Int) (h0 : 0 ≤ k0) (h1 : k0 < 274877906944) :
  Ev (fun k => l k ((List.range n).map fun j : Nat => mk (k0 + (c : Int) * (j : Int))) k0 0) (k0 + c * n) := by
 have key : ∀ i, i ≤ n → Ev (fun k => l k ((List.range n).map fun j : Nat => mk (k0 + (c : Int) * (j : Int))) (k0 + c * i) (i : Int)) (k0 + c * n) := by
  refine downTo n (he _ _ (by simp)) ?_
  intro i hi ih
  have hcb : (c : Int) * (i : Int) ≤ 16777216 := by
   have h2 : c * i ≤ 8 * i := Nat.mul_le_mul_right i hc
   have e : (c : Int) * (i : Int) = ((c * i : Nat) : Int) := (Int.natCast_mul c i).symm
   rw [e]
   omega
  have hcp : (0 : Int) ≤ (c : Int) * (i : Int) := Int.mul_nonneg (by omega) (by omega)
  refine hs _ i _ _ (by simp) hi (by omega) (by omega) ?_ ?_
  ·rw [List.getD_eq_getElem?_getD, List.getElem?_map, List.getElem?_range hi]
   rfl
  ·rw [show k0 + (c : Int) * (i : Int) + (c : Int) = k0 + (c : Int) * ((i + 1 : Nat) : Int) from by rw [Int.natCast_add, Int.mul_add]; omega]
   exact ih
 have := key 0 (Nat.zero_le _)
 simp only [Int.natCast_zero, Int.mul_zero, Int.add_zero] at this
 exact this
def cv_File (x : S193) : S170 := ⟨x.f0, x.f1⟩
def wf_File (x : S193) : Prop := x.f0.size ≤ 9223372036854775807 ∧ x.f1.size ≤ 9223372036854775807
def sm_File (x : S193) : Prop := x.f0.size ≤ 1048576 ∧ x.f1.size ≤ 1048576
theorem szFile_ev (x : S193) (a : Int) (hw : wf_File x) (h0 : 0 ≤ a) (h1 : a ≤ 1048576) : ∃ r, laws_szFile.f (x.f0) (x.f1) a = some r ∧ r ≤ a ∧ (r = -1 ∨ 0 ≤ r ∧ sm_File x) := by
 unfold wf_File at hw
 unfold sm_File
 unfold laws_szFile.f
 rw [wid (x := a - (x.f0.size : Int)) (by omega) (by omega)]
 by_cases c0 : a - (x.f0.size : Int) < 0
 ·exact ⟨-1, by rw [if_pos c0], by omega, .inl rfl⟩
 ·rw [if_neg c0]
  rw [wid (x := (a - (x.f0.size : Int)) - (x.f1.size : Int)) (by omega) (by omega)]
  by_cases c1 : (a - (x.f0.size : Int)) - (x.f1.size : Int) < 0
  ·exact ⟨-1, by rw [if_pos c1], by omega, .inl rfl⟩
  ·rw [if_neg c1]
   exact ⟨_, rfl, by omega, .inr ⟨by omega, by omega, by omega⟩⟩
theorem szFileS_ev (l : List S193) (a : Int) (hw : ∀ x ∈ l, wf_File x) (hl : l.length ≤ 9223372036854775807) (h0 : 0 ≤ a) (h1 : a ≤ 1048576) :
  ∃ r, Ev (fun k => laws_szFileS.f k l a) r ∧ r ≤ a ∧ (r = -1 ∨ 0 ≤ r ∧ (l.length : Int) ≤ a ∧ ∀ x ∈ l, sm_File x) := by
 unfold laws_szFileS.f
 rw [wid (x := a - (l.length : Int)) (by omega) (by omega)]
 by_cases c : a - (l.length : Int) < 0
 ·exact ⟨-1, Ev.pos c (Ev.now _), by omega, .inl rfl⟩
 ·have key : ∀ i, i ≤ l.length → ∀ b : Int, 0 ≤ b → b ≤ 1048576 → ∃ r, Ev (fun k => laws_szFileS.l0 k l b (i : Int)) r ∧ r ≤ b ∧ (r = -1 ∨ 0 ≤ r ∧ ∀ j, i ≤ j → j < l.length → sm_File (l.getD j z193)) := by
   refine downTo l.length ?_ ?_
   ·intro b hb _
    exact ⟨b, Ev.step (fun k => rfl) (Ev.neg (by omega) (Ev.now _)), by omega, .inr ⟨hb, fun j h1 h2 => by omega⟩⟩
   ·intro i hi ih b hb hb1
    have hmem : l.getD i z193 ∈ l := by rw [List.getD_eq_getElem?_getD, List.getElem?_eq_getElem hi]; exact List.getElem_mem hi
    obtain ⟨q, hq, hqb, hq2⟩ := szFile_ev (l.getD i z193) b (hw _ hmem) hb hb1
    rcases hq2 with rfl | ⟨hq0, hq1⟩
    ·exact ⟨-1, Ev.step (fun k => rfl) (Ev.pos (by omega) (Ev.pos (by omega) (Ev.bindS hq (Ev.pos (by omega) (Ev.now _))))), by omega, .inl rfl⟩
    ·obtain ⟨r, hr, hrq, hr2⟩ := ih q hq0 (by omega)
     refine ⟨r, Ev.step (fun k => rfl) (Ev.pos (by omega) (Ev.pos (by omega) (Ev.bindS hq (Ev.neg (by omega) ?_)))), by omega, ?_⟩
     ·rw [wsucc (by omega)]
      exact hr
     ·rcases hr2 with h | ⟨h, h'⟩
      ·exact .inl h
      ·refine .inr ⟨h, fun j hj1 hj2 => ?_⟩
       by_cases e : j = i
       ·rw [e]
        exact hq1
       ·exact h' j (by omega) hj2
  obtain ⟨r, hr, hra, hr2⟩ := key 0 (Nat.zero_le _) (a - l.length) (by omega) (by omega)
  refine ⟨r, Ev.neg c hr, by omega, ?_⟩
  rcases hr2 with h | ⟨h, h'⟩
  ·exact .inl h
  ·refine .inr ⟨h, by omega, fun x hx => ?_⟩
   obtain ⟨j, hj, rfl⟩ := List.getElem_of_mem hx
   have := h' j (Nat.zero_le _) hj
   rwa [List.getD_eq_getElem?_getD, List.getElem?_eq_getElem hj] at this
theorem toFileS_ev (l : List S193) (h : l.length < 2097152) : Ev (fun k => laws_toFileS.f k l) (l.map cv_File) := by
 unfold laws_toFileS.f
 refine Ev.pos (by omega) (Ev.pos (by omega) ?_)
 refine copyLoop laws_toFileS.l0 cv_File z193 2097152 (by omega) ?_ ?_ l h _ (by simp)
 ·intro xs ys i r hx hi hy h
  refine Ev.step (fun k => rfl) (Ev.pos (by omega) (Ev.pos (by omega) (Ev.bindS rfl (Ev.pos (by omega) ?_))))
  rw [wsucc (by omega)]
  exact h
 ·intro xs ys
  exact Ev.step (fun k => rfl) (Ev.neg (by omega) (Ev.now _))
theorem eqFile_self (a0 : ByteArray) (a1 : ByteArray) : laws_eqFile.f a0 a1 a0 a1 = some true := by simp [laws_eqFile.f]
theorem eqFileS_ev (l : List S170) (h : l.length < 2097152) : Ev (fun k => laws_eqFileS.f k l l) true := by
 unfold laws_eqFileS.f
 refine Ev.pos rfl ?_
 have key : ∀ i, i ≤ l.length → Ev (fun k => laws_eqFileS.l0 k l l (i : Int)) true := by
  refine downTo l.length (Ev.step (fun k => rfl) (Ev.neg (by omega) (Ev.now _))) ?_
  intro i hi ih
  refine Ev.step (fun k => rfl) (Ev.pos (by omega) (Ev.pos (by omega) (Ev.pos (by omega) (Ev.bindS (eqFile_self _ _) (Ev.pos rfl ?_)))))
  rw [wsucc (by omega)]
  exact ih
 exact key 0 (Nat.zero_le _)
def cv_DOp (x : S195) : S157 := ⟨x.f0, x.f1, x.f2, x.f3⟩
def wf_DOp (x : S195) : Prop := -9223372036854775808 ≤ x.f0 ∧ x.f0 ≤ 9223372036854775807 ∧ x.f1.size ≤ 9223372036854775807 ∧ x.f2.size ≤ 9223372036854775807 ∧ x.f3.size ≤ 9223372036854775807
def sm_DOp (x : S195) : Prop := x.f1.size ≤ 1048576 ∧ x.f2.size ≤ 1048576 ∧ x.f3.size ≤ 1048576
theorem szDOp_ev (x : S195) (a : Int) (hw : wf_DOp x) (h0 : 0 ≤ a) (h1 : a ≤ 1048576) : ∃ r, laws_szDOp.f (x.f0) (x.f1) (x.f2) (x.f3) a = some r ∧ r ≤ a ∧ (r = -1 ∨ 0 ≤ r ∧ sm_DOp x) := by
 unfold wf_DOp at hw
 unfold sm_DOp
 unfold laws_szDOp.f
 rw [wid (x := a - (x.f1.size : Int)) (by omega) (by omega)]
 by_cases c0 : a - (x.f1.size : Int) < 0
 ·exact ⟨-1, by rw [if_pos c0], by omega, .inl rfl⟩
 ·rw [if_neg c0]
  rw [wid (x := (a - (x.f1.size : Int)) - (x.f2.size : Int)) (by omega) (by omega)]
  by_cases c1 : (a - (x.f1.size : Int)) - (x.f2.size : Int) < 0
  ·exact ⟨-1, by rw [if_pos c1], by omega, .inl rfl⟩
  ·rw [if_neg c1]
   rw [wid (x := ((a - (x.f1.size : Int)) - (x.f2.size : Int)) - (x.f3.size : Int)) (by omega) (by omega)]
   by_cases c2 : ((a - (x.f1.size : Int)) - (x.f2.size : Int)) - (x.f3.size : Int) < 0
   ·exact ⟨-1, by rw [if_pos c2], by omega, .inl rfl⟩
   ·rw [if_neg c2]
    exact ⟨_, rfl, by omega, .inr ⟨by omega, by omega, by omega, by omega⟩⟩
theorem szDOpS_ev (l : List S195) (a : Int) (hw : ∀ x ∈ l, wf_DOp x) (hl : l.length ≤ 9223372036854775807) (h0 : 0 ≤ a) (h1 : a ≤ 1048576) :
  ∃ r, Ev (fun k => laws_szDOpS.f k l a) r ∧ r ≤ a ∧ (r = -1 ∨ 0 ≤ r ∧ (l.length : Int) ≤ a ∧ ∀ x ∈ l, sm_DOp x) := by
 unfold laws_szDOpS.f
 rw [wid (x := a - (l.length : Int)) (by omega) (by omega)]
 by_cases c : a - (l.length : Int) < 0
 ·exact ⟨-1, Ev.pos c (Ev.now _), by omega, .inl rfl⟩
 ·have key : ∀ i, i ≤ l.length → ∀ b : Int, 0 ≤ b → b ≤ 1048576 → ∃ r, Ev (fun k => laws_szDOpS.l0 k l b (i : Int)) r ∧ r ≤ b ∧ (r = -1 ∨ 0 ≤ r ∧ ∀ j, i ≤ j → j < l.length → sm_DOp (l.getD j z195)) := by
   refine downTo l.length ?_ ?_
   ·intro b hb _
    exact ⟨b, Ev.step (fun k => rfl) (Ev.neg (by omega) (Ev.now _)), by omega, .inr ⟨hb, fun j h1 h2 => by omega⟩⟩
   ·intro i hi ih b hb hb1
    have hmem : l.getD i z195 ∈ l := by rw [List.getD_eq_getElem?_getD, List.getElem?_eq_getElem hi]; exact List.getElem_mem hi
    obtain ⟨q, hq, hqb, hq2⟩ := szDOp_ev (l.getD i z195) b (hw _ hmem) hb hb1
    rcases hq2 with rfl | ⟨hq0, hq1⟩
    ·exact ⟨-1, Ev.step (fun k => rfl) (Ev.pos (by omega) (Ev.pos (by omega) (Ev.bindS hq (Ev.pos (by omega) (Ev.now _))))), by omega, .inl rfl⟩
    ·obtain ⟨r, hr, hrq, hr2⟩ := ih q hq0 (by omega)
     refine ⟨r, Ev.step (fun k => rfl) (Ev.pos (by omega) (Ev.pos (by omega) (Ev.bindS hq (Ev.neg (by omega) ?_)))), by omega, ?_⟩
     ·rw [wsucc (by omega)]
      exact hr
     ·rcases hr2 with h | ⟨h, h'⟩
      ·exact .inl h
      ·refine .inr ⟨h, fun j hj1 hj2 => ?_⟩
       by_cases e : j = i
       ·rw [e]
        exact hq1
       ·exact h' j (by omega) hj2
  obtain ⟨r, hr, hra, hr2⟩ := key 0 (Nat.zero_le _) (a - l.length) (by omega) (by omega)
  refine ⟨r, Ev.neg c hr, by omega, ?_⟩
  rcases hr2 with h | ⟨h, h'⟩
  ·exact .inl h
  ·refine .inr ⟨h, by omega, fun x hx => ?_⟩
   obtain ⟨j, hj, rfl⟩ := List.getElem_of_mem hx
   have := h' j (Nat.zero_le _) hj
   rwa [List.getD_eq_getElem?_getD, List.getElem?_eq_getElem hj] at this
theorem toDOpS_ev (l : List S195) (h : l.length < 2097152) : Ev (fun k => laws_toDOpS.f k l) (l.map cv_DOp) := by
 unfold laws_toDOpS.f
 refine Ev.pos (by omega) (Ev.pos (by omega) ?_)
 refine copyLoop laws_toDOpS.l0 cv_DOp z195 2097152 (by omega) ?_ ?_ l h _ (by simp)
 ·intro xs ys i r hx hi hy h
  refine Ev.step (fun k => rfl) (Ev.pos (by omega) (Ev.pos (by omega) (Ev.bindS rfl (Ev.pos (by omega) ?_))))
  rw [wsucc (by omega)]
  exact h
 ·intro xs ys
  exact Ev.step (fun k => rfl) (Ev.neg (by omega) (Ev.now _))
theorem eqDOp_self (a0 : Int) (a1 : ByteArray) (a2 : ByteArray) (a3 : ByteArray) : laws_eqDOp.f a0 a1 a2 a3 a0 a1 a2 a3 = some true := by simp [laws_eqDOp.f]
theorem eqDOpS_ev (l : List S157) (h : l.length < 2097152) : Ev (fun k => laws_eqDOpS.f k l l) true := by
 unfold laws_eqDOpS.f
 refine Ev.pos rfl ?_
 have key : ∀ i, i ≤ l.length → Ev (fun k => laws_eqDOpS.l0 k l l (i : Int)) true := by
  refine downTo l.length (Ev.step (fun k => rfl) (Ev.neg (by omega) (Ev.now _))) ?_
  intro i hi ih
  refine Ev.step (fun k => rfl) (Ev.pos (by omega) (Ev.pos (by omega) (Ev.pos (by omega) (Ev.bindS (eqDOp_self _ _ _ _) (Ev.pos rfl ?_)))))
  rw [wsucc (by omega)]
  exact ih
 exact key 0 (Nat.zero_le _)
theorem toInt64S_ev (l : List Int) (h : l.length < 2097152) : Ev (fun k => laws_toInt64S.f k l) l := by
 unfold laws_toInt64S.f
 refine Ev.pos (by omega) (Ev.pos (by omega) ?_)
 have := copyLoop laws_toInt64S.l0 (fun x => x) (0 : Int) 2097152 (by omega) ?_ ?_ l h (List.replicate ((l.length : Int)).toNat 0) (by simp)
 ·simpa using this
 ·intro xs ys i r hx hi hy h
  refine Ev.step (fun k => rfl) (Ev.pos (by omega) (Ev.pos (by omega) (Ev.pos (by omega) ?_)))
  rw [wsucc (by omega)]
  exact h
 ·intro xs ys
  exact Ev.step (fun k => rfl) (Ev.neg (by omega) (Ev.now _))
theorem eqInt64S_ev (l : List Int) (h : l.length < 2097152) : Ev (fun k => laws_eqInt64S.f k l l) true := by
 unfold laws_eqInt64S.f
 refine Ev.pos rfl ?_
 have key : ∀ i, i ≤ l.length → Ev (fun k => laws_eqInt64S.l0 k l l (i : Int)) true := by
  refine downTo l.length (Ev.step (fun k => rfl) (Ev.neg (by omega) (Ev.now _))) ?_
  intro i hi ih
  refine Ev.step (fun k => rfl) (Ev.pos (by omega) (Ev.pos (by omega) (Ev.pos (by omega) (Ev.pos rfl ?_))))
  rw [wsucc (by omega)]
  exact ih
 exact key 0 (Nat.zero_le _)
noncomputable def mk_File (k : Int) : S170 := ⟨mt k, mt (k + 1)⟩
theorem markFileS_ev (l : List S170) (hl : l.length < 2097152) (k0 : Int) (h0 : 0 ≤ k0) (h1 : k0 < 274877906944) : Ev (fun k => laws_markFileS.f k l k0) (k0 + 2 * l.length, (List.range l.length).map fun j : Nat => mk_File (k0 + 2 * (j : Int))) := by
 unfold laws_markFileS.f
 refine markLoop laws_markFileS.l0 mk_File 2 l.length hl (by omega) ?_ ?_ l rfl k0 h0 h1
 ·intro ys i kk r hy hi k0 k1 h
  have rs : ∀ v : S170, qj (ys.set i v) (i : Int) = v := fun v => by
   unfold qj
   rw [Int.toNat_natCast, List.getD_eq_getElem?_getD, List.getElem?_set_self (by omega)]
   rfl
  have w1 : wrap64 (kk + 1) = kk + 1 := by rw [wid (by omega) (by omega)]
  have w2 : wrap64 (kk + 1 + 1) = kk + 2 := by rw [wid (by omega) (by omega)]; omega
  refine Ev.step (fun k => laws_markFileS.l0.eq_2 ..) ?_
  simp only [w1, w2, Int.toNat_natCast]
  refine Ev.pos (by omega) ?_
  refine Ev.bind (markText_ev _ (by omega)) ?_
  refine Ev.pos (by omega) ?_
  refine Ev.bindS rfl ?_
  refine Ev.bind (markText_ev _ (by omega)) ?_
  simp only [rs, List.set_set]
  rw [wsucc (by omega)]
  exact h
 ·intro ys kk hy
  exact Ev.step (fun k => laws_markFileS.l0.eq_2 ..) (Ev.neg (by omega) (Ev.now _))
theorem heldFileS_ev (n : Nat) (hl : n < 2097152) (k0 : Int) (h0 : 0 ≤ k0) (h1 : k0 < 274877906944) : Ev (fun k => laws_heldFileS.f k ((List.range n).map fun j : Nat => mk_File (k0 + 2 * (j : Int))) k0) (k0 + 2 * n) := by
 unfold laws_heldFileS.f
 refine heldLoop laws_heldFileS.l0 mk_File 2 n z170 hl (by omega) ?_ ?_ k0 h0 h1
 ·intro ys i kk r hy hi k0 k1 hg h
  have rs : qj ys (i : Int) = mk_File kk := by
   unfold qj
   rw [Int.toNat_natCast]
   exact hg
  have w1 : wrap64 (kk + 1) = kk + 1 := by rw [wid (by omega) (by omega)]
  have w2 : wrap64 (kk + 1 + 1) = kk + 2 := by rw [wid (by omega) (by omega)]; omega
  refine Ev.step (fun k => laws_heldFileS.l0.eq_2 ..) ?_
  simp only [w1, w2, rs, mk_File]
  refine Ev.pos (by omega) ?_
  refine Ev.pos (by omega) ?_
  refine Ev.bind (markText_ev _ (by omega)) (Ev.pos rfl ?_)
  refine Ev.bind (markText_ev _ (by omega)) (Ev.pos rfl ?_)
  rw [wsucc (by omega)]
  exact h
 ·intro ys kk hy
  exact Ev.step (fun k => laws_heldFileS.l0.eq_2 ..) (Ev.neg (by omega) (Ev.now _))
noncomputable def mk_DOp (k : Int) : S157 := ⟨k, mt (k + 1), mt (k + 2), mt (k + 3)⟩
theorem markDOpS_ev (l : List S157) (hl : l.length < 2097152) (k0 : Int) (h0 : 0 ≤ k0) (h1 : k0 < 274877906944) : Ev (fun k => laws_markDOpS.f k l k0) (k0 + 4 * l.length, (List.range l.length).map fun j : Nat => mk_DOp (k0 + 4 * (j : Int))) := by
 unfold laws_markDOpS.f
 refine markLoop laws_markDOpS.l0 mk_DOp 4 l.length hl (by omega) ?_ ?_ l rfl k0 h0 h1
 ·intro ys i kk r hy hi k0 k1 h
  have rs : ∀ v : S157, qi (ys.set i v) (i : Int) = v := fun v => by
   unfold qi
   rw [Int.toNat_natCast, List.getD_eq_getElem?_getD, List.getElem?_set_self (by omega)]
   rfl
  have w1 : wrap64 (kk + 1) = kk + 1 := by rw [wid (by omega) (by omega)]
  have w2 : wrap64 (kk + 1 + 1) = kk + 2 := by rw [wid (by omega) (by omega)]; omega
  have w3 : wrap64 (kk + 2 + 1) = kk + 3 := by rw [wid (by omega) (by omega)]; omega
  have w4 : wrap64 (kk + 3 + 1) = kk + 4 := by rw [wid (by omega) (by omega)]; omega
  refine Ev.step (fun k => laws_markDOpS.l0.eq_2 ..) ?_
  simp only [w1, w2, w3, w4, Int.toNat_natCast]
  refine Ev.pos (by omega) ?_
  refine Ev.pos (by omega) ?_
  refine Ev.bindS rfl ?_
  refine Ev.bind (markText_ev _ (by omega)) ?_
  refine Ev.bindS rfl ?_
  refine Ev.bind (markText_ev _ (by omega)) ?_
  refine Ev.bindS rfl ?_
  refine Ev.bind (markText_ev _ (by omega)) ?_
  simp only [rs, List.set_set]
  rw [wsucc (by omega)]
  exact h
 ·intro ys kk hy
  exact Ev.step (fun k => laws_markDOpS.l0.eq_2 ..) (Ev.neg (by omega) (Ev.now _))
theorem heldDOpS_ev (n : Nat) (hl : n < 2097152) (k0 : Int) (h0 : 0 ≤ k0) (h1 : k0 < 274877906944) : Ev (fun k => laws_heldDOpS.f k ((List.range n).map fun j : Nat => mk_DOp (k0 + 4 * (j : Int))) k0) (k0 + 4 * n) := by
 unfold laws_heldDOpS.f
 refine heldLoop laws_heldDOpS.l0 mk_DOp 4 n z157 hl (by omega) ?_ ?_ k0 h0 h1
 ·intro ys i kk r hy hi k0 k1 hg h
  have rs : qi ys (i : Int) = mk_DOp kk := by
   unfold qi
   rw [Int.toNat_natCast]
   exact hg
  have w1 : wrap64 (kk + 1) = kk + 1 := by rw [wid (by omega) (by omega)]
  have w2 : wrap64 (kk + 1 + 1) = kk + 2 := by rw [wid (by omega) (by omega)]; omega
  have w3 : wrap64 (kk + 2 + 1) = kk + 3 := by rw [wid (by omega) (by omega)]; omega
  have w4 : wrap64 (kk + 3 + 1) = kk + 4 := by rw [wid (by omega) (by omega)]; omega
  refine Ev.step (fun k => laws_heldDOpS.l0.eq_2 ..) ?_
  simp only [w1, w2, w3, w4, rs, mk_DOp]
  refine Ev.pos (by omega) ?_
  refine Ev.pos (by omega) ?_
  refine Ev.pos trivial ?_
  refine Ev.bind (markText_ev _ (by omega)) (Ev.pos rfl ?_)
  refine Ev.bind (markText_ev _ (by omega)) (Ev.pos rfl ?_)
  refine Ev.bind (markText_ev _ (by omega)) (Ev.pos rfl ?_)
  rw [wsucc (by omega)]
  exact h
 ·intro ys kk hy
  exact Ev.step (fun k => laws_heldDOpS.l0.eq_2 ..) (Ev.neg (by omega) (Ev.now _))
end Go.Proofs.Ytidjdkodgddfcaa.P
end

section
namespace Go.Proofs.Ytidjdkodgddfcaa.P
open Go.RowKit Go.Proofs.YtidjdkodgddfcaaW.PrintWords Go.Proofs.YtidjdkodgddfcaaW.PrintLast Go.Proofs.YtidjdkodgddfcaaW.PrintMore
attribute [local go_sem] str_gtr str_leq str_geq qb1 qz max_two min_two qv qu qa1 qy
set_option linter.unusedVariables false
set_option linter.unusedSimpArgs false
theorem markInt64S_ev (l : List Int) (hl : l.length < 2097152) (k0 : Int) (h0 : 0 ≤ k0) (h1 : k0 < 274877906944) : Ev (fun k => laws_markInt64S.f k l k0) (k0 + 1 * l.length, (List.range l.length).map fun j : Nat => (k0 + 1 * (j : Int))) := by
 unfold laws_markInt64S.f
 refine markLoop laws_markInt64S.l0 (fun x => x) 1 l.length hl (by omega) ?_ ?_ l rfl k0 h0 h1
 ·intro ys i kk r hy hi k0 k1 h
  refine Ev.step (fun k => laws_markInt64S.l0.eq_2 ..) ?_
  rw [wid (x := kk + 1) (by omega) (by omega), wsucc (by omega), Int.toNat_natCast]
  exact Ev.pos (by omega) (Ev.pos (by omega) h)
 ·intro ys kk hy
  exact Ev.step (fun k => laws_markInt64S.l0.eq_2 ..) (Ev.neg (by omega) (Ev.now _))
end Go.Proofs.Ytidjdkodgddfcaa.P
end

section
namespace Go.Proofs.Ytidjdkodgddfcaa.Pure
open Go.RowKit Go.Proofs.YtidjdkodgddfcaaW.PrintWords Go.Proofs.YtidjdkodgddfcaaW.PrintLast Go.Proofs.YtidjdkodgddfcaaW.PrintMore
open Go.Proofs.Ytidjdkodgddfcaa.P
set_option linter.unusedVariables false
set_option linter.unusedSimpArgs false
theorem byEq {a b : ByteArray} : a.toList = b.toList ↔ a = b := ⟨fun h => by rw [ByteArray.toList_eq, ByteArray.toList_eq] at h; exact ByteArray.ext (Array.toList_inj.1 h), fun h => by rw [h]⟩
theorem tless_irr (a : ByteArray) : tless a a = false := bl_irrefl _
theorem tless_tri {a b : ByteArray} (h : tless a b = false) (h' : tless b a = false) : a = b := byEq.1 (bl_eq h h')
theorem ccmp_zero {a b : ByteArray} : ccmp a b = 0 ↔ a = b := by
 constructor
 ·intro h
  unfold ccmp at h
  by_cases c : tless a b = true
  ·rw [if_pos c] at h; omega
  ·rw [if_neg c] at h
   by_cases c2 : tless b a = true
   ·rw [if_pos c2] at h; omega
   ·exact tless_tri (by simpa using c) (by simpa using c2)
 ·rintro rfl
  unfold ccmp
  rw [tless_irr]
  rfl
theorem rdF (l : List S170) (i : Nat) (h : i < l.length) : qj l (i : Int) = l[i] := by
 unfold qj
 rw [Int.toNat_natCast, List.getD_eq_getElem?_getD, List.getElem?_eq_getElem h]
 rfl
theorem rdO (l : List S157) (i : Nat) (h : i < l.length) : qi l (i : Int) = l[i] := by
 unfold qi
 rw [Int.toNat_natCast, List.getD_eq_getElem?_getD, List.getElem?_eq_getElem h]
 rfl
theorem getDF (l : List S170) (i : Nat) (h : i < l.length) : l.getD i z170 = l[i] := by
 rw [List.getD_eq_getElem?_getD, List.getElem?_eq_getElem h]
 rfl
def srt (l : List S170) : Prop := l.Pairwise fun a b => tless a.f0 b.f0 = true
theorem upF_of {l : List S170} (h : srt l) : upF l = true := by
 unfold upF
 rw [List.all_eq_true]
 intro i hi
 rw [List.mem_range] at hi
 by_cases c : i = 0
 ·simp [c]
 ·have := (List.pairwise_iff_getElem.1 h) (i - 1) i (by omega) hi (by omega)
  rw [getDF l i hi, getDF l (i - 1) (by omega)]
  simp [this]
theorem fpos_cons (x : S170) (l : List S170) (n : ByteArray) : fpos (x :: l) n = if tless x.f0 n = true then fpos l n + 1 else 0 := by
 unfold fpos
 rw [List.findIdx_cons]
 by_cases c : tless x.f0 n = true
 ·have : ccmp x.f0 n < 0 := ccmp_neg.2 c
  rw [if_pos c, decide_eq_false (by omega)]
  rfl
 ·have : ¬ ccmp x.f0 n < 0 := fun h => c (ccmp_neg.1 h)
  rw [if_neg c, decide_eq_true (by omega)]
  rfl
theorem fpos_le (l : List S170) (n : ByteArray) : fpos l n ≤ l.length := List.findIdx_le_length
def pres (l : List S170) (n : ByteArray) : Bool := decide (fpos l n < l.length) && decide (ccmp (l.getD (fpos l n) z170).f0 n = 0)
theorem pres_lt {l : List S170} {n : ByteArray} (h : pres l n = true) : fpos l n < l.length := by unfold pres at h; simp at h; exact h.1
theorem pres_eq {l : List S170} {n : ByteArray} (h : pres l n = true) : (l.getD (fpos l n) z170).f0 = n := by unfold pres at h; simp at h; exact ccmp_zero.1 (by simpa using h.2)
theorem pres_cons (x : S170) (l : List S170) (n : ByteArray) : pres (x :: l) n = if tless x.f0 n = true then pres l n else decide (x.f0 = n) := by
 unfold pres
 rw [fpos_cons]
 by_cases c : tless x.f0 n = true
 ·rw [if_pos c, if_pos c, List.getD_cons_succ, List.length_cons, decide_eq_decide.2 (show fpos l n + 1 < l.length + 1 ↔ fpos l n < l.length by omega)]
 ·rw [if_neg c, if_neg c, List.getD_cons_zero, List.length_cons, decide_eq_true (by omega), Bool.true_and]
  exact decide_eq_decide.2 ccmp_zero
def putV (l : List S170) (n d : ByteArray) : List S170 := if pres l n = true then l.set (fpos l n) ⟨n, d⟩ else l.take (fpos l n) ++ ⟨n, d⟩ :: l.drop (fpos l n)
theorem putV_cons (x : S170) (l : List S170) (n d : ByteArray) : putV (x :: l) n d = if tless x.f0 n = true then x :: putV l n d else if x.f0 = n then ⟨n, d⟩ :: l else ⟨n, d⟩ :: x :: l := by
 unfold putV
 rw [pres_cons, fpos_cons]
 by_cases c : tless x.f0 n = true
 ·rw [if_pos c, if_pos c, if_pos c]
  split <;> simp
 ·rw [if_neg c, if_neg c, if_neg c]
  by_cases e : x.f0 = n
  ·simp [e]
  ·simp [e]
theorem putV_len (l : List S170) (n d : ByteArray) : (putV l n d).length ≤ l.length + 1 := by
 unfold putV
 split
 ·rw [List.length_set]; omega
 ·rw [List.length_append, List.length_cons, List.length_take, List.length_drop]; omega
theorem mem_putV {l : List S170} {n d : ByteArray} {y : S170} (h : y ∈ putV l n d) : y ∈ l ∨ y = ⟨n, d⟩ := by
 unfold putV at h
 split at h
 ·exact List.mem_or_eq_of_mem_set h
 ·rw [List.mem_append, List.mem_cons] at h
  rcases h with h | h | h
  ·exact .inl (List.mem_of_mem_take h)
  ·exact .inr h
  ·exact .inl (List.mem_of_mem_drop h)
theorem putV_srt : ∀ (l : List S170) (n d : ByteArray), srt l → srt (putV l n d)
 | [], n, d, _ => by unfold putV pres fpos srt; simp
 | x :: l, n, d, h => by
  obtain ⟨h1, h2⟩ := List.pairwise_cons.1 h
  rw [putV_cons]
  by_cases c : tless x.f0 n = true
  ·rw [if_pos c]
   refine List.pairwise_cons.2 ⟨fun y hy => ?_, putV_srt l n d h2⟩
   rcases mem_putV hy with q | rfl
   ·exact h1 y q
   ·exact c
  ·rw [if_neg c]
   by_cases e : x.f0 = n
   ·rw [if_pos e]
    exact List.pairwise_cons.2 ⟨fun y hy => by rw [← e]; exact h1 y hy, h2⟩
   ·rw [if_neg e]
    have hn : tless n x.f0 = true := by
     cases q : tless n x.f0 with
     | true => rfl
     | false => exact absurd (tless_tri (by simpa using c) q) e
    refine List.pairwise_cons.2 ⟨fun y hy => ?_, h⟩
    rcases List.mem_cons.1 hy with rfl | hy
    ·exact hn
    ·exact tless_trans hn (h1 y hy)
def sPut (n d : ByteArray) : Bool → List S170 → List S170
 | b, [] => if b = true then [] else [⟨n, d⟩]
 | b, x :: l => (if b = false ∧ tless x.f0 n = false then [(⟨n, d⟩ : S170)] else []) ++ ((if x.f0 = n then [] else [x]) ++ sPut n d (b || !tless x.f0 n) l)
def sCut (n : ByteArray) : List S170 → List S170
 | [] => []
 | x :: l => (if x.f0 = n then [] else [x]) ++ sCut n l
def sAt (n : ByteArray) : List S170 → Nat → Int
 | [], _ => -1
 | x :: l, i => if x.f0 = n then (i : Int) else sAt n l (i + 1)
theorem sPut_rest : ∀ (l : List S170) (n d : ByteArray), (∀ y ∈ l, y.f0 ≠ n) → sPut n d true l = l
 | [], _, _, _ => rfl
 | x :: l, n, d, h => by
  rw [sPut, if_neg (by simp), if_neg (h x (List.mem_cons_self ..)), Bool.true_or, sPut_rest l n d (fun y hy => h y (List.mem_cons_of_mem _ hy))]
  rfl
theorem sCut_rest : ∀ (l : List S170) (n : ByteArray), (∀ y ∈ l, y.f0 ≠ n) → sCut n l = l
 | [], _, _ => rfl
 | x :: l, n, h => by
  rw [sCut, if_neg (h x (List.mem_cons_self ..)), sCut_rest l n (fun y hy => h y (List.mem_cons_of_mem _ hy))]
  rfl
theorem sAt_rest : ∀ (l : List S170) (n : ByteArray) (i : Nat), (∀ y ∈ l, y.f0 ≠ n) → sAt n l i = -1
 | [], _, _, _ => rfl
 | x :: l, n, i, h => by
  rw [sAt, if_neg (h x (List.mem_cons_self ..)), sAt_rest l n (i + 1) (fun y hy => h y (List.mem_cons_of_mem _ hy))]
theorem ne_of_lt {a b : ByteArray} (h : tless a b = true) : a ≠ b := fun e => by rw [e, tless_irr] at h; cases h
theorem behind {x : S170} {l : List S170} {n : ByteArray} (h : srt (x :: l)) (c : ¬ tless x.f0 n = true) : ∀ y ∈ l, y.f0 ≠ n := by
 intro y hy e
 have h1 := (List.pairwise_cons.1 h).1 y hy
 rw [e] at h1
 exact c h1
theorem sPut_eq : ∀ (l : List S170) (n d : ByteArray), srt l → sPut n d false l = putV l n d
 | [], n, d, _ => by unfold putV pres fpos sPut; simp
 | x :: l, n, d, h => by
  rw [putV_cons, sPut]
  by_cases c : tless x.f0 n = true
  ·rw [if_pos c, if_neg (by simp [c]), if_neg (ne_of_lt c), c, Bool.not_true, Bool.or_false, sPut_eq l n d (List.pairwise_cons.1 h).2]
   rfl
  ·have c' : tless x.f0 n = false := by simpa using c
   rw [if_neg c, if_pos ⟨rfl, c'⟩, c', Bool.not_false, Bool.or_true, sPut_rest l n d (behind h c)]
   split <;> rfl
theorem sCut_eq : ∀ (l : List S170) (n : ByteArray), srt l → sCut n l = if pres l n = true then l.eraseIdx (fpos l n) else l
 | [], n, _ => by unfold pres sCut; simp
 | x :: l, n, h => by
  rw [sCut, pres_cons, fpos_cons]
  by_cases c : tless x.f0 n = true
  ·rw [if_pos c, if_pos c, if_neg (ne_of_lt c), sCut_eq l n (List.pairwise_cons.1 h).2]
   split <;> rfl
  ·rw [if_neg c, if_neg c, sCut_rest l n (behind h c)]
   by_cases e : x.f0 = n
   ·simp [e]
   ·simp [e]
theorem sAt_eq : ∀ (l : List S170) (n : ByteArray) (i : Nat), srt l → sAt n l i = if pres l n = true then ((i + fpos l n : Nat) : Int) else -1
 | [], n, i, _ => by unfold pres sAt; simp
 | x :: l, n, i, h => by
  rw [sAt, pres_cons, fpos_cons]
  by_cases c : tless x.f0 n = true
  ·rw [if_pos c, if_pos c, if_neg (ne_of_lt c), sAt_eq l n (i + 1) (List.pairwise_cons.1 h).2, show i + 1 + fpos l n = i + (fpos l n + 1) from by omega]
  ·rw [if_neg c, if_neg c, sAt_rest l n (i + 1) (behind h c)]
   by_cases e : x.f0 = n
   ·simp [e]
   ·simp [e]
theorem l6Put_ev (l : List S170) (hl : l.length < 2097152) (n d : ByteArray) : Ev (fun k => spec_l6Put.f k l n d) (sPut n d false l) := by
 have key : ∀ i, i ≤ l.length → ∀ (acc : List S170) (b : Bool), acc.length ≤ 2 * i → Ev (fun k => spec_l6Put.l0 k l n d acc b (i : Int)) (acc ++ sPut n d b (l.drop i)) := by
  refine downTo l.length ?_ ?_
  ·intro acc b ha
   rw [List.drop_length]
   refine Ev.step (fun k => spec_l6Put.l0.eq_2 ..) ?_
   refine Ev.neg (by omega) ?_
   cases b with
   | true => exact Ev.pos rfl (Ev.eqr (Ev.now _) (by simp [sPut]))
   | false => exact Ev.neg (by decide) (Ev.pos (by omega) (Ev.eqr (Ev.now _) (by simp [sPut])))
  ·intro i hi ih acc b ha
   have hg := rdF l i hi
   have j : ∀ c : Bool, Ev (fun k => spec_l6Put.j1 k l n d acc b (i : Int) c) (acc ++ ((if c = true then [(⟨n, d⟩ : S170)] else []) ++ ((if l[i].f0 = n then [] else [l[i]]) ++ sPut n d (b || c) (l.drop (i + 1))))) := by
    intro c
    refine Ev.step (fun k => spec_l6Put.j1.eq_2 ..) ?_
    rw [hg]
    cases c with
    | true =>
     refine Ev.pos rfl (Ev.pos (by omega) (Ev.bindS rfl (Ev.pos (by omega) (Ev.pos (by omega) ?_))))
     rw [wsucc (by omega), Bool.or_true]
     by_cases e : l[i].f0 = n
     ·refine Ev.pos (byEq.2 e) (Ev.eqr (ih _ true (by rw [List.length_append]; simp; omega)) ?_)
      rw [if_pos rfl, if_pos e, List.nil_append, List.append_assoc]
     ·refine Ev.neg (fun q => e (byEq.1 q)) (Ev.pos (by rw [List.length_append]; simp; omega) (Ev.eqr (ih _ true (by rw [List.length_append, List.length_append]; simp; omega)) ?_))
      rw [if_pos rfl, if_neg e, List.append_assoc, List.append_assoc]
    | false =>
     refine Ev.neg (by decide) (Ev.pos (by omega) (Ev.pos (by omega) ?_))
     rw [wsucc (by omega), Bool.or_false]
     by_cases e : l[i].f0 = n
     ·refine Ev.pos (byEq.2 e) (Ev.eqr (ih _ b (by omega)) ?_)
      rw [if_neg (by decide), if_pos e, List.nil_append, List.nil_append]
     ·refine Ev.neg (fun q => e (byEq.1 q)) (Ev.pos (by omega) (Ev.eqr (ih _ b (by rw [List.length_append]; simp; omega)) ?_))
      rw [if_neg (by decide), if_neg e, List.nil_append, List.append_assoc]
   refine Ev.step (fun k => spec_l6Put.l0.eq_2 ..) ?_
   rw [hg, List.drop_eq_getElem_cons hi, sPut]
   refine Ev.pos (by omega) ?_
   cases b with
   | true => exact Ev.pos rfl (Ev.eqr (j false) (by simp))
   | false =>
    refine Ev.neg (by decide) (Ev.pos (by omega) (Ev.eqr (j (!tless l[i].f0 n)) ?_))
    cases tless l[i].f0 n <;> simp
 have h0 := key 0 (Nat.zero_le _) [] false (by simp)
 unfold spec_l6Put.f
 rw [List.drop_zero, List.nil_append] at h0
 exact h0
theorem l6Cut_ev (l : List S170) (hl : l.length < 2097152) (n : ByteArray) : Ev (fun k => spec_l6Cut.f k l n) (sCut n l) := by
 have key : ∀ i, i ≤ l.length → ∀ (acc : List S170), acc.length ≤ i → Ev (fun k => spec_l6Cut.l0 k l n acc (i : Int)) (acc ++ sCut n (l.drop i)) := by
  refine downTo l.length ?_ ?_
  ·intro acc ha
   rw [List.drop_length]
   refine Ev.step (fun k => spec_l6Cut.l0.eq_2 ..) ?_
   exact Ev.neg (by omega) (Ev.eqr (Ev.now _) (by simp [sCut]))
  ·intro i hi ih acc ha
   refine Ev.step (fun k => spec_l6Cut.l0.eq_2 ..) ?_
   rw [rdF l i hi, List.drop_eq_getElem_cons hi, sCut, wsucc (by omega)]
   refine Ev.pos (by omega) (Ev.pos (by omega) ?_)
   by_cases e : l[i].f0 = n
   ·refine Ev.pos (byEq.2 e) (Ev.eqr (ih _ (by omega)) ?_)
    rw [if_pos e, List.nil_append]
   ·refine Ev.neg (fun q => e (byEq.1 q)) (Ev.pos (by omega) (Ev.eqr (ih _ (by rw [List.length_append]; simp; omega)) ?_))
    rw [if_neg e, List.append_assoc]
 have h0 := key 0 (Nat.zero_le _) [] (by simp)
 unfold spec_l6Cut.f
 rw [List.drop_zero, List.nil_append] at h0
 exact h0
theorem l6At_ev (l : List S170) (hl : l.length < 2097152) (n : ByteArray) : Ev (fun k => spec_l6At.f k l n) (sAt n l 0) := by
 have key : ∀ i, i ≤ l.length → Ev (fun k => spec_l6At.l0 k l n (i : Int)) (sAt n (l.drop i) i) := by
  refine downTo l.length ?_ ?_
  ·rw [List.drop_length]
   refine Ev.step (fun k => spec_l6At.l0.eq_2 ..) ?_
   exact Ev.neg (by omega) (Ev.now _)
  ·intro i hi ih
   refine Ev.step (fun k => spec_l6At.l0.eq_2 ..) ?_
   rw [rdF l i hi, List.drop_eq_getElem_cons hi, sAt, wsucc (by omega)]
   refine Ev.pos (by omega) (Ev.pos (by omega) ?_)
   by_cases e : l[i].f0 = n
   ·exact Ev.pos (byEq.2 e) (Ev.eqr (Ev.now _) (if_pos e).symm)
   ·exact Ev.neg (fun q => e (byEq.1 q)) (Ev.eqr ih (if_neg e).symm)
 exact key 0 (Nat.zero_le _)
def doV (l : List S170) (a : Int) (n t d : ByteArray) : List S170 × Bool :=
 if a = 1 then (putV l n (if pres l n = true then (l.getD (fpos l n) z170).f1 ++ d else d), true)
 else if pres l n = true then (if a = 2 then putV (l.eraseIdx (fpos l n)) t (l.getD (fpos l n) z170).f1 else l.eraseIdx (fpos l n), true) else (l, false)
theorem erase_srt {l : List S170} (h : srt l) (i : Nat) : srt (l.eraseIdx i) := List.Pairwise.sublist (List.eraseIdx_sublist l i) h
theorem doV_srt {l : List S170} (h : srt l) (a : Int) (n t d : ByteArray) : srt (doV l a n t d).1 := by
 unfold doV
 split
 ·exact putV_srt _ _ _ h
 ·split
  ·simp only []
   split
   ·exact putV_srt _ _ _ (erase_srt h _)
   ·exact erase_srt h _
  ·exact h
theorem doV_len (l : List S170) (a : Int) (n t d : ByteArray) : (doV l a n t d).1.length ≤ l.length + 1 := by
 have he := (List.eraseIdx_sublist l (fpos l n)).length_le
 unfold doV
 split
 ·exact putV_len _ _ _
 ·split
  ·simp only []
   split
   ·have := putV_len (l.eraseIdx (fpos l n)) t (l.getD (fpos l n) z170).f1
    omega
   ·omega
  ·simp only []; omega
theorem doV_mem {l : List S170} {a : Int} {n t d : ByteArray} {y : S170} (h : y ∈ (doV l a n t d).1) : y ∈ l ∨ (y.f0 = n ∨ (a = 2 ∧ y.f0 = t)) ∧ (y.f1 = d ∨ ∃ x ∈ l, y.f1 = x.f1 ∨ y.f1 = x.f1 ++ d) := by
 have hg : pres l n = true → l.getD (fpos l n) z170 ∈ l := fun hp => by rw [getDF l _ (pres_lt hp)]; exact List.getElem_mem _
 unfold doV at h
 split at h
 ·rcases mem_putV h with q | q
  ·exact .inl q
  ·refine .inr ?_
   rw [q]
   refine ⟨.inl rfl, ?_⟩
   simp only []
   split
   ·rename_i hp
    exact .inr ⟨_, hg hp, .inr rfl⟩
   ·exact .inl rfl
 ·split at h
  ·rename_i hp
   simp only [] at h
   split at h
   ·rename_i h2
    rcases mem_putV h with q | q
    ·exact .inl (List.mem_of_mem_eraseIdx q)
    ·rw [q]
     exact .inr ⟨.inr ⟨h2, rfl⟩, .inr ⟨_, hg hp, .inl rfl⟩⟩
   ·exact .inl (List.mem_of_mem_eraseIdx h)
  ·exact .inl h
theorem emp_app (d : ByteArray) : (⟨#[]⟩ : ByteArray) ++ d = d := by
 apply byEq.1
 simp [ByteArray.toList_eq]
theorem find_is {l : List S170} (h : srt l) (hl : l.length < 2097152) (n : ByteArray) : impl_find.f l n = some ((fpos l n : Int), pres l n) := by
 unfold impl_find.f
 rw [if_pos ⟨by omega, upF_of h⟩]
 rfl
theorem ins_is (l : List S170) (hl : l.length < 2097152) (i : Nat) (hi : i ≤ l.length) (x : S170) : impl_File_184.f l (i : Int) [x] = some (l.take i ++ x :: l.drop i) := by
 unfold impl_File_184.f
 simp only []
 rw [if_pos ⟨by omega, by omega, by omega⟩, Int.toNat_natCast]
theorem del_is (l : List S170) (hl : l.length < 2097152) (i : Nat) (hi : i < l.length) : impl_File_185.f l (i : Int) (wrap64 ((i : Int) + 1)) = some (l.eraseIdx i) := by
 unfold impl_File_185.f
 rw [wsucc (by omega), if_pos ⟨by omega, by omega, by omega⟩, Int.toNat_natCast]
theorem cln_is (l : List S170) (hl : l.length < 2097152) : impl_File_179.f l = some l := if_pos (by omega)
theorem set_mid {α : Type} (a b : List α) (x y : α) : (a ++ x :: b).set a.length y = a ++ y :: b := by simp
theorem done_is {l : List S170} (h : srt l) (hl : l.length < 2097152) (a : Int) (n t d : ByteArray) (hs : ∀ x ∈ l, x.f1.size + d.size ≤ 9223372036854775807) (hd : d.size ≤ 9223372036854775807) : impl_done.f l a n t d = some (doV l a n t d) := by
 unfold impl_done.f doV
 have hle := fpos_le l n
 rw [cln_is l hl, Option.bind_some, find_is h hl, Option.bind_some]
 simp only []
 by_cases ca : a = 1
 ·rw [if_pos ca, if_pos ca]
  by_cases hp : pres l n = true
  ·have hlt := pres_lt hp
   have hn := pres_eq hp
   rw [if_pos hp, if_pos (by omega), if_pos (by omega), rdF l _ hlt, if_pos (hs _ (List.getElem_mem _)), Int.toNat_natCast, if_pos hp]
   unfold putV
   rw [if_pos hp, getDF l _ hlt]
   rw [getDF l _ hlt] at hn
   rw [hn]
  ·rw [if_neg hp, ins_is l hl _ hle, Option.bind_some]
   have hlen : (l.take (fpos l n)).length = fpos l n := by rw [List.length_take]; omega
   have hl2 : fpos l n < (l.take (fpos l n) ++ (⟨n, ⟨#[]⟩⟩ : S170) :: l.drop (fpos l n)).length := by rw [List.length_append, List.length_cons, hlen]; omega
   have hx : (l.take (fpos l n) ++ (⟨n, ⟨#[]⟩⟩ : S170) :: l.drop (fpos l n))[fpos l n] = ⟨n, ⟨#[]⟩⟩ := by
    rw [List.getElem_append_right (by omega)]
    simp [hlen]
   rw [if_pos (by omega), if_pos (by omega), rdF _ _ hl2, hx, if_pos (by simp only [emp_app]; show (0 : Nat) + _ ≤ _; omega), Int.toNat_natCast]
   have hset := set_mid (l.take (fpos l n)) (l.drop (fpos l n)) (⟨n, ⟨#[]⟩⟩ : S170) ⟨n, (⟨#[]⟩ : ByteArray) ++ d⟩
   rw [hlen] at hset
   rw [hset, emp_app]
   unfold putV
   rw [if_neg hp, if_neg hp]
 ·rw [if_neg ca, if_neg ca]
  by_cases hp : pres l n = true
  ·have hlt := pres_lt hp
   have hel : (l.eraseIdx (fpos l n)).length < 2097152 := by rw [List.length_eraseIdx]; split <;> omega
   rw [if_pos hp, if_pos hp, if_pos (by omega), if_pos (by omega), del_is l hl _ hlt, Option.bind_some]
   by_cases c2 : a = 2
   ·have hle2 := fpos_le (l.eraseIdx (fpos l n)) t
    rw [if_pos c2, if_pos c2, find_is (erase_srt h _) hel, Option.bind_some, rdF l _ hlt, getDF l _ hlt]
    simp only []
    unfold putV
    by_cases hp2 : pres (l.eraseIdx (fpos l n)) t = true
    ·have hlt2 := pres_lt hp2
     rw [if_pos hp2, if_pos hp2, if_pos (by omega), if_pos (by omega), Int.toNat_natCast]
    ·rw [if_neg hp2, if_neg hp2, ins_is _ hel _ hle2, Option.bind_some]
   ·rw [if_neg c2, if_neg c2]
  ·rw [if_neg hp, if_neg hp]
theorem l6Do_ev {l : List S170} (h : srt l) (hl : l.length < 2097150) (a : Int) (n t d : ByteArray) (hs : ∀ x ∈ l, x.f1.size + d.size ≤ 9223372036854775807) : Ev (fun k => spec_l6Do.f k l a n t d) (doV l a n t d) := by
 unfold spec_l6Do.f doV
 have hle := fpos_le l n
 have hat := (l6At_ev l (by omega) n).eqr (sAt_eq l n 0 h)
 rw [Nat.zero_add] at hat
 have hput := fun d => (l6Put_ev l (by omega) n d).eqr (sPut_eq l n d h)
 refine Ev.bind hat ?_
 by_cases ca : a = 1
 ·rw [if_pos ca]
  refine Ev.pos ca ?_
  by_cases hp : pres l n = true
  ·have hlt := pres_lt hp
   rw [if_pos hp, if_pos hp, getDF l _ hlt]
   refine Ev.pos (by omega) (Ev.pos (by omega) (Ev.pos (by omega) ?_))
   rw [rdF l _ hlt]
   exact Ev.pos (hs _ (List.getElem_mem _)) (Ev.bind (hput _) (Ev.now _))
  ·rw [if_neg hp, if_neg hp]
   exact Ev.neg (by omega) (Ev.bind (hput _) (Ev.now _))
 ·rw [if_neg ca]
  refine Ev.neg ca ?_
  by_cases hp : pres l n = true
  ·have hlt := pres_lt hp
   have hcut := (l6Cut_ev l (by omega) n).eqr ((sCut_eq l n h).trans (if_pos hp))
   have hel : (l.eraseIdx (fpos l n)).length < 2097152 := by rw [List.length_eraseIdx]; split <;> omega
   have hput2 := fun d => (l6Put_ev (l.eraseIdx (fpos l n)) hel t d).eqr (sPut_eq _ t d (erase_srt h _))
   rw [if_pos hp, if_pos hp, getDF l _ hlt]
   refine Ev.neg (by omega) (Ev.bind hcut ?_)
   by_cases c2 : a = 2
   ·rw [if_pos c2]
    refine Ev.pos c2 (Ev.pos (by omega) (Ev.pos (by omega) ?_))
    rw [rdF l _ hlt]
    exact Ev.bind (hput2 _) (Ev.now _)
   ·rw [if_neg c2]
    exact Ev.neg c2 (Ev.now _)
  ·rw [if_neg hp, if_neg hp]
   exact Ev.pos (by omega) (Ev.bindS rfl (Ev.pos (by simp; omega) (Ev.now _)))
end Go.Proofs.Ytidjdkodgddfcaa.Pure
end

section
namespace Go.Proofs.Ytidjdkodgddfcaa.Pure
open Go.RowKit Go.Proofs.YtidjdkodgddfcaaW.PrintWords Go.Proofs.YtidjdkodgddfcaaW.PrintLast Go.Proofs.YtidjdkodgddfcaaW.PrintMore
open Go.Proofs.Ytidjdkodgddfcaa.P
set_option linter.unusedVariables false
set_option linter.unusedSimpArgs false
def nmFrom (l : List S170) (i : Nat) : Bool := (List.range' i (l.length - i)).all fun j => okN (l.getD j z170).f0 && (j == 0 || tless (l.getD (j - 1) z170).f0 (l.getD j z170).f0)
theorem nmFrom_end (l : List S170) : nmFrom l l.length = true := by
 unfold nmFrom
 rw [Nat.sub_self]
 rfl
theorem nmFrom_step (l : List S170) (i : Nat) (h : i < l.length) : nmFrom l i = ((okN (l.getD i z170).f0 && (i == 0 || tless (l.getD (i - 1) z170).f0 (l.getD i z170).f0)) && nmFrom l (i + 1)) := by
 unfold nmFrom
 rw [show l.length - i = (l.length - (i + 1)) + 1 from by omega, List.range'_succ, List.all_cons]
def inv (l : List S170) : Prop := (∀ x ∈ l, okN x.f0 = true) ∧ srt l
theorem nm_inv {l : List S170} : nmFrom l 0 = true ↔ inv l := by
 unfold nmFrom
 rw [List.all_eq_true, Nat.sub_zero]
 constructor
 ·intro h
  refine ⟨fun x hx => ?_, ?_⟩
  ·obtain ⟨i, hi, rfl⟩ := List.mem_iff_getElem.1 hx
   have := h i (List.mem_range'_1.2 ⟨by omega, by omega⟩)
   rw [getDF l i hi] at this
   simp at this
   exact this.1
  ·have hu : upF l = true := by
    unfold upF
    rw [List.all_eq_true]
    intro i hi
    have := h i (List.mem_range'_1.2 ⟨by omega, by have := List.mem_range.1 hi; omega⟩)
    rw [Bool.and_eq_true] at this
    exact this.2
   refine List.pairwise_iff_getElem.2 fun i j hi hj hij => ?_
   have := upF_lt hu (j - i - 1) i (by omega)
   rw [show i + (j - i - 1) + 1 = j from by omega, getDF l i hi, getDF l j hj] at this
   exact this
 ·rintro ⟨h1, h2⟩ i hi
  obtain ⟨_, hi⟩ := List.mem_range'_1.1 hi
  rw [Nat.zero_add] at hi
  have hu := upF_of h2
  unfold upF at hu
  rw [List.all_eq_true] at hu
  have h3 := hu i (List.mem_range.2 hi)
  rw [Bool.and_eq_true]
  refine ⟨?_, h3⟩
  rw [getDF l i hi]
  exact h1 _ (List.getElem_mem _)
def wsm : List S170 → Int → Int
 | [], a => a
 | x :: l, a => wsm l (wrap64 (a + (x.f1.size : Int)))
def fitV (l : List S170) : Bool := decide (l.length ≤ 60) && decide (wsm l 0 ≤ 200000)
def filesV (l : List S170) : Bool := decide (l.length ≤ 60) && (nmFrom l 0 && decide (wsm l 0 ≤ 200000))
theorem files_inv {l : List S170} (h : filesV l = true) : inv l ∧ l.length ≤ 60 := by
 unfold filesV at h
 rw [Bool.and_eq_true, Bool.and_eq_true] at h
 exact ⟨nm_inv.1 h.2.1, of_decide_eq_true h.1⟩
theorem files_fit {l : List S170} (h : inv l) : filesV l = fitV l := by
 unfold filesV fitV
 rw [nm_inv.2 h, Bool.true_and]
theorem okN_name (s : ByteArray) : spec_l6Name.f s = some (okN s) := by
 unfold spec_l6Name.f okN
 by_cases h : 1 ≤ s.size
 ·rw [if_pos (by omega), decide_eq_true h, Bool.true_and]
  exact congrArg some (decide_eq_decide.2 (by omega))
 ·rw [if_neg (by omega), decide_eq_false h, Bool.false_and]
theorem wpred {i : Nat} (h : 0 < i) (h2 : i < 4611686018427387904) : wrap64 ((i : Int) - 1) = ((i - 1 : Nat) : Int) := by unfold wrap64; omega
theorem l6Files_ev (l : List S170) (hl : l.length < 2097152) : Ev (fun k => spec_l6Files.f k l) (filesV l) := by
 unfold spec_l6Files.f filesV
 by_cases c : l.length ≤ 60
 ·rw [decide_eq_true c, Bool.true_and]
  refine Ev.neg (by omega) ?_
  have key : ∀ i, i ≤ l.length → ∀ a : Int, Ev (fun k => spec_l6Files.l0 k l a (i : Int)) (nmFrom l i && decide (wsm (l.drop i) a ≤ 200000)) := by
   refine downTo l.length ?_ ?_
   ·intro a
    rw [nmFrom_end, List.drop_length, Bool.true_and]
    refine Ev.step (fun k => spec_l6Files.l0.eq_2 ..) ?_
    exact Ev.neg (by omega) (Ev.now _)
   ·intro i hi ih a
    have ih := ih (wrap64 (a + ((l[i]).f1.size : Int)))
    rw [nmFrom_step l i hi, List.drop_eq_getElem_cons hi, wsm, getDF l i hi]
    refine Ev.step (fun k => spec_l6Files.l0.eq_2 ..) ?_
    rw [rdF l i hi, wsucc (by omega)]
    refine Ev.pos (by omega) (Ev.pos (by omega) (Ev.bindS (okN_name _) ?_))
    by_cases e : okN (l[i]).f0 = true
    ·rw [e]
     refine Ev.pos rfl ?_
     by_cases c0 : i = 0
     ·subst c0
      exact Ev.neg (by omega) (ih.eqr (by simp))
     ·rw [wpred (by omega) (by omega), rdF l (i - 1) (by omega), getDF l (i - 1) (by omega)]
      refine Ev.pos (by omega) (Ev.pos (by omega) (Ev.pos (by omega) ?_))
      by_cases q : tless (l[i - 1]).f0 (l[i]).f0 = true
      ·exact Ev.pos q (ih.eqr (by simp [q]))
      ·exact Ev.neg q ((Ev.now false).eqr (by simp [q, c0]))
    ·exact Ev.neg e ((Ev.now false).eqr (by simp [e]))
  have h0 := key 0 (Nat.zero_le _) 0
  rw [List.drop_zero] at h0
  exact h0
 ·rw [decide_eq_false c, Bool.false_and]
  exact Ev.pos (by omega) (Ev.now _)
theorem fit_ev (l : List S170) (hl : l.length < 2097152) : Ev (fun k => impl_fit.f k l) (fitV l) := by
 unfold impl_fit.f fitV
 have key : ∀ i, i ≤ l.length → ∀ a : Int, Ev (fun k => impl_fit.l0 k l a l (l.length : Int) (i : Int)) (decide (l.length ≤ 60) && decide (wsm (l.drop i) a ≤ 200000)) := by
  refine downTo l.length ?_ ?_
  ·intro a
   rw [List.drop_length]
   refine Ev.step (fun k => impl_fit.l0.eq_2 ..) ?_
   refine Ev.neg (by omega) ?_
   by_cases c : l.length ≤ 60
   ·rw [decide_eq_true c, Bool.true_and]
    exact Ev.pos (by omega) (Ev.now _)
   ·rw [decide_eq_false c, Bool.false_and]
    exact Ev.neg (by omega) (Ev.now _)
  ·intro i hi ih a
   rw [List.drop_eq_getElem_cons hi, wsm]
   refine Ev.step (fun k => impl_fit.l0.eq_2 ..) ?_
   rw [rdF l i hi, wsucc (by omega)]
   exact Ev.pos (by omega) (Ev.pos (by omega) (Ev.pos (by omega) (ih _)))
 have h0 := key 0 (Nat.zero_le _) 0
 rw [List.drop_zero] at h0
 exact h0
theorem areFiles_ev (l : List S170) (hl : l.length < 2097152) : Ev (fun k => impl_areFiles.f k l) (filesV l) := by
 unfold impl_areFiles.f
 have key : ∀ i, i ≤ l.length → Ev (fun k => impl_areFiles.l0 k l l (l.length : Int) (i : Int)) (nmFrom l i && fitV l) := by
  refine downTo l.length ?_ ?_
  ·rw [nmFrom_end, Bool.true_and]
   refine Ev.step (fun k => impl_areFiles.l0.eq_2 ..) ?_
   exact Ev.neg (by omega) (Ev.bind (fit_ev l hl) (Ev.now _))
  ·intro i hi ih
   rw [nmFrom_step l i hi, getDF l i hi]
   refine Ev.step (fun k => impl_areFiles.l0.eq_2 ..) ?_
   rw [rdF l i hi, wsucc (by omega)]
   refine Ev.pos (by omega) (Ev.pos (by omega) (Ev.pos (by omega) (Ev.bindS (fFile_ev _) ?_)))
   by_cases e : okN (l[i]).f0 = true
   ·rw [e]
    refine Ev.pos rfl ?_
    by_cases c0 : i = 0
    ·subst c0
     exact Ev.neg (by omega) (ih.eqr (by simp))
    ·rw [wpred (by omega) (by omega), rdF l (i - 1) (by omega), getDF l (i - 1) (by omega)]
     refine Ev.pos (by omega) (Ev.pos (by omega) (Ev.pos (by omega) ?_))
     by_cases q : tless (l[i - 1]).f0 (l[i]).f0 = true
     ·exact Ev.pos q (ih.eqr (by simp [q]))
     ·exact Ev.neg q ((Ev.now false).eqr (by simp [q, c0]))
   ·exact Ev.neg e ((Ev.now false).eqr (by simp [e]))
 refine (key 0 (Nat.zero_le _)).eqr ?_
 unfold filesV fitV
 cases decide (l.length ≤ 60) <;> cases nmFrom l 0 <;> simp
def sameV : List S170 → List S170 → Bool
 | [], [] => true
 | x :: a, y :: b => ((x.f0.toList == y.f0.toList) && (x.f1.toList == y.f1.toList)) && sameV a b
 | _, _ => false
theorem sameV_len : ∀ (a b : List S170), a.length ≠ b.length → sameV a b = false
 | [], [], h => absurd rfl h
 | x :: a, y :: b, h => by rw [sameV, sameV_len a b (fun q => h (by rw [List.length_cons, List.length_cons, q])), Bool.and_false]
 | [], y :: b, _ => rfl
 | x :: a, [], _ => rfl
theorem same_ev (a b : List S170) (ha : a.length < 2097152) : Ev (fun k => impl_File_140.f k a b) (sameV a b) ∧ Ev (fun k => spec_l6Same.f k a b) (sameV a b) := by
 unfold impl_File_140.f spec_l6Same.f
 by_cases c : a.length = b.length
 ·have key : ∀ i, i ≤ a.length → Ev (fun k => impl_File_140.l0 k a b (a.length : Int) (i : Int)) (sameV (a.drop i) (b.drop i)) ∧ Ev (fun k => spec_l6Same.l0 k a b (i : Int)) (sameV (a.drop i) (b.drop i)) := by
   refine downTo a.length ?_ ?_
   ·rw [List.drop_length, c, List.drop_length]
    constructor
    ·refine Ev.step (fun k => impl_File_140.l0.eq_2 ..) ?_
     exact Ev.neg (by omega) (Ev.now _)
    ·refine Ev.step (fun k => spec_l6Same.l0.eq_2 ..) ?_
     exact Ev.neg (by omega) (Ev.now _)
   ·intro i hi ih
    rw [List.drop_eq_getElem_cons hi, List.drop_eq_getElem_cons (show i < b.length by omega), sameV]
    have hq : ∀ p q : Bool, (!p || !q) = !(p && q) := by decide
    constructor
    ·refine Ev.step (fun k => impl_File_140.l0.eq_2 ..) ?_
     rw [rdF a i hi, rdF b i (by omega), wsucc (by omega), hq]
     refine Ev.pos (by omega) (Ev.pos (by omega) (Ev.pos (by omega) (Ev.pos (by omega) ?_)))
     by_cases e : (((a[i]).f0.toList == (b[i]).f0.toList) && ((a[i]).f1.toList == (b[i]).f1.toList)) = true
     ·exact Ev.neg (by rw [e]; decide) (ih.1.eqr (by rw [e, Bool.true_and]))
     ·have e' := Bool.eq_false_iff.2 e
      exact Ev.pos (by rw [e']; decide) ((Ev.now false).eqr (by rw [e', Bool.false_and]))
    ·refine Ev.step (fun k => spec_l6Same.l0.eq_2 ..) ?_
     rw [rdF a i hi, rdF b i (by omega), wsucc (by omega), hq]
     refine Ev.pos (by omega) (Ev.pos (by omega) (Ev.pos (by omega) ?_))
     by_cases e : (((a[i]).f0.toList == (b[i]).f0.toList) && ((a[i]).f1.toList == (b[i]).f1.toList)) = true
     ·exact Ev.neg (by rw [e]; decide) (ih.2.eqr (by rw [e, Bool.true_and]))
     ·have e' := Bool.eq_false_iff.2 e
      exact Ev.pos (by rw [e']; decide) ((Ev.now false).eqr (by rw [e', Bool.false_and]))
  have h0 := key 0 (Nat.zero_le _)
  rw [List.drop_zero, List.drop_zero] at h0
  exact ⟨Ev.pos (by omega) h0.1, Ev.pos (by omega) h0.2⟩
 ·rw [sameV_len a b c]
  exact ⟨Ev.neg (by omega) (Ev.now _), Ev.neg (by omega) (Ev.now _)⟩
theorem emp_size {t : ByteArray} (h : t.toList = []) : t.size = 0 := by
 rw [ByteArray.toList_eq] at h
 have : t.data.toList.length = 0 := by rw [h]; rfl
 simpa using this
theorem form_ev (a : Int) (n t d : ByteArray) : Ev (fun k => spec_l6Form.f k a n t d) (formV a n t d) := by
 unfold spec_l6Form.f formV
 refine Ev.bindS (in_ev a 1 3) ?_
 by_cases h1 : 1 ≤ a ∧ a ≤ 3
 ·rw [decide_eq_true h1, decide_eq_true h1.1, decide_eq_true h1.2]
  refine Ev.pos rfl (Ev.bindS (okN_name n) ?_)
  refine Ev.step (fun k => spec_l6Form.j0.eq_2 ..) ?_
  cases hn : okN n with
  | false => exact Ev.pos rfl (Ev.eqr (Ev.now _) (by simp))
  | true =>
   refine Ev.neg (by decide) ?_
   by_cases h2 : a = 2
   ·refine Ev.pos h2 (Ev.bindS (okN_name t) ?_)
    cases ht : okN t with
    | false => exact Ev.neg (by decide) (Ev.eqr (Ev.now _) (by simp [h2]))
    | true => exact Ev.pos rfl (Ev.eqr (Ev.now _) (by simp [h2]))
   ·refine Ev.neg h2 ?_
    by_cases ht : t.toList = []
    ·have ho : okN t = false := by unfold okN; rw [emp_size ht]; rfl
     refine Ev.pos ht ?_
     by_cases h3 : a = 1
     ·exact Ev.pos h3 (Ev.eqr (Ev.now _) (by simp [ho, h3, ht]))
     ·exact Ev.neg h3 (Ev.eqr (Ev.now _) (by simp [ho, h2, h3, ht]))
    ·exact Ev.neg ht (Ev.eqr (Ev.now _) (by simp [h2, ht]))
 ·rw [decide_eq_false h1]
  refine Ev.neg (by decide) ?_
  refine Ev.step (fun k => spec_l6Form.j0.eq_2 ..) ?_
  refine Ev.pos rfl (Ev.eqr (Ev.now _) ?_)
  have : (decide (1 ≤ a) && decide (a ≤ 3)) = false := by rw [← Bool.decide_and]; exact decide_eq_false h1
  rw [this]
  simp
theorem form_parts {a : Int} {n t d : ByteArray} (h : formV a n t d = true) : okN n = true ∧ (a = 2 → okN t = true) ∧ (a ≠ 1 → d.toList = []) := by
 unfold formV at h
 simp only [Bool.and_eq_true, Bool.or_eq_true, decide_eq_true_eq, beq_iff_eq] at h
 obtain ⟨⟨⟨⟨_, hn⟩, ht⟩, _⟩, hd⟩ := h
 refine ⟨hn, fun h2 => by rw [ht]; exact decide_eq_true h2, fun h3 => hd.resolve_left h3⟩
theorem doV_inv {l : List S170} (h : inv l) {a : Int} {n t d : ByteArray} (hn : okN n = true) (ht : a = 2 → okN t = true) : inv (doV l a n t d).1 := by
 refine ⟨fun x hx => ?_, doV_srt h.2 _ _ _ _⟩
 rcases doV_mem hx with q | ⟨q | q, _⟩
 ·exact h.1 x q
 ·rw [q]; exact hn
 ·rw [q.2]; exact ht q.1
theorem app_size (a b : ByteArray) : (a ++ b).size = a.size + b.size := ByteArray.size_append
theorem doV_size {l : List S170} {B D : Nat} (h : ∀ x ∈ l, x.f1.size ≤ B) (a : Int) (n t : ByteArray) {d : ByteArray} (hd : d.size ≤ D) : ∀ x ∈ (doV l a n t d).1, x.f1.size ≤ B + D := by
 intro x hx
 rcases doV_mem hx with q | ⟨_, q | ⟨y, hy, q | q⟩⟩
 ·exact Nat.le_trans (h x q) (by omega)
 ·rw [q]; omega
 ·rw [q]; exact Nat.le_trans (h y hy) (by omega)
 ·rw [q, app_size]; have := h y hy; omega
def okFrom (live : List S170) : List S170 → List S157 → Bool
 | cur, [] => sameV cur live
 | cur, o :: r => formV o.f0 o.f1 o.f2 o.f3 && ((doV cur o.f0 o.f1 o.f2 o.f3).2 && (fitV (doV cur o.f0 o.f1 o.f2 o.f3).1 && okFrom live (doV cur o.f0 o.f1 o.f2 o.f3).1 r))
theorem okFrom_form (live : List S170) : ∀ (cur : List S170) (ops : List S157), okFrom live cur ops = true → ∀ o ∈ ops, formV o.f0 o.f1 o.f2 o.f3 = true
 | _, [], _, o, h => by cases h
 | cur, p :: r, h, o, ho => by
  rw [okFrom] at h
  simp only [Bool.and_eq_true] at h
  rcases List.mem_cons.1 ho with rfl | ho
  ·exact h.1
  ·exact okFrom_form live _ r h.2.2.2 o ho
theorem fit_len {l : List S170} (h : fitV l = true) : l.length ≤ 60 := by
 unfold fitV at h
 rw [Bool.and_eq_true] at h
 exact of_decide_eq_true h.1
def dskV (live safe : List S170) (ops : List S157) : Bool := filesV live && (filesV safe && (decide (ops.length ≤ 200) && okFrom live safe ops))
theorem disk_ev (live safe : List S170) (ops : List S157) (hl : live.length < 2097152) (hs : safe.length < 2097152) (hz : ∀ x ∈ safe, x.f1.size ≤ 1048576) (ho : ∀ o ∈ ops, o.f3.size ≤ 1048576) :
  Ev (fun k => impl_DiskOk.f k live safe ops) (dskV live safe ops) ∧ Ev (fun k => spec_DiskOk.f k live safe ops) (dskV live safe ops) := by
 unfold impl_DiskOk.f spec_DiskOk.f dskV
 have e1 := areFiles_ev live hl
 have e2 := l6Files_ev live hl
 have e3 := areFiles_ev safe hs
 have e4 := l6Files_ev safe hs
 cases f1 : filesV live with
 | false =>
  rw [f1] at e1 e2
  constructor
  ·refine Ev.bind e1 (Ev.neg (by decide) ?_)
   refine Ev.step (fun k => impl_DiskOk.j0.eq_2 ..) ?_
   exact Ev.pos rfl (Ev.now _)
  ·refine Ev.bind e2 (Ev.neg (by decide) ?_)
   refine Ev.step (fun k => spec_DiskOk.j0.eq_2 ..) ?_
   exact Ev.pos rfl (Ev.now _)
 | true =>
 cases f2 : filesV safe with
 | false =>
  rw [f1] at e1 e2
  rw [f2] at e3 e4
  constructor
  ·refine Ev.bind e1 (Ev.pos rfl (Ev.bind e3 (Ev.neg (by decide) ?_)))
   refine Ev.step (fun k => impl_DiskOk.j0.eq_2 ..) ?_
   exact Ev.pos rfl (Ev.now _)
  ·refine Ev.bind e2 (Ev.pos rfl (Ev.bind e4 (Ev.neg (by decide) ?_)))
   refine Ev.step (fun k => spec_DiskOk.j0.eq_2 ..) ?_
   exact Ev.pos rfl (Ev.now _)
 | true =>
 rw [f1] at e1 e2
 rw [f2] at e3 e4
 by_cases c : ops.length ≤ 200
 ·obtain ⟨i2, l2⟩ := files_inv f2
  have key : ∀ i, i ≤ ops.length → ∀ cur : List S170, inv cur → cur.length ≤ 60 → (∀ x ∈ cur, x.f1.size ≤ 1048576 * (i + 1)) → Ev (fun k => impl_DiskOk.l0 k cur ops (ops.length : Int) (i : Int) live safe ops) (okFrom live cur (ops.drop i)) ∧ Ev (fun k => spec_DiskOk.l0 k cur (i : Int) live safe ops) (okFrom live cur (ops.drop i)) := by
   refine downTo ops.length ?_ ?_
   ·intro cur hi hc hx
    rw [List.drop_length, okFrom]
    have hs := same_ev cur live (by omega)
    constructor
    ·refine Ev.step (fun k => impl_DiskOk.l0.eq_2 ..) ?_
     exact Ev.neg (by omega) (Ev.bind hs.1 (Ev.now _))
    ·refine Ev.step (fun k => spec_DiskOk.l0.eq_2 ..) ?_
     exact Ev.neg (by omega) (Ev.bind hs.2 (Ev.now _))
   ·intro i hi ih cur hv hc hx
    rw [List.drop_eq_getElem_cons hi, okFrom]
    have hd := ho _ (List.getElem_mem hi)
    have hsz : ∀ x ∈ cur, x.f1.size + (ops[i]).f3.size ≤ 9223372036854775807 := fun x hxx => by have := hx x hxx; omega
    have hn := done_is hv.2 (by omega) (ops[i]).f0 (ops[i]).f1 (ops[i]).f2 (ops[i]).f3 hsz (by omega)
    have hm := l6Do_ev hv.2 (by omega) (ops[i]).f0 (ops[i]).f1 (ops[i]).f2 (ops[i]).f3 hsz
    have hlen := doV_len cur (ops[i]).f0 (ops[i]).f1 (ops[i]).f2 (ops[i]).f3
    have hf := fit_ev (doV cur (ops[i]).f0 (ops[i]).f1 (ops[i]).f2 (ops[i]).f3).1 (by omega)
    have hg := l6Files_ev (doV cur (ops[i]).f0 (ops[i]).f1 (ops[i]).f2 (ops[i]).f3).1 (by omega)
    have hfo := form_ev (ops[i]).f0 (ops[i]).f1 (ops[i]).f2 (ops[i]).f3
    have hin := fun hq => doV_inv hv (d := (ops[i]).f3) (form_parts (a := (ops[i]).f0) (n := (ops[i]).f1) (t := (ops[i]).f2) (d := (ops[i]).f3) hq).1 (form_parts hq).2.1
    have hsz2 := doV_size hx (ops[i]).f0 (ops[i]).f1 (ops[i]).f2 hd
    have hff := fun hq => files_fit (hin hq)
    generalize doV cur (ops[i]).f0 (ops[i]).f1 (ops[i]).f2 (ops[i]).f3 = r at hn hm hlen hf hg hin hsz2 hff ⊢
    have ih2 := fun hq hq2 => ih r.1 (hin hq) (fit_len hq2) (fun x hxx => by have := hsz2 x hxx; omega)
    have hform : impl_DOp_formed.f (ops[i]).f0 (ops[i]).f1 (ops[i]).f2 (ops[i]).f3 = some (formV (ops[i]).f0 (ops[i]).f1 (ops[i]).f2 (ops[i]).f3) := rfl
    constructor
    ·refine Ev.step (fun k => impl_DiskOk.l0.eq_2 ..) ?_
     rw [rdO ops i hi, wsucc (by omega)]
     refine Ev.pos (by omega) (Ev.pos (by omega) (Ev.pos (by omega) (Ev.bindS hform ?_)))
     cases q1 : formV (ops[i]).f0 (ops[i]).f1 (ops[i]).f2 (ops[i]).f3 with
     | false => exact Ev.neg (by decide) (Ev.now _)
     | true =>
      refine Ev.pos rfl (Ev.bindS hn ?_)
      cases q2 : r.2 with
      | false => exact Ev.neg (by decide) (Ev.now _)
      | true =>
       refine Ev.pos rfl (Ev.bind hf ?_)
       cases q3 : fitV r.1 with
       | false => exact Ev.neg (by decide) (Ev.now _)
       | true => exact Ev.pos rfl ((ih2 q1 q3).1)
    ·refine Ev.step (fun k => spec_DiskOk.l0.eq_2 ..) ?_
     rw [rdO ops i hi, wsucc (by omega)]
     refine Ev.pos (by omega) (Ev.pos (by omega) (Ev.bind hm ?_))
     cases q2 : r.2 with
     | false => exact Ev.neg (by decide) ((Ev.now false).eqr (by simp))
     | true =>
      refine Ev.pos rfl (Ev.bind hfo ?_)
      cases q1 : formV (ops[i]).f0 (ops[i]).f1 (ops[i]).f2 (ops[i]).f3 with
      | false => exact Ev.neg (by decide) (Ev.now _)
      | true =>
       rw [hff q1] at hg
       refine Ev.pos rfl (Ev.bind hg ?_)
       cases q3 : fitV r.1 with
       | false => exact Ev.neg (by decide) (Ev.now _)
       | true => exact Ev.pos rfl ((ih2 q1 q3).2)
  have h0 := key 0 (Nat.zero_le _) safe i2 l2 (fun x hx => by have := hz x hx; omega)
  rw [List.drop_zero] at h0
  rw [decide_eq_true c]
  constructor
  ·refine Ev.bind e1 (Ev.pos rfl (Ev.bind e3 (Ev.pos rfl ?_)))
   refine Ev.step (fun k => impl_DiskOk.j0.eq_2 ..) ?_
   exact Ev.neg (by simp; omega) h0.1
  ·refine Ev.bind e2 (Ev.pos rfl (Ev.bind e4 (Ev.pos rfl ?_)))
   refine Ev.step (fun k => spec_DiskOk.j0.eq_2 ..) ?_
   exact Ev.neg (by simp; omega) h0.2
 ·rw [decide_eq_false c]
  constructor
  ·refine Ev.bind e1 (Ev.pos rfl (Ev.bind e3 (Ev.pos rfl ?_)))
   refine Ev.step (fun k => impl_DiskOk.j0.eq_2 ..) ?_
   exact Ev.pos (by simp; omega) (Ev.now _)
  ·refine Ev.bind e2 (Ev.pos rfl (Ev.bind e4 (Ev.pos rfl ?_)))
   refine Ev.step (fun k => spec_DiskOk.j0.eq_2 ..) ?_
   exact Ev.pos (by simp; omega) (Ev.now _)
theorem disk_srt {live safe : List S170} {ops : List S157} (h : dskV live safe ops = true) : inv live ∧ inv safe ∧ safe.length ≤ 60 ∧ live.length ≤ 60 ∧ ops.length ≤ 200 ∧ ∀ o ∈ ops, formV o.f0 o.f1 o.f2 o.f3 = true := by
 unfold dskV at h
 simp only [Bool.and_eq_true, decide_eq_true_eq] at h
 have h1 := files_inv h.1
 have h2 := files_inv h.2.1
 exact ⟨h1.1, h2.1, h2.2, h1.2, h.2.2.1, okFrom_form live safe ops h.2.2.2⟩
end Go.Proofs.Ytidjdkodgddfcaa.Pure
end

section
namespace Go.Proofs.Ytidjdkodgddfcaa.Pure
open Go.RowKit Go.Proofs.YtidjdkodgddfcaaW.PrintWords Go.Proofs.YtidjdkodgddfcaaW.PrintLast Go.Proofs.YtidjdkodgddfcaaW.PrintMore
open Go.Proofs.Ytidjdkodgddfcaa.P
set_option linter.unusedVariables false
set_option linter.unusedSimpArgs false
theorem szDisk_ev (l0 l1 : List S193) (l2 : List S195) (h0 : l0.length ≤ 9223372036854775807 ∧ ∀ x ∈ l0, wf_File x) (h1 : l1.length ≤ 9223372036854775807 ∧ ∀ x ∈ l1, wf_File x) (h2 : l2.length ≤ 9223372036854775807 ∧ ∀ x ∈ l2, wf_DOp x) :
  ∃ r, Ev (fun k => laws_szDisk.f k l0 l1 l2 1048576) r ∧ (r = -1 ∨ 0 ≤ r ∧ l0.length ≤ 1048576 ∧ l1.length ≤ 1048576 ∧ l2.length ≤ 1048576 ∧ (∀ x ∈ l0, sm_File x) ∧ (∀ x ∈ l1, sm_File x) ∧ ∀ x ∈ l2, sm_DOp x) := by
 unfold laws_szDisk.f
 obtain ⟨s, hs, hs1, hs2⟩ := szFileS_ev l0 1048576 h0.2 h0.1 (by omega) (by omega)
 rcases hs2 with rfl | ⟨hs0, hl0, hm0⟩
 ·exact ⟨-1, Ev.bind hs (Ev.pos (by omega) (Ev.now _)), .inl rfl⟩
 obtain ⟨u, hu, hu1, hu2⟩ := szFileS_ev l1 s h1.2 h1.1 hs0 hs1
 rcases hu2 with rfl | ⟨hu0, hl1, hm1⟩
 ·exact ⟨-1, Ev.bind hs (Ev.neg (by omega) (Ev.bind hu (Ev.pos (by omega) (Ev.now _)))), .inl rfl⟩
 obtain ⟨v, hv, hv1, hv2⟩ := szDOpS_ev l2 u h2.2 h2.1 hu0 (by omega)
 rcases hv2 with rfl | ⟨hv0, hl2, hm2⟩
 ·exact ⟨-1, Ev.bind hs (Ev.neg (by omega) (Ev.bind hu (Ev.neg (by omega) (Ev.bind hv (Ev.pos (by omega) (Ev.now _)))))), .inl rfl⟩
 exact ⟨v, Ev.bind hs (Ev.neg (by omega) (Ev.bind hu (Ev.neg (by omega) (Ev.bind hv (Ev.neg (by omega) (Ev.now _)))))), .inr ⟨hv0, by omega, by omega, by omega, hm0, hm1, hm2⟩⟩
theorem toDisk_ev (l0 l1 : List S193) (l2 : List S195) (h0 : l0.length < 2097152) (h1 : l1.length < 2097152) (h2 : l2.length < 2097152) : Ev (fun k => laws_toDisk.f k l0 l1 l2) (l0.map cv_File, l1.map cv_File, l2.map cv_DOp) :=
 Ev.bind (toFileS_ev l0 h0) (Ev.bind (toFileS_ev l1 h1) (Ev.bind (toDOpS_ev l2 h2) (Ev.now _)))
theorem eqDisk_ev (a b : List S170) (c : List S157) (h0 : a.length < 2097152) (h1 : b.length < 2097152) (h2 : c.length < 2097152) : Ev (fun k => laws_eqDisk.f k a b c a b c) true :=
 Ev.bind (eqFileS_ev a h0) (Ev.pos rfl (Ev.bind (eqFileS_ev b h1) (Ev.pos rfl (Ev.bind (eqDOpS_ev c h2) (Ev.pos rfl (Ev.now _))))))
theorem cv_size {l : List S193} (h : ∀ x ∈ l, sm_File x) : ∀ x ∈ l.map cv_File, x.f1.size ≤ 1048576 := by
 intro x hx
 obtain ⟨y, hy, rfl⟩ := List.mem_map.1 hx
 exact (h y hy).2
theorem cv_sizeO {l : List S195} (h : ∀ x ∈ l, sm_DOp x) : ∀ x ∈ l.map cv_DOp, x.f3.size ≤ 1048576 := by
 intro x hx
 obtain ⟨y, hy, rfl⟩ := List.mem_map.1 hx
 exact (h y hy).2.2
end Go.Proofs.Ytidjdkodgddfcaa.Pure
end

section
namespace Go.Proofs.Ytidjdkodgddfcaa.Pure
open Go.RowKit Go.Proofs.YtidjdkodgddfcaaW.PrintWords Go.Proofs.YtidjdkodgddfcaaW.PrintLast Go.Proofs.YtidjdkodgddfcaaW.PrintMore
open Go.Proofs.Ytidjdkodgddfcaa.P
set_option linter.unusedVariables false
set_option linter.unusedSimpArgs false
def kFrom (n : Nat) (keep : List Int) (i : Nat) : Bool := (List.range' i (keep.length - i)).all fun j => kOk n keep j
theorem kFrom_end (n : Nat) (keep : List Int) : kFrom n keep keep.length = true := by
 unfold kFrom
 rw [Nat.sub_self]
 rfl
theorem kFrom_step (n : Nat) (keep : List Int) (i : Nat) (h : i < keep.length) : kFrom n keep i = (kOk n keep i && kFrom n keep (i + 1)) := by
 unfold kFrom
 rw [show keep.length - i = (keep.length - (i + 1)) + 1 from by omega, List.range'_succ, List.all_cons]
theorem kFrom_all {n : Nat} {keep : List Int} (h : kFrom n keep 0 = true) (i : Nat) (hi : i < keep.length) : 0 ≤ keep.getD i 0 ∧ keep.getD i 0 < (n : Int) := by
 unfold kFrom at h
 rw [List.all_eq_true, Nat.sub_zero] at h
 have := h i (List.mem_range'_1.2 ⟨by omega, by omega⟩)
 unfold kOk at this
 rw [Bool.and_eq_true] at this
 have := of_decide_eq_true this.1
 omega
def opAt (ops : List S157) (keep : List Int) (torn : Int) (i : Nat) : S157 := ⟨(qi ops (keep.getD i 0)).f0, (qi ops (keep.getD i 0)).f1, (qi ops (keep.getD i 0)).f2, cutD keep.length torn i (qi ops (keep.getD i 0)).f3⟩
def runC (ops : List S157) (keep : List Int) (torn : Int) : Nat → Nat → List S170 → List S170
 | 0, _, cur => cur
 | m + 1, i, cur => runC ops keep torn m (i + 1) (doV cur (opAt ops keep torn i).f0 (opAt ops keep torn i).f1 (opAt ops keep torn i).f2 (opAt ops keep torn i).f3).1
def endC (cur : List S170) : List S170 × List S170 × List S157 × Bool := if fitV cur = true then (cur, cur, [], true) else ([], [], [], false)
def crV (live safe : List S170) (ops : List S157) (keep : List Int) (torn : Int) : List S170 × List S170 × List S157 × Bool :=
 if dskV live safe ops = true ∧ ¬ torn < 0 ∧ kFrom ops.length keep 0 = true then endC (runC ops keep torn keep.length 0 safe) else ([], [], [], false)
theorem crV_len (live safe : List S170) (ops : List S157) (keep : List Int) (torn : Int) : (crV live safe ops keep torn).1.length ≤ 60 ∧ (crV live safe ops keep torn).2.1.length ≤ 60 ∧ (crV live safe ops keep torn).2.2.1 = [] := by
 unfold crV endC
 split
 ·split
  ·rename_i h
   exact ⟨fit_len h, fit_len h, rfl⟩
  ·simp
 ·simp
theorem ext_size (d : ByteArray) (n : Nat) : (d.extract 0 n).size ≤ d.size := by
 rw [ByteArray.size_extract]
 omega
theorem cut_size (n : Nat) (torn : Int) (i : Nat) (d : ByteArray) : (cutD n torn i d).size ≤ d.size := by
 unfold cutD
 split
 ·exact ext_size _ _
 ·exact Nat.le_refl _
theorem rdO_mem {ops : List S157} {x : Int} (h0 : 0 ≤ x) (h1 : x < (ops.length : Int)) : qi ops x ∈ ops := by
 obtain ⟨n, rfl⟩ : ∃ n : Nat, x = n := ⟨x.toNat, by omega⟩
 rw [rdO ops n (by omega)]
 exact List.getElem_mem _
structure StC (ops : List S157) (keep : List Int) (i : Nat) (cur : List S170) : Prop where
 iv : inv cur
 len : cur.length ≤ 60 + i
 sz : ∀ x ∈ cur, x.f1.size ≤ 1048576 * (i + 1)
theorem StC.next {ops : List S157} {keep : List Int} {torn : Int} {i : Nat} {cur : List S170} (h : StC ops keep i cur) (hi : i < keep.length) (hf : ∀ o ∈ ops, formV o.f0 o.f1 o.f2 o.f3 = true) (ho : ∀ o ∈ ops, o.f3.size ≤ 1048576) (hk : 0 ≤ keep.getD i 0 ∧ keep.getD i 0 < (ops.length : Int)) :
  StC ops keep (i + 1) (doV cur (opAt ops keep torn i).f0 (opAt ops keep torn i).f1 (opAt ops keep torn i).f2 (opAt ops keep torn i).f3).1 := by
 have hm := rdO_mem hk.1 hk.2
 have hp := form_parts (hf _ hm)
 refine ⟨doV_inv h.iv hp.1 hp.2.1, ?_, fun x hx => ?_⟩
 ·have := doV_len cur (opAt ops keep torn i).f0 (opAt ops keep torn i).f1 (opAt ops keep torn i).f2 (opAt ops keep torn i).f3
  have := h.len
  omega
 ·have := doV_size h.sz (opAt ops keep torn i).f0 (opAt ops keep torn i).f1 (opAt ops keep torn i).f2 (d := (opAt ops keep torn i).f3) (D := 1048576) (Nat.le_trans (cut_size _ _ _ _) (ho _ hm)) x hx
  omega
theorem StC.is {ops : List S157} {keep : List Int} {i : Nat} {cur : List S170} (h : StC ops keep i cur) (hi : i ≤ 1048576) (a : Int) (n t : ByteArray) {d : ByteArray} (hd : d.size ≤ 1048576) : impl_done.f cur a n t d = some (doV cur a n t d) ∧ Ev (fun k => spec_l6Do.f k cur a n t d) (doV cur a n t d) := by
 have hl := h.len
 have hsz : ∀ x ∈ cur, x.f1.size + d.size ≤ 9223372036854775807 := fun x hx => by have := h.sz x hx; omega
 exact ⟨done_is h.iv.2 (by omega) a n t d hsz (by omega), l6Do_ev h.iv.2 (by omega) a n t d hsz⟩
theorem crash_ev (live safe : List S170) (ops : List S157) (keep : List Int) (torn : Int) (hl : live.length < 2097152) (hs : safe.length < 2097152) (hz : ∀ x ∈ safe, x.f1.size ≤ 1048576) (ho : ∀ o ∈ ops, o.f3.size ≤ 1048576) (hk : keep.length ≤ 1048576) :
  Ev (fun k => impl_Crash.f k live safe ops keep torn) (crV live safe ops keep torn) := by
 have hd := (disk_ev live safe ops hl hs hz ho).1
 unfold impl_Crash.f crV
 cases hq : dskV live safe ops with
 | false =>
  rw [hq] at hd
  rw [if_neg (by simp)]
  exact Ev.bind hd (Ev.neg (by decide) (Ev.now _))
 | true =>
 rw [hq] at hd
 obtain ⟨_, iv, sl, _, _, hf⟩ := disk_srt hq
 refine Ev.bind hd (Ev.pos rfl ?_)
 have main : Ev (fun k => impl_Disk_crash.f k live safe ops keep torn) (if true = true ∧ ¬ torn < 0 ∧ kFrom ops.length keep 0 = true then endC (runC ops keep torn keep.length 0 safe) else ([], [], [], false)) := by
  unfold impl_Disk_crash.f
  by_cases ct : torn < 0
  ·rw [if_neg (fun q => q.2.1 ct)]
   exact Ev.pos ct (Ev.now _)
  refine Ev.neg ct ?_
  have key : ∀ i, i ≤ keep.length → ∀ cur, StC ops keep i cur → Ev (fun k => impl_Disk_crash.l0 k ops keep torn cur i) (if kFrom ops.length keep i = true then endC (runC ops keep torn (keep.length - i) i cur) else ([], [], [], false)) := by
   refine downTo keep.length ?_ ?_
   ·intro cur hc
    rw [kFrom_end, if_pos rfl, Nat.sub_self, runC]
    have hfe := fit_ev cur (by have := hc.len; omega)
    refine Ev.step (fun k => impl_Disk_crash.l0.eq_2 ..) ?_
    refine Ev.neg (by omega) (Ev.bind hfe ?_)
    unfold endC
    cases fitV cur with
    | false => exact Ev.neg (by decide) (Ev.now _)
    | true => exact Ev.pos rfl (Ev.bindS (cln_is cur (by have := hc.len; omega)) (Ev.now _))
   ·intro i hi ih cur hc
    rw [kFrom_step _ _ _ hi]
    refine Ev.step (fun k => impl_Disk_crash.l0.eq_2 ..) ?_
    refine Ev.pos hi ?_
    cases hk1 : kOk ops.length keep i with
    | false => exact Ev.neg (by decide) ((Ev.now _).eqr (by simp))
    | true =>
     have hr : 0 ≤ keep.getD i 0 ∧ keep.getD i 0 < (ops.length : Int) := by
      unfold kOk at hk1
      rw [Bool.and_eq_true] at hk1
      have := of_decide_eq_true hk1.1
      omega
     have hm := rdO_mem hr.1 hr.2
     have hn := ih _ (hc.next (torn := torn) hi hf ho hr)
     have h1 := (hc.is (by omega) (opAt ops keep torn i).f0 (opAt ops keep torn i).f1 (opAt ops keep torn i).f2 (d := (opAt ops keep torn i).f3) (Nat.le_trans (cut_size _ _ _ _) (ho _ hm))).1
     refine Ev.pos rfl (Ev.bindS h1 ?_)
     rw [Bool.true_and, show keep.length - i = (keep.length - (i + 1)) + 1 from by omega, runC]
     exact hn
  have h0 := key 0 (Nat.zero_le _) safe ⟨iv, by omega, fun x hx => by have := hz x hx; omega⟩
  refine h0.eqr ?_
  rw [Nat.sub_zero]
  by_cases q : kFrom ops.length keep 0 = true
  ·rw [if_pos q, if_pos ⟨rfl, ct, q⟩]
  ·rw [if_neg q, if_neg (fun h => q h.2.2)]
 exact Ev.bind main (Ev.now _)
theorem cut_same {n : Nat} {torn : Int} {i : Nat} {a : Int} {d : ByteArray} (ht : 0 ≤ torn) (hd : a ≠ 1 → d.toList = []) : cutS n torn i a d = cutD n torn i d := by
 unfold cutS cutD mn
 by_cases q : i + 1 = n
 ·rw [if_pos q]
  by_cases y : (d.size : Int) < torn
  ·rw [if_pos y, if_neg (fun h => by have := h.2.2; omega), Int.toNat_natCast, ByteArray.extract_zero_size]
  ·rw [if_neg y]
   by_cases x : torn < (d.size : Int)
   ·by_cases z : a = 1
    ·rw [if_pos ⟨q, z, x⟩]
    ·have := emp_size (hd z)
     omega
   ·rw [if_neg (fun h => x h.2.2), show torn.toNat = d.size from by omega, ByteArray.extract_zero_size]
 ·rw [if_neg q, if_neg (fun h => q h.1)]
theorem sCrash_ev (live safe : List S170) (ops : List S157) (keep : List Int) (torn : Int) (hl : live.length < 2097152) (hs : safe.length < 2097152) (hz : ∀ x ∈ safe, x.f1.size ≤ 1048576) (ho : ∀ o ∈ ops, o.f3.size ≤ 1048576) (hk : keep.length ≤ 1048576) :
  Ev (fun k => spec_Crash.f k live safe ops keep torn) (crV live safe ops keep torn) := by
 have hd := (disk_ev live safe ops hl hs hz ho).2
 unfold spec_Crash.f crV
 cases hq : dskV live safe ops with
 | false =>
  rw [hq] at hd
  rw [if_neg (by simp)]
  exact Ev.bind hd (Ev.neg (by decide) (Ev.now _))
 | true =>
 rw [hq] at hd
 obtain ⟨_, iv, sl, _, ol, hf⟩ := disk_srt hq
 refine Ev.bind hd (Ev.pos rfl ?_)
 by_cases ct : torn < 0
 ·rw [if_neg (fun q => q.2.1 ct)]
  exact Ev.pos ct (Ev.now _)
 refine Ev.neg ct ?_
 have run : kFrom ops.length keep 0 = true → ∀ i, i ≤ keep.length → ∀ cur, StC ops keep i cur → Ev (fun k => spec_Crash.l1 k ops keep torn cur i) (endC (runC ops keep torn (keep.length - i) i cur)) := by
  intro hall
  refine downTo keep.length ?_ ?_
  ·intro cur hc
   rw [Nat.sub_self, runC]
   have hfe := l6Files_ev cur (by have := hc.len; omega)
   rw [files_fit hc.iv] at hfe
   refine Ev.step (fun k => spec_Crash.l1.eq_2 ..) ?_
   refine Ev.neg (by omega) (Ev.bind hfe ?_)
   unfold endC
   cases fitV cur with
   | false => exact Ev.neg (by decide) (Ev.now _)
   | true => exact Ev.pos rfl (Ev.pos (by have := hc.len; omega) (Ev.now _))
  ·intro i hi ih cur hc
   have hr := kFrom_all hall i hi
   have hm := rdO_mem hr.1 hr.2
   have hn := ih _ (hc.next (torn := torn) hi hf ho hr)
   have hp := form_parts (hf _ hm)
   have hsz := ho _ hm
   rw [show keep.length - i = (keep.length - (i + 1)) + 1 from by omega, runC]
   refine Ev.step (fun k => spec_Crash.l1.eq_2 ..) ?_
   rw [cut_same (Int.not_lt.1 ct) hp.2.2]
   exact Ev.pos hi (Ev.pos hr (Ev.bind (hc.is (by omega) _ _ _ (Nat.le_trans (cut_size _ _ _ _) hsz)).2 hn))
 by_cases hall : kFrom ops.length keep 0 = true
 ·rw [if_pos ⟨rfl, ct, hall⟩]
  have key : ∀ i, i ≤ keep.length → kFrom ops.length keep i = true → Ev (fun k => spec_Crash.l0 k ops keep torn safe i) (endC (runC ops keep torn keep.length 0 safe)) := by
   refine downTo keep.length ?_ ?_
   ·intro _
    refine Ev.step (fun k => spec_Crash.l0.eq_2 ..) ?_
    refine Ev.neg (by omega) (Ev.pos (by omega) ?_)
    have h0 := run hall 0 (Nat.zero_le _) safe ⟨iv, by omega, fun x hx => by have := hz x hx; omega⟩
    rw [Nat.sub_zero] at h0
    exact h0
   ·intro i hi ih hk
    rw [kFrom_step _ _ _ hi, Bool.and_eq_true] at hk
    refine Ev.step (fun k => spec_Crash.l0.eq_2 ..) ?_
    exact Ev.pos hi (Ev.pos hk.1 (ih hk.2))
  exact key 0 (Nat.zero_le _) hall
 ·rw [if_neg (fun h => hall h.2.2)]
  have key : ∀ i, i ≤ keep.length → kFrom ops.length keep i = false → Ev (fun k => spec_Crash.l0 k ops keep torn safe i) ([], [], [], false) := by
   refine downTo keep.length ?_ ?_
   ·intro h
    rw [kFrom_end] at h
    cases h
   ·intro i hi ih hk
    rw [kFrom_step _ _ _ hi] at hk
    refine Ev.step (fun k => spec_Crash.l0.eq_2 ..) ?_
    refine Ev.pos hi ?_
    cases hk1 : kOk ops.length keep i with
    | false => exact Ev.neg (by decide) (Ev.now _)
    | true => exact Ev.pos rfl (ih (by rw [hk1, Bool.true_and] at hk; exact hk))
  exact key 0 (Nat.zero_le _) (by simpa using hall)
end Go.Proofs.Ytidjdkodgddfcaa.Pure
end

section
namespace Go.Proofs.Ytidjdkodgddfcaa.Pure
open Go.RowKit Go.Proofs.YtidjdkodgddfcaaW.PrintWords Go.Proofs.YtidjdkodgddfcaaW.PrintLast Go.Proofs.YtidjdkodgddfcaaW.PrintMore
open Go.Proofs.Ytidjdkodgddfcaa.P
set_option linter.unusedVariables false
set_option linter.unusedSimpArgs false
theorem markDisk_ev (a b : List S170) (ha : a.length < 2097152) (hb : b.length < 2097152) (c : List S157) (hc : c.length < 2097152) : Ev (fun k => laws_markDisk.f k a b c 1) (1 + 2 * (a.length : Int) + 2 * (b.length : Int) + 4 * (c.length : Int), (List.range a.length).map (fun j : Nat => mk_File (1 + 2 * (j : Int))), (List.range b.length).map (fun j : Nat => mk_File (1 + 2 * (a.length : Int) + 2 * (j : Int))), (List.range c.length).map (fun j : Nat => mk_DOp (1 + 2 * (a.length : Int) + 2 * (b.length : Int) + 4 * (j : Int)))) := by
 unfold laws_markDisk.f
 exact Ev.bind (markFileS_ev a ha 1 (by omega) (by omega)) (Ev.bind (markFileS_ev b hb (1 + 2 * (a.length : Int)) (by omega) (by omega)) (Ev.bind (markDOpS_ev c hc (1 + 2 * (a.length : Int) + 2 * (b.length : Int)) (by omega) (by omega)) (Ev.now _)))
theorem heldDisk_ev (na nb nc : Nat) (ha : na < 2097152) (hb : nb < 2097152) (hc : nc < 2097152) : Ev (fun k => laws_heldDisk.f k ((List.range na).map (fun j : Nat => mk_File (1 + 2 * (j : Int)))) ((List.range nb).map (fun j : Nat => mk_File (1 + 2 * (na : Int) + 2 * (j : Int)))) ((List.range nc).map (fun j : Nat => mk_DOp (1 + 2 * (na : Int) + 2 * (nb : Int) + 4 * (j : Int)))) 1) (1 + 2 * (na : Int) + 2 * (nb : Int) + 4 * (nc : Int)) := by
 unfold laws_heldDisk.f
 exact Ev.bind (heldFileS_ev na ha 1 (by omega) (by omega)) (Ev.neg (by omega) (Ev.bind (heldFileS_ev nb hb (1 + 2 * (na : Int)) (by omega) (by omega)) (Ev.neg (by omega) (Ev.bind (heldDOpS_ev nc hc (1 + 2 * (na : Int) + 2 * (nb : Int)) (by omega) (by omega)) (Ev.neg (by omega) (Ev.now _))))))
theorem FnExactCrash : ∀ (l0_0 : (List S193)) (l0_1 : (List S193)) (l0_2 : (List S195)) (l1 : (List Int)) (a2 : Int), (l0_0.length ≤ 9223372036854775807 ∧ ∀ x ∈ l0_0, wf_File x) → (l0_1.length ≤ 9223372036854775807 ∧ ∀ x ∈ l0_1, wf_File x) → (l0_2.length ≤ 9223372036854775807 ∧ ∀ x ∈ l0_2, wf_DOp x) → (l1.length ≤ 9223372036854775807 ∧ ∀ x ∈ l1, (-9223372036854775808 ≤ x ∧ x ≤ 9223372036854775807)) → (-9223372036854775808 ≤ a2 ∧ a2 ≤ 9223372036854775807) → Ev (fun k => laws_FnExactCrash.f k l0_0 l0_1 l0_2 l1 a2) true := by
 intro a b c ks torn ha hb hc hk ht
 unfold laws_FnExactCrash.f
 by_cases ck : (ks.length : Int) > 1048576
 ·exact Ev.pos ck (Ev.now _)
 refine Ev.neg ck ?_
 obtain ⟨s, hs, hs2⟩ := szDisk_ev a b c ha hb hc
 rcases hs2 with rfl | ⟨hs0, la, lb, lc, _, mb, mc⟩
 ·exact Ev.bind hs (Ev.pos (by omega) (Ev.now _))
 have htd := toDisk_ev a b c (by omega) (by omega) (by omega)
 have hti := toInt64S_ev ks (by omega)
 have hei := eqInt64S_ev ks (by omega)
 have him := crash_ev (a.map cv_File) (b.map cv_File) (c.map cv_DOp) ks torn (by rw [List.length_map]; omega) (by rw [List.length_map]; omega) (cv_size mb) (cv_sizeO mc) (by omega)
 have hsp := sCrash_ev (a.map cv_File) (b.map cv_File) (c.map cv_DOp) ks torn (by rw [List.length_map]; omega) (by rw [List.length_map]; omega) (cv_size mb) (cv_sizeO mc) (by omega)
 have hed := eqDisk_ev (a.map cv_File) (b.map cv_File) (c.map cv_DOp) (by rw [List.length_map]; omega) (by rw [List.length_map]; omega) (by rw [List.length_map]; omega)
 have hmd := markDisk_ev (a.map cv_File) (b.map cv_File) (by rw [List.length_map]; omega) (by rw [List.length_map]; omega) (c.map cv_DOp) (by rw [List.length_map]; omega)
 have hmi := markInt64S_ev ks (by omega) (1 + 2 * ((a.map cv_File).length : Int) + 2 * ((b.map cv_File).length : Int) + 4 * ((c.map cv_DOp).length : Int)) (by omega) (by rw [List.length_map, List.length_map, List.length_map]; omega)
 have hlen := crV_len (a.map cv_File) (b.map cv_File) (c.map cv_DOp) ks torn
 generalize crV (a.map cv_File) (b.map cv_File) (c.map cv_DOp) ks torn = m at him hsp hlen
 obtain ⟨m1, m2, m3, m4⟩ := m
 obtain ⟨n1, n2, n3⟩ := hlen
 simp only at n1 n2 n3
 subst n3
 have hev := eqDisk_ev m1 m2 [] (by omega) (by omega) (by simp)
 have hmv := markDisk_ev m1 m2 (by omega) (by omega) [] (by simp)
 have hhv := heldDisk_ev m1.length m2.length ([] : List S157).length (by omega) (by omega) (by simp)
 exact Ev.bind hs (Ev.neg (by omega) (Ev.bind htd (Ev.bind hti (Ev.bind hsp (Ev.bind him (Ev.bind hev (Ev.pos rfl (Ev.pos rfl (Ev.bind hed (Ev.pos rfl (Ev.bind hei (Ev.pos rfl (Ev.bind hmd (Ev.bind hmi (Ev.pos (by simp only []; omega) (Ev.bind hmv (Ev.bind hhv (Ev.pos (by omega) (Ev.pos rfl (Ev.now _))))))))))))))))))))
end Go.Proofs.Ytidjdkodgddfcaa.Pure
end
