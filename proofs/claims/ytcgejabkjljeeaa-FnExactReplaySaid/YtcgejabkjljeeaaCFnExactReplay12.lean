/- Proved: the law FnExactReplay of the given program returns true for every input of its Go types and leaves each argument as it was; no condition. (Part 13 of 15.) -/
import Derived.Test.YtcgejabkjljeeaaCFnExactReplay3
import Derived.ProofKit
import Derived.WideShapes
import Derived.DataReads
import Derived.ChangeArms
import Derived.Lib.SmallJoins
import Derived.Test.YtcgejabkjljeeaaCFnExactReplay11
import Derived.Test.YtcgejabkjljeeaaCFnExactReplay5
import Derived.Test.YtcgejabkjljeeaaCFnExactReplay4
import Derived.Test.YtcgejabkjljeeaaCFnExactReplay6
import Derived.Test.YtcgejabkjljeeaaCFnExactReplay8
import Derived.Test.YtcgejabkjljeeaaCFnExactReplay0
section
namespace Go.Proofs.Ytcgejabkjljeeaa.P
open Go.RowKit Go.Proofs.YtcgejabkjljeeaaW.PrintWords Go.Proofs.YtcgejabkjljeeaaW.PrintLast Go.Proofs.YtcgejabkjljeeaaW.PrintMore
attribute [local go_sem] str_gtr str_leq str_geq qe1 qc1 max_two min_two qy qx qd1 qb1
set_option linter.unusedVariables false
set_option linter.unusedSimpArgs false
def Opens {α : Type} (P : Program) (d : Kd α) (t : TypeId) (wf : α → Prop) : Prop :=
 ∀ {H : Type} (enc : TypeId × Value → H) (w : World) (fuel : Nat) (cs : List Value) (x : DataW H × List MemPlace), DataW.trod enc P w 0 (fun _ => true) true fuel t cs = some x → ∃ a, d.K w a cs ∧ wf a
theorem opens_i64 {P : Program} {t : TypeId} (ht : P.underlying t = some (.int .i64)) : Opens P (Kd.int .i64) t (fun n => -9223372036854775808 ≤ n ∧ n ≤ 9223372036854775807) := by
 intro H enc w fuel cs x h
 obtain ⟨n, rfl, _, hw⟩ := DataW.trod_int ht h
 exact ⟨n, rfl, by simpa [Lit.wf, IntKind.min, IntKind.max, IntKind.signed, IntKind.bits] using hw⟩
theorem opens_str {P : Program} {t : TypeId} (ht : P.underlying t = some .string) : Opens P Kd.string t (fun s => s.size ≤ 9223372036854775807) := by
 intro H enc w fuel cs x h
 obtain ⟨n, rfl, _, hw⟩ := DataW.trod_string ht h
 exact ⟨n, rfl, by simpa [Go.maxLen] using hw⟩
theorem choose_list {α : Type} (n : Nat) (Q : Nat → α → Prop) (h : ∀ j, j < n → ∃ a, Q j a) : ∃ l : List α, l.length = n ∧ ∀ j a, l[j]? = some a → Q j a := by
 induction n with
 | zero => exact ⟨[], rfl, fun j a h => by simp at h⟩
 | succ n ih =>
  obtain ⟨l, hl, hq⟩ := ih (fun j hj => h j (by omega))
  obtain ⟨a, ha⟩ := h n (by omega)
  refine ⟨l ++ [a], by simp [hl], fun j b hb => ?_⟩
  rcases Nat.lt_or_ge j l.length with hj | hj
  ·rw [List.getElem?_append_left hj] at hb
   exact hq j b hb
  ·rw [List.getElem?_append_right hj] at hb
   have hj0 : j - l.length = 0 := by
    rcases Nat.eq_zero_or_pos (j - l.length) with h0 | h0
    ·exact h0
    ·rw [List.getElem?_eq_none (by simp; omega)] at hb
     cases hb
   rw [hj0] at hb
   obtain rfl : a = b := by simpa using hb
   rw [show j = n from by omega]
   exact ha
theorem opens_slice {α : Type} {P : Program} {d : Kd α} {t e : TypeId} {wf : α → Prop} (ht : P.underlying t = some (.slice e)) (hsz : P.cellsOf e = d.sz) (h : Opens P d e wf) :
  Opens P (Kd.slice e d) t (fun l => l.length ≤ 9223372036854775807 ∧ ∀ x ∈ l, wf x) := by
 intro H enc w fuel cs x hx
 rcases DataW.trod_slice ht hx with ⟨rfl, _⟩ | ⟨a, len, cap, elems, rest, n, _, rfl, _, _, hlc, hcm, hel, hi, _, _⟩
 ·exact ⟨[], ⟨none, 0, rfl, Nat.le_refl _, Kd.C_nil d w⟩, by simp, by simp⟩
 ·obtain ⟨l, hl, hq⟩ := choose_list len (fun j x => wf x ∧ ∃ c, c.length = d.sz ∧ d.K w x c ∧ ∀ i u, c[i]? = some u → w.cell? (a.add (j * d.sz + i)) = some u) (fun j hj => by
   have h1 := hi j hj
   rw [List.getElem?_eq_getElem (show j < elems.length by omega), Option.bind_eq_some_iff] at h1
   obtain ⟨c, hc, hy⟩ := h1
   obtain ⟨x, hx, hw⟩ := h enc w n c _ hy
   obtain ⟨_, hlen, hcell⟩ := World.cells?_some hc
   refine ⟨x, hw, c, by rw [hlen, hsz], hx, fun i u hu => ?_⟩
   have hil : i < P.cellsOf e := by
    rw [← hlen]
    exact (List.getElem?_eq_some_iff.1 hu).1
   have := hcell i hil
   rw [hsz] at this
   rw [← hu, ← this, Addr.add_add])
  have hm : len ≤ 9223372036854775807 := by
   have : cap ≤ 9223372036854775807 := by simpa [Go.maxLen] using hcm
   omega
  refine ⟨l, ⟨some a, cap, by rw [hl], by omega, hl.trans hl.symm, by omega, fun _ => ⟨a, rfl, fun j p hp => (hq j p hp).2⟩⟩, by omega, fun x hx => ?_⟩
  obtain ⟨j, hj, rfl⟩ := List.getElem_of_mem hx
  exact (hq j _ (List.getElem?_eq_getElem hj)).1
end Go.Proofs.Ytcgejabkjljeeaa.P
end

section
namespace Go.Proofs.Ytcgejabkjljeeaa.P
open Go.RowKit Go.Proofs.YtcgejabkjljeeaaW.PrintWords Go.Proofs.YtcgejabkjljeeaaW.PrintLast Go.Proofs.YtcgejabkjljeeaaW.PrintMore
attribute [local go_sem] str_gtr str_leq str_geq qe1 qc1 max_two min_two qy qx qd1 qb1
set_option linter.unusedVariables false
set_option linter.unusedSimpArgs false
theorem strOfNums_size (l : List Int) : (strOfNums l).size = l.length := by
 unfold strOfNums
 simp [ByteArray.size]
theorem markText_ends (n : Int) (h : n < 1099511627776) : ∃ r, Ev (fun k => laws_markText.f k n) r := by
 by_cases h0 : n ≤ 0
 ·exact ⟨_, by unfold laws_markText.f; exact Ev.pos h0 (Ev.now _)⟩
 ·have key : ∀ (d : Nat) (x : Int) (y : ByteArray), 0 ≤ x → x ≤ d → y.size + d < 2199023255552 → ∃ r, Ev (fun k => laws_markText.l0 k x y) r := by
   intro d
   induction d using Nat.strongRecOn with
   | _ d ih =>
    intro x y hx hd hy
    by_cases hp : x > 0
    ·have ht : Int.tdiv x 10 = x / 10 := Int.tdiv_eq_ediv_of_nonneg hx
     obtain ⟨r, hr⟩ := ih (d - 1) (by omega) (x / 10) ((strOfNums [(wrap64 (48 + (Int.tmod x 10))) % 256]) ++ y) (by omega) (by omega) (by
      rw [ByteArray.size_append, strOfNums_size]
      simp only [List.length_cons, List.length_nil]
      omega)
     refine ⟨r, Ev.step (fun k => rfl) (Ev.pos hp (Ev.bindS rfl (Ev.pos (by rw [strOfNums_size]; simp only [List.length_cons, List.length_nil]; omega) ?_)))⟩
     rw [ht, wid (by omega) (by omega)]
     exact hr
    ·exact ⟨_, Ev.step (fun k => rfl) (Ev.neg hp (Ev.pos (by omega) (Ev.now _)))⟩
  obtain ⟨r, hr⟩ := key n.toNat n ⟨#[]⟩ (by omega) (by omega) (by
   show 0 + n.toNat < _
   omega)
  exact ⟨r, by unfold laws_markText.f; exact Ev.neg h0 hr⟩
noncomputable def mt (n : Int) : ByteArray := if h : n < 1099511627776 then (markText_ends n h).choose else ⟨#[]⟩
theorem markText_ev (n : Int) (h : n < 1099511627776) : Ev (fun k => laws_markText.f k n) (mt n) := by
 rw [mt, dif_pos h]
 exact (markText_ends n h).choose_spec
theorem markLoop {α : Type} (l : Nat → List α → Int → Int → Option (Int × List α)) (mk : Int → α) (c n : Nat) (hn : n < 2097152) (hc : c ≤ 8)
  (hs : ∀ (ys : List α) (i : Nat) (kk : Int) (r : Int × List α), ys.length = n → i < n → 0 ≤ kk → kk < 549755813888 → Ev (fun k => l k (ys.set i (mk kk)) (kk + c) ((i + 1 : Nat) : Int)) r → Ev (fun k => l k ys kk (i : Int)) r)
  (he : ∀ (ys : List α) (kk : Int), ys.length = n → Ev (fun k => l k ys kk (n : Int)) (kk, ys)) (ys : List α) (hy : ys.length = n) (k0 : Int) (h0 : 0 ≤ k0) (h1 : k0 < 274877906944) :
  Ev (fun k => l k ys k0 0) (k0 + c * n, (List.range n).map fun j : Nat => mk (k0 + (c : Int) * (j : Int))) := by
 have key : ∀ i, i ≤ n → ∀ ys : List α, ys.length = n → Ev (fun k => l k ys (k0 + c * i) (i : Int)) (k0 + c * n, ys.take i ++ (List.range' i (n - i)).map fun j : Nat => mk (k0 + (c : Int) * (j : Int))) := by
  refine downTo n ?_ ?_
  ·intro ys hy
   refine Ev.eqr (he ys _ hy) ?_
   rw [Nat.sub_self, List.range'_zero, List.map_nil, List.append_nil, List.take_of_length_le (by omega)]
  ·intro i hi ih ys hy
   have hcb : (c : Int) * (i : Int) ≤ 16777216 := by
    have h2 : c * i ≤ 8 * i := Nat.mul_le_mul_right i hc
    have e : (c : Int) * (i : Int) = ((c * i : Nat) : Int) := (Int.natCast_mul c i).symm
    rw [e]
    omega
   have hcp : (0 : Int) ≤ (c : Int) * (i : Int) := Int.mul_nonneg (by omega) (by omega)
   refine hs ys i _ _ hy hi (by omega) (by omega) ?_
   rw [show k0 + (c : Int) * (i : Int) + (c : Int) = k0 + (c : Int) * ((i + 1 : Nat) : Int) from by rw [Int.natCast_add, Int.mul_add]; omega]
   refine Ev.eqr (ih (ys.set i (mk (k0 + (c : Int) * (i : Int)))) (by simpa using hy)) ?_
   rw [set_take _ _ _ (by omega), List.append_assoc, show n - i = (n - (i + 1)) + 1 from by omega, List.range'_succ, List.map_cons]
   rfl
 have := key 0 (Nat.zero_le _) ys hy
 simp only [Int.natCast_zero, Int.mul_zero, Int.add_zero, List.take_zero, List.nil_append, Nat.sub_zero, ← List.range_eq_range'] at this
 exact this
theorem heldLoop {α : Type} (l : Nat → List α → Int → Int → Option Int) (mk : Int → α) (c n : Nat) (d : α) (hn : n < 2097152) (hc : c ≤ 8)
  (hs : ∀ (ys : List α) (i : Nat) (kk : Int) (r : Int), ys.length = n → i < n → 0 ≤ kk → kk < 549755813888 → ys.getD i d = mk kk → Ev (fun k => l k ys (kk + c) ((i + 1 : Nat) : Int)) r → Ev (fun k => l k ys kk (i : Int)) r)
  (he : ∀ (ys : List α) (kk : Int), ys.length = n → Ev (fun k => l k ys kk (n : Int)) kk) (k0 : Int) (h0 : 0 ≤ k0) (h1 : k0 < 274877906944) :
  Ev (fun k => l k ((List.range n).map fun j : Nat => mk (k0 + (c : Int) * (j : Int))) k0 0) (k0 + c * n) := by
 have key : ∀ i, i ≤ n → Ev (fun k => l k ((List.range n).map fun j : Nat => mk (k0 + (c : Int) * (j : Int))) (k0 + c * i) (i : Int)) (k0 + c * n) := by
  refine downTo n (he _ _ (by simp)) ?_
  intro i hi ih
  have hcb : (c : Int) * (i : Int) ≤ 16777216 := by
   have h2 : c * i ≤ 8 * i := Nat.mul_le_mul_right i hc
   have e : (c : Int) * (i : Int) = ((c * i : Nat) : Int) := (Int.natCast_mul c i).symm
   rw [e]
   omega
  have hcp : (0 : Int) ≤ (c : Int) * (i : Int) := Int.mul_nonneg (by omega) (by omega)
  refine hs _ i _ _ (by simp) hi (by omega) (by omega) ?_ ?_
  ·rw [List.getD_eq_getElem?_getD, List.getElem?_map, List.getElem?_range hi]
   rfl
  ·rw [show k0 + (c : Int) * (i : Int) + (c : Int) = k0 + (c : Int) * ((i + 1 : Nat) : Int) from by rw [Int.natCast_add, Int.mul_add]; omega]
   exact ih
 have := key 0 (Nat.zero_le _)
 simp only [Int.natCast_zero, Int.mul_zero, Int.add_zero] at this
 exact this
def cv_Meta (x : S114) : S66 := ⟨x.f0, x.f1, x.f2, x.f3, x.f4⟩
def wf_Meta (x : S114) : Prop := -9223372036854775808 ≤ x.f0 ∧ x.f0 ≤ 9223372036854775807 ∧ -9223372036854775808 ≤ x.f1 ∧ x.f1 ≤ 9223372036854775807 ∧ x.f2.size ≤ 9223372036854775807 ∧ x.f3.size ≤ 9223372036854775807 ∧ -9223372036854775808 ≤ x.f4 ∧ x.f4 ≤ 9223372036854775807
def sm_Meta (x : S114) : Prop := x.f2.size ≤ 1048576 ∧ x.f3.size ≤ 1048576
theorem szMeta_ev (x : S114) (a : Int) (hw : wf_Meta x) (h0 : 0 ≤ a) (h1 : a ≤ 1048576) : ∃ r, laws_szMeta.f (x.f0) (x.f1) (x.f2) (x.f3) (x.f4) a = some r ∧ r ≤ a ∧ (r = -1 ∨ 0 ≤ r ∧ sm_Meta x) := by
 unfold wf_Meta at hw
 unfold sm_Meta
 unfold laws_szMeta.f
 rw [wid (x := a - (x.f2.size : Int)) (by omega) (by omega)]
 by_cases c0 : a - (x.f2.size : Int) < 0
 ·exact ⟨-1, by rw [if_pos c0], by omega, .inl rfl⟩
 ·rw [if_neg c0]
  rw [wid (x := (a - (x.f2.size : Int)) - (x.f3.size : Int)) (by omega) (by omega)]
  by_cases c1 : (a - (x.f2.size : Int)) - (x.f3.size : Int) < 0
  ·exact ⟨-1, by rw [if_pos c1], by omega, .inl rfl⟩
  ·rw [if_neg c1]
   exact ⟨_, rfl, by omega, .inr ⟨by omega, by omega, by omega⟩⟩
theorem szMetaS_ev (l : List S114) (a : Int) (hw : ∀ x ∈ l, wf_Meta x) (hl : l.length ≤ 9223372036854775807) (h0 : 0 ≤ a) (h1 : a ≤ 1048576) :
  ∃ r, Ev (fun k => laws_szMetaS.f k l a) r ∧ r ≤ a ∧ (r = -1 ∨ 0 ≤ r ∧ (l.length : Int) ≤ a ∧ ∀ x ∈ l, sm_Meta x) := by
 unfold laws_szMetaS.f
 rw [wid (x := a - (l.length : Int)) (by omega) (by omega)]
 by_cases c : a - (l.length : Int) < 0
 ·exact ⟨-1, Ev.pos c (Ev.now _), by omega, .inl rfl⟩
 ·have key : ∀ i, i ≤ l.length → ∀ b : Int, 0 ≤ b → b ≤ 1048576 → ∃ r, Ev (fun k => laws_szMetaS.l0 k l b (i : Int)) r ∧ r ≤ b ∧ (r = -1 ∨ 0 ≤ r ∧ ∀ j, i ≤ j → j < l.length → sm_Meta (l.getD j z114)) := by
   refine downTo l.length ?_ ?_
   ·intro b hb _
    exact ⟨b, Ev.step (fun k => rfl) (Ev.neg (by omega) (Ev.now _)), by omega, .inr ⟨hb, fun j h1 h2 => by omega⟩⟩
   ·intro i hi ih b hb hb1
    have hmem : l.getD i z114 ∈ l := by rw [List.getD_eq_getElem?_getD, List.getElem?_eq_getElem hi]; exact List.getElem_mem hi
    obtain ⟨q, hq, hqb, hq2⟩ := szMeta_ev (l.getD i z114) b (hw _ hmem) hb hb1
    rcases hq2 with rfl | ⟨hq0, hq1⟩
    ·exact ⟨-1, Ev.step (fun k => rfl) (Ev.pos (by omega) (Ev.pos (by omega) (Ev.bindS hq (Ev.pos (by omega) (Ev.now _))))), by omega, .inl rfl⟩
    ·obtain ⟨r, hr, hrq, hr2⟩ := ih q hq0 (by omega)
     refine ⟨r, Ev.step (fun k => rfl) (Ev.pos (by omega) (Ev.pos (by omega) (Ev.bindS hq (Ev.neg (by omega) ?_)))), by omega, ?_⟩
     ·rw [wsucc (by omega)]
      exact hr
     ·rcases hr2 with h | ⟨h, h'⟩
      ·exact .inl h
      ·refine .inr ⟨h, fun j hj1 hj2 => ?_⟩
       by_cases e : j = i
       ·rw [e]
        exact hq1
       ·exact h' j (by omega) hj2
  obtain ⟨r, hr, hra, hr2⟩ := key 0 (Nat.zero_le _) (a - l.length) (by omega) (by omega)
  refine ⟨r, Ev.neg c hr, by omega, ?_⟩
  rcases hr2 with h | ⟨h, h'⟩
  ·exact .inl h
  ·refine .inr ⟨h, by omega, fun x hx => ?_⟩
   obtain ⟨j, hj, rfl⟩ := List.getElem_of_mem hx
   have := h' j (Nat.zero_le _) hj
   rwa [List.getD_eq_getElem?_getD, List.getElem?_eq_getElem hj] at this
theorem toMetaS_ev (l : List S114) (h : l.length < 2097152) : Ev (fun k => laws_toMetaS.f k l) (l.map cv_Meta) := by
 unfold laws_toMetaS.f
 refine Ev.pos (by omega) (Ev.pos (by omega) ?_)
 refine copyLoop laws_toMetaS.l0 cv_Meta z114 2097152 (by omega) ?_ ?_ l h _ (by simp)
 ·intro xs ys i r hx hi hy h
  refine Ev.step (fun k => rfl) (Ev.pos (by omega) (Ev.pos (by omega) (Ev.bindS rfl (Ev.pos (by omega) ?_))))
  rw [wsucc (by omega)]
  exact h
 ·intro xs ys
  exact Ev.step (fun k => rfl) (Ev.neg (by omega) (Ev.now _))
theorem eqMeta_self (a0 : Int) (a1 : Int) (a2 : ByteArray) (a3 : ByteArray) (a4 : Int) : laws_eqMeta.f a0 a1 a2 a3 a4 a0 a1 a2 a3 a4 = some true := by simp [laws_eqMeta.f]
theorem eqMetaS_ev (l : List S66) (h : l.length < 2097152) : Ev (fun k => laws_eqMetaS.f k l l) true := by
 unfold laws_eqMetaS.f
 refine Ev.pos rfl ?_
 have key : ∀ i, i ≤ l.length → Ev (fun k => laws_eqMetaS.l0 k l l (i : Int)) true := by
  refine downTo l.length (Ev.step (fun k => rfl) (Ev.neg (by omega) (Ev.now _))) ?_
  intro i hi ih
  refine Ev.step (fun k => rfl) (Ev.pos (by omega) (Ev.pos (by omega) (Ev.pos (by omega) (Ev.bindS (eqMeta_self _ _ _ _ _) (Ev.pos rfl ?_)))))
  rw [wsucc (by omega)]
  exact ih
 exact key 0 (Nat.zero_le _)
theorem toInt64S_ev (l : List Int) (h : l.length < 2097152) : Ev (fun k => laws_toInt64S.f k l) l := by
 unfold laws_toInt64S.f
 refine Ev.pos (by omega) (Ev.pos (by omega) ?_)
 have := copyLoop laws_toInt64S.l0 (fun x => x) (0 : Int) 2097152 (by omega) ?_ ?_ l h (List.replicate ((l.length : Int)).toNat 0) (by simp)
 ·simpa using this
 ·intro xs ys i r hx hi hy h
  refine Ev.step (fun k => rfl) (Ev.pos (by omega) (Ev.pos (by omega) (Ev.pos (by omega) ?_)))
  rw [wsucc (by omega)]
  exact h
 ·intro xs ys
  exact Ev.step (fun k => rfl) (Ev.neg (by omega) (Ev.now _))
theorem eqInt64S_ev (l : List Int) (h : l.length < 2097152) : Ev (fun k => laws_eqInt64S.f k l l) true := by
 unfold laws_eqInt64S.f
 refine Ev.pos rfl ?_
 have key : ∀ i, i ≤ l.length → Ev (fun k => laws_eqInt64S.l0 k l l (i : Int)) true := by
  refine downTo l.length (Ev.step (fun k => rfl) (Ev.neg (by omega) (Ev.now _))) ?_
  intro i hi ih
  refine Ev.step (fun k => rfl) (Ev.pos (by omega) (Ev.pos (by omega) (Ev.pos (by omega) (Ev.pos rfl ?_))))
  rw [wsucc (by omega)]
  exact ih
 exact key 0 (Nat.zero_le _)
noncomputable def mk_Meta (k : Int) : S66 := ⟨k, k + 1, mt (k + 2), mt (k + 3), k + 4⟩
theorem markMetaS_ev (l : List S66) (hl : l.length < 2097152) (k0 : Int) (h0 : 0 ≤ k0) (h1 : k0 < 274877906944) : Ev (fun k => laws_markMetaS.f k l k0) (k0 + 5 * l.length, (List.range l.length).map fun j : Nat => mk_Meta (k0 + 5 * (j : Int))) := by
 unfold laws_markMetaS.f
 refine markLoop laws_markMetaS.l0 mk_Meta 5 l.length hl (by omega) ?_ ?_ l rfl k0 h0 h1
 ·intro ys i kk r hy hi k0 k1 h
  have rs : ∀ v : S66, ql (ys.set i v) (i : Int) = v := fun v => by
   unfold ql
   rw [Int.toNat_natCast, List.getD_eq_getElem?_getD, List.getElem?_set_self (by omega)]
   rfl
  have w1 : wrap64 (kk + 1) = kk + 1 := by rw [wid (by omega) (by omega)]
  have w2 : wrap64 (kk + 1 + 1) = kk + 2 := by rw [wid (by omega) (by omega)]; omega
  have w3 : wrap64 (kk + 2 + 1) = kk + 3 := by rw [wid (by omega) (by omega)]; omega
  have w4 : wrap64 (kk + 3 + 1) = kk + 4 := by rw [wid (by omega) (by omega)]; omega
  have w5 : wrap64 (kk + 4 + 1) = kk + 5 := by rw [wid (by omega) (by omega)]; omega
  refine Ev.step (fun k => laws_markMetaS.l0.eq_2 ..) ?_
  simp only [w1, w2, w3, w4, w5, Int.toNat_natCast]
  refine Ev.pos (by omega) ?_
  refine Ev.pos (by omega) ?_
  refine Ev.bindS rfl ?_
  refine Ev.bindS rfl ?_
  refine Ev.bind (markText_ev _ (by omega)) ?_
  refine Ev.bindS rfl ?_
  refine Ev.bind (markText_ev _ (by omega)) ?_
  refine Ev.bindS rfl ?_
  simp only [rs, List.set_set]
  rw [wsucc (by omega)]
  exact h
 ·intro ys kk hy
  exact Ev.step (fun k => laws_markMetaS.l0.eq_2 ..) (Ev.neg (by omega) (Ev.now _))
theorem heldMetaS_ev (n : Nat) (hl : n < 2097152) (k0 : Int) (h0 : 0 ≤ k0) (h1 : k0 < 274877906944) : Ev (fun k => laws_heldMetaS.f k ((List.range n).map fun j : Nat => mk_Meta (k0 + 5 * (j : Int))) k0) (k0 + 5 * n) := by
 unfold laws_heldMetaS.f
 refine heldLoop laws_heldMetaS.l0 mk_Meta 5 n z66 hl (by omega) ?_ ?_ k0 h0 h1
 ·intro ys i kk r hy hi k0 k1 hg h
  have rs : ql ys (i : Int) = mk_Meta kk := by
   unfold ql
   rw [Int.toNat_natCast]
   exact hg
  have w1 : wrap64 (kk + 1) = kk + 1 := by rw [wid (by omega) (by omega)]
  have w2 : wrap64 (kk + 1 + 1) = kk + 2 := by rw [wid (by omega) (by omega)]; omega
  have w3 : wrap64 (kk + 2 + 1) = kk + 3 := by rw [wid (by omega) (by omega)]; omega
  have w4 : wrap64 (kk + 3 + 1) = kk + 4 := by rw [wid (by omega) (by omega)]; omega
  have w5 : wrap64 (kk + 4 + 1) = kk + 5 := by rw [wid (by omega) (by omega)]; omega
  refine Ev.step (fun k => laws_heldMetaS.l0.eq_2 ..) ?_
  simp only [w1, w2, w3, w4, w5, rs, mk_Meta]
  refine Ev.pos (by omega) ?_
  refine Ev.pos (by omega) ?_
  refine Ev.pos trivial ?_
  refine Ev.pos trivial ?_
  refine Ev.bind (markText_ev _ (by omega)) (Ev.pos rfl ?_)
  refine Ev.bind (markText_ev _ (by omega)) (Ev.pos rfl ?_)
  refine Ev.pos trivial ?_
  rw [wsucc (by omega)]
  exact h
 ·intro ys kk hy
  exact Ev.step (fun k => laws_heldMetaS.l0.eq_2 ..) (Ev.neg (by omega) (Ev.now _))
end Go.Proofs.Ytcgejabkjljeeaa.P
end

section
namespace Go.Proofs.Ytcgejabkjljeeaa.P
open Go.RowKit Go.Proofs.YtcgejabkjljeeaaW.PrintWords Go.Proofs.YtcgejabkjljeeaaW.PrintLast Go.Proofs.YtcgejabkjljeeaaW.PrintMore
attribute [local go_sem] str_gtr str_leq str_geq qe1 qc1 max_two min_two qy qx qd1 qb1
set_option linter.unusedVariables false
set_option linter.unusedSimpArgs false
theorem markInt64S_ev (l : List Int) (hl : l.length < 2097152) (k0 : Int) (h0 : 0 ≤ k0) (h1 : k0 < 274877906944) : Ev (fun k => laws_markInt64S.f k l k0) (k0 + 1 * l.length, (List.range l.length).map fun j : Nat => (k0 + 1 * (j : Int))) := by
 unfold laws_markInt64S.f
 refine markLoop laws_markInt64S.l0 (fun x => x) 1 l.length hl (by omega) ?_ ?_ l rfl k0 h0 h1
 ·intro ys i kk r hy hi k0 k1 h
  refine Ev.step (fun k => laws_markInt64S.l0.eq_2 ..) ?_
  rw [wid (x := kk + 1) (by omega) (by omega), wsucc (by omega), Int.toNat_natCast]
  exact Ev.pos (by omega) (Ev.pos (by omega) h)
 ·intro ys kk hy
  exact Ev.step (fun k => laws_markInt64S.l0.eq_2 ..) (Ev.neg (by omega) (Ev.now _))
end Go.Proofs.Ytcgejabkjljeeaa.P
end

section
namespace Go.Proofs.Ytcgejabkjljeeaa.Pure
open Go.RowKit Go.Proofs.YtcgejabkjljeeaaW.PrintWords Go.Proofs.YtcgejabkjljeeaaW.PrintLast Go.Proofs.YtcgejabkjljeeaaW.PrintMore
open Go.Proofs.Ytcgejabkjljeeaa.P
set_option linter.unusedVariables false
set_option linter.unusedSimpArgs false
abbrev M_ := S66
theorem rdM (l : List M_) (i : Nat) : ql l (i : Int) = l.getD i z66 := by unfold ql; rw [Int.toNat_natCast]
def sAh (p m : M_) : Bool := if p.f1 = m.f1 then (if p.f1 = 0 then decide (p.f0 > m.f0) else tless p.f3 m.f2) else decide (p.f1 < m.f1)
theorem sAhead_ev (p m : M_) : spec_l12Ahead.f p.f0 p.f1 p.f2 p.f3 p.f4 m.f0 m.f1 m.f2 m.f3 m.f4 = some (sAh p m) := by
 unfold spec_l12Ahead.f sAh tless
 split
 ·split <;> rfl
 ·rfl
def sMe (m : M_) : Prop := (1 ≤ m.f0 ∧ m.f0 ≤ 1000000) ∧ (0 ≤ m.f1 ∧ m.f1 ≤ 3) ∧ isU m.f2 ∧ isU m.f3 ∧ tless m.f3 m.f2 = false ∧ 1 ≤ m.f4 ∧ m.f4 ≤ 400
instance (m : M_) : Decidable (sMe m) := by unfold sMe; infer_instance
theorem sMeta_ev (m : M_) : spec_l12Meta.f m.f0 m.f1 m.f2 m.f3 m.f4 = some (decide (sMe m)) := by
 unfold spec_l12Meta.f
 rw [in_ev, Option.bind_some]
 by_cases c1 : 1 ≤ m.f0 ∧ m.f0 ≤ 1000000
 ·rw [decide_eq_true c1, if_pos rfl, in_ev, Option.bind_some]
  by_cases c2 : 0 ≤ m.f1 ∧ m.f1 ≤ 3
  ·rw [decide_eq_true c2, if_pos rfl, l2User_ev, Option.bind_some]
   by_cases c3 : isU m.f2
   ·rw [decide_eq_true c3, if_pos rfl, l2User_ev, Option.bind_some]
    by_cases c4 : isU m.f3
    ·rw [decide_eq_true c4, if_pos rfl]
     by_cases c5 : Op.bytesLess m.f3.toList m.f2.toList = true
     ·rw [if_pos c5, decide_eq_false]
      intro h
      have := h.2.2.2.2.1
      unfold tless at this
      rw [c5] at this
      cases this
     ·rw [if_neg c5, in_ev, Option.bind_some]
      have c5' : tless m.f3 m.f2 = false := by unfold tless; simpa using c5
      exact congrArg some (decide_eq_decide.2 ⟨fun h => ⟨c1, c2, c3, c4, c5', h⟩, fun h => h.2.2.2.2.2⟩)
    ·rw [decide_eq_false c4, if_neg (by decide), decide_eq_false (fun h => c4 h.2.2.2.1)]
   ·rw [decide_eq_false c3, if_neg (by decide), decide_eq_false (fun h => c3 h.2.2.1)]
  ·rw [decide_eq_false c2, if_neg (by decide), decide_eq_false (fun h => c2 h.2.1)]
 ·rw [decide_eq_false c1, if_neg (by decide), decide_eq_false (fun h => c1 h.1)]
theorem cI_neg (a b : Int) : cI a b < 0 ↔ a < b := by unfold cI; split <;> (try split) <;> constructor <;> intro h <;> omega
theorem cI_ne (a b : Int) (h : a ≠ b) : cI a b ≠ 0 := by unfold cI; split <;> (try split) <;> omega
theorem cI_self (a : Int) : cI a a = 0 := by unfold cI; rw [if_neg (by omega), if_neg (by omega)]
theorem cS_neg (a b : ByteArray) : cS a b < 0 ↔ tless a b = true := by
 unfold cS
 by_cases h : tless a b = true
 ·simp [h]
 ·rw [if_neg h]
  constructor
  ·intro h2
   split at h2 <;> omega
  ·intro h2
   exact absurd h2 h
theorem ahead_eq (next : Int) (p m : M_) (hp : okM next p) : sAh p m = true ↔ aheadM p m := by
 unfold sAh aheadM mcmp
 by_cases c : p.f1 = m.f1
 ·rw [if_pos c]
  by_cases c2 : p.f1 = 0
  ·rw [if_pos c2, if_pos ⟨c, c2⟩, cI_neg, decide_eq_true_eq]
   constructor
   ·exact fun h => ⟨h, fun h2 => by have := h2.1; omega⟩
   ·exact fun h => h.1
  ·rw [if_neg c2, if_neg (fun h => c2 h.2)]
   have h0 : (([cI p.f1 m.f1, cS p.f2 m.f2] : List Int).find? fun x => x != 0).getD 0 = cS p.f2 m.f2 := by
    rw [c, cI_self]
    by_cases h : cS p.f2 m.f2 = 0
    ·simp [h]
    ·simp [h]
   rw [h0, cS_neg]
   have hpos : m.f1 > 0 := by have := hp.2.1; omega
   have hle := hp.2.2.2.2.1
   constructor
   ·intro h
    refine ⟨?_, fun h2 => by rw [h] at h2; cases h2.2.2⟩
    cases hq : tless p.f2 p.f3 with
    | true => exact bl_trans hq h
    | false =>
     have := bl_eq (a := p.f2.toList) (b := p.f3.toList) hq hle
     unfold tless at h ⊢
     rw [this]
     exact h
   ·intro h
    cases hq : tless p.f3 m.f2 with
    | true => rfl
    | false => exact absurd ⟨hpos, c, hq⟩ h.2
 ·rw [if_neg c, if_neg (fun h => c h.1), decide_eq_true_eq]
  have h0 : (([cI p.f1 m.f1, cS p.f2 m.f2] : List Int).find? fun x => x != 0).getD 0 = cI p.f1 m.f1 := by
   have := cI_ne p.f1 m.f1 c
   simp [this]
  rw [h0, cI_neg]
  exact ⟨fun h => ⟨h, fun h2 => c h2.2.1⟩, fun h => h.1⟩
theorem sMe_ok (next : Int) (hn : 1 ≤ next ∧ next ≤ 1000000) (m : M_) : (sMe m ∧ ¬ m.f0 ≥ next) ↔ okM next m := by
 unfold sMe okM
 constructor
 ·rintro ⟨⟨h1, h2⟩, h3⟩
  exact ⟨by omega, h2⟩
 ·rintro ⟨h1, h2⟩
  exact ⟨⟨by omega, h2⟩, by omega⟩
def okFrom (l : List M_) (next : Int) (i : Nat) : Prop := ∀ j, i ≤ j → j < l.length → okAt l next j
noncomputable instance (l : List M_) (next : Int) (i : Nat) : Decidable (okFrom l next i) := Classical.propDecidable _
theorem okFrom_step {l : List M_} {next : Int} {i : Nat} (hi : i < l.length) : okFrom l next i ↔ okAt l next i ∧ okFrom l next (i + 1) := by
 constructor
 ·exact fun h => ⟨h i (Nat.le_refl _) hi, fun j h1 h2 => h j (by omega) h2⟩
 ·rintro ⟨h1, h2⟩ j hj hl
  by_cases e : j = i
  ·rw [e]; exact h1
  ·exact h2 j (by omega) hl
theorem mem_nums (l : List M_) (i : Nat) (hi : i ≤ l.length) (n : Int) : n ∈ (l.take i).map (fun m => m.f0) ↔ ∃ j, j < i ∧ (l.getD j z66).f0 = n := by
 rw [List.mem_map]
 constructor
 ·rintro ⟨m, hm, rfl⟩
  obtain ⟨j, hj, rfl⟩ := List.getElem_of_mem hm
  rw [List.length_take] at hj
  refine ⟨j, by omega, ?_⟩
  rw [List.getElem_take, List.getD_eq_getElem?_getD, List.getElem?_eq_getElem (by omega)]
  rfl
 ·rintro ⟨j, hj, rfl⟩
  refine ⟨l.getD j z66, ?_, rfl⟩
  rw [List.getD_eq_getElem?_getD, List.getElem?_eq_getElem (show j < l.length by omega)]
  show l[j]'(by omega) ∈ l.take i
  rw [List.mem_take_iff_getElem]
  exact ⟨j, by omega, rfl⟩
theorem sVersionOk_ev (l : List M_) (next seq log : Int) (hl : l.length < 2097152) : Ev (fun k => spec_VersionOk.f k l next seq log) (decide (vOk l next seq log)) := by
 have bad : ¬ vOk l next seq log → Ev (fun k => spec_VersionOk.j0 k true l next seq log) (decide (vOk l next seq log)) := fun h => by
  rw [decide_eq_false h]
  refine Ev.step (fun k => spec_VersionOk.j0.eq_2 ..) ?_
  exact Ev.pos rfl (Ev.now _)
 unfold spec_VersionOk.f
 by_cases c0 : (l.length : Int) > 30
 ·exact Ev.pos c0 (bad fun h => by have := h.1; omega)
 refine Ev.neg c0 (Ev.bindS (in_ev _ _ _) ?_)
 by_cases c1 : 1 ≤ next ∧ next ≤ 1000000
 case neg => exact Ev.neg (by simpa using c1) (bad fun h => c1 h.2.1)
 refine Ev.pos (decide_eq_true c1) (Ev.bindS (in_ev _ _ _) ?_)
 by_cases c2 : 0 ≤ seq ∧ seq ≤ 1000000000000
 case neg => exact Ev.neg (by simpa using c2) (bad fun h => c2 h.2.2.1)
 refine Ev.pos (decide_eq_true c2) ?_
 rw [wid (x := next - 1) (by omega) (by omega)]
 refine Ev.bindS (in_ev _ _ _) ?_
 by_cases c3 : 0 ≤ log ∧ log ≤ next - 1
 case neg =>
  rw [decide_eq_false c3]
  exact bad fun h => c3 h.2.2.2.1
 rw [decide_eq_true c3]
 refine Ev.step (fun k => spec_VersionOk.j0.eq_2 ..) ?_
 refine Ev.neg (by decide) ?_
 have key : ∀ i, i ≤ l.length → (∀ j, j < i → okAt l next j) → Ev (fun k => spec_VersionOk.l0 k (i : Int) l next seq log) (decide (okFrom l next i)) := by
  refine downTo l.length ?_ ?_
  ·intro _
   refine Ev.step (fun k => spec_VersionOk.l0.eq_2 ..) ?_
   exact Ev.neg (by omega) ((Ev.now _).eqr (decide_eq_true (show okFrom l next l.length from fun j h1 h2 => by omega)).symm)
  ·intro i hi ih hb
   have fail : ¬ okAt l next i → Ev (fun k => spec_VersionOk.j2 k (i : Int) true l next seq log) (decide (okFrom l next i)) := fun h => by
    refine Ev.step (fun k => spec_VersionOk.j2.eq_2 ..) ?_
    exact Ev.pos rfl ((Ev.now _).eqr (decide_eq_false (p := okFrom l next i) fun h2 => h ((okFrom_step hi).1 h2).1).symm)
   have dup : okM next (l.getD i z66) → (0 < i → aheadM (l.getD (i - 1) z66) (l.getD i z66)) → Ev (fun k => spec_VersionOk.j2 k (i : Int) false l next seq log) (decide (okFrom l next i)) := fun h1 h2 => by
    refine Ev.step (fun k => spec_VersionOk.j2.eq_2 ..) ?_
    refine Ev.neg (by decide) ?_
    have k2 : ∀ j, j ≤ i → (∀ q, q < j → (l.getD q z66).f0 ≠ (l.getD i z66).f0) → Ev (fun k => spec_VersionOk.l1 k (i : Int) (j : Int) l next seq log) (decide (okFrom l next i)) := by
     refine downTo i ?_ ?_
     ·intro hq
      have hok : okAt l next i := ⟨h1, fun hm => by
       obtain ⟨j, hj, he⟩ := (mem_nums l i (by omega) _).1 hm
       exact hq j hj he, h2⟩
      refine Ev.step (fun k => spec_VersionOk.l1.eq_2 ..) ?_
      rw [wsucc (show i < 4611686018427387904 by omega)]
      refine Ev.neg (by omega) ((ih (fun j hj => ?_)).eqr ?_)
      ·by_cases e : j = i
       ·rw [e]; exact hok
       ·exact hb j (by omega)
      ·exact decide_eq_decide.2 ⟨fun h => (okFrom_step hi).2 ⟨hok, h⟩, fun h => ((okFrom_step hi).1 h).2⟩
     ·intro j hj ih2 hq
      refine Ev.step (fun k => spec_VersionOk.l1.eq_2 ..) ?_
      rw [rdM, rdM, wsucc (show j < 4611686018427387904 by omega)]
      refine Ev.pos (by omega) (Ev.pos (by omega) (Ev.pos (by omega) (Ev.pos (by omega) (Ev.pos (by omega) ?_))))
      by_cases e : (l.getD j z66).f0 = (l.getD i z66).f0
      ·refine Ev.pos e ((Ev.now _).eqr (decide_eq_false (p := okFrom l next i) fun h => ?_).symm)
       exact ((okFrom_step hi).1 h).1.2.1 ((mem_nums l i (by omega) _).2 ⟨j, hj, e⟩)
      ·refine Ev.neg e (ih2 fun q hqj => ?_)
       by_cases e2 : q = j
       ·rw [e2]; exact e
       ·exact hq q (by omega)
    exact k2 0 (Nat.zero_le _) (fun q hq => absurd hq (Nat.not_lt_zero _))
   refine Ev.step (fun k => spec_VersionOk.l0.eq_2 ..) ?_
   rw [rdM]
   refine Ev.pos (by omega) (Ev.pos (by omega) (Ev.bindS (sMeta_ev _) ?_))
   by_cases d1 : sMe (l.getD i z66)
   case neg => exact Ev.neg (by simpa using d1) (fail fun h => d1 ((sMe_ok next c1 _).2 h.1).1)
   refine Ev.pos (decide_eq_true d1) ?_
   by_cases d2 : (l.getD i z66).f0 ≥ next
   ·exact Ev.pos d2 (fail fun h => ((sMe_ok next c1 _).2 h.1).2 d2)
   refine Ev.neg d2 ?_
   have hok := (sMe_ok next c1 _).1 ⟨d1, d2⟩
   by_cases d3 : i = 0
   ·refine Ev.neg (by omega) (dup hok (fun h => absurd h (by omega)))
   ·have hr : ql l (wrap64 ((i : Int) - 1)) = l.getD (i - 1) z66 := by
     rw [wid (by omega) (by omega), show (i : Int) - 1 = ((i - 1 : Nat) : Int) from by omega, rdM]
    rw [hr, wid (x := (i : Int) - 1) (by omega) (by omega)]
    refine Ev.pos (by omega) (Ev.pos (by omega) (Ev.pos (by omega) (Ev.bindS (sAhead_ev _ _) ?_)))
    have hp := (hb (i - 1) (by omega)).1
    cases d4 : sAh (l.getD (i - 1) z66) (l.getD i z66) with
    | true => exact dup hok (fun _ => (ahead_eq next _ _ hp).1 d4)
    | false =>
     refine fail fun h => ?_
     have := (ahead_eq next _ _ hp).2 (h.2.2 (by omega))
     rw [d4] at this
     cases this
 refine (key 0 (Nat.zero_le _) (fun j hj => absurd hj (Nat.not_lt_zero _))).eqr (decide_eq_decide.2 ⟨fun h => ⟨by omega, c1, c2, c3, fun i hi => h i (Nat.zero_le _) hi⟩, fun h j _ hj => h.2.2.2.2 j hj⟩)
end Go.Proofs.Ytcgejabkjljeeaa.Pure
end

section
namespace Go.Proofs.Ytcgejabkjljeeaa.Pure
open Go.RowKit Go.Proofs.YtcgejabkjljeeaaW.PrintWords Go.Proofs.YtcgejabkjljeeaaW.PrintLast Go.Proofs.YtcgejabkjljeeaaW.PrintMore
open Go.Proofs.Ytcgejabkjljeeaa.P
set_option linter.unusedVariables false
set_option linter.unusedSimpArgs false
theorem toVersion_ev (l : List S114) (a b c : Int) (hl : l.length < 2097152) : Ev (fun k => laws_toVersion.f k l a b c) (l.map cv_Meta, a, b, c) := by
 unfold laws_toVersion.f
 exact Ev.bind (toMetaS_ev l hl) (Ev.now _)
theorem eqVersion_ev (l : List M_) (a b c : Int) (hl : l.length < 2097152) : Ev (fun k => laws_eqVersion.f k l a b c l a b c) true := by
 unfold laws_eqVersion.f
 exact Ev.bind (eqMetaS_ev l hl) (Ev.pos rfl (Ev.pos rfl (Ev.pos rfl (Ev.pos rfl (Ev.now _)))))
end Go.Proofs.Ytcgejabkjljeeaa.Pure
end

section
namespace Go.Proofs.Ytcgejabkjljeeaa.P
open Go.RowKit Go.Proofs.YtcgejabkjljeeaaW.PrintWords Go.Proofs.YtcgejabkjljeeaaW.PrintLast Go.Proofs.YtcgejabkjljeeaaW.PrintMore
attribute [local go_sem] str_gtr str_leq str_geq qe1 qc1 max_two min_two qy qx qd1 qb1
set_option linter.unusedVariables false
set_option linter.unusedSimpArgs false
def IsS123 (w0 W : World) (g : Nat) (f0 : List Int) (f1 : Int) : Prop := ∃ A0 c0, W.heap[g]? = some (.cells #[.slice A0 f0.length c0, .int .i64 f1] 123 (0, 0)) ∧ w0.heap.size ≤ g ∧ Kd.C (Kd.int .u8) w0 A0 f0.length f0
theorem IsS123.grown {w0 W : World} {g : Nat} {f0 : List Int} {f1 : Int} {W1 : World} {row : Option Nat} (h : IsS123 w0 W g f0 f1) (hw : W.grownBy W1 row) (hne : some g ≠ row) : IsS123 w0 W1 g f0 f1 := by
 obtain ⟨A0, c0, hb, hg, hr0⟩ := h
 exact ⟨A0, c0, blk_grown hb hw hne, hg, hr0⟩
theorem IsS123.kept {w0 W : World} {g : Nat} {f0 : List Int} {f1 : Int} {W1 : World} {S : Nat → Prop} (h : IsS123 w0 W g f0 f1) (hk : Kept W W1 S) (hne : ¬ S g) : IsS123 w0 W1 g f0 f1 := by
 obtain ⟨A0, c0, hb, hg, hr0⟩ := h
 exact ⟨A0, c0, blk_kept hb hk hne, hg, hr0⟩
theorem IsS123.below {w0 W : World} {g : Nat} {f0 : List Int} {f1 : Int} {W1 : World} (h : IsS123 w0 W g f0 f1) (hw : Below W.heap.size W W1) : IsS123 w0 W1 g f0 f1 := h.grown (grown_of_below hw none) (by simp)
theorem IsS123.alloc {w0 W : World} {g : Nat} {f0 : List Int} {f1 : Int} (h : IsS123 w0 W g f0 f1) (o : Obj) : IsS123 w0 (W.alloc o) g f0 f1 := h.below (qd (Below.refl _ _) o)
theorem IsS123.drewN {w0 W : World} {g : Nat} {f0 : List Int} {f1 : Int} (h : IsS123 w0 W g f0 f1) (m : Nat) : IsS123 w0 (W.drewN m) g f0 f1 := h
theorem IsS123.drew {w0 W : World} {g : Nat} {f0 : List Int} {f1 : Int} (h : IsS123 w0 W g f0 f1) : IsS123 w0 W.drew g f0 f1 := h
theorem IsS123.at_ {w0 W : World} {g : Nat} {f0 : List Int} {f1 : Int} {w' : World} {m : Nat} (hq : W.drewN m = w') (h : IsS123 w0 W g f0 f1) : IsS123 w0 w' g f0 f1 := by subst hq; exact IsS123.drewN h m
theorem IsS123.apart {w0 W : World} {g : Nat} {f0 : List Int} {f1 : Int} {α : Type} {d : Kd α} {e : Nat} {base : Nat} {ok : Nat → Prop} {v : Value} {xs : List α} (h : IsS123 w0 W g f0 f1) (ho : d.R e W base ok v xs) (ht : ∀ q, q ∈ e :: d.E → q ≠ 123) : d.R e W base (fun k => ok k ∧ k ≠ g) v xs := by
 obtain ⟨A0, c0, hb, hg, hr0⟩ := h
 exact Kd.R_types ho hb ht
theorem IsS123.own_ne {w0 W : World} {g : Nat} {f0 : List Int} {f1 : Int} {α : Type} {d : Kd α} {e : Nat} {base : Nat} {ok : Nat → Prop} {v : Value} {xs : List α} (h : IsS123 w0 W g f0 f1) (ho : d.R e W base ok v xs) (ht : e ≠ 123) : some g ≠ v.ownBlock := by
 obtain ⟨A0, c0, hb, hg, hr0⟩ := h
 exact Kd.R_ne ho hb ht
theorem IsS123.lt {w0 W : World} {g : Nat} {f0 : List Int} {f1 : Int} (h : IsS123 w0 W g f0 f1) : g < W.heap.size := by
 obtain ⟨A0, c0, hb, hg, hr0⟩ := h
 exact qw hb
theorem IsS123.far {w0 W : World} {g : Nat} {f0 : List Int} {f1 : Int} {p : Addr} (h : IsS123 w0 W g f0 f1) (hne : g ≠ p.block) (u : Value) : IsS123 w0 (W.setCell p u) g f0 f1 := by
 obtain ⟨A0, c0, hb, hg, hr0⟩ := h
 exact ⟨A0, c0, qu hb hne u, hg, hr0⟩
end Go.Proofs.Ytcgejabkjljeeaa.P
end

section
namespace Go.Proofs.Ytcgejabkjljeeaa.P
open Go.RowKit Go.Proofs.YtcgejabkjljeeaaW.PrintWords Go.Proofs.YtcgejabkjljeeaaW.PrintLast Go.Proofs.YtcgejabkjljeeaaW.PrintMore
attribute [local go_sem] str_gtr str_leq str_geq qe1 qc1 max_two min_two qy qx qd1 qb1
set_option linter.unusedVariables false
set_option linter.unusedSimpArgs false
def tmin (a b : ByteArray) : ByteArray := if (!Op.bytesLess b.toList a.toList) = true then a else b
def tmax (a b : ByteArray) : ByteArray := if (!Op.bytesLess a.toList b.toList) = true then a else b
theorem min2_str (x y : ByteArray) : Builtin.min2 (.string x) (.string y) = pure (.string (tmin x y)) := by
 have e := bytesLess_swap x.toList y.toList
 simp only [Builtin.min2, Op.stringOp, tmin, ← e, Bool.not_not]
 simp [asBool]
theorem max2_str (x y : ByteArray) : Builtin.max2 (.string x) (.string y) = pure (.string (tmax x y)) := by
 simp [Builtin.max2, Op.stringOp, asBool, tmax]
attribute [local go_sem] min2_str max2_str
end Go.Proofs.Ytcgejabkjljeeaa.P
end
