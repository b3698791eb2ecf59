/- Proved: the law FnPut of the given program returns true for every input of its Go types and leaves each argument as it was; no condition. (Part 13 of 15.) -/
import Derived.Test.YtbojfnijgmppbaaCFnPut4
import Derived.Ground.NamesProg
import Derived.Shelf.Lay
import Derived.Shelf.Slices.CompactS
import Derived.Lib.OwnBridge
import Derived.Lib.RowBridge
import Derived.Test.YtbojfnijgmppbaaCFnPut5
import Derived.Test.YtbojfnijgmppbaaCFnPut9
import Derived.Test.YtbojfnijgmppbaaCFnPut10
import Derived.Test.YtbojfnijgmppbaaCFnPut11
import Derived.Test.YtbojfnijgmppbaaCFnPut8
import Derived.Test.YtbojfnijgmppbaaCFnPut6
section
namespace Go.Proofs.Ytbojfnijgmppbaa.P
open Go.RowKit Go.Proofs.YtbojfnijgmppbaaW.PrintWords Go.Proofs.YtbojfnijgmppbaaW.PrintLast Go.Proofs.YtbojfnijgmppbaaW.PrintMore
attribute [local go_sem] str_gtr str_leq str_geq max2_int min2_int max_two min_two max_three min_three max_four min_four
set_option linter.unusedVariables false
set_option linter.unusedSimpArgs false
end Go.Proofs.Ytbojfnijgmppbaa.P
namespace Go.Proofs
open Go.Shelf
shelf_lay Lays.n194 Nm 194 at Try as Try.laysCompact
end Go.Proofs
namespace Go.Proofs.Ytbojfnijgmppbaa.P
open Go.RowKit Go.Proofs.YtbojfnijgmppbaaW.PrintWords Go.Proofs.YtbojfnijgmppbaaW.PrintLast Go.Proofs.YtbojfnijgmppbaaW.PrintMore
def toL (s : ByteArray) : List UInt8 := s.data.toList
def ofL (l : List UInt8) : ByteArray := ⟨l.toArray⟩
theorem ofL_toL (s : ByteArray) : ofL (toL s) = s := by unfold ofL toL; simp
end Go.Proofs.Ytbojfnijgmppbaa.P
end

section
namespace Go.Proofs.Ytbojfnijgmppbaa.Pure
open Go.RowKit Go.Proofs.YtbojfnijgmppbaaW.PrintWords Go.Proofs.YtbojfnijgmppbaaW.PrintLast Go.Proofs.YtbojfnijgmppbaaW.PrintMore
open Go.Proofs.Ytbojfnijgmppbaa.P
set_option linter.unusedVariables false
set_option linter.unusedSimpArgs false
theorem toL_inj {a b : ByteArray} (h : toL a = toL b) : a = b := by rw [← ofL_toL a, ← ofL_toL b, h]
theorem toList_toL (a : ByteArray) : a.toList = toL a := ByteArray.toList_eq a
end Go.Proofs.Ytbojfnijgmppbaa.Pure
end

section
namespace Go.Proofs.Ytbojfnijgmppbaa.Pure
open Go.RowKit Go.Proofs.YtbojfnijgmppbaaW.PrintWords Go.Proofs.YtbojfnijgmppbaaW.PrintLast Go.Proofs.YtbojfnijgmppbaaW.PrintMore
open Go.Proofs.Ytbojfnijgmppbaa.P
set_option linter.unusedVariables false
set_option linter.unusedSimpArgs false
abbrev E_ := S48
def gotV (l : List E_) (u : ByteArray) (s : Int) : Int × ByteArray := match l.find? (lookp u s) with
  | none => (0, ⟨#[]⟩)
  | some e => if e.f0.f2 = 0 then (2, ⟨#[]⟩) else (1, e.f1)
theorem find_idxf {α : Type} (p : α → Bool) : ∀ (l : List α) (i : Nat), (l.find? p = none ∧ idxf p l i = -1) ∨ ∃ (k : Nat) (h : k < l.length), l.find? p = some l[k] ∧ idxf p l i = ((i + k : Nat) : Int)
  | [], _ => .inl ⟨rfl, rfl⟩
  | x :: xs, i => by
    cases h : p x with
    | true => exact .inr ⟨0, by simp, by simp [h], by simp [idxf, h]⟩
    | false =>
      simp only [idxf, h, Bool.false_eq_true, if_false, List.find?_cons_of_neg, not_false_eq_true]
      rcases find_idxf p xs (i + 1) with ⟨h1, h2⟩ | ⟨k, hk, h1, h2⟩
      · exact .inl ⟨h1, h2⟩
      · exact .inr ⟨k + 1, by simpa using hk, by simpa using h1, by rw [h2]; congr 1; omega⟩
theorem get_ev (l : List E_) (u : ByteArray) (s : Int) : impl_get.f l u s = some (gotV l u s) := by
  unfold impl_get.f impl_looked.f gotV
  rw [Option.bind_some]
  rcases find_idxf (lookp u s) l 0 with ⟨h1, h2⟩ | ⟨k, hk, h1, h2⟩
  · rw [h1, h2, if_pos (by omega)]
  · rw [h1, h2, Nat.zero_add, if_neg (by omega), if_pos (by omega), if_pos (by omega), rdE l k hk]
    simp only []
    split <;> rfl
noncomputable def mgV (l : List E_) (u : ByteArray) (s : Int) : Int × ByteArray := if isRow l then gotV l u s else (0, ⟨#[]⟩)
theorem memGet_ev (l : List E_) (hl : l.length < 2097152) (u : ByteArray) (s : Int) : Ev (fun k => impl_MemGet.f k l u s) (mgV l u s) := by
  unfold impl_MemGet.f mgV
  refine Ev.bind (entriesOk_ev l hl) ?_
  by_cases c : isRow l
  · rw [if_pos c]
    exact Ev.pos (decide_eq_true c) (Ev.bindS (get_ev l u s) (Ev.now _))
  · rw [if_neg c]
    exact Ev.neg (by simp [c]) (Ev.now _)
end Go.Proofs.Ytbojfnijgmppbaa.Pure
end

section
namespace Go.Proofs.Ytbojfnijgmppbaa.Pure
open Go.RowKit Go.Proofs.YtbojfnijgmppbaaW.PrintWords Go.Proofs.YtbojfnijgmppbaaW.PrintLast Go.Proofs.YtbojfnijgmppbaaW.PrintMore
open Go.Proofs.Ytbojfnijgmppbaa.P
set_option linter.unusedVariables false
set_option linter.unusedSimpArgs false
theorem bsc_le (l : List S48) (y : S48) : bsc l y ≤ l.length := List.findIdx_le_length
theorem bsc_ahead {l : List S48} {y : S48} {i : Nat} (h : i < bsc l y) : ecmp (l.getD i z48) y < 0 := by
  have hl : i < l.length := Nat.lt_of_lt_of_le h (bsc_le l y)
  have := List.not_of_lt_findIdx h
  rw [List.getD_eq_getElem?_getD, List.getElem?_eq_getElem hl]
  simp at this ⊢
  exact this
theorem bsc_at {l : List S48} {y : S48} (h : bsc l y < l.length) : 0 ≤ ecmp (l.getD (bsc l y) z48) y := by
  have := List.findIdx_getElem (p := fun x => decide (0 ≤ ecmp x y)) (xs := l) (w := h)
  rw [List.getD_eq_getElem?_getD, List.getElem?_eq_getElem h]
  unfold bsc
  simpa using this
theorem bsc_behind {l : List S48} {y : S48} (hr : rowFrom l 0) {i : Nat} (h : bsc l y < i) (hi : i < l.length) : ecmp (l.getD i z48) y ≠ 0 := by
  intro h0
  obtain ⟨e1, e2, e3⟩ := (kcmp_zero _ _ _ _ _ _).1 h0
  have h1 := up_lt (upB_of hr) (i - bsc l y - 1) (bsc l y) (by omega)
  rw [show bsc l y + (i - bsc l y - 1) + 1 = i from by omega] at h1
  have h2 := bsc_at (l := l) (y := y) (by omega)
  unfold ecmp at h1 h2
  rw [e1, e2, e3] at h1
  omega
def putL (l : List S48) (y : S48) (i : Nat) : List S48 :=
  if i ≤ bsc l y then l.take i else if ecmp (l.getD (bsc l y) z48) y = 0 then l.take (bsc l y) ++ y :: (l.drop (bsc l y + 1)).take (i - (bsc l y + 1)) else l.take (bsc l y) ++ y :: (l.drop (bsc l y)).take (i - bsc l y)
def putV (l : List S48) (y : S48) : List S48 := if bsc l y < l.length then putL l y l.length else l ++ [y]
theorem take_one {α : Type} (l : List α) (z : α) (a n : Nat) (h : a + n < l.length) : (l.drop a).take (n + 1) = (l.drop a).take n ++ [l.getD (a + n) z] := by
  rw [List.take_add_one, List.getElem?_drop, List.getElem?_eq_getElem h, List.getD_eq_getElem?_getD, List.getElem?_eq_getElem h]
  rfl
theorem putL_len (l : List S48) (y : S48) (i : Nat) : (putL l y i).length ≤ l.length + 1 := by
  unfold putL
  have := bsc_le l y
  split
  · rw [List.length_take]; omega
  · split <;> (rw [List.length_append, List.length_cons, List.length_take, List.length_take, List.length_drop]; omega)
theorem putL_ahead {l : List S48} {y : S48} {i : Nat} (h : i < bsc l y) : putL l y (i + 1) = putL l y i ++ [l.getD i z48] := by
  have hl : i < l.length := Nat.lt_of_lt_of_le h (bsc_le l y)
  unfold putL
  rw [if_pos (show i + 1 ≤ bsc l y by omega), if_pos (show i ≤ bsc l y by omega)]
  have := take_one l z48 0 i (by omega)
  simpa using this
theorem putL_at {l : List S48} {y : S48} (h : bsc l y < l.length) : putL l y (bsc l y + 1) = if ecmp (l.getD (bsc l y) z48) y = 0 then putL l y (bsc l y) ++ [y] else putL l y (bsc l y) ++ [y] ++ [l.getD (bsc l y) z48] := by
  unfold putL
  rw [if_neg (show ¬ bsc l y + 1 ≤ bsc l y by omega), if_pos (Nat.le_refl _)]
  split
  · simp
  · have := take_one l z48 (bsc l y) 0 (by omega)
    rw [show bsc l y + 1 - bsc l y = 0 + 1 from by omega, this]
    simp
theorem putL_behind {l : List S48} {y : S48} {i : Nat} (h : bsc l y < i) (hi : i < l.length) : putL l y (i + 1) = putL l y i ++ [l.getD i z48] := by
  unfold putL
  rw [if_neg (show ¬ i + 1 ≤ bsc l y by omega), if_neg (show ¬ i ≤ bsc l y by omega)]
  split
  · have := take_one l z48 (bsc l y + 1) (i - (bsc l y + 1)) (by omega)
    rw [show i + 1 - (bsc l y + 1) = i - (bsc l y + 1) + 1 from by omega, this, show bsc l y + 1 + (i - (bsc l y + 1)) = i from by omega]
    simp
  · have := take_one l z48 (bsc l y) (i - bsc l y) (by omega)
    rw [show i + 1 - bsc l y = i - bsc l y + 1 from by omega, this, show bsc l y + (i - bsc l y) = i from by omega]
    simp
theorem l8Put_ev {l : List S48} (hr : isRow l) {y : S48} (hy : isEx y) : Ev (fun k => spec_l8Put.f k l y.f0.f0 y.f0.f1 y.f0.f2 y.f1) (putV l y) := by
  have hl := hr.1
  have hble := bsc_le l y
  have key : ∀ i, i ≤ l.length → Ev (fun k => spec_l8Put.l0 k l (putL l y i) (decide (bsc l y < i)) (i : Int) y.f0.f0 y.f0.f1 y.f0.f2 y.f1) (putV l y) := by
    refine downTo l.length ?_ ?_
    · refine Ev.step (fun k => spec_l8Put.l0.eq_2 ..) ?_
      refine Ev.neg (by omega) ?_
      by_cases c : bsc l y < l.length
      · rw [decide_eq_true c]
        refine Ev.pos rfl (Ev.eqr (Ev.now _) ?_)
        unfold putV
        rw [if_pos c]
      · rw [decide_eq_false c]
        have hp := putL_len l y l.length
        refine Ev.neg (by decide) (Ev.pos (by omega) (Ev.eqr (Ev.now _) ?_))
        unfold putV putL
        rw [if_neg c, if_pos (by omega), List.take_length]
    · intro i hi ih
      have hp := putL_len l y i
      have hg : rd_T48 l (i : Int) = l.getD i z48 := by unfold rd_T48; rw [Int.toNat_natCast]
      have hgl : l.getD i z48 = l[i] := by rw [List.getD_eq_getElem?_getD, List.getElem?_eq_getElem hi]; rfl
      have hk : isK (l.getD i z48).f0.f0 (l.getD i z48).f0.f1 (l.getD i z48).f0.f2 := by rw [hgl]; exact (hr.2 i (Nat.zero_le _) hi).1.1
      have hc := sKeyCmp_ev (l.getD i z48).f0.f0 (l.getD i z48).f0.f1 (l.getD i z48).f0.f2 y.f0.f0 y.f0.f1 y.f0.f2
      rw [if_pos ⟨hk, hy.1⟩] at hc
      have hce : ecmp (l.getD i z48) y = kcmp (l.getD i z48).f0.f0 (l.getD i z48).f0.f1 (l.getD i z48).f0.f2 y.f0.f0 y.f0.f1 y.f0.f2 := rfl
      rw [← hce] at hc
      refine Ev.step (fun k => spec_l8Put.l0.eq_2 ..) ?_
      rw [hg]
      refine Ev.pos (by omega) (Ev.pos (by omega) (Ev.bind hc ?_))
      rcases Nat.lt_trichotomy i (bsc l y) with c | c | c
      · have h1 := bsc_ahead c
        rw [decide_eq_false (by omega : ¬ bsc l y < i), decide_eq_false (by omega : ¬ ecmp (l.getD i z48) y ≥ 0)]
        refine Ev.neg (by decide) ?_
        refine Ev.step (fun k => spec_l8Put.j1.eq_2 ..) ?_
        rw [hg, wsucc (show i < 4611686018427387904 by omega)]
        rw [putL_ahead c, decide_eq_false (by omega : ¬ bsc l y < i + 1)] at ih
        exact Ev.neg (by decide) (Ev.neg (by omega) (Ev.pos (by omega) (Ev.pos (by omega) (Ev.pos (by omega) ih))))
      · have h1 := bsc_at (l := l) (y := y) (by omega)
        rw [← c] at h1
        rw [decide_eq_false (by omega : ¬ bsc l y < i), decide_eq_true (by omega : ecmp (l.getD i z48) y ≥ 0)]
        refine Ev.neg (by decide) ?_
        refine Ev.step (fun k => spec_l8Put.j1.eq_2 ..) ?_
        rw [hg, wsucc (show i < 4611686018427387904 by omega)]
        have hat := putL_at (l := l) (y := y) (by omega)
        rw [← c] at hat
        rw [hat, decide_eq_true (by omega : bsc l y < i + 1)] at ih
        refine Ev.pos rfl (Ev.pos (by omega) (Ev.bindS rfl ?_))
        by_cases c0 : ecmp (l.getD i z48) y = 0
        · rw [if_pos c0] at ih
          exact Ev.pos c0 ih
        · rw [if_neg c0] at ih
          exact Ev.neg c0 (Ev.pos (by omega) (Ev.pos (by omega) (Ev.pos (by rw [List.length_append, List.length_singleton]; omega) ih)))
      · have h1 := bsc_behind (y := y) hr.2 c hi
        rw [decide_eq_true c]
        refine Ev.pos rfl ?_
        refine Ev.step (fun k => spec_l8Put.j1.eq_2 ..) ?_
        rw [hg, wsucc (show i < 4611686018427387904 by omega)]
        rw [putL_behind c hi, decide_eq_true (by omega : bsc l y < i + 1)] at ih
        exact Ev.neg (by decide) (Ev.neg h1 (Ev.pos (by omega) (Ev.pos (by omega) (Ev.pos (by omega) ih))))
  have h0 := key 0 (Nat.zero_le _)
  rw [decide_eq_false (by omega : ¬ bsc l y < 0), show putL l y 0 = [] from by unfold putL; rw [if_pos (Nat.zero_le _)]; rfl] at h0
  exact h0
noncomputable def mpV (l : List S48) (y : S48) : List S48 × Bool :=
  if isRow l ∧ isEx y ∧ l.length < 400 ∧ ¬ (bsc l y < l.length ∧ ecmp (l.getD (bsc l y) z48) y = 0) then (l.take (bsc l y) ++ y :: l.drop (bsc l y), true) else ([], false)
theorem putV_len (l : List S48) (y : S48) (c : ¬ (bsc l y < l.length ∧ ecmp (l.getD (bsc l y) z48) y = 0)) : putV l y = l.take (bsc l y) ++ y :: l.drop (bsc l y) := by
  have := bsc_le l y
  unfold putV putL
  split
  · rename_i h
    rw [if_neg (show ¬ l.length ≤ bsc l y by omega), if_neg (fun h0 => c ⟨h, h0⟩), List.take_of_length_le (l := l.drop _) (by rw [List.length_drop]; exact Nat.le_refl _)]
  · rename_i h
    rw [List.take_of_length_le (by omega), List.drop_eq_nil_of_le (by omega)]
theorem putV_same (l : List S48) (y : S48) (c : bsc l y < l.length ∧ ecmp (l.getD (bsc l y) z48) y = 0) : (putV l y).length = l.length := by
  unfold putV putL
  rw [if_pos c.1, if_neg (show ¬ l.length ≤ bsc l y by omega), if_pos c.2, List.length_append, List.length_cons, List.length_take, List.length_take, List.length_drop]
  omega
theorem sMemPut_ev (l : List S48) (hl : l.length < 2097152) (y : S48) : Ev (fun k => spec_MemPut.f k l y.f0.f0 y.f0.f1 y.f0.f2 y.f1) (mpV l y) := by
  unfold spec_MemPut.f
  refine Ev.bind (sEntriesOk_ev l hl) ?_
  by_cases hr : isRow l
  · rw [decide_eq_true hr]
    refine Ev.pos rfl (Ev.bindS (sEntryOk_ev _ _ _ _) ?_)
    by_cases hy : isEx y
    · rw [decide_eq_true (show isE _ _ _ _ from hy)]
      refine Ev.pos rfl ?_
      refine Ev.step (fun k => spec_MemPut.j0.eq_2 ..) ?_
      by_cases h4 : l.length < 400
      · rw [decide_eq_false (by omega)]
        refine Ev.neg (by decide) (Ev.bind (l8Put_ev hr hy) ?_)
        by_cases c : bsc l y < l.length ∧ ecmp (l.getD (bsc l y) z48) y = 0
        · refine Ev.pos (by rw [putV_same l y c]) (Ev.eqr (Ev.now _) ?_)
          unfold mpV
          rw [if_neg (fun h => h.2.2.2 c)]
        · have := bsc_le l y
          refine Ev.neg (by rw [putV_len l y c, List.length_append, List.length_cons, List.length_take, List.length_drop]; omega) (Ev.eqr (Ev.now _) ?_)
          unfold mpV
          rw [if_pos ⟨hr, hy, h4, c⟩, putV_len l y c]
      · rw [decide_eq_true (by omega)]
        refine Ev.pos rfl (Ev.eqr (Ev.now _) ?_)
        unfold mpV
        rw [if_neg (fun h => h4 h.2.2.1)]
    · rw [decide_eq_false (show ¬ isE _ _ _ _ from hy)]
      refine Ev.neg (by decide) ?_
      refine Ev.step (fun k => spec_MemPut.j0.eq_2 ..) ?_
      refine Ev.pos rfl (Ev.eqr (Ev.now _) ?_)
      unfold mpV
      rw [if_neg (fun h => hy h.2.1)]
  · rw [decide_eq_false hr]
    refine Ev.neg (by decide) ?_
    refine Ev.step (fun k => spec_MemPut.j0.eq_2 ..) ?_
    refine Ev.pos rfl (Ev.eqr (Ev.now _) ?_)
    unfold mpV
    rw [if_neg (fun h => hr h.1)]
theorem memPut_ev (l : List S48) (hl : l.length < 2097152) (y : S48) : Ev (fun k => impl_MemPut.f k l y.f0.f0 y.f0.f1 y.f0.f2 y.f1) (mpV l y) := by
  unfold impl_MemPut.f
  refine Ev.bind (entriesOk_ev l hl) ?_
  by_cases hr : isRow l
  · have h400 := hr.1
    rw [decide_eq_true hr]
    refine Ev.pos rfl (Ev.bindS (entryOk_ev _ _ _ _) ?_)
    by_cases hy : isEx y
    · rw [decide_eq_true (show isE _ _ _ _ from hy)]
      refine Ev.pos rfl ?_
      by_cases h4 : l.length < 400
      · have hb := bsc_le l y
        refine Ev.neg (by omega) (Ev.bindS (bsearch_ev hr y) ?_)
        by_cases c : bsc l y < l.length ∧ ecmp (l.getD (bsc l y) z48) y = 0
        · refine Ev.pos (by simp only [Bool.and_eq_true, decide_eq_true_eq]; exact c) (Ev.eqr (Ev.now _) ?_)
          unfold mpV
          rw [if_neg (fun h => h.2.2.2 c)]
        · refine Ev.neg (by simpa using fun h1 h2 => c ⟨h1, h2⟩) (Ev.pos ⟨by simp, by simp; omega⟩ (Ev.eqr (Ev.now _) ?_))
          unfold mpV
          rw [if_pos ⟨hr, hy, h4, c⟩]
          simp only [Int.toNat_natCast]
      · refine Ev.pos (by omega) (Ev.eqr (Ev.now _) ?_)
        unfold mpV
        rw [if_neg (fun h => h4 h.2.2.1)]
    · rw [decide_eq_false (show ¬ isE _ _ _ _ from hy)]
      refine Ev.neg (by decide) (Ev.eqr (Ev.now _) ?_)
      unfold mpV
      rw [if_neg (fun h => hy h.2.1)]
  · rw [decide_eq_false hr]
    refine Ev.neg (by decide) (Ev.eqr (Ev.now _) ?_)
    unfold mpV
    rw [if_neg (fun h => hr h.1)]
theorem mpV_len (l : List S48) (y : S48) : (mpV l y).1.length ≤ 401 := by
  unfold mpV
  split
  · rename_i h
    have := h.1.1
    have := bsc_le l y
    simp only [List.length_append, List.length_cons, List.length_take, List.length_drop]
    omega
  · simp
end Go.Proofs.Ytbojfnijgmppbaa.Pure
end

section
namespace Go.Proofs.Ytbojfnijgmppbaa.Pure
open Go.RowKit Go.Proofs.YtbojfnijgmppbaaW.PrintWords Go.Proofs.YtbojfnijgmppbaaW.PrintLast Go.Proofs.YtbojfnijgmppbaaW.PrintMore
open Go.Proofs.Ytbojfnijgmppbaa.P
set_option linter.unusedVariables false
set_option linter.unusedSimpArgs false
theorem okp0 (l : List Int) : okp l 0 := ⟨by omega, by omega⟩
theorem byteOk {l : List Int} (h1 : l.length ≤ 1048576) (h2 : ∀ x ∈ l, (Lit.int .u8 x).wf = true) : okc l := by
  refine ⟨h1, fun x hx => ?_⟩
  have := h2 x hx
  simpa [Lit.wf, IntKind.min, IntKind.max, IntKind.signed, IntKind.bits] using this
theorem drawPut_ev {l : List Int} (h : okc l) : ∃ r, Ev (fun k => spec_DrawMemPut.f k l) r ∧ r.1.length ≤ 10 := by
  obtain ⟨r1, h1, hl1, hp1⟩ := dentries_ev h (okp0 l) 9 (by omega) (by omega)
  obtain ⟨r2, h2, hp2⟩ := dentry_ev h hp1
  refine ⟨(r1.1, r2.1, r2.2.1, r2.2.2.1, r2.2.2.2.1), ?_, by simp only []; omega⟩
  unfold spec_DrawMemPut.f
  exact Ev.bindS rfl (Ev.bind h1 (Ev.bind h2 (Ev.now _)))
theorem list_inj {a b : ByteArray} (h : a.toList = b.toList) : a = b := toL_inj (by rw [← toList_toL, ← toList_toL, h])
theorem lt_of_pos {x y : E_} (h : 0 < ecmp x y) : ecmp y x < 0 := by
  apply Classical.byContradiction
  intro k
  have h1 : ¬ ecmp x y < 0 := by omega
  have h0 : ¬ ecmp x y = 0 := by omega
  unfold ecmp at *
  rw [kcmp_lt] at h1 k
  rw [kcmp_zero] at h0
  have e : x.f0.f0 = y.f0.f0 := list_inj (bl_eq (by simpa [tless] using fun h => h1 (.inl h)) (by simpa [tless] using fun h => k (.inl h)))
  have n1 : ¬ (y.f0.f1 < x.f0.f1 ∨ x.f0.f1 = y.f0.f1 ∧ y.f0.f2 < x.f0.f2) := fun h => h1 (.inr ⟨e, h⟩)
  have n2 : ¬ (x.f0.f1 < y.f0.f1 ∨ y.f0.f1 = x.f0.f1 ∧ x.f0.f2 < y.f0.f2) := fun h => k (.inr ⟨e.symm, h⟩)
  exact h0 ⟨e, by omega, by omega⟩
theorem getD_at {l : List E_} {j : Nat} (h : j < l.length) : l.getD j z48 = l[j] := by rw [List.getD_eq_getElem?_getD, List.getElem?_eq_getElem h]; rfl
theorem rdD (l : List E_) (j : Nat) : rd_T48 l (j : Int) = l.getD j z48 := by unfold rd_T48; rw [Int.toNat_natCast]
theorem rowGet {l : List E_} (hr : rowFrom l 0) {j : Nat} (h : j < l.length) : isEx (l.getD j z48) ∧ (0 < j → ecmp (l.getD (j - 1) z48) (l.getD j z48) < 0) := by
  have := hr j (Nat.zero_le _) h
  rw [getD_at h, getD_at (show j - 1 < l.length by omega)]
  exact this
theorem mkRow {l : List E_} (h : ∀ j, j < l.length → isEx (l.getD j z48) ∧ (0 < j → ecmp (l.getD (j - 1) z48) (l.getD j z48) < 0)) : rowFrom l 0 := by
  intro j _ hj
  have := h j hj
  rw [getD_at hj, getD_at (show j - 1 < l.length by omega)] at this
  exact this
def paste (l : List E_) (y : E_) : List E_ := l.take (bsc l y) ++ y :: l.drop (bsc l y)
theorem paste_len (l : List E_) (y : E_) : (paste l y).length = l.length + 1 := by
  have := bsc_le l y
  unfold paste
  rw [List.length_append, List.length_cons, List.length_take, List.length_drop]
  omega
theorem paste_get (l : List E_) (y : E_) (i : Nat) : (paste l y).getD i z48 = if i < bsc l y then l.getD i z48 else if i = bsc l y then y else l.getD (i - 1) z48 := by
  have hb := bsc_le l y
  unfold paste
  rw [List.getD_eq_getElem?_getD, List.getElem?_append, List.length_take, Nat.min_eq_left hb]
  by_cases c : i < bsc l y
  · rw [if_pos c, if_pos c, List.getElem?_take, if_pos c, ← List.getD_eq_getElem?_getD]
  · rw [if_neg c, if_neg c]
    by_cases c2 : i = bsc l y
    · rw [if_pos c2, c2, Nat.sub_self]
      rfl
    · rw [if_neg c2, show i - bsc l y = (i - 1 - bsc l y) + 1 from by omega, List.getElem?_cons_succ, List.getElem?_drop, show bsc l y + (i - 1 - bsc l y) = i - 1 from by omega, ← List.getD_eq_getElem?_getD]
theorem paste_row {l : List E_} {y : E_} (hr : isRow l) (hy : isEx y) (h4 : l.length < 400) (c : ¬ (bsc l y < l.length ∧ ecmp (l.getD (bsc l y) z48) y = 0)) : isRow (paste l y) := by
  have hb := bsc_le l y
  refine ⟨by rw [paste_len]; omega, mkRow fun j hj => ?_⟩
  rw [paste_len] at hj
  rw [paste_get, paste_get]
  rcases Nat.lt_trichotomy j (bsc l y) with h | h | h
  · rw [if_pos h, if_pos (by omega)]
    exact rowGet hr.2 (by omega)
  · rw [if_neg (by omega), if_pos h]
    refine ⟨hy, fun hp => ?_⟩
    rw [if_pos (by omega)]
    exact bsc_ahead (by omega)
  · rw [if_neg (by omega), if_neg (by omega)]
    have h1 := rowGet hr.2 (j := j - 1) (by omega)
    refine ⟨h1.1, fun _ => ?_⟩
    by_cases e : j - 1 = bsc l y
    · rw [if_neg (by omega), if_pos e]
      have h2 := bsc_at (l := l) (y := y) (by omega)
      rw [e]
      exact lt_of_pos (by have : ¬ ecmp (l.getD (bsc l y) z48) y = 0 := fun h0 => c ⟨by omega, h0⟩; omega)
    · rw [if_neg (by omega), if_neg e]
      exact h1.2 (by omega)
def sumB (l : List E_) : Nat := (l.map fun e => e.f0.f0.size + e.f1.size + 24).sum
theorem memBytes_ev {l : List E_} (hr : isRow l) : Ev (fun k => impl_MemBytes.f k l) (sumB l : Int) := by
  have hl := hr.1
  have key : ∀ i, i ≤ l.length → ∀ acc : Nat, acc ≤ i * 1000 → Ev (fun k => impl_MemBytes.l0 k (acc : Int) l (l.length : Int) (i : Int)) ((acc + sumB (l.drop i) : Nat) : Int) := by
    refine downTo l.length ?_ ?_
    · intro acc _
      refine Ev.step (fun k => impl_MemBytes.l0.eq_2 ..) ?_
      refine Ev.neg (by omega) ((Ev.now _).eqr ?_)
      rw [List.drop_length]
      rfl
    · intro i hi ih acc ha
      have he := (rowGet hr.2 hi).1
      unfold isEx isE isK isU at he
      have hs : sumB (l.drop i) = (l.getD i z48).f0.f0.size + (l.getD i z48).f1.size + 24 + sumB (l.drop (i + 1)) := by
        rw [getD_at hi, List.drop_eq_getElem_cons hi]
        rfl
      refine Ev.step (fun k => impl_MemBytes.l0.eq_2 ..) ?_
      rw [rdD, wsucc (show i < 4611686018427387904 by omega)]
      rw [wid (x := ((l.getD i z48).f0.f0.size : Int) + ((l.getD i z48).f1.size : Int)) (by omega) (by omega), wid (x := ((l.getD i z48).f0.f0.size : Int) + ((l.getD i z48).f1.size : Int) + 24) (by omega) (by omega), wid (by omega) (by omega)]
      have h1 := ih (acc + ((l.getD i z48).f0.f0.size + (l.getD i z48).f1.size + 24)) (by omega)
      refine Ev.pos (by omega) (Ev.pos (by omega) (Ev.pos (by omega) ?_))
      rw [hs, show acc + ((l.getD i z48).f0.f0.size + (l.getD i z48).f1.size + 24 + sumB (l.drop (i + 1))) = acc + ((l.getD i z48).f0.f0.size + (l.getD i z48).f1.size + 24) + sumB (l.drop (i + 1)) from by omega]
      rw [show (acc : Int) + (((l.getD i z48).f0.f0.size : Int) + ((l.getD i z48).f1.size : Int) + 24) = ((acc + ((l.getD i z48).f0.f0.size + (l.getD i z48).f1.size + 24) : Nat) : Int) from by omega]
      exact h1
  unfold impl_MemBytes.f
  refine Ev.bind (entriesOk_ev l (by omega)) (Ev.pos (decide_eq_true hr) ?_)
  have := key 0 (Nat.zero_le _) 0 (Nat.zero_le _)
  rw [List.drop_zero, Nat.zero_add] at this
  exact this
theorem sumB_paste (l : List E_) (y : E_) : sumB l < sumB (paste l y) := by
  have h : sumB l = sumB (l.take (bsc l y)) + sumB (l.drop (bsc l y)) := by
    unfold sumB
    rw [← List.sum_append, ← List.map_append, List.take_append_drop]
  have h2 : sumB (paste l y) = sumB (l.take (bsc l y)) + (y.f0.f0.size + y.f1.size + 24 + sumB (l.drop (bsc l y))) := by
    unfold sumB paste
    rw [List.map_append, List.sum_append]
    rfl
  omega
theorem paste_got {l : List E_} {y : E_} (hy : isEx y) (hn : ∀ i, i < l.length → ¬ ((l.getD i z48).f0.f0.toList = y.f0.f0.toList ∧ (l.getD i z48).f0.f1 = y.f0.f1)) : gotV (paste l y) y.f0.f0 y.f0.f1 = if y.f0.f2 = 0 then (2, ⟨#[]⟩) else (1, y.f1) := by
  have hb := bsc_le l y
  have h1 : (l.take (bsc l y)).find? (lookp y.f0.f0 y.f0.f1) = none := by
    rw [List.find?_eq_none]
    intro x hx hp
    obtain ⟨i, hi, rfl⟩ := List.mem_iff_getElem.1 hx
    rw [List.length_take] at hi
    rw [List.getElem_take] at hp
    have ha := bsc_ahead (l := l) (y := y) (i := i) (by omega)
    have hne := hn i (by omega)
    rw [getD_at (show i < l.length by omega)] at ha hne
    unfold lookp at hp
    simp only [Bool.and_eq_true, beq_iff_eq, decide_eq_true_eq] at hp
    unfold ecmp at ha
    rw [kcmp_lt] at ha
    have hu := list_inj hp.1
    rcases ha with ha | ⟨_, ha⟩
    · rw [hu] at ha
      unfold tless at ha
      rw [bl_irrefl] at ha
      cases ha
    · have : ¬ l[i].f0.f1 = y.f0.f1 := fun e => hne ⟨hp.1, e⟩
      omega
  have h2 : (paste l y).find? (lookp y.f0.f0 y.f0.f1) = some y := by
    unfold paste
    rw [List.find?_append, h1, List.find?_cons_of_pos (by simp [lookp])]
    rfl
  unfold gotV
  rw [h2]
theorem FnPut : laws_FnPut.Pure := by
  intro l _ _ hb
  refine Ev.rounds (g := fun k => laws_FnPut.f k l) ?_
  unfold laws_FnPut.f
  refine Ev.bindS (a := decide ((l.length : Int) > 1048576)) rfl ?_
  by_cases big : (l.length : Int) > 1048576
  · exact Ev.pos (decide_eq_true big) (Ev.now _)
  have hc := byteOk (l := l) (by omega) hb
  refine Ev.neg (by simpa using big) ?_
  obtain ⟨d, hd, hd1⟩ := drawPut_ev hc
  obtain ⟨l, u, q, t, v⟩ := d
  simp only [] at hd1
  obtain ⟨y, hy⟩ : ∃ y : E_, y = ⟨⟨u, q, t⟩, v⟩ := ⟨_, rfl⟩
  have hm := memPut_ev l (by omega) y
  have hm2 := sMemPut_ev l (by omega) y
  have hml := mpV_len l y
  have hm' : Ev (fun k => impl_MemPut.f k l u q t v) (mpV l y) := by rw [hy] at hm ⊢; exact hm
  have hm2' : Ev (fun k => spec_MemPut.f k l u q t v) (mpV l y) := by rw [hy] at hm2 ⊢; exact hm2
  refine Ev.bind hd (Ev.bind hm' (Ev.bind hm2' (Ev.neg (by simp) (Ev.bind (sameEntries_self (mpV l y).1 (by omega)) (Ev.pos rfl ?_)))))
  refine Ev.step (fun k => laws_FnPut.j0.eq_2 ..) ?_
  by_cases ok : isRow l ∧ isEx y ∧ l.length < 400 ∧ ¬ (bsc l y < l.length ∧ ecmp (l.getD (bsc l y) z48) y = 0)
  · obtain ⟨hr, hey, h4, hne⟩ := ok
    have hv : mpV l y = (paste l y, true) := if_pos ⟨hr, hey, h4, hne⟩
    rw [hv]
    refine Ev.neg (by simp) ?_
    have hrow := paste_row hr hey h4 hne
    have hb := bsc_le l y
    have hpl := paste_len l y
    have hg := memGet_ev (paste l y) (by omega) y.f0.f0 y.f0.f1
    have hgv : mgV (paste l y) y.f0.f0 y.f0.f1 = gotV (paste l y) y.f0.f0 y.f0.f1 := if_pos hrow
    rw [hgv] at hg
    have hsum := sumB_paste l y
    have e1 := memBytes_ev hrow
    have e2 := memBytes_ev hr
    have key2 : ∀ j, j ≤ l.length → ∀ o : Bool, (o = false → ∀ i, i < j → ¬ ((l.getD i z48).f0.f0.toList = y.f0.f0.toList ∧ (l.getD i z48).f0.f1 = y.f0.f1)) →
        Ev (fun k => laws_FnPut.l1 k l (paste l y) (l.length : Int) (gotV (paste l y) y.f0.f0 y.f0.f1).1 (gotV (paste l y) y.f0.f0 y.f0.f1).2 o (j : Int) u q t v) true := by
      refine downTo l.length ?_ ?_
      · intro o ho
        refine Ev.step (fun k => laws_FnPut.l1.eq_2 ..) ?_
        refine Ev.neg (by omega) (Ev.pos rfl (Ev.pos (by rw [hpl, wid (by omega) (by omega)]; omega) (Ev.bind (entriesOk_ev _ (by omega)) (Ev.pos (decide_eq_true hrow) (Ev.bind e1 (Ev.bind e2 (Ev.neg (by omega) ?_)))))))
        cases o with
        | true => exact Ev.pos rfl (Ev.now _)
        | false =>
          rw [paste_got hey (ho rfl)]
          have hk := hey
          unfold isEx isE isK at hk
          rw [hy] at hk ⊢
          simp only [] at hk ⊢
          refine Ev.neg (by decide) ?_
          by_cases c0 : t = 0
          · subst c0
            have hv0 : v.toList = [] := by
              rcases hk.2.2 with h | h
              · omega
              · exact h
            rw [if_pos rfl, hv0]
            exact Ev.pos ((toList_toL _).trans rfl) ((Ev.now _).eqr (by decide))
          · have c1 : t = 1 := by omega
            subst c1
            rw [if_neg c0]
            exact Ev.pos rfl ((Ev.now _).eqr rfl)
      · intro j hj ih o ho
        refine Ev.step (fun k => laws_FnPut.l1.eq_2 ..) ?_
        rw [rdD, wsucc (show j < 4611686018427387904 by omega)]
        refine Ev.pos (by omega) ?_
        cases o with
        | true => exact Ev.pos rfl (ih true (fun h => by cases h))
        | false =>
          refine Ev.neg (by decide) (Ev.pos (by omega) ?_)
          by_cases cu : (l.getD j z48).f0.f0.toList = u.toList
          · refine Ev.pos cu (ih _ (fun h i hi => ?_))
            rcases Nat.lt_or_ge i j with h2 | h2
            · exact ho rfl i h2
            · obtain rfl : i = j := by omega
              rw [hy]
              intro hq
              rw [beq_eq_false_iff_ne] at h
              exact h hq.2
          · refine Ev.neg cu (ih false (fun _ i hi => ?_))
            rcases Nat.lt_or_ge i j with h2 | h2
            · exact ho rfl i h2
            · obtain rfl : i = j := by omega
              rw [hy]
              exact fun hq => cu hq.1
    have key : ∀ i, i ≤ l.length + 1 → Ev (fun k => laws_FnPut.l0 k l (paste l y) ((if i ≤ bsc l y then i else i - 1 : Nat) : Int) (i : Int) u q t v) true := by
      refine downTo (l.length + 1) ?_ ?_
      · refine Ev.step (fun k => laws_FnPut.l0.eq_2 ..) ?_
        rw [if_neg (by omega), Nat.add_sub_cancel]
        refine Ev.neg (by omega) (Ev.bind (a := gotV (paste l y) y.f0.f0 y.f0.f1) ?_ (key2 0 (Nat.zero_le _) false (fun _ i hi => absurd hi (Nat.not_lt_zero _))))
        rw [hy] at hg ⊢
        exact hg
      · intro i hi ih
        have self : ∀ x : E_, (((x.f0.f0.toList == x.f0.f0.toList) && ((x.f0.f1 == x.f0.f1) && (x.f0.f2 == x.f0.f2))) && (x.f1.toList == x.f1.toList)) = true := fun x => by simp
        rcases Nat.lt_trichotomy i (bsc l y) with c | c | c
        · rw [if_pos (by omega)] at ih ⊢
          refine Ev.step (fun k => laws_FnPut.l0.eq_2 ..) ?_
          rw [rdD, rdD, paste_get, if_pos c, self]
          refine Ev.pos (by omega) (Ev.pos (by omega) (Ev.pos (by omega) (Ev.pos (by omega) ?_)))
          refine Ev.step (fun k => laws_FnPut.j2.eq_2 ..) ?_
          rw [wsucc (show i < 4611686018427387904 by omega)]
          exact Ev.pos rfl ih
        · rw [if_neg (by omega), Nat.add_sub_cancel] at ih
          rw [if_pos (by omega)]
          have j2f : Ev (fun k => laws_FnPut.j2 k l (paste l y) (i : Int) (i : Int) false u q t v) true := by
            refine Ev.step (fun k => laws_FnPut.j2.eq_2 ..) ?_
            rw [rdD, paste_get, if_neg (by omega), if_pos c, wsucc (show i < 4611686018427387904 by omega)]
            refine Ev.neg (by decide) (Ev.pos (by omega) (Ev.pos (by omega) (Ev.neg ?_ ih)))
            rw [hy]
            simp
          refine Ev.step (fun k => laws_FnPut.l0.eq_2 ..) ?_
          refine Ev.pos (by omega) ?_
          by_cases cb : i < l.length
          · refine Ev.pos (by omega) (Ev.pos (by omega) (Ev.pos (by omega) ?_))
            rw [rdD, rdD, paste_get, if_neg (by omega), if_pos c]
            have hf : (((y.f0.f0.toList == (l.getD i z48).f0.f0.toList) && ((y.f0.f1 == (l.getD i z48).f0.f1) && (y.f0.f2 == (l.getD i z48).f0.f2))) && (y.f1.toList == (l.getD i z48).f1.toList)) = false := by
              rw [Bool.eq_false_iff]
              intro h
              simp only [Bool.and_eq_true, beq_iff_eq] at h
              refine hne ⟨by omega, ?_⟩
              rw [← c]
              exact (kcmp_zero _ _ _ _ _ _).2 ⟨(list_inj h.1.1).symm, h.1.2.1.symm, h.1.2.2.symm⟩
            rw [hf]
            exact j2f
          · exact Ev.neg (by omega) j2f
        · rw [if_neg (by omega)] at ih ⊢
          refine Ev.step (fun k => laws_FnPut.l0.eq_2 ..) ?_
          rw [rdD, rdD, paste_get, if_neg (by omega), if_neg (by omega), self]
          refine Ev.pos (by omega) (Ev.pos (by omega) (Ev.pos (by omega) (Ev.pos (by omega) ?_)))
          refine Ev.step (fun k => laws_FnPut.j2.eq_2 ..) ?_
          rw [wsucc (show i < 4611686018427387904 by omega), wsucc (show i - 1 < 4611686018427387904 by omega), show i - 1 + 1 = i + 1 - 1 from by omega]
          exact Ev.pos rfl ih
    have := key 0 (Nat.zero_le _)
    rw [if_pos (Nat.zero_le _)] at this
    exact this
  · have hv : mpV l y = ([], false) := if_neg ok
    rw [hv]
    exact Ev.pos rfl (Ev.pos rfl (Ev.bind (sameEntries_self [] (by simp)) (Ev.now _)))
end Go.Proofs.Ytbojfnijgmppbaa.Pure
end
