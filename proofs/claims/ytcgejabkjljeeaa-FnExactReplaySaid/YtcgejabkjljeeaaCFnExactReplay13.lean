/- Proved: the law FnExactReplay of the given program returns true for every input of its Go types and leaves each argument as it was; no condition. (Part 14 of 15.) -/
import Derived.Test.YtcgejabkjljeeaaCFnExactReplay3
import Derived.Test.YtcgejabkjljeeaaCFnExactReplay12
import Derived.Test.YtcgejabkjljeeaaCFnExactReplay6
import Derived.Lib.EndianBits
import Derived.Test.YtcgejabkjljeeaaCFnExactReplay5
import Derived.Test.YtcgejabkjljeeaaCFnExactReplay10
import Derived.Test.YtcgejabkjljeeaaCFnExactReplay8
import Derived.Test.YtcgejabkjljeeaaCFnExactReplay11
import Derived.Test.YtcgejabkjljeeaaCFnExactReplay4
section
namespace Go.Proofs.Ytcgejabkjljeeaa.P
open Go.RowKit Go.Proofs.YtcgejabkjljeeaaW.PrintWords Go.Proofs.YtcgejabkjljeeaaW.PrintLast Go.Proofs.YtcgejabkjljeeaaW.PrintMore
attribute [local go_sem] str_gtr str_leq str_geq qe1 qc1 max_two min_two qy qx qd1 qb1
set_option linter.unusedVariables false
set_option linter.unusedSimpArgs false
def okp (l : List Int) (p : Int) : Prop := 0 ≤ p ∧ p ≤ (l.length : Int)
end Go.Proofs.Ytcgejabkjljeeaa.P
end

section
namespace Go.Proofs.Ytcgejabkjljeeaa.Pure
open Go.RowKit Go.Proofs.YtcgejabkjljeeaaW.PrintWords Go.Proofs.YtcgejabkjljeeaaW.PrintLast Go.Proofs.YtcgejabkjljeeaaW.PrintMore
open Go.Proofs.Ytcgejabkjljeeaa.P
set_option linter.unusedVariables false
set_option linter.unusedSimpArgs false
def insM : List M_ → M_ → List M_
 | [], m => [m]
 | x :: xs, m => if sAh x m = true then x :: insM xs m else m :: x :: xs
theorem insM_app (m : M_) : ∀ (a b : List M_), (∀ x ∈ a, sAh x m = true) → insM (a ++ b) m = a ++ insM b m
 | [], _, _ => rfl
 | x :: xs, b, h => by
  show (if sAh x m = true then x :: insM (xs ++ b) m else _) = _
  rw [if_pos (h x (by simp)), insM_app m xs b (fun y hy => h y (by simp [hy]))]
  rfl
theorem insM_len (m : M_) : ∀ a : List M_, (insM a m).length = a.length + 1
 | [] => rfl
 | x :: xs => by
  show (if sAh x m = true then x :: insM xs m else m :: x :: xs).length = _
  split
  ·rw [List.length_cons, insM_len m xs]; rfl
  ·rfl
def isCut (cuts : List Int) (m : M_) : Bool := cuts.any fun c => c == m.f0
abbrev V_ := List M_ × Int × Int × Int × Bool
def apFin (n s g : Int) (out : List M_) : V_ := if vOk out n s g then (out, n, s, g, true) else ([], 0, 0, 0, false)
def apTail (adds : List M_) (cuts : List Int) (n s g : Int) (c : Nat) (out : List M_) : V_ := if (c : Int) = (cuts.length : Int) then apFin n s g (adds.foldl insM out) else ([], 0, 0, 0, false)
def sAp (l : List M_) (n s g : Int) (adds : List M_) (cuts : List Int) (n' s' g' : Int) : V_ :=
 if vOk l n s g ∧ n ≤ n' ∧ s ≤ s' ∧ g ≤ g' ∧ adds.length ≤ 30 then apTail adds cuts n' s' g' (l.filter (isCut cuts)).length (l.filter fun m => !isCut cuts m) else ([], 0, 0, 0, false)
theorem apFin_len (n s g : Int) (out : List M_) : (apFin n s g out).1.length ≤ 30 := by
 unfold apFin
 split
 ·rename_i h; exact h.1
 ·simp
theorem sAp_len (l : List M_) (n s g : Int) (adds : List M_) (cuts : List Int) (n' s' g' : Int) : (sAp l n s g adds cuts n' s' g').1.length ≤ 30 := by
 unfold sAp apTail
 split
 ·split
  ·exact apFin_len _ _ _ _
  ·simp
 ·simp
theorem ins_loop (adds : List M_) (cuts : List Int) (n s g : Int) (i : Nat) (hi : i < adds.length) (h30 : adds.length ≤ 30) (out : List M_) (ho : out.length ≤ 100000) (r : V_)
  (h : Ev (fun k => spec_Apply.l2 k ((i + 1 : Nat) : Int) adds cuts n s g (insM out (adds.getD i z66)) n s g) r) :
  ∀ d j, j + d = out.length → (∀ x ∈ out.take j, sAh x (adds.getD i z66) = true) → Ev (fun k => spec_Apply.l3 k (i : Int) (j : Int) adds cuts n s g out n s g) r := by
 have stop : ∀ j, j ≤ out.length → (∀ x ∈ out.take j, sAh x (adds.getD i z66) = true) → insM (out.drop j) (adds.getD i z66) = adds.getD i z66 :: out.drop j → (([] ++ out.take j) ++ [adds.getD i z66]) ++ out.drop j = insM out (adds.getD i z66) := by
  intro j hj ht hd
  conv => rhs; rw [← List.take_append_drop j out, insM_app _ _ _ ht, hd]
  simp
 intro d
 induction d with
 | zero =>
  intro j hj ht
  have e := stop j (by omega) ht (by rw [List.drop_eq_nil_of_le (by omega)]; rfl)
  refine Ev.step (fun k => spec_Apply.l3.eq_2 ..) ?_
  rw [wsucc (show i < 4611686018427387904 by omega), rdM adds]
  refine Ev.neg (by omega) (Ev.bindS rfl (Ev.pos (by omega) (Ev.pos (by omega) (Ev.bindS rfl (Ev.pos (by simp; omega) (Ev.bindS rfl (Ev.pos (by omega) (Ev.pos (by omega) (Ev.pos (by simp; omega) (Ev.bindS rfl (Ev.bindS rfl (Ev.pos (by simp; omega) ?_))))))))))))
  rw [Int.toNat_natCast]
  generalize adds.getD i z66 = m at e h
  rw [e]
  exact h
 | succ d ih =>
  intro j hj ht
  have hlt : j < out.length := by omega
  by_cases c : sAh (out.getD j z66) (adds.getD i z66) = true
  ·have hn := ih (j + 1) (by omega) (by
    rw [List.take_succ_eq_append_getElem hlt]
    intro x hx
    rcases List.mem_append.1 hx with hx | hx
    ·exact ht x hx
    ·rw [List.mem_singleton] at hx
     rw [List.getD_eq_getElem?_getD, List.getElem?_eq_getElem hlt] at c
     rw [hx]
     exact c)
   refine Ev.step (fun k => spec_Apply.l3.eq_2 ..) ?_
   rw [rdM out, rdM adds, wsucc (show j < 4611686018427387904 by omega)]
   exact Ev.pos (by omega) (Ev.pos (by omega) (Ev.pos (by omega) (Ev.pos (by omega) (Ev.bindS (sAhead_ev _ _) (Ev.pos c hn)))))
  ·have e := stop j (by omega) ht (by
    rw [List.drop_eq_getElem_cons hlt]
    rw [List.getD_eq_getElem?_getD (l := out), List.getElem?_eq_getElem hlt] at c
    show (if sAh out[j] _ = true then _ else _) = _
    exact if_neg c)
   refine Ev.step (fun k => spec_Apply.l3.eq_2 ..) ?_
   rw [rdM out, rdM adds, wsucc (show i < 4611686018427387904 by omega)]
   refine Ev.pos (by omega) (Ev.pos (by omega) (Ev.pos (by omega) (Ev.pos (by omega) (Ev.bindS (sAhead_ev _ _) (Ev.neg c (Ev.bindS rfl (Ev.pos (by omega) (Ev.bindS rfl (Ev.pos (by simp; omega) (Ev.bindS rfl (Ev.pos (by simp; omega) (Ev.bindS rfl (Ev.bindS rfl (Ev.pos (by simp; omega) ?_))))))))))))))
   rw [Int.toNat_natCast]
   generalize adds.getD i z66 = m at e h
   rw [e]
   exact h
theorem adds_loop (adds : List M_) (cuts : List Int) (n s g : Int) (h30 : adds.length ≤ 30) : ∀ i, i ≤ adds.length → ∀ out : List M_, out.length ≤ 5000 + i → Ev (fun k => spec_Apply.l2 k (i : Int) adds cuts n s g out n s g) (apFin n s g ((adds.drop i).foldl insM out)) := by
 refine downTo adds.length ?_ ?_
 ·intro out ho
  rw [List.drop_length, List.foldl_nil]
  refine Ev.step (fun k => spec_Apply.l2.eq_2 ..) ?_
  refine Ev.neg (by omega) (Ev.bind (sVersionOk_ev out n s g (by omega)) ?_)
  unfold apFin
  by_cases c : vOk out n s g
  ·exact Ev.pos (decide_eq_true c) ((Ev.now _).eqr (if_pos c).symm)
  ·exact Ev.neg (by simp [c]) ((Ev.now _).eqr (if_neg c).symm)
 ·intro i hi ih out ho
  have h := ih (insM out (adds.getD i z66)) (by rw [insM_len]; omega)
  rw [List.drop_eq_getElem_cons hi, List.foldl_cons]
  rw [List.getD_eq_getElem?_getD, List.getElem?_eq_getElem hi] at h
  have h2 := ins_loop adds cuts n s g i hi h30 out (by omega) (apFin n s g ((adds.drop (i + 1)).foldl insM (insM out adds[i]))) (by rw [List.getD_eq_getElem?_getD, List.getElem?_eq_getElem hi]; exact h) out.length 0 (by omega) (by simp)
  refine Ev.step (fun k => spec_Apply.l2.eq_2 ..) ?_
  exact Ev.pos (by omega) h2
theorem cut_loop (l : List M_) (n s g : Int) (adds : List M_) (cuts : List Int) (n' s' g' : Int) (i : Nat) (hi : i < l.length) (hl : l.length ≤ 2000) (hc : cuts.length ≤ 2000000) (c : Nat) (hcc : c ≤ i) (out : List M_) (ho : out.length ≤ 2000) (r : V_)
  (h1 : isCut cuts (l.getD i z66) = true → Ev (fun k => spec_Apply.l0 k ((c + 1 : Nat) : Int) ((i + 1 : Nat) : Int) l n s g adds cuts n' s' g' out n' s' g') r)
  (h2 : isCut cuts (l.getD i z66) = false → Ev (fun k => spec_Apply.l0 k (c : Int) ((i + 1 : Nat) : Int) l n s g adds cuts n' s' g' (out ++ [l.getD i z66]) n' s' g') r) :
  Ev (fun k => spec_Apply.l1 k (c : Int) (i : Int) false 0 l n s g adds cuts n' s' g' out n' s' g') r := by
 have key : ∀ j, j ≤ cuts.length → ∀ b : Bool, (b || (cuts.drop j).any fun c => c == (l.getD i z66).f0) = isCut cuts (l.getD i z66) → Ev (fun k => spec_Apply.l1 k (c : Int) (i : Int) b (j : Int) l n s g adds cuts n' s' g' out n' s' g') r := by
  refine downTo cuts.length ?_ ?_
  ·intro b hb
   rw [List.drop_length, List.any_nil, Bool.or_false] at hb
   refine Ev.step (fun k => spec_Apply.l1.eq_2 ..) ?_
   rw [rdM l, wsucc (show i < 4611686018427387904 by omega), wsucc (show c < 4611686018427387904 by omega)]
   refine Ev.neg (by omega) ?_
   cases b with
   | true => exact Ev.pos rfl (h1 hb.symm)
   | false => exact Ev.neg (by simp) (Ev.pos (by omega) (Ev.pos (by omega) (Ev.pos (by omega) (h2 hb.symm))))
  ·intro j hj ih b hb
   rw [List.drop_eq_getElem_cons hj, List.any_cons] at hb
   refine Ev.step (fun k => spec_Apply.l1.eq_2 ..) ?_
   rw [rdM l, wsucc (show j < 4611686018427387904 by omega), getD_rd, List.getD_eq_getElem?_getD (l := cuts), List.getElem?_eq_getElem hj]
   refine Ev.pos (by omega) ?_
   cases b with
   | true => exact Ev.pos rfl (ih true (by rw [← hb]; simp))
   | false => exact Ev.neg (by simp) (Ev.pos (by omega) (Ev.pos (by omega) (Ev.pos (by omega) (ih _ (by rw [← hb, Bool.false_or]; rfl)))))
 exact key 0 (Nat.zero_le _) false (by rw [List.drop_zero, Bool.false_or]; rfl)
theorem files_loop (l : List M_) (n s g : Int) (adds : List M_) (cuts : List Int) (n' s' g' : Int) (hl : l.length ≤ 2000) (hc : cuts.length ≤ 2000000) (h30 : adds.length ≤ 30) : ∀ i, i ≤ l.length → ∀ (c : Nat) (out : List M_), c ≤ i → out.length ≤ i →
  Ev (fun k => spec_Apply.l0 k (c : Int) (i : Int) l n s g adds cuts n' s' g' out n' s' g') (apTail adds cuts n' s' g' (c + ((l.drop i).filter (isCut cuts)).length) (out ++ (l.drop i).filter fun m => !isCut cuts m)) := by
 refine downTo l.length ?_ ?_
 ·intro c out hcc ho
  rw [List.drop_length, List.filter_nil, List.filter_nil, List.length_nil, Nat.add_zero, List.append_nil]
  unfold apTail
  refine Ev.step (fun k => spec_Apply.l0.eq_2 ..) ?_
  refine Ev.neg (by omega) ?_
  by_cases e : (c : Int) = (cuts.length : Int)
  ·refine Ev.pos e ((adds_loop adds cuts n' s' g' h30 0 (Nat.zero_le _) out (by omega)).eqr ?_)
   rw [if_pos e, List.drop_zero]
  ·exact Ev.neg e ((Ev.now _).eqr (if_neg e).symm)
 ·intro i hi ih c out hcc ho
  have hd : l.getD i z66 = l[i] := by rw [List.getD_eq_getElem?_getD, List.getElem?_eq_getElem hi]; rfl
  refine Ev.step (fun k => spec_Apply.l0.eq_2 ..) ?_
  refine Ev.pos (by omega) (cut_loop l n s g adds cuts n' s' g' i hi hl hc c hcc out (by omega) _ ?_ ?_)
  ·intro hb
   rw [hd] at hb
   refine (ih (c + 1) out (by omega) (by omega)).eqr ?_
   rw [List.drop_eq_getElem_cons hi, List.filter_cons, List.filter_cons, if_pos hb, if_neg (by rw [hb]; simp), List.length_cons]
   congr 1
   omega
  ·intro hb
   rw [hd] at hb ⊢
   refine (ih c (out ++ [l[i]]) (by omega) (by simp; omega)).eqr ?_
   rw [List.drop_eq_getElem_cons hi, List.filter_cons, List.filter_cons, if_neg (by rw [hb]; simp), if_pos (by rw [hb]; rfl), List.append_assoc]
   rfl
theorem sApply_ev (l : List M_) (n s g : Int) (adds : List M_) (cuts : List Int) (n' s' g' : Int) (hl : l.length < 2097152) (hc : cuts.length ≤ 2000000) : Ev (fun k => spec_Apply.f k l n s g adds cuts n' s' g') (sAp l n s g adds cuts n' s' g') := by
 unfold spec_Apply.f
 have bad : ¬ (vOk l n s g ∧ n ≤ n' ∧ s ≤ s' ∧ g ≤ g' ∧ adds.length ≤ 30) → Ev (fun k => spec_Apply.j0 k true l n s g adds cuts n' s' g') (sAp l n s g adds cuts n' s' g') := by
  intro h
  refine Ev.step (fun k => spec_Apply.j0.eq_2 ..) ?_
  exact Ev.pos rfl ((Ev.now _).eqr (by unfold sAp; rw [if_neg h]))
 refine Ev.bind (sVersionOk_ev l n s g (by omega)) ?_
 by_cases c : vOk l n s g
 case neg => exact Ev.neg (by simp [c]) (bad (fun h => c h.1))
 refine Ev.pos (decide_eq_true c) ?_
 by_cases c1 : n' < n
 ·exact Ev.pos c1 (bad (fun h => by omega))
 refine Ev.neg c1 ?_
 by_cases c2 : s' < s
 ·exact Ev.pos c2 (bad (fun h => by omega))
 refine Ev.neg c2 ?_
 by_cases c3 : g' < g
 ·exact Ev.pos c3 (bad (fun h => by omega))
 refine Ev.neg c3 ?_
 by_cases c4 : (adds.length : Int) > 30
 ·rw [decide_eq_true c4]
  exact bad (fun h => by omega)
 rw [decide_eq_false c4]
 refine Ev.step (fun k => spec_Apply.j0.eq_2 ..) ?_
 refine Ev.neg (by simp) ((files_loop l n s g adds cuts n' s' g' (by have := c.1; omega) hc (by omega) 0 (Nat.zero_le _) 0 [] (Nat.le_refl _) (by simp)).eqr ?_)
 unfold sAp
 rw [if_pos ⟨c, by omega, by omega, by omega, by omega⟩, List.drop_zero, Nat.zero_add, List.nil_append]
end Go.Proofs.Ytcgejabkjljeeaa.Pure
end

section
namespace Go.Proofs.Ytcgejabkjljeeaa.P
open Go.RowKit Go.Proofs.YtcgejabkjljeeaaW.PrintWords Go.Proofs.YtcgejabkjljeeaaW.PrintLast Go.Proofs.YtcgejabkjljeeaaW.PrintMore
attribute [local go_sem] str_gtr str_leq str_geq qe1 qc1 max_two min_two qy qx qd1 qb1
set_option linter.unusedVariables false
set_option linter.unusedSimpArgs false
open Go.Sort
def stLt (c : S66 → S66 → Int) (p q : S66 × Nat) : Bool := decide (c p.1 q.1 < 0) || (!decide (c q.1 p.1 < 0) && decide (p.2 < q.2))
structure Ord (c : S66 → S66 → Int) : Prop where
 irrefl : ∀ x, ¬ c x x < 0
 trans : ∀ x y z, c x y < 0 → c y z < 0 → c x z < 0
 ntrans : ∀ x y z, ¬ c x y < 0 → ¬ c y z < 0 → ¬ c x z < 0
theorem stLt_swo {c : S66 → S66 → Int} (h : Ord c) : SWO (stLt c) := by
 refine ⟨fun x => ?_, fun x y z h1 h2 => ?_, fun x y z h1 h2 => ?_⟩
 ·simp [stLt, h.irrefl]
 ·simp only [stLt, Bool.or_eq_true, Bool.and_eq_true, Bool.not_eq_true', decide_eq_true_eq, decide_eq_false_iff_not] at *
  rcases h1 with h1 | ⟨h1, h1'⟩
  ·rcases h2 with h2 | ⟨h2, _⟩
   ·exact .inl (h.trans _ _ _ h1 h2)
   ·exact .inl (Classical.byContradiction fun k => h.ntrans _ _ _ k h2 h1)
  ·rcases h2 with h2 | ⟨h2, h2'⟩
   ·exact .inl (Classical.byContradiction fun k => h.ntrans _ _ _ h1 k h2)
   ·exact .inr ⟨h.ntrans _ _ _ h2 h1, by omega⟩
 ·simp only [stLt, Bool.or_eq_false_iff, Bool.and_eq_false_iff, Bool.not_eq_false', decide_eq_true_eq, decide_eq_false_iff_not] at *
  refine ⟨h.ntrans _ _ _ h1.1 h2.1, ?_⟩
  rcases h1.2 with k1 | k1
  ·exact .inl (Classical.byContradiction fun k => h.ntrans _ _ _ h2.1 k k1)
  ·rcases h2.2 with k2 | k2
   ·exact .inl (Classical.byContradiction fun k => h.ntrans _ _ _ k h1.1 k2)
   ·exact .inr (by omega)
theorem srt_spec {c : S66 → S66 → Int} (h : Ord c) (l : List S66) : ∃ L : List (S66 × Nat), L.Perm l.zipIdx ∧ srt c l = L.map (fun p => p.1) ∧ L.Pairwise (fun p q => stLt c q p = false) := by
 have hA : ∀ p q, p < q → q < (zipA l).size → ltOf (cfL c) (zipA l)[q]! (zipA l)[p]! = stLt c (zipA l)[q]! (zipA l)[p]! := by
  intro p q hpq hq
  rw [zipA_size] at hq
  rw [zipA_at l q hq, zipA_at l p (by omega)]
  show decide (c _ _ < 0) = (decide (c _ _ < 0) || (!decide (c _ _ < 0) && decide (q < p)))
  rw [decide_eq_false (show ¬ q < p by omega), Bool.and_false, Bool.or_false]
 obtain ⟨⟨z1, _, z3⟩, z4⟩ := stab_spec (lt := ltOf (cfL c)) (stLt_swo h) hA
 refine ⟨(stab (ltOf (cfL c)) (zipA l)).toList, ?_, rfl, ?_⟩
 ·rw [Array.extract_eq_self_of_le (by omega), Array.extract_eq_self_of_le (by omega)] at z3
  exact z3
 ·rw [List.pairwise_iff_getElem]
  intro i j hi hj hij
  have := z4 i j (Nat.zero_le _) hij (by rw [← z1]; simpa using hj)
  rw [getElem!_pos _ i (by simpa using hi), getElem!_pos _ j (by simpa using hj)] at this
  simpa using this
theorem srt_perm {c : S66 → S66 → Int} (h : Ord c) (l : List S66) : (srt c l).Perm l := by
 obtain ⟨L, h1, h2, _⟩ := srt_spec h l
 rw [h2]
 have := h1.map (fun p => p.1)
 rwa [List.zipIdx_map_fst] at this
theorem srt_sorted {c : S66 → S66 → Int} (h : Ord c) (l : List S66) : (srt c l).Pairwise (fun x y => ¬ c y x < 0) := by
 obtain ⟨L, _, h2, h3⟩ := srt_spec h l
 rw [h2, List.pairwise_map]
 refine h3.imp fun {p q} hpq => ?_
 simp only [stLt, Bool.or_eq_false_iff, decide_eq_false_iff_not] at hpq
 exact hpq.1
end Go.Proofs.Ytcgejabkjljeeaa.P
end

section
namespace Go.Proofs.Ytcgejabkjljeeaa.Pure
open Go.RowKit Go.Proofs.YtcgejabkjljeeaaW.PrintWords Go.Proofs.YtcgejabkjljeeaaW.PrintLast Go.Proofs.YtcgejabkjljeeaaW.PrintMore
open Go.Proofs.Ytcgejabkjljeeaa.P
set_option linter.unusedVariables false
set_option linter.unusedSimpArgs false
theorem tless_ntrans {a b c : ByteArray} (h1 : ¬ tless a b = true) (h2 : ¬ tless b c = true) : ¬ tless a c = true := by
 intro h
 unfold tless at *
 by_cases k : Op.bytesLess b.toList a.toList = true
 ·exact h2 (bl_trans k h)
 ·have e : a.toList = b.toList := bl_eq (by simpa using h1) (by simpa using k)
  rw [e] at h
  exact h2 h
theorem mcmp_lt (p m : M_) : mcmp p m < 0 ↔ p.f1 < m.f1 ∨ p.f1 = m.f1 ∧ (p.f1 = 0 ∧ m.f0 < p.f0 ∨ p.f1 ≠ 0 ∧ tless p.f2 m.f2 = true) := by
 unfold mcmp
 by_cases c : p.f1 = m.f1
 ·by_cases c2 : p.f1 = 0
  ·rw [if_pos ⟨c, c2⟩, cI_neg]
   constructor
   ·exact fun h => .inr ⟨c, .inl ⟨c2, h⟩⟩
   ·rintro (h | ⟨_, ⟨_, h⟩ | ⟨h, _⟩⟩)
    ·omega
    ·exact h
    ·exact absurd c2 h
  ·rw [if_neg (fun h => c2 h.2)]
   have h0 : (([cI p.f1 m.f1, cS p.f2 m.f2] : List Int).find? fun x => x != 0).getD 0 = cS p.f2 m.f2 := by
    rw [c, cI_self]
    by_cases h : cS p.f2 m.f2 = 0
    ·simp [h]
    ·simp [h]
   rw [h0, cS_neg]
   constructor
   ·exact fun h => .inr ⟨c, .inr ⟨c2, h⟩⟩
   ·rintro (h | ⟨_, ⟨h, _⟩ | ⟨_, h⟩⟩)
    ·omega
    ·exact absurd h c2
    ·exact h
 ·rw [if_neg (fun h => c h.1)]
  have h1 : cI p.f1 m.f1 ≠ 0 := cI_ne _ _ c
  have h0 : (([cI p.f1 m.f1, cS p.f2 m.f2] : List Int).find? fun x => x != 0).getD 0 = cI p.f1 m.f1 := by simp [h1]
  rw [h0, cI_neg]
  constructor
  ·exact fun h => .inl h
  ·rintro (h | ⟨h, _⟩)
   ·exact h
   ·exact absurd h c
theorem mcmp_ord : Ord mcmp := by
 refine ⟨fun x h => ?_, fun x y z h1 h2 => ?_, fun x y z h1 h2 h => ?_⟩
 ·rcases (mcmp_lt x x).1 h with h | ⟨_, ⟨_, h⟩ | ⟨_, h⟩⟩
  ·omega
  ·omega
  ·rw [show tless x.f2 x.f2 = false from bl_irrefl _] at h; cases h
 ·rw [mcmp_lt] at *
  rcases h1 with h1 | ⟨e1, h1⟩
  ·rcases h2 with h2 | ⟨e2, _⟩ <;> exact .inl (by omega)
  ·rcases h2 with h2 | ⟨e2, h2⟩
   ·exact .inl (by omega)
   ·refine .inr ⟨e1.trans e2, ?_⟩
    rcases h1 with ⟨a1, b1⟩ | ⟨a1, b1⟩
    ·rcases h2 with ⟨_, b2⟩ | ⟨a2, _⟩
     ·exact .inl ⟨a1, by omega⟩
     ·omega
    ·rcases h2 with ⟨a2, _⟩ | ⟨_, b2⟩
     ·omega
     ·exact .inr ⟨a1, bl_trans b1 b2⟩
 ·rw [mcmp_lt] at *
  rcases h with h | ⟨e, h⟩
  ·by_cases k : x.f1 < y.f1
   ·exact h1 (.inl k)
   ·exact h2 (.inl (by omega))
  ·by_cases k : x.f1 < y.f1
   ·exact h1 (.inl k)
   ·by_cases k2 : y.f1 < z.f1
    ·exact h2 (.inl k2)
    ·have e1 : x.f1 = y.f1 := by omega
     have e2 : y.f1 = z.f1 := by omega
     rcases h with ⟨a, b⟩ | ⟨a, b⟩
     ·by_cases q : y.f0 < x.f0
      ·exact h1 (.inr ⟨e1, .inl ⟨a, q⟩⟩)
      ·exact h2 (.inr ⟨e2, .inl ⟨by omega, by omega⟩⟩)
     ·exact tless_ntrans (fun q => h1 (.inr ⟨e1, .inr ⟨a, q⟩⟩)) (fun q => h2 (.inr ⟨e2, .inr ⟨by omega, q⟩⟩)) b
theorem isCut_cons (n : Int) (ns : List Int) (m : M_) : isCut (n :: ns) m = (n == m.f0 || isCut ns m) := by unfold isCut; rw [List.any_cons]
theorem filter_congr' {α : Type} {p q : α → Bool} : ∀ {l : List α}, (∀ x ∈ l, p x = q x) → l.filter p = l.filter q
 | [], _ => rfl
 | x :: xs, h => by rw [List.filter_cons, List.filter_cons, h x (List.mem_cons_self ..), filter_congr' fun y hy => h y (List.mem_cons_of_mem _ hy)]
theorem cutAll_spec : ∀ (cuts : List Int) (l : List M_), l.Pairwise (fun x y => x.f0 ≠ y.f0) → (l.filter (isCut cuts)).length ≤ cuts.length ∧ cutAll l cuts = if (l.filter (isCut cuts)).length = cuts.length then some (l.filter fun m => !isCut cuts m) else none
 | [], l, _ => by
  have h1 : l.filter (isCut []) = [] := List.filter_eq_nil_iff.2 fun x _ => by simp [isCut]
  have h2 : l.filter (fun m => !isCut [] m) = l := List.filter_eq_self.2 fun x _ => by simp [isCut]
  rw [h1, h2]
  exact ⟨Nat.le_refl _, by simp [cutAll]⟩
 | n :: ns, l, h => by
  rw [cutAll]
  rcases idxf_neg (numP n) l 0 with hq | ⟨k, hk, hq, hp, _⟩
  ·have hno : ∀ x ∈ l, (n == x.f0) = false := by
    intro x hx
    have ha := idxf_any (numP n) l 0
    rw [hq] at ha
    have := List.any_eq_false.1 ha.symm x hx
    unfold numP at this
    simp only [beq_iff_eq] at this
    exact beq_eq_false_iff_ne.2 (fun e => this e.symm)
   have e1 : l.filter (isCut (n :: ns)) = l.filter (isCut ns) := filter_congr' fun x hx => by rw [isCut_cons, hno x hx, Bool.false_or]
   have hle := (cutAll_spec ns l h).1
   rw [e1, hq, if_pos (by decide), List.length_cons]
   exact ⟨by omega, by rw [if_neg (by omega)]⟩
  ·rw [hq, Nat.zero_add, if_neg (by omega), Int.toNat_natCast]
   have hkn : l[k].f0 = n := by
    have := hp z66
    rw [List.getD_eq_getElem?_getD, List.getElem?_eq_getElem hk] at this
    simpa [numP] using this
   have hsplit : l = l.take k ++ l[k] :: l.drop (k + 1) := by rw [← List.drop_eq_getElem_cons hk, List.take_append_drop]
   have her : l.eraseIdx k = l.take k ++ l.drop (k + 1) := List.eraseIdx_eq_take_drop_succ ..
   have hpw := h
   rw [hsplit, List.pairwise_append] at hpw
   obtain ⟨p1, p2, p3⟩ := hpw
   have p4 := List.pairwise_cons.1 p2
   have hpe : (l.eraseIdx k).Pairwise (fun x y => x.f0 ≠ y.f0) := by
    rw [her, List.pairwise_append]
    exact ⟨p1, p4.2, fun x hx y hy => p3 x hx y (List.mem_cons_of_mem _ hy)⟩
   have hno : ∀ x ∈ l.eraseIdx k, (n == x.f0) = false := by
    intro x hx
    rw [her, List.mem_append] at hx
    refine beq_eq_false_iff_ne.2 fun e => ?_
    rcases hx with hx | hx
    ·exact p3 x hx l[k] (List.mem_cons_self ..) (by rw [hkn, e])
    ·exact p4.1 x hx (by rw [hkn, e])
   obtain ⟨i1, i2⟩ := cutAll_spec ns (l.eraseIdx k) hpe
   have hcut : isCut (n :: ns) l[k] = true := by rw [isCut_cons, hkn]; simp
   have e1 : (l.filter (isCut (n :: ns))).length = ((l.eraseIdx k).filter (isCut ns)).length + 1 := by
    have e2 : (l.eraseIdx k).filter (isCut (n :: ns)) = (l.eraseIdx k).filter (isCut ns) := filter_congr' fun x hx => by rw [isCut_cons, hno x hx, Bool.false_or]
    rw [← e2]
    conv => lhs; rw [hsplit]
    rw [her, List.filter_append, List.filter_append, List.filter_cons, if_pos hcut, List.length_append, List.length_append, List.length_cons]
    omega
   have e3 : l.filter (fun m => !isCut (n :: ns) m) = (l.eraseIdx k).filter (fun m => !isCut ns m) := by
    have e2 : (l.eraseIdx k).filter (fun m => !isCut (n :: ns) m) = (l.eraseIdx k).filter (fun m => !isCut ns m) := filter_congr' fun x hx => by rw [isCut_cons, hno x hx, Bool.false_or]
    rw [← e2]
    conv => lhs; rw [hsplit]
    rw [her, List.filter_append, List.filter_append, List.filter_cons, if_neg (by rw [hcut]; simp)]
   rw [e1, e3, i2, List.length_cons]
   refine ⟨by omega, ?_⟩
   by_cases c : ((l.eraseIdx k).filter (isCut ns)).length = ns.length
   ·rw [if_pos c, if_pos (by omega)]
   ·rw [if_neg c, if_neg (by omega)]
def Rv (n : Int) (x y : M_) : Prop := okM n x ∧ okM n y ∧ sAh x y = true
theorem Rv_mcmp {n : Int} {x y : M_} (h : Rv n x y) : mcmp x y < 0 := ((ahead_eq n x y h.1).1 h.2.2).1
theorem Rv_asym {n : Int} (x y : M_) (h : Rv n x y) : ¬ Rv n y x := fun k => mcmp_ord.irrefl x (mcmp_ord.trans _ _ _ (Rv_mcmp h) (Rv_mcmp k))
theorem Rv_trans {n : Int} {x y z : M_} (h1 : Rv n x y) (h2 : Rv n y z) : Rv n x z := by
 refine ⟨h1.1, h2.2.1, ?_⟩
 have a := h1.2.2
 have b := h2.2.2
 have hy := h1.2.1.2.2.2.2.1
 unfold sAh at a b ⊢
 by_cases c1 : x.f1 = y.f1
 ·rw [if_pos c1] at a
  by_cases c2 : y.f1 = z.f1
  ·rw [if_pos c2] at b
   rw [if_pos (c1.trans c2)]
   by_cases c0 : x.f1 = 0
   ·rw [if_pos c0] at a ⊢
    rw [if_pos (by omega)] at b
    simp only [gt_iff_lt, decide_eq_true_eq] at a b ⊢
    omega
   ·rw [if_neg c0] at a ⊢
    rw [if_neg (by omega)] at b
    have h3 : tless x.f3 y.f3 = true := by
     cases hq : tless y.f2 y.f3 with
     | true => exact bl_trans a hq
     | false =>
      have e : y.f2.toList = y.f3.toList := bl_eq hq hy
      unfold tless at a ⊢
      rw [← e]; exact a
    exact bl_trans h3 b
  ·rw [if_neg c2] at b
   rw [if_neg (by omega)]
   simp only [decide_eq_true_eq] at b ⊢
   omega
 ·rw [if_neg c1] at a
  by_cases c2 : y.f1 = z.f1
  ·rw [if_neg (by omega)]
   simp only [decide_eq_true_eq] at a ⊢
   omega
  ·rw [if_neg c2] at b
   simp only [decide_eq_true_eq] at a b
   rw [if_neg (by omega)]
   simp only [decide_eq_true_eq]
   omega
theorem vOk_getElem {l : List M_} {n s g : Int} (h : vOk l n s g) (i : Nat) (hi : i < l.length) : okM n l[i] ∧ (¬ l[i].f0 ∈ (l.take i).map (fun m => m.f0)) ∧ (∀ hp : 0 < i, aheadM (l[i - 1]'(by omega)) l[i]) := by
 have h1 := h.2.2.2.2 i hi
 unfold okAt at h1
 have e : ∀ j (hj : j < l.length), l.getD j z66 = l[j] := fun j hj => by rw [List.getD_eq_getElem?_getD, List.getElem?_eq_getElem hj]; rfl
 rw [e i hi] at h1
 refine ⟨h1.1, h1.2.1, fun hp => ?_⟩
 have := h1.2.2 hp
 rwa [e (i - 1) (by omega)] at this
theorem vOk_pair {l : List M_} {n s g : Int} (h : vOk l n s g) : l.Pairwise (Rv n) := by
 refine List.pairwise_iff_getElem.2 ?_
 have key : ∀ (d i : Nat) (hj : i + d + 1 < l.length), Rv n (l[i]'(by omega)) l[i + d + 1] := by
  intro d
  induction d with
  | zero =>
   intro i hj
   have h1 := vOk_getElem h i (by omega)
   have h2 := vOk_getElem h (i + 1) hj
   have h3 := h2.2.2 (by omega)
   exact ⟨h1.1, h2.1, (ahead_eq n _ _ h1.1).2 h3⟩
  | succ d ih =>
   intro i hj
   have h1 := ih i (by omega)
   have h2 := vOk_getElem h (i + (d + 1) + 1) hj
   have h3 := h2.2.2 (by omega)
   exact Rv_trans h1 ⟨h1.2.1, h2.1, (ahead_eq n _ _ h1.2.1).2 h3⟩
 intro i j hi hj hij
 have := key (j - i - 1) i (by omega)
 simp only [show i + (j - i - 1) + 1 = j from by omega] at this
 exact this
theorem vOk_nums {l : List M_} {n s g : Int} (h : vOk l n s g) : l.Pairwise (fun x y => x.f0 ≠ y.f0) := by
 refine List.pairwise_iff_getElem.2 fun i j hi hj hij e => ?_
 refine (vOk_getElem h j hj).2.1 ?_
 rw [← e]
 exact List.mem_map.2 ⟨l[i], List.mem_take_iff_getElem.2 ⟨i, by omega, rfl⟩, rfl⟩
theorem insM_perm (m : M_) : ∀ l : List M_, (insM l m).Perm (m :: l)
 | [] => .refl _
 | x :: xs => by
  show (if sAh x m = true then x :: insM xs m else m :: x :: xs).Perm _
  split
  ·exact ((insM_perm m xs).cons x).trans (.swap ..)
  ·exact .refl _
theorem foldl_perm : ∀ (adds l : List M_), (adds.foldl insM l).Perm (l ++ adds)
 | [], l => by rw [List.append_nil]; exact .refl _
 | m :: ms, l => by
  rw [List.foldl_cons]
  refine (foldl_perm ms (insM l m)).trans ?_
  refine ((insM_perm m l).append_right ms).trans ?_
  show (m :: (l ++ ms)).Perm (l ++ m :: ms)
  exact List.perm_middle.symm
def Cmp (n : Int) (x y : M_) : Prop := Rv n x y ∨ Rv n y x
theorem insM_pair (n : Int) (m : M_) : ∀ l : List M_, l.Pairwise (Rv n) → (∀ x ∈ l, Cmp n x m) → (insM l m).Pairwise (Rv n)
 | [], _, _ => List.pairwise_singleton _ _
 | x :: xs, h, hc => by
  have h1 := List.pairwise_cons.1 h
  show (if sAh x m = true then x :: insM xs m else m :: x :: xs).Pairwise (Rv n)
  split
  ·rename_i c
   have hx : Rv n x m := by
    rcases hc x (List.mem_cons_self ..) with k | k
    ·exact k
    ·exact ⟨k.2.1, k.1, c⟩
   refine List.pairwise_cons.2 ⟨fun y hy => ?_, insM_pair n m xs h1.2 fun y hy => hc y (List.mem_cons_of_mem _ hy)⟩
   rcases List.mem_cons.1 ((insM_perm m xs).mem_iff.1 hy) with k | k
   ·rw [k]; exact hx
   ·exact h1.1 y k
  ·rename_i c
   have hx : Rv n m x := by
    rcases hc x (List.mem_cons_self ..) with k | k
    ·exact absurd k.2.2 c
    ·exact k
   refine List.pairwise_cons.2 ⟨fun y hy => ?_, h⟩
   rcases List.mem_cons.1 hy with k | k
   ·rw [k]; exact hx
   ·exact Rv_trans hx (h1.1 y k)
theorem foldl_pair (n : Int) : ∀ (adds l : List M_), l.Pairwise (Rv n) → (l ++ adds).Pairwise (Cmp n) → (adds.foldl insM l).Pairwise (Rv n)
 | [], l, h, _ => h
 | m :: ms, l, h, hc => by
  have sym : ∀ {x y : M_}, Cmp n x y → Cmp n y x := fun k => k.elim .inr .inl
  have h2 := List.pairwise_append.1 hc
  rw [List.foldl_cons]
  refine foldl_pair n ms _ (insM_pair n m l h fun x hx => h2.2.2 x hx m (List.mem_cons_self ..)) ?_
  refine (List.Perm.pairwise_iff (fun k => sym k) ?_).1 hc
  refine List.Perm.trans ?_ ((insM_perm m l).append_right ms).symm
  show (l ++ m :: ms).Perm (m :: (l ++ ms))
  exact List.perm_middle
theorem pair_ext {n : Int} {A B : List M_} (hA : A.Pairwise (Rv n)) (hB : B.Pairwise (Rv n)) (hp : A.Perm B) : A = B := by
 induction A generalizing B with
 | nil => exact (List.Perm.nil_eq hp)
 | cons a A ih =>
  cases B with
  | nil => exact (List.Perm.eq_nil hp)
  | cons b B =>
   have a1 := List.pairwise_cons.1 hA
   have b1 := List.pairwise_cons.1 hB
   have e : a = b := by
    rcases List.mem_cons.1 (hp.mem_iff.1 (List.mem_cons_self ..)) with e | e
    ·exact e
    ·rcases List.mem_cons.1 (hp.mem_iff.2 (List.mem_cons_self ..)) with e' | e'
     ·exact e'.symm
     ·exact absurd (a1.1 b e') (Rv_asym _ _ (b1.1 a e))
   subst e
   rw [ih a1.2 b1.2 ((List.perm_cons _).1 hp)]
theorem ed_out {m adds : List M_} {n s g : Int} (n0 : Int) (hm : m.Pairwise (Rv n0)) : (vOk (srt mcmp (m ++ adds)) n s g ↔ vOk (adds.foldl insM m) n s g) ∧ (vOk (srt mcmp (m ++ adds)) n s g → srt mcmp (m ++ adds) = adds.foldl insM m) := by
 have sym : ∀ {x y : M_}, Cmp n x y → Cmp n y x := fun k => k.elim .inr .inl
 have hf := foldl_perm adds m
 have hs := srt_perm mcmp_ord (m ++ adds)
 have so := srt_sorted mcmp_ord (m ++ adds)
 have one : vOk (srt mcmp (m ++ adds)) n s g → srt mcmp (m ++ adds) = adds.foldl insM m := by
  intro h
  have hp := vOk_pair h
  have hc : (m ++ adds).Pairwise (Cmp n) := (List.Perm.pairwise_iff (fun k => sym k) hs).1 (hp.imp fun k => .inl k)
  have hm' : m.Pairwise (Rv n) := by
   refine ((List.pairwise_append.1 hc).1.and hm).imp fun {x y} k => ?_
   rcases k.1 with q | q
   ·exact q
   ·exact ⟨q.2.1, q.1, k.2.2.2⟩
  exact pair_ext hp (foldl_pair n adds m hm' hc) (hs.trans hf.symm)
 have two : vOk (adds.foldl insM m) n s g → srt mcmp (m ++ adds) = adds.foldl insM m := by
  intro h
  have hp := vOk_pair h
  have hpm : (srt mcmp (m ++ adds)).Perm (adds.foldl insM m) := hs.trans hf.symm
  have hc : (srt mcmp (m ++ adds)).Pairwise (Cmp n) := (List.Perm.pairwise_iff (fun k => sym k) hpm.symm).1 (hp.imp fun k => .inl k)
  refine pair_ext ((hc.and so).imp fun {x y} k => ?_) hp hpm
  rcases k.1 with q | q
  ·exact q
  ·exact absurd (Rv_mcmp q) k.2
 exact ⟨⟨fun h => (one h) ▸ h, fun h => (two h).symm ▸ h⟩, one⟩
theorem edV_eq (l : List M_) (n s g : Int) (adds : List M_) (cuts : List Int) (n' s' g' : Int) (h : vOk l n s g) : edV l n s g adds cuts n' s' g' = sAp l n s g adds cuts n' s' g' := by
 unfold edV sAp
 by_cases c : n' < n ∨ s' < s ∨ g' < g ∨ 30 < adds.length
 ·rw [if_pos c, if_neg (fun k => by omega)]
 ·rw [if_neg c, if_pos ⟨h, by omega, by omega, by omega, by omega⟩]
  have hc := (cutAll_spec cuts l (vOk_nums h)).2
  rw [hc]
  unfold apTail
  by_cases k : (l.filter (isCut cuts)).length = cuts.length
  ·rw [if_pos k, if_pos (by omega)]
   have hm : (l.filter fun m => !isCut cuts m).Pairwise (Rv n) := (vOk_pair h).sublist List.filter_sublist
   obtain ⟨o1, o2⟩ := ed_out (adds := adds) (n := n') (s := s') (g := g') n hm
   unfold apFin
   simp only []
   by_cases q : vOk (srt mcmp ((l.filter fun m => !isCut cuts m) ++ adds)) n' s' g'
   ·rw [if_pos q, if_pos (o1.1 q), o2 q]
   ·rw [if_neg q, if_neg (fun z => q (o1.2 z))]
  ·rw [if_neg k, if_neg (by omega)]
end Go.Proofs.Ytcgejabkjljeeaa.Pure
end

section
namespace Go.Proofs.Ytcgejabkjljeeaa.Pure
open Go.RowKit Go.Proofs.YtcgejabkjljeeaaW.PrintWords Go.Proofs.YtcgejabkjljeeaaW.PrintLast Go.Proofs.YtcgejabkjljeeaaW.PrintMore
open Go.Proofs.Ytcgejabkjljeeaa.P
set_option linter.unusedVariables false
set_option linter.unusedSimpArgs false
theorem toEdit_ev (adds : List S114) (cuts : List Int) (n s g : Int) (h1 : adds.length < 2097152) (h2 : cuts.length < 2097152) : Ev (fun k => laws_toEdit.f k adds cuts n s g) (adds.map cv_Meta, cuts, n, s, g) := by
 unfold laws_toEdit.f
 exact Ev.bind (toMetaS_ev adds h1) (Ev.bind (toInt64S_ev cuts h2) (Ev.now _))
theorem eqEdit_ev (adds : List M_) (cuts : List Int) (n s g : Int) (h1 : adds.length < 2097152) (h2 : cuts.length < 2097152) : Ev (fun k => laws_eqEdit.f k adds cuts n s g adds cuts n s g) true := by
 unfold laws_eqEdit.f
 exact Ev.bind (eqMetaS_ev adds h1) (Ev.pos rfl (Ev.bind (eqInt64S_ev cuts h2) (Ev.pos rfl (Ev.pos rfl (Ev.pos rfl (Ev.pos rfl (Ev.now _)))))))
theorem markVersion_ev (l : List M_) (a b c : Int) (hl : l.length < 2097152) (k0 : Int) (h0 : 0 ≤ k0) (h1 : k0 < 274877906944) : Ev (fun k => laws_markVersion.f k l a b c k0) (k0 + 5 * l.length, (List.range l.length).map fun j : Nat => mk_Meta (k0 + 5 * (j : Int))) := by
 unfold laws_markVersion.f
 exact Ev.bind (markMetaS_ev l hl k0 h0 h1) (Ev.now _)
theorem heldVersion_ev (n : Nat) (a b c : Int) (hl : n < 2097152) (k0 : Int) (h0 : 0 ≤ k0) (h1 : k0 < 274877906944) : Ev (fun k => laws_heldVersion.f k ((List.range n).map fun j : Nat => mk_Meta (k0 + 5 * (j : Int))) a b c k0) (k0 + 5 * n) := by
 unfold laws_heldVersion.f
 exact Ev.bind (heldMetaS_ev n hl k0 h0 h1) (Ev.neg (by omega) (Ev.now _))
end Go.Proofs.Ytcgejabkjljeeaa.Pure
end

section
namespace Go.Proofs.Ytcgejabkjljeeaa.Pure
open Go.RowKit Go.Proofs.YtcgejabkjljeeaaW.PrintWords Go.Proofs.YtcgejabkjljeeaaW.PrintLast Go.Proofs.YtcgejabkjljeeaaW.PrintMore
open Go.Proofs.Ytcgejabkjljeeaa.P
set_option linter.unusedVariables false
set_option linter.unusedSimpArgs false
theorem sAp_ok {l : List M_} {n s g : Int} {adds : List M_} {cuts : List Int} {n' s' g' : Int} (h : (sAp l n s g adds cuts n' s' g').2.2.2.2 = true) : vOk (sAp l n s g adds cuts n' s' g').1 (sAp l n s g adds cuts n' s' g').2.1 (sAp l n s g adds cuts n' s' g').2.2.1 (sAp l n s g adds cuts n' s' g').2.2.2.1 := by
 unfold sAp apTail apFin at h ⊢
 split at h
 ·rename_i c1
  rw [if_pos c1]
  split at h
  ·rename_i c2
   rw [if_pos c2]
   split at h
   ·rename_i c3
    rw [if_pos c3]
    exact c3
   ·cases h
  ·cases h
 ·cases h
def rpV : List S37 → Nat → List M_ → Int → Int → Int → List M_ × Int × Int × Int × Int
 | [], i, l, n, s, g => (l, n, s, g, (i : Int))
 | e :: es, i, l, n, s, g => if (sAp l n s g e.f0 e.f1 e.f2 e.f3 e.f4).2.2.2.2 = true then rpV es (i + 1) (sAp l n s g e.f0 e.f1 e.f2 e.f3 e.f4).1 (sAp l n s g e.f0 e.f1 e.f2 e.f3 e.f4).2.1 (sAp l n s g e.f0 e.f1 e.f2 e.f3 e.f4).2.2.1 (sAp l n s g e.f0 e.f1 e.f2 e.f3 e.f4).2.2.2.1 else (l, n, s, g, (i : Int))
def rpR (l : List M_) (n s g : Int) (es : List S37) : List M_ × Int × Int × Int × Int := if vOk l n s g then rpV es 0 l n s g else ([], 0, 0, 0, -1)
theorem rpV_len : ∀ (es : List S37) (i : Nat) (l : List M_) (n s g : Int), l.length ≤ 30 → (rpV es i l n s g).1.length ≤ 30
 | [], _, _, _, _, _, h => h
 | e :: es, i, l, n, s, g, h => by
  rw [rpV]
  split
  ·exact rpV_len es _ _ _ _ _ (sAp_len _ _ _ _ _ _ _ _ _)
  ·exact h
theorem rpR_len (l : List M_) (n s g : Int) (es : List S37) : (rpR l n s g es).1.length ≤ 30 := by
 unfold rpR
 split
 ·rename_i h
  exact rpV_len es 0 l n s g h.1
 ·simp
theorem rdE37 (l : List S37) (i : Nat) (h : i < l.length) : qq l (i : Int) = l[i] := by
 unfold qq
 rw [Int.toNat_natCast, List.getD_eq_getElem?_getD, List.getElem?_eq_getElem h]
 rfl
theorem replay_ev (l : List M_) (n s g : Int) (es : List S37) (hl : l.length < 2097152) (he : es.length < 2097152) (hc : ∀ e ∈ es, e.f1.length ≤ 2000000) :
  Ev (fun k => impl_Replay.f k l n s g es) (rpR l n s g es) ∧ Ev (fun k => spec_Replay.f k l n s g es) (rpR l n s g es) := by
 unfold impl_Replay.f spec_Replay.f rpR
 have hv := sVersionOk_ev l n s g hl
 by_cases c : vOk l n s g
 ·rw [if_pos c]
  rw [decide_eq_true c] at hv
  have key : ∀ i, i ≤ es.length → ∀ (l : List M_) (n s g : Int), vOk l n s g → Ev (fun k => impl_Replay.l0 k es es (es.length : Int) (i : Int) l n s g) (rpV (es.drop i) i l n s g) ∧ Ev (fun k => spec_Replay.l0 k es (i : Int) l n s g) (rpV (es.drop i) i l n s g) := by
   refine downTo es.length ?_ ?_
   ·intro l n s g hv
    rw [List.drop_length, rpV]
    constructor
    ·refine Ev.step (fun k => impl_Replay.l0.eq_2 ..) ?_
     exact Ev.neg (by omega) (Ev.now _)
    ·refine Ev.step (fun k => spec_Replay.l0.eq_2 ..) ?_
     exact Ev.neg (by omega) (Ev.now _)
   ·intro i hi ih l n s g hv
    rw [List.drop_eq_getElem_cons hi, rpV]
    have hed : impl_Version_edited.f l n s g (es[i]).f0 (es[i]).f1 (es[i]).f2 (es[i]).f3 (es[i]).f4 = some (sAp l n s g (es[i]).f0 (es[i]).f1 (es[i]).f2 (es[i]).f3 (es[i]).f4) := by
     unfold impl_Version_edited.f
     rw [if_pos (by have := hv.1; omega), edV_eq l n s g _ _ _ _ _ hv]
    have hsp := sApply_ev l n s g (es[i]).f0 (es[i]).f1 (es[i]).f2 (es[i]).f3 (es[i]).f4 (by have := hv.1; omega) (hc _ (List.getElem_mem hi))
    have hok := fun (hq : (sAp l n s g (es[i]).f0 (es[i]).f1 (es[i]).f2 (es[i]).f3 (es[i]).f4).2.2.2.2 = true) => ih _ _ _ _ (sAp_ok hq)
    generalize sAp l n s g (es[i]).f0 (es[i]).f1 (es[i]).f2 (es[i]).f3 (es[i]).f4 = r at hed hsp hok ⊢
    constructor
    ·refine Ev.step (fun k => impl_Replay.l0.eq_2 ..) ?_
     rw [rdE37 es i hi, wsucc (by omega)]
     refine Ev.pos (by omega) (Ev.pos (by omega) (Ev.pos (by omega) (Ev.bindS hed ?_)))
     by_cases q : r.2.2.2.2 = true
     ·rw [if_pos q]
      exact Ev.pos q (hok q).1
     ·rw [if_neg q]
      exact Ev.neg q (Ev.now _)
    ·refine Ev.step (fun k => spec_Replay.l0.eq_2 ..) ?_
     rw [rdE37 es i hi, wsucc (by omega)]
     refine Ev.pos (by omega) (Ev.pos (by omega) (Ev.bind hsp ?_))
     by_cases q : r.2.2.2.2 = true
     ·rw [if_pos q]
      exact Ev.pos q (hok q).2
     ·rw [if_neg q]
      exact Ev.neg q (Ev.now _)
  have h0 := key 0 (Nat.zero_le _) l n s g c
  rw [List.drop_zero] at h0
  have hcl : impl_Meta_69.f l = some l := if_pos (by omega)
  have hcp : spec_l12Copy.f l n s g = some (l, n, s, g) := by
   unfold spec_l12Copy.f
   rw [Option.bind_some, if_pos (by rw [List.length_nil]; omega), List.nil_append]
  have hvi : impl_VersionOk.f l n s g = some true := by unfold impl_VersionOk.f; rw [decide_eq_true c]
  exact ⟨Ev.bindS hvi (Ev.pos rfl (Ev.bindS hcl h0.1)), Ev.bind hv (Ev.pos rfl (Ev.bindS hcp h0.2))⟩
 ·rw [if_neg c]
  rw [decide_eq_false c] at hv
  have hvi : impl_VersionOk.f l n s g = some false := by unfold impl_VersionOk.f; rw [decide_eq_false c]
  exact ⟨Ev.bindS hvi (Ev.neg (by decide) (Ev.now _)), Ev.bind hv (Ev.neg (by decide) (Ev.now _))⟩
def cvE (x : S27) : S37 := ⟨x.f0.map cv_Meta, x.f1, x.f2, x.f3, x.f4⟩
def wfE (x : S27) : Prop := (x.f0.length ≤ 9223372036854775807 ∧ ∀ y ∈ x.f0, wf_Meta y) ∧ x.f1.length ≤ 9223372036854775807
def totE : List S37 → Int
 | [] => 0
 | e :: es => (e.f0.length : Int) + (e.f1.length : Int) + totE es
theorem totE_nn : ∀ es : List S37, 0 ≤ totE es
 | [] => Int.le_refl _
 | e :: es => by have := totE_nn es; rw [totE]; omega
theorem rdE27 (l : List S27) (i : Nat) (h : i < l.length) : rd_T27 l (i : Int) = l[i] := by
 unfold rd_T27
 rw [Int.toNat_natCast, List.getD_eq_getElem?_getD, List.getElem?_eq_getElem h]
 rfl
theorem szMetaS2_ev (l : List S114) (a : Int) (hw : ∀ x ∈ l, wf_Meta x) (hl : l.length ≤ 9223372036854775807) (h0 : 0 ≤ a) (h1 : a ≤ 1048576) :
  ∃ r, Ev (fun k => laws_szMetaS.f k l a) r ∧ (r = -1 ∨ 0 ≤ r ∧ r + (l.length : Int) ≤ a) := by
 unfold laws_szMetaS.f
 rw [wid (x := a - (l.length : Int)) (by omega) (by omega)]
 by_cases c : a - (l.length : Int) < 0
 ·exact ⟨-1, Ev.pos c (Ev.now _), .inl rfl⟩
 ·have key : ∀ i, i ≤ l.length → ∀ b : Int, 0 ≤ b → b ≤ 1048576 → ∃ r, Ev (fun k => laws_szMetaS.l0 k l b (i : Int)) r ∧ r ≤ b ∧ (r = -1 ∨ 0 ≤ r) := by
   refine downTo l.length ?_ ?_
   ·intro b hb _
    exact ⟨b, Ev.step (fun k => rfl) (Ev.neg (by omega) (Ev.now _)), by omega, .inr hb⟩
   ·intro i hi ih b hb hb1
    have hmem : l.getD i z114 ∈ l := by rw [List.getD_eq_getElem?_getD, List.getElem?_eq_getElem hi]; exact List.getElem_mem hi
    obtain ⟨q, hq, hqb, hq2⟩ := szMeta_ev (l.getD i z114) b (hw _ hmem) hb hb1
    rcases hq2 with rfl | ⟨hq0, hq1⟩
    ·exact ⟨-1, Ev.step (fun k => rfl) (Ev.pos (by omega) (Ev.pos (by omega) (Ev.bindS hq (Ev.pos (by omega) (Ev.now _))))), by omega, .inl rfl⟩
    ·obtain ⟨r, hr, hrq, hr2⟩ := ih q hq0 (by omega)
     refine ⟨r, Ev.step (fun k => rfl) (Ev.pos (by omega) (Ev.pos (by omega) (Ev.bindS hq (Ev.neg (by omega) ?_)))), by omega, hr2⟩
     rw [wsucc (by omega)]
     exact hr
  obtain ⟨r, hr, hra, hr2⟩ := key 0 (Nat.zero_le _) (a - l.length) (by omega) (by omega)
  refine ⟨r, Ev.neg c hr, ?_⟩
  rcases hr2 with h | h
  ·exact .inl h
  ·exact .inr ⟨h, by omega⟩
theorem szEdit2_ev (x : S27) (a : Int) (hw : wfE x) (h3 : 0 ≤ a) (h4 : a ≤ 1048576) : ∃ r, Ev (fun k => laws_szEdit.f k x.f0 x.f1 x.f2 x.f3 x.f4 a) r ∧ (r = -1 ∨ 0 ≤ r ∧ r + (x.f0.length : Int) + (x.f1.length : Int) ≤ a) := by
 obtain ⟨q, hq, hq2⟩ := szMetaS2_ev x.f0 a hw.1.2 hw.1.1 h3 h4
 have h2 := hw.2
 unfold laws_szEdit.f
 rcases hq2 with rfl | ⟨hq0, hlen⟩
 ·exact ⟨-1, Ev.bind hq (Ev.pos (by omega) (Ev.now _)), .inl rfl⟩
 ·refine ⟨if q - (x.f1.length : Int) < 0 then -1 else q - (x.f1.length : Int), Ev.bind hq (Ev.neg (by omega) ?_), ?_⟩
  ·unfold laws_szInt64S.f
   rw [wid (x := q - (x.f1.length : Int)) (by omega) (by omega)]
   by_cases c : q - (x.f1.length : Int) < 0
   ·rw [if_pos c, if_pos c]
    exact Ev.bindS rfl (Ev.pos (by omega) (Ev.now _))
   ·rw [if_neg c, if_neg c]
    exact Ev.bindS rfl (Ev.neg (by omega) (Ev.now _))
  ·by_cases c : q - (x.f1.length : Int) < 0
   ·exact .inl (if_pos c)
   ·rw [if_neg c]
    exact .inr ⟨by omega, by omega⟩
theorem szEditS_ev (es : List S27) (a : Int) (hw : ∀ x ∈ es, wfE x) (hl : es.length ≤ 9223372036854775807) (h0 : 0 ≤ a) (h1 : a ≤ 1048576) :
  ∃ r, Ev (fun k => laws_szEditS.f k es a) r ∧ (r = -1 ∨ 0 ≤ r ∧ (es.length : Int) + totE (es.map cvE) ≤ 1048576) := by
 unfold laws_szEditS.f
 rw [wid (x := a - (es.length : Int)) (by omega) (by omega)]
 by_cases c : a - (es.length : Int) < 0
 ·exact ⟨-1, Ev.pos c (Ev.now _), .inl rfl⟩
 ·have key : ∀ i, i ≤ es.length → ∀ b : Int, 0 ≤ b → b ≤ 1048576 → ∃ r, Ev (fun k => laws_szEditS.l0 k es b (i : Int)) r ∧ (r = -1 ∨ 0 ≤ r ∧ r + totE ((es.drop i).map cvE) ≤ b) := by
   refine downTo es.length ?_ ?_
   ·intro b hb _
    refine ⟨b, Ev.step (fun k => laws_szEditS.l0.eq_2 ..) (Ev.neg (by omega) (Ev.now _)), .inr ⟨hb, ?_⟩⟩
    rw [List.drop_length, List.map_nil, totE]
    omega
   ·intro i hi ih b hb hb1
    obtain ⟨q, hq, hq2⟩ := szEdit2_ev es[i] b (hw _ (List.getElem_mem hi)) hb hb1
    rcases hq2 with rfl | ⟨hq0, hq1⟩
    ·refine ⟨-1, ?_, .inl rfl⟩
     refine Ev.step (fun k => laws_szEditS.l0.eq_2 ..) ?_
     rw [rdE27 es i hi]
     exact Ev.pos (by omega) (Ev.pos (by omega) (Ev.bind hq (Ev.pos (by omega) (Ev.now _))))
    ·obtain ⟨r, hr, hr2⟩ := ih q hq0 (by omega)
     refine ⟨r, ?_, ?_⟩
     ·refine Ev.step (fun k => laws_szEditS.l0.eq_2 ..) ?_
      rw [rdE27 es i hi, wsucc (by omega)]
      exact Ev.pos (by omega) (Ev.pos (by omega) (Ev.bind hq (Ev.neg (by omega) hr)))
     ·rcases hr2 with h | ⟨h, h'⟩
      ·exact .inl h
      ·refine .inr ⟨h, ?_⟩
       rw [List.drop_eq_getElem_cons hi, List.map_cons, totE]
       have e1 : (cvE es[i]).f0.length = (es[i]).f0.length := by unfold cvE; simp
       have e2 : (cvE es[i]).f1.length = (es[i]).f1.length := rfl
       rw [e1, e2]
       omega
  obtain ⟨r, hr, hr2⟩ := key 0 (Nat.zero_le _) (a - es.length) (by omega) (by omega)
  refine ⟨r, Ev.neg c hr, ?_⟩
  rcases hr2 with h | ⟨h, h'⟩
  ·exact .inl h
  ·rw [List.drop_zero] at h'
   exact .inr ⟨h, by omega⟩
theorem totE_mem : ∀ {es : List S37} {e : S37}, e ∈ es → (e.f0.length : Int) + (e.f1.length : Int) ≤ totE es
 | x :: es, e, h => by
  rw [totE]
  have := totE_nn es
  rcases List.mem_cons.1 h with rfl | h
  ·omega
  ·have := totE_mem h
   omega
theorem toEditS_ev (es : List S27) (h : es.length < 2097152) (hs : ∀ x ∈ es, x.f0.length < 2097152 ∧ x.f1.length < 2097152) : Ev (fun k => laws_toEditS.f k es) (es.map cvE) := by
 unfold laws_toEditS.f
 refine Ev.pos (by omega) (Ev.pos (by omega) ?_)
 rw [Int.toNat_natCast]
 have key : ∀ i, i ≤ es.length → ∀ ys : List S37, ys.length = es.length → Ev (fun k => laws_toEditS.l0 k es ys (i : Int)) (ys.take i ++ (es.drop i).map cvE) := by
  refine downTo es.length ?_ ?_
  ·intro ys hy
   refine Ev.step (fun k => laws_toEditS.l0.eq_2 ..) ?_
   refine Ev.neg (by omega) ((Ev.now _).eqr ?_)
   rw [List.drop_length, List.map_nil, List.append_nil, ← hy, List.take_length]
  ·intro i hi ih ys hy
   have hx := hs _ (List.getElem_mem hi)
   have ht := toEdit_ev (es[i]).f0 (es[i]).f1 (es[i]).f2 (es[i]).f3 (es[i]).f4 hx.1 hx.2
   refine Ev.step (fun k => laws_toEditS.l0.eq_2 ..) ?_
   rw [rdE27 es i hi, wsucc (by omega)]
   refine Ev.pos (by omega) (Ev.pos (by omega) (Ev.bind ht (Ev.pos (by omega) ?_)))
   refine (ih _ (by rw [List.length_set]; exact hy)).eqr ?_
   rw [Int.toNat_natCast, set_take ys i _ (by omega), List.drop_eq_getElem_cons hi, List.map_cons, List.append_assoc]
   rfl
 have h0 := key 0 (Nat.zero_le _) (List.replicate es.length z37) (by simp)
 rw [List.take_zero, List.nil_append, List.drop_zero] at h0
 exact h0
theorem eqEditS_ev (es : List S37) (h : es.length < 2097152) (hs : ∀ x ∈ es, x.f0.length < 2097152 ∧ x.f1.length < 2097152) : Ev (fun k => laws_eqEditS.f k es es) true := by
 unfold laws_eqEditS.f
 refine Ev.pos rfl ?_
 have key : ∀ i, i ≤ es.length → Ev (fun k => laws_eqEditS.l0 k es es (i : Int)) true := by
  refine downTo es.length ?_ ?_
  ·refine Ev.step (fun k => laws_eqEditS.l0.eq_2 ..) ?_
   exact Ev.neg (by omega) (Ev.now _)
  ·intro i hi ih
   have hx := hs _ (List.getElem_mem hi)
   refine Ev.step (fun k => laws_eqEditS.l0.eq_2 ..) ?_
   rw [rdE37 es i hi, wsucc (by omega)]
   exact Ev.pos (by omega) (Ev.pos (by omega) (Ev.pos (by omega) (Ev.bind (eqEdit_ev (es[i]).f0 (es[i]).f1 _ _ _ hx.1 hx.2) (Ev.pos rfl ih))))
 exact key 0 (Nat.zero_le _)
theorem markEditS_ev (es : List S37) (h : (es.length : Int) + totE es ≤ 1048576) (k0 : Int) (h0 : 0 ≤ k0) (h1 : k0 ≤ 1000000000) : ∃ r, Ev (fun k => laws_markEditS.f k es k0) r ∧ 0 ≤ r.1 := by
 unfold laws_markEditS.f
 have key : ∀ i, i ≤ es.length → ∀ (ys : List S37) (a : Int), ys.length = es.length → (∀ j, i ≤ j → j < es.length → ys[j]? = es[j]?) → 0 ≤ a → a + 10 * ((es.length : Int) - i) + 10 * totE (es.drop i) ≤ 100000000000 → ∃ r, Ev (fun k => laws_markEditS.l0 k ys a (i : Int)) r ∧ 0 ≤ r.1 := by
  refine downTo es.length ?_ ?_
  ·intro ys a hy _ ha _
   refine ⟨(a, ys), ?_, ha⟩
   refine Ev.step (fun k => laws_markEditS.l0.eq_2 ..) ?_
   exact Ev.neg (by omega) (Ev.now _)
  ·intro i hi ih ys a hy hj ha hb
   have hiy : i < ys.length := by omega
   have hel : ys[i] = es[i] := by
    have := hj i (Nat.le_refl _) hi
    rw [List.getElem?_eq_getElem hiy, List.getElem?_eq_getElem hi] at this
    exact Option.some.inj this
   rw [List.drop_eq_getElem_cons hi, totE] at hb
   have hnn := totE_nn (es.drop (i + 1))
   have hm := totE_mem (List.getElem_mem hi)
   have ht := totE_nn es
   have e1 := markMetaS_ev (es[i]).f0 (by omega) a ha (by omega)
   have e2 := markInt64S_ev (es[i]).f1 (by omega) (a + 5 * (es[i]).f0.length) (by omega) (by omega)
   have w1 : wrap64 (a + 5 * (es[i]).f0.length + 1 * (es[i]).f1.length + 1) = a + 5 * (es[i]).f0.length + 1 * (es[i]).f1.length + 1 := wid (by omega) (by omega)
   have w2 : wrap64 (a + 5 * (es[i]).f0.length + 1 * (es[i]).f1.length + 1 + 1) = a + 5 * (es[i]).f0.length + 1 * (es[i]).f1.length + 2 := by rw [wid (by omega) (by omega)]; omega
   have w3 : wrap64 (a + 5 * (es[i]).f0.length + 1 * (es[i]).f1.length + 2 + 1) = a + 5 * (es[i]).f0.length + 1 * (es[i]).f1.length + 3 := by rw [wid (by omega) (by omega)]; omega
   obtain ⟨r, hr, hr0⟩ := ih (ys.set i ⟨(List.range (es[i]).f0.length).map fun j : Nat => mk_Meta (a + 5 * (j : Int)), (List.range (es[i]).f1.length).map fun j : Nat => (a + 5 * ((es[i]).f0.length : Int) + 1 * (j : Int)), a + 5 * (es[i]).f0.length + 1 * (es[i]).f1.length, a + 5 * (es[i]).f0.length + 1 * (es[i]).f1.length + 1, a + 5 * (es[i]).f0.length + 1 * (es[i]).f1.length + 2⟩) (a + 5 * (es[i]).f0.length + 1 * (es[i]).f1.length + 3) (by rw [List.length_set]; exact hy) (fun j h2 h3 => by rw [List.getElem?_set_ne (by omega)]; exact hj j (by omega) h3) (by omega) (by omega)
   refine ⟨r, ?_, hr0⟩
   refine Ev.step (fun k => laws_markEditS.l0.eq_2 ..) ?_
   rw [rdE37 ys i hiy, hel, wsucc (by omega)]
   refine Ev.pos (by omega) (Ev.pos (by omega) (Ev.bind e1 (Ev.bind e2 ?_)))
   simp only [w1, w2, w3, Int.toNat_natCast]
   exact hr
 exact key 0 (Nat.zero_le _) es k0 rfl (fun _ _ _ => rfl) h0 (by rw [List.drop_zero]; omega)
def wfS27 (x : S27) : Prop := (x.f0.length ≤ 9223372036854775807 ∧ ∀ y ∈ x.f0, wf_Meta y) ∧ (x.f1.length ≤ 9223372036854775807 ∧ ∀ y ∈ x.f1, (-9223372036854775808 ≤ y ∧ y ≤ 9223372036854775807)) ∧ (-9223372036854775808 ≤ x.f2 ∧ x.f2 ≤ 9223372036854775807) ∧ (-9223372036854775808 ≤ x.f3 ∧ x.f3 ≤ 9223372036854775807) ∧ (-9223372036854775808 ≤ x.f4 ∧ x.f4 ≤ 9223372036854775807)
theorem FnExactReplay : ∀ (l0_0 : (List S114)) (a0_1 : Int) (a0_2 : Int) (a0_3 : Int) (l1 : (List S27)), (l0_0.length ≤ 9223372036854775807 ∧ ∀ x ∈ l0_0, wf_Meta x) → (-9223372036854775808 ≤ a0_1 ∧ a0_1 ≤ 9223372036854775807) → (-9223372036854775808 ≤ a0_2 ∧ a0_2 ≤ 9223372036854775807) → (-9223372036854775808 ≤ a0_3 ∧ a0_3 ≤ 9223372036854775807) → (l1.length ≤ 9223372036854775807 ∧ ∀ x ∈ l1, wfS27 x) → Ev (fun k => laws_FnExactReplay.f k l0_0 a0_1 a0_2 a0_3 l1) true := by
 intro l n s g es hl _ _ _ hes
 unfold laws_FnExactReplay.f
 obtain ⟨q, hq, hqa, hq2⟩ := szMetaS_ev l 1048576 hl.2 hl.1 (by omega) (by omega)
 have hsz : Ev (fun k => laws_szVersion.f k l n s g 1048576) (if q < 0 then -1 else q) := by
  unfold laws_szVersion.f
  refine Ev.bind hq ?_
  by_cases c : q < 0
  ·exact Ev.pos c ((Ev.now _).eqr (if_pos c).symm)
  ·exact Ev.neg c ((Ev.now _).eqr (if_neg c).symm)
 rcases hq2 with rfl | ⟨hq0, hlen, _⟩
 ·exact Ev.bind hsz (Ev.pos (by simp) (Ev.now _))
 rw [if_neg (by omega)] at hsz
 refine Ev.bind hsz (Ev.neg (by omega) ?_)
 obtain ⟨z, hz, hz2⟩ := szEditS_ev es q (fun x hx => ⟨(hes.2 x hx).1, (hes.2 x hx).2.1.1⟩) hes.1 hq0 (by omega)
 rcases hz2 with rfl | ⟨hz0, htot⟩
 ·exact Ev.bind hz (Ev.pos (by omega) (Ev.now _))
 refine Ev.bind hz (Ev.neg (by omega) ?_)
 have htn := totE_nn (es.map cvE)
 have hl1 : (l.map cv_Meta).length < 2097152 := by rw [List.length_map]; omega
 have he1 : (es.map cvE).length < 2097152 := by rw [List.length_map]; omega
 have hs1 : ∀ x ∈ es.map cvE, x.f0.length < 2097152 ∧ x.f1.length < 2097152 := fun x hx => by have := totE_mem hx; omega
 have hs0 : ∀ x ∈ es, x.f0.length < 2097152 ∧ x.f1.length < 2097152 := fun x hx => by
  have h2 := hs1 _ (List.mem_map.2 ⟨x, hx, rfl⟩)
  unfold cvE at h2
  simp only [List.length_map] at h2
  exact h2
 have hv := toVersion_ev l n s g (by omega)
 have he := toEditS_ev es (by omega) hs0
 have hrp := replay_ev (l.map cv_Meta) n s g (es.map cvE) hl1 he1 (fun e hx => by have := totE_mem hx; omega)
 have hr := rpR_len (l.map cv_Meta) n s g (es.map cvE)
 generalize rpR (l.map cv_Meta) n s g (es.map cvE) = r at hrp hr
 obtain ⟨R, rn, rs, rg, rb⟩ := r
 replace hr : R.length ≤ 30 := hr
 have heq := eqVersion_ev R rn rs rg (by omega)
 have hmv := markVersion_ev (l.map cv_Meta) n s g hl1 1 (by omega) (by omega)
 obtain ⟨me, hme, hme0⟩ := markEditS_ev (es.map cvE) (by rw [List.length_map]; omega) (1 + 5 * (l.map cv_Meta).length) (by omega) (by omega)
 have hmr := markVersion_ev R rn rs rg (by omega) 1 (by omega) (by omega)
 have hhr := heldVersion_ev R.length rn rs rg (by omega) 1 (by omega) (by omega)
 exact Ev.bind hv (Ev.bind he (Ev.bind hrp.2 (Ev.bind hrp.1 (Ev.bind heq (Ev.pos rfl (Ev.pos rfl (Ev.bind (eqVersion_ev _ n s g hl1) (Ev.pos rfl (Ev.bind (eqEditS_ev _ he1 hs1) (Ev.pos rfl (Ev.bind hmv (Ev.bind hme (Ev.pos hme0 (Ev.bind hmr (Ev.bind hhr (Ev.pos (by omega) (Ev.pos rfl (Ev.now _))))))))))))))))))
end Go.Proofs.Ytcgejabkjljeeaa.Pure
end
