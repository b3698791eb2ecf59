/- Proved: the law FnExactScanBack of the given program returns true for every input of its Go types and leaves each argument as it was; no condition. (Part 11 of 12.) -/
import Derived.Test.YtbojfnijgmppbaaCFnExactScanBack4
import Derived.Test.YtbojfnijgmppbaaCFnExactScanBack7
import Derived.Test.YtbojfnijgmppbaaCFnExactScanBack6
import Derived.Test.YtbojfnijgmppbaaCFnExactScanBack5
import Derived.Test.YtbojfnijgmppbaaCFnExactScanBack9
import Derived.Lib.EndianBits
import Derived.Test.YtbojfnijgmppbaaCFnExactScanBack8
section
namespace Go.Proofs.Ytbojfnijgmppbaa.Pure
open Go.RowKit Go.Proofs.YtbojfnijgmppbaaW.PrintWords Go.Proofs.YtbojfnijgmppbaaW.PrintLast Go.Proofs.YtbojfnijgmppbaaW.PrintMore
open Go.Proofs.Ytbojfnijgmppbaa.P
set_option linter.unusedVariables false
set_option linter.unusedSimpArgs false
abbrev E_ := S48
abbrev P_ := S76
def gotV (l : List E_) (u : ByteArray) (s : Int) : Int × ByteArray := match l.find? (lookp u s) with
  | none => (0, ⟨#[]⟩)
  | some e => if e.f0.f2 = 0 then (2, ⟨#[]⟩) else (1, e.f1)
def got (l : List E_) (s : Int) (u : ByteArray) : Option P_ := if (gotV l u s).1 = 1 then some ⟨u, (gotV l u s).2⟩ else none
theorem find_idxf {α : Type} (p : α → Bool) : ∀ (l : List α) (i : Nat), (l.find? p = none ∧ idxf p l i = -1) ∨ ∃ (k : Nat) (h : k < l.length), l.find? p = some l[k] ∧ idxf p l i = ((i + k : Nat) : Int)
  | [], _ => .inl ⟨rfl, rfl⟩
  | x :: xs, i => by
    cases h : p x with
    | true => exact .inr ⟨0, by simp, by simp [h], by simp [idxf, h]⟩
    | false =>
      simp only [idxf, h, Bool.false_eq_true, if_false, List.find?_cons_of_neg, not_false_eq_true]
      rcases find_idxf p xs (i + 1) with ⟨h1, h2⟩ | ⟨k, hk, h1, h2⟩
      · exact .inl ⟨h1, h2⟩
      · exact .inr ⟨k + 1, by simpa using hk, by simpa using h1, by rw [h2]; congr 1; omega⟩
theorem get_ev (l : List E_) (u : ByteArray) (s : Int) : impl_get.f l u s = some (gotV l u s) := by
  unfold impl_get.f impl_looked.f gotV
  rw [Option.bind_some]
  rcases find_idxf (lookp u s) l 0 with ⟨h1, h2⟩ | ⟨k, hk, h1, h2⟩
  · rw [h1, h2, if_pos (by omega)]
  · rw [h1, h2, Nat.zero_add, if_neg (by omega), if_pos (by omega), if_pos (by omega), rdE l k hk]
    simp only []
    split <;> rfl
def visV (l : List E_) (s : Int) : List P_ := (usersOf l).filterMap (got l s)
theorem filterMap_le {α β : Type} (f : α → Option β) : ∀ l : List α, (l.filterMap f).length ≤ l.length
  | [] => by simp
  | x :: xs => by
    have := filterMap_le f xs
    rw [List.filterMap_cons]
    split <;> simp <;> omega
theorem visV_len (l : List E_) (s : Int) : (visV l s).length ≤ l.length := Nat.le_trans (filterMap_le _ _) (uu_len l l.length)
theorem visible_ev (l : List E_) (hl : l.length ≤ 400) (s : Int) : Ev (fun k => impl_visible.f k l s) (visV l s) := by
  unfold impl_visible.f
  refine Ev.bind (users_ev l hl) ?_
  have hu : (usersOf l).length ≤ 400 := Nat.le_trans (uu_len l l.length) hl
  unfold visV
  generalize usersOf l = us at hu
  have key : ∀ i, i ≤ us.length → Ev (fun k => impl_visible.l0 k l s ((us.take i).filterMap (got l s)) us (us.length : Int) (i : Int)) (us.filterMap (got l s)) := by
    refine downTo us.length ?_ ?_
    · refine Ev.step (fun k => impl_visible.l0.eq_2 ..) ?_
      rw [List.take_length]
      exact Ev.neg (by omega) (Ev.now _)
    · intro i hi ih
      have hle := filterMap_le (got l s) (us.take i)
      rw [List.length_take] at hle
      have hr : rdOf ByteArray.empty us (i : Int) = us[i] := by
        unfold rdOf
        rw [Int.toNat_natCast, List.getD_eq_getElem?_getD, List.getElem?_eq_getElem hi]
        rfl
      refine Ev.step (fun k => impl_visible.l0.eq_2 ..) ?_
      rw [hr, wsucc (show i < 4611686018427387904 by omega)]
      rw [List.take_add_one, List.getElem?_eq_getElem hi, List.filterMap_append] at ih
      refine Ev.pos (by omega) (Ev.pos (by omega) (Ev.pos (by omega) (Ev.bindS (get_ev l us[i] s) ?_)))
      by_cases c : (gotV l us[i] s).1 = 1
      · have hg : got l s us[i] = some ⟨us[i], (gotV l us[i] s).2⟩ := if_pos c
        simp only [Option.toList, List.filterMap_cons, hg, List.filterMap_nil] at ih
        exact Ev.pos c (Ev.pos (by omega) ih)
      · have hg : got l s us[i] = none := if_neg c
        simp only [Option.toList, List.filterMap_cons, hg, List.filterMap_nil, List.append_nil] at ih
        exact Ev.neg c ih
  exact key 0 (Nat.zero_le _)
def sv (s : Int) : ByteArray → List E_ → List P_
  | _, [] => []
  | last, e :: es => if e.f0.f1 > s ∨ e.f0.f0 = last then sv s last es else (if e.f0.f2 = 1 then [(⟨e.f0.f0, e.f1⟩ : P_)] else []) ++ sv s e.f0.f0 es
theorem sVisible_loop (l : List E_) (hl : l.length ≤ 400) (s : Int) : Ev (fun k => spec_l13Visible.l0 k l s [] ⟨#[]⟩ 0) (sv s ⟨#[]⟩ l) := by
  have key : ∀ i, i ≤ l.length → ∀ (out : List P_) (last : ByteArray), out.length ≤ i → Ev (fun k => spec_l13Visible.l0 k l s out last (i : Int)) (out ++ sv s last (l.drop i)) := by
    refine downTo l.length ?_ ?_
    · intro out last _
      refine Ev.step (fun k => spec_l13Visible.l0.eq_2 ..) ?_
      rw [List.drop_length, sv, List.append_nil]
      exact Ev.neg (by omega) (Ev.now _)
    · intro i hi ih out last ho
      have hd : l.drop i = l[i] :: l.drop (i + 1) := List.drop_eq_getElem_cons hi
      refine Ev.step (fun k => spec_l13Visible.l0.eq_2 ..) ?_
      rw [rdE l i hi]
      refine Ev.pos (by omega) (Ev.pos (by omega) ?_)
      have skip : (l[i].f0.f1 > s ∨ l[i].f0.f0 = last) → Ev (fun k => spec_l13Visible.j1 k l s out last (i : Int) true l[i].f0.f0 l[i].f0.f1 l[i].f0.f2) (out ++ sv s last (l.drop i)) := fun h => by
        refine Ev.step (fun k => spec_l13Visible.j1.eq_2 ..) ?_
        rw [wsucc (show i < 4611686018427387904 by omega)]
        refine Ev.pos rfl ((ih out last (by omega)).eqr ?_)
        rw [hd, sv, if_pos h]
      by_cases c : l[i].f0.f1 > s
      · exact Ev.pos c (skip (.inl c))
      · refine Ev.neg c ?_
        by_cases c2 : l[i].f0.f0 = last
        · rw [show (l[i].f0.f0.toList == last.toList) = true from beq_iff_eq.2 (by rw [c2])]
          exact skip (.inr c2)
        · rw [show (l[i].f0.f0.toList == last.toList) = false from beq_eq_false_iff_ne.2 fun h => c2 (by rw [toList_toL, toList_toL] at h; exact toL_inj h)]
          refine Ev.step (fun k => spec_l13Visible.j1.eq_2 ..) ?_
          rw [rdE l i hi, wsucc (show i < 4611686018427387904 by omega)]
          have hs : sv s last (l.drop i) = (if l[i].f0.f2 = 1 then [(⟨l[i].f0.f0, l[i].f1⟩ : P_)] else []) ++ sv s l[i].f0.f0 (l.drop (i + 1)) := by rw [hd, sv, if_neg (by rintro (h | h); exact c h; exact c2 h)]
          rw [hs]
          refine Ev.neg (by simp) ?_
          by_cases c3 : l[i].f0.f2 = 1
          · refine Ev.pos c3 (Ev.pos (by omega) (Ev.pos (by omega) (Ev.pos (by omega) ((ih _ _ (by rw [List.length_append]; simp only [List.length_cons, List.length_nil]; omega)).eqr ?_))))
            simp [c3]
          · refine Ev.neg c3 ((ih _ _ (by omega)).eqr ?_)
            simp [c3]
  exact (key 0 (Nat.zero_le _) [] _ (by simp)).eqr rfl
def srt (l : List E_) : Prop := l.Pairwise fun a b => tless b.f0.f0 a.f0.f0 = false
theorem row_srt {l : List E_} (h : rowFrom l 0) : srt l := by
  unfold srt
  rw [List.pairwise_iff_getElem]
  intro i j hi hj hij
  have h1 := row_lt h (j - i - 1) i (by omega)
  have e : i + (j - i - 1) + 1 = j := by omega
  simp only [e] at h1
  unfold ecmp at h1
  rw [kcmp_lt] at h1
  rcases h1 with h1 | ⟨h1, _⟩
  · exact bl_not h1
  · rw [h1]
    exact bl_irrefl _
def ug : ByteArray → List E_ → List ByteArray
  | _, [] => []
  | c, e :: es => if e.f0.f0 = c then ug c es else e.f0.f0 :: ug e.f0.f0 es
def uf : List E_ → List ByteArray
  | [] => []
  | e :: es => e.f0.f0 :: ug e.f0.f0 es
theorem uu_uf (l : List E_) : usersOf l = uf l := by
  have key : ∀ (l pre : List E_) (p : E_), ∀ i, i ≤ l.length → uu (pre ++ p :: l) (pre.length + 1 + l.length) = uu (pre ++ p :: l) (pre.length + 1) ++ ug p.f0.f0 l := by
    intro l
    induction l with
    | nil => intro pre p i _; simp [ug]
    | cons e es ih =>
      intro pre p i hi
      have h := ih (pre ++ [p]) e 0 (Nat.zero_le _)
      rw [List.append_assoc, List.length_append] at h
      have e1 : pre.length + [p].length + 1 + es.length = pre.length + 1 + (e :: es).length := by simp; omega
      rw [e1] at h
      have e2 : (pre ++ ([p] ++ e :: es)) = pre ++ p :: e :: es := rfl
      rw [e2] at h
      rw [h]
      have e3 : pre.length + [p].length + 1 = (pre.length + 1) + 1 := by simp
      rw [e3, uu, List.append_assoc]
      congr 1
      have g1 : (pre ++ p :: e :: es).getD (pre.length + 1 - 1) z48 = p := by rw [List.getD_eq_getElem?_getD, Nat.add_sub_cancel, List.getElem?_append_right (Nat.le_refl _), Nat.sub_self]; rfl
      have g2 : (pre ++ p :: e :: es).getD (pre.length + 1) z48 = e := by rw [List.getD_eq_getElem?_getD, List.getElem?_append_right (by omega), Nat.add_sub_cancel_left]; rfl
      rw [g1, g2, ug]
      by_cases c : e.f0.f0 = p.f0.f0
      · rw [if_neg (by rintro (h | h); omega; exact h c.symm), if_pos c, c, List.nil_append]
      · rw [if_pos (.inr fun h => c h.symm), if_neg c]
        rfl
  cases l with
  | nil => rfl
  | cons e es =>
    have := key es [] e 0 (Nat.zero_le _)
    unfold usersOf
    rw [show (e :: es).length = ([] : List E_).length + 1 + es.length from by simp; omega]
    refine this.trans ?_
    simp [uu, uf]
theorem gotV_none (l : List E_) (s : Int) (c : ByteArray) (h : ∀ e ∈ l, e.f0.f0 ≠ c) : got l s c = none := by
  have : l.find? (lookp c s) = none := by
    rw [List.find?_eq_none]
    intro e he hp
    unfold lookp at hp
    rw [Bool.and_eq_true, beq_iff_eq, toList_toL, toList_toL] at hp
    exact h e he (toL_inj hp.1)
  unfold got gotV
  rw [this]
  rfl
theorem got_cons_ne (e : E_) (l : List E_) (s : Int) (u : ByteArray) (h : lookp u s e = false) : got (e :: l) s u = got l s u := by
  unfold got gotV
  rw [List.find?_cons_of_neg (by simp [h])]
theorem got_cons_eq (e : E_) (l : List E_) (s : Int) (u : ByteArray) (h : lookp u s e = true) (hk : e.f0.f2 = 0 ∨ e.f0.f2 = 1) : got (e :: l) s u = if e.f0.f2 = 1 then some ⟨u, e.f1⟩ else none := by
  unfold got gotV
  rw [List.find?_cons_of_pos h]
  rcases hk with hk | hk <;> simp [hk]
theorem ug_ne : ∀ (l : List E_) (c : ByteArray), srt l → (∀ e ∈ l, tless e.f0.f0 c = false) → ∀ u ∈ ug c l, tless c u = true
  | [], _, _, _, _, h => by simp [ug] at h
  | e :: es, c, hs, hc, u, h => by
    have hs' := List.pairwise_cons.1 hs
    rw [ug] at h
    split at h
    · exact ug_ne es c hs'.2 (fun x hx => hc x (List.mem_cons_of_mem _ hx)) u h
    · rename_i hne
      have hlt : tless c e.f0.f0 = true := by
        cases hq : tless c e.f0.f0 with
        | true => rfl
        | false =>
          have := bl_eq (a := e.f0.f0.toList) (b := c.toList) (hc e List.mem_cons_self) hq
          rw [toList_toL, toList_toL] at this
          exact absurd (toL_inj this) hne
      rcases List.mem_cons.1 h with h | h
      · rw [h]; exact hlt
      · exact bl_trans hlt (ug_ne es e.f0.f0 hs'.2 (fun x hx => hs'.1 x hx) u h)
theorem filterMap_congr' {α β : Type} {f g : α → Option β} : ∀ {l : List α}, (∀ x ∈ l, f x = g x) → l.filterMap f = l.filterMap g
  | [], _ => rfl
  | x :: xs, h => by rw [List.filterMap_cons, List.filterMap_cons, h x List.mem_cons_self, filterMap_congr' (fun y hy => h y (List.mem_cons_of_mem _ hy))]
theorem tless_ne {a b : ByteArray} (h : tless a b = true) : a ≠ b := fun e => by
  rw [e] at h
  have := bl_irrefl b.toList
  unfold tless at h
  rw [h] at this
  cases this
theorem lookp_ne {u : ByteArray} {s : Int} {e : E_} (h : e.f0.f0 ≠ u) : lookp u s e = false := by
  unfold lookp
  rw [show (e.f0.f0.toList == u.toList) = false from beq_eq_false_iff_ne.2 fun h2 => h (by rw [toList_toL, toList_toL] at h2; exact toL_inj h2), Bool.false_and]
theorem sv_all (s : Int) : ∀ (l : List E_), srt l → (∀ e ∈ l, e.f0.f2 = 0 ∨ e.f0.f2 = 1) →
    (∀ last, (∀ e ∈ l, e.f0.f0 ≠ last) → sv s last l = (uf l).filterMap (got l s)) ∧
    (∀ c, (∀ e ∈ l, tless e.f0.f0 c = false) → sv s c l = (ug c l).filterMap (got l s)) ∧
    (∀ c last, (∀ e ∈ l, tless e.f0.f0 c = false) → (∀ e ∈ l, e.f0.f0 ≠ last) → sv s last l = (got l s c).toList ++ (ug c l).filterMap (got l s)) := by
  intro l
  induction l with
  | nil =>
    intro _ _
    refine ⟨fun _ _ => rfl, fun _ _ => rfl, fun c last _ _ => ?_⟩
    rw [gotV_none [] s c (by simp)]
    rfl
  | cons e es ih =>
    intro hs hk
    have hs' := List.pairwise_cons.1 hs
    obtain ⟨iP, iQ, iR⟩ := ih hs'.2 (fun x hx => hk x (List.mem_cons_of_mem _ hx))
    have hup : ∀ x ∈ es, tless x.f0.f0 e.f0.f0 = false := hs'.1
    have hrest : ∀ u ∈ ug e.f0.f0 es, got (e :: es) s u = got es s u := fun u hu => got_cons_ne e es s u (lookp_ne (tless_ne (ug_ne es _ hs'.2 hup u hu)))
    have hP : ∀ last, (∀ x ∈ e :: es, x.f0.f0 ≠ last) → sv s last (e :: es) = (got (e :: es) s e.f0.f0).toList ++ (ug e.f0.f0 es).filterMap (got (e :: es) s) := by
      intro last hl
      rw [filterMap_congr' hrest]
      by_cases c : e.f0.f1 > s
      · have hn : lookp e.f0.f0 s e = false := by unfold lookp; rw [decide_eq_false (by omega), Bool.and_false]
        rw [sv, if_pos (.inl c), got_cons_ne e es s _ hn]
        exact iR _ _ hup (fun x hx => hl x (List.mem_cons_of_mem _ hx))
      · have hn : lookp e.f0.f0 s e = true := by unfold lookp; rw [decide_eq_true (by omega), Bool.and_true]; exact beq_self_eq_true _
        rw [sv, if_neg (by rintro (h | h); exact c h; exact hl e List.mem_cons_self h), got_cons_eq e es s _ hn (hk e List.mem_cons_self), iQ _ hup]
        congr 1
        split <;> rfl
    refine ⟨fun last hl => ?_, fun c hc => ?_, fun c last hc hl => ?_⟩
    · rw [hP last hl, uf, List.filterMap_cons]
      cases got (e :: es) s e.f0.f0 <;> rfl
    · by_cases h : e.f0.f0 = c
      · subst h
        rw [sv, if_pos (.inr rfl), ug, if_pos rfl, filterMap_congr' hrest]
        exact iQ _ hup
      · have hall : ∀ x ∈ e :: es, x.f0.f0 ≠ c := by
          have hlt : tless c e.f0.f0 = true := ug_ne (e :: es) c hs hc _ (by rw [ug, if_neg h]; exact List.mem_cons_self)
          intro x hx hxc
          rcases List.mem_cons.1 hx with hx | hx
          · exact h (hx ▸ hxc)
          · have := hup x hx
            rw [hxc, hlt] at this
            cases this
        rw [hP c hall, ug, if_neg h, List.filterMap_cons]
        cases got (e :: es) s e.f0.f0 <;> rfl
    · by_cases h : e.f0.f0 = c
      · subst h
        rw [hP last hl, ug, if_pos rfl]
      · have hall : ∀ x ∈ e :: es, x.f0.f0 ≠ c := by
          have hlt : tless c e.f0.f0 = true := ug_ne (e :: es) c hs hc _ (by rw [ug, if_neg h]; exact List.mem_cons_self)
          intro x hx hxc
          rcases List.mem_cons.1 hx with hx | hx
          · exact h (hx ▸ hxc)
          · have := hup x hx
            rw [hxc, hlt] at this
            cases this
        rw [hP last hl, gotV_none _ s c hall, ug, if_neg h, List.filterMap_cons]
        cases got (e :: es) s e.f0.f0 <;> rfl
theorem row_kind {l : List E_} (h : rowFrom l 0) : ∀ e ∈ l, (e.f0.f2 = 0 ∨ e.f0.f2 = 1) ∧ 1 ≤ e.f0.f0.size := by
  intro e he
  obtain ⟨j, hj, rfl⟩ := List.getElem_of_mem he
  have := (h j (Nat.zero_le _) hj).1
  unfold isEx isE isK isU at this
  omega
theorem sv_vis {l : List E_} (h : rowFrom l 0) (s : Int) : sv s ⟨#[]⟩ l = visV l s := by
  unfold visV
  rw [uu_uf]
  refine (sv_all s l (row_srt h) (fun e he => (row_kind h e he).1)).1 _ (fun e he hx => ?_)
  have := (row_kind h e he).2
  rw [hx] at this
  have h0 : (⟨#[]⟩ : ByteArray).size = 0 := rfl
  omega
noncomputable def vsV (l : List E_) (s : Int) : List P_ := if isRow l then visV l s else []
theorem Visible_ev (l : List E_) (hl : l.length < 2097152) (s : Int) : Ev (fun k => impl_Visible.f k l s) (vsV l s) := by
  unfold impl_Visible.f vsV
  refine Ev.bind (entriesOk_ev l hl) ?_
  by_cases c : isRow l
  · rw [if_pos c]
    exact Ev.pos (decide_eq_true c) (Ev.bind (visible_ev l c.1 s) (Ev.now _))
  · rw [if_neg c]
    exact Ev.neg (by simp [c]) (Ev.now _)
theorem vsV_len (l : List E_) (s : Int) : (vsV l s).length ≤ 400 := by
  unfold vsV
  split
  · rename_i h
    exact Nat.le_trans (visV_len l s) h.1
  · simp
end Go.Proofs.Ytbojfnijgmppbaa.Pure
end

section
namespace Go.Proofs.Ytbojfnijgmppbaa.Pure
open Go.RowKit Go.Proofs.YtbojfnijgmppbaaW.PrintWords Go.Proofs.YtbojfnijgmppbaaW.PrintLast Go.Proofs.YtbojfnijgmppbaaW.PrintMore
open Go.Proofs.Ytbojfnijgmppbaa.P
set_option linter.unusedVariables false
set_option linter.unusedSimpArgs false
theorem rdP (l : List P_) (i : Nat) (h : i < l.length) : rd_T76 l (i : Int) = l[i] := by
  unfold rd_T76
  rw [Int.toNat_natCast, List.getD_eq_getElem?_getD, List.getElem?_eq_getElem h]
  rfl
theorem range_ev (x : List P_) (hx : x.length ≤ 400) (a b : ByteArray) : Ev (fun k => spec_l13Range.f k x a b) (x.filter fun y => !outp a b y) := by
  unfold spec_l13Range.f
  have key : ∀ i, i ≤ x.length → ∀ out : List P_, out.length ≤ i → Ev (fun k => spec_l13Range.l0 k x a b out (i : Int)) (out ++ (x.drop i).filter fun y => !outp a b y) := by
    refine downTo x.length ?_ ?_
    · intro out _
      refine Ev.step (fun k => spec_l13Range.l0.eq_2 ..) ?_
      rw [List.drop_length]
      exact Ev.neg (by omega) ((Ev.now _).eqr (by simp))
    · intro i hi ih out ho
      have hd : x.drop i = x[i] :: x.drop (i + 1) := List.drop_eq_getElem_cons hi
      have out' : outp a b x[i] = true → out ++ (x.drop (i + 1)).filter (fun y => !outp a b y) = out ++ (x.drop i).filter (fun y => !outp a b y) := fun h => by rw [hd, List.filter_cons, h]; rfl
      have in' : outp a b x[i] = false → (out ++ [x[i]]) ++ (x.drop (i + 1)).filter (fun y => !outp a b y) = out ++ (x.drop i).filter (fun y => !outp a b y) := fun h => by rw [hd, List.filter_cons, h, List.append_assoc]; rfl
      have hl1 : (out ++ [x[i]]).length ≤ i + 1 := by rw [List.length_append]; simp only [List.length_cons, List.length_nil]; omega
      refine Ev.step (fun k => spec_l13Range.l0.eq_2 ..) ?_
      rw [rdP x i hi, wsucc (show i < 4611686018427387904 by omega)]
      refine Ev.pos (by omega) (Ev.pos (by omega) ?_)
      by_cases c1 : Op.bytesLess x[i].f0.toList a.toList = true
      · exact Ev.pos c1 ((ih out (by omega)).eqr (out' (by unfold outp; rw [c1, Bool.true_or])))
      · refine Ev.neg c1 ?_
        rw [Bool.not_eq_true] at c1
        by_cases c2 : b.toList = ([] : List UInt8)
        · refine Ev.pos c2 (Ev.pos (by omega) ((ih _ hl1).eqr (in' ?_)))
          unfold outp
          rw [c1, c2]
          rfl
        · refine Ev.neg c2 ?_
          have e2 : (b.toList == ([] : List UInt8)) = false := beq_eq_false_iff_ne.2 c2
          by_cases c3 : Op.bytesLess x[i].f0.toList b.toList = true
          · refine Ev.pos c3 (Ev.pos (by omega) ((ih _ hl1).eqr (in' ?_)))
            unfold outp
            rw [c1, c3, e2]
            rfl
          · refine Ev.neg c3 ((ih out (by omega)).eqr (out' ?_))
            rw [Bool.not_eq_true] at c3
            unfold outp
            rw [c1, c3, e2]
            rfl
  exact (key 0 (Nat.zero_le _) [] (by simp)).eqr (by simp)
noncomputable def scV (l : List E_) (s : Int) (a b : ByteArray) : List P_ := (vsV l s).filter fun y => !outp a b y
theorem scV_len (l : List E_) (s : Int) (a b : ByteArray) : (scV l s a b).length ≤ 400 := Nat.le_trans (List.length_filter_le _ _) (vsV_len l s)
theorem scan_ev (l : List E_) (hl : l.length < 2097152) (s : Int) (a b : ByteArray) : Ev (fun k => impl_Scan.f k l s a b) (scV l s a b) := by
  unfold impl_Scan.f
  exact Ev.bind (Visible_ev l hl s) (Ev.bindS rfl (Ev.now _))
theorem sScan_ev (l : List E_) (hl : l.length < 2097152) (s : Int) (a b : ByteArray) : Ev (fun k => spec_Scan.f k l s a b) (scV l s a b) := by
  unfold spec_Scan.f scV vsV
  refine Ev.bind (sEntriesOk_ev l hl) ?_
  by_cases c : isRow l
  · rw [if_pos c]
    refine Ev.pos (decide_eq_true c) (Ev.bind (a := visV l s) ?_ (Ev.bind (range_ev _ (Nat.le_trans (visV_len l s) c.1) a b) (Ev.now _)))
    unfold spec_l13Visible.f
    exact (sVisible_loop l c.1 s).eqr (sv_vis c.2 s)
  · rw [if_neg c]
    exact Ev.neg (by simp [c]) (Ev.now _)
end Go.Proofs.Ytbojfnijgmppbaa.Pure
end

section
namespace Go.Proofs.Ytbojfnijgmppbaa.Pure
open Go.RowKit Go.Proofs.YtbojfnijgmppbaaW.PrintWords Go.Proofs.YtbojfnijgmppbaaW.PrintLast Go.Proofs.YtbojfnijgmppbaaW.PrintMore
open Go.Proofs.Ytbojfnijgmppbaa.P
set_option linter.unusedVariables false
set_option linter.unusedSimpArgs false
theorem eqPairS_ev (l : List P_) (h : l.length < 2097152) : Ev (fun k => laws_eqPairS.f k l l) true := by
  unfold laws_eqPairS.f
  refine Ev.pos rfl ?_
  have key : ∀ i, i ≤ l.length → Ev (fun k => laws_eqPairS.l0 k l l (i : Int)) true := by
    refine downTo l.length (Ev.step (fun k => laws_eqPairS.l0.eq_2 ..) (Ev.neg (by omega) (Ev.now _))) ?_
    intro i hi ih
    refine Ev.step (fun k => laws_eqPairS.l0.eq_2 ..) (Ev.pos (by omega) (Ev.pos (by omega) (Ev.pos (by omega) (Ev.bindS (show laws_eqPair.f _ _ _ _ = some true from by simp [laws_eqPair.f]) (Ev.pos rfl ?_)))))
    rw [wsucc (by omega)]
    exact ih
  exact key 0 (Nat.zero_le _)
end Go.Proofs.Ytbojfnijgmppbaa.Pure
end

section
namespace Go.Proofs.Ytbojfnijgmppbaa.Pure
open Go.RowKit Go.Proofs.YtbojfnijgmppbaaW.PrintWords Go.Proofs.YtbojfnijgmppbaaW.PrintLast Go.Proofs.YtbojfnijgmppbaaW.PrintMore
open Go.Proofs.Ytbojfnijgmppbaa.P
set_option linter.unusedVariables false
set_option linter.unusedSimpArgs false
theorem scB_len (l : List E_) (s : Int) (a b : ByteArray) : (scV l s a b).reverse.length ≤ 400 := by rw [List.length_reverse]; exact scV_len l s a b
theorem scanBack_ev (l : List E_) (hl : l.length < 2097152) (s : Int) (a b : ByteArray) : Ev (fun k => impl_ScanBack.f k l s a b) (scV l s a b).reverse := by
  unfold impl_ScanBack.f
  have h := scV_len l s a b
  exact Ev.bind (scan_ev l hl s a b) (Ev.bind (reverse_ev _ (by omega)) (Ev.now _))
theorem sScanBack_ev (l : List E_) (hl : l.length < 2097152) (s : Int) (a b : ByteArray) : Ev (fun k => spec_ScanBack.f k l s a b) (scV l s a b).reverse := by
  unfold spec_ScanBack.f
  refine Ev.bind (sScan_ev l hl s a b) ?_
  have hx := scV_len l s a b
  generalize scV l s a b = x at hx
  have key : ∀ i : Nat, i ≤ x.length → Ev (fun k => spec_ScanBack.l0 k x (x.drop i).reverse ((i : Int) - 1)) x.reverse := by
    intro i
    induction i with
    | zero =>
      intro _
      refine Ev.step (fun k => spec_ScanBack.l0.eq_2 ..) ?_
      exact Ev.neg (by omega) ((Ev.now _).eqr (by simp))
    | succ i ih =>
      intro hi
      have := ih (by omega)
      have hd : (x.drop i).reverse = (x.drop (i + 1)).reverse ++ [x[i]] := by rw [List.drop_eq_getElem_cons (show i < x.length by omega), List.reverse_cons]
      rw [hd] at this
      refine Ev.step (fun k => spec_ScanBack.l0.eq_2 ..) ?_
      rw [show ((i + 1 : Nat) : Int) - 1 = (i : Int) from by omega, rdP x i (by omega), wid (x := (i : Int) - 1) (by omega) (by omega)]
      exact Ev.pos (by omega) (Ev.pos (by omega) (Ev.pos (by omega) (Ev.pos (by rw [List.length_reverse, List.length_drop]; omega) this)))
  have := key x.length (Nat.le_refl _)
  rw [List.drop_length] at this
  rw [wid (x := (x.length : Int) - 1) (by omega) (by omega)]
  exact this
theorem FnExactScanBack : ∀ (l0 : (List S56)) (a1 : Int) (a2 : ByteArray) (a3 : ByteArray), (l0.length ≤ 9223372036854775807 ∧ ∀ x ∈ l0, wf_Entry x) → (-9223372036854775808 ≤ a1 ∧ a1 ≤ 9223372036854775807) → a2.size ≤ 9223372036854775807 → a3.size ≤ 9223372036854775807 → Ev (fun k => laws_FnExactScanBack.f k l0 a1 a2 a3) true := by
  intro l a1 a2 a3 hl _ _ _
  unfold laws_FnExactScanBack.f
  by_cases d1 : (a2.size : Int) > 1048576
  · exact Ev.pos d1 (Ev.now _)
  refine Ev.neg d1 ?_
  by_cases d2 : (a3.size : Int) > 1048576
  · exact Ev.pos d2 (Ev.now _)
  refine Ev.neg d2 ?_
  obtain ⟨q, hq, hq1, hq2⟩ := szEntryS_ev l 1048576 hl.2 hl.1 (by omega) (by omega)
  rcases hq2 with rfl | ⟨hq0, hlen, hsm⟩
  · exact Ev.bind hq (Ev.pos (by omega) (Ev.now _))
  · have ht := toEntryS_ev l (by omega)
    have hm : (l.map cv_Entry).length < 2097152 := by rw [List.length_map]; omega
    have he := eqEntryS_ev (l.map cv_Entry) hm
    have hv := scB_len (l.map cv_Entry) a1 a2 a3
    have hs := sScanBack_ev _ hm a1 a2 a3
    have hi := scanBack_ev _ hm a1 a2 a3
    generalize (scV (l.map cv_Entry) a1 a2 a3).reverse = v at hv hs hi
    have hev := eqPairS_ev v (by omega)
    have hma := markEntryS_ev (l.map cv_Entry) hm 1 (by omega) (by omega)
    have hmv := markPairS_ev v (by omega) 1 (by omega) (by omega)
    have hhv := heldPairS_ev v.length (by omega) 1 (by omega) (by omega)
    refine Ev.bind hq (Ev.neg (by omega) (Ev.bind ht (Ev.bind hs (Ev.bind ht (Ev.bind hi (Ev.bind hev (Ev.pos rfl (Ev.bind ht (Ev.bind he (Ev.pos rfl (Ev.bind hma (Ev.neg (by simp only []; omega) (Ev.bind hev ?_)))))))))))))
    refine Ev.step (fun k => laws_FnExactScanBack.j0.eq_2 ..) ?_
    exact Ev.neg (by decide) (Ev.bind hmv (Ev.bind hhv (Ev.neg (by omega) (Ev.pos rfl (Ev.bind ht (Ev.bind hi (Ev.bind hev (Ev.pos rfl (Ev.bind hhv (Ev.neg (by omega) (Ev.pos rfl (Ev.now _))))))))))))
end Go.Proofs.Ytbojfnijgmppbaa.Pure
end
