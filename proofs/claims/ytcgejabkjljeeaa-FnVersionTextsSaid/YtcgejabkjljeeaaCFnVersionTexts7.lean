/- Proved: the law FnVersionTexts of the given program returns true for every input of its Go types and leaves each argument as it was; no condition. (Part 8 of 15.) -/
import Derived.Test.YtcgejabkjljeeaaCFnVersionTexts4
import Derived.Sort.Lot0
import Derived.Sort.LotA
import Derived.Shelf.SlSortCmp.KitK
import Derived.Test.YtcgejabkjljeeaaCFnVersionTexts6
section
namespace Go.Proofs.Ytcgejabkjljeeaa.P
open Go.RowKit Go.Proofs.YtcgejabkjljeeaaW.PrintWords Go.Proofs.YtcgejabkjljeeaaW.PrintLast Go.Proofs.YtcgejabkjljeeaaW.PrintMore
attribute [local go_sem] qk1 qj1 ql1 qf1 qd1 qn1 qm1 qa1 qz qe1 qc1
set_option linter.unusedVariables false
set_option linter.unusedSimpArgs false
open Go.Sort
section
variable {α : Type} [Inhabited α]
variable {lt lt' : α → α → Bool}
def SegOK (lt' : α → α → Bool) (d0 d : Array α) (a b : Nat) : Prop := (∀ P : α → Prop, (∀ i, a ≤ i → i < b → P d0[i]!) → ∀ i, a ≤ i → i < b → P d[i]!) ∧ SortedIn lt' a b d
theorem SegOK.congr {d0 d d' : Array α} {a b : Nat} (h : SegOK lt' d0 d a b) (he : ∀ i, a ≤ i → i < b → d'[i]! = d[i]!) : SegOK lt' d0 d' a b :=
 ⟨fun P hP i h1 h2 => by rw [he i h1 h2]; exact h.1 P hP i h1 h2, fun p q h1 h2 h3 => by rw [he q (by omega) h3, he p h1 (by omega)]; exact h.2 p q h1 h2 h3⟩
variable {d0 : Array α}
end
section
variable {P : Program} {α : Type} [Inhabited α] {enc : α → List Value} {k : Nat} {w0 W : World} {blk off : Nat} {dk d0 : Array α}
def atD (w : World) (t : Nat) : World := { w with drawn := t }
structure GrownX where
 t : Nat
 os : Array Obj
instance : Inhabited GrownX := ⟨⟨0, #[]⟩⟩
theorem wp_region_quietX {id : Nat} {Q : Exit → Act → World → Prop} {a : Act} {w : World} {l : List Oper} (hm : P.follows .mixedOrders = true) (hB : Region.lexB .any l.toArray = true)
  (h : wpQuiet P l.toArray (fun w' => ∃ p : GrownX, w' = grow (atD w p.t) p.os) (fun a' => ∀ w', (∃ p : GrownX, w' = grow (atD w p.t) p.os) → Q .normal a' w') l a) : (Code.region id l.toArray true).wp P Q a w :=
 wp_region_quiet (C := fun w' => ∃ p : GrownX, w' = grow (atD w p.t) p.os) hm hB ⟨⟨w.drawn + 1, #[]⟩, by rw [grow_empty]; rfl⟩ (by simpa using h)
theorem callsX_of {f : FuncId} {args : Array Value} {w : World} {t : Nat} {os : Array Obj} {v : Value}
  (h : Calls P f args (grow (atD w t) os) fun e w' => e = .returned v ∧ ∃ t' os', w' = grow (atD (grow (atD w t) os) t') os') : Calls P f args (grow (atD w t) os) fun e w'' => e = .returned v ∧ ∃ p : GrownX, w'' = grow (atD w p.t) p.os :=
 h.mono fun _ _ ⟨he, t', os', hq⟩ => ⟨he, ⟨t', os ++ os'⟩, by rw [hq]; show grow (grow (atD w t') os) os' = _; rw [grow_grow]⟩
theorem grownX_of_below {w w' : World} (h : RowKit.Below w.heap.size w w') : ∃ t os, w' = grow (atD w t) os := by
 refine ⟨w'.drawn, w'.heap.extract w.heap.size w'.heap.size, ?_⟩
 obtain ⟨h1, h2, h3, h4, h5⟩ := h
 cases w with
 | mk heap tape drawn os output =>
  cases w' with
  | mk heap' tape' drawn' os' output' =>
   simp only at h1 h2 h3 h4 h5
   subst h1; subst h2; subst h3
   unfold grow atD
   congr 1
   apply Array.ext_getElem?
   intro i
   rw [Array.getElem?_append]
   by_cases c : i < heap.size
   ·rw [if_pos c, h5 i c]
   ·rw [if_neg c, Array.getElem?_extract]
    show _ = (if i - heap.size < min heap'.size heap'.size - heap.size then heap'[heap.size + (i - heap.size)]? else none)
    rw [Nat.min_self]
    by_cases c2 : i < heap'.size
    ·rw [if_pos (by omega), show heap.size + (i - heap.size) = i from by omega]
    ·rw [if_neg (by omega), Array.getElem?_eq_none (by omega)]
def CmpB (P : Program) (g : Nat) (cb : Array Value) (enc : α → List Value) (cf : α → α → Int) : Prop :=
 ∀ (W : World) (x y : α), Calls P g (#[.agg (enc x).toArray, .agg (enc y).toArray] ++ cb) W fun e w' => e = .returned (.int .i64 (cf x y)) ∧ RowKit.Below W.heap.size W w'
def SWX (enc : α → List Value) (k : Nat) (w0 : World) (blk off : Nat) (dk : Array α) (W : World) : Prop := ∃ t, SWK enc k (atD w0 t) blk off dk W
theorem SWX.start (h : HoldsK enc k w0 blk off dk) : SWX enc k w0 blk off dk w0 := ⟨w0.drawn, SWK.start h⟩
theorem SWX.drew (h : SWX enc k w0 blk off dk W) : SWX enc k w0 blk off dk W.drew := by
 obtain ⟨t, h⟩ := h
 exact ⟨t, h.drew⟩
omit [Inhabited α] in
theorem CmpB.at_ {g : Nat} {cb : Array Value} {cf : α → α → Int} (hC : CmpB P g cb enc cf) (W : World) (x y : α) (t : Nat) (os : Array Obj) :
  Calls P g (#[.agg (enc x).toArray, .agg (enc y).toArray] ++ cb) (grow (atD W t) os) fun e w' => e = .returned (.int .i64 (cf x y)) ∧ ∃ t' os', w' = grow (atD (grow (atD W t) os) t') os' :=
 (hC _ x y).mono fun _ _ ⟨he, hb⟩ => ⟨he, grownX_of_below hb⟩
end
end Go.Proofs.Ytcgejabkjljeeaa.P
end

section
namespace Go.Proofs.Ytcgejabkjljeeaa.P
open Go.RowKit Go.Proofs.YtcgejabkjljeeaaW.PrintWords Go.Proofs.YtcgejabkjljeeaaW.PrintLast Go.Proofs.YtcgejabkjljeeaaW.PrintMore
attribute [local go_sem] qk1 qj1 ql1 qf1 qd1 qn1 qm1 qa1 qz qe1 qc1
set_option linter.unusedVariables false
set_option linter.unusedSimpArgs false
theorem yq12 {P : Prop} (h : P := by repeat (first | (with_reducible first | exact HB.out | apply qi | apply qd | apply qh) | exact HB.out)) : P := h
mutual
def spec_VersionOk.j0 : Nat → Bool → List (S66) → Int → Int → Int → Option (Bool)
 | 0, _, _, _, _, _ => none
 | k + 1, x29, x102000, x102001, x102002, x102003 => if x29 = true then (some false) else (spec_VersionOk.l0 k 0 x102000 x102001 x102002 x102003)
def spec_VersionOk.l0 : Nat → Int → List (S66) → Int → Int → Int → Option (Bool)
 | 0, _, _, _, _, _ => none
 | k + 1, x3, x102000, x102001, x102002, x102003 => if x3 < (x102000.length : Int) then (if 0 ≤ x3 then ((spec_l12Meta.f ((qv x102000 x3).f0) ((qv x102000 x3).f1) ((qv x102000 x3).f2) ((qv x102000 x3).f3) ((qv x102000 x3).f4)).bind fun t106 => (if t106 = true then (if ((qv x102000 x3).f0) ≥ x102001 then (spec_VersionOk.j2 k x3 true x102000 x102001 x102002 x102003) else (if x3 > 0 then (if 0 ≤ (wrap64 (x3 - 1)) then (if (wrap64 (x3 - 1)) < (x102000.length : Int) then ((spec_l12Ahead.f ((qv x102000 (wrap64 (x3 - 1))).f0) ((qv x102000 (wrap64 (x3 - 1))).f1) ((qv x102000 (wrap64 (x3 - 1))).f2) ((qv x102000 (wrap64 (x3 - 1))).f3) ((qv x102000 (wrap64 (x3 - 1))).f4) ((qv x102000 x3).f0) ((qv x102000 x3).f1) ((qv x102000 x3).f2) ((qv x102000 x3).f3) ((qv x102000 x3).f4)).bind fun t110 => (spec_VersionOk.j2 k x3 (!t110) x102000 x102001 x102002 x102003)) else (none)) else (none)) else (spec_VersionOk.j2 k x3 false x102000 x102001 x102002 x102003))) else (spec_VersionOk.j2 k x3 true x102000 x102001 x102002 x102003))) else (none)) else (some true)
def spec_VersionOk.j2 : Nat → Int → Bool → List (S66) → Int → Int → Int → Option (Bool)
 | 0, _, _, _, _, _, _ => none
 | k + 1, x3, x73, x102000, x102001, x102002, x102003 => if x73 = true then (some false) else (spec_VersionOk.l1 k x3 0 x102000 x102001 x102002 x102003)
def spec_VersionOk.l1 : Nat → Int → Int → List (S66) → Int → Int → Int → Option (Bool)
 | 0, _, _, _, _, _, _ => none
 | k + 1, x3, x4, x102000, x102001, x102002, x102003 => if x4 < x3 then (if 0 ≤ x4 then (if x4 < (x102000.length : Int) then (if 0 ≤ x3 then (if x3 < (x102000.length : Int) then (if ((qv x102000 x4).f0) = ((qv x102000 x3).f0) then (some false) else (spec_VersionOk.l1 k x3 (wrap64 (x4 + 1)) x102000 x102001 x102002 x102003)) else (none)) else (none)) else (none)) else (none)) else (spec_VersionOk.l0 k (wrap64 (x3 + 1)) x102000 x102001 x102002 x102003)
end
def spec_VersionOk.f (k : Nat) (l0_0 : List (S66)) (a0_1 : Int) (a0_2 : Int) (a0_3 : Int) : Option (Bool) := if (l0_0.length : Int) > 30 then (spec_VersionOk.j0 k true l0_0 a0_1 a0_2 a0_3) else ((spec_l1In.f a0_1 1 1000000).bind fun t102 => (if t102 = true then ((spec_l1In.f a0_2 0 1000000000000).bind fun t103 => (if t103 = true then ((spec_l1In.f a0_3 0 (wrap64 (a0_1 - 1))).bind fun t104 => (spec_VersionOk.j0 k (!t104) l0_0 a0_1 a0_2 a0_3)) else (spec_VersionOk.j0 k true l0_0 a0_1 a0_2 a0_3))) else (spec_VersionOk.j0 k true l0_0 a0_1 a0_2 a0_3)))
open Go.Shelf Go.Lib Go.Sort
theorem cellX {w : World} {a : Addr} {v : Value} (h : w.cell? a = some v) (t : Nat) (os : Array Obj) : (grow (atD w t) os).cell? a = some v := by
 have hl := World.block_lt_of_cell? w a h
 unfold World.cell? at h ⊢
 have : (grow (atD w t) os).heap[a.block]? = w.heap[a.block]? := by
  show (w.heap ++ os)[a.block]? = _
  rw [Array.getElem?_append_left hl]
 rw [this]
 exact h
theorem below_grow (w : World) (t : Nat) (os : Array Obj) : Below w.heap.size w (grow (atD w t) os) := by
 constructor
 all_goals first
  | rfl
  | (show w.heap.size ≤ (w.heap ++ os).size; simp; done)
  | (intro k hk; show (w.heap ++ os)[k]? = _; rw [Array.getElem?_append_left hk])
theorem wpQuiet_skip {P : Program} {ops : Array Oper} {C : World → Prop} {Q : Act → Prop} {a : Act} {o : Oper} {rest : List Oper} (hw : Region.wanted o (yielded ops a.tmps) = false) (h : ∀ K : Act → Prop, (∀ a, wpQuiet P ops C Q rest a → K a) → K (a.put o.dst undef)) : wpQuiet P ops C Q (o :: rest) a := by
 unfold wpQuiet
 rw [hw]
 exact h _ (fun _ h => h)
theorem wpQuiet_want {P : Program} {ops : Array Oper} {C : World → Prop} {Q : Act → Prop} {a : Act} {o : Oper} {rest : List Oper} (hw : Region.wanted o (yielded ops a.tmps) = true) (h : ∀ K : Act → Prop, (∀ a, wpQuiet P ops C Q rest a → K a) → o.quiet P a C K) : wpQuiet P ops C Q (o :: rest) a := by
 unfold wpQuiet
 rw [if_pos hw]
 exact h _ (fun _ h => h)
theorem svT (k : Nat) (l : List S66) (n s g : Int) (r : Bool) (h : spec_VersionOk.j0 k true l n s g = some r) : r = false := by
 cases k with
 | zero => cases h
 | succ k => rw [spec_VersionOk.j0, if_pos rfl] at h; exact (Option.some.inj h).symm
theorem svT2 (k : Nat) (i : Int) (l : List S66) (n s g : Int) (r : Bool) (h : spec_VersionOk.j2 k i true l n s g = some r) : r = false := by
 cases k with
 | zero => cases h
 | succ k => rw [spec_VersionOk.j2, if_pos rfl] at h; exact (Option.some.inj h).symm
theorem svN (k : Nat) (i : Int) (l : List S66) (n s g : Int) (r : Bool) (h : spec_VersionOk.j2 k i false l n s g = some r) : ∃ k2, k = k2 + 1 ∧ spec_VersionOk.l1 k2 i 0 l n s g = some r := by
 cases k with
 | zero => cases h
 | succ k => rw [spec_VersionOk.j2, if_neg (by decide)] at h; exact ⟨k, rfl, h⟩
set_option maxHeartbeats 4000000 in
set_option maxRecDepth 100000 in
theorem spec_VersionOk.calls (k : Nat) (A0_0 : Option Addr) (c0_0 : Nat) (l0_0 : List (S66)) (a0_1 : Int) (a0_2 : Int) (a0_3 : Int) (r : Bool) (w : World) (hr0_0 : Kd.C k66 w A0_0 l0_0.length l0_0) (hc0_0 : l0_0.length ≤ c0_0) (h : spec_VersionOk.f k l0_0 a0_1 a0_2 a0_3 = some r) :
  Calls Try.prog 26 #[.agg #[.slice A0_0 l0_0.length c0_0, .int .i64 a0_1, .int .i64 a0_2, .int .i64 a0_3]] w fun e w' => e = .returned (.bool r) ∧ Below w.heap.size w w' := by
 have hu32 := Try.underlying32
 have hu66 := Try.underlying66
 have mixed : Try.prog.follows .mixedOrders = true := by kernel_rfl
 have HR := Qz.mk hr0_0
 have hlm := Kd.C_max hr0_0
 clear hr0_0 hc0_0
 have HB := Qz.mk ((Below.refl _ w).alloc (Nat.le_refl _) (.cells #[.slice A0_0 l0_0.length c0_0, .int .i64 a0_1, .int .i64 a0_2, .int .i64 a0_3] 32))
 have BK := Qz.mk (blk_new w (.cells #[.slice A0_0 l0_0.length c0_0, .int .i64 a0_1, .int .i64 a0_2, .int .i64 a0_3] 32))
 unfold spec_VersionOk.f at h
 by_cases c0 : (l0_0.length : Int) > 30
 ·have c0b : decide ((30 : Int) < (l0_0.length : Int)) = true := decide_eq_true c0
  rw [if_pos c0] at h
  obtain rfl := svT _ _ _ _ _ _ h
  clear h c0
  go_enter Try.func26, Try.ntmps26
  go_wp2
  go_ret
  exact ⟨rfl, HB.out⟩
 have c0b : decide ((30 : Int) < (l0_0.length : Int)) = false := decide_eq_false c0
 rw [if_neg c0] at h
 clear c0
 obtain ⟨t1, A1_, h⟩ := Option.bind_eq_some_iff.mp h
 have A1 := Qz.mk A1_
 clear A1_
 cases t1 with
 | false =>
  obtain rfl := svT _ _ _ _ _ _ h
  clear h
  go_enter Try.func26, Try.ntmps26
  go_wp2_with (first | (go_at_call 63; (with_reducible refine (spec_l1In.calls a0_1 1 1000000 false _ A1.out).mono ?_); rintro e w' ⟨rfl, ⟨nd, rfl⟩⟩))
  go_ret
  exact ⟨rfl, yq12⟩
 | true =>
 obtain ⟨t2, A2_, h⟩ := Option.bind_eq_some_iff.mp h
 have A2 := Qz.mk A2_
 clear A2_
 cases t2 with
 | false =>
  obtain rfl := svT _ _ _ _ _ _ h
  clear h
  go_enter Try.func26, Try.ntmps26
  go_wp2_with (first | (go_at_call 63; (with_reducible refine (spec_l1In.calls a0_1 1 1000000 true _ A1.out).mono ?_); rintro e w' ⟨rfl, ⟨nd, rfl⟩⟩) | (go_at_call 63; (with_reducible refine (spec_l1In.calls a0_2 0 1000000000000 false _ A2.out).mono ?_); rintro e w' ⟨rfl, ⟨nd, rfl⟩⟩))
  go_ret
  exact ⟨rfl, yq12⟩
 | true =>
 obtain ⟨t3, A3_, h⟩ := Option.bind_eq_some_iff.mp h
 have A3 := Qz.mk A3_
 clear A3_
 cases t3 with
 | false =>
  obtain rfl := svT _ _ _ _ _ _ h
  clear h
  go_enter Try.func26, Try.ntmps26
  go_wp2_with (first | (go_at_call 63; (with_reducible refine (spec_l1In.calls a0_1 1 1000000 true _ A1.out).mono ?_); rintro e w' ⟨rfl, ⟨nd, rfl⟩⟩) | (go_at_call 63; (with_reducible refine (spec_l1In.calls a0_2 0 1000000000000 true _ A2.out).mono ?_); rintro e w' ⟨rfl, ⟨nd, rfl⟩⟩) | (go_at_call 63; (with_reducible refine (spec_l1In.calls a0_3 0 (wrap64 (a0_1 - 1)) false _ A3.out).mono ?_); rintro e w' ⟨rfl, ⟨nd, rfl⟩⟩))
  go_ret
  exact ⟨rfl, yq12⟩
 | true =>
 cases k with
 | zero => cases h
 | succ k =>
 replace h : spec_VersionOk.l0 k 0 l0_0 a0_1 a0_2 a0_3 = some r := h
 have H' := Qz.mk h
 clear h
 go_enter Try.func26, Try.ntmps26
 go_wp2_with (first | (go_at_call 63; (with_reducible refine (spec_l1In.calls a0_1 1 1000000 true _ A1.out).mono ?_); rintro e w' ⟨rfl, ⟨nd, rfl⟩⟩) | (go_at_call 63; (with_reducible refine (spec_l1In.calls a0_2 0 1000000000000 true _ A2.out).mono ?_); rintro e w' ⟨rfl, ⟨nd, rfl⟩⟩) | (go_at_call 63; (with_reducible refine (spec_l1In.calls a0_3 0 (wrap64 (a0_1 - 1)) true _ A3.out).mono ?_); rintro e w' ⟨rfl, ⟨nd, rfl⟩⟩))
 go_loopg [3] k (fun kq v3 wr => ∃ (i : Nat), v3 = .int .i64 i ∧ Qz (spec_VersionOk.l0 kq (i : Int) l0_0 a0_1 a0_2 a0_3 = some r) ∧ i ≤ l0_0.length ∧ Qz (kq ≤ k) ∧ Qz (wr.heap[w.heap.size]? = some (.cells #[.slice A0_0 l0_0.length c0_0, .int .i64 a0_1, .int .i64 a0_2, .int .i64 a0_3] 32 (0, 0))) ∧ Qz (Below w.heap.size w wr))
 case atStart => exact ⟨0, rfl, H', Nat.zero_le _, ⟨Nat.le_refl _⟩, ⟨by (with_reducible repeat (first | exact BK.out | refine qc ?_ _ | refine qf ?_))⟩, ⟨yq12⟩⟩
 case round =>
  clear H' BK HB
  obtain ⟨i, rfl, HA, hil, HK1, BK, HB⟩ := hrel
  cases gk with
  | zero => exact absurd HA.out (by simp [spec_VersionOk.l0])
  | succ k1 =>
   have H := HA.out
   clear HA
   simp only [spec_VersionOk.l0] at H
   have hz0 := (qg BK.out 0).trans rfl
   have hz1 := (qg BK.out 1).trans rfl
   by_cases c3 : (i : Int) < (l0_0.length : Int)
   ·rw [if_pos c3, if_pos (by omega)] at H
    have c3b : decide ((i : Int) < (l0_0.length : Int)) = true := decide_eq_true c3
    obtain ⟨t106, A4_, H⟩ := Option.bind_eq_some_iff.mp H
    have A4 := Qz.mk A4_
    clear A4_
    obtain ⟨ad, e, h0, h1, h2, h3, h4⟩ := at_T66 HR.out (i : Int) (by omega) c3
    cases e
    rw [Int.toNat_natCast] at h0 h1 h2 h3 h4
    replace h0 := (HB.out.cell (World.block_lt_of_cell? w _ h0)).trans h0
    replace h1 := (HB.out.cell (World.block_lt_of_cell? w _ h1)).trans h1
    replace h2 := (HB.out.cell (World.block_lt_of_cell? w _ h2)).trans h2
    replace h3 := (HB.out.cell (World.block_lt_of_cell? w _ h3)).trans h3
    replace h4 := (HB.out.cell (World.block_lt_of_cell? w _ h4)).trans h4
    have HX : Qz (qv l0_0 i = qv l0_0 i) := ⟨rfl⟩
    generalize qv l0_0 (i : Int) = x at h0 h1 h2 h3 h4 A4 H
    cases t106 with
    | false =>
     rw [if_neg (by decide)] at H
     obtain rfl := svT2 _ _ _ _ _ _ _ H
     clear H
     have hm : ∀ t os, Calls Try.prog 64 #[.agg #[.int .i64 x.f0, .int .i64 x.f1, .string x.f2, .string x.f3, .int .i64 x.f4]] (grow (atD wr t) os) fun e w' => e = .returned (.bool false) ∧ ∃ t' os', w' = grow (atD (grow (atD wr t) os) t') os' := fun t os => (spec_l12Meta.calls x.f0 x.f1 x.f2 x.f3 x.f4 false (grow (atD wr t) os) A4.out).mono fun _ _ h => ⟨h.1, grownX_of_below h.2⟩
     have hz0' := cellX hz0
     have h0' := cellX h0
     have h1' := cellX h1
     have h2' := cellX h2
     have h3' := cellX h3
     have h4' := cellX h4
     go_wp2
     refine wp_region_quietX (by assumption) (by kernel_rfl) ?_
     iterate 8 (with_reducible refine wpQuiet_want ?want_ (fun K hK => ?_); (case want_ => kernel_rfl); go_simp; (first | (with_reducible refine hK _ ?_; clear hK K) | (apply Exists.intro; refine ⟨fun _ => ?_, hK _ ?_⟩; (go_at_call 64; (with_reducible refine callsX_of (hm _ _))); clear hK K)))
     iterate 9 (with_reducible refine wpQuiet_skip ?skip_ (fun K hK => ?_); (case skip_ => kernel_rfl); go_simp; with_reducible refine hK _ ?_; clear hK K)
     iterate 2 (with_reducible refine wpQuiet_want ?want_ (fun K hK => ?_); (case want_ => kernel_rfl); go_simp; (first | (with_reducible refine hK _ ?_; clear hK K) | (apply Exists.intro; refine ⟨fun _ => ?_, hK _ ?_⟩; (go_at_call 64; (with_reducible refine callsX_of (hm _ _))); clear hK K)))
     iterate 17 (with_reducible refine wpQuiet_skip ?skip_ (fun K hK => ?_); (case skip_ => kernel_rfl); go_simp; with_reducible refine hK _ ?_; clear hK K)
     (with_reducible refine wpQuiet_want ?want_ (fun K hK => ?_); (case want_ => kernel_rfl); go_simp; (first | (with_reducible refine hK _ ?_; clear hK K) | (apply Exists.intro; refine ⟨fun _ => ?_, hK _ ?_⟩; (go_at_call 64; (with_reducible refine callsX_of (hm _ _))); clear hK K)))
     refine wpQuiet_nil ?_
     intro _ hw_
     obtain ⟨⟨tq, osq⟩, hw_⟩ := hw_
     subst hw_
     have HB2 := Qz.mk (HB.out.trans ((below_grow wr tq osq).mono HB.out.size))
     go_wp2
     go_ret
     exact ⟨rfl, HB2.out⟩
    | true =>
     rw [if_pos rfl] at H
     have hm : ∀ t os, Calls Try.prog 64 #[.agg #[.int .i64 x.f0, .int .i64 x.f1, .string x.f2, .string x.f3, .int .i64 x.f4]] (grow (atD wr t) os) fun e w' => e = .returned (.bool true) ∧ ∃ t' os', w' = grow (atD (grow (atD wr t) os) t') os' := fun t os => (spec_l12Meta.calls x.f0 x.f1 x.f2 x.f3 x.f4 true (grow (atD wr t) os) A4.out).mono fun _ _ h => ⟨h.1, grownX_of_below h.2⟩
     have hz0' := cellX hz0
     have hz1' := cellX hz1
     have h0' := cellX h0
     have h1' := cellX h1
     have h2' := cellX h2
     have h3' := cellX h3
     have h4' := cellX h4
     by_cases cn : x.f0 ≥ a0_1
     ·have cnb : decide (a0_1 ≤ x.f0) = true := decide_eq_true cn
      rw [if_pos cn] at H
      obtain rfl := svT2 _ _ _ _ _ _ _ H
      clear H
      go_wp2
      refine wp_region_quietX (by assumption) (by kernel_rfl) ?_
      iterate 19 (with_reducible refine wpQuiet_want ?want_ (fun K hK => ?_); (case want_ => kernel_rfl); go_simp; (first | (with_reducible refine hK _ ?_; clear hK K) | (apply Exists.intro; refine ⟨fun _ => ?_, hK _ ?_⟩; (go_at_call 64; (with_reducible refine callsX_of (hm _ _))); clear hK K)))
      iterate 17 (with_reducible refine wpQuiet_skip ?skip_ (fun K hK => ?_); (case skip_ => kernel_rfl); go_simp; with_reducible refine hK _ ?_; clear hK K)
      (with_reducible refine wpQuiet_want ?want_ (fun K hK => ?_); (case want_ => kernel_rfl); go_simp; with_reducible refine hK _ ?_; clear hK K)
      refine wpQuiet_nil ?_
      intro _ hw_
      obtain ⟨⟨tq, osq⟩, hw_⟩ := hw_
      subst hw_
      have HB2 := Qz.mk (HB.out.trans ((below_grow wr tq osq).mono HB.out.size))
      go_wp2
      go_ret
      exact ⟨rfl, HB2.out⟩
     have cnb : decide (a0_1 ≤ x.f0) = false := decide_eq_false cn
     rw [if_neg cn] at H
     by_cases ci : (i : Int) > 0
     case' pos =>
      have cib : decide ((0 : Int) < (i : Int)) = true := decide_eq_true ci
      have cic : decide (0 < i) = true := decide_eq_true (by omega)
      obtain ⟨j, hij⟩ : ∃ j : Nat, i = j + 1 := ⟨i - 1, by omega⟩
      have hw1 : wrap64 ((i : Int) - 1) = (j : Int) := by unfold wrap64; omega
      have hwi : IntKind.i64.wrap ((i : Int) - 1) = (j : Int) := by rw [IntKind.wrap_i64]; omega
      have cjl : (j : Int) < (l0_0.length : Int) := by omega
      rw [if_pos ci, hw1, if_pos (by omega), if_pos cjl] at H
      obtain ⟨t110, A5_, H⟩ := Option.bind_eq_some_iff.mp H
      have A5 := Qz.mk A5_
      clear A5_
      obtain ⟨adg, e, g0, g1, g2, g3, g4⟩ := at_T66 HR.out (j : Int) (by omega) cjl
      cases e
      rw [Int.toNat_natCast] at g0 g1 g2 g3 g4
      replace g0 := (HB.out.cell (World.block_lt_of_cell? w _ g0)).trans g0
      replace g1 := (HB.out.cell (World.block_lt_of_cell? w _ g1)).trans g1
      replace g2 := (HB.out.cell (World.block_lt_of_cell? w _ g2)).trans g2
      replace g3 := (HB.out.cell (World.block_lt_of_cell? w _ g3)).trans g3
      replace g4 := (HB.out.cell (World.block_lt_of_cell? w _ g4)).trans g4
      generalize qv l0_0 (j : Int) = y at g0 g1 g2 g3 g4 A5
      have ha : ∀ t os, Calls Try.prog 56 #[.agg #[.int .i64 y.f0, .int .i64 y.f1, .string y.f2, .string y.f3, .int .i64 y.f4], .agg #[.int .i64 x.f0, .int .i64 x.f1, .string x.f2, .string x.f3, .int .i64 x.f4]] (grow (atD wr t) os) fun e w' => e = .returned (.bool t110) ∧ ∃ t' os', w' = grow (atD (grow (atD wr t) os) t') os' := fun t os => (spec_l12Ahead.calls y.f0 y.f1 y.f2 y.f3 y.f4 x.f0 x.f1 x.f2 x.f3 x.f4 t110 (grow (atD wr t) os) A5.out).mono fun _ _ h => ⟨h.1, grownX_of_below h.2⟩
      have g0' := cellX g0
      have g1' := cellX g1
      have g2' := cellX g2
      have g3' := cellX g3
      have g4' := cellX g4
      clear hij
      cases t110
      case false =>
       obtain rfl := svT2 _ _ _ _ _ _ _ H
       clear H
       go_wp2
       refine wp_region_quietX (by assumption) (by kernel_rfl) ?_
       iterate 37 (with_reducible refine wpQuiet_want ?want_ (fun K hK => ?_); (case want_ => kernel_rfl); go_simp; (first | (with_reducible refine hK _ ?_; clear hK K) | (apply Exists.intro; refine ⟨fun _ => ?_, hK _ ?_⟩; (first | (go_at_call 64; (with_reducible refine callsX_of (hm _ _))) | (go_at_call 56; (with_reducible refine callsX_of (ha _ _)))); clear hK K)))
       refine wpQuiet_nil ?_
       intro _ hw_
       obtain ⟨⟨tq, osq⟩, hw_⟩ := hw_
       subst hw_
       have HB2 := Qz.mk (HB.out.trans ((below_grow wr tq osq).mono HB.out.size))
       go_wp2
       go_ret
       exact ⟨rfl, HB2.out⟩
      replace H : spec_VersionOk.j2 k1 (i : Int) false l0_0 a0_1 a0_2 a0_3 = some r := H
      go_wp2
      refine wp_region_quietX (by assumption) (by kernel_rfl) ?_
      iterate 37 (with_reducible refine wpQuiet_want ?want_ (fun K hK => ?_); (case want_ => kernel_rfl); go_simp; (first | (with_reducible refine hK _ ?_; clear hK K) | (apply Exists.intro; refine ⟨fun _ => ?_, hK _ ?_⟩; (first | (go_at_call 64; (with_reducible refine callsX_of (hm _ _))) | (go_at_call 56; (with_reducible refine callsX_of (ha _ _)))); clear hK K)))
     case' neg =>
      have cib : decide ((0 : Int) < (i : Int)) = false := decide_eq_false ci
      have cic : decide (0 < i) = false := decide_eq_false (by omega)
      rw [if_neg ci] at H
      go_wp2
      refine wp_region_quietX (by assumption) (by kernel_rfl) ?_
      iterate 22 (with_reducible refine wpQuiet_want ?want_ (fun K hK => ?_); (case want_ => kernel_rfl); go_simp; (first | (with_reducible refine hK _ ?_; clear hK K) | (apply Exists.intro; refine ⟨fun _ => ?_, hK _ ?_⟩; (go_at_call 64; (with_reducible refine callsX_of (hm _ _))); clear hK K)))
      iterate 13 (with_reducible refine wpQuiet_skip ?skip_ (fun K hK => ?_); (case skip_ => kernel_rfl); go_simp; with_reducible refine hK _ ?_; clear hK K)
      iterate 2 (with_reducible refine wpQuiet_want ?want_ (fun K hK => ?_); (case want_ => kernel_rfl); go_simp; with_reducible refine hK _ ?_; clear hK K)
     all_goals
      refine wpQuiet_nil ?_
      intro _ hw_
      obtain ⟨⟨tq, osq⟩, hw_⟩ := hw_
      subst hw_
      have HB2 := Qz.mk (HB.out.trans ((below_grow wr tq osq).mono HB.out.size))
      obtain ⟨k2, rfl, H⟩ := svN _ _ _ _ _ _ _ H
      have HH := Qz.mk H
      have BK2 := Qz.mk (qu BK.out (below_grow wr tq osq))
      clear H h0 h1 h2 h3 h4 h0' h1' h2' h3' h4' hz0 hz1 hz0' hz1' BK HB HX A4 cnb cib cic hm
      generalize grow (atD wr tq) osq = W2 at BK2 HB2 ⊢
      go_wp2
      go_loopg [4] k2 (fun kq v4 wr2 => ∃ j : Nat, v4 = .int .i64 j ∧ Qz (spec_VersionOk.l1 kq (i : Int) (j : Int) l0_0 a0_1 a0_2 a0_3 = some r) ∧ j ≤ i ∧ Qz (kq ≤ k2) ∧ Qz (wr2.heap[w.heap.size]? = some (.cells #[.slice (some ad) l0_0.length c0_0, .int .i64 a0_1, .int .i64 a0_2, .int .i64 a0_3] 32 (0, 0))) ∧ Qz (Below w.heap.size w wr2))
      case atStart => exact ⟨0, rfl, HH, Nat.zero_le _, ⟨Nat.le_refl _⟩, BK2, HB2⟩
      case round =>
       clear HH BK2 HB2
       rename World => wr
       obtain ⟨j, rfl, HA, hji, HK2, BK, HB⟩ := hrel
       cases gk with
       | zero => exact absurd HA.out (by simp [spec_VersionOk.l1])
       | succ k3 =>
        have H := HA.out
        clear HA
        simp only [spec_VersionOk.l1] at H
        have hz0 := (qg BK.out 0).trans rfl
        by_cases c5 : (j : Int) < (i : Int)
        ·have cjl : (j : Int) < (l0_0.length : Int) := by omega
         rw [if_pos c5, if_pos (by omega), if_pos cjl, if_pos (by omega), if_pos c3] at H
         have c5b : decide ((j : Int) < (i : Int)) = true := decide_eq_true c5
         obtain ⟨adh, e, h0, h1, h2, h3, h4⟩ := at_T66 HR.out (i : Int) (by omega) c3
         cases e
         rw [Int.toNat_natCast] at h0 h1 h2 h3 h4
         replace h0 := (HB.out.cell (World.block_lt_of_cell? w _ h0)).trans h0
         replace h1 := (HB.out.cell (World.block_lt_of_cell? w _ h1)).trans h1
         replace h2 := (HB.out.cell (World.block_lt_of_cell? w _ h2)).trans h2
         replace h3 := (HB.out.cell (World.block_lt_of_cell? w _ h3)).trans h3
         replace h4 := (HB.out.cell (World.block_lt_of_cell? w _ h4)).trans h4
         obtain ⟨adg, e, g0, g1, g2, g3, g4⟩ := at_T66 HR.out (j : Int) (by omega) cjl
         cases e
         rw [Int.toNat_natCast] at g0 g1 g2 g3 g4
         replace g0 := (HB.out.cell (World.block_lt_of_cell? w _ g0)).trans g0
         replace g1 := (HB.out.cell (World.block_lt_of_cell? w _ g1)).trans g1
         replace g2 := (HB.out.cell (World.block_lt_of_cell? w _ g2)).trans g2
         replace g3 := (HB.out.cell (World.block_lt_of_cell? w _ g3)).trans g3
         replace g4 := (HB.out.cell (World.block_lt_of_cell? w _ g4)).trans g4
         have hz0' := cellX hz0
         have h0' := cellX h0
         have g0' := cellX g0
         generalize qv l0_0 (j : Int) = y at g0 g0' H
         generalize qv l0_0 (i : Int) = x at h0 h0' H
         clear h1 h2 h3 h4 g1 g2 g3 g4
         by_cases ce : y.f0 = x.f0
         ·rw [if_pos ce] at H
          obtain rfl := Option.some.inj H
          clear H
          rw [ce] at g0 g0'
          go_wp2
          refine wp_region_quietX (by assumption) (by kernel_rfl) ?_
          iterate 13 (with_reducible refine wpQuiet_want ?want_ (fun K hK => ?_); (case want_ => kernel_rfl); go_simp; with_reducible refine hK _ ?_; clear hK K)
          refine wpQuiet_nil ?_
          intro _ hw_
          obtain ⟨⟨tq, osq⟩, hw_⟩ := hw_
          subst hw_
          have HB2 := Qz.mk (HB.out.trans ((below_grow wr tq osq).mono HB.out.size))
          go_wp2
          go_ret
          exact ⟨rfl, HB2.out⟩
         ·rw [if_neg ce] at H
          have ceb : decide (y.f0 = x.f0) = false := decide_eq_false ce
          have ceq : (y.f0 == x.f0) = false := beq_eq_false_iff_ne.2 ce
          have H2 := Qz.mk H
          clear H
          go_wp2
          refine wp_region_quietX (by assumption) (by kernel_rfl) ?_
          iterate 13 (with_reducible refine wpQuiet_want ?want_ (fun K hK => ?_); (case want_ => kernel_rfl); go_simp; with_reducible refine hK _ ?_; clear hK K)
          refine wpQuiet_nil ?_
          intro _ hw_
          obtain ⟨⟨tq, osq⟩, hw_⟩ := hw_
          subst hw_
          have HB2 := Qz.mk (HB.out.trans ((below_grow wr tq osq).mono HB.out.size))
          have BK2 := Qz.mk (qu BK.out (below_grow wr tq osq))
          go_wp2
          go_roundg k3
          case measure => exact Nat.lt_succ_self _
          case rel =>
           have hw2 : wrap64 ((j : Int) + 1) = ((j + 1 : Nat) : Int) := by unfold wrap64; omega
           exact ⟨j + 1, congrArg (Value.int .i64) (by first | rfl | exact hw2 | omega), ⟨by rw [← hw2]; exact H2.out⟩, by omega, ⟨by have := HK2.out; omega⟩, BK2, HB2⟩
        ·rw [if_neg c5] at H
         have c5b : decide ((j : Int) < (i : Int)) = false := decide_eq_false c5
         have H2 := Qz.mk H
         clear H
         go_wp2
         go_roundg k3
         case measure => have := HK2.out; omega
         case rel =>
          have hw2 : wrap64 ((i : Int) + 1) = ((i + 1 : Nat) : Int) := by unfold wrap64; omega
          exact ⟨i + 1, congrArg (Value.int .i64) (by first | rfl | exact hw2 | omega), ⟨by rw [← hw2]; exact H2.out⟩, by omega, ⟨by have := HK2.out; have := HK1.out; omega⟩, BK, HB⟩
   ·rw [if_neg c3] at H
    have c3b : decide ((i : Int) < (l0_0.length : Int)) = false := decide_eq_false c3
    obtain rfl := Option.some.inj H
    go_wp2
    go_ret
    exact ⟨rfl, yq12⟩
theorem yq13 {P : Prop} (h : P := by repeat (first | (with_reducible first | exact HB.out | apply qi | apply qd | apply qh) | exact HB.out)) : P := h
def spec_PutVar.l0 : Nat → Int → List Int → Option (ByteArray)
 | 0, _, _ => none
 | k + 1, x0, x3 => if x0 ≥ 128 then (if x3.length < 140737488355328 then (spec_PutVar.l0 k (IntKind.u64.wrap (Int.tdiv x0 128)) (x3 ++ [(IntKind.u64.wrap ((Int.tmod x0 128) + 128)) % 256])) else (none)) else (if x3.length < 140737488355328 then (some (strOfNums (x3 ++ [(x0) % 256]))) else (none))
def spec_PutVar.f (k : Nat) (a0 : Int) : Option (ByteArray) := spec_PutVar.l0 k a0 (([] : List Int))
set_option maxHeartbeats 8000000 in
set_option maxRecDepth 100000 in
theorem spec_PutVar.calls (k : Nat) (a0 : Int) (r : ByteArray) (w : World) (h : spec_PutVar.f k a0 = some r) :
  Calls Try.prog 76 #[.int .u64 a0] w fun e w' => e = .returned (.string r) ∧ Below w.heap.size w w' := by
 have HB := Qz.mk (Below.refl w.heap.size w)
 have H : (spec_PutVar.l0 k a0 (([] : List Int))) = some r := h
 clear h
 obtain ⟨y101, hy101⟩ : ∃ y_ : List Int, y_ = (([] : List Int)) := ⟨_, rfl⟩
 replace H : (spec_PutVar.l0 k a0 y101) = some r := by first | (rw [hy101]; with_reducible exact H) | (have H2_ := (Option.bind_some _ _).symm.trans H; rw [hy101]; with_reducible exact H2_) | (have H2_ := (Option.bind_some _ _).symm.trans H; with_reducible exact H2_) | with_reducible exact H | (rw [hy101]; exact H) | exact H
 have Ny101 := Qz.mk hy101
 clear hy101
 have H' := Qz.mk H
 clear H
 go_enter Try.func76, Try.ntmps76
 go_wp2_with (first | ((with_reducible refine gate_dst (N := 4) rfl ?_); refine Kd.R_lit (Kd.int .u8) _ 5 ?hg (N := 4) ?hd (xs := ([] : List Int)) (inner := []) (ok := fun _ => True) (okp := fun _ => True) ?hr ?hp (fun _ hk => hk) trivial (Below.refl _ _) (Nat.le_refl _) (by simp) ?_; (case hd => rfl); (case hg => rfl); (case hr => first | (go_simp; done) | (go_simp; rfl)); (case hp => exact (Reps.none _ _)); intro v102 w2 ho3 hb hg_ hnew_; clear hg_ hnew_; (first | rw [← Ny101.out] at ho3 | (simp only [Int.reduceToNat] at ho3; rw [← Ny101.out] at ho3)); have HO103 := Qz.mk (Kd.R_lower ho3 (qb1 yq13)); replace HB := Qz.mk (qq yq13 hb); clear hb ho3))
 go_loopg [0, 3] k (fun kq v0 v3 w' => ∃ (x0_1 : Int) (x3_1 : List Int), v0 = .int .u64 x0_1 ∧ Qz (spec_PutVar.l0 kq x0_1 x3_1 = some r) ∧ Qz (kq ≤ k) ∧ Qz (Kd.R (Kd.int .u8) 5 w' w.heap.size (fun _ => True) v3 x3_1) ∧ Qz (Below w.heap.size w w'))
 case atStart => exact ⟨(a0), (y101), (by first | rfl | (simp; done) | (simp [*]; done)), H', ⟨Nat.le_refl _⟩, ⟨by (with_reducible repeat (first | apply Kd.R_alloc | apply Kd.R_drewN | apply Kd.R_drew)); exact HO103.out⟩, ⟨by repeat (first | (with_reducible first | exact HB.out | apply qi | apply qd | apply qh) | exact HB.out)⟩⟩
 case round =>
  clear H'
  try clear p2
  obtain ⟨x0_1, x3_1, rfl, HA, HK1, HO_3, HB⟩ := hrel
  cases gk with
  | zero => exact absurd HA.out (by simp [spec_PutVar.l0])
  | succ k1 =>
   have H := HA.out
   clear HA
   simp only [spec_PutVar.l0] at H
   by_cases c4 : x0_1 ≥ 128
   ·rw [if_pos c4] at H
    have c4b0 : decide (128 ≤ x0_1) = true := decide_eq_true c4
    clear c4
    by_cases c5 : x3_1.length < 140737488355328
    ·rw [if_pos c5] at H
     have LMc5 := Qz.mk c5
     clear c5
     obtain ⟨y104, hy104⟩ : ∃ y_ : List Int, y_ = (x3_1 ++ [(IntKind.u64.wrap ((Int.tmod x0_1 128) + 128)) % 256]) := ⟨_, rfl⟩
     replace H : (spec_PutVar.l0 k1 (IntKind.u64.wrap (Int.tdiv x0_1 128)) y104) = some r := by first | (rw [hy104]; with_reducible exact H) | (have H2_ := (Option.bind_some _ _).symm.trans H; rw [hy104]; with_reducible exact H2_) | (have H2_ := (Option.bind_some _ _).symm.trans H; with_reducible exact H2_) | with_reducible exact H | (rw [hy104]; exact H) | exact H
     have Ny104 := Qz.mk hy104
     clear hy104
     have H' := Qz.mk H
     clear H
     go_wp2_with (first | ((with_reducible refine gate_builtin (b := .append) (xs := #[.tmp 7, .tmp 12]) rfl ?_); at_builtin; refine Kd.R_append (Kd.int .u8) (w0 := w) w.heap.size rfl (.tmp 7) (.tmp 12) 57 5 (.int .u8 0) 1 rfl Try.underlying57 info5 rfl (by decide) (by omega) u3 x3_1 ((IntKind.u64.wrap ((Int.tmod x0_1 128) + 128)) % 256) [.int .u8 ((IntKind.u64.wrap ((Int.tmod x0_1 128) + 128)) % 256)] (fun _ => True) (fun _ => False) rfl rfl ?aP (fun _ hk => hk.elim) ?aF ?aO ?aB ?aS ?aL ?_; (case aP => exact rfl); (case aB => exact yq13); (case aF => exact (fun _ _ => trivial)); (case aO => exact (by (with_reducible repeat (first | apply Kd.R_alloc | apply Kd.R_drewN | apply Kd.R_drew)); exact HO_3.out)); (case aS => exact (qb1 yq13)); (case aL => have := LMc5.out; omega); intro v105 w6 ho hb hg hat; rw [← Ny104.out] at ho; have n0_ := Qz.mk (hb); have n1_ := Qz.mk (ho); clear HB; clear HO_3; have HB := n0_; have HO106 := n1_; clear n0_ n1_; clear ho hb hg hat))
     go_roundg k1
     case measure => have := HK1.out; omega
     case rel => exact ⟨(IntKind.u64.wrap (Int.tdiv x0_1 128)), (y104), (by first | rfl | (simp; done) | (simp [*]; done)), H', ⟨by have := HK1.out; omega⟩, ⟨by (with_reducible repeat (first | apply Kd.R_alloc | apply Kd.R_drewN | apply Kd.R_drew)); exact HO106.out⟩, ⟨by repeat (first | (with_reducible first | exact HB.out | apply qi | apply qd | apply qh) | exact HB.out)⟩⟩
    ·rw [if_neg c5] at H
     exact absurd H (by simp)
   ·rw [if_neg c4] at H
    have c4b0 : decide (128 ≤ x0_1) = false := decide_eq_false c4
    clear c4
    by_cases c7 : x3_1.length < 140737488355328
    ·rw [if_pos c7] at H
     have LMc7 := Qz.mk c7
     clear c7
     obtain ⟨y107, hy107⟩ : ∃ y_ : List Int, y_ = (x3_1 ++ [(x0_1) % 256]) := ⟨_, rfl⟩
     replace H : (some (strOfNums y107)) = some r := by first | (rw [hy107]; with_reducible exact H) | (have H2_ := (Option.bind_some _ _).symm.trans H; rw [hy107]; with_reducible exact H2_) | (have H2_ := (Option.bind_some _ _).symm.trans H; with_reducible exact H2_) | with_reducible exact H | (rw [hy107]; exact H) | exact H
     have Ny107 := Qz.mk hy107
     clear hy107
     obtain rfl := Option.some.inj H
     go_wp2_with (first | ((with_reducible refine gate_builtin (b := .append) (xs := #[.tmp 16, .tmp 19]) rfl ?_); at_builtin; refine Kd.R_append (Kd.int .u8) (w0 := w) w.heap.size rfl (.tmp 16) (.tmp 19) 57 5 (.int .u8 0) 1 rfl Try.underlying57 info5 rfl (by decide) (by omega) u3 x3_1 ((x0_1) % 256) [.int .u8 ((x0_1) % 256)] (fun _ => True) (fun _ => False) rfl rfl ?aP (fun _ hk => hk.elim) ?aF ?aO ?aB ?aS ?aL ?_; (case aP => exact rfl); (case aB => exact yq13); (case aF => exact (fun _ _ => trivial)); (case aO => exact (by (with_reducible repeat (first | apply Kd.R_alloc | apply Kd.R_drewN | apply Kd.R_drew)); exact HO_3.out)); (case aS => exact (qb1 yq13)); (case aL => have := LMc7.out; omega); intro v108 w8 ho hb hg hat; rw [← Ny107.out] at ho; have n0_ := Qz.mk (hb); have n1_ := Qz.mk (ho); clear HB; clear HO_3; have HB := n0_; have HO109 := n1_; clear n0_ n1_; clear ho hb hg hat; have hcv9 := own_string (P := Try.prog) Try.underlying57 Try.underlying5 Try.underlying9 (Kd.own_of_R HO109.out)))
     go_ret
     exact ⟨by first | rfl | (simp [qt, qr] <;> rfl) | (simp [*, qt, qr] <;> rfl), by repeat (first | (with_reducible first | exact HB.out | apply qi | apply qd | apply qh) | exact HB.out)⟩
    ·rw [if_neg c7] at H
     exact absurd H (by simp)
def spec_PutText.f (k : Nat) (a0 : ByteArray) : Option (ByteArray) := (spec_PutVar.f k (IntKind.u64.wrap ((a0.size : Int)))).bind fun t101 => (if t101.size + a0.size ≤ 9223372036854775807 then (some (t101 ++ a0)) else (none))
set_option maxHeartbeats 8000000 in
set_option maxRecDepth 100000 in
theorem spec_PutText.calls (k : Nat) (a0 : ByteArray) (r : ByteArray) (w : World) (h : spec_PutText.f k a0 = some r) :
  Calls Try.prog 77 #[.string a0] w fun e w' => e = .returned (.string r) ∧ Below w.heap.size w w' := by
 have HB := Qz.mk (Below.refl w.heap.size w)
 have H : ((spec_PutVar.f k (IntKind.u64.wrap ((a0.size : Int)))).bind fun t101 => (if t101.size + a0.size ≤ 9223372036854775807 then (some (t101 ++ a0)) else (none))) = some r := h
 clear h
 replace H := Option.bind_eq_some_iff.mp H
 obtain ⟨t101, A20, H⟩ := H
 replace H : (if t101.size + a0.size ≤ 9223372036854775807 then (some (t101 ++ a0)) else (none)) = some r := H
 have A2 := Qz.mk A20
 clear A20
 by_cases c3 : t101.size + a0.size ≤ 9223372036854775807
 ·rw [if_pos c3] at H
  have c3b0 := eq_true c3
  have c3b1 : decide (t101.size + a0.size ≤ 9223372036854775807) = true := decide_eq_true c3
  try have c3b2 : (9223372036854775807 < t101.size + a0.size) = False := eq_false (Nat.not_lt.2 c3)
  obtain rfl := Option.some.inj H
  go_enter Try.func77, Try.ntmps77
  go_wp2_with (first | ((with_reducible refine qm (f := 76) rfl ?_); refine qy (some 6) rfl rfl Try.func76 (by kernel_rfl) rfl #[.int .u64 (IntKind.u64.wrap ((a0.size : Int)))] rfl (by (try simp only [List.map_toArray, List.map_cons, List.map_nil]); first | done | rfl | (simp only [List.length_drop, List.length_take]; rfl) | (rw [IntWalk.u64_in _ (by omega)] <;> rfl)) ?_; (with_reducible refine (spec_PutVar.calls k (IntKind.u64.wrap ((a0.size : Int))) t101 _ A2.out).mono ?_); rintro e w4 ⟨rfl, hb⟩; refine ⟨_, rfl, ?_⟩; replace HB := Qz.mk (qq (by repeat (first | (with_reducible first | exact HB.out | apply qi | apply qd | apply qh) | exact HB.out)) hb); (try clear hb)))
  go_ret
  exact ⟨by first | rfl | (simp [qt, qr] <;> rfl) | (simp [*, qt, qr] <;> rfl), by repeat (first | (with_reducible first | exact HB.out | apply qi | apply qd | apply qh) | exact HB.out)⟩
 ·rw [if_neg c3] at H
  exact absurd H (by simp)
def spec_PutFixed.f (a0 : Int) : Option (ByteArray) := some (strOfNums (([(a0) % 256, (a0 / 256) % 256, (a0 / 65536) % 256, (a0 / 16777216) % 256] : List Int)))
set_option maxHeartbeats 8000000 in
set_option maxRecDepth 100000 in
theorem spec_PutFixed.calls (a0 : Int) (r : ByteArray) (w : World) (h : spec_PutFixed.f a0 = some r) :
  Calls Try.prog 104 #[.int .u32 a0] w fun e w' => e = .returned (.string r) ∧ Below w.heap.size w w' := by
 have HB := Qz.mk (Below.refl w.heap.size w)
 have H : (some (strOfNums (([(a0) % 256, (a0 / 256) % 256, (a0 / 65536) % 256, (a0 / 16777216) % 256] : List Int)))) = some r := h
 clear h
 obtain ⟨y101, hy101⟩ : ∃ y_ : List Int, y_ = (([(a0) % 256, (a0 / 256) % 256, (a0 / 65536) % 256, (a0 / 16777216) % 256] : List Int)) := ⟨_, rfl⟩
 replace H : (some (strOfNums y101)) = some r := by first | (rw [hy101]; with_reducible exact H) | (have H2_ := (Option.bind_some _ _).symm.trans H; rw [hy101]; with_reducible exact H2_) | (have H2_ := (Option.bind_some _ _).symm.trans H; with_reducible exact H2_) | with_reducible exact H | (rw [hy101]; exact H) | exact H
 have Ny101 := Qz.mk hy101
 clear hy101
 obtain rfl := Option.some.inj H
 go_enter Try.func104, Try.ntmps104
 go_wp2_with (first | ((with_reducible refine gate_dst (N := 14) rfl ?_); refine Kd.R_lit (Kd.int .u8) _ 5 ?hg (N := 14) ?hd (xs := ([(a0) % 256, (a0 / 256) % 256, (a0 / 65536) % 256, (a0 / 16777216) % 256] : List Int)) (inner := [.int .u8 ((a0) % 256), .int .u8 ((a0 / 256) % 256), .int .u8 ((a0 / 65536) % 256), .int .u8 ((a0 / 16777216) % 256)]) (ok := fun _ => True) (okp := fun _ => True) ?hr ?hp (fun _ hk => hk) trivial (Below.refl _ _) (Nat.le_refl _) (by simp) ?_; (case hd => rfl); (case hg => rfl); (case hr => first | (go_simp; done) | (go_simp; rfl)); (case hp => exact (Reps.one (show Kd.M (Kd.int .u8) _ _ _ ((a0) % 256) [.int .u8 ((a0) % 256)] from rfl) (Reps.one (show Kd.M (Kd.int .u8) _ _ _ ((a0 / 256) % 256) [.int .u8 ((a0 / 256) % 256)] from rfl) (Reps.one (show Kd.M (Kd.int .u8) _ _ _ ((a0 / 65536) % 256) [.int .u8 ((a0 / 65536) % 256)] from rfl) (Reps.one (show Kd.M (Kd.int .u8) _ _ _ ((a0 / 16777216) % 256) [.int .u8 ((a0 / 16777216) % 256)] from rfl) (Reps.none _ _)))))); intro v102 w2 ho3 hb hg_ hnew_; clear hg_ hnew_; (first | rw [← Ny101.out] at ho3 | (simp only [Int.reduceToNat] at ho3; rw [← Ny101.out] at ho3)); have HO103 := Qz.mk (Kd.R_lower ho3 (qb1 (by repeat (first | (with_reducible first | exact HB.out | apply qi | apply qd | apply qh) | exact HB.out)))); replace HB := Qz.mk (qq (by repeat (first | (with_reducible first | exact HB.out | apply qi | apply qd | apply qh) | exact HB.out)) hb); clear hb ho3; have hcv4 := own_string (P := Try.prog) Try.underlying57 Try.underlying5 Try.underlying9 (Kd.own_of_R HO103.out)))
 go_ret
 exact ⟨by first | rfl | (simp [qt, qr] <;> rfl) | (simp [*, qt, qr] <;> rfl), by repeat (first | (with_reducible first | exact HB.out | apply qi | apply qd | apply qh) | exact HB.out)⟩
theorem yq14 {P : Prop} (h : P := by first | rfl | (simp; done) | (simp [*]; done)) : P := h
mutual
def spec_Crc.l0 : Nat → ByteArray → Int → Int → Option (Int)
 | 0, _, _, _ => none
 | k + 1, x0, x3, x4 => if x4 < (x0.size : Int) then (if 0 ≤ x4 then (spec_Crc.l1 k x0 (Go.bits .xor .u32 x3 ((bt x0 x4) % 4294967296)) x4 0) else (none)) else (some (Go.bits .xor .u32 x3 4294967295))
def spec_Crc.l1 : Nat → ByteArray → Int → Int → Int → Option (Int)
 | 0, _, _, _, _ => none
 | k + 1, x0, x3, x4, x5 => if x5 < 8 then (if (Int.tmod x3 2) = 1 then (spec_Crc.l1 k x0 (Go.bits .xor .u32 (x3 / 2) 2197175160) x4 (wrap64 (x5 + 1))) else (spec_Crc.l1 k x0 (x3 / 2) x4 (wrap64 (x5 + 1)))) else (spec_Crc.l0 k x0 x3 (wrap64 (x4 + 1)))
end
def spec_Crc.f (k : Nat) (a0 : ByteArray) : Option (Int) := spec_Crc.l0 k a0 4294967295 0
set_option maxHeartbeats 8000000 in
set_option maxRecDepth 100000 in
theorem spec_Crc.calls (k : Nat) (a0 : ByteArray) (r : Int) (w : World) (h : spec_Crc.f k a0 = some r) :
  Calls Try.prog 105 #[.string a0] w fun e w' => e = .returned (.int .u32 r) ∧ Drawn0 w w' := by
 have H : (spec_Crc.l0 k a0 4294967295 0) = some r := h
 clear h
 have H' := Qz.mk H
 clear H
 go_enter Try.func105, Try.ntmps105
 go_wp2
 go_loopg [3, 4] k (fun kq v3 v4 w' => ∃ (x3_1 : Int) (x4_1 : Int), v3 = .int .u32 x3_1 ∧ v4 = .int .i64 x4_1 ∧ Qz (spec_Crc.l0 kq a0 x3_1 x4_1 = some r) ∧ Qz (kq ≤ k) ∧ Drawn0 w w')
 case atStart => exact ⟨(4294967295), (0), yq14, yq14, H', ⟨Nat.le_refl _⟩, by repeat (first | exact Drawn0.refl _ | apply Drawn0.step)⟩
 case round =>
  clear H'
  try clear c1
  obtain ⟨x3_1, x4_1, rfl, rfl, HA, HK1, ⟨m1, rfl⟩⟩ := hrel
  cases gk with
  | zero => exact absurd HA.out (by simp [spec_Crc.l0])
  | succ k1 =>
   have H := HA.out
   clear HA
   simp only [spec_Crc.l0] at H
   by_cases c2 : x4_1 < (a0.size : Int)
   ·rw [if_pos c2] at H
    have c2b0 : decide (x4_1 < (a0.size : Int)) = true := decide_eq_true c2
    clear c2
    by_cases c3 : 0 ≤ x4_1
    ·rw [if_pos c3] at H
     have c3b0 : decide (0 ≤ x4_1) = true := decide_eq_true c3
     clear c3
     have H' := Qz.mk H
     clear H
     have p4 : 0 ≤ (x4_1 : Int) := of_decide_eq_true (by first | (with_reducible assumption) | assumption)
     have q4 : x4_1 < (a0.size : Int) := of_decide_eq_true (by first | (with_reducible assumption) | assumption)
     have hx4 := bt_at a0 x4_1
     replace p4 := eq_true p4
     replace q4 := eq_true q4
     go_wp2
     go_loopg [3, 5] k1 (fun kq v3 v5 w' => ∃ (x3_2 : Int) (x5_2 : Int), v3 = .int .u32 x3_2 ∧ v5 = .int .i64 x5_2 ∧ Qz (spec_Crc.l1 kq a0 x3_2 x4_1 x5_2 = some r) ∧ Qz (kq ≤ k1) ∧ Drawn0 w w')
     case atStart => exact ⟨(Go.bits .xor .u32 x3_1 ((bt a0 x4_1) % 4294967296)), (0), yq14, yq14, H', ⟨Nat.le_refl _⟩, by repeat (first | exact Drawn0.refl _ | apply Drawn0.step)⟩
     case round =>
      clear H'
      (try clear c1);(try clear c2);(try clear c2b0);(try clear p2);(try clear c3);(try clear c3b0);(try clear p4);(try clear q4);(try clear hx4);(try clear p4);(try clear q4)
      obtain ⟨x3_2, x5_2, rfl, rfl, HA, HK2, ⟨m2, rfl⟩⟩ := hrel
      cases gk with
      | zero => exact absurd HA.out (by simp [spec_Crc.l1])
      | succ k2 =>
       have H := HA.out
       clear HA
       simp only [spec_Crc.l1] at H
       by_cases c5 : x5_2 < 8
       ·rw [if_pos c5] at H
        have c5b0 : decide (x5_2 < 8) = true := decide_eq_true c5
        clear c5
        by_cases c6 : (Int.tmod x3_2 2) = 1
        ·rw [if_pos c6] at H
         have c6b0 : ((Int.tmod x3_2 2) == 1) = true := beq_iff_eq.mpr c6
         have c6b1 : ((Int.tmod x3_2 2) != 1) = false := bne_eq_false_iff_eq.mpr c6
         clear c6
         have H' := Qz.mk H
         clear H
         go_wp2
         go_roundg k2
         case measure => have := HK1.out; have := HK2.out; omega
         case rel => exact ⟨(Go.bits .xor .u32 (x3_2 / 2) 2197175160), (wrap64 (x5_2 + 1)), yq14, yq14, H', ⟨by have := HK1.out; have := HK2.out; omega⟩, by repeat (first | exact Drawn0.refl _ | apply Drawn0.step)⟩
        ·rw [if_neg c6] at H
         have c6b0 : ((Int.tmod x3_2 2) == 1) = false := beq_eq_false_iff_ne.mpr c6
         have c6b1 : ((Int.tmod x3_2 2) != 1) = true := bne_iff_ne.mpr c6
         have H' := Qz.mk H
         clear H
         go_wp2
         go_roundg k2
         case measure => have := HK1.out; have := HK2.out; omega
         case rel => exact ⟨(x3_2 / 2), (wrap64 (x5_2 + 1)), yq14, yq14, H', ⟨by have := HK1.out; have := HK2.out; omega⟩, by repeat (first | exact Drawn0.refl _ | apply Drawn0.step)⟩
       ·rw [if_neg c5] at H
        have c5b0 : decide (x5_2 < 8) = false := decide_eq_false c5
        clear c5
        have H' := Qz.mk H
        clear H
        go_wp2
        go_roundg k2
        case measure => have := HK1.out; have := HK2.out; omega
        case rel => exact ⟨(x3_2), (wrap64 (x4_1 + 1)), yq14, yq14, H', ⟨by have := HK1.out; have := HK2.out; omega⟩, by repeat (first | exact Drawn0.refl _ | apply Drawn0.step)⟩
    ·rw [if_neg c3] at H
     exact absurd H (by simp)
   ·rw [if_neg c2] at H
    have c2b0 : decide (x4_1 < (a0.size : Int)) = false := decide_eq_false c2
    clear c2
    obtain rfl := Option.some.inj H
    go_wp2
    go_ret
    exact ⟨by first | rfl | (simp; done) | (simp [*]; done), by repeat (first | exact Drawn0.refl _ | apply Drawn0.step)⟩
def spec_l10Section.f (k : Nat) (a0 : ByteArray) : Option (ByteArray) := (spec_PutText.f k a0).bind fun t101 => ((spec_Crc.f k a0).bind fun t102 => ((spec_PutFixed.f t102).bind fun t103 => (if t101.size + t103.size ≤ 9223372036854775807 then (some (t101 ++ t103)) else (none))))
set_option maxHeartbeats 8000000 in
set_option maxRecDepth 100000 in
theorem spec_l10Section.calls (k : Nat) (a0 : ByteArray) (r : ByteArray) (w : World) (h : spec_l10Section.f k a0 = some r) :
  Calls Try.prog 78 #[.string a0] w fun e w' => e = .returned (.string r) ∧ Below w.heap.size w w' := by
 have HB := Qz.mk (Below.refl w.heap.size w)
 have H : ((spec_PutText.f k a0).bind fun t101 => ((spec_Crc.f k a0).bind fun t102 => ((spec_PutFixed.f t102).bind fun t103 => (if t101.size + t103.size ≤ 9223372036854775807 then (some (t101 ++ t103)) else (none))))) = some r := h
 clear h
 replace H := Option.bind_eq_some_iff.mp H
 obtain ⟨t101, A20, H⟩ := H
 replace H : ((spec_Crc.f k a0).bind fun t102 => ((spec_PutFixed.f t102).bind fun t103 => (if t101.size + t103.size ≤ 9223372036854775807 then (some (t101 ++ t103)) else (none)))) = some r := H
 have A2 := Qz.mk A20
 clear A20
 replace H := Option.bind_eq_some_iff.mp H
 obtain ⟨t102, A30, H⟩ := H
 replace H : ((spec_PutFixed.f t102).bind fun t103 => (if t101.size + t103.size ≤ 9223372036854775807 then (some (t101 ++ t103)) else (none))) = some r := H
 have A3 := Qz.mk A30
 clear A30
 replace H := Option.bind_eq_some_iff.mp H
 obtain ⟨t103, A40, H⟩ := H
 replace H : (if t101.size + t103.size ≤ 9223372036854775807 then (some (t101 ++ t103)) else (none)) = some r := H
 have A4 := Qz.mk A40
 clear A40
 by_cases c5 : t101.size + t103.size ≤ 9223372036854775807
 ·rw [if_pos c5] at H
  have c5b0 := eq_true c5
  have c5b1 : decide (t101.size + t103.size ≤ 9223372036854775807) = true := decide_eq_true c5
  try have c5b2 : (9223372036854775807 < t101.size + t103.size) = False := eq_false (Nat.not_lt.2 c5)
  obtain rfl := Option.some.inj H
  go_enter Try.func78, Try.ntmps78
  go_wp2_with (first | ((with_reducible refine qm (f := 77) rfl ?_); refine qy (some 4) rfl rfl Try.func77 (by kernel_rfl) rfl #[.string a0] rfl (by (try simp only [List.map_toArray, List.map_cons, List.map_nil]); first | done | rfl) ?_; (with_reducible refine (spec_PutText.calls k a0 t101 _ A2.out).mono ?_); rintro e w6 ⟨rfl, hb⟩; refine ⟨_, rfl, ?_⟩; replace HB := Qz.mk (qq (by repeat (first | (with_reducible first | exact HB.out | apply qi | apply qd | apply qh) | exact HB.out)) hb); (try clear hb)) | ((with_reducible refine qm (f := 105) rfl ?_); refine qy (some 6) rfl rfl Try.func105 (by kernel_rfl) rfl #[.string a0] rfl (by (try simp only [List.map_toArray, List.map_cons, List.map_nil]); first | done | rfl) ?_; (with_reducible refine (spec_Crc.calls k a0 t102 _ A3.out).mono ?_); rintro e w' ⟨rfl, ⟨nd, rfl⟩⟩; refine ⟨_, rfl, ?_⟩) | ((with_reducible refine qm (f := 104) rfl ?_); refine qy (some 7) rfl rfl Try.func104 (by kernel_rfl) rfl #[.int .u32 t102] rfl (by (try simp only [List.map_toArray, List.map_cons, List.map_nil]); first | done | rfl) ?_; (with_reducible refine (spec_PutFixed.calls t102 t103 _ A4.out).mono ?_); rintro e w7 ⟨rfl, hb⟩; refine ⟨_, rfl, ?_⟩; replace HB := Qz.mk (qq (by repeat (first | (with_reducible first | exact HB.out | apply qi | apply qd | apply qh) | exact HB.out)) hb); (try clear hb)))
  go_ret
  exact ⟨by first | rfl | (simp [qt, qr] <;> rfl) | (simp [*, qt, qr] <;> rfl), by repeat (first | (with_reducible first | exact HB.out | apply qi | apply qd | apply qh) | exact HB.out)⟩
 ·rw [if_neg c5] at H
  exact absurd H (by simp)
theorem yq15 {P : Prop} (h : P := by (try simp only [List.map_toArray, List.map_cons, List.map_nil]); first | done | rfl | (simp only [List.length_drop, List.length_take]; rfl) | (rw [IntWalk.u64_in _ (by omega)] <;> rfl)) : P := h
theorem yq16 {P : Prop} (h : P := by (with_reducible repeat (first | refine qc ?_ _ | refine qf ?_ | refine qa ?_ _)); exact BK101.out) : P := h
theorem yq17 {P : Prop} (h : P := by repeat (first | (with_reducible first | exact HB.out | apply qi | apply qd | apply qh | refine qe ?_ GE101.out) | exact HB.out)) : P := h
theorem yq18 {P : Prop} (h : P := by repeat (first | (with_reducible first | exact HB.out | apply qi | apply qd | apply qh | refine qe ?_ GE101.out | refine qe ?_ GE109.out) | exact HB.out)) : P := h
theorem yq19 {P : Prop} (h : P := by (with_reducible repeat (first | refine qc ?_ _ | refine qf ?_ | refine qa ?_ _)); exact BK109.out) : P := h
theorem yq20 {P : Prop} (h : P := by repeat (first | (with_reducible first | exact HB.out | apply qi | apply qd | apply qh) | exact HB.out)) : P := h
def spec_VersionText.l0 : Nat → ByteArray → Int → List (S66) → Int → Int → Int → Option (ByteArray)
 | 0, _, _, _, _, _, _ => none
 | k + 1, x3, x4, x102000, x102001, x102002, x102003 => if x4 < (x102000.length : Int) then (if 0 ≤ x4 then ((spec_PutVar.f k (IntKind.u64.wrap ((qv x102000 x4).f0))).bind fun t110 => (if x3.size + t110.size ≤ 9223372036854775807 then ((spec_PutVar.f k (IntKind.u64.wrap ((qv x102000 x4).f1))).bind fun t111 => (if x3.size + t110.size + t111.size ≤ 9223372036854775807 then ((spec_PutText.f k ((qv x102000 x4).f2)).bind fun t112 => (if x3.size + t110.size + t111.size + t112.size ≤ 9223372036854775807 then ((spec_PutText.f k ((qv x102000 x4).f3)).bind fun t113 => (if x3.size + t110.size + t111.size + t112.size + t113.size ≤ 9223372036854775807 then ((spec_PutVar.f k (IntKind.u64.wrap ((qv x102000 x4).f4))).bind fun t114 => (if x3.size + t110.size + t111.size + t112.size + t113.size + t114.size ≤ 9223372036854775807 then (spec_VersionText.l0 k (((((x3 ++ t110) ++ t111) ++ t112) ++ t113) ++ t114) (wrap64 (x4 + 1)) x102000 x102001 x102002 x102003) else (none))) else (none))) else (none))) else (none))) else (none))) else (none)) else ((spec_l10Section.f k x3).bind fun t107 => (some t107))
def spec_VersionText.f (k : Nat) (l0_0 : List (S66)) (a0_1 : Int) (a0_2 : Int) (a0_3 : Int) : Option (ByteArray) := (spec_VersionOk.f k l0_0 a0_1 a0_2 a0_3).bind fun t102 => (if t102 = true then ((spec_PutVar.f k (IntKind.u64.wrap (a0_1))).bind fun t103 => ((spec_PutVar.f k (IntKind.u64.wrap (a0_2))).bind fun t104 => (if t103.size + t104.size ≤ 9223372036854775807 then ((spec_PutVar.f k (IntKind.u64.wrap (a0_3))).bind fun t105 => (if t103.size + t104.size + t105.size ≤ 9223372036854775807 then ((spec_PutVar.f k (IntKind.u64.wrap ((l0_0.length : Int)))).bind fun t106 => (if t103.size + t104.size + t105.size + t106.size ≤ 9223372036854775807 then (spec_VersionText.l0 k (((t103 ++ t104) ++ t105) ++ t106) 0 l0_0 a0_1 a0_2 a0_3) else (none))) else (none))) else (none)))) else (some (⟨#[]⟩ : ByteArray)))
def spec_VersionText.T3 : Bool × List (List Nat × List Nat) := (true, [([], []), ([0], [0]), ([1], [1]), ([2], [2]), ([], []), ([4], [4]), ([5], [5]), ([6, 3], [6]), ([3, 7], [3, 7]), ([], []), ([9], [9]), ([10], [10]), ([11, 7], [11]), ([8, 12], [8, 12]), ([], []), ([14], [14]), ([15], [15]), ([16], [16]), ([17, 12], [17]), ([13, 18], [13, 18]), ([19, 18, 0, 1, 2, 3, 4, 5, 6, 7, 8, 9, 10, 11, 12, 13, 14, 15, 16, 17, 18, 19], [19])])
def spec_VersionText.B3 : List Nat := [0, 1, 3, 7, 0, 16, 48, 127, 255, 0, 512, 1536, 3839, 8191, 0, 16384, 49152, 114688, 253695, 524287, 1048575]
theorem spec_VersionText.tab3 : rtab .any (opsOf Try.f41 3) = spec_VersionText.T3 := by kernel_rfl
theorem spec_VersionText.bits3 : waitsOk spec_VersionText.T3.2 spec_VersionText.B3 = true := by kernel_rfl
def spec_VersionText.T8 : Bool × List (List Nat × List Nat) := (true, [([], []), ([], []), ([1], [1]), ([2], [2]), ([3], [3]), ([0, 4], [0, 4]), ([], []), ([6], [6]), ([7], [7]), ([8, 4], [8]), ([5, 9], [5, 9]), ([], []), ([11], [11]), ([12, 9], [12]), ([10, 13], [10, 13]), ([], []), ([15], [15]), ([16, 13], [16]), ([14, 17], [14, 17]), ([], []), ([19], [19]), ([20], [20]), ([21, 17], [21]), ([18, 22], [18, 22]), ([23, 22, 0, 1, 2, 3, 4, 5, 6, 7, 8, 9, 10, 11, 12, 13, 14, 15, 16, 17, 18, 19, 20, 21, 22, 23], [0, 23])])
def spec_VersionText.B8 : List Nat := [0, 0, 2, 6, 14, 31, 0, 64, 192, 478, 1023, 0, 2048, 7134, 16383, 0, 32768, 113630, 262143, 0, 524288, 1572864, 3914718, 8388607, 16777215]
theorem spec_VersionText.tab8 : rtab .any (opsOf Try.f41 8) = spec_VersionText.T8 := by kernel_rfl
theorem spec_VersionText.bits8 : waitsOk spec_VersionText.T8.2 spec_VersionText.B8 = true := by kernel_rfl
set_option maxHeartbeats 8000000 in
set_option maxRecDepth 100000 in
theorem spec_VersionText.calls (k : Nat) (A0_0 : Option Addr) (c0_0 : Nat) (l0_0 : List (S66)) (a0_1 : Int) (a0_2 : Int) (a0_3 : Int) (r : ByteArray) (w : World) (hr0_0 : Kd.C k66 w A0_0 l0_0.length l0_0) (hc0_0 : l0_0.length ≤ c0_0) (h : spec_VersionText.f k l0_0 a0_1 a0_2 a0_3 = some r) :
  Calls Try.prog 41 #[.agg #[.slice A0_0 l0_0.length c0_0, .int .i64 a0_1, .int .i64 a0_2, .int .i64 a0_3]] w fun e w' => e = .returned (.string r) ∧ Below w.heap.size w w' := by
 have hu32 := Try.underlying32
 have hu66 := Try.underlying66
 have HR0_0 := Qz.mk hr0_0
 have HC0_0 := Qz.mk hc0_0
 clear hr0_0 hc0_0
 have HB := Qz.mk (Below.refl w.heap.size w)
 have H : ((spec_VersionOk.f k l0_0 a0_1 a0_2 a0_3).bind fun t102 => (if t102 = true then ((spec_PutVar.f k (IntKind.u64.wrap (a0_1))).bind fun t103 => ((spec_PutVar.f k (IntKind.u64.wrap (a0_2))).bind fun t104 => (if t103.size + t104.size ≤ 9223372036854775807 then ((spec_PutVar.f k (IntKind.u64.wrap (a0_3))).bind fun t105 => (if t103.size + t104.size + t105.size ≤ 9223372036854775807 then ((spec_PutVar.f k (IntKind.u64.wrap ((l0_0.length : Int)))).bind fun t106 => (if t103.size + t104.size + t105.size + t106.size ≤ 9223372036854775807 then (spec_VersionText.l0 k (((t103 ++ t104) ++ t105) ++ t106) 0 l0_0 a0_1 a0_2 a0_3) else (none))) else (none))) else (none)))) else (some (⟨#[]⟩ : ByteArray)))) = some r := h
 clear h
 replace H := Option.bind_eq_some_iff.mp H
 obtain ⟨t102, A20, H⟩ := H
 replace H : (if t102 = true then ((spec_PutVar.f k (IntKind.u64.wrap (a0_1))).bind fun t103 => ((spec_PutVar.f k (IntKind.u64.wrap (a0_2))).bind fun t104 => (if t103.size + t104.size ≤ 9223372036854775807 then ((spec_PutVar.f k (IntKind.u64.wrap (a0_3))).bind fun t105 => (if t103.size + t104.size + t105.size ≤ 9223372036854775807 then ((spec_PutVar.f k (IntKind.u64.wrap ((l0_0.length : Int)))).bind fun t106 => (if t103.size + t104.size + t105.size + t106.size ≤ 9223372036854775807 then (spec_VersionText.l0 k (((t103 ++ t104) ++ t105) ++ t106) 0 l0_0 a0_1 a0_2 a0_3) else (none))) else (none))) else (none)))) else (some (⟨#[]⟩ : ByteArray))) = some r := H
 have A2 := Qz.mk A20
 clear A20
 by_cases c3 : t102 = true
 ·subst c3
  have H1 : ((spec_PutVar.f k (IntKind.u64.wrap (a0_1))).bind fun t103 => ((spec_PutVar.f k (IntKind.u64.wrap (a0_2))).bind fun t104 => (if t103.size + t104.size ≤ 9223372036854775807 then ((spec_PutVar.f k (IntKind.u64.wrap (a0_3))).bind fun t105 => (if t103.size + t104.size + t105.size ≤ 9223372036854775807 then ((spec_PutVar.f k (IntKind.u64.wrap ((l0_0.length : Int)))).bind fun t106 => (if t103.size + t104.size + t105.size + t106.size ≤ 9223372036854775807 then (spec_VersionText.l0 k (((t103 ++ t104) ++ t105) ++ t106) 0 l0_0 a0_1 a0_2 a0_3) else (none))) else (none))) else (none)))) = some r := by rw [if_pos rfl] at H; exact H
  clear H
  have H := H1
  clear H1
  replace H := Option.bind_eq_some_iff.mp H
  obtain ⟨t103, A40, H⟩ := H
  replace H : ((spec_PutVar.f k (IntKind.u64.wrap (a0_2))).bind fun t104 => (if t103.size + t104.size ≤ 9223372036854775807 then ((spec_PutVar.f k (IntKind.u64.wrap (a0_3))).bind fun t105 => (if t103.size + t104.size + t105.size ≤ 9223372036854775807 then ((spec_PutVar.f k (IntKind.u64.wrap ((l0_0.length : Int)))).bind fun t106 => (if t103.size + t104.size + t105.size + t106.size ≤ 9223372036854775807 then (spec_VersionText.l0 k (((t103 ++ t104) ++ t105) ++ t106) 0 l0_0 a0_1 a0_2 a0_3) else (none))) else (none))) else (none))) = some r := H
  have A4 := Qz.mk A40
  clear A40
  replace H := Option.bind_eq_some_iff.mp H
  obtain ⟨t104, A50, H⟩ := H
  replace H : (if t103.size + t104.size ≤ 9223372036854775807 then ((spec_PutVar.f k (IntKind.u64.wrap (a0_3))).bind fun t105 => (if t103.size + t104.size + t105.size ≤ 9223372036854775807 then ((spec_PutVar.f k (IntKind.u64.wrap ((l0_0.length : Int)))).bind fun t106 => (if t103.size + t104.size + t105.size + t106.size ≤ 9223372036854775807 then (spec_VersionText.l0 k (((t103 ++ t104) ++ t105) ++ t106) 0 l0_0 a0_1 a0_2 a0_3) else (none))) else (none))) else (none)) = some r := H
  have A5 := Qz.mk A50
  clear A50
  by_cases c6 : t103.size + t104.size ≤ 9223372036854775807
  ·rw [if_pos c6] at H
   have c6b0 := eq_true c6
   have c6b1 : decide (t103.size + t104.size ≤ 9223372036854775807) = true := decide_eq_true c6
   try have c6b2 : (9223372036854775807 < t103.size + t104.size) = False := eq_false (Nat.not_lt.2 c6)
   replace H := Option.bind_eq_some_iff.mp H
   obtain ⟨t105, A70, H⟩ := H
   replace H : (if t103.size + t104.size + t105.size ≤ 9223372036854775807 then ((spec_PutVar.f k (IntKind.u64.wrap ((l0_0.length : Int)))).bind fun t106 => (if t103.size + t104.size + t105.size + t106.size ≤ 9223372036854775807 then (spec_VersionText.l0 k (((t103 ++ t104) ++ t105) ++ t106) 0 l0_0 a0_1 a0_2 a0_3) else (none))) else (none)) = some r := H
   have A7 := Qz.mk A70
   clear A70
   by_cases c8 : t103.size + t104.size + t105.size ≤ 9223372036854775807
   ·rw [if_pos c8] at H
    have c8b0 := eq_true c8
    have c8b1 : decide (t103.size + t104.size + t105.size ≤ 9223372036854775807) = true := decide_eq_true c8
    try have c8b2 : (9223372036854775807 < t103.size + t104.size + t105.size) = False := eq_false (Nat.not_lt.2 c8)
    replace H := Option.bind_eq_some_iff.mp H
    obtain ⟨t106, A90, H⟩ := H
    replace H : (if t103.size + t104.size + t105.size + t106.size ≤ 9223372036854775807 then (spec_VersionText.l0 k (((t103 ++ t104) ++ t105) ++ t106) 0 l0_0 a0_1 a0_2 a0_3) else (none)) = some r := H
    have A9 := Qz.mk A90
    clear A90
    by_cases c10 : t103.size + t104.size + t105.size + t106.size ≤ 9223372036854775807
    ·rw [if_pos c10] at H
     have c10b0 := eq_true c10
     have c10b1 : decide (t103.size + t104.size + t105.size + t106.size ≤ 9223372036854775807) = true := decide_eq_true c10
     try have c10b2 : (9223372036854775807 < t103.size + t104.size + t105.size + t106.size) = False := eq_false (Nat.not_lt.2 c10)
     have H' := Qz.mk H
     clear H
     go_enter Try.func41, Try.ntmps41
     try go_wp2_with (first | ((with_reducible refine gate_dst (N := 1) rfl ?_); refine box_event ?hg (N := 1) ?hd (cs := #[.slice A0_0 l0_0.length c0_0, .int .i64 a0_1, .int .i64 a0_2, .int .i64 a0_3]) (t := 32) ?hr ?_; (case hd => rfl); (case hg => rfl); (case hr => first | (go_simp; done) | (go_simp; rfl)); intro gb101 hg w11 hbox hb; have BK101 := Qz.mk (hbox); have GW101 := Qz.mk ((by rw [hg]; exact (qb1 yq20) : w.heap.size ≤ gb101)); have GE101 := GW101; replace HB := Qz.mk (qq yq20 hb); clear hb hbox hg; have hcz12_0 := (qg BK101.out 0).trans rfl; have hcz12_1 := (qg BK101.out 1).trans rfl; have hcz12_2 := (qg BK101.out 2).trans rfl; have hcz12_3 := (qg BK101.out 3).trans rfl; have hfz12_0 := qj BK101.out 0; have hfz12_1 := qj BK101.out 1; have hfz12_2 := qj BK101.out 2; have hfz12_3 := qj BK101.out 3) | ((with_reducible refine qm (f := 26) rfl ?_); refine qy (some 7) rfl rfl Try.func26 (by kernel_rfl) rfl #[.agg #[.slice A0_0 l0_0.length c0_0, .int .i64 a0_1, .int .i64 a0_2, .int .i64 a0_3]] rfl yq15 ?_; (with_reducible refine (spec_VersionOk.calls k _ _ l0_0 a0_1 a0_2 a0_3 true _ ?side1 ?side2 A2.out).mono ?_); (case side1 => repeat (first | exact (Kd.C_below HR0_0.out HB.out) | (with_reducible refine Kd.C_alloc ?_ _) | (with_reducible refine Kd.C_drewN ?_ _) | (with_reducible refine Kd.C_drew ?_))); (case side2 => exact HC0_0.out); rintro e w13 ⟨rfl, hb⟩; refine ⟨_, rfl, ?_⟩; replace BK101 := Qz.mk (qu (g := gb101) (o := .cells #[.slice A0_0 l0_0.length c0_0, .int .i64 a0_1, .int .i64 a0_2, .int .i64 a0_3] 32 (0, 0)) yq16 hb); replace HB := Qz.mk (qq yq17 hb); (try clear hb)))
     replace BK101 := Qz.mk (qf BK101.out)
     replace HB := Qz.mk (qh HB.out)
     refine start_ (n := 21) (S := fun w' => w'.cell? ⟨gb101, 0, none⟩ = some (.slice A0_0 l0_0.length c0_0) ∧ w'.cell? ⟨gb101, 1, none⟩ = some (.int .i64 a0_1) ∧ w'.cell? ⟨gb101, 2, none⟩ = some (.int .i64 a0_2) ∧ w'.cell? ⟨gb101, 3, none⟩ = some (.int .i64 a0_3)) (ds := []) #[false, false, false, false, false, false, false, false, false, false, false, false, false, false, false, false, false, false, false, false, false] (by kernel_rfl) rfl rfl ⟨(qg BK101.out 0).trans rfl, (qg BK101.out 1).trans rfl, (qg BK101.out 2).trans rfl, (qg BK101.out 3).trans rfl⟩ (fun hHeld => ?_); refine with_tabW spec_VersionText.tab3 spec_VersionText.bits3 (fun HT_ HW_ => ?_)
     generalize w13.drew = w14 at BK101 HB hHeld ⊢
     refine pure_ (i := 0) (N := some 9) (v := ?_) (a' := ?_) #[true, false, false, false, false, false, false, false, false, false, false, false, false, false, false, false, false, false, false, false, false] rfl rfl (qg1 HT_.out (by kernel_rfl)) (fun _ _ _ h => h) (Or.inl ⟨by rfl, ?_⟩) ?_ ?_
     rotate_left
     ·intro w'
      go_simp
      with_reducible rfl
     rotate_left
     ·simp only [Act.put, sq1, sq2, sq3, i64_w, i32_w]
      rfl
     refine pure_ (i := 4) (N := some 13) (v := ?_) (a' := ?_) #[true, false, false, false, true, false, false, false, false, false, false, false, false, false, false, false, false, false, false, false, false] rfl rfl (qg1 HT_.out (by kernel_rfl)) (fun _ _ _ h => h) (Or.inl ⟨by rfl, ?_⟩) ?_ ?_
     rotate_left
     ·intro w'
      go_simp
      with_reducible rfl
     rotate_left
     ·simp only [Act.put, sq1, sq2, sq3, i64_w, i32_w]
      rfl
     refine pure_ (i := 9) (N := some 18) (v := ?_) (a' := ?_) #[true, false, false, false, true, false, false, false, false, true, false, false, false, false, false, false, false, false, false, false, false] rfl rfl (qg1 HT_.out (by kernel_rfl)) (fun _ _ _ h => h) (Or.inl ⟨by rfl, ?_⟩) ?_ ?_
     rotate_left
     ·intro w'
      go_simp
      with_reducible rfl
     rotate_left
     ·simp only [Act.put, sq1, sq2, sq3, i64_w, i32_w]
      rfl
     refine pure_ (i := 14) (N := some 23) (v := ?_) (a' := ?_) #[true, false, false, false, true, false, false, false, false, true, false, false, false, false, true, false, false, false, false, false, false] rfl rfl (qg1 HT_.out (by kernel_rfl)) (fun _ _ _ h => h) (Or.inl ⟨by rfl, ?_⟩) ?_ ?_
     rotate_left
     ·intro w'
      go_simp
      with_reducible rfl
     rotate_left
     ·simp only [Act.put, sq1, sq2, sq3, i64_w, i32_w]
      rfl
     refine take_ (i := 1) (N := some 10) (v := ?_) (a' := ?_) #[true, true, false, false, true, false, false, false, false, true, false, false, false, false, true, false, false, false, false, false, false] rfl rfl (take_ofW HT_.out HW_.out (by kernel_rfl)) (fun _ _ _ h => h) (Or.inl ⟨by rfl, ?_⟩) hHeld ?_ ?_
     rotate_left
     ·rintro w' ⟨s0, s1, s2, s3⟩
      go_simp
      with_reducible rfl
     rotate_left
     ·simp only [Act.put, sq1, sq2, sq3, i64_w, i32_w]
      rfl
     refine pure_ (i := 2) (N := some 11) (v := ?_) (a' := ?_) #[true, true, true, false, true, false, false, false, false, true, false, false, false, false, true, false, false, false, false, false, false] rfl rfl (qg1 HT_.out (by kernel_rfl)) (fun _ _ _ h => h) (Or.inl ⟨by rfl, ?_⟩) ?_ ?_
     rotate_left
     ·intro w'
      go_simp
      with_reducible rfl
     rotate_left
     ·simp only [Act.put, sq1, sq2, sq3, i64_w, i32_w]
      rfl
     refine take_ (i := 5) (N := some 14) (v := ?_) (a' := ?_) #[true, true, true, false, true, true, false, false, false, true, false, false, false, false, true, false, false, false, false, false, false] rfl rfl (take_ofW HT_.out HW_.out (by kernel_rfl)) (fun _ _ _ h => h) (Or.inl ⟨by rfl, ?_⟩) hHeld ?_ ?_
     rotate_left
     ·rintro w' ⟨s0, s1, s2, s3⟩
      go_simp
      with_reducible rfl
     rotate_left
     ·simp only [Act.put, sq1, sq2, sq3, i64_w, i32_w]
      rfl
     refine pure_ (i := 6) (N := some 15) (v := ?_) (a' := ?_) #[true, true, true, false, true, true, true, false, false, true, false, false, false, false, true, false, false, false, false, false, false] rfl rfl (qg1 HT_.out (by kernel_rfl)) (fun _ _ _ h => h) (Or.inl ⟨by rfl, ?_⟩) ?_ ?_
     rotate_left
     ·intro w'
      go_simp
      with_reducible rfl
     rotate_left
     ·simp only [Act.put, sq1, sq2, sq3, i64_w, i32_w]
      rfl
     refine take_ (i := 10) (N := some 19) (v := ?_) (a' := ?_) #[true, true, true, false, true, true, true, false, false, true, true, false, false, false, true, false, false, false, false, false, false] rfl rfl (take_ofW HT_.out HW_.out (by kernel_rfl)) (fun _ _ _ h => h) (Or.inl ⟨by rfl, ?_⟩) hHeld ?_ ?_
     rotate_left
     ·rintro w' ⟨s0, s1, s2, s3⟩
      go_simp
      with_reducible rfl
     rotate_left
     ·simp only [Act.put, sq1, sq2, sq3, i64_w, i32_w]
      rfl
     refine pure_ (i := 11) (N := some 20) (v := ?_) (a' := ?_) #[true, true, true, false, true, true, true, false, false, true, true, true, false, false, true, false, false, false, false, false, false] rfl rfl (qg1 HT_.out (by kernel_rfl)) (fun _ _ _ h => h) (Or.inl ⟨by rfl, ?_⟩) ?_ ?_
     rotate_left
     ·intro w'
      go_simp
      with_reducible rfl
     rotate_left
     ·simp only [Act.put, sq1, sq2, sq3, i64_w, i32_w]
      rfl
     refine take_ (i := 15) (N := some 24) (v := ?_) (a' := ?_) #[true, true, true, false, true, true, true, false, false, true, true, true, false, false, true, true, false, false, false, false, false] rfl rfl (take_ofW HT_.out HW_.out (by kernel_rfl)) (fun _ _ _ h => h) (Or.inl ⟨by rfl, ?_⟩) hHeld ?_ ?_
     rotate_left
     ·rintro w' ⟨s0, s1, s2, s3⟩
      go_simp
      with_reducible rfl
     rotate_left
     ·simp only [Act.put, sq1, sq2, sq3, i64_w, i32_w]
      rfl
     refine pure_ (i := 16) (N := some 25) (v := ?_) (a' := ?_) #[true, true, true, false, true, true, true, false, false, true, true, true, false, false, true, true, true, false, false, false, false] rfl rfl (qg1 HT_.out (by kernel_rfl)) (fun _ _ _ h => h) (Or.inl ⟨by rfl, ?_⟩) ?_ ?_
     rotate_left
     ·intro w'
      go_simp
      with_reducible rfl
     rotate_left
     ·simp only [Act.put, sq1, sq2, sq3, i64_w, i32_w]
      rfl
     refine pure_ (i := 17) (N := some 26) (v := ?_) (a' := ?_) #[true, true, true, false, true, true, true, false, false, true, true, true, false, false, true, true, true, true, false, false, false] rfl rfl (qg1 HT_.out (by kernel_rfl)) (fun _ _ _ h => h) (Or.inl ⟨by rfl, ?_⟩) ?_ ?_
     rotate_left
     ·intro w'
      go_simp
      with_reducible rfl
     rotate_left
     ·simp only [Act.put, sq1, sq2, sq3, i64_w, i32_w]
      rfl
     refine one_ (i := 3) (N := some 12) #[true, true, true, true, true, true, true, false, false, true, true, true, false, false, true, true, true, true, false, false, false] rfl rfl (one_of HT_.out (by kernel_rfl)) (by decide) (fun K hK => ?_)
     refine goes_ Try.func76 (by kernel_rfl) rfl #[.int .u64 (IntKind.u64.wrap (a0_1))] (by rfl) rfl rfl yq15 ?_
     with_reducible refine (spec_PutVar.calls k (IntKind.u64.wrap (a0_1)) t103 _ A4.out).mono ?_
     rintro e w15 ⟨rfl, hb⟩
     refine ⟨_, rfl, ?_⟩
     replace BK101 := Qz.mk (qu (g := gb101) (o := .cells #[.slice A0_0 l0_0.length c0_0, .int .i64 a0_1, .int .i64 a0_2, .int .i64 a0_3] 32 (0, 0)) yq16 hb)
     replace HB := Qz.mk (qq yq17 hb)
     (try clear hb)
     refine hK.out _ _ ⟨(qg BK101.out 0).trans rfl, (qg BK101.out 1).trans rfl, (qg BK101.out 2).trans rfl, (qg BK101.out 3).trans rfl⟩ (fun hHeld => ?_)
     clear hK K
     refine norm_ (a' := ?_) ?_ ?_
     rotate_left
     ·show Act.put _ (some 12) _ = _
      simp only [Act.put, sq1, sq2, sq3, i64_w, i32_w]
      rfl
     refine one_ (i := 7) (N := some 16) #[true, true, true, true, true, true, true, true, false, true, true, true, false, false, true, true, true, true, false, false, false] rfl rfl (one_of HT_.out (by kernel_rfl)) (by decide) (fun K hK => ?_)
     refine goes_ Try.func76 (by kernel_rfl) rfl #[.int .u64 (IntKind.u64.wrap (a0_2))] (by rfl) rfl rfl yq15 ?_
     with_reducible refine (spec_PutVar.calls k (IntKind.u64.wrap (a0_2)) t104 _ A5.out).mono ?_
     rintro e w16 ⟨rfl, hb⟩
     refine ⟨_, rfl, ?_⟩
     replace BK101 := Qz.mk (qu (g := gb101) (o := .cells #[.slice A0_0 l0_0.length c0_0, .int .i64 a0_1, .int .i64 a0_2, .int .i64 a0_3] 32 (0, 0)) yq16 hb)
     replace HB := Qz.mk (qq yq17 hb)
     (try clear hb)
     refine hK.out _ _ ⟨(qg BK101.out 0).trans rfl, (qg BK101.out 1).trans rfl, (qg BK101.out 2).trans rfl, (qg BK101.out 3).trans rfl⟩ (fun hHeld => ?_)
     clear hK K
     refine norm_ (a' := ?_) ?_ ?_
     rotate_left
     ·show Act.put _ (some 16) _ = _
      simp only [Act.put, sq1, sq2, sq3, i64_w, i32_w]
      rfl
     refine pure_ (i := 8) (N := some 17) (v := ?_) (a' := ?_) #[true, true, true, true, true, true, true, true, true, true, true, true, false, false, true, true, true, true, false, false, false] rfl rfl (qg1 HT_.out (by kernel_rfl)) (fun _ _ _ h => h) (Or.inl ⟨by rfl, ?_⟩) ?_ ?_
     rotate_left
     ·intro w'
      go_simp
      with_reducible rfl
     rotate_left
     ·simp only [Act.put, sq1, sq2, sq3, i64_w, i32_w]
      rfl
     refine one_ (i := 12) (N := some 21) #[true, true, true, true, true, true, true, true, true, true, true, true, true, false, true, true, true, true, false, false, false] rfl rfl (one_of HT_.out (by kernel_rfl)) (by decide) (fun K hK => ?_)
     refine goes_ Try.func76 (by kernel_rfl) rfl #[.int .u64 (IntKind.u64.wrap (a0_3))] (by rfl) rfl rfl yq15 ?_
     with_reducible refine (spec_PutVar.calls k (IntKind.u64.wrap (a0_3)) t105 _ A7.out).mono ?_
     rintro e w17 ⟨rfl, hb⟩
     refine ⟨_, rfl, ?_⟩
     replace BK101 := Qz.mk (qu (g := gb101) (o := .cells #[.slice A0_0 l0_0.length c0_0, .int .i64 a0_1, .int .i64 a0_2, .int .i64 a0_3] 32 (0, 0)) yq16 hb)
     replace HB := Qz.mk (qq yq17 hb)
     (try clear hb)
     refine hK.out _ _ ⟨(qg BK101.out 0).trans rfl, (qg BK101.out 1).trans rfl, (qg BK101.out 2).trans rfl, (qg BK101.out 3).trans rfl⟩ (fun hHeld => ?_)
     clear hK K
     refine norm_ (a' := ?_) ?_ ?_
     rotate_left
     ·show Act.put _ (some 21) _ = _
      simp only [Act.put, sq1, sq2, sq3, i64_w, i32_w]
      rfl
     refine pure_ (i := 13) (N := some 22) (v := ?_) (a' := ?_) #[true, true, true, true, true, true, true, true, true, true, true, true, true, true, true, true, true, true, false, false, false] rfl rfl (qg1 HT_.out (by kernel_rfl)) (fun _ _ _ h => h) (Or.inl ⟨by rfl, ?_⟩) ?_ ?_
     rotate_left
     ·intro w'
      go_simp
      with_reducible rfl
     rotate_left
     ·simp only [Act.put, sq1, sq2, sq3, i64_w, i32_w]
      rfl
     refine one_ (i := 18) (N := some 27) #[true, true, true, true, true, true, true, true, true, true, true, true, true, true, true, true, true, true, true, false, false] rfl rfl (one_of HT_.out (by kernel_rfl)) (by decide) (fun K hK => ?_)
     refine goes_ Try.func76 (by kernel_rfl) rfl #[.int .u64 (IntKind.u64.wrap ((l0_0.length : Int)))] (by rfl) rfl rfl yq15 ?_
     with_reducible refine (spec_PutVar.calls k (IntKind.u64.wrap ((l0_0.length : Int))) t106 _ A9.out).mono ?_
     rintro e w18 ⟨rfl, hb⟩
     refine ⟨_, rfl, ?_⟩
     replace BK101 := Qz.mk (qu (g := gb101) (o := .cells #[.slice A0_0 l0_0.length c0_0, .int .i64 a0_1, .int .i64 a0_2, .int .i64 a0_3] 32 (0, 0)) yq16 hb)
     replace HB := Qz.mk (qq yq17 hb)
     (try clear hb)
     refine hK.out _ _ ⟨(qg BK101.out 0).trans rfl, (qg BK101.out 1).trans rfl, (qg BK101.out 2).trans rfl, (qg BK101.out 3).trans rfl⟩ (fun hHeld => ?_)
     clear hK K
     refine norm_ (a' := ?_) ?_ ?_
     rotate_left
     ·show Act.put _ (some 27) _ = _
      simp only [Act.put, sq1, sq2, sq3, i64_w, i32_w]
      rfl
     refine pure_ (i := 19) (N := some 28) (v := ?_) (a' := ?_) #[true, true, true, true, true, true, true, true, true, true, true, true, true, true, true, true, true, true, true, true, false] rfl rfl (qg1 HT_.out (by kernel_rfl)) (fun _ _ _ h => h) (Or.inl ⟨by rfl, ?_⟩) ?_ ?_
     rotate_left
     ·intro w'
      go_simp
      with_reducible rfl
     rotate_left
     ·simp only [Act.put, sq1, sq2, sq3, i64_w, i32_w]
      rfl
     refine pure_ (i := 20) (N := some 3) (v := ?_) (a' := ?_) #[true, true, true, true, true, true, true, true, true, true, true, true, true, true, true, true, true, true, true, true, true] rfl rfl (qg1 HT_.out (by kernel_rfl)) (fun _ _ _ h => h) (Or.inl ⟨by rfl, ?_⟩) ?_ ?_
     rotate_left
     ·intro w'
      go_simp
      with_reducible rfl
     rotate_left
     ·simp only [Act.put, sq1, sq2, sq3, i64_w, i32_w]
      rfl
     refine done_ (done_of HT_.out (by kernel_rfl)) ?_
     try go_wp2
     go_loopg [3, 4] k (fun kq v3 v4 w' => ∃ (x3_1 : ByteArray) (x4_1 : Int), v3 = .string x3_1 ∧ v4 = .int .i64 x4_1 ∧ Qz (spec_VersionText.l0 kq x3_1 x4_1 l0_0 a0_1 a0_2 a0_3 = some r) ∧ Qz (kq ≤ k) ∧ Qz (w'.heap[gb101]? = some (.cells #[(.slice A0_0 l0_0.length c0_0), .int .i64 a0_1, .int .i64 a0_2, .int .i64 a0_3] 32 (0, 0))) ∧ Qz (Below w.heap.size w w'))
     case atStart => exact ⟨(((t103 ++ t104) ++ t105) ++ t106), (0), (by first | rfl | (simp; done) | (simp [*]; done)), (by first | rfl | (simp; done) | (simp [*]; done)), H', ⟨Nat.le_refl _⟩, ⟨by (with_reducible repeat (first | refine qc ?_ _ | refine qf ?_ | refine qa ?_ _)); exact BK101.out⟩, ⟨by repeat (first | (with_reducible first | exact HB.out | apply qi | apply qd | apply qh | refine qe ?_ GE101.out) | exact HB.out)⟩⟩
     case round =>
      clear H'
      (try clear c1);(try clear c2);(try clear p2);(try clear c3);(try clear c4);(try clear c6);(try clear c6b0);(try clear c6b1);(try clear c6b2);(try clear c7);(try clear c8);(try clear c8b0);(try clear c8b1);(try clear c8b2);(try clear c10);(try clear c10b0);(try clear c10b1);(try clear c10b2);(try clear hcz12_0);(try clear hcz12_1);(try clear hcz12_2);(try clear hcz12_3);(try clear hfz12_0);(try clear hfz12_1);(try clear hfz12_2);(try clear hfz12_3)
      obtain ⟨x3_1, x4_1, rfl, rfl, HA, HK1, BK101, HB⟩ := hrel
      cases gk with
      | zero => exact absurd HA.out (by simp [spec_VersionText.l0])
      | succ k1 =>
       have H := HA.out
       clear HA
       simp only [spec_VersionText.l0] at H
       by_cases c19 : x4_1 < (l0_0.length : Int)
       ·rw [if_pos c19] at H
        have c19b0 : decide (x4_1 < (l0_0.length : Int)) = true := decide_eq_true c19
        clear c19
        by_cases c20 : 0 ≤ x4_1
        ·rw [if_pos c20] at H
         have c20b0 : decide (0 ≤ x4_1) = true := decide_eq_true c20
         clear c20
         replace H := Option.bind_eq_some_iff.mp H
         obtain ⟨t110, A210, H⟩ := H
         replace H : (if x3_1.size + t110.size ≤ 9223372036854775807 then ((spec_PutVar.f k1 (IntKind.u64.wrap ((qv l0_0 x4_1).f1))).bind fun t111 => (if x3_1.size + t110.size + t111.size ≤ 9223372036854775807 then ((spec_PutText.f k1 ((qv l0_0 x4_1).f2)).bind fun t112 => (if x3_1.size + t110.size + t111.size + t112.size ≤ 9223372036854775807 then ((spec_PutText.f k1 ((qv l0_0 x4_1).f3)).bind fun t113 => (if x3_1.size + t110.size + t111.size + t112.size + t113.size ≤ 9223372036854775807 then ((spec_PutVar.f k1 (IntKind.u64.wrap ((qv l0_0 x4_1).f4))).bind fun t114 => (if x3_1.size + t110.size + t111.size + t112.size + t113.size + t114.size ≤ 9223372036854775807 then (spec_VersionText.l0 k1 (((((x3_1 ++ t110) ++ t111) ++ t112) ++ t113) ++ t114) (wrap64 (x4_1 + 1)) l0_0 a0_1 a0_2 a0_3) else (none))) else (none))) else (none))) else (none))) else (none)) = some r := H
         have A21 := Qz.mk A210
         clear A210
         by_cases c22 : x3_1.size + t110.size ≤ 9223372036854775807
         ·rw [if_pos c22] at H
          have c22b0 := eq_true c22
          have c22b1 : decide (x3_1.size + t110.size ≤ 9223372036854775807) = true := decide_eq_true c22
          try have c22b2 : (9223372036854775807 < x3_1.size + t110.size) = False := eq_false (Nat.not_lt.2 c22)
          replace H := Option.bind_eq_some_iff.mp H
          obtain ⟨t111, A230, H⟩ := H
          replace H : (if x3_1.size + t110.size + t111.size ≤ 9223372036854775807 then ((spec_PutText.f k1 ((qv l0_0 x4_1).f2)).bind fun t112 => (if x3_1.size + t110.size + t111.size + t112.size ≤ 9223372036854775807 then ((spec_PutText.f k1 ((qv l0_0 x4_1).f3)).bind fun t113 => (if x3_1.size + t110.size + t111.size + t112.size + t113.size ≤ 9223372036854775807 then ((spec_PutVar.f k1 (IntKind.u64.wrap ((qv l0_0 x4_1).f4))).bind fun t114 => (if x3_1.size + t110.size + t111.size + t112.size + t113.size + t114.size ≤ 9223372036854775807 then (spec_VersionText.l0 k1 (((((x3_1 ++ t110) ++ t111) ++ t112) ++ t113) ++ t114) (wrap64 (x4_1 + 1)) l0_0 a0_1 a0_2 a0_3) else (none))) else (none))) else (none))) else (none)) = some r := H
          have A23 := Qz.mk A230
          clear A230
          by_cases c24 : x3_1.size + t110.size + t111.size ≤ 9223372036854775807
          ·rw [if_pos c24] at H
           have c24b0 := eq_true c24
           have c24b1 : decide (x3_1.size + t110.size + t111.size ≤ 9223372036854775807) = true := decide_eq_true c24
           try have c24b2 : (9223372036854775807 < x3_1.size + t110.size + t111.size) = False := eq_false (Nat.not_lt.2 c24)
           replace H := Option.bind_eq_some_iff.mp H
           obtain ⟨t112, A250, H⟩ := H
           replace H : (if x3_1.size + t110.size + t111.size + t112.size ≤ 9223372036854775807 then ((spec_PutText.f k1 ((qv l0_0 x4_1).f3)).bind fun t113 => (if x3_1.size + t110.size + t111.size + t112.size + t113.size ≤ 9223372036854775807 then ((spec_PutVar.f k1 (IntKind.u64.wrap ((qv l0_0 x4_1).f4))).bind fun t114 => (if x3_1.size + t110.size + t111.size + t112.size + t113.size + t114.size ≤ 9223372036854775807 then (spec_VersionText.l0 k1 (((((x3_1 ++ t110) ++ t111) ++ t112) ++ t113) ++ t114) (wrap64 (x4_1 + 1)) l0_0 a0_1 a0_2 a0_3) else (none))) else (none))) else (none)) = some r := H
           have A25 := Qz.mk A250
           clear A250
           by_cases c26 : x3_1.size + t110.size + t111.size + t112.size ≤ 9223372036854775807
           ·rw [if_pos c26] at H
            have c26b0 := eq_true c26
            have c26b1 : decide (x3_1.size + t110.size + t111.size + t112.size ≤ 9223372036854775807) = true := decide_eq_true c26
            try have c26b2 : (9223372036854775807 < x3_1.size + t110.size + t111.size + t112.size) = False := eq_false (Nat.not_lt.2 c26)
            replace H := Option.bind_eq_some_iff.mp H
            obtain ⟨t113, A270, H⟩ := H
            replace H : (if x3_1.size + t110.size + t111.size + t112.size + t113.size ≤ 9223372036854775807 then ((spec_PutVar.f k1 (IntKind.u64.wrap ((qv l0_0 x4_1).f4))).bind fun t114 => (if x3_1.size + t110.size + t111.size + t112.size + t113.size + t114.size ≤ 9223372036854775807 then (spec_VersionText.l0 k1 (((((x3_1 ++ t110) ++ t111) ++ t112) ++ t113) ++ t114) (wrap64 (x4_1 + 1)) l0_0 a0_1 a0_2 a0_3) else (none))) else (none)) = some r := H
            have A27 := Qz.mk A270
            clear A270
            by_cases c28 : x3_1.size + t110.size + t111.size + t112.size + t113.size ≤ 9223372036854775807
            ·rw [if_pos c28] at H
             have c28b0 := eq_true c28
             have c28b1 : decide (x3_1.size + t110.size + t111.size + t112.size + t113.size ≤ 9223372036854775807) = true := decide_eq_true c28
             try have c28b2 : (9223372036854775807 < x3_1.size + t110.size + t111.size + t112.size + t113.size) = False := eq_false (Nat.not_lt.2 c28)
             replace H := Option.bind_eq_some_iff.mp H
             obtain ⟨t114, A290, H⟩ := H
             replace H : (if x3_1.size + t110.size + t111.size + t112.size + t113.size + t114.size ≤ 9223372036854775807 then (spec_VersionText.l0 k1 (((((x3_1 ++ t110) ++ t111) ++ t112) ++ t113) ++ t114) (wrap64 (x4_1 + 1)) l0_0 a0_1 a0_2 a0_3) else (none)) = some r := H
             have A29 := Qz.mk A290
             clear A290
             by_cases c30 : x3_1.size + t110.size + t111.size + t112.size + t113.size + t114.size ≤ 9223372036854775807
             ·rw [if_pos c30] at H
              have c30b0 := eq_true c30
              have c30b1 : decide (x3_1.size + t110.size + t111.size + t112.size + t113.size + t114.size ≤ 9223372036854775807) = true := decide_eq_true c30
              try have c30b2 : (9223372036854775807 < x3_1.size + t110.size + t111.size + t112.size + t113.size + t114.size) = False := eq_false (Nat.not_lt.2 c30)
              have H' := Qz.mk H
              clear H
              have hcz31_0 := (qg BK101.out 0).trans rfl
              have hcz31_1 := (qg BK101.out 1).trans rfl
              have hcz31_2 := (qg BK101.out 2).trans rfl
              have hcz31_3 := (qg BK101.out 3).trans rfl
              have hfz31_0 := qj BK101.out 0
              have hfz31_1 := qj BK101.out 1
              have hfz31_2 := qj BK101.out 2
              have hfz31_3 := qj BK101.out 3
              have p108 : 0 ≤ (x4_1 : Int) := of_decide_eq_true (by first | (with_reducible assumption) | assumption)
              have q108 : x4_1 < (l0_0.length : Int) := of_decide_eq_true (by first | (with_reducible assumption) | assumption)
              obtain ⟨ad108, e108, hx108_0, hx108_1, hx108_2, hx108_3, hx108_4⟩ := at_T66 HR0_0.out x4_1 p108 q108
              cases e108
              replace hx108_0 := (HB.out.cell (World.block_lt_of_cell? w _ hx108_0)).trans hx108_0
              replace hx108_1 := (HB.out.cell (World.block_lt_of_cell? w _ hx108_1)).trans hx108_1
              replace hx108_2 := (HB.out.cell (World.block_lt_of_cell? w _ hx108_2)).trans hx108_2
              replace hx108_3 := (HB.out.cell (World.block_lt_of_cell? w _ hx108_3)).trans hx108_3
              replace hx108_4 := (HB.out.cell (World.block_lt_of_cell? w _ hx108_4)).trans hx108_4
              replace p108 := eq_true p108
              replace q108 := eq_true q108
              try go_wp2_with (first | ((with_reducible refine gate_dst (N := 5) rfl ?_); refine box_event ?hg (N := 5) ?hd (cs := #[.int .i64 0, .int .i64 0, .string (⟨#[]⟩ : ByteArray), .string (⟨#[]⟩ : ByteArray), .int .i64 0]) (t := 66) ?hr ?_; (case hd => rfl); (case hg => rfl); (case hr => first | (go_simp; done) | (go_simp; rfl)); intro gb109 hg w32 hbox hb; have BK109 := Qz.mk (hbox); have GW109 := Qz.mk ((by rw [hg]; exact (qb1 yq17) : w.heap.size ≤ gb109)); have GE109 := GW109; replace HB := Qz.mk (qq yq17 hb); have NB101_109 := Qz.mk ((by rw [hg]; exact Nat.ne_of_lt (qh1 (g := gb101) (o := .cells #[.slice (some ad108) l0_0.length c0_0, .int .i64 a0_1, .int .i64 a0_2, .int .i64 a0_3] 32 (0, 0)) yq16) : gb101 ≠ gb109)); have NB109_101 := Qz.mk ((by rw [hg]; exact Nat.ne_of_gt (qh1 (g := gb101) (o := .cells #[.slice (some ad108) l0_0.length c0_0, .int .i64 a0_1, .int .i64 a0_2, .int .i64 a0_3] 32 (0, 0)) yq16) : gb109 ≠ gb101)); replace BK101 := Qz.mk (qu (g := gb101) (o := .cells #[.slice (some ad108) l0_0.length c0_0, .int .i64 a0_1, .int .i64 a0_2, .int .i64 a0_3] 32 (0, 0)) yq16 hb); clear hb hbox hg; have hnb33 := NB109_101.out; have hnc33 := NB101_109.out; have hcz34_0 := (qg BK109.out 0).trans rfl; have hcz34_1 := (qg BK109.out 1).trans rfl; have hcz34_2 := (qg BK109.out 2).trans rfl; have hcz34_3 := (qg BK109.out 3).trans rfl; have hcz34_4 := (qg BK109.out 4).trans rfl; have hfz34_0 := qj BK109.out 0; have hfz34_1 := qj BK109.out 1; have hfz34_2 := qj BK109.out 2; have hfz34_3 := qj BK109.out 3; have hfz34_4 := qj BK109.out 4))
              have n0_ : Qz ((((((w32.setCell ⟨gb109, 0, none⟩ (.int .i64 ((qv l0_0 x4_1).f0))).setCell ⟨gb109, 1, none⟩ (.int .i64 ((qv l0_0 x4_1).f1))).setCell ⟨gb109, 2, none⟩ (.string ((qv l0_0 x4_1).f2))).setCell ⟨gb109, 3, none⟩ (.string ((qv l0_0 x4_1).f3))).setCell ⟨gb109, 4, none⟩ (.int .i64 ((qv l0_0 x4_1).f4))).heap[gb101]? = some (.cells #[.slice (some ad108) l0_0.length c0_0, .int .i64 a0_1, .int .i64 a0_2, .int .i64 a0_3] 32 (0, 0))) := ⟨by (with_reducible repeat (first | refine qc ?_ _ | refine qf ?_ | refine qa ?_ _)); refine qx ?_ NB101_109.out _; (with_reducible repeat (first | refine qc ?_ _ | refine qf ?_ | refine qa ?_ _)); refine qx ?_ NB101_109.out _; (with_reducible repeat (first | refine qc ?_ _ | refine qf ?_ | refine qa ?_ _)); refine qx ?_ NB101_109.out _; (with_reducible repeat (first | refine qc ?_ _ | refine qf ?_ | refine qa ?_ _)); refine qx ?_ NB101_109.out _; (with_reducible repeat (first | refine qc ?_ _ | refine qf ?_ | refine qa ?_ _)); refine qx ?_ NB101_109.out _; (with_reducible repeat (first | refine qc ?_ _ | refine qf ?_ | refine qa ?_ _)); exact BK101.out⟩
              have n1_ : Qz ((((((w32.setCell ⟨gb109, 0, none⟩ (.int .i64 ((qv l0_0 x4_1).f0))).setCell ⟨gb109, 1, none⟩ (.int .i64 ((qv l0_0 x4_1).f1))).setCell ⟨gb109, 2, none⟩ (.string ((qv l0_0 x4_1).f2))).setCell ⟨gb109, 3, none⟩ (.string ((qv l0_0 x4_1).f3))).setCell ⟨gb109, 4, none⟩ (.int .i64 ((qv l0_0 x4_1).f4))).heap[gb109]? = some (.cells #[.int .i64 ((qv l0_0 x4_1).f0), .int .i64 ((qv l0_0 x4_1).f1), .string ((qv l0_0 x4_1).f2), .string ((qv l0_0 x4_1).f3), .int .i64 ((qv l0_0 x4_1).f4)] 66 (0, 0))) := ⟨by (with_reducible repeat (first | refine qc ?_ _ | refine qf ?_ | refine qa ?_ _)); refine qw (cs := #[.int .i64 ((qv l0_0 x4_1).f0), .int .i64 ((qv l0_0 x4_1).f1), .string ((qv l0_0 x4_1).f2), .string ((qv l0_0 x4_1).f3), .int .i64 0]) ?_ 4 _ rfl; (with_reducible repeat (first | refine qc ?_ _ | refine qf ?_ | refine qa ?_ _)); refine qw (cs := #[.int .i64 ((qv l0_0 x4_1).f0), .int .i64 ((qv l0_0 x4_1).f1), .string ((qv l0_0 x4_1).f2), .string (⟨#[]⟩ : ByteArray), .int .i64 0]) ?_ 3 _ rfl; (with_reducible repeat (first | refine qc ?_ _ | refine qf ?_ | refine qa ?_ _)); refine qw (cs := #[.int .i64 ((qv l0_0 x4_1).f0), .int .i64 ((qv l0_0 x4_1).f1), .string (⟨#[]⟩ : ByteArray), .string (⟨#[]⟩ : ByteArray), .int .i64 0]) ?_ 2 _ rfl; (with_reducible repeat (first | refine qc ?_ _ | refine qf ?_ | refine qa ?_ _)); refine qw (cs := #[.int .i64 ((qv l0_0 x4_1).f0), .int .i64 0, .string (⟨#[]⟩ : ByteArray), .string (⟨#[]⟩ : ByteArray), .int .i64 0]) ?_ 1 _ rfl; (with_reducible repeat (first | refine qc ?_ _ | refine qf ?_ | refine qa ?_ _)); refine qw (cs := #[.int .i64 0, .int .i64 0, .string (⟨#[]⟩ : ByteArray), .string (⟨#[]⟩ : ByteArray), .int .i64 0]) ?_ 0 _ rfl; (with_reducible repeat (first | refine qc ?_ _ | refine qf ?_ | refine qa ?_ _)); exact BK109.out⟩
              have n2_ : Qz (Below w.heap.size w (((((w32.setCell ⟨gb109, 0, none⟩ (.int .i64 ((qv l0_0 x4_1).f0))).setCell ⟨gb109, 1, none⟩ (.int .i64 ((qv l0_0 x4_1).f1))).setCell ⟨gb109, 2, none⟩ (.string ((qv l0_0 x4_1).f2))).setCell ⟨gb109, 3, none⟩ (.string ((qv l0_0 x4_1).f3))).setCell ⟨gb109, 4, none⟩ (.int .i64 ((qv l0_0 x4_1).f4)))) := ⟨by repeat (first | (with_reducible first | exact HB.out | apply qi | apply qd | apply qh | refine qe ?_ GE101.out | refine qe ?_ GE109.out) | exact HB.out)⟩
              (try clear BK101)
              (try clear BK109)
              (try clear HB)
              generalize (((((w32.setCell ⟨gb109, 0, none⟩ (.int .i64 ((qv l0_0 x4_1).f0))).setCell ⟨gb109, 1, none⟩ (.int .i64 ((qv l0_0 x4_1).f1))).setCell ⟨gb109, 2, none⟩ (.string ((qv l0_0 x4_1).f2))).setCell ⟨gb109, 3, none⟩ (.string ((qv l0_0 x4_1).f3))).setCell ⟨gb109, 4, none⟩ (.int .i64 ((qv l0_0 x4_1).f4))) = w35 at n0_ n1_ n2_ ⊢
              have BK101 := n0_
              have BK109 := n1_
              have HB := n2_
              clear n0_ n1_ n2_
              replace BK101 := Qz.mk (qf BK101.out)
              replace BK109 := Qz.mk (qf BK109.out)
              replace HB := Qz.mk (qh HB.out)
              refine start_ (n := 25) (S := fun w' => w'.cell? ⟨gb109, 0, none⟩ = some (.int .i64 ((qv l0_0 x4_1).f0)) ∧ w'.cell? ⟨gb109, 1, none⟩ = some (.int .i64 ((qv l0_0 x4_1).f1)) ∧ w'.cell? ⟨gb109, 2, none⟩ = some (.string ((qv l0_0 x4_1).f2)) ∧ w'.cell? ⟨gb109, 3, none⟩ = some (.string ((qv l0_0 x4_1).f3)) ∧ w'.cell? ⟨gb109, 4, none⟩ = some (.int .i64 ((qv l0_0 x4_1).f4))) (ds := []) #[false, false, false, false, false, false, false, false, false, false, false, false, false, false, false, false, false, false, false, false, false, false, false, false, false] (by kernel_rfl) rfl rfl ⟨(qg BK109.out 0).trans rfl, (qg BK109.out 1).trans rfl, (qg BK109.out 2).trans rfl, (qg BK109.out 3).trans rfl, (qg BK109.out 4).trans rfl⟩ (fun hHeld => ?_); refine with_tabW spec_VersionText.tab8 spec_VersionText.bits8 (fun HT_ HW_ => ?_)
              generalize w35.drew = w36 at BK101 BK109 HB hHeld ⊢
              refine pure_ (i := 0) (N := some 41) (v := ?_) (a' := ?_) #[true, false, false, false, false, false, false, false, false, false, false, false, false, false, false, false, false, false, false, false, false, false, false, false, false] rfl rfl (qg1 HT_.out (by kernel_rfl)) (fun _ _ _ h => h) (Or.inl ⟨by rfl, ?_⟩) ?_ ?_
              rotate_left
              ·intro w'
               go_simp
               with_reducible rfl
              rotate_left
              ·simp only [Act.put, sq1, sq2, sq3, i64_w, i32_w]
               rfl
              refine pure_ (i := 1) (N := some 42) (v := ?_) (a' := ?_) #[true, true, false, false, false, false, false, false, false, false, false, false, false, false, false, false, false, false, false, false, false, false, false, false, false] rfl rfl (qg1 HT_.out (by kernel_rfl)) (fun _ _ _ h => h) (Or.inl ⟨by rfl, ?_⟩) ?_ ?_
              rotate_left
              ·intro w'
               go_simp
               with_reducible rfl
              rotate_left
              ·simp only [Act.put, sq1, sq2, sq3, i64_w, i32_w]
               rfl
              refine pure_ (i := 6) (N := some 47) (v := ?_) (a' := ?_) #[true, true, false, false, false, false, true, false, false, false, false, false, false, false, false, false, false, false, false, false, false, false, false, false, false] rfl rfl (qg1 HT_.out (by kernel_rfl)) (fun _ _ _ h => h) (Or.inl ⟨by rfl, ?_⟩) ?_ ?_
              rotate_left
              ·intro w'
               go_simp
               with_reducible rfl
              rotate_left
              ·simp only [Act.put, sq1, sq2, sq3, i64_w, i32_w]
               rfl
              refine pure_ (i := 11) (N := some 52) (v := ?_) (a' := ?_) #[true, true, false, false, false, false, true, false, false, false, false, true, false, false, false, false, false, false, false, false, false, false, false, false, false] rfl rfl (qg1 HT_.out (by kernel_rfl)) (fun _ _ _ h => h) (Or.inl ⟨by rfl, ?_⟩) ?_ ?_
              rotate_left
              ·intro w'
               go_simp
               with_reducible rfl
              rotate_left
              ·simp only [Act.put, sq1, sq2, sq3, i64_w, i32_w]
               rfl
              refine pure_ (i := 15) (N := some 56) (v := ?_) (a' := ?_) #[true, true, false, false, false, false, true, false, false, false, false, true, false, false, false, true, false, false, false, false, false, false, false, false, false] rfl rfl (qg1 HT_.out (by kernel_rfl)) (fun _ _ _ h => h) (Or.inl ⟨by rfl, ?_⟩) ?_ ?_
              rotate_left
              ·intro w'
               go_simp
               with_reducible rfl
              rotate_left
              ·simp only [Act.put, sq1, sq2, sq3, i64_w, i32_w]
               rfl
              refine pure_ (i := 19) (N := some 60) (v := ?_) (a' := ?_) #[true, true, false, false, false, false, true, false, false, false, false, true, false, false, false, true, false, false, false, true, false, false, false, false, false] rfl rfl (qg1 HT_.out (by kernel_rfl)) (fun _ _ _ h => h) (Or.inl ⟨by rfl, ?_⟩) ?_ ?_
              rotate_left
              ·intro w'
               go_simp
               with_reducible rfl
              rotate_left
              ·simp only [Act.put, sq1, sq2, sq3, i64_w, i32_w]
               rfl
              refine take_ (i := 2) (N := some 43) (v := ?_) (a' := ?_) #[true, true, true, false, false, false, true, false, false, false, false, true, false, false, false, true, false, false, false, true, false, false, false, false, false] rfl rfl (take_ofW HT_.out HW_.out (by kernel_rfl)) (fun _ _ _ h => h) (Or.inl ⟨by rfl, ?_⟩) hHeld ?_ ?_
              rotate_left
              ·rintro w' ⟨s0, s1, s2, s3, s4⟩
               go_simp
               with_reducible rfl
              rotate_left
              ·simp only [Act.put, sq1, sq2, sq3, i64_w, i32_w]
               rfl
              refine pure_ (i := 3) (N := some 44) (v := ?_) (a' := ?_) #[true, true, true, true, false, false, true, false, false, false, false, true, false, false, false, true, false, false, false, true, false, false, false, false, false] rfl rfl (qg1 HT_.out (by kernel_rfl)) (fun _ _ _ h => h) (Or.inl ⟨by rfl, ?_⟩) ?_ ?_
              rotate_left
              ·intro w'
               go_simp
               with_reducible rfl
              rotate_left
              ·simp only [Act.put, sq1, sq2, sq3, i64_w, i32_w]
               rfl
              refine take_ (i := 7) (N := some 48) (v := ?_) (a' := ?_) #[true, true, true, true, false, false, true, true, false, false, false, true, false, false, false, true, false, false, false, true, false, false, false, false, false] rfl rfl (take_ofW HT_.out HW_.out (by kernel_rfl)) (fun _ _ _ h => h) (Or.inl ⟨by rfl, ?_⟩) hHeld ?_ ?_
              rotate_left
              ·rintro w' ⟨s0, s1, s2, s3, s4⟩
               go_simp
               with_reducible rfl
              rotate_left
              ·simp only [Act.put, sq1, sq2, sq3, i64_w, i32_w]
               rfl
              refine pure_ (i := 8) (N := some 49) (v := ?_) (a' := ?_) #[true, true, true, true, false, false, true, true, true, false, false, true, false, false, false, true, false, false, false, true, false, false, false, false, false] rfl rfl (qg1 HT_.out (by kernel_rfl)) (fun _ _ _ h => h) (Or.inl ⟨by rfl, ?_⟩) ?_ ?_
              rotate_left
              ·intro w'
               go_simp
               with_reducible rfl
              rotate_left
              ·simp only [Act.put, sq1, sq2, sq3, i64_w, i32_w]
               rfl
              refine take_ (i := 12) (N := some 53) (v := ?_) (a' := ?_) #[true, true, true, true, false, false, true, true, true, false, false, true, true, false, false, true, false, false, false, true, false, false, false, false, false] rfl rfl (take_ofW HT_.out HW_.out (by kernel_rfl)) (fun _ _ _ h => h) (Or.inl ⟨by rfl, ?_⟩) hHeld ?_ ?_
              rotate_left
              ·rintro w' ⟨s0, s1, s2, s3, s4⟩
               go_simp
               with_reducible rfl
              rotate_left
              ·simp only [Act.put, sq1, sq2, sq3, i64_w, i32_w]
               rfl
              refine take_ (i := 16) (N := some 57) (v := ?_) (a' := ?_) #[true, true, true, true, false, false, true, true, true, false, false, true, true, false, false, true, true, false, false, true, false, false, false, false, false] rfl rfl (take_ofW HT_.out HW_.out (by kernel_rfl)) (fun _ _ _ h => h) (Or.inl ⟨by rfl, ?_⟩) hHeld ?_ ?_
              rotate_left
              ·rintro w' ⟨s0, s1, s2, s3, s4⟩
               go_simp
               with_reducible rfl
              rotate_left
              ·simp only [Act.put, sq1, sq2, sq3, i64_w, i32_w]
               rfl
              refine take_ (i := 20) (N := some 61) (v := ?_) (a' := ?_) #[true, true, true, true, false, false, true, true, true, false, false, true, true, false, false, true, true, false, false, true, true, false, false, false, false] rfl rfl (take_ofW HT_.out HW_.out (by kernel_rfl)) (fun _ _ _ h => h) (Or.inl ⟨by rfl, ?_⟩) hHeld ?_ ?_
              rotate_left
              ·rintro w' ⟨s0, s1, s2, s3, s4⟩
               go_simp
               with_reducible rfl
              rotate_left
              ·simp only [Act.put, sq1, sq2, sq3, i64_w, i32_w]
               rfl
              refine pure_ (i := 21) (N := some 62) (v := ?_) (a' := ?_) #[true, true, true, true, false, false, true, true, true, false, false, true, true, false, false, true, true, false, false, true, true, true, false, false, false] rfl rfl (qg1 HT_.out (by kernel_rfl)) (fun _ _ _ h => h) (Or.inl ⟨by rfl, ?_⟩) ?_ ?_
              rotate_left
              ·intro w'
               go_simp
               with_reducible rfl
              rotate_left
              ·simp only [Act.put, sq1, sq2, sq3, i64_w, i32_w]
               rfl
              refine one_ (i := 4) (N := some 45) #[true, true, true, true, true, false, true, true, true, false, false, true, true, false, false, true, true, false, false, true, true, true, false, false, false] rfl rfl (one_of HT_.out (by kernel_rfl)) (by decide) (fun K hK => ?_)
              refine goes_ Try.func76 (by kernel_rfl) rfl #[.int .u64 (IntKind.u64.wrap ((qv l0_0 x4_1).f0))] (by rfl) rfl rfl yq15 ?_
              with_reducible refine (spec_PutVar.calls k1 (IntKind.u64.wrap ((qv l0_0 x4_1).f0)) t110 _ A21.out).mono ?_
              rintro e w37 ⟨rfl, hb⟩
              refine ⟨_, rfl, ?_⟩
              replace BK101 := Qz.mk (qu (g := gb101) (o := .cells #[.slice (some ad108) l0_0.length c0_0, .int .i64 a0_1, .int .i64 a0_2, .int .i64 a0_3] 32 (0, 0)) yq16 hb)
              replace BK109 := Qz.mk (qu (g := gb109) (o := .cells #[.int .i64 ((qv l0_0 x4_1).f0), .int .i64 ((qv l0_0 x4_1).f1), .string ((qv l0_0 x4_1).f2), .string ((qv l0_0 x4_1).f3), .int .i64 ((qv l0_0 x4_1).f4)] 66 (0, 0)) yq19 hb)
              replace HB := Qz.mk (qq yq18 hb)
              (try clear hb)
              refine hK.out _ _ ⟨(qg BK109.out 0).trans rfl, (qg BK109.out 1).trans rfl, (qg BK109.out 2).trans rfl, (qg BK109.out 3).trans rfl, (qg BK109.out 4).trans rfl⟩ (fun hHeld => ?_)
              clear hK K
              refine norm_ (a' := ?_) ?_ ?_
              rotate_left
              ·show Act.put _ (some 45) _ = _
               simp only [Act.put, sq1, sq2, sq3, i64_w, i32_w]
               rfl
              refine pure_ (i := 5) (N := some 46) (v := ?_) (a' := ?_) #[true, true, true, true, true, true, true, true, true, false, false, true, true, false, false, true, true, false, false, true, true, true, false, false, false] rfl rfl (qg1 HT_.out (by kernel_rfl)) (fun _ _ _ h => h) (Or.inl ⟨by rfl, ?_⟩) ?_ ?_
              rotate_left
              ·intro w'
               go_simp
               with_reducible rfl
              rotate_left
              ·simp only [Act.put, sq1, sq2, sq3, i64_w, i32_w]
               rfl
              refine one_ (i := 9) (N := some 50) #[true, true, true, true, true, true, true, true, true, true, false, true, true, false, false, true, true, false, false, true, true, true, false, false, false] rfl rfl (one_of HT_.out (by kernel_rfl)) (by decide) (fun K hK => ?_)
              refine goes_ Try.func76 (by kernel_rfl) rfl #[.int .u64 (IntKind.u64.wrap ((qv l0_0 x4_1).f1))] (by rfl) rfl rfl yq15 ?_
              with_reducible refine (spec_PutVar.calls k1 (IntKind.u64.wrap ((qv l0_0 x4_1).f1)) t111 _ A23.out).mono ?_
              rintro e w38 ⟨rfl, hb⟩
              refine ⟨_, rfl, ?_⟩
              replace BK101 := Qz.mk (qu (g := gb101) (o := .cells #[.slice (some ad108) l0_0.length c0_0, .int .i64 a0_1, .int .i64 a0_2, .int .i64 a0_3] 32 (0, 0)) yq16 hb)
              replace BK109 := Qz.mk (qu (g := gb109) (o := .cells #[.int .i64 ((qv l0_0 x4_1).f0), .int .i64 ((qv l0_0 x4_1).f1), .string ((qv l0_0 x4_1).f2), .string ((qv l0_0 x4_1).f3), .int .i64 ((qv l0_0 x4_1).f4)] 66 (0, 0)) yq19 hb)
              replace HB := Qz.mk (qq yq18 hb)
              (try clear hb)
              refine hK.out _ _ ⟨(qg BK109.out 0).trans rfl, (qg BK109.out 1).trans rfl, (qg BK109.out 2).trans rfl, (qg BK109.out 3).trans rfl, (qg BK109.out 4).trans rfl⟩ (fun hHeld => ?_)
              clear hK K
              refine norm_ (a' := ?_) ?_ ?_
              rotate_left
              ·show Act.put _ (some 50) _ = _
               simp only [Act.put, sq1, sq2, sq3, i64_w, i32_w]
               rfl
              refine pure_ (i := 10) (N := some 51) (v := ?_) (a' := ?_) #[true, true, true, true, true, true, true, true, true, true, true, true, true, false, false, true, true, false, false, true, true, true, false, false, false] rfl rfl (qg1 HT_.out (by kernel_rfl)) (fun _ _ _ h => h) (Or.inl ⟨by rfl, ?_⟩) ?_ ?_
              rotate_left
              ·intro w'
               go_simp
               with_reducible rfl
              rotate_left
              ·simp only [Act.put, sq1, sq2, sq3, i64_w, i32_w]
               rfl
              refine one_ (i := 13) (N := some 54) #[true, true, true, true, true, true, true, true, true, true, true, true, true, true, false, true, true, false, false, true, true, true, false, false, false] rfl rfl (one_of HT_.out (by kernel_rfl)) (by decide) (fun K hK => ?_)
              refine goes_ Try.func77 (by kernel_rfl) rfl #[.string ((qv l0_0 x4_1).f2)] (by rfl) rfl rfl (by (try simp only [List.map_toArray, List.map_cons, List.map_nil]); first | done | rfl) ?_
              with_reducible refine (spec_PutText.calls k1 ((qv l0_0 x4_1).f2) t112 _ A25.out).mono ?_
              rintro e w39 ⟨rfl, hb⟩
              refine ⟨_, rfl, ?_⟩
              replace BK101 := Qz.mk (qu (g := gb101) (o := .cells #[.slice (some ad108) l0_0.length c0_0, .int .i64 a0_1, .int .i64 a0_2, .int .i64 a0_3] 32 (0, 0)) yq16 hb)
              replace BK109 := Qz.mk (qu (g := gb109) (o := .cells #[.int .i64 ((qv l0_0 x4_1).f0), .int .i64 ((qv l0_0 x4_1).f1), .string ((qv l0_0 x4_1).f2), .string ((qv l0_0 x4_1).f3), .int .i64 ((qv l0_0 x4_1).f4)] 66 (0, 0)) yq19 hb)
              replace HB := Qz.mk (qq yq18 hb)
              (try clear hb)
              refine hK.out _ _ ⟨(qg BK109.out 0).trans rfl, (qg BK109.out 1).trans rfl, (qg BK109.out 2).trans rfl, (qg BK109.out 3).trans rfl, (qg BK109.out 4).trans rfl⟩ (fun hHeld => ?_)
              clear hK K
              refine norm_ (a' := ?_) ?_ ?_
              rotate_left
              ·show Act.put _ (some 54) _ = _
               simp only [Act.put, sq1, sq2, sq3, i64_w, i32_w]
               rfl
              refine pure_ (i := 14) (N := some 55) (v := ?_) (a' := ?_) #[true, true, true, true, true, true, true, true, true, true, true, true, true, true, true, true, true, false, false, true, true, true, false, false, false] rfl rfl (qg1 HT_.out (by kernel_rfl)) (fun _ _ _ h => h) (Or.inl ⟨by rfl, ?_⟩) ?_ ?_
              rotate_left
              ·intro w'
               go_simp
               with_reducible rfl
              rotate_left
              ·simp only [Act.put, sq1, sq2, sq3, i64_w, i32_w]
               rfl
              refine one_ (i := 17) (N := some 58) #[true, true, true, true, true, true, true, true, true, true, true, true, true, true, true, true, true, true, false, true, true, true, false, false, false] rfl rfl (one_of HT_.out (by kernel_rfl)) (by decide) (fun K hK => ?_)
              refine goes_ Try.func77 (by kernel_rfl) rfl #[.string ((qv l0_0 x4_1).f3)] (by rfl) rfl rfl (by (try simp only [List.map_toArray, List.map_cons, List.map_nil]); first | done | rfl) ?_
              with_reducible refine (spec_PutText.calls k1 ((qv l0_0 x4_1).f3) t113 _ A27.out).mono ?_
              rintro e w40 ⟨rfl, hb⟩
              refine ⟨_, rfl, ?_⟩
              replace BK101 := Qz.mk (qu (g := gb101) (o := .cells #[.slice (some ad108) l0_0.length c0_0, .int .i64 a0_1, .int .i64 a0_2, .int .i64 a0_3] 32 (0, 0)) yq16 hb)
              replace BK109 := Qz.mk (qu (g := gb109) (o := .cells #[.int .i64 ((qv l0_0 x4_1).f0), .int .i64 ((qv l0_0 x4_1).f1), .string ((qv l0_0 x4_1).f2), .string ((qv l0_0 x4_1).f3), .int .i64 ((qv l0_0 x4_1).f4)] 66 (0, 0)) yq19 hb)
              replace HB := Qz.mk (qq yq18 hb)
              (try clear hb)
              refine hK.out _ _ ⟨(qg BK109.out 0).trans rfl, (qg BK109.out 1).trans rfl, (qg BK109.out 2).trans rfl, (qg BK109.out 3).trans rfl, (qg BK109.out 4).trans rfl⟩ (fun hHeld => ?_)
              clear hK K
              refine norm_ (a' := ?_) ?_ ?_
              rotate_left
              ·show Act.put _ (some 58) _ = _
               simp only [Act.put, sq1, sq2, sq3, i64_w, i32_w]
               rfl
              refine pure_ (i := 18) (N := some 59) (v := ?_) (a' := ?_) #[true, true, true, true, true, true, true, true, true, true, true, true, true, true, true, true, true, true, true, true, true, true, false, false, false] rfl rfl (qg1 HT_.out (by kernel_rfl)) (fun _ _ _ h => h) (Or.inl ⟨by rfl, ?_⟩) ?_ ?_
              rotate_left
              ·intro w'
               go_simp
               with_reducible rfl
              rotate_left
              ·simp only [Act.put, sq1, sq2, sq3, i64_w, i32_w]
               rfl
              refine one_ (i := 22) (N := some 63) #[true, true, true, true, true, true, true, true, true, true, true, true, true, true, true, true, true, true, true, true, true, true, true, false, false] rfl rfl (one_of HT_.out (by kernel_rfl)) (by decide) (fun K hK => ?_)
              refine goes_ Try.func76 (by kernel_rfl) rfl #[.int .u64 (IntKind.u64.wrap ((qv l0_0 x4_1).f4))] (by rfl) rfl rfl yq15 ?_
              with_reducible refine (spec_PutVar.calls k1 (IntKind.u64.wrap ((qv l0_0 x4_1).f4)) t114 _ A29.out).mono ?_
              rintro e w41 ⟨rfl, hb⟩
              refine ⟨_, rfl, ?_⟩
              replace BK101 := Qz.mk (qu (g := gb101) (o := .cells #[.slice (some ad108) l0_0.length c0_0, .int .i64 a0_1, .int .i64 a0_2, .int .i64 a0_3] 32 (0, 0)) yq16 hb)
              replace BK109 := Qz.mk (qu (g := gb109) (o := .cells #[.int .i64 ((qv l0_0 x4_1).f0), .int .i64 ((qv l0_0 x4_1).f1), .string ((qv l0_0 x4_1).f2), .string ((qv l0_0 x4_1).f3), .int .i64 ((qv l0_0 x4_1).f4)] 66 (0, 0)) yq19 hb)
              replace HB := Qz.mk (qq yq18 hb)
              (try clear hb)
              refine hK.out _ _ ⟨(qg BK109.out 0).trans rfl, (qg BK109.out 1).trans rfl, (qg BK109.out 2).trans rfl, (qg BK109.out 3).trans rfl, (qg BK109.out 4).trans rfl⟩ (fun hHeld => ?_)
              clear hK K
              refine norm_ (a' := ?_) ?_ ?_
              rotate_left
              ·show Act.put _ (some 63) _ = _
               simp only [Act.put, sq1, sq2, sq3, i64_w, i32_w]
               rfl
              refine pure_ (i := 23) (N := some 64) (v := ?_) (a' := ?_) #[true, true, true, true, true, true, true, true, true, true, true, true, true, true, true, true, true, true, true, true, true, true, true, true, false] rfl rfl (qg1 HT_.out (by kernel_rfl)) (fun _ _ _ h => h) (Or.inl ⟨by rfl, ?_⟩) ?_ ?_
              rotate_left
              ·intro w'
               go_simp
               with_reducible rfl
              rotate_left
              ·simp only [Act.put, sq1, sq2, sq3, i64_w, i32_w]
               rfl
              refine pure_ (i := 24) (N := some 3) (v := ?_) (a' := ?_) #[true, true, true, true, true, true, true, true, true, true, true, true, true, true, true, true, true, true, true, true, true, true, true, true, true] rfl rfl (qg1 HT_.out (by kernel_rfl)) (fun _ _ _ h => h) (Or.inl ⟨by rfl, ?_⟩) ?_ ?_
              rotate_left
              ·intro w'
               go_simp
               with_reducible rfl
              rotate_left
              ·simp only [Act.put, sq1, sq2, sq3, i64_w, i32_w]
               rfl
              refine done_ (done_of HT_.out (by kernel_rfl)) ?_
              try go_wp2
              go_roundg k1
              case measure => have := HK1.out; omega
              case rel => exact ⟨(((((x3_1 ++ t110) ++ t111) ++ t112) ++ t113) ++ t114), (wrap64 (x4_1 + 1)), (by first | rfl | (simp; done) | (simp [*]; done)), (by first | rfl | (simp; done) | (simp [*]; done)), H', ⟨by have := HK1.out; omega⟩, ⟨by (with_reducible repeat (first | refine qc ?_ _ | refine qf ?_ | refine qa ?_ _)); exact BK101.out⟩, ⟨by repeat (first | (with_reducible first | exact HB.out | apply qi | apply qd | apply qh | refine qe ?_ GE101.out | refine qe ?_ GE109.out) | exact HB.out)⟩⟩
             ·rw [if_neg c30] at H
              exact absurd H (by simp)
            ·rw [if_neg c28] at H
             exact absurd H (by simp)
           ·rw [if_neg c26] at H
            exact absurd H (by simp)
          ·rw [if_neg c24] at H
           exact absurd H (by simp)
         ·rw [if_neg c22] at H
          exact absurd H (by simp)
        ·rw [if_neg c20] at H
         exact absurd H (by simp)
       ·rw [if_neg c19] at H
        have c19b0 : decide (x4_1 < (l0_0.length : Int)) = false := decide_eq_false c19
        clear c19
        replace H := Option.bind_eq_some_iff.mp H
        obtain ⟨t107, A420, H⟩ := H
        replace H : (some t107) = some r := H
        have A42 := Qz.mk A420
        clear A420
        obtain rfl := Option.some.inj H
        have hcz43_0 := (qg BK101.out 0).trans rfl
        have hcz43_1 := (qg BK101.out 1).trans rfl
        have hcz43_2 := (qg BK101.out 2).trans rfl
        have hcz43_3 := (qg BK101.out 3).trans rfl
        have hfz43_0 := qj BK101.out 0
        have hfz43_1 := qj BK101.out 1
        have hfz43_2 := qj BK101.out 2
        have hfz43_3 := qj BK101.out 3
        go_wp2_with (first | ((with_reducible refine qm (f := 78) rfl ?_); refine qy (some 66) rfl rfl Try.func78 (by kernel_rfl) rfl #[.string x3_1] rfl (by (try simp only [List.map_toArray, List.map_cons, List.map_nil]); first | done | rfl) ?_; (with_reducible refine (spec_l10Section.calls k1 x3_1 t107 _ A42.out).mono ?_); rintro e w44 ⟨rfl, hb⟩; refine ⟨_, rfl, ?_⟩; replace BK101 := Qz.mk (qu (g := gb101) (o := .cells #[.slice A0_0 l0_0.length c0_0, .int .i64 a0_1, .int .i64 a0_2, .int .i64 a0_3] 32 (0, 0)) yq16 hb); replace HB := Qz.mk (qq yq17 hb); (try clear hb)))
        go_ret
        exact ⟨by first | rfl | (simp [qt, qr] <;> rfl) | (simp [*, qt, qr] <;> rfl), by repeat (first | (with_reducible first | exact HB.out | apply qi | apply qd | apply qh | refine qe ?_ GE101.out) | exact HB.out)⟩
    ·rw [if_neg c10] at H
     exact absurd H (by simp)
   ·rw [if_neg c8] at H
    exact absurd H (by simp)
  ·rw [if_neg c6] at H
   exact absurd H (by simp)
 ·replace c3 := Bool.eq_false_iff.mpr c3
  subst c3
  have H1 : (some (⟨#[]⟩ : ByteArray)) = some r := by rw [if_neg (show ¬ (false = true) by decide)] at H; exact H
  clear H
  have H := H1
  clear H1
  obtain rfl := Option.some.inj H
  go_enter Try.func41, Try.ntmps41
  go_wp2_with (first | ((with_reducible refine gate_dst (N := 1) rfl ?_); refine box_event ?hg (N := 1) ?hd (cs := #[.slice A0_0 l0_0.length c0_0, .int .i64 a0_1, .int .i64 a0_2, .int .i64 a0_3]) (t := 32) ?hr ?_; (case hd => rfl); (case hg => rfl); (case hr => first | (go_simp; done) | (go_simp; rfl)); intro gb101 hg w45 hbox hb; have BK101 := Qz.mk (hbox); have GW101 := Qz.mk ((by rw [hg]; exact (qb1 yq20) : w.heap.size ≤ gb101)); have GE101 := GW101; replace HB := Qz.mk (qq yq20 hb); clear hb hbox hg; have hcz46_0 := (qg BK101.out 0).trans rfl; have hcz46_1 := (qg BK101.out 1).trans rfl; have hcz46_2 := (qg BK101.out 2).trans rfl; have hcz46_3 := (qg BK101.out 3).trans rfl; have hfz46_0 := qj BK101.out 0; have hfz46_1 := qj BK101.out 1; have hfz46_2 := qj BK101.out 2; have hfz46_3 := qj BK101.out 3) | ((with_reducible refine qm (f := 26) rfl ?_); refine qy (some 7) rfl rfl Try.func26 (by kernel_rfl) rfl #[.agg #[.slice A0_0 l0_0.length c0_0, .int .i64 a0_1, .int .i64 a0_2, .int .i64 a0_3]] rfl yq15 ?_; (with_reducible refine (spec_VersionOk.calls k _ _ l0_0 a0_1 a0_2 a0_3 false _ ?side1 ?side2 A2.out).mono ?_); (case side1 => repeat (first | exact (Kd.C_below HR0_0.out HB.out) | (with_reducible refine Kd.C_alloc ?_ _) | (with_reducible refine Kd.C_drewN ?_ _) | (with_reducible refine Kd.C_drew ?_))); (case side2 => exact HC0_0.out); rintro e w47 ⟨rfl, hb⟩; refine ⟨_, rfl, ?_⟩; replace BK101 := Qz.mk (qu (g := gb101) (o := .cells #[.slice A0_0 l0_0.length c0_0, .int .i64 a0_1, .int .i64 a0_2, .int .i64 a0_3] 32 (0, 0)) yq16 hb); replace HB := Qz.mk (qq yq17 hb); (try clear hb)))
  go_ret
  exact ⟨by first | rfl | (simp [qt, qr] <;> rfl) | (simp [*, qt, qr] <;> rfl), by repeat (first | (with_reducible first | exact HB.out | apply qi | apply qd | apply qh | refine qe ?_ GE101.out) | exact HB.out)⟩
theorem yq21 {P : Prop} (h : P := by repeat (first | (with_reducible first | exact HB.out | apply qi | apply qd | apply qh) | exact HB.out)) : P := h
def impl_PutVar.l0 : Nat → Int → List Int → Option (ByteArray)
 | 0, _, _ => none
 | k + 1, x0, x3 => if x0 ≥ 128 then (if x3.length < 140737488355328 then (impl_PutVar.l0 k (x0 / 128) (x3 ++ [Go.bits .or .u8 ((x0) % 256) 128])) else (none)) else (if x3.length < 140737488355328 then (some (strOfNums (x3 ++ [(x0) % 256]))) else (none))
def impl_PutVar.f (k : Nat) (a0 : Int) : Option (ByteArray) := impl_PutVar.l0 k a0 (([] : List Int))
set_option maxHeartbeats 8000000 in
set_option maxRecDepth 100000 in
theorem impl_PutVar.calls (k : Nat) (a0 : Int) (r : ByteArray) (w : World) (h : impl_PutVar.f k a0 = some r) :
  Calls Try.prog 120 #[.int .u64 a0] w fun e w' => e = .returned (.string r) ∧ Below w.heap.size w w' := by
 have HB := Qz.mk (Below.refl w.heap.size w)
 have H : (impl_PutVar.l0 k a0 (([] : List Int))) = some r := h
 clear h
 obtain ⟨y101, hy101⟩ : ∃ y_ : List Int, y_ = (([] : List Int)) := ⟨_, rfl⟩
 replace H : (impl_PutVar.l0 k a0 y101) = some r := by first | (rw [hy101]; with_reducible exact H) | (have H2_ := (Option.bind_some _ _).symm.trans H; rw [hy101]; with_reducible exact H2_) | (have H2_ := (Option.bind_some _ _).symm.trans H; with_reducible exact H2_) | with_reducible exact H | (rw [hy101]; exact H) | exact H
 have Ny101 := Qz.mk hy101
 clear hy101
 have H' := Qz.mk H
 clear H
 go_enter Try.func120, Try.ntmps120
 go_wp2_with (first | ((with_reducible refine gate_dst (N := 4) rfl ?_); refine Kd.R_lit (Kd.int .u8) _ 5 ?hg (N := 4) ?hd (xs := ([] : List Int)) (inner := []) (ok := fun _ => True) (okp := fun _ => True) ?hr ?hp (fun _ hk => hk) trivial (Below.refl _ _) (Nat.le_refl _) (by simp) ?_; (case hd => rfl); (case hg => rfl); (case hr => first | (go_simp; done) | (go_simp; rfl)); (case hp => exact (Reps.none _ _)); intro v102 w2 ho3 hb hg_ hnew_; clear hg_ hnew_; (first | rw [← Ny101.out] at ho3 | (simp only [Int.reduceToNat] at ho3; rw [← Ny101.out] at ho3)); have HO103 := Qz.mk (Kd.R_lower ho3 (qb1 yq21)); replace HB := Qz.mk (qq yq21 hb); clear hb ho3))
 go_loopg [0, 3] k (fun kq v0 v3 w' => ∃ (x0_1 : Int) (x3_1 : List Int), v0 = .int .u64 x0_1 ∧ Qz (impl_PutVar.l0 kq x0_1 x3_1 = some r) ∧ Qz (kq ≤ k) ∧ Qz (Kd.R (Kd.int .u8) 5 w' w.heap.size (fun _ => True) v3 x3_1) ∧ Qz (Below w.heap.size w w'))
 case atStart => exact ⟨(a0), (y101), (by first | rfl | (simp; done) | (simp [*]; done)), H', ⟨Nat.le_refl _⟩, ⟨by (with_reducible repeat (first | apply Kd.R_alloc | apply Kd.R_drewN | apply Kd.R_drew)); exact HO103.out⟩, ⟨by repeat (first | (with_reducible first | exact HB.out | apply qi | apply qd | apply qh) | exact HB.out)⟩⟩
 case round =>
  clear H'
  (try clear c1);(try clear p2)
  obtain ⟨x0_1, x3_1, rfl, HA, HK1, HO_3, HB⟩ := hrel
  cases gk with
  | zero => exact absurd HA.out (by simp [impl_PutVar.l0])
  | succ k1 =>
   have H := HA.out
   clear HA
   simp only [impl_PutVar.l0] at H
   by_cases c4 : x0_1 ≥ 128
   ·rw [if_pos c4] at H
    have c4b0 : decide (128 ≤ x0_1) = true := decide_eq_true c4
    clear c4
    by_cases c5 : x3_1.length < 140737488355328
    ·rw [if_pos c5] at H
     have LMc5 := Qz.mk c5
     clear c5
     obtain ⟨y104, hy104⟩ : ∃ y_ : List Int, y_ = (x3_1 ++ [Go.bits .or .u8 ((x0_1) % 256) 128]) := ⟨_, rfl⟩
     replace H : (impl_PutVar.l0 k1 (x0_1 / 128) y104) = some r := by first | (rw [hy104]; with_reducible exact H) | (have H2_ := (Option.bind_some _ _).symm.trans H; rw [hy104]; with_reducible exact H2_) | (have H2_ := (Option.bind_some _ _).symm.trans H; with_reducible exact H2_) | with_reducible exact H | (rw [hy104]; exact H) | exact H
     have Ny104 := Qz.mk hy104
     clear hy104
     have H' := Qz.mk H
     clear H
     go_wp2_with (first | ((with_reducible refine gate_builtin (b := .append) (xs := #[.tmp 9, .tmp 13]) rfl ?_); at_builtin; refine Kd.R_append (Kd.int .u8) (w0 := w) w.heap.size rfl (.tmp 9) (.tmp 13) 57 5 (.int .u8 0) 1 rfl Try.underlying57 info5 rfl (by decide) (by omega) u3 x3_1 (Go.bits .or .u8 ((x0_1) % 256) 128) [.int .u8 (Go.bits .or .u8 ((x0_1) % 256) 128)] (fun _ => True) (fun _ => False) rfl rfl ?aP (fun _ hk => hk.elim) ?aF ?aO ?aB ?aS ?aL ?_; (case aP => exact rfl); (case aB => exact yq21); (case aF => exact (fun _ _ => trivial)); (case aO => exact (by (with_reducible repeat (first | apply Kd.R_alloc | apply Kd.R_drewN | apply Kd.R_drew)); exact HO_3.out)); (case aS => exact (qb1 yq21)); (case aL => have := LMc5.out; omega); intro v105 w6 ho hb hg hat; rw [← Ny104.out] at ho; have n0_ := Qz.mk (hb); have n1_ := Qz.mk (ho); clear HB; clear HO_3; have HB := n0_; have HO106 := n1_; clear n0_ n1_; clear ho hb hg hat))
     go_roundg k1
     case measure => have := HK1.out; omega
     case rel => exact ⟨(x0_1 / 128), (y104), (by first | rfl | (simp; done) | (simp [*]; done)), H', ⟨by have := HK1.out; omega⟩, ⟨by (with_reducible repeat (first | apply Kd.R_alloc | apply Kd.R_drewN | apply Kd.R_drew)); exact HO106.out⟩, ⟨by repeat (first | (with_reducible first | exact HB.out | apply qi | apply qd | apply qh) | exact HB.out)⟩⟩
    ·rw [if_neg c5] at H
     exact absurd H (by simp)
   ·rw [if_neg c4] at H
    have c4b0 : decide (128 ≤ x0_1) = false := decide_eq_false c4
    clear c4
    by_cases c7 : x3_1.length < 140737488355328
    ·rw [if_pos c7] at H
     have LMc7 := Qz.mk c7
     clear c7
     obtain ⟨y107, hy107⟩ : ∃ y_ : List Int, y_ = (x3_1 ++ [(x0_1) % 256]) := ⟨_, rfl⟩
     replace H : (some (strOfNums y107)) = some r := by first | (rw [hy107]; with_reducible exact H) | (have H2_ := (Option.bind_some _ _).symm.trans H; rw [hy107]; with_reducible exact H2_) | (have H2_ := (Option.bind_some _ _).symm.trans H; with_reducible exact H2_) | with_reducible exact H | (rw [hy107]; exact H) | exact H
     have Ny107 := Qz.mk hy107
     clear hy107
     obtain rfl := Option.some.inj H
     go_wp2_with (first | ((with_reducible refine gate_builtin (b := .append) (xs := #[.tmp 15, .tmp 18]) rfl ?_); at_builtin; refine Kd.R_append (Kd.int .u8) (w0 := w) w.heap.size rfl (.tmp 15) (.tmp 18) 57 5 (.int .u8 0) 1 rfl Try.underlying57 info5 rfl (by decide) (by omega) u3 x3_1 ((x0_1) % 256) [.int .u8 ((x0_1) % 256)] (fun _ => True) (fun _ => False) rfl rfl ?aP (fun _ hk => hk.elim) ?aF ?aO ?aB ?aS ?aL ?_; (case aP => exact rfl); (case aB => exact yq21); (case aF => exact (fun _ _ => trivial)); (case aO => exact (by (with_reducible repeat (first | apply Kd.R_alloc | apply Kd.R_drewN | apply Kd.R_drew)); exact HO_3.out)); (case aS => exact (qb1 yq21)); (case aL => have := LMc7.out; omega); intro v108 w8 ho hb hg hat; rw [← Ny107.out] at ho; have n0_ := Qz.mk (hb); have n1_ := Qz.mk (ho); clear HB; clear HO_3; have HB := n0_; have HO109 := n1_; clear n0_ n1_; clear ho hb hg hat; have hcv9 := own_string (P := Try.prog) Try.underlying57 Try.underlying5 Try.underlying9 (Kd.own_of_R HO109.out)))
     go_ret
     exact ⟨by first | rfl | (simp [qt, qr] <;> rfl) | (simp [*, qt, qr] <;> rfl), by repeat (first | (with_reducible first | exact HB.out | apply qi | apply qd | apply qh) | exact HB.out)⟩
    ·rw [if_neg c7] at H
     exact absurd H (by simp)
def impl_putInt.f (k : Nat) (a0 : Int) : Option (ByteArray) := (impl_PutVar.f k (IntKind.u64.wrap (a0))).bind fun t101 => (some t101)
set_option maxHeartbeats 8000000 in
set_option maxRecDepth 100000 in
theorem impl_putInt.calls (k : Nat) (a0 : Int) (r : ByteArray) (w : World) (h : impl_putInt.f k a0 = some r) :
  Calls Try.prog 106 #[.int .i64 a0] w fun e w' => e = .returned (.string r) ∧ Below w.heap.size w w' := by
 have HB := Qz.mk (Below.refl w.heap.size w)
 have H : ((impl_PutVar.f k (IntKind.u64.wrap (a0))).bind fun t101 => (some t101)) = some r := h
 clear h
 replace H := Option.bind_eq_some_iff.mp H
 obtain ⟨t101, A20, H⟩ := H
 replace H : (some t101) = some r := H
 have A2 := Qz.mk A20
 clear A20
 obtain rfl := Option.some.inj H
 go_enter Try.func106, Try.ntmps106
 go_wp2_with (first | ((with_reducible refine qm (f := 120) rfl ?_); refine qy (some 5) rfl rfl Try.func120 (by kernel_rfl) rfl #[.int .u64 (IntKind.u64.wrap (a0))] rfl (by (try simp only [List.map_toArray, List.map_cons, List.map_nil]); first | done | rfl | (simp only [List.length_drop, List.length_take]; rfl) | (rw [IntWalk.u64_in _ (by omega)] <;> rfl)) ?_; (with_reducible refine (impl_PutVar.calls k (IntKind.u64.wrap (a0)) t101 _ A2.out).mono ?_); rintro e w3 ⟨rfl, hb⟩; refine ⟨_, rfl, ?_⟩; replace HB := Qz.mk (qq (by repeat (first | (with_reducible first | exact HB.out | apply qi | apply qd | apply qh) | exact HB.out)) hb); (try clear hb)))
 go_ret
 exact ⟨by first | rfl | (simp [qt, qr] <;> rfl) | (simp [*, qt, qr] <;> rfl), by repeat (first | (with_reducible first | exact HB.out | apply qi | apply qd | apply qh) | exact HB.out)⟩
def impl_PutText.f (k : Nat) (a0 : ByteArray) : Option (ByteArray) := (impl_PutVar.f k (IntKind.u64.wrap ((a0.size : Int)))).bind fun t101 => (if t101.size + a0.size ≤ 9223372036854775807 then (some (t101 ++ a0)) else (none))
set_option maxHeartbeats 8000000 in
set_option maxRecDepth 100000 in
theorem impl_PutText.calls (k : Nat) (a0 : ByteArray) (r : ByteArray) (w : World) (h : impl_PutText.f k a0 = some r) :
  Calls Try.prog 107 #[.string a0] w fun e w' => e = .returned (.string r) ∧ Below w.heap.size w w' := by
 have HB := Qz.mk (Below.refl w.heap.size w)
 have H : ((impl_PutVar.f k (IntKind.u64.wrap ((a0.size : Int)))).bind fun t101 => (if t101.size + a0.size ≤ 9223372036854775807 then (some (t101 ++ a0)) else (none))) = some r := h
 clear h
 replace H := Option.bind_eq_some_iff.mp H
 obtain ⟨t101, A20, H⟩ := H
 replace H : (if t101.size + a0.size ≤ 9223372036854775807 then (some (t101 ++ a0)) else (none)) = some r := H
 have A2 := Qz.mk A20
 clear A20
 by_cases c3 : t101.size + a0.size ≤ 9223372036854775807
 ·rw [if_pos c3] at H
  have c3b0 := eq_true c3
  have c3b1 : decide (t101.size + a0.size ≤ 9223372036854775807) = true := decide_eq_true c3
  try have c3b2 : (9223372036854775807 < t101.size + a0.size) = False := eq_false (Nat.not_lt.2 c3)
  obtain rfl := Option.some.inj H
  go_enter Try.func107, Try.ntmps107
  go_wp2_with (first | ((with_reducible refine qm (f := 120) rfl ?_); refine qy (some 6) rfl rfl Try.func120 (by kernel_rfl) rfl #[.int .u64 (IntKind.u64.wrap ((a0.size : Int)))] rfl (by (try simp only [List.map_toArray, List.map_cons, List.map_nil]); first | done | rfl | (simp only [List.length_drop, List.length_take]; rfl) | (rw [IntWalk.u64_in _ (by omega)] <;> rfl)) ?_; (with_reducible refine (impl_PutVar.calls k (IntKind.u64.wrap ((a0.size : Int))) t101 _ A2.out).mono ?_); rintro e w4 ⟨rfl, hb⟩; refine ⟨_, rfl, ?_⟩; replace HB := Qz.mk (qq (by repeat (first | (with_reducible first | exact HB.out | apply qi | apply qd | apply qh) | exact HB.out)) hb); (try clear hb)))
  go_ret
  exact ⟨by first | rfl | (simp [qt, qr] <;> rfl) | (simp [*, qt, qr] <;> rfl), by repeat (first | (with_reducible first | exact HB.out | apply qi | apply qd | apply qh) | exact HB.out)⟩
 ·rw [if_neg c3] at H
  exact absurd H (by simp)
theorem yq22 {P : Prop} (h : P := by first | rfl | (simp; done) | (simp [*]; done)) : P := h
mutual
def impl_Crc.l0 : Nat → ByteArray → Int → Int → Int → Option (Int)
 | 0, _, _, _, _ => none
 | k + 1, x0, x3, x6, x7 => if x7 < x6 then (if 0 ≤ x7 then (if x7 < (x0.size : Int) then (impl_Crc.l1 k x0 (Go.bits .xor .u32 x3 ((bt x0 x7) % 4294967296)) x6 x7 0) else (none)) else (none)) else (some (Go.bits .xor .u32 4294967295 x3))
def impl_Crc.l1 : Nat → ByteArray → Int → Int → Int → Int → Option (Int)
 | 0, _, _, _, _, _ => none
 | k + 1, x0, x3, x6, x7, x16 => if x16 < 8 then (if (Go.bits .and .u32 x3 1) = 1 then (impl_Crc.l1 k x0 (Go.bits .xor .u32 (x3 / 2) 2197175160) x6 x7 (wrap64 (x16 + 1))) else (impl_Crc.l1 k x0 (x3 / 2) x6 x7 (wrap64 (x16 + 1)))) else (impl_Crc.l0 k x0 x3 x6 (wrap64 (x7 + 1)))
end
def impl_Crc.f (k : Nat) (a0 : ByteArray) : Option (Int) := impl_Crc.l0 k a0 4294967295 (a0.size : Int) 0
set_option maxHeartbeats 8000000 in
set_option maxRecDepth 100000 in
theorem impl_Crc.calls (k : Nat) (a0 : ByteArray) (r : Int) (w : World) (h : impl_Crc.f k a0 = some r) :
  Calls Try.prog 113 #[.string a0] w fun e w' => e = .returned (.int .u32 r) ∧ Drawn0 w w' := by
 have H : (impl_Crc.l0 k a0 4294967295 (a0.size : Int) 0) = some r := h
 clear h
 have H' := Qz.mk H
 clear H
 go_enter Try.func113, Try.ntmps113
 go_wp2
 go_loopg [3, 7] k (fun kq v3 v7 w' => ∃ (x3_1 : Int) (x7_1 : Int), v3 = .int .u32 x3_1 ∧ v7 = .int .i64 x7_1 ∧ Qz (impl_Crc.l0 kq a0 x3_1 (a0.size : Int) x7_1 = some r) ∧ Qz (kq ≤ k) ∧ Drawn0 w w')
 case atStart => exact ⟨(4294967295), (0), yq22, yq22, H', ⟨Nat.le_refl _⟩, by repeat (first | exact Drawn0.refl _ | apply Drawn0.step)⟩
 case round =>
  clear H'
  try clear c1
  obtain ⟨x3_1, x7_1, rfl, rfl, HA, HK1, ⟨m1, rfl⟩⟩ := hrel
  cases gk with
  | zero => exact absurd HA.out (by simp [impl_Crc.l0])
  | succ k1 =>
   have H := HA.out
   clear HA
   simp only [impl_Crc.l0] at H
   by_cases c2 : x7_1 < (a0.size : Int)
   ·rw [if_pos c2] at H
    have c2b0 : decide (x7_1 < (a0.size : Int)) = true := decide_eq_true c2
    clear c2
    by_cases c3 : 0 ≤ x7_1
    ·rw [if_pos c3] at H
     have c3b0 : decide (0 ≤ x7_1) = true := decide_eq_true c3
     clear c3
     by_cases c4 : x7_1 < (a0.size : Int)
     ·rw [if_pos c4] at H
      have c4b0 : decide (x7_1 < (a0.size : Int)) = true := decide_eq_true c4
      clear c4
      have H' := Qz.mk H
      clear H
      have p5 : 0 ≤ (x7_1 : Int) := of_decide_eq_true (by first | (with_reducible assumption) | assumption)
      have q5 : x7_1 < (a0.size : Int) := of_decide_eq_true (by first | (with_reducible assumption) | assumption)
      have hx5 := bt_at a0 x7_1
      replace p5 := eq_true p5
      replace q5 := eq_true q5
      go_wp2
      go_loopg [3, 16] k1 (fun kq v3 v16 w' => ∃ (x3_2 : Int) (x16_2 : Int), v3 = .int .u32 x3_2 ∧ v16 = .int .i64 x16_2 ∧ Qz (impl_Crc.l1 kq a0 x3_2 (a0.size : Int) x7_1 x16_2 = some r) ∧ Qz (kq ≤ k1) ∧ Drawn0 w w')
      case atStart => exact ⟨(Go.bits .xor .u32 x3_1 ((bt a0 x7_1) % 4294967296)), (0), yq22, yq22, H', ⟨Nat.le_refl _⟩, by repeat (first | exact Drawn0.refl _ | apply Drawn0.step)⟩
      case round =>
       clear H'
       (try clear c1);(try clear c2);(try clear c2b0);(try clear p2);(try clear c3);(try clear c3b0);(try clear c4);(try clear c4b0);(try clear p5);(try clear q5);(try clear hx5);(try clear p5);(try clear q5)
       obtain ⟨x3_2, x16_2, rfl, rfl, HA, HK2, ⟨m2, rfl⟩⟩ := hrel
       cases gk with
       | zero => exact absurd HA.out (by simp [impl_Crc.l1])
       | succ k2 =>
        have H := HA.out
        clear HA
        simp only [impl_Crc.l1] at H
        by_cases c6 : x16_2 < 8
        ·rw [if_pos c6] at H
         have c6b0 : decide (x16_2 < 8) = true := decide_eq_true c6
         clear c6
         by_cases c7 : (Go.bits .and .u32 x3_2 1) = 1
         ·rw [if_pos c7] at H
          have c7b0 : ((Go.bits .and .u32 x3_2 1) == 1) = true := beq_iff_eq.mpr c7
          have c7b1 : ((Go.bits .and .u32 x3_2 1) != 1) = false := bne_eq_false_iff_eq.mpr c7
          clear c7
          have H' := Qz.mk H
          clear H
          go_wp2
          go_roundg k2
          case measure => have := HK1.out; have := HK2.out; omega
          case rel => exact ⟨(Go.bits .xor .u32 (x3_2 / 2) 2197175160), (wrap64 (x16_2 + 1)), yq22, yq22, H', ⟨by have := HK1.out; have := HK2.out; omega⟩, by repeat (first | exact Drawn0.refl _ | apply Drawn0.step)⟩
         ·rw [if_neg c7] at H
          have c7b0 : ((Go.bits .and .u32 x3_2 1) == 1) = false := beq_eq_false_iff_ne.mpr c7
          have c7b1 : ((Go.bits .and .u32 x3_2 1) != 1) = true := bne_iff_ne.mpr c7
          have H' := Qz.mk H
          clear H
          go_wp2
          go_roundg k2
          case measure => have := HK1.out; have := HK2.out; omega
          case rel => exact ⟨(x3_2 / 2), (wrap64 (x16_2 + 1)), yq22, yq22, H', ⟨by have := HK1.out; have := HK2.out; omega⟩, by repeat (first | exact Drawn0.refl _ | apply Drawn0.step)⟩
        ·rw [if_neg c6] at H
         have c6b0 : decide (x16_2 < 8) = false := decide_eq_false c6
         clear c6
         have H' := Qz.mk H
         clear H
         go_wp2
         go_roundg k2
         case measure => have := HK1.out; have := HK2.out; omega
         case rel => exact ⟨(x3_2), (wrap64 (x7_1 + 1)), yq22, yq22, H', ⟨by have := HK1.out; have := HK2.out; omega⟩, by repeat (first | exact Drawn0.refl _ | apply Drawn0.step)⟩
     ·rw [if_neg c4] at H
      exact absurd H (by simp)
    ·rw [if_neg c3] at H
     exact absurd H (by simp)
   ·rw [if_neg c2] at H
    have c2b0 : decide (x7_1 < (a0.size : Int)) = false := decide_eq_false c2
    clear c2
    obtain rfl := Option.some.inj H
    go_wp2
    go_ret
    exact ⟨by first | rfl | (simp; done) | (simp [*]; done), by repeat (first | exact Drawn0.refl _ | apply Drawn0.step)⟩
def impl_PutFixed.f (a0 : Int) : Option (ByteArray) := some (strOfNums (([(a0) % 256, (a0 / 256) % 256, (a0 / 65536) % 256, (a0 / 16777216) % 256] : List Int)))
set_option maxHeartbeats 8000000 in
set_option maxRecDepth 100000 in
theorem impl_PutFixed.calls (a0 : Int) (r : ByteArray) (w : World) (h : impl_PutFixed.f a0 = some r) :
  Calls Try.prog 121 #[.int .u32 a0] w fun e w' => e = .returned (.string r) ∧ Below w.heap.size w w' := by
 have HB := Qz.mk (Below.refl w.heap.size w)
 have H : (some (strOfNums (([(a0) % 256, (a0 / 256) % 256, (a0 / 65536) % 256, (a0 / 16777216) % 256] : List Int)))) = some r := h
 clear h
 obtain ⟨y101, hy101⟩ : ∃ y_ : List Int, y_ = (([(a0) % 256, (a0 / 256) % 256, (a0 / 65536) % 256, (a0 / 16777216) % 256] : List Int)) := ⟨_, rfl⟩
 replace H : (some (strOfNums y101)) = some r := by first | (rw [hy101]; with_reducible exact H) | (have H2_ := (Option.bind_some _ _).symm.trans H; rw [hy101]; with_reducible exact H2_) | (have H2_ := (Option.bind_some _ _).symm.trans H; with_reducible exact H2_) | with_reducible exact H | (rw [hy101]; exact H) | exact H
 have Ny101 := Qz.mk hy101
 clear hy101
 obtain rfl := Option.some.inj H
 go_enter Try.func121, Try.ntmps121
 go_wp2_with (first | ((with_reducible refine gate_dst (N := 14) rfl ?_); refine Kd.R_lit (Kd.int .u8) _ 5 ?hg (N := 14) ?hd (xs := ([(a0) % 256, (a0 / 256) % 256, (a0 / 65536) % 256, (a0 / 16777216) % 256] : List Int)) (inner := [.int .u8 ((a0) % 256), .int .u8 ((a0 / 256) % 256), .int .u8 ((a0 / 65536) % 256), .int .u8 ((a0 / 16777216) % 256)]) (ok := fun _ => True) (okp := fun _ => True) ?hr ?hp (fun _ hk => hk) trivial (Below.refl _ _) (Nat.le_refl _) (by simp) ?_; (case hd => rfl); (case hg => rfl); (case hr => first | (go_simp; done) | (go_simp; rfl)); (case hp => exact (Reps.one (show Kd.M (Kd.int .u8) _ _ _ ((a0) % 256) [.int .u8 ((a0) % 256)] from rfl) (Reps.one (show Kd.M (Kd.int .u8) _ _ _ ((a0 / 256) % 256) [.int .u8 ((a0 / 256) % 256)] from rfl) (Reps.one (show Kd.M (Kd.int .u8) _ _ _ ((a0 / 65536) % 256) [.int .u8 ((a0 / 65536) % 256)] from rfl) (Reps.one (show Kd.M (Kd.int .u8) _ _ _ ((a0 / 16777216) % 256) [.int .u8 ((a0 / 16777216) % 256)] from rfl) (Reps.none _ _)))))); intro v102 w2 ho3 hb hg_ hnew_; clear hg_ hnew_; (first | rw [← Ny101.out] at ho3 | (simp only [Int.reduceToNat] at ho3; rw [← Ny101.out] at ho3)); have HO103 := Qz.mk (Kd.R_lower ho3 (qb1 (by repeat (first | (with_reducible first | exact HB.out | apply qi | apply qd | apply qh) | exact HB.out)))); replace HB := Qz.mk (qq (by repeat (first | (with_reducible first | exact HB.out | apply qi | apply qd | apply qh) | exact HB.out)) hb); clear hb ho3; have hcv4 := own_string (P := Try.prog) Try.underlying57 Try.underlying5 Try.underlying9 (Kd.own_of_R HO103.out)))
 go_ret
 exact ⟨by first | rfl | (simp [qt, qr] <;> rfl) | (simp [*, qt, qr] <;> rfl), by repeat (first | (with_reducible first | exact HB.out | apply qi | apply qd | apply qh) | exact HB.out)⟩
def impl_section.f (k : Nat) (a0 : ByteArray) : Option (ByteArray) := (impl_PutText.f k a0).bind fun t101 => ((impl_Crc.f k a0).bind fun t102 => ((impl_PutFixed.f t102).bind fun t103 => (if t101.size + t103.size ≤ 9223372036854775807 then (some (t101 ++ t103)) else (none))))
set_option maxHeartbeats 8000000 in
set_option maxRecDepth 100000 in
theorem impl_section.calls (k : Nat) (a0 : ByteArray) (r : ByteArray) (w : World) (h : impl_section.f k a0 = some r) :
  Calls Try.prog 108 #[.string a0] w fun e w' => e = .returned (.string r) ∧ Below w.heap.size w w' := by
 have HB := Qz.mk (Below.refl w.heap.size w)
 have H : ((impl_PutText.f k a0).bind fun t101 => ((impl_Crc.f k a0).bind fun t102 => ((impl_PutFixed.f t102).bind fun t103 => (if t101.size + t103.size ≤ 9223372036854775807 then (some (t101 ++ t103)) else (none))))) = some r := h
 clear h
 replace H := Option.bind_eq_some_iff.mp H
 obtain ⟨t101, A20, H⟩ := H
 replace H : ((impl_Crc.f k a0).bind fun t102 => ((impl_PutFixed.f t102).bind fun t103 => (if t101.size + t103.size ≤ 9223372036854775807 then (some (t101 ++ t103)) else (none)))) = some r := H
 have A2 := Qz.mk A20
 clear A20
 replace H := Option.bind_eq_some_iff.mp H
 obtain ⟨t102, A30, H⟩ := H
 replace H : ((impl_PutFixed.f t102).bind fun t103 => (if t101.size + t103.size ≤ 9223372036854775807 then (some (t101 ++ t103)) else (none))) = some r := H
 have A3 := Qz.mk A30
 clear A30
 replace H := Option.bind_eq_some_iff.mp H
 obtain ⟨t103, A40, H⟩ := H
 replace H : (if t101.size + t103.size ≤ 9223372036854775807 then (some (t101 ++ t103)) else (none)) = some r := H
 have A4 := Qz.mk A40
 clear A40
 by_cases c5 : t101.size + t103.size ≤ 9223372036854775807
 ·rw [if_pos c5] at H
  have c5b0 := eq_true c5
  have c5b1 : decide (t101.size + t103.size ≤ 9223372036854775807) = true := decide_eq_true c5
  try have c5b2 : (9223372036854775807 < t101.size + t103.size) = False := eq_false (Nat.not_lt.2 c5)
  obtain rfl := Option.some.inj H
  go_enter Try.func108, Try.ntmps108
  go_wp2_with (first | ((with_reducible refine qm (f := 107) rfl ?_); refine qy (some 4) rfl rfl Try.func107 (by kernel_rfl) rfl #[.string a0] rfl (by (try simp only [List.map_toArray, List.map_cons, List.map_nil]); first | done | rfl) ?_; (with_reducible refine (impl_PutText.calls k a0 t101 _ A2.out).mono ?_); rintro e w6 ⟨rfl, hb⟩; refine ⟨_, rfl, ?_⟩; replace HB := Qz.mk (qq (by repeat (first | (with_reducible first | exact HB.out | apply qi | apply qd | apply qh) | exact HB.out)) hb); (try clear hb)) | ((with_reducible refine qm (f := 113) rfl ?_); refine qy (some 6) rfl rfl Try.func113 (by kernel_rfl) rfl #[.string a0] rfl (by (try simp only [List.map_toArray, List.map_cons, List.map_nil]); first | done | rfl) ?_; (with_reducible refine (impl_Crc.calls k a0 t102 _ A3.out).mono ?_); rintro e w' ⟨rfl, ⟨nd, rfl⟩⟩; refine ⟨_, rfl, ?_⟩) | ((with_reducible refine qm (f := 121) rfl ?_); refine qy (some 7) rfl rfl Try.func121 (by kernel_rfl) rfl #[.int .u32 t102] rfl (by (try simp only [List.map_toArray, List.map_cons, List.map_nil]); first | done | rfl) ?_; (with_reducible refine (impl_PutFixed.calls t102 t103 _ A4.out).mono ?_); rintro e w7 ⟨rfl, hb⟩; refine ⟨_, rfl, ?_⟩; replace HB := Qz.mk (qq (by repeat (first | (with_reducible first | exact HB.out | apply qi | apply qd | apply qh) | exact HB.out)) hb); (try clear hb)))
  go_ret
  exact ⟨by first | rfl | (simp [qt, qr] <;> rfl) | (simp [*, qt, qr] <;> rfl), by repeat (first | (with_reducible first | exact HB.out | apply qi | apply qd | apply qh) | exact HB.out)⟩
 ·rw [if_neg c5] at H
  exact absurd H (by simp)
theorem yq23 {P : Prop} (h : P := by (with_reducible repeat (first | refine qc ?_ _ | refine qf ?_ | refine qa ?_ _)); exact BK101.out) : P := h
theorem yq24 {P : Prop} (h : P := by repeat (first | (with_reducible first | exact HB.out | apply qi | apply qd | apply qh | refine qe ?_ GE101.out) | exact HB.out)) : P := h
theorem yq25 {P : Prop} (h : P := by (try simp only [List.map_toArray, List.map_cons, List.map_nil]); first | done | rfl) : P := h
theorem yq26 {P : Prop} (h : P := by repeat (first | (with_reducible first | exact HB.out | apply qi | apply qd | apply qh | refine qe ?_ GE101.out | refine qe ?_ GE108.out) | exact HB.out)) : P := h
theorem yq27 {P : Prop} (h : P := by (with_reducible repeat (first | refine qc ?_ _ | refine qf ?_ | refine qa ?_ _)); exact BK108.out) : P := h
def impl_Version_text.l0 : Nat → ByteArray → List (S66) → Int → Int → Option (ByteArray)
 | 0, _, _, _, _ => none
 | k + 1, x3, x23, x24, x25 => if x25 < x24 then (if 0 ≤ x25 then (if x25 < (x23.length : Int) then ((impl_putInt.f k ((qv x23 x25).f0)).bind fun t109 => ((impl_putInt.f k ((qv x23 x25).f1)).bind fun t110 => (if t109.size + t110.size ≤ 9223372036854775807 then ((impl_PutText.f k ((qv x23 x25).f2)).bind fun t111 => (if t109.size + t110.size + t111.size ≤ 9223372036854775807 then ((impl_PutText.f k ((qv x23 x25).f3)).bind fun t112 => (if t109.size + t110.size + t111.size + t112.size ≤ 9223372036854775807 then ((impl_putInt.f k ((qv x23 x25).f4)).bind fun t113 => (if t109.size + t110.size + t111.size + t112.size + t113.size ≤ 9223372036854775807 then (if x3.size + (t109.size + t110.size + t111.size + t112.size + t113.size) ≤ 9223372036854775807 then (impl_Version_text.l0 k (x3 ++ ((((t109 ++ t110) ++ t111) ++ t112) ++ t113)) x23 x24 (wrap64 (x25 + 1))) else (none)) else (none))) else (none))) else (none))) else (none)))) else (none)) else (none)) else ((impl_section.f k x3).bind fun t106 => (some t106))
def impl_Version_text.f (k : Nat) (l0_0 : List (S66)) (a0_1 : Int) (a0_2 : Int) (a0_3 : Int) : Option (ByteArray) := (impl_putInt.f k a0_1).bind fun t102 => ((impl_putInt.f k a0_2).bind fun t103 => (if t102.size + t103.size ≤ 9223372036854775807 then ((impl_putInt.f k a0_3).bind fun t104 => (if t102.size + t103.size + t104.size ≤ 9223372036854775807 then ((impl_putInt.f k (l0_0.length : Int)).bind fun t105 => (if t102.size + t103.size + t104.size + t105.size ≤ 9223372036854775807 then (impl_Version_text.l0 k (((t102 ++ t103) ++ t104) ++ t105) l0_0 (l0_0.length : Int) 0) else (none))) else (none))) else (none)))
def impl_Version_text.T1 : Bool × List (List Nat × List Nat) := (true, [([], []), ([0], [0]), ([1], [1]), ([], []), ([3], [3]), ([4, 2], [4]), ([2, 5], [2, 5]), ([], []), ([7], [7]), ([8, 5], [8]), ([6, 9], [6, 9]), ([], []), ([11], [11]), ([12], [12]), ([13, 9], [13]), ([10, 14], [10, 14]), ([15, 14, 0, 1, 2, 3, 4, 5, 6, 7, 8, 9, 10, 11, 12, 13, 14, 15], [15])])
def impl_Version_text.B1 : List Nat := [0, 1, 3, 0, 8, 31, 63, 0, 128, 447, 1023, 0, 2048, 6144, 15295, 32767, 65535]
theorem impl_Version_text.tab1 : rtab .any (opsOf Try.f79 1) = impl_Version_text.T1 := by kernel_rfl
theorem impl_Version_text.bits1 : waitsOk impl_Version_text.T1.2 impl_Version_text.B1 = true := by kernel_rfl
def impl_Version_text.T5 : Bool × List (List Nat × List Nat) := (true, [([], []), ([], []), ([1], [1]), ([2], [2]), ([], []), ([4], [4]), ([5, 3], [5]), ([3, 6], [3, 6]), ([], []), ([8], [8]), ([9, 6], [9]), ([7, 10], [7, 10]), ([], []), ([12], [12]), ([13, 10], [13]), ([11, 14], [11, 14]), ([], []), ([16], [16]), ([17, 14], [17]), ([15, 18], [15, 18]), ([0, 19], [0, 19]), ([20, 18, 0, 1, 2, 3, 4, 5, 6, 7, 8, 9, 10, 11, 12, 13, 14, 15, 16, 17, 18, 19, 20], [0, 20])])
def impl_Version_text.B5 : List Nat := [0, 0, 2, 6, 0, 16, 62, 126, 0, 256, 894, 2046, 0, 4096, 14206, 32766, 0, 65536, 227198, 524286, 1048575, 2097151]
theorem impl_Version_text.tab5 : rtab .any (opsOf Try.f79 5) = impl_Version_text.T5 := by kernel_rfl
theorem impl_Version_text.bits5 : waitsOk impl_Version_text.T5.2 impl_Version_text.B5 = true := by kernel_rfl
set_option maxHeartbeats 8000000 in
set_option maxRecDepth 100000 in
theorem impl_Version_text.calls (k : Nat) (A0_0 : Option Addr) (c0_0 : Nat) (l0_0 : List (S66)) (a0_1 : Int) (a0_2 : Int) (a0_3 : Int) (r : ByteArray) (w : World) (hr0_0 : Kd.C k66 w A0_0 l0_0.length l0_0) (hc0_0 : l0_0.length ≤ c0_0) (h : impl_Version_text.f k l0_0 a0_1 a0_2 a0_3 = some r) :
  Calls Try.prog 79 #[.agg #[.slice A0_0 l0_0.length c0_0, .int .i64 a0_1, .int .i64 a0_2, .int .i64 a0_3]] w fun e w' => e = .returned (.string r) ∧ Below w.heap.size w w' := by
 have hu32 := Try.underlying32
 have hu66 := Try.underlying66
 have HR0_0 := Qz.mk hr0_0
 have HC0_0 := Qz.mk hc0_0
 clear hr0_0 hc0_0
 have HB := Qz.mk (Below.refl w.heap.size w)
 have H : ((impl_putInt.f k a0_1).bind fun t102 => ((impl_putInt.f k a0_2).bind fun t103 => (if t102.size + t103.size ≤ 9223372036854775807 then ((impl_putInt.f k a0_3).bind fun t104 => (if t102.size + t103.size + t104.size ≤ 9223372036854775807 then ((impl_putInt.f k (l0_0.length : Int)).bind fun t105 => (if t102.size + t103.size + t104.size + t105.size ≤ 9223372036854775807 then (impl_Version_text.l0 k (((t102 ++ t103) ++ t104) ++ t105) l0_0 (l0_0.length : Int) 0) else (none))) else (none))) else (none)))) = some r := h
 clear h
 replace H := Option.bind_eq_some_iff.mp H
 obtain ⟨t102, A20, H⟩ := H
 replace H : ((impl_putInt.f k a0_2).bind fun t103 => (if t102.size + t103.size ≤ 9223372036854775807 then ((impl_putInt.f k a0_3).bind fun t104 => (if t102.size + t103.size + t104.size ≤ 9223372036854775807 then ((impl_putInt.f k (l0_0.length : Int)).bind fun t105 => (if t102.size + t103.size + t104.size + t105.size ≤ 9223372036854775807 then (impl_Version_text.l0 k (((t102 ++ t103) ++ t104) ++ t105) l0_0 (l0_0.length : Int) 0) else (none))) else (none))) else (none))) = some r := H
 have A2 := Qz.mk A20
 clear A20
 replace H := Option.bind_eq_some_iff.mp H
 obtain ⟨t103, A30, H⟩ := H
 replace H : (if t102.size + t103.size ≤ 9223372036854775807 then ((impl_putInt.f k a0_3).bind fun t104 => (if t102.size + t103.size + t104.size ≤ 9223372036854775807 then ((impl_putInt.f k (l0_0.length : Int)).bind fun t105 => (if t102.size + t103.size + t104.size + t105.size ≤ 9223372036854775807 then (impl_Version_text.l0 k (((t102 ++ t103) ++ t104) ++ t105) l0_0 (l0_0.length : Int) 0) else (none))) else (none))) else (none)) = some r := H
 have A3 := Qz.mk A30
 clear A30
 by_cases c4 : t102.size + t103.size ≤ 9223372036854775807
 ·rw [if_pos c4] at H
  have c4b0 := eq_true c4
  have c4b1 : decide (t102.size + t103.size ≤ 9223372036854775807) = true := decide_eq_true c4
  try have c4b2 : (9223372036854775807 < t102.size + t103.size) = False := eq_false (Nat.not_lt.2 c4)
  replace H := Option.bind_eq_some_iff.mp H
  obtain ⟨t104, A50, H⟩ := H
  replace H : (if t102.size + t103.size + t104.size ≤ 9223372036854775807 then ((impl_putInt.f k (l0_0.length : Int)).bind fun t105 => (if t102.size + t103.size + t104.size + t105.size ≤ 9223372036854775807 then (impl_Version_text.l0 k (((t102 ++ t103) ++ t104) ++ t105) l0_0 (l0_0.length : Int) 0) else (none))) else (none)) = some r := H
  have A5 := Qz.mk A50
  clear A50
  by_cases c6 : t102.size + t103.size + t104.size ≤ 9223372036854775807
  ·rw [if_pos c6] at H
   have c6b0 := eq_true c6
   have c6b1 : decide (t102.size + t103.size + t104.size ≤ 9223372036854775807) = true := decide_eq_true c6
   try have c6b2 : (9223372036854775807 < t102.size + t103.size + t104.size) = False := eq_false (Nat.not_lt.2 c6)
   replace H := Option.bind_eq_some_iff.mp H
   obtain ⟨t105, A70, H⟩ := H
   replace H : (if t102.size + t103.size + t104.size + t105.size ≤ 9223372036854775807 then (impl_Version_text.l0 k (((t102 ++ t103) ++ t104) ++ t105) l0_0 (l0_0.length : Int) 0) else (none)) = some r := H
   have A7 := Qz.mk A70
   clear A70
   by_cases c8 : t102.size + t103.size + t104.size + t105.size ≤ 9223372036854775807
   ·rw [if_pos c8] at H
    have c8b0 := eq_true c8
    have c8b1 : decide (t102.size + t103.size + t104.size + t105.size ≤ 9223372036854775807) = true := decide_eq_true c8
    try have c8b2 : (9223372036854775807 < t102.size + t103.size + t104.size + t105.size) = False := eq_false (Nat.not_lt.2 c8)
    have H' := Qz.mk H
    clear H
    go_enter Try.func79, Try.ntmps79
    try go_wp2_with (first | ((with_reducible refine gate_dst (N := 1) rfl ?_); refine box_event ?hg (N := 1) ?hd (cs := #[.slice A0_0 l0_0.length c0_0, .int .i64 a0_1, .int .i64 a0_2, .int .i64 a0_3]) (t := 32) ?hr ?_; (case hd => rfl); (case hg => rfl); (case hr => first | (go_simp; done) | (go_simp; rfl)); intro gb101 hg w9 hbox hb; have BK101 := Qz.mk (hbox); have GW101 := Qz.mk ((by rw [hg]; exact (qb1 (by repeat (first | (with_reducible first | exact HB.out | apply qi | apply qd | apply qh) | exact HB.out))) : w.heap.size ≤ gb101)); have GE101 := GW101; replace HB := Qz.mk (qq (by repeat (first | (with_reducible first | exact HB.out | apply qi | apply qd | apply qh) | exact HB.out)) hb); clear hb hbox hg))
    replace BK101 := Qz.mk (qf BK101.out)
    replace HB := Qz.mk (qh HB.out)
    refine start_ (n := 17) (S := fun w' => w'.cell? ⟨gb101, 0, none⟩ = some (.slice A0_0 l0_0.length c0_0) ∧ w'.cell? ⟨gb101, 1, none⟩ = some (.int .i64 a0_1) ∧ w'.cell? ⟨gb101, 2, none⟩ = some (.int .i64 a0_2) ∧ w'.cell? ⟨gb101, 3, none⟩ = some (.int .i64 a0_3)) (ds := []) bq0 (by kernel_rfl) rfl rfl ⟨(qg BK101.out 0).trans rfl, (qg BK101.out 1).trans rfl, (qg BK101.out 2).trans rfl, (qg BK101.out 3).trans rfl⟩ (fun hHeld => ?_); refine with_tabW impl_Version_text.tab1 impl_Version_text.bits1 (fun HT_ HW_ => ?_)
    generalize w9.drew = w10 at BK101 HB hHeld ⊢
    refine pure_ (i := 0) (N := some 6) (v := ?_) (a' := ?_) bq4 rfl rfl (qg1 HT_.out (by kernel_rfl)) (fun _ _ _ h => h) (Or.inl ⟨by rfl, ?_⟩) ?_ ?_
    rotate_left
    ·intro w'
     go_simp
     with_reducible rfl
    rotate_left
    ·simp only [Act.put, sq1, sq2, sq3, i64_w, i32_w]
     rfl
    refine pure_ (i := 3) (N := some 9) (v := ?_) (a' := ?_) #[true, false, false, true, false, false, false, false, false, false, false, false, false, false, false, false, false] rfl rfl (qg1 HT_.out (by kernel_rfl)) (fun _ _ _ h => h) (Or.inl ⟨by rfl, ?_⟩) ?_ ?_
    rotate_left
    ·intro w'
     go_simp
     with_reducible rfl
    rotate_left
    ·simp only [Act.put, sq1, sq2, sq3, i64_w, i32_w]
     rfl
    refine pure_ (i := 7) (N := some 13) (v := ?_) (a' := ?_) #[true, false, false, true, false, false, false, true, false, false, false, false, false, false, false, false, false] rfl rfl (qg1 HT_.out (by kernel_rfl)) (fun _ _ _ h => h) (Or.inl ⟨by rfl, ?_⟩) ?_ ?_
    rotate_left
    ·intro w'
     go_simp
     with_reducible rfl
    rotate_left
    ·simp only [Act.put, sq1, sq2, sq3, i64_w, i32_w]
     rfl
    refine pure_ (i := 11) (N := some 17) (v := ?_) (a' := ?_) #[true, false, false, true, false, false, false, true, false, false, false, true, false, false, false, false, false] rfl rfl (qg1 HT_.out (by kernel_rfl)) (fun _ _ _ h => h) (Or.inl ⟨by rfl, ?_⟩) ?_ ?_
    rotate_left
    ·intro w'
     go_simp
     with_reducible rfl
    rotate_left
    ·simp only [Act.put, sq1, sq2, sq3, i64_w, i32_w]
     rfl
    refine take_ (i := 1) (N := some 7) (v := ?_) (a' := ?_) #[true, true, false, true, false, false, false, true, false, false, false, true, false, false, false, false, false] rfl rfl (take_ofW HT_.out HW_.out (by kernel_rfl)) (fun _ _ _ h => h) (Or.inl ⟨by rfl, ?_⟩) hHeld ?_ ?_
    rotate_left
    ·rintro w' ⟨s0, s1, s2, s3⟩
     go_simp
     with_reducible rfl
    rotate_left
    ·simp only [Act.put, sq1, sq2, sq3, i64_w, i32_w]
     rfl
    refine take_ (i := 4) (N := some 10) (v := ?_) (a' := ?_) #[true, true, false, true, true, false, false, true, false, false, false, true, false, false, false, false, false] rfl rfl (take_ofW HT_.out HW_.out (by kernel_rfl)) (fun _ _ _ h => h) (Or.inl ⟨by rfl, ?_⟩) hHeld ?_ ?_
    rotate_left
    ·rintro w' ⟨s0, s1, s2, s3⟩
     go_simp
     with_reducible rfl
    rotate_left
    ·simp only [Act.put, sq1, sq2, sq3, i64_w, i32_w]
     rfl
    refine take_ (i := 8) (N := some 14) (v := ?_) (a' := ?_) #[true, true, false, true, true, false, false, true, true, false, false, true, false, false, false, false, false] rfl rfl (take_ofW HT_.out HW_.out (by kernel_rfl)) (fun _ _ _ h => h) (Or.inl ⟨by rfl, ?_⟩) hHeld ?_ ?_
    rotate_left
    ·rintro w' ⟨s0, s1, s2, s3⟩
     go_simp
     with_reducible rfl
    rotate_left
    ·simp only [Act.put, sq1, sq2, sq3, i64_w, i32_w]
     rfl
    refine take_ (i := 12) (N := some 18) (v := ?_) (a' := ?_) #[true, true, false, true, true, false, false, true, true, false, false, true, true, false, false, false, false] rfl rfl (take_ofW HT_.out HW_.out (by kernel_rfl)) (fun _ _ _ h => h) (Or.inl ⟨by rfl, ?_⟩) hHeld ?_ ?_
    rotate_left
    ·rintro w' ⟨s0, s1, s2, s3⟩
     go_simp
     with_reducible rfl
    rotate_left
    ·simp only [Act.put, sq1, sq2, sq3, i64_w, i32_w]
     rfl
    refine pure_ (i := 13) (N := some 19) (v := ?_) (a' := ?_) #[true, true, false, true, true, false, false, true, true, false, false, true, true, true, false, false, false] rfl rfl (qg1 HT_.out (by kernel_rfl)) (fun _ _ _ h => h) (Or.inl ⟨by rfl, ?_⟩) ?_ ?_
    rotate_left
    ·intro w'
     go_simp
     with_reducible rfl
    rotate_left
    ·simp only [Act.put, sq1, sq2, sq3, i64_w, i32_w]
     rfl
    refine one_ (i := 2) (N := some 8) #[true, true, true, true, true, false, false, true, true, false, false, true, true, true, false, false, false] rfl rfl (one_of HT_.out (by kernel_rfl)) (by decide) (fun K hK => ?_)
    refine goes_ Try.func106 (by kernel_rfl) rfl #[.int .i64 a0_1] (by rfl) rfl rfl yq25 ?_
    with_reducible refine (impl_putInt.calls k a0_1 t102 _ A2.out).mono ?_
    rintro e w11 ⟨rfl, hb⟩
    refine ⟨_, rfl, ?_⟩
    replace BK101 := Qz.mk (qu (g := gb101) (o := .cells #[.slice A0_0 l0_0.length c0_0, .int .i64 a0_1, .int .i64 a0_2, .int .i64 a0_3] 32 (0, 0)) yq23 hb)
    replace HB := Qz.mk (qq yq24 hb)
    (try clear hb)
    refine hK.out _ _ ⟨(qg BK101.out 0).trans rfl, (qg BK101.out 1).trans rfl, (qg BK101.out 2).trans rfl, (qg BK101.out 3).trans rfl⟩ (fun hHeld => ?_)
    clear hK K
    refine norm_ (a' := ?_) ?_ ?_
    rotate_left
    ·show Act.put _ (some 8) _ = _
     simp only [Act.put, sq1, sq2, sq3, i64_w, i32_w]
     rfl
    refine one_ (i := 5) (N := some 11) #[true, true, true, true, true, true, false, true, true, false, false, true, true, true, false, false, false] rfl rfl (one_of HT_.out (by kernel_rfl)) (by decide) (fun K hK => ?_)
    refine goes_ Try.func106 (by kernel_rfl) rfl #[.int .i64 a0_2] (by rfl) rfl rfl yq25 ?_
    with_reducible refine (impl_putInt.calls k a0_2 t103 _ A3.out).mono ?_
    rintro e w12 ⟨rfl, hb⟩
    refine ⟨_, rfl, ?_⟩
    replace BK101 := Qz.mk (qu (g := gb101) (o := .cells #[.slice A0_0 l0_0.length c0_0, .int .i64 a0_1, .int .i64 a0_2, .int .i64 a0_3] 32 (0, 0)) yq23 hb)
    replace HB := Qz.mk (qq yq24 hb)
    (try clear hb)
    refine hK.out _ _ ⟨(qg BK101.out 0).trans rfl, (qg BK101.out 1).trans rfl, (qg BK101.out 2).trans rfl, (qg BK101.out 3).trans rfl⟩ (fun hHeld => ?_)
    clear hK K
    refine norm_ (a' := ?_) ?_ ?_
    rotate_left
    ·show Act.put _ (some 11) _ = _
     simp only [Act.put, sq1, sq2, sq3, i64_w, i32_w]
     rfl
    refine pure_ (i := 6) (N := some 12) (v := ?_) (a' := ?_) #[true, true, true, true, true, true, true, true, true, false, false, true, true, true, false, false, false] rfl rfl (qg1 HT_.out (by kernel_rfl)) (fun _ _ _ h => h) (Or.inl ⟨by rfl, ?_⟩) ?_ ?_
    rotate_left
    ·intro w'
     go_simp
     with_reducible rfl
    rotate_left
    ·simp only [Act.put, sq1, sq2, sq3, i64_w, i32_w]
     rfl
    refine one_ (i := 9) (N := some 15) #[true, true, true, true, true, true, true, true, true, true, false, true, true, true, false, false, false] rfl rfl (one_of HT_.out (by kernel_rfl)) (by decide) (fun K hK => ?_)
    refine goes_ Try.func106 (by kernel_rfl) rfl #[.int .i64 a0_3] (by rfl) rfl rfl yq25 ?_
    with_reducible refine (impl_putInt.calls k a0_3 t104 _ A5.out).mono ?_
    rintro e w13 ⟨rfl, hb⟩
    refine ⟨_, rfl, ?_⟩
    replace BK101 := Qz.mk (qu (g := gb101) (o := .cells #[.slice A0_0 l0_0.length c0_0, .int .i64 a0_1, .int .i64 a0_2, .int .i64 a0_3] 32 (0, 0)) yq23 hb)
    replace HB := Qz.mk (qq yq24 hb)
    (try clear hb)
    refine hK.out _ _ ⟨(qg BK101.out 0).trans rfl, (qg BK101.out 1).trans rfl, (qg BK101.out 2).trans rfl, (qg BK101.out 3).trans rfl⟩ (fun hHeld => ?_)
    clear hK K
    refine norm_ (a' := ?_) ?_ ?_
    rotate_left
    ·show Act.put _ (some 15) _ = _
     simp only [Act.put, sq1, sq2, sq3, i64_w, i32_w]
     rfl
    refine pure_ (i := 10) (N := some 16) (v := ?_) (a' := ?_) bq29 rfl rfl (qg1 HT_.out (by kernel_rfl)) (fun _ _ _ h => h) (Or.inl ⟨by rfl, ?_⟩) ?_ ?_
    rotate_left
    ·intro w'
     go_simp
     with_reducible rfl
    rotate_left
    ·simp only [Act.put, sq1, sq2, sq3, i64_w, i32_w]
     rfl
    refine one_ (i := 14) (N := some 20) bq31 rfl rfl (one_of HT_.out (by kernel_rfl)) (by decide) (fun K hK => ?_)
    refine goes_ Try.func106 (by kernel_rfl) rfl #[.int .i64 (l0_0.length : Int)] (by rfl) rfl rfl (by (try simp only [List.map_toArray, List.map_cons, List.map_nil]); first | done | rfl | (simp only [List.length_drop, List.length_take]; rfl) | (rw [IntWalk.u64_in _ (by omega)] <;> rfl)) ?_
    with_reducible refine (impl_putInt.calls k (l0_0.length : Int) t105 _ A7.out).mono ?_
    rintro e w14 ⟨rfl, hb⟩
    refine ⟨_, rfl, ?_⟩
    replace BK101 := Qz.mk (qu (g := gb101) (o := .cells #[.slice A0_0 l0_0.length c0_0, .int .i64 a0_1, .int .i64 a0_2, .int .i64 a0_3] 32 (0, 0)) yq23 hb)
    replace HB := Qz.mk (qq yq24 hb)
    (try clear hb)
    refine hK.out _ _ ⟨(qg BK101.out 0).trans rfl, (qg BK101.out 1).trans rfl, (qg BK101.out 2).trans rfl, (qg BK101.out 3).trans rfl⟩ (fun hHeld => ?_)
    clear hK K
    refine norm_ (a' := ?_) ?_ ?_
    rotate_left
    ·show Act.put _ (some 20) _ = _
     simp only [Act.put, sq1, sq2, sq3, i64_w, i32_w]
     rfl
    refine pure_ (i := 15) (N := some 21) (v := ?_) (a' := ?_) bq32 rfl rfl (qg1 HT_.out (by kernel_rfl)) (fun _ _ _ h => h) (Or.inl ⟨by rfl, ?_⟩) ?_ ?_
    rotate_left
    ·intro w'
     go_simp
     with_reducible rfl
    rotate_left
    ·simp only [Act.put, sq1, sq2, sq3, i64_w, i32_w]
     rfl
    refine pure_ (i := 16) (N := some 3) (v := ?_) (a' := ?_) bq33 rfl rfl (qg1 HT_.out (by kernel_rfl)) (fun _ _ _ h => h) (Or.inl ⟨by rfl, ?_⟩) ?_ ?_
    rotate_left
    ·intro w'
     go_simp
     with_reducible rfl
    rotate_left
    ·simp only [Act.put, sq1, sq2, sq3, i64_w, i32_w]
     rfl
    refine done_ (done_of HT_.out (by kernel_rfl)) ?_
    have hcz15_0 := (qg BK101.out 0).trans rfl
    have hcz15_1 := (qg BK101.out 1).trans rfl
    have hcz15_2 := (qg BK101.out 2).trans rfl
    have hcz15_3 := (qg BK101.out 3).trans rfl
    have hfz15_0 := qj BK101.out 0
    have hfz15_1 := qj BK101.out 1
    have hfz15_2 := qj BK101.out 2
    have hfz15_3 := qj BK101.out 3
    try go_wp2
    go_loopg [3, 25] k (fun kq v3 v25 w' => ∃ (x3_1 : ByteArray) (x25_1 : Int), v3 = .string x3_1 ∧ v25 = .int .i64 x25_1 ∧ Qz (impl_Version_text.l0 kq x3_1 l0_0 (l0_0.length : Int) x25_1 = some r) ∧ Qz (kq ≤ k) ∧ Qz (w'.heap[gb101]? = some (.cells #[(.slice A0_0 l0_0.length c0_0), .int .i64 a0_1, .int .i64 a0_2, .int .i64 a0_3] 32 (0, 0))) ∧ Qz (Below w.heap.size w w'))
    case atStart => exact ⟨(((t102 ++ t103) ++ t104) ++ t105), (0), (by first | rfl | (simp; done) | (simp [*]; done)), (by first | rfl | (simp; done) | (simp [*]; done)), H', ⟨Nat.le_refl _⟩, ⟨by (with_reducible repeat (first | refine qc ?_ _ | refine qf ?_ | refine qa ?_ _)); exact BK101.out⟩, ⟨by repeat (first | (with_reducible first | exact HB.out | apply qi | apply qd | apply qh | refine qe ?_ GE101.out) | exact HB.out)⟩⟩
    case round =>
     clear H'
     (try clear c1);(try clear p2);(try clear c4);(try clear c4b0);(try clear c4b1);(try clear c4b2);(try clear c6);(try clear c6b0);(try clear c6b1);(try clear c6b2);(try clear c7);(try clear c8);(try clear c8b0);(try clear c8b1);(try clear c8b2);(try clear c10);(try clear hcz15_0);(try clear hcz15_1);(try clear hcz15_2);(try clear hcz15_3);(try clear hfz15_0);(try clear hfz15_1);(try clear hfz15_2);(try clear hfz15_3)
     obtain ⟨x3_1, x25_1, rfl, rfl, HA, HK1, BK101, HB⟩ := hrel
     cases gk with
     | zero => exact absurd HA.out (by simp [impl_Version_text.l0])
     | succ k1 =>
      have H := HA.out
      clear HA
      simp only [impl_Version_text.l0] at H
      by_cases c16 : x25_1 < (l0_0.length : Int)
      ·rw [if_pos c16] at H
       have c16b0 : decide (x25_1 < (l0_0.length : Int)) = true := decide_eq_true c16
       clear c16
       by_cases c17 : 0 ≤ x25_1
       ·rw [if_pos c17] at H
        have c17b0 : decide (0 ≤ x25_1) = true := decide_eq_true c17
        clear c17
        by_cases c18 : x25_1 < (l0_0.length : Int)
        ·rw [if_pos c18] at H
         have c18b0 : decide (x25_1 < (l0_0.length : Int)) = true := decide_eq_true c18
         clear c18
         replace H := Option.bind_eq_some_iff.mp H
         obtain ⟨t109, A190, H⟩ := H
         replace H : ((impl_putInt.f k1 ((qv l0_0 x25_1).f1)).bind fun t110 => (if t109.size + t110.size ≤ 9223372036854775807 then ((impl_PutText.f k1 ((qv l0_0 x25_1).f2)).bind fun t111 => (if t109.size + t110.size + t111.size ≤ 9223372036854775807 then ((impl_PutText.f k1 ((qv l0_0 x25_1).f3)).bind fun t112 => (if t109.size + t110.size + t111.size + t112.size ≤ 9223372036854775807 then ((impl_putInt.f k1 ((qv l0_0 x25_1).f4)).bind fun t113 => (if t109.size + t110.size + t111.size + t112.size + t113.size ≤ 9223372036854775807 then (if x3_1.size + (t109.size + t110.size + t111.size + t112.size + t113.size) ≤ 9223372036854775807 then (impl_Version_text.l0 k1 (x3_1 ++ ((((t109 ++ t110) ++ t111) ++ t112) ++ t113)) l0_0 (l0_0.length : Int) (wrap64 (x25_1 + 1))) else (none)) else (none))) else (none))) else (none))) else (none))) = some r := H
         have A19 := Qz.mk A190
         clear A190
         replace H := Option.bind_eq_some_iff.mp H
         obtain ⟨t110, A200, H⟩ := H
         replace H : (if t109.size + t110.size ≤ 9223372036854775807 then ((impl_PutText.f k1 ((qv l0_0 x25_1).f2)).bind fun t111 => (if t109.size + t110.size + t111.size ≤ 9223372036854775807 then ((impl_PutText.f k1 ((qv l0_0 x25_1).f3)).bind fun t112 => (if t109.size + t110.size + t111.size + t112.size ≤ 9223372036854775807 then ((impl_putInt.f k1 ((qv l0_0 x25_1).f4)).bind fun t113 => (if t109.size + t110.size + t111.size + t112.size + t113.size ≤ 9223372036854775807 then (if x3_1.size + (t109.size + t110.size + t111.size + t112.size + t113.size) ≤ 9223372036854775807 then (impl_Version_text.l0 k1 (x3_1 ++ ((((t109 ++ t110) ++ t111) ++ t112) ++ t113)) l0_0 (l0_0.length : Int) (wrap64 (x25_1 + 1))) else (none)) else (none))) else (none))) else (none))) else (none)) = some r := H
         have A20 := Qz.mk A200
         clear A200
         by_cases c21 : t109.size + t110.size ≤ 9223372036854775807
         ·rw [if_pos c21] at H
          have c21b0 := eq_true c21
          have c21b1 : decide (t109.size + t110.size ≤ 9223372036854775807) = true := decide_eq_true c21
          try have c21b2 : (9223372036854775807 < t109.size + t110.size) = False := eq_false (Nat.not_lt.2 c21)
          replace H := Option.bind_eq_some_iff.mp H
          obtain ⟨t111, A220, H⟩ := H
          replace H : (if t109.size + t110.size + t111.size ≤ 9223372036854775807 then ((impl_PutText.f k1 ((qv l0_0 x25_1).f3)).bind fun t112 => (if t109.size + t110.size + t111.size + t112.size ≤ 9223372036854775807 then ((impl_putInt.f k1 ((qv l0_0 x25_1).f4)).bind fun t113 => (if t109.size + t110.size + t111.size + t112.size + t113.size ≤ 9223372036854775807 then (if x3_1.size + (t109.size + t110.size + t111.size + t112.size + t113.size) ≤ 9223372036854775807 then (impl_Version_text.l0 k1 (x3_1 ++ ((((t109 ++ t110) ++ t111) ++ t112) ++ t113)) l0_0 (l0_0.length : Int) (wrap64 (x25_1 + 1))) else (none)) else (none))) else (none))) else (none)) = some r := H
          have A22 := Qz.mk A220
          clear A220
          by_cases c23 : t109.size + t110.size + t111.size ≤ 9223372036854775807
          ·rw [if_pos c23] at H
           have c23b0 := eq_true c23
           have c23b1 : decide (t109.size + t110.size + t111.size ≤ 9223372036854775807) = true := decide_eq_true c23
           try have c23b2 : (9223372036854775807 < t109.size + t110.size + t111.size) = False := eq_false (Nat.not_lt.2 c23)
           replace H := Option.bind_eq_some_iff.mp H
           obtain ⟨t112, A240, H⟩ := H
           replace H : (if t109.size + t110.size + t111.size + t112.size ≤ 9223372036854775807 then ((impl_putInt.f k1 ((qv l0_0 x25_1).f4)).bind fun t113 => (if t109.size + t110.size + t111.size + t112.size + t113.size ≤ 9223372036854775807 then (if x3_1.size + (t109.size + t110.size + t111.size + t112.size + t113.size) ≤ 9223372036854775807 then (impl_Version_text.l0 k1 (x3_1 ++ ((((t109 ++ t110) ++ t111) ++ t112) ++ t113)) l0_0 (l0_0.length : Int) (wrap64 (x25_1 + 1))) else (none)) else (none))) else (none)) = some r := H
           have A24 := Qz.mk A240
           clear A240
           by_cases c25 : t109.size + t110.size + t111.size + t112.size ≤ 9223372036854775807
           ·rw [if_pos c25] at H
            have c25b0 := eq_true c25
            have c25b1 : decide (t109.size + t110.size + t111.size + t112.size ≤ 9223372036854775807) = true := decide_eq_true c25
            try have c25b2 : (9223372036854775807 < t109.size + t110.size + t111.size + t112.size) = False := eq_false (Nat.not_lt.2 c25)
            replace H := Option.bind_eq_some_iff.mp H
            obtain ⟨t113, A260, H⟩ := H
            replace H : (if t109.size + t110.size + t111.size + t112.size + t113.size ≤ 9223372036854775807 then (if x3_1.size + (t109.size + t110.size + t111.size + t112.size + t113.size) ≤ 9223372036854775807 then (impl_Version_text.l0 k1 (x3_1 ++ ((((t109 ++ t110) ++ t111) ++ t112) ++ t113)) l0_0 (l0_0.length : Int) (wrap64 (x25_1 + 1))) else (none)) else (none)) = some r := H
            have A26 := Qz.mk A260
            clear A260
            by_cases c27 : t109.size + t110.size + t111.size + t112.size + t113.size ≤ 9223372036854775807
            ·rw [if_pos c27] at H
             have c27b0 := eq_true c27
             have c27b1 : decide (t109.size + t110.size + t111.size + t112.size + t113.size ≤ 9223372036854775807) = true := decide_eq_true c27
             try have c27b2 : (9223372036854775807 < t109.size + t110.size + t111.size + t112.size + t113.size) = False := eq_false (Nat.not_lt.2 c27)
             by_cases c28 : x3_1.size + (t109.size + t110.size + t111.size + t112.size + t113.size) ≤ 9223372036854775807
             ·rw [if_pos c28] at H
              have c28b0 := eq_true c28
              have c28b1 : decide (x3_1.size + (t109.size + t110.size + t111.size + t112.size + t113.size) ≤ 9223372036854775807) = true := decide_eq_true c28
              try have c28b2 : (9223372036854775807 < x3_1.size + (t109.size + t110.size + t111.size + t112.size + t113.size)) = False := eq_false (Nat.not_lt.2 c28)
              have H' := Qz.mk H
              clear H
              have p107 : 0 ≤ (x25_1 : Int) := of_decide_eq_true (by first | (with_reducible assumption) | assumption)
              have q107 : x25_1 < (l0_0.length : Int) := of_decide_eq_true (by first | (with_reducible assumption) | assumption)
              obtain ⟨ad107, e107, hx107_0, hx107_1, hx107_2, hx107_3, hx107_4⟩ := at_T66 HR0_0.out x25_1 p107 q107
              cases e107
              replace hx107_0 := (HB.out.cell (World.block_lt_of_cell? w _ hx107_0)).trans hx107_0
              replace hx107_1 := (HB.out.cell (World.block_lt_of_cell? w _ hx107_1)).trans hx107_1
              replace hx107_2 := (HB.out.cell (World.block_lt_of_cell? w _ hx107_2)).trans hx107_2
              replace hx107_3 := (HB.out.cell (World.block_lt_of_cell? w _ hx107_3)).trans hx107_3
              replace hx107_4 := (HB.out.cell (World.block_lt_of_cell? w _ hx107_4)).trans hx107_4
              replace p107 := eq_true p107
              replace q107 := eq_true q107
              try go_wp2_with (first | ((with_reducible refine gate_dst (N := 5) rfl ?_); refine box_event ?hg (N := 5) ?hd (cs := #[.int .i64 0, .int .i64 0, .string (⟨#[]⟩ : ByteArray), .string (⟨#[]⟩ : ByteArray), .int .i64 0]) (t := 66) ?hr ?_; (case hd => rfl); (case hg => rfl); (case hr => first | (go_simp; done) | (go_simp; rfl)); intro gb108 hg w29 hbox hb; have BK108 := Qz.mk (hbox); have GW108 := Qz.mk ((by rw [hg]; exact (qb1 yq24) : w.heap.size ≤ gb108)); have GE108 := GW108; replace HB := Qz.mk (qq yq24 hb); have NB101_108 := Qz.mk ((by rw [hg]; exact Nat.ne_of_lt (qh1 (g := gb101) (o := .cells #[.slice (some ad107) l0_0.length c0_0, .int .i64 a0_1, .int .i64 a0_2, .int .i64 a0_3] 32 (0, 0)) yq23) : gb101 ≠ gb108)); have NB108_101 := Qz.mk ((by rw [hg]; exact Nat.ne_of_gt (qh1 (g := gb101) (o := .cells #[.slice (some ad107) l0_0.length c0_0, .int .i64 a0_1, .int .i64 a0_2, .int .i64 a0_3] 32 (0, 0)) yq23) : gb108 ≠ gb101)); replace BK101 := Qz.mk (qu (g := gb101) (o := .cells #[.slice (some ad107) l0_0.length c0_0, .int .i64 a0_1, .int .i64 a0_2, .int .i64 a0_3] 32 (0, 0)) yq23 hb); clear hb hbox hg; have hnb30 := NB108_101.out; have hnc30 := NB101_108.out; have hcz31_0 := (qg BK108.out 0).trans rfl; have hcz31_1 := (qg BK108.out 1).trans rfl; have hcz31_2 := (qg BK108.out 2).trans rfl; have hcz31_3 := (qg BK108.out 3).trans rfl; have hcz31_4 := (qg BK108.out 4).trans rfl; have hfz31_0 := qj BK108.out 0; have hfz31_1 := qj BK108.out 1; have hfz31_2 := qj BK108.out 2; have hfz31_3 := qj BK108.out 3; have hfz31_4 := qj BK108.out 4))
              have n0_ : Qz ((((((w29.setCell ⟨gb108, 0, none⟩ (.int .i64 ((qv l0_0 x25_1).f0))).setCell ⟨gb108, 1, none⟩ (.int .i64 ((qv l0_0 x25_1).f1))).setCell ⟨gb108, 2, none⟩ (.string ((qv l0_0 x25_1).f2))).setCell ⟨gb108, 3, none⟩ (.string ((qv l0_0 x25_1).f3))).setCell ⟨gb108, 4, none⟩ (.int .i64 ((qv l0_0 x25_1).f4))).heap[gb101]? = some (.cells #[.slice (some ad107) l0_0.length c0_0, .int .i64 a0_1, .int .i64 a0_2, .int .i64 a0_3] 32 (0, 0))) := ⟨by (with_reducible repeat (first | refine qc ?_ _ | refine qf ?_ | refine qa ?_ _)); refine qx ?_ NB101_108.out _; (with_reducible repeat (first | refine qc ?_ _ | refine qf ?_ | refine qa ?_ _)); refine qx ?_ NB101_108.out _; (with_reducible repeat (first | refine qc ?_ _ | refine qf ?_ | refine qa ?_ _)); refine qx ?_ NB101_108.out _; (with_reducible repeat (first | refine qc ?_ _ | refine qf ?_ | refine qa ?_ _)); refine qx ?_ NB101_108.out _; (with_reducible repeat (first | refine qc ?_ _ | refine qf ?_ | refine qa ?_ _)); refine qx ?_ NB101_108.out _; (with_reducible repeat (first | refine qc ?_ _ | refine qf ?_ | refine qa ?_ _)); exact BK101.out⟩
              have n1_ : Qz ((((((w29.setCell ⟨gb108, 0, none⟩ (.int .i64 ((qv l0_0 x25_1).f0))).setCell ⟨gb108, 1, none⟩ (.int .i64 ((qv l0_0 x25_1).f1))).setCell ⟨gb108, 2, none⟩ (.string ((qv l0_0 x25_1).f2))).setCell ⟨gb108, 3, none⟩ (.string ((qv l0_0 x25_1).f3))).setCell ⟨gb108, 4, none⟩ (.int .i64 ((qv l0_0 x25_1).f4))).heap[gb108]? = some (.cells #[.int .i64 ((qv l0_0 x25_1).f0), .int .i64 ((qv l0_0 x25_1).f1), .string ((qv l0_0 x25_1).f2), .string ((qv l0_0 x25_1).f3), .int .i64 ((qv l0_0 x25_1).f4)] 66 (0, 0))) := ⟨by (with_reducible repeat (first | refine qc ?_ _ | refine qf ?_ | refine qa ?_ _)); refine qw (cs := #[.int .i64 ((qv l0_0 x25_1).f0), .int .i64 ((qv l0_0 x25_1).f1), .string ((qv l0_0 x25_1).f2), .string ((qv l0_0 x25_1).f3), .int .i64 0]) ?_ 4 _ rfl; (with_reducible repeat (first | refine qc ?_ _ | refine qf ?_ | refine qa ?_ _)); refine qw (cs := #[.int .i64 ((qv l0_0 x25_1).f0), .int .i64 ((qv l0_0 x25_1).f1), .string ((qv l0_0 x25_1).f2), .string (⟨#[]⟩ : ByteArray), .int .i64 0]) ?_ 3 _ rfl; (with_reducible repeat (first | refine qc ?_ _ | refine qf ?_ | refine qa ?_ _)); refine qw (cs := #[.int .i64 ((qv l0_0 x25_1).f0), .int .i64 ((qv l0_0 x25_1).f1), .string (⟨#[]⟩ : ByteArray), .string (⟨#[]⟩ : ByteArray), .int .i64 0]) ?_ 2 _ rfl; (with_reducible repeat (first | refine qc ?_ _ | refine qf ?_ | refine qa ?_ _)); refine qw (cs := #[.int .i64 ((qv l0_0 x25_1).f0), .int .i64 0, .string (⟨#[]⟩ : ByteArray), .string (⟨#[]⟩ : ByteArray), .int .i64 0]) ?_ 1 _ rfl; (with_reducible repeat (first | refine qc ?_ _ | refine qf ?_ | refine qa ?_ _)); refine qw (cs := #[.int .i64 0, .int .i64 0, .string (⟨#[]⟩ : ByteArray), .string (⟨#[]⟩ : ByteArray), .int .i64 0]) ?_ 0 _ rfl; (with_reducible repeat (first | refine qc ?_ _ | refine qf ?_ | refine qa ?_ _)); exact BK108.out⟩
              have n2_ : Qz (Below w.heap.size w (((((w29.setCell ⟨gb108, 0, none⟩ (.int .i64 ((qv l0_0 x25_1).f0))).setCell ⟨gb108, 1, none⟩ (.int .i64 ((qv l0_0 x25_1).f1))).setCell ⟨gb108, 2, none⟩ (.string ((qv l0_0 x25_1).f2))).setCell ⟨gb108, 3, none⟩ (.string ((qv l0_0 x25_1).f3))).setCell ⟨gb108, 4, none⟩ (.int .i64 ((qv l0_0 x25_1).f4)))) := ⟨by repeat (first | (with_reducible first | exact HB.out | apply qi | apply qd | apply qh | refine qe ?_ GE101.out | refine qe ?_ GE108.out) | exact HB.out)⟩
              (try clear BK101)
              (try clear BK108)
              (try clear HB)
              generalize (((((w29.setCell ⟨gb108, 0, none⟩ (.int .i64 ((qv l0_0 x25_1).f0))).setCell ⟨gb108, 1, none⟩ (.int .i64 ((qv l0_0 x25_1).f1))).setCell ⟨gb108, 2, none⟩ (.string ((qv l0_0 x25_1).f2))).setCell ⟨gb108, 3, none⟩ (.string ((qv l0_0 x25_1).f3))).setCell ⟨gb108, 4, none⟩ (.int .i64 ((qv l0_0 x25_1).f4))) = w32 at n0_ n1_ n2_ ⊢
              have BK101 := n0_
              have BK108 := n1_
              have HB := n2_
              clear n0_ n1_ n2_
              replace BK101 := Qz.mk (qf BK101.out)
              replace BK108 := Qz.mk (qf BK108.out)
              replace HB := Qz.mk (qh HB.out)
              refine start_ (n := 22) (S := fun w' => w'.cell? ⟨gb108, 0, none⟩ = some (.int .i64 ((qv l0_0 x25_1).f0)) ∧ w'.cell? ⟨gb108, 1, none⟩ = some (.int .i64 ((qv l0_0 x25_1).f1)) ∧ w'.cell? ⟨gb108, 2, none⟩ = some (.string ((qv l0_0 x25_1).f2)) ∧ w'.cell? ⟨gb108, 3, none⟩ = some (.string ((qv l0_0 x25_1).f3)) ∧ w'.cell? ⟨gb108, 4, none⟩ = some (.int .i64 ((qv l0_0 x25_1).f4))) (ds := []) #[false, false, false, false, false, false, false, false, false, false, false, false, false, false, false, false, false, false, false, false, false, false] (by kernel_rfl) rfl rfl ⟨(qg BK108.out 0).trans rfl, (qg BK108.out 1).trans rfl, (qg BK108.out 2).trans rfl, (qg BK108.out 3).trans rfl, (qg BK108.out 4).trans rfl⟩ (fun hHeld => ?_); refine with_tabW impl_Version_text.tab5 impl_Version_text.bits5 (fun HT_ HW_ => ?_)
              generalize w32.drew = w33 at BK101 BK108 HB hHeld ⊢
              refine pure_ (i := 0) (N := some 29) (v := ?_) (a' := ?_) #[true, false, false, false, false, false, false, false, false, false, false, false, false, false, false, false, false, false, false, false, false, false] rfl rfl (qg1 HT_.out (by kernel_rfl)) (fun _ _ _ h => h) (Or.inl ⟨by rfl, ?_⟩) ?_ ?_
              rotate_left
              ·intro w'
               go_simp
               with_reducible rfl
              rotate_left
              ·simp only [Act.put, sq1, sq2, sq3, i64_w, i32_w]
               rfl
              refine pure_ (i := 1) (N := some 30) (v := ?_) (a' := ?_) #[true, true, false, false, false, false, false, false, false, false, false, false, false, false, false, false, false, false, false, false, false, false] rfl rfl (qg1 HT_.out (by kernel_rfl)) (fun _ _ _ h => h) (Or.inl ⟨by rfl, ?_⟩) ?_ ?_
              rotate_left
              ·intro w'
               go_simp
               with_reducible rfl
              rotate_left
              ·simp only [Act.put, sq1, sq2, sq3, i64_w, i32_w]
               rfl
              refine pure_ (i := 4) (N := some 33) (v := ?_) (a' := ?_) #[true, true, false, false, true, false, false, false, false, false, false, false, false, false, false, false, false, false, false, false, false, false] rfl rfl (qg1 HT_.out (by kernel_rfl)) (fun _ _ _ h => h) (Or.inl ⟨by rfl, ?_⟩) ?_ ?_
              rotate_left
              ·intro w'
               go_simp
               with_reducible rfl
              rotate_left
              ·simp only [Act.put, sq1, sq2, sq3, i64_w, i32_w]
               rfl
              refine pure_ (i := 8) (N := some 37) (v := ?_) (a' := ?_) #[true, true, false, false, true, false, false, false, true, false, false, false, false, false, false, false, false, false, false, false, false, false] rfl rfl (qg1 HT_.out (by kernel_rfl)) (fun _ _ _ h => h) (Or.inl ⟨by rfl, ?_⟩) ?_ ?_
              rotate_left
              ·intro w'
               go_simp
               with_reducible rfl
              rotate_left
              ·simp only [Act.put, sq1, sq2, sq3, i64_w, i32_w]
               rfl
              refine pure_ (i := 12) (N := some 41) (v := ?_) (a' := ?_) #[true, true, false, false, true, false, false, false, true, false, false, false, true, false, false, false, false, false, false, false, false, false] rfl rfl (qg1 HT_.out (by kernel_rfl)) (fun _ _ _ h => h) (Or.inl ⟨by rfl, ?_⟩) ?_ ?_
              rotate_left
              ·intro w'
               go_simp
               with_reducible rfl
              rotate_left
              ·simp only [Act.put, sq1, sq2, sq3, i64_w, i32_w]
               rfl
              refine pure_ (i := 16) (N := some 45) (v := ?_) (a' := ?_) #[true, true, false, false, true, false, false, false, true, false, false, false, true, false, false, false, true, false, false, false, false, false] rfl rfl (qg1 HT_.out (by kernel_rfl)) (fun _ _ _ h => h) (Or.inl ⟨by rfl, ?_⟩) ?_ ?_
              rotate_left
              ·intro w'
               go_simp
               with_reducible rfl
              rotate_left
              ·simp only [Act.put, sq1, sq2, sq3, i64_w, i32_w]
               rfl
              refine take_ (i := 2) (N := some 31) (v := ?_) (a' := ?_) #[true, true, true, false, true, false, false, false, true, false, false, false, true, false, false, false, true, false, false, false, false, false] rfl rfl (take_ofW HT_.out HW_.out (by kernel_rfl)) (fun _ _ _ h => h) (Or.inl ⟨by rfl, ?_⟩) hHeld ?_ ?_
              rotate_left
              ·rintro w' ⟨s0, s1, s2, s3, s4⟩
               go_simp
               with_reducible rfl
              rotate_left
              ·simp only [Act.put, sq1, sq2, sq3, i64_w, i32_w]
               rfl
              refine take_ (i := 5) (N := some 34) (v := ?_) (a' := ?_) #[true, true, true, false, true, true, false, false, true, false, false, false, true, false, false, false, true, false, false, false, false, false] rfl rfl (take_ofW HT_.out HW_.out (by kernel_rfl)) (fun _ _ _ h => h) (Or.inl ⟨by rfl, ?_⟩) hHeld ?_ ?_
              rotate_left
              ·rintro w' ⟨s0, s1, s2, s3, s4⟩
               go_simp
               with_reducible rfl
              rotate_left
              ·simp only [Act.put, sq1, sq2, sq3, i64_w, i32_w]
               rfl
              refine take_ (i := 9) (N := some 38) (v := ?_) (a' := ?_) #[true, true, true, false, true, true, false, false, true, true, false, false, true, false, false, false, true, false, false, false, false, false] rfl rfl (take_ofW HT_.out HW_.out (by kernel_rfl)) (fun _ _ _ h => h) (Or.inl ⟨by rfl, ?_⟩) hHeld ?_ ?_
              rotate_left
              ·rintro w' ⟨s0, s1, s2, s3, s4⟩
               go_simp
               with_reducible rfl
              rotate_left
              ·simp only [Act.put, sq1, sq2, sq3, i64_w, i32_w]
               rfl
              refine take_ (i := 13) (N := some 42) (v := ?_) (a' := ?_) #[true, true, true, false, true, true, false, false, true, true, false, false, true, true, false, false, true, false, false, false, false, false] rfl rfl (take_ofW HT_.out HW_.out (by kernel_rfl)) (fun _ _ _ h => h) (Or.inl ⟨by rfl, ?_⟩) hHeld ?_ ?_
              rotate_left
              ·rintro w' ⟨s0, s1, s2, s3, s4⟩
               go_simp
               with_reducible rfl
              rotate_left
              ·simp only [Act.put, sq1, sq2, sq3, i64_w, i32_w]
               rfl
              refine take_ (i := 17) (N := some 46) (v := ?_) (a' := ?_) #[true, true, true, false, true, true, false, false, true, true, false, false, true, true, false, false, true, true, false, false, false, false] rfl rfl (take_ofW HT_.out HW_.out (by kernel_rfl)) (fun _ _ _ h => h) (Or.inl ⟨by rfl, ?_⟩) hHeld ?_ ?_
              rotate_left
              ·rintro w' ⟨s0, s1, s2, s3, s4⟩
               go_simp
               with_reducible rfl
              rotate_left
              ·simp only [Act.put, sq1, sq2, sq3, i64_w, i32_w]
               rfl
              refine one_ (i := 3) (N := some 32) #[true, true, true, true, true, true, false, false, true, true, false, false, true, true, false, false, true, true, false, false, false, false] rfl rfl (one_of HT_.out (by kernel_rfl)) (by decide) (fun K hK => ?_)
              refine goes_ Try.func106 (by kernel_rfl) rfl #[.int .i64 ((qv l0_0 x25_1).f0)] (by rfl) rfl rfl yq25 ?_
              with_reducible refine (impl_putInt.calls k1 ((qv l0_0 x25_1).f0) t109 _ A19.out).mono ?_
              rintro e w34 ⟨rfl, hb⟩
              refine ⟨_, rfl, ?_⟩
              replace BK101 := Qz.mk (qu (g := gb101) (o := .cells #[.slice (some ad107) l0_0.length c0_0, .int .i64 a0_1, .int .i64 a0_2, .int .i64 a0_3] 32 (0, 0)) yq23 hb)
              replace BK108 := Qz.mk (qu (g := gb108) (o := .cells #[.int .i64 ((qv l0_0 x25_1).f0), .int .i64 ((qv l0_0 x25_1).f1), .string ((qv l0_0 x25_1).f2), .string ((qv l0_0 x25_1).f3), .int .i64 ((qv l0_0 x25_1).f4)] 66 (0, 0)) yq27 hb)
              replace HB := Qz.mk (qq yq26 hb)
              (try clear hb)
              refine hK.out _ _ ⟨(qg BK108.out 0).trans rfl, (qg BK108.out 1).trans rfl, (qg BK108.out 2).trans rfl, (qg BK108.out 3).trans rfl, (qg BK108.out 4).trans rfl⟩ (fun hHeld => ?_)
              clear hK K
              refine norm_ (a' := ?_) ?_ ?_
              rotate_left
              ·show Act.put _ (some 32) _ = _
               simp only [Act.put, sq1, sq2, sq3, i64_w, i32_w]
               rfl
              refine one_ (i := 6) (N := some 35) #[true, true, true, true, true, true, true, false, true, true, false, false, true, true, false, false, true, true, false, false, false, false] rfl rfl (one_of HT_.out (by kernel_rfl)) (by decide) (fun K hK => ?_)
              refine goes_ Try.func106 (by kernel_rfl) rfl #[.int .i64 ((qv l0_0 x25_1).f1)] (by rfl) rfl rfl yq25 ?_
              with_reducible refine (impl_putInt.calls k1 ((qv l0_0 x25_1).f1) t110 _ A20.out).mono ?_
              rintro e w35 ⟨rfl, hb⟩
              refine ⟨_, rfl, ?_⟩
              replace BK101 := Qz.mk (qu (g := gb101) (o := .cells #[.slice (some ad107) l0_0.length c0_0, .int .i64 a0_1, .int .i64 a0_2, .int .i64 a0_3] 32 (0, 0)) yq23 hb)
              replace BK108 := Qz.mk (qu (g := gb108) (o := .cells #[.int .i64 ((qv l0_0 x25_1).f0), .int .i64 ((qv l0_0 x25_1).f1), .string ((qv l0_0 x25_1).f2), .string ((qv l0_0 x25_1).f3), .int .i64 ((qv l0_0 x25_1).f4)] 66 (0, 0)) yq27 hb)
              replace HB := Qz.mk (qq yq26 hb)
              (try clear hb)
              refine hK.out _ _ ⟨(qg BK108.out 0).trans rfl, (qg BK108.out 1).trans rfl, (qg BK108.out 2).trans rfl, (qg BK108.out 3).trans rfl, (qg BK108.out 4).trans rfl⟩ (fun hHeld => ?_)
              clear hK K
              refine norm_ (a' := ?_) ?_ ?_
              rotate_left
              ·show Act.put _ (some 35) _ = _
               simp only [Act.put, sq1, sq2, sq3, i64_w, i32_w]
               rfl
              refine pure_ (i := 7) (N := some 36) (v := ?_) (a' := ?_) #[true, true, true, true, true, true, true, true, true, true, false, false, true, true, false, false, true, true, false, false, false, false] rfl rfl (qg1 HT_.out (by kernel_rfl)) (fun _ _ _ h => h) (Or.inl ⟨by rfl, ?_⟩) ?_ ?_
              rotate_left
              ·intro w'
               go_simp
               with_reducible rfl
              rotate_left
              ·simp only [Act.put, sq1, sq2, sq3, i64_w, i32_w]
               rfl
              refine one_ (i := 10) (N := some 39) #[true, true, true, true, true, true, true, true, true, true, true, false, true, true, false, false, true, true, false, false, false, false] rfl rfl (one_of HT_.out (by kernel_rfl)) (by decide) (fun K hK => ?_)
              refine goes_ Try.func107 (by kernel_rfl) rfl #[.string ((qv l0_0 x25_1).f2)] (by rfl) rfl rfl yq25 ?_
              with_reducible refine (impl_PutText.calls k1 ((qv l0_0 x25_1).f2) t111 _ A22.out).mono ?_
              rintro e w36 ⟨rfl, hb⟩
              refine ⟨_, rfl, ?_⟩
              replace BK101 := Qz.mk (qu (g := gb101) (o := .cells #[.slice (some ad107) l0_0.length c0_0, .int .i64 a0_1, .int .i64 a0_2, .int .i64 a0_3] 32 (0, 0)) yq23 hb)
              replace BK108 := Qz.mk (qu (g := gb108) (o := .cells #[.int .i64 ((qv l0_0 x25_1).f0), .int .i64 ((qv l0_0 x25_1).f1), .string ((qv l0_0 x25_1).f2), .string ((qv l0_0 x25_1).f3), .int .i64 ((qv l0_0 x25_1).f4)] 66 (0, 0)) yq27 hb)
              replace HB := Qz.mk (qq yq26 hb)
              (try clear hb)
              refine hK.out _ _ ⟨(qg BK108.out 0).trans rfl, (qg BK108.out 1).trans rfl, (qg BK108.out 2).trans rfl, (qg BK108.out 3).trans rfl, (qg BK108.out 4).trans rfl⟩ (fun hHeld => ?_)
              clear hK K
              refine norm_ (a' := ?_) ?_ ?_
              rotate_left
              ·show Act.put _ (some 39) _ = _
               simp only [Act.put, sq1, sq2, sq3, i64_w, i32_w]
               rfl
              refine pure_ (i := 11) (N := some 40) (v := ?_) (a' := ?_) #[true, true, true, true, true, true, true, true, true, true, true, true, true, true, false, false, true, true, false, false, false, false] rfl rfl (qg1 HT_.out (by kernel_rfl)) (fun _ _ _ h => h) (Or.inl ⟨by rfl, ?_⟩) ?_ ?_
              rotate_left
              ·intro w'
               go_simp
               with_reducible rfl
              rotate_left
              ·simp only [Act.put, sq1, sq2, sq3, i64_w, i32_w]
               rfl
              refine one_ (i := 14) (N := some 43) #[true, true, true, true, true, true, true, true, true, true, true, true, true, true, true, false, true, true, false, false, false, false] rfl rfl (one_of HT_.out (by kernel_rfl)) (by decide) (fun K hK => ?_)
              refine goes_ Try.func107 (by kernel_rfl) rfl #[.string ((qv l0_0 x25_1).f3)] (by rfl) rfl rfl yq25 ?_
              with_reducible refine (impl_PutText.calls k1 ((qv l0_0 x25_1).f3) t112 _ A24.out).mono ?_
              rintro e w37 ⟨rfl, hb⟩
              refine ⟨_, rfl, ?_⟩
              replace BK101 := Qz.mk (qu (g := gb101) (o := .cells #[.slice (some ad107) l0_0.length c0_0, .int .i64 a0_1, .int .i64 a0_2, .int .i64 a0_3] 32 (0, 0)) yq23 hb)
              replace BK108 := Qz.mk (qu (g := gb108) (o := .cells #[.int .i64 ((qv l0_0 x25_1).f0), .int .i64 ((qv l0_0 x25_1).f1), .string ((qv l0_0 x25_1).f2), .string ((qv l0_0 x25_1).f3), .int .i64 ((qv l0_0 x25_1).f4)] 66 (0, 0)) yq27 hb)
              replace HB := Qz.mk (qq yq26 hb)
              (try clear hb)
              refine hK.out _ _ ⟨(qg BK108.out 0).trans rfl, (qg BK108.out 1).trans rfl, (qg BK108.out 2).trans rfl, (qg BK108.out 3).trans rfl, (qg BK108.out 4).trans rfl⟩ (fun hHeld => ?_)
              clear hK K
              refine norm_ (a' := ?_) ?_ ?_
              rotate_left
              ·show Act.put _ (some 43) _ = _
               simp only [Act.put, sq1, sq2, sq3, i64_w, i32_w]
               rfl
              refine pure_ (i := 15) (N := some 44) (v := ?_) (a' := ?_) #[true, true, true, true, true, true, true, true, true, true, true, true, true, true, true, true, true, true, false, false, false, false] rfl rfl (qg1 HT_.out (by kernel_rfl)) (fun _ _ _ h => h) (Or.inl ⟨by rfl, ?_⟩) ?_ ?_
              rotate_left
              ·intro w'
               go_simp
               with_reducible rfl
              rotate_left
              ·simp only [Act.put, sq1, sq2, sq3, i64_w, i32_w]
               rfl
              refine one_ (i := 18) (N := some 47) #[true, true, true, true, true, true, true, true, true, true, true, true, true, true, true, true, true, true, true, false, false, false] rfl rfl (one_of HT_.out (by kernel_rfl)) (by decide) (fun K hK => ?_)
              refine goes_ Try.func106 (by kernel_rfl) rfl #[.int .i64 ((qv l0_0 x25_1).f4)] (by rfl) rfl rfl yq25 ?_
              with_reducible refine (impl_putInt.calls k1 ((qv l0_0 x25_1).f4) t113 _ A26.out).mono ?_
              rintro e w38 ⟨rfl, hb⟩
              refine ⟨_, rfl, ?_⟩
              replace BK101 := Qz.mk (qu (g := gb101) (o := .cells #[.slice (some ad107) l0_0.length c0_0, .int .i64 a0_1, .int .i64 a0_2, .int .i64 a0_3] 32 (0, 0)) yq23 hb)
              replace BK108 := Qz.mk (qu (g := gb108) (o := .cells #[.int .i64 ((qv l0_0 x25_1).f0), .int .i64 ((qv l0_0 x25_1).f1), .string ((qv l0_0 x25_1).f2), .string ((qv l0_0 x25_1).f3), .int .i64 ((qv l0_0 x25_1).f4)] 66 (0, 0)) yq27 hb)
              replace HB := Qz.mk (qq yq26 hb)
              (try clear hb)
              refine hK.out _ _ ⟨(qg BK108.out 0).trans rfl, (qg BK108.out 1).trans rfl, (qg BK108.out 2).trans rfl, (qg BK108.out 3).trans rfl, (qg BK108.out 4).trans rfl⟩ (fun hHeld => ?_)
              clear hK K
              refine norm_ (a' := ?_) ?_ ?_
              rotate_left
              ·show Act.put _ (some 47) _ = _
               simp only [Act.put, sq1, sq2, sq3, i64_w, i32_w]
               rfl
              refine pure_ (i := 19) (N := some 48) (v := ?_) (a' := ?_) #[true, true, true, true, true, true, true, true, true, true, true, true, true, true, true, true, true, true, true, true, false, false] rfl rfl (qg1 HT_.out (by kernel_rfl)) (fun _ _ _ h => h) (Or.inl ⟨by rfl, ?_⟩) ?_ ?_
              rotate_left
              ·intro w'
               go_simp
               with_reducible rfl
              rotate_left
              ·simp only [Act.put, sq1, sq2, sq3, i64_w, i32_w]
               rfl
              refine pure_ (i := 20) (N := some 49) (v := ?_) (a' := ?_) #[true, true, true, true, true, true, true, true, true, true, true, true, true, true, true, true, true, true, true, true, true, false] rfl rfl (qg1 HT_.out (by kernel_rfl)) (fun _ _ _ h => h) (Or.inl ⟨by rfl, ?_⟩) ?_ ?_
              rotate_left
              ·intro w'
               go_simp
               with_reducible rfl
              rotate_left
              ·simp only [Act.put, sq1, sq2, sq3, i64_w, i32_w]
               rfl
              refine pure_ (i := 21) (N := some 3) (v := ?_) (a' := ?_) #[true, true, true, true, true, true, true, true, true, true, true, true, true, true, true, true, true, true, true, true, true, true] rfl rfl (qg1 HT_.out (by kernel_rfl)) (fun _ _ _ h => h) (Or.inl ⟨by rfl, ?_⟩) ?_ ?_
              rotate_left
              ·intro w'
               go_simp
               with_reducible rfl
              rotate_left
              ·simp only [Act.put, sq1, sq2, sq3, i64_w, i32_w]
               rfl
              refine done_ (done_of HT_.out (by kernel_rfl)) ?_
              try go_wp2
              go_roundg k1
              case measure => have := HK1.out; omega
              case rel => exact ⟨(x3_1 ++ ((((t109 ++ t110) ++ t111) ++ t112) ++ t113)), (wrap64 (x25_1 + 1)), (by first | rfl | (simp; done) | (simp [*]; done)), (by first | rfl | (simp; done) | (simp [*]; done)), H', ⟨by have := HK1.out; omega⟩, ⟨by (with_reducible repeat (first | refine qc ?_ _ | refine qf ?_ | refine qa ?_ _)); exact BK101.out⟩, ⟨by repeat (first | (with_reducible first | exact HB.out | apply qi | apply qd | apply qh | refine qe ?_ GE101.out | refine qe ?_ GE108.out) | exact HB.out)⟩⟩
             ·rw [if_neg c28] at H
              exact absurd H (by simp)
            ·rw [if_neg c27] at H
             exact absurd H (by simp)
           ·rw [if_neg c25] at H
            exact absurd H (by simp)
          ·rw [if_neg c23] at H
           exact absurd H (by simp)
         ·rw [if_neg c21] at H
          exact absurd H (by simp)
        ·rw [if_neg c18] at H
         exact absurd H (by simp)
       ·rw [if_neg c17] at H
        exact absurd H (by simp)
      ·rw [if_neg c16] at H
       have c16b0 : decide (x25_1 < (l0_0.length : Int)) = false := decide_eq_false c16
       clear c16
       replace H := Option.bind_eq_some_iff.mp H
       obtain ⟨t106, A390, H⟩ := H
       replace H : (some t106) = some r := H
       have A39 := Qz.mk A390
       clear A390
       obtain rfl := Option.some.inj H
       go_wp2_with (first | ((with_reducible refine qm (f := 108) rfl ?_); refine qy (some 52) rfl rfl Try.func108 (by kernel_rfl) rfl #[.string x3_1] rfl yq25 ?_; (with_reducible refine (impl_section.calls k1 x3_1 t106 _ A39.out).mono ?_); rintro e w40 ⟨rfl, hb⟩; refine ⟨_, rfl, ?_⟩; replace BK101 := Qz.mk (qu (g := gb101) (o := .cells #[.slice A0_0 l0_0.length c0_0, .int .i64 a0_1, .int .i64 a0_2, .int .i64 a0_3] 32 (0, 0)) yq23 hb); replace HB := Qz.mk (qq yq24 hb); (try clear hb)))
       go_ret
       exact ⟨by first | rfl | (simp [qt, qr] <;> rfl) | (simp [*, qt, qr] <;> rfl), by repeat (first | (with_reducible first | exact HB.out | apply qi | apply qd | apply qh | refine qe ?_ GE101.out) | exact HB.out)⟩
   ·rw [if_neg c8] at H
    exact absurd H (by simp)
  ·rw [if_neg c6] at H
   exact absurd H (by simp)
 ·rw [if_neg c4] at H
  exact absurd H (by simp)
theorem yq28 {P : Prop} (h : P := by (try simp only [List.map_toArray, List.map_cons, List.map_nil]); first | done | rfl | (simp only [List.length_drop, List.length_take]; rfl) | (rw [IntWalk.u64_in _ (by omega)] <;> rfl)) : P := h
theorem yq29 {P : Prop} (h : P := by repeat (first | exact (Kd.C_below HR0_0.out HB.out) | (with_reducible refine Kd.C_alloc ?_ _) | (with_reducible refine Kd.C_drewN ?_ _) | (with_reducible refine Kd.C_drew ?_))) : P := h
theorem yq30 {P : Prop} (h : P := by repeat (first | (with_reducible first | exact HB.out | apply qi | apply qd | apply qh) | exact HB.out)) : P := h
theorem yq31 {P : Prop} (h : P := by repeat (first | (with_reducible first | exact HB.out | apply qi | apply qd | apply qh | refine qe ?_ GE101.out) | exact HB.out)) : P := h
def impl_VersionText.f (k : Nat) (l0_0 : List (S66)) (a0_1 : Int) (a0_2 : Int) (a0_3 : Int) : Option (ByteArray) := (impl_VersionOk.f l0_0 a0_1 a0_2 a0_3).bind fun t102 => (if t102 = true then ((impl_Version_text.f k l0_0 a0_1 a0_2 a0_3).bind fun t103 => (some t103)) else (some (⟨#[]⟩ : ByteArray)))
set_option maxHeartbeats 8000000 in
set_option maxRecDepth 100000 in
theorem impl_VersionText.calls (k : Nat) (A0_0 : Option Addr) (c0_0 : Nat) (l0_0 : List (S66)) (a0_1 : Int) (a0_2 : Int) (a0_3 : Int) (r : ByteArray) (w : World) (hr0_0 : Kd.C k66 w A0_0 l0_0.length l0_0) (hc0_0 : l0_0.length ≤ c0_0) (h : impl_VersionText.f k l0_0 a0_1 a0_2 a0_3 = some r) :
  Calls Try.prog 42 #[.agg #[.slice A0_0 l0_0.length c0_0, .int .i64 a0_1, .int .i64 a0_2, .int .i64 a0_3]] w fun e w' => e = .returned (.string r) ∧ Below w.heap.size w w' := by
 have hu32 := Try.underlying32
 have HR0_0 := Qz.mk hr0_0
 have HC0_0 := Qz.mk hc0_0
 clear hr0_0 hc0_0
 have HB := Qz.mk (Below.refl w.heap.size w)
 have H : ((impl_VersionOk.f l0_0 a0_1 a0_2 a0_3).bind fun t102 => (if t102 = true then ((impl_Version_text.f k l0_0 a0_1 a0_2 a0_3).bind fun t103 => (some t103)) else (some (⟨#[]⟩ : ByteArray)))) = some r := h
 clear h
 replace H := Option.bind_eq_some_iff.mp H
 obtain ⟨t102, A20, H⟩ := H
 replace H : (if t102 = true then ((impl_Version_text.f k l0_0 a0_1 a0_2 a0_3).bind fun t103 => (some t103)) else (some (⟨#[]⟩ : ByteArray))) = some r := H
 have A2 := Qz.mk A20
 clear A20
 by_cases c3 : t102 = true
 ·subst c3
  have H1 : ((impl_Version_text.f k l0_0 a0_1 a0_2 a0_3).bind fun t103 => (some t103)) = some r := by rw [if_pos rfl] at H; exact H
  clear H
  have H := H1
  clear H1
  replace H := Option.bind_eq_some_iff.mp H
  obtain ⟨t103, A40, H⟩ := H
  replace H : (some t103) = some r := H
  have A4 := Qz.mk A40
  clear A40
  obtain rfl := Option.some.inj H
  go_enter Try.func42, Try.ntmps42
  go_wp2_with (first | ((with_reducible refine gate_dst (N := 1) rfl ?_); refine box_event ?hg (N := 1) ?hd (cs := #[.slice A0_0 l0_0.length c0_0, .int .i64 a0_1, .int .i64 a0_2, .int .i64 a0_3]) (t := 32) ?hr ?_; (case hd => rfl); (case hg => rfl); (case hr => first | (go_simp; done) | (go_simp; rfl)); intro gb101 hg w5 hbox hb; have BK101 := Qz.mk (hbox); have GW101 := Qz.mk ((by rw [hg]; exact (qb1 yq30) : w.heap.size ≤ gb101)); have GE101 := GW101; replace HB := Qz.mk (qq yq30 hb); clear hb hbox hg; have hcz6_0 := (qg BK101.out 0).trans rfl; have hcz6_1 := (qg BK101.out 1).trans rfl; have hcz6_2 := (qg BK101.out 2).trans rfl; have hcz6_3 := (qg BK101.out 3).trans rfl; have hfz6_0 := qj BK101.out 0; have hfz6_1 := qj BK101.out 1; have hfz6_2 := qj BK101.out 2; have hfz6_3 := qj BK101.out 3) | ((with_reducible refine qm (f := 27) rfl ?_); refine qy (some 4) rfl rfl Try.func27 (by kernel_rfl) rfl #[.agg #[.slice A0_0 l0_0.length c0_0, .int .i64 a0_1, .int .i64 a0_2, .int .i64 a0_3]] rfl yq28 ?_; (with_reducible refine (impl_VersionOk.calls _ _ l0_0 a0_1 a0_2 a0_3 true _ ?side1 ?side2 A2.out).mono ?_); (case side1 => exact yq29); (case side2 => exact HC0_0.out); rintro e w7 ⟨rfl, hb⟩; refine ⟨_, rfl, ?_⟩; replace BK101 := Qz.mk (qu (g := gb101) (o := .cells #[.slice A0_0 l0_0.length c0_0, .int .i64 a0_1, .int .i64 a0_2, .int .i64 a0_3] 32 (0, 0)) (by (with_reducible repeat (first | refine qc ?_ _ | refine qf ?_ | refine qa ?_ _)); exact BK101.out) hb); replace HB := Qz.mk (qq yq31 hb); (try clear hb); have hcz8_0 := (qg BK101.out 0).trans rfl; have hcz8_1 := (qg BK101.out 1).trans rfl; have hcz8_2 := (qg BK101.out 2).trans rfl; have hcz8_3 := (qg BK101.out 3).trans rfl; have hfz8_0 := qj BK101.out 0; have hfz8_1 := qj BK101.out 1; have hfz8_2 := qj BK101.out 2; have hfz8_3 := qj BK101.out 3) | ((with_reducible refine qm (f := 79) rfl ?_); refine qy (some 7) rfl rfl Try.func79 (by kernel_rfl) rfl #[.agg #[.slice A0_0 l0_0.length c0_0, .int .i64 a0_1, .int .i64 a0_2, .int .i64 a0_3]] rfl yq28 ?_; (with_reducible refine (impl_Version_text.calls k _ _ l0_0 a0_1 a0_2 a0_3 t103 _ ?side1 ?side2 A4.out).mono ?_); (case side1 => exact yq29); (case side2 => exact HC0_0.out); rintro e w9 ⟨rfl, hb⟩; refine ⟨_, rfl, ?_⟩; replace BK101 := Qz.mk (qu (g := gb101) (o := .cells #[.slice A0_0 l0_0.length c0_0, .int .i64 a0_1, .int .i64 a0_2, .int .i64 a0_3] 32 (0, 0)) (by (with_reducible repeat (first | refine qc ?_ _ | refine qf ?_ | refine qa ?_ _)); exact BK101.out) hb); replace HB := Qz.mk (qq yq31 hb); (try clear hb)))
  go_ret
  exact ⟨by first | rfl | (simp [qt, qr] <;> rfl) | (simp [*, qt, qr] <;> rfl), by repeat (first | (with_reducible first | exact HB.out | apply qi | apply qd | apply qh | refine qe ?_ GE101.out) | exact HB.out)⟩
 ·replace c3 := Bool.eq_false_iff.mpr c3
  subst c3
  have H1 : (some (⟨#[]⟩ : ByteArray)) = some r := by rw [if_neg (show ¬ (false = true) by decide)] at H; exact H
  clear H
  have H := H1
  clear H1
  obtain rfl := Option.some.inj H
  go_enter Try.func42, Try.ntmps42
  go_wp2_with (first | ((with_reducible refine gate_dst (N := 1) rfl ?_); refine box_event ?hg (N := 1) ?hd (cs := #[.slice A0_0 l0_0.length c0_0, .int .i64 a0_1, .int .i64 a0_2, .int .i64 a0_3]) (t := 32) ?hr ?_; (case hd => rfl); (case hg => rfl); (case hr => first | (go_simp; done) | (go_simp; rfl)); intro gb101 hg w10 hbox hb; have BK101 := Qz.mk (hbox); have GW101 := Qz.mk ((by rw [hg]; exact (qb1 yq30) : w.heap.size ≤ gb101)); have GE101 := GW101; replace HB := Qz.mk (qq yq30 hb); clear hb hbox hg; have hcz11_0 := (qg BK101.out 0).trans rfl; have hcz11_1 := (qg BK101.out 1).trans rfl; have hcz11_2 := (qg BK101.out 2).trans rfl; have hcz11_3 := (qg BK101.out 3).trans rfl; have hfz11_0 := qj BK101.out 0; have hfz11_1 := qj BK101.out 1; have hfz11_2 := qj BK101.out 2; have hfz11_3 := qj BK101.out 3) | ((with_reducible refine qm (f := 27) rfl ?_); refine qy (some 4) rfl rfl Try.func27 (by kernel_rfl) rfl #[.agg #[.slice A0_0 l0_0.length c0_0, .int .i64 a0_1, .int .i64 a0_2, .int .i64 a0_3]] rfl yq28 ?_; (with_reducible refine (impl_VersionOk.calls _ _ l0_0 a0_1 a0_2 a0_3 false _ ?side1 ?side2 A2.out).mono ?_); (case side1 => exact yq29); (case side2 => exact HC0_0.out); rintro e w12 ⟨rfl, hb⟩; refine ⟨_, rfl, ?_⟩; replace BK101 := Qz.mk (qu (g := gb101) (o := .cells #[.slice A0_0 l0_0.length c0_0, .int .i64 a0_1, .int .i64 a0_2, .int .i64 a0_3] 32 (0, 0)) (by (with_reducible repeat (first | refine qc ?_ _ | refine qf ?_ | refine qa ?_ _)); exact BK101.out) hb); replace HB := Qz.mk (qq yq31 hb); (try clear hb)))
  go_ret
  exact ⟨by first | rfl | (simp [qt, qr] <;> rfl) | (simp [*, qt, qr] <;> rfl), by repeat (first | (with_reducible first | exact HB.out | apply qi | apply qd | apply qh | refine qe ?_ GE101.out) | exact HB.out)⟩
theorem yq32 {P : Prop} (h : P := by first | (with_reducible assumption) | assumption) : P := h
def spec_TakeFixed.f (a0 : ByteArray) : Option (Int × ByteArray × Bool) := if (a0.size : Int) < 4 then (some (0, (⟨#[]⟩ : ByteArray), false)) else (if 0 < (a0.size : Int) then (if 1 < (a0.size : Int) then (if 2 < (a0.size : Int) then (if 3 < (a0.size : Int) then (if 4 ≤ (a0.size : Int) then (some (Go.bits .or .u32 (Go.bits .or .u32 (Go.bits .or .u32 ((bt a0 0) % 4294967296) ((((bt a0 1) % 4294967296) * 256) % 4294967296)) ((((bt a0 2) % 4294967296) * 65536) % 4294967296)) ((((bt a0 3) % 4294967296) * 16777216) % 4294967296), a0.extract 4 a0.size, true)) else (none)) else (none)) else (none)) else (none)) else (none))
set_option maxHeartbeats 8000000 in
set_option maxRecDepth 100000 in
theorem spec_TakeFixed.calls (a0 : ByteArray) (r1 : Int) (r2 : ByteArray) (r3 : Bool) (w : World) (h : spec_TakeFixed.f a0 = some (r1, r2, r3)) :
  Calls Try.prog 110 #[.string a0] w fun e w' => e = .returned (.tuple #[.int .u32 r1, .string r2, .bool r3]) ∧ Drawn0 w w' := by
 have H : (if (a0.size : Int) < 4 then (some (0, (⟨#[]⟩ : ByteArray), false)) else (if 0 < (a0.size : Int) then (if 1 < (a0.size : Int) then (if 2 < (a0.size : Int) then (if 3 < (a0.size : Int) then (if 4 ≤ (a0.size : Int) then (some (Go.bits .or .u32 (Go.bits .or .u32 (Go.bits .or .u32 ((bt a0 0) % 4294967296) ((((bt a0 1) % 4294967296) * 256) % 4294967296)) ((((bt a0 2) % 4294967296) * 65536) % 4294967296)) ((((bt a0 3) % 4294967296) * 16777216) % 4294967296), a0.extract 4 a0.size, true)) else (none)) else (none)) else (none)) else (none)) else (none))) = some (r1, r2, r3) := h
 clear h
 by_cases c2 : (a0.size : Int) < 4
 ·rw [if_pos c2] at H
  have c2b0 : decide ((a0.size : Int) < 4) = true := decide_eq_true c2
  have c2b1 : decide (a0.size < 4) = true := decide_eq_true (by omega)
  clear c2
  simp only [Option.some.injEq, Prod.mk.injEq] at H
  obtain ⟨rfl, rfl, rfl⟩ := H
  go_enter Try.func110, Try.ntmps110
  go_wp2
  repeat (go_quiet (fail); try go_wp2)
  go_ret3
  exact ⟨by first | rfl | (simp; done) | (simp [*]; done), by repeat (first | exact Drawn0.refl _ | apply Drawn0.step)⟩
 ·rw [if_neg c2] at H
  have c2b0 : decide ((a0.size : Int) < 4) = false := decide_eq_false c2
  have c2b1 : decide (a0.size < 4) = false := decide_eq_false (by omega)
  clear c2
  by_cases c3 : 0 < (a0.size : Int)
  ·rw [if_pos c3] at H
   have c3b0 : decide (0 < (a0.size : Int)) = true := decide_eq_true c3
   have c3b1 : decide (0 < a0.size) = true := decide_eq_true (by omega)
   clear c3
   by_cases c5 : 1 < (a0.size : Int)
   ·rw [if_pos c5] at H
    have c5b0 : decide (1 < (a0.size : Int)) = true := decide_eq_true c5
    have c5b1 : decide (1 < a0.size) = true := decide_eq_true (by omega)
    clear c5
    by_cases c7 : 2 < (a0.size : Int)
    ·rw [if_pos c7] at H
     have c7b0 : decide (2 < (a0.size : Int)) = true := decide_eq_true c7
     have c7b1 : decide (2 < a0.size) = true := decide_eq_true (by omega)
     clear c7
     by_cases c9 : 3 < (a0.size : Int)
     ·rw [if_pos c9] at H
      have c9b0 : decide (3 < (a0.size : Int)) = true := decide_eq_true c9
      have c9b1 : decide (3 < a0.size) = true := decide_eq_true (by omega)
      clear c9
      by_cases c11 : 4 ≤ (a0.size : Int)
      ·rw [if_pos c11] at H
       have c11b0 := eq_true c11
       have c11b1 : decide (4 ≤ (a0.size : Int)) = true := decide_eq_true c11
       clear c11
       simp only [Option.some.injEq, Prod.mk.injEq] at H
       obtain ⟨rfl, rfl, rfl⟩ := H
       have p4 : 0 ≤ (0 : Int) := (by omega)
       have q4 : 0 < a0.size := (by have : (0 : Int) < (a0.size : Int) := of_decide_eq_true yq32; omega)
       have hx4 : ∀ h : 0 < a0.size, ((a0[0]'h).toNat : Int) = bt a0 0 := bt_at a0 0
       clear p4
       have qi4 : (0 < (a0.size : Int)) = True := eq_true (of_decide_eq_true yq32)
       replace q4 := eq_true q4
       have p6 : 0 ≤ (1 : Int) := (by omega)
       have q6 : 1 < a0.size := (by have : (1 : Int) < (a0.size : Int) := of_decide_eq_true yq32; omega)
       have hx6 : ∀ h : 1 < a0.size, ((a0[1]'h).toNat : Int) = bt a0 1 := bt_at a0 1
       clear p6
       have qi6 : (1 < (a0.size : Int)) = True := eq_true (of_decide_eq_true yq32)
       replace q6 := eq_true q6
       have p8 : 0 ≤ (2 : Int) := (by omega)
       have q8 : 2 < a0.size := (by have : (2 : Int) < (a0.size : Int) := of_decide_eq_true yq32; omega)
       have hx8 : ∀ h : 2 < a0.size, ((a0[2]'h).toNat : Int) = bt a0 2 := bt_at a0 2
       clear p8
       have qi8 : (2 < (a0.size : Int)) = True := eq_true (of_decide_eq_true yq32)
       replace q8 := eq_true q8
       have p10 : 0 ≤ (3 : Int) := (by omega)
       have q10 : 3 < a0.size := (by have : (3 : Int) < (a0.size : Int) := of_decide_eq_true yq32; omega)
       have hx10 : ∀ h : 3 < a0.size, ((a0[3]'h).toNat : Int) = bt a0 3 := bt_at a0 3
       clear p10
       have qi10 : (3 < (a0.size : Int)) = True := eq_true (of_decide_eq_true yq32)
       replace q10 := eq_true q10
       go_enter Try.func110, Try.ntmps110
       go_wp2
       repeat (go_quiet (fail); try go_wp2)
       go_ret3
       exact ⟨by first | rfl | (simp; done) | (simp [*]; done), by repeat (first | exact Drawn0.refl _ | apply Drawn0.step)⟩
      ·rw [if_neg c11] at H
       exact absurd H (by simp)
     ·rw [if_neg c9] at H
      exact absurd H (by simp)
    ·rw [if_neg c7] at H
     exact absurd H (by simp)
   ·rw [if_neg c5] at H
    exact absurd H (by simp)
  ·rw [if_neg c3] at H
   exact absurd H (by simp)
theorem yq33 {P : Prop} (h : P := by first | (with_reducible assumption) | assumption) : P := h
theorem yq34 {P : Prop} (h : P := by first | rfl | (simp; done) | (simp [*]; done)) : P := h
mutual
def spec_TakeVar.l0 : Nat → ByteArray → Int → Int → Option (Int × ByteArray × Bool)
 | 0, _, _, _ => none
 | k + 1, x0, x5, x6 => if x6 < (x0.size : Int) then (spec_TakeVar.j1 k x0 x5 x6 (decide (x6 < 10))) else (spec_TakeVar.j1 k x0 x5 x6 false)
def spec_TakeVar.j1 : Nat → ByteArray → Int → Int → Bool → Option (Int × ByteArray × Bool)
 | 0, _, _, _, _ => none
 | k + 1, x0, x5, x6, x15 => if x15 = true then (if 0 ≤ x6 then (if x6 < (x0.size : Int) then (if x6 = 9 then (spec_TakeVar.j2 k x0 x5 x6 (IntKind.u64.wrap (Int.tmod (bt x0 x6) 128)) (decide ((bt x0 x6) > 1))) else (spec_TakeVar.j2 k x0 x5 x6 (IntKind.u64.wrap (Int.tmod (bt x0 x6) 128)) false)) else (none)) else (none)) else (some (0, (⟨#[]⟩ : ByteArray), false))
def spec_TakeVar.j2 : Nat → ByteArray → Int → Int → Int → Bool → Option (Int × ByteArray × Bool)
 | 0, _, _, _, _, _ => none
 | k + 1, x0, x5, x6, x7, x30 => if x30 = true then (some (0, (⟨#[]⟩ : ByteArray), false)) else (if 0 ≤ (IntKind.u64.wrap (wrap64 (7 * x6))) then (if 0 ≤ x6 then (if x6 < (x0.size : Int) then (if (bt x0 x6) < 128 then (if x6 > 0 then (if (bt x0 x6) = 0 then (some (0, (⟨#[]⟩ : ByteArray), false)) else (if 0 ≤ (wrap64 (x6 + 1)) then (if (wrap64 (x6 + 1)) ≤ (x0.size : Int) then (some (Go.bits .or .u64 x5 (shl .u64 x7 (IntKind.u64.wrap (wrap64 (7 * x6)))), x0.extract ((wrap64 (x6 + 1)) : Int).toNat x0.size, true)) else (none)) else (none))) else (if 0 ≤ (wrap64 (x6 + 1)) then (if (wrap64 (x6 + 1)) ≤ (x0.size : Int) then (some (Go.bits .or .u64 x5 (shl .u64 x7 (IntKind.u64.wrap (wrap64 (7 * x6)))), x0.extract ((wrap64 (x6 + 1)) : Int).toNat x0.size, true)) else (none)) else (none))) else (spec_TakeVar.l0 k x0 (Go.bits .or .u64 x5 (shl .u64 x7 (IntKind.u64.wrap (wrap64 (7 * x6))))) (wrap64 (x6 + 1)))) else (none)) else (none)) else (none))
end
def spec_TakeVar.f (k : Nat) (a0 : ByteArray) : Option (Int × ByteArray × Bool) := spec_TakeVar.l0 k a0 0 0
set_option maxHeartbeats 8000000 in
set_option maxRecDepth 100000 in
theorem spec_TakeVar.calls (k : Nat) (a0 : ByteArray) (r1 : Int) (r2 : ByteArray) (r3 : Bool) (w : World) (h : spec_TakeVar.f k a0 = some (r1, r2, r3)) :
  Calls Try.prog 111 #[.string a0] w fun e w' => e = .returned (.tuple #[.int .u64 r1, .string r2, .bool r3]) ∧ Drawn0 w w' := by
 have H : (spec_TakeVar.l0 k a0 0 0) = some (r1, r2, r3) := h
 clear h
 have H' := Qz.mk H
 clear H
 go_enter Try.func111, Try.ntmps111
 go_wp2
 repeat (go_quiet (fail); try go_wp2)
 go_loopg [5, 6] k (fun kq v5 v6 w' => ∃ (x5_1 : Int) (x6_1 : Int), v5 = .int .u64 x5_1 ∧ v6 = .int .i64 x6_1 ∧ Qz (spec_TakeVar.l0 kq a0 x5_1 x6_1 = some (r1, r2, r3)) ∧ Qz (kq ≤ k) ∧ Drawn0 w w')
 case atStart => exact ⟨(0), (0), yq34, yq34, H', ⟨Nat.le_refl _⟩, by repeat (first | exact Drawn0.refl _ | apply Drawn0.step)⟩
 case round =>
  clear H'
  try clear c1
  obtain ⟨x5_1, x6_1, rfl, rfl, HA, HK1, ⟨m1, rfl⟩⟩ := hrel
  cases gk with
  | zero => exact absurd HA.out (by simp [spec_TakeVar.l0])
  | succ k1 =>
   have H := HA.out
   clear HA
   simp only [spec_TakeVar.l0] at H
   have HC2 := Qz.mk H
   clear H
   go_upto_region 3 with (fail)
   repeat (go_quiet (fail); go_upto_region 3 with (fail))
   go_cut [15] (fun v15 wc => ∃ (kq : Nat) (x15_1 : Bool), v15 = .bool x15_1 ∧ Qz (spec_TakeVar.j1 kq a0 x5_1 x6_1 x15_1 = some (r1, r2, r3)) ∧ Qz (kq ≤ k1) ∧ Drawn0 w wc)
   case first =>
    have H := HC2.out
    clear HC2
    by_cases c3 : x6_1 < (a0.size : Int)
    ·rw [if_pos c3] at H
     have c3b0 : decide (x6_1 < (a0.size : Int)) = true := decide_eq_true c3
     clear c3
     (first | rw [c3b0] | (simp only [i64_w, i32_w]; rw [c3b0]) | skip)
     have H' := Qz.mk H
     clear H
     go_wp2
     repeat (go_quiet (fail); try go_wp2)
     go_meet
     case rel => exact ⟨_, (decide (x6_1 < 10)), yq34, H', ⟨by have := HK1.out; first | omega | exact Nat.le_refl _⟩, by repeat (first | exact Drawn0.refl _ | apply Drawn0.step)⟩
    ·rw [if_neg c3] at H
     have c3b0 : decide (x6_1 < (a0.size : Int)) = false := decide_eq_false c3
     clear c3
     (first | rw [c3b0] | (simp only [i64_w, i32_w]; rw [c3b0]) | skip)
     have H' := Qz.mk H
     clear H
     go_wp2
     repeat (go_quiet (fail); try go_wp2)
     go_meet
     case rel => exact ⟨_, (false), yq34, H', ⟨by have := HK1.out; first | omega | exact Nat.le_refl _⟩, by repeat (first | exact Drawn0.refl _ | apply Drawn0.step)⟩
   case rest =>
    clear HC2
    (try clear c1);(try clear p2);(try clear c3);(try clear c3b0)
    obtain ⟨kq, x15_1, rfl, HA, HJ1, ⟨mc1, rfl⟩⟩ := hcut
    cases kq with
    | zero => exact absurd HA.out (by simp [spec_TakeVar.j1])
    | succ kj1 =>
     have H := HA.out
     clear HA
     simp only [spec_TakeVar.j1] at H
     by_cases c4 : x15_1 = true
     ·subst c4
      have H1 : (if 0 ≤ x6_1 then (if x6_1 < (a0.size : Int) then (if x6_1 = 9 then (spec_TakeVar.j2 kj1 a0 x5_1 x6_1 (IntKind.u64.wrap (Int.tmod (bt a0 x6_1) 128)) (decide ((bt a0 x6_1) > 1))) else (spec_TakeVar.j2 kj1 a0 x5_1 x6_1 (IntKind.u64.wrap (Int.tmod (bt a0 x6_1) 128)) false)) else (none)) else (none)) = some (r1, r2, r3) := by rw [if_pos rfl] at H; exact H
      clear H
      have H := H1
      clear H1
      by_cases c5 : 0 ≤ x6_1
      ·rw [if_pos c5] at H
       have c5b0 : decide (0 ≤ x6_1) = true := decide_eq_true c5
       clear c5
       by_cases c6 : x6_1 < (a0.size : Int)
       ·rw [if_pos c6] at H
        have c6b0 : decide (x6_1 < (a0.size : Int)) = true := decide_eq_true c6
        clear c6
        have HC8 := Qz.mk H
        clear H
        have p7 : 0 ≤ (x6_1 : Int) := of_decide_eq_true yq33
        have q7 : x6_1 < (a0.size : Int) := of_decide_eq_true yq33
        have hx7 := bt_at a0 x6_1
        replace p7 := eq_true p7
        replace q7 := eq_true q7
        go_upto_region 6 with (fail)
        repeat (go_quiet (fail); go_upto_region 6 with (fail))
        go_cut [30] (fun v30 wc => ∃ (kq : Nat) (x30_7 : Bool), v30 = .bool x30_7 ∧ Qz (spec_TakeVar.j2 kq a0 x5_1 x6_1 (IntKind.u64.wrap (Int.tmod (bt a0 x6_1) 128)) x30_7 = some (r1, r2, r3)) ∧ Qz (kq ≤ kj1) ∧ Drawn0 w wc)
        case first =>
         have H := HC8.out
         clear HC8
         by_cases c9 : x6_1 = 9
         ·rw [if_pos c9] at H
          have c9b0 : (x6_1 == 9) = true := beq_iff_eq.mpr c9
          have c9b1 : (x6_1 != 9) = false := bne_eq_false_iff_eq.mpr c9
          clear c9
          (first | rw [c9b0] | (simp only [i64_w, i32_w]; rw [c9b0]) | skip)
          have H' := Qz.mk H
          clear H
          have p10 : 0 ≤ (x6_1 : Int) := of_decide_eq_true yq33
          have q10 : x6_1 < (a0.size : Int) := of_decide_eq_true yq33
          have hx10 := bt_at a0 x6_1
          replace p10 := eq_true p10
          replace q10 := eq_true q10
          go_wp2
          repeat (go_quiet (fail); try go_wp2)
          go_meet
          case rel => exact ⟨_, (decide ((bt a0 x6_1) > 1)), yq34, H', ⟨by have := HK1.out; have := HJ1.out; first | omega | exact Nat.le_refl _⟩, by repeat (first | exact Drawn0.refl _ | apply Drawn0.step)⟩
         ·rw [if_neg c9] at H
          have c9b0 : (x6_1 == 9) = false := beq_eq_false_iff_ne.mpr c9
          have c9b1 : (x6_1 != 9) = true := bne_iff_ne.mpr c9
          (first | rw [c9b0] | (simp only [i64_w, i32_w]; rw [c9b0]) | skip)
          have H' := Qz.mk H
          clear H
          go_wp2
          repeat (go_quiet (fail); try go_wp2)
          go_meet
          case rel => exact ⟨_, (false), yq34, H', ⟨by have := HK1.out; have := HJ1.out; first | omega | exact Nat.le_refl _⟩, by repeat (first | exact Drawn0.refl _ | apply Drawn0.step)⟩
        case rest =>
         clear HC8
         (try clear c1);(try clear p1);(try clear q1);(try clear hx1);(try clear p2);(try clear c3);(try clear c3b0);(try clear c4);(try clear c5);(try clear c5b0);(try clear c6);(try clear c6b0);(try clear p7);(try clear q7);(try clear hx7);(try clear c9);(try clear c9b0);(try clear c9b1);(try clear p10);(try clear q10);(try clear hx10);(try clear p10);(try clear p2);(try clear p7);(try clear q10);(try clear q7)
         obtain ⟨kq, x30_7, rfl, HA, HJ7, ⟨mc7, rfl⟩⟩ := hcut
         cases kq with
         | zero => exact absurd HA.out (by simp [spec_TakeVar.j2])
         | succ kj7 =>
          have H := HA.out
          clear HA
          simp only [spec_TakeVar.j2] at H
          by_cases c11 : x30_7 = true
          ·subst c11
           have H1 : (some (0, (⟨#[]⟩ : ByteArray), false)) = some (r1, r2, r3) := by rw [if_pos rfl] at H; exact H
           clear H
           have H := H1
           clear H1
           simp only [Option.some.injEq, Prod.mk.injEq] at H
           obtain ⟨rfl, rfl, rfl⟩ := H
           go_wp2
           repeat (go_quiet (fail); try go_wp2)
           go_ret3
           exact ⟨by first | rfl | (simp; done) | (simp [*]; done), by repeat (first | exact Drawn0.refl _ | apply Drawn0.step)⟩
          ·replace c11 := Bool.eq_false_iff.mpr c11
           subst c11
           have H1 : (if 0 ≤ (IntKind.u64.wrap (wrap64 (7 * x6_1))) then (if 0 ≤ x6_1 then (if x6_1 < (a0.size : Int) then (if (bt a0 x6_1) < 128 then (if x6_1 > 0 then (if (bt a0 x6_1) = 0 then (some (0, (⟨#[]⟩ : ByteArray), false)) else (if 0 ≤ (wrap64 (x6_1 + 1)) then (if (wrap64 (x6_1 + 1)) ≤ (a0.size : Int) then (some (Go.bits .or .u64 x5_1 (shl .u64 (IntKind.u64.wrap (Int.tmod (bt a0 x6_1) 128)) (IntKind.u64.wrap (wrap64 (7 * x6_1)))), a0.extract ((wrap64 (x6_1 + 1)) : Int).toNat a0.size, true)) else (none)) else (none))) else (if 0 ≤ (wrap64 (x6_1 + 1)) then (if (wrap64 (x6_1 + 1)) ≤ (a0.size : Int) then (some (Go.bits .or .u64 x5_1 (shl .u64 (IntKind.u64.wrap (Int.tmod (bt a0 x6_1) 128)) (IntKind.u64.wrap (wrap64 (7 * x6_1)))), a0.extract ((wrap64 (x6_1 + 1)) : Int).toNat a0.size, true)) else (none)) else (none))) else (spec_TakeVar.l0 kj7 a0 (Go.bits .or .u64 x5_1 (shl .u64 (IntKind.u64.wrap (Int.tmod (bt a0 x6_1) 128)) (IntKind.u64.wrap (wrap64 (7 * x6_1))))) (wrap64 (x6_1 + 1)))) else (none)) else (none)) else (none)) = some (r1, r2, r3) := by rw [if_neg (show ¬ (false = true) by decide)] at H; exact H
           clear H
           have H := H1
           clear H1
           obtain ⟨ji12, hji12⟩ : ∃ j_ : Int, (IntKind.u64.wrap (wrap64 (7 * x6_1))) = j_ := ⟨_, rfl⟩
           replace H : (if 0 ≤ (ji12) then (if 0 ≤ x6_1 then (if x6_1 < (a0.size : Int) then (if (bt a0 x6_1) < 128 then (if x6_1 > 0 then (if (bt a0 x6_1) = 0 then (some (0, (⟨#[]⟩ : ByteArray), false)) else (if 0 ≤ (wrap64 (x6_1 + 1)) then (if (wrap64 (x6_1 + 1)) ≤ (a0.size : Int) then (some (Go.bits .or .u64 x5_1 (shl .u64 (IntKind.u64.wrap (Int.tmod (bt a0 x6_1) 128)) (ji12)), a0.extract ((wrap64 (x6_1 + 1)) : Int).toNat a0.size, true)) else (none)) else (none))) else (if 0 ≤ (wrap64 (x6_1 + 1)) then (if (wrap64 (x6_1 + 1)) ≤ (a0.size : Int) then (some (Go.bits .or .u64 x5_1 (shl .u64 (IntKind.u64.wrap (Int.tmod (bt a0 x6_1) 128)) (ji12)), a0.extract ((wrap64 (x6_1 + 1)) : Int).toNat a0.size, true)) else (none)) else (none))) else (spec_TakeVar.l0 kj7 a0 (Go.bits .or .u64 x5_1 (shl .u64 (IntKind.u64.wrap (Int.tmod (bt a0 x6_1) 128)) (ji12))) (wrap64 (x6_1 + 1)))) else (none)) else (none)) else (none)) = some (r1, r2, r3) := by first | (rw [hji12] at H; exact H) | (simp only [hji12] at H ⊢; exact H)
           by_cases c13 : 0 ≤ (ji12)
           ·rw [if_pos c13] at H
            have c13b0 := eq_true c13
            have c13b1 : decide (0 ≤ (ji12)) = true := decide_eq_true c13
            clear c13
            obtain ⟨ji14, hji14⟩ : ∃ j_ : Int, (shl .u64 (IntKind.u64.wrap (Int.tmod (bt a0 x6_1) 128)) (ji12)) = j_ := ⟨_, rfl⟩
            replace H : (if 0 ≤ x6_1 then (if x6_1 < (a0.size : Int) then (if (bt a0 x6_1) < 128 then (if x6_1 > 0 then (if (bt a0 x6_1) = 0 then (some (0, (⟨#[]⟩ : ByteArray), false)) else (if 0 ≤ (wrap64 (x6_1 + 1)) then (if (wrap64 (x6_1 + 1)) ≤ (a0.size : Int) then (some (Go.bits .or .u64 x5_1 (ji14), a0.extract ((wrap64 (x6_1 + 1)) : Int).toNat a0.size, true)) else (none)) else (none))) else (if 0 ≤ (wrap64 (x6_1 + 1)) then (if (wrap64 (x6_1 + 1)) ≤ (a0.size : Int) then (some (Go.bits .or .u64 x5_1 (ji14), a0.extract ((wrap64 (x6_1 + 1)) : Int).toNat a0.size, true)) else (none)) else (none))) else (spec_TakeVar.l0 kj7 a0 (Go.bits .or .u64 x5_1 (ji14)) (wrap64 (x6_1 + 1)))) else (none)) else (none)) = some (r1, r2, r3) := by first | (rw [hji14] at H; exact H) | (simp only [hji14] at H ⊢; exact H)
            have hji14_ : (IntKind.u64.wrap ((IntKind.u64.wrap (Int.tmod (bt a0 x6_1) 128)) * 2 ^ min (ji12).toNat 64)) = ji14 := hji14
            have hji14z : (ji12) ≤ 64 → (IntKind.u64.wrap ((IntKind.u64.wrap (Int.tmod (bt a0 x6_1) 128)) * 2 ^ (ji12).toNat)) = ji14 := shl_small hji14
            by_cases c15 : 0 ≤ x6_1
            ·rw [if_pos c15] at H
             have c15b0 : decide (0 ≤ x6_1) = true := decide_eq_true c15
             clear c15
             by_cases c16 : x6_1 < (a0.size : Int)
             ·rw [if_pos c16] at H
              have c16b0 : decide (x6_1 < (a0.size : Int)) = true := decide_eq_true c16
              clear c16
              by_cases c18 : (bt a0 x6_1) < 128
              ·rw [if_pos c18] at H
               have c18b0 : decide ((bt a0 x6_1) < 128) = true := decide_eq_true c18
               clear c18
               by_cases c19 : x6_1 > 0
               ·rw [if_pos c19] at H
                have c19b0 : decide (0 < x6_1) = true := decide_eq_true c19
                clear c19
                by_cases c21 : (bt a0 x6_1) = 0
                ·rw [if_pos c21] at H
                 have c21b0 : ((bt a0 x6_1) == 0) = true := beq_iff_eq.mpr c21
                 have c21b1 : ((bt a0 x6_1) != 0) = false := bne_eq_false_iff_eq.mpr c21
                 clear c21
                 simp only [Option.some.injEq, Prod.mk.injEq] at H
                 obtain ⟨rfl, rfl, rfl⟩ := H
                 have p17 : 0 ≤ (x6_1 : Int) := of_decide_eq_true yq33
                 have q17 : x6_1 < (a0.size : Int) := of_decide_eq_true yq33
                 have hx17 := bt_at a0 x6_1
                 replace p17 := eq_true p17
                 replace q17 := eq_true q17
                 have p20 : 0 ≤ (x6_1 : Int) := of_decide_eq_true yq33
                 have q20 : x6_1 < (a0.size : Int) := of_decide_eq_true yq33
                 have hx20 := bt_at a0 x6_1
                 replace p20 := eq_true p20
                 replace q20 := eq_true q20
                 go_wp2
                 repeat (go_quiet (fail); try go_wp2)
                 go_ret3
                 exact ⟨by first | rfl | (simp; done) | (simp only [← hji12, ← hji14] <;> (first | rfl | simp)) | (simp [*]; done), by repeat (first | exact Drawn0.refl _ | apply Drawn0.step)⟩
                ·rw [if_neg c21] at H
                 have c21b0 : ((bt a0 x6_1) == 0) = false := beq_eq_false_iff_ne.mpr c21
                 have c21b1 : ((bt a0 x6_1) != 0) = true := bne_iff_ne.mpr c21
                 obtain ⟨ji22, hji22⟩ : ∃ j_ : Int, (wrap64 (x6_1 + 1)) = j_ := ⟨_, rfl⟩
                 replace H : (if 0 ≤ (ji22) then (if (ji22) ≤ (a0.size : Int) then (some (Go.bits .or .u64 x5_1 (ji14), a0.extract ((ji22) : Int).toNat a0.size, true)) else (none)) else (none)) = some (r1, r2, r3) := by first | (rw [hji22] at H; exact H) | (simp only [hji22] at H ⊢; exact H)
                 have hji22w : (IntKind.i64.wrap (x6_1 + 1)) = ji22 := (i64_w _).trans hji22
                 by_cases c23 : 0 ≤ (ji22)
                 ·rw [if_pos c23] at H
                  have c23b0 := eq_true c23
                  have c23b1 : decide (0 ≤ (ji22)) = true := decide_eq_true c23
                  clear c23
                  by_cases c24 : (ji22) ≤ (a0.size : Int)
                  ·rw [if_pos c24] at H
                   have c24b0 := eq_true c24
                   have c24b1 : decide ((ji22) ≤ (a0.size : Int)) = true := decide_eq_true c24
                   clear c24
                   simp only [Option.some.injEq, Prod.mk.injEq] at H
                   obtain ⟨rfl, rfl, rfl⟩ := H
                   have p17 : 0 ≤ (x6_1 : Int) := of_decide_eq_true yq33
                   have q17 : x6_1 < (a0.size : Int) := of_decide_eq_true yq33
                   have hx17 := bt_at a0 x6_1
                   replace p17 := eq_true p17
                   replace q17 := eq_true q17
                   have p20 : 0 ≤ (x6_1 : Int) := of_decide_eq_true yq33
                   have q20 : x6_1 < (a0.size : Int) := of_decide_eq_true yq33
                   have hx20 := bt_at a0 x6_1
                   replace p20 := eq_true p20
                   replace q20 := eq_true q20
                   go_wp2
                   repeat (go_quiet (fail); try go_wp2)
                   go_ret3
                   exact ⟨by first | rfl | (simp; done) | (simp only [← hji12, ← hji14, ← hji22] <;> (first | rfl | simp)) | (simp [*]; done), by repeat (first | exact Drawn0.refl _ | apply Drawn0.step)⟩
                  ·rw [if_neg c24] at H
                   exact absurd H (by simp)
                 ·rw [if_neg c23] at H
                  exact absurd H (by simp)
               ·rw [if_neg c19] at H
                have c19b0 : decide (0 < x6_1) = false := decide_eq_false c19
                clear c19
                obtain ⟨ji25, hji25⟩ : ∃ j_ : Int, (wrap64 (x6_1 + 1)) = j_ := ⟨_, rfl⟩
                replace H : (if 0 ≤ (ji25) then (if (ji25) ≤ (a0.size : Int) then (some (Go.bits .or .u64 x5_1 (ji14), a0.extract ((ji25) : Int).toNat a0.size, true)) else (none)) else (none)) = some (r1, r2, r3) := by first | (rw [hji25] at H; exact H) | (simp only [hji25] at H ⊢; exact H)
                have hji25w : (IntKind.i64.wrap (x6_1 + 1)) = ji25 := (i64_w _).trans hji25
                by_cases c26 : 0 ≤ (ji25)
                ·rw [if_pos c26] at H
                 have c26b0 := eq_true c26
                 have c26b1 : decide (0 ≤ (ji25)) = true := decide_eq_true c26
                 clear c26
                 by_cases c27 : (ji25) ≤ (a0.size : Int)
                 ·rw [if_pos c27] at H
                  have c27b0 := eq_true c27
                  have c27b1 : decide ((ji25) ≤ (a0.size : Int)) = true := decide_eq_true c27
                  clear c27
                  simp only [Option.some.injEq, Prod.mk.injEq] at H
                  obtain ⟨rfl, rfl, rfl⟩ := H
                  have p17 : 0 ≤ (x6_1 : Int) := of_decide_eq_true yq33
                  have q17 : x6_1 < (a0.size : Int) := of_decide_eq_true yq33
                  have hx17 := bt_at a0 x6_1
                  replace p17 := eq_true p17
                  replace q17 := eq_true q17
                  go_wp2
                  repeat (go_quiet (fail); try go_wp2)
                  go_ret3
                  exact ⟨by first | rfl | (simp; done) | (simp only [← hji12, ← hji14, ← hji25] <;> (first | rfl | simp)) | (simp [*]; done), by repeat (first | exact Drawn0.refl _ | apply Drawn0.step)⟩
                 ·rw [if_neg c27] at H
                  exact absurd H (by simp)
                ·rw [if_neg c26] at H
                 exact absurd H (by simp)
              ·rw [if_neg c18] at H
               have c18b0 : decide ((bt a0 x6_1) < 128) = false := decide_eq_false c18
               clear c18
               have H' := Qz.mk H
               clear H
               have p17 : 0 ≤ (x6_1 : Int) := of_decide_eq_true yq33
               have q17 : x6_1 < (a0.size : Int) := of_decide_eq_true yq33
               have hx17 := bt_at a0 x6_1
               replace p17 := eq_true p17
               replace q17 := eq_true q17
               go_wp2
               repeat (go_quiet (fail); try go_wp2)
               go_roundg kj7
               case measure => have := HK1.out; have := HJ1.out; have := HJ7.out; omega
               case rel => exact ⟨(Go.bits .or .u64 x5_1 (ji14)), (wrap64 (x6_1 + 1)), (by first | rfl | (simp; done) | (simp only [← hji14] <;> (first | rfl | simp)) | (simp [*]; done)), yq34, H', ⟨by have := HK1.out; have := HJ1.out; have := HJ7.out; omega⟩, by repeat (first | exact Drawn0.refl _ | apply Drawn0.step)⟩
             ·rw [if_neg c16] at H
              exact absurd H (by simp)
            ·rw [if_neg c15] at H
             exact absurd H (by simp)
           ·rw [if_neg c13] at H
            exact absurd H (by simp)
       ·rw [if_neg c6] at H
        exact absurd H (by simp)
      ·rw [if_neg c5] at H
       exact absurd H (by simp)
     ·replace c4 := Bool.eq_false_iff.mpr c4
      subst c4
      have H1 : (some (0, (⟨#[]⟩ : ByteArray), false)) = some (r1, r2, r3) := by rw [if_neg (show ¬ (false = true) by decide)] at H; exact H
      clear H
      have H := H1
      clear H1
      simp only [Option.some.injEq, Prod.mk.injEq] at H
      obtain ⟨rfl, rfl, rfl⟩ := H
      go_wp2
      repeat (go_quiet (fail); try go_wp2)
      go_ret3
      exact ⟨by first | rfl | (simp; done) | (simp [*]; done), by repeat (first | exact Drawn0.refl _ | apply Drawn0.step)⟩
def spec_TakeText.f (k : Nat) (a0 : ByteArray) : Option (ByteArray × ByteArray × Bool) := (spec_TakeVar.f k a0).bind fun bt101 => (if bt101.2.2 = true then (if bt101.1 > 60000 then (some ((⟨#[]⟩ : ByteArray), (⟨#[]⟩ : ByteArray), false)) else (if bt101.1 > (IntKind.u64.wrap ((bt101.2.1.size : Int))) then (some ((⟨#[]⟩ : ByteArray), (⟨#[]⟩ : ByteArray), false)) else (if 0 ≤ bt101.1 then (if bt101.1 ≤ (bt101.2.1.size : Int) then (some (bt101.2.1.extract 0 (bt101.1 : Int).toNat, bt101.2.1.extract (bt101.1 : Int).toNat bt101.2.1.size, true)) else (none)) else (none)))) else (some ((⟨#[]⟩ : ByteArray), (⟨#[]⟩ : ByteArray), false)))
set_option maxHeartbeats 8000000 in
set_option maxRecDepth 100000 in
theorem spec_TakeText.calls (k : Nat) (a0 : ByteArray) (r1 : ByteArray) (r2 : ByteArray) (r3 : Bool) (w : World) (h : spec_TakeText.f k a0 = some (r1, r2, r3)) :
  Calls Try.prog 83 #[.string a0] w fun e w' => e = .returned (.tuple #[.string r1, .string r2, .bool r3]) ∧ Drawn0 w w' := by
 have H : ((spec_TakeVar.f k a0).bind fun bt101 => (if bt101.2.2 = true then (if bt101.1 > 60000 then (some ((⟨#[]⟩ : ByteArray), (⟨#[]⟩ : ByteArray), false)) else (if bt101.1 > (IntKind.u64.wrap ((bt101.2.1.size : Int))) then (some ((⟨#[]⟩ : ByteArray), (⟨#[]⟩ : ByteArray), false)) else (if 0 ≤ bt101.1 then (if bt101.1 ≤ (bt101.2.1.size : Int) then (some (bt101.2.1.extract 0 (bt101.1 : Int).toNat, bt101.2.1.extract (bt101.1 : Int).toNat bt101.2.1.size, true)) else (none)) else (none)))) else (some ((⟨#[]⟩ : ByteArray), (⟨#[]⟩ : ByteArray), false)))) = some (r1, r2, r3) := h
 clear h
 replace H := Option.bind_eq_some_iff.mp H
 obtain ⟨⟨t101, t102, t103⟩, A20, H⟩ := H
 replace H : (if t103 = true then (if t101 > 60000 then (some ((⟨#[]⟩ : ByteArray), (⟨#[]⟩ : ByteArray), false)) else (if t101 > (IntKind.u64.wrap ((t102.size : Int))) then (some ((⟨#[]⟩ : ByteArray), (⟨#[]⟩ : ByteArray), false)) else (if 0 ≤ t101 then (if t101 ≤ (t102.size : Int) then (some (t102.extract 0 (t101 : Int).toNat, t102.extract (t101 : Int).toNat t102.size, true)) else (none)) else (none)))) else (some ((⟨#[]⟩ : ByteArray), (⟨#[]⟩ : ByteArray), false))) = some (r1, r2, r3) := H
 have A2 := Qz.mk A20
 clear A20
 by_cases c3 : t103 = true
 ·subst c3
  have H1 : (if t101 > 60000 then (some ((⟨#[]⟩ : ByteArray), (⟨#[]⟩ : ByteArray), false)) else (if t101 > (IntKind.u64.wrap ((t102.size : Int))) then (some ((⟨#[]⟩ : ByteArray), (⟨#[]⟩ : ByteArray), false)) else (if 0 ≤ t101 then (if t101 ≤ (t102.size : Int) then (some (t102.extract 0 (t101 : Int).toNat, t102.extract (t101 : Int).toNat t102.size, true)) else (none)) else (none)))) = some (r1, r2, r3) := by rw [if_pos rfl] at H; exact H
  clear H
  have H := H1
  clear H1
  by_cases c4 : t101 > 60000
  ·rw [if_pos c4] at H
   have c4b0 : decide (60000 < t101) = true := decide_eq_true c4
   clear c4
   simp only [Option.some.injEq, Prod.mk.injEq] at H
   obtain ⟨rfl, rfl, rfl⟩ := H
   go_enter Try.func83, Try.ntmps83
   go_wp2_with (first | (go_at_call 111; (with_reducible refine (spec_TakeVar.calls k a0 t101 t102 true _ A2.out).mono ?_); rintro e w' ⟨rfl, ⟨nd, rfl⟩⟩; (try first | exact ⟨rfl, _, World.drewN_drewN _ _ _⟩ | exact ⟨rfl, _, Eq.trans (World.drewN_drewN _ _ _) (congrArg (World.drewN _) (Nat.add_assoc _ _ _))⟩)))
   repeat (go_quiet (first | (go_at_call 111; (with_reducible refine (spec_TakeVar.calls k a0 t101 t102 true _ A2.out).mono ?_); rintro e w' ⟨rfl, ⟨nd, rfl⟩⟩; (try first | exact ⟨rfl, _, World.drewN_drewN _ _ _⟩ | exact ⟨rfl, _, Eq.trans (World.drewN_drewN _ _ _) (congrArg (World.drewN _) (Nat.add_assoc _ _ _))⟩))); try go_wp2_with (first | (go_at_call 111; (with_reducible refine (spec_TakeVar.calls k a0 t101 t102 true _ A2.out).mono ?_); rintro e w' ⟨rfl, ⟨nd, rfl⟩⟩; (try first | exact ⟨rfl, _, World.drewN_drewN _ _ _⟩ | exact ⟨rfl, _, Eq.trans (World.drewN_drewN _ _ _) (congrArg (World.drewN _) (Nat.add_assoc _ _ _))⟩))))
   go_ret3
   exact ⟨by first | rfl | (simp; done) | (simp [*]; done), by repeat (first | exact Drawn0.refl _ | apply Drawn0.step)⟩
  ·rw [if_neg c4] at H
   have c4b0 : decide (60000 < t101) = false := decide_eq_false c4
   clear c4
   by_cases c5 : t101 > (IntKind.u64.wrap ((t102.size : Int)))
   ·rw [if_pos c5] at H
    have c5b0 : decide ((IntKind.u64.wrap ((t102.size : Int))) < t101) = true := decide_eq_true c5
    clear c5
    simp only [Option.some.injEq, Prod.mk.injEq] at H
    obtain ⟨rfl, rfl, rfl⟩ := H
    go_enter Try.func83, Try.ntmps83
    go_wp2_with (first | (go_at_call 111; (with_reducible refine (spec_TakeVar.calls k a0 t101 t102 true _ A2.out).mono ?_); rintro e w' ⟨rfl, ⟨nd, rfl⟩⟩; (try first | exact ⟨rfl, _, World.drewN_drewN _ _ _⟩ | exact ⟨rfl, _, Eq.trans (World.drewN_drewN _ _ _) (congrArg (World.drewN _) (Nat.add_assoc _ _ _))⟩)))
    repeat (go_quiet (first | (go_at_call 111; (with_reducible refine (spec_TakeVar.calls k a0 t101 t102 true _ A2.out).mono ?_); rintro e w' ⟨rfl, ⟨nd, rfl⟩⟩; (try first | exact ⟨rfl, _, World.drewN_drewN _ _ _⟩ | exact ⟨rfl, _, Eq.trans (World.drewN_drewN _ _ _) (congrArg (World.drewN _) (Nat.add_assoc _ _ _))⟩))); try go_wp2_with (first | (go_at_call 111; (with_reducible refine (spec_TakeVar.calls k a0 t101 t102 true _ A2.out).mono ?_); rintro e w' ⟨rfl, ⟨nd, rfl⟩⟩; (try first | exact ⟨rfl, _, World.drewN_drewN _ _ _⟩ | exact ⟨rfl, _, Eq.trans (World.drewN_drewN _ _ _) (congrArg (World.drewN _) (Nat.add_assoc _ _ _))⟩))))
    go_ret3
    exact ⟨by first | rfl | (simp; done) | (simp [*]; done), by repeat (first | exact Drawn0.refl _ | apply Drawn0.step)⟩
   ·rw [if_neg c5] at H
    have c5b0 : decide ((IntKind.u64.wrap ((t102.size : Int))) < t101) = false := decide_eq_false c5
    clear c5
    by_cases c6 : 0 ≤ t101
    ·rw [if_pos c6] at H
     have c6b0 := eq_true c6
     have c6b1 : decide (0 ≤ t101) = true := decide_eq_true c6
     clear c6
     by_cases c7 : t101 ≤ (t102.size : Int)
     ·rw [if_pos c7] at H
      have c7b0 := eq_true c7
      have c7b1 : decide (t101 ≤ (t102.size : Int)) = true := decide_eq_true c7
      clear c7
      have c8b0 := eq_true (of_decide_eq_true (by first | (with_reducible assumption) | assumption) : 0 ≤ t101)
      have c9b0 := eq_true (of_decide_eq_true (by first | (with_reducible assumption) | assumption) : t101 ≤ (t102.size : Int))
      simp only [Option.some.injEq, Prod.mk.injEq] at H
      obtain ⟨rfl, rfl, rfl⟩ := H
      go_enter Try.func83, Try.ntmps83
      go_wp2_with (first | (go_at_call 111; (with_reducible refine (spec_TakeVar.calls k a0 t101 t102 true _ A2.out).mono ?_); rintro e w' ⟨rfl, ⟨nd, rfl⟩⟩; (try first | exact ⟨rfl, _, World.drewN_drewN _ _ _⟩ | exact ⟨rfl, _, Eq.trans (World.drewN_drewN _ _ _) (congrArg (World.drewN _) (Nat.add_assoc _ _ _))⟩)))
      repeat (go_quiet (first | (go_at_call 111; (with_reducible refine (spec_TakeVar.calls k a0 t101 t102 true _ A2.out).mono ?_); rintro e w' ⟨rfl, ⟨nd, rfl⟩⟩; (try first | exact ⟨rfl, _, World.drewN_drewN _ _ _⟩ | exact ⟨rfl, _, Eq.trans (World.drewN_drewN _ _ _) (congrArg (World.drewN _) (Nat.add_assoc _ _ _))⟩))); try go_wp2_with (first | (go_at_call 111; (with_reducible refine (spec_TakeVar.calls k a0 t101 t102 true _ A2.out).mono ?_); rintro e w' ⟨rfl, ⟨nd, rfl⟩⟩; (try first | exact ⟨rfl, _, World.drewN_drewN _ _ _⟩ | exact ⟨rfl, _, Eq.trans (World.drewN_drewN _ _ _) (congrArg (World.drewN _) (Nat.add_assoc _ _ _))⟩))))
      go_ret3
      exact ⟨by first | rfl | (simp; done) | (simp [*]; done), by repeat (first | exact Drawn0.refl _ | apply Drawn0.step)⟩
     ·rw [if_neg c7] at H
      exact absurd H (by simp)
    ·rw [if_neg c6] at H
     exact absurd H (by simp)
 ·replace c3 := Bool.eq_false_iff.mpr c3
  subst c3
  have H1 : (some ((⟨#[]⟩ : ByteArray), (⟨#[]⟩ : ByteArray), false)) = some (r1, r2, r3) := by rw [if_neg (show ¬ (false = true) by decide)] at H; exact H
  clear H
  have H := H1
  clear H1
  simp only [Option.some.injEq, Prod.mk.injEq] at H
  obtain ⟨rfl, rfl, rfl⟩ := H
  go_enter Try.func83, Try.ntmps83
  go_wp2_with (first | (go_at_call 111; (with_reducible refine (spec_TakeVar.calls k a0 t101 t102 false _ A2.out).mono ?_); rintro e w' ⟨rfl, ⟨nd, rfl⟩⟩; (try first | exact ⟨rfl, _, World.drewN_drewN _ _ _⟩ | exact ⟨rfl, _, Eq.trans (World.drewN_drewN _ _ _) (congrArg (World.drewN _) (Nat.add_assoc _ _ _))⟩)))
  repeat (go_quiet (first | (go_at_call 111; (with_reducible refine (spec_TakeVar.calls k a0 t101 t102 false _ A2.out).mono ?_); rintro e w' ⟨rfl, ⟨nd, rfl⟩⟩; (try first | exact ⟨rfl, _, World.drewN_drewN _ _ _⟩ | exact ⟨rfl, _, Eq.trans (World.drewN_drewN _ _ _) (congrArg (World.drewN _) (Nat.add_assoc _ _ _))⟩))); try go_wp2_with (first | (go_at_call 111; (with_reducible refine (spec_TakeVar.calls k a0 t101 t102 false _ A2.out).mono ?_); rintro e w' ⟨rfl, ⟨nd, rfl⟩⟩; (try first | exact ⟨rfl, _, World.drewN_drewN _ _ _⟩ | exact ⟨rfl, _, Eq.trans (World.drewN_drewN _ _ _) (congrArg (World.drewN _) (Nat.add_assoc _ _ _))⟩))))
  go_ret3
  exact ⟨by first | rfl | (simp; done) | (simp [*]; done), by repeat (first | exact Drawn0.refl _ | apply Drawn0.step)⟩
theorem yq35 {P : Prop} (h : P := by (try simp only [List.map_toArray, List.map_cons, List.map_nil]); first | done | rfl) : P := h
def spec_l10Take.f (k : Nat) (a0 : ByteArray) (a1 : Int) : Option (ByteArray × Bool) := if a1 > (a0.size : Int) then (some ((⟨#[]⟩ : ByteArray), false)) else (if 0 ≤ a1 then (if a1 ≤ (a0.size : Int) then ((spec_TakeText.f k (a0.extract (a1 : Int).toNat a0.size)).bind fun bt101 => ((spec_TakeFixed.f bt101.2.1).bind fun bt104 => (if bt101.2.2 = true then (if bt104.2.2 = true then ((spec_Crc.f k bt101.1).bind fun t107 => (if bt104.1 = t107 then (some (bt101.1, true)) else (some ((⟨#[]⟩ : ByteArray), false)))) else (some ((⟨#[]⟩ : ByteArray), false))) else (some ((⟨#[]⟩ : ByteArray), false))))) else (none)) else (none))
set_option maxHeartbeats 8000000 in
set_option maxRecDepth 100000 in
theorem spec_l10Take.calls (k : Nat) (a0 : ByteArray) (a1 : Int) (r1 : ByteArray) (r2 : Bool) (w : World) (h : spec_l10Take.f k a0 a1 = some (r1, r2)) :
  Calls Try.prog 81 #[.string a0, .int .i64 a1] w fun e w' => e = .returned (.tuple #[.string r1, .bool r2]) ∧ Drawn0 w w' := by
 have H : (if a1 > (a0.size : Int) then (some ((⟨#[]⟩ : ByteArray), false)) else (if 0 ≤ a1 then (if a1 ≤ (a0.size : Int) then ((spec_TakeText.f k (a0.extract (a1 : Int).toNat a0.size)).bind fun bt101 => ((spec_TakeFixed.f bt101.2.1).bind fun bt104 => (if bt101.2.2 = true then (if bt104.2.2 = true then ((spec_Crc.f k bt101.1).bind fun t107 => (if bt104.1 = t107 then (some (bt101.1, true)) else (some ((⟨#[]⟩ : ByteArray), false)))) else (some ((⟨#[]⟩ : ByteArray), false))) else (some ((⟨#[]⟩ : ByteArray), false))))) else (none)) else (none))) = some (r1, r2) := h
 clear h
 by_cases c3 : a1 > (a0.size : Int)
 ·rw [if_pos c3] at H
  have c3b0 : decide ((a0.size : Int) < a1) = true := decide_eq_true c3
  clear c3
  simp only [Option.some.injEq, Prod.mk.injEq] at H
  obtain ⟨rfl, rfl⟩ := H
  go_enter Try.func81, Try.ntmps81
  go_wp2
  go_ret2
  exact ⟨by first | rfl | (simp; done) | (simp [*]; done), by repeat (first | exact Drawn0.refl _ | apply Drawn0.step)⟩
 ·rw [if_neg c3] at H
  have c3b0 : decide ((a0.size : Int) < a1) = false := decide_eq_false c3
  clear c3
  by_cases c4 : 0 ≤ a1
  ·rw [if_pos c4] at H
   have c4b0 := eq_true c4
   have c4b1 : decide (0 ≤ a1) = true := decide_eq_true c4
   clear c4
   by_cases c5 : a1 ≤ (a0.size : Int)
   ·rw [if_pos c5] at H
    have c5b0 := eq_true c5
    have c5b1 : decide (a1 ≤ (a0.size : Int)) = true := decide_eq_true c5
    clear c5
    replace H := Option.bind_eq_some_iff.mp H
    obtain ⟨⟨t101, t102, t103⟩, A60, H⟩ := H
    replace H : ((spec_TakeFixed.f t102).bind fun bt104 => (if t103 = true then (if bt104.2.2 = true then ((spec_Crc.f k t101).bind fun t107 => (if bt104.1 = t107 then (some (t101, true)) else (some ((⟨#[]⟩ : ByteArray), false)))) else (some ((⟨#[]⟩ : ByteArray), false))) else (some ((⟨#[]⟩ : ByteArray), false)))) = some (r1, r2) := H
    have A6 := Qz.mk A60
    clear A60
    replace H := Option.bind_eq_some_iff.mp H
    obtain ⟨⟨t104, t105, t106⟩, A70, H⟩ := H
    replace H : (if t103 = true then (if t106 = true then ((spec_Crc.f k t101).bind fun t107 => (if t104 = t107 then (some (t101, true)) else (some ((⟨#[]⟩ : ByteArray), false)))) else (some ((⟨#[]⟩ : ByteArray), false))) else (some ((⟨#[]⟩ : ByteArray), false))) = some (r1, r2) := H
    have A7 := Qz.mk A70
    clear A70
    by_cases c8 : t103 = true
    ·subst c8
     have H1 : (if t106 = true then ((spec_Crc.f k t101).bind fun t107 => (if t104 = t107 then (some (t101, true)) else (some ((⟨#[]⟩ : ByteArray), false)))) else (some ((⟨#[]⟩ : ByteArray), false))) = some (r1, r2) := by rw [if_pos rfl] at H; exact H
     clear H
     have H := H1
     clear H1
     by_cases c9 : t106 = true
     ·subst c9
      have H1 : ((spec_Crc.f k t101).bind fun t107 => (if t104 = t107 then (some (t101, true)) else (some ((⟨#[]⟩ : ByteArray), false)))) = some (r1, r2) := by rw [if_pos rfl] at H; exact H
      clear H
      have H := H1
      clear H1
      replace H := Option.bind_eq_some_iff.mp H
      obtain ⟨t107, A100, H⟩ := H
      replace H : (if t104 = t107 then (some (t101, true)) else (some ((⟨#[]⟩ : ByteArray), false))) = some (r1, r2) := H
      have A10 := Qz.mk A100
      clear A100
      by_cases c11 : t104 = t107
      ·rw [if_pos c11] at H
       have c11b0 : (t104 == t107) = true := beq_iff_eq.mpr c11
       have c11b1 : (t104 != t107) = false := bne_eq_false_iff_eq.mpr c11
       clear c11
       simp only [Option.some.injEq, Prod.mk.injEq] at H
       obtain ⟨rfl, rfl⟩ := H
       go_enter Try.func81, Try.ntmps81
       go_wp2_with (first | ((with_reducible refine qm (f := 83) rfl ?_); refine qy (some 20) rfl rfl Try.func83 (by kernel_rfl) rfl #[.string (a0.extract (a1 : Int).toNat a0.size)] rfl yq35 ?_; (with_reducible refine (spec_TakeText.calls k (a0.extract (a1 : Int).toNat a0.size) t101 t102 true _ A6.out).mono ?_); rintro e w' ⟨rfl, ⟨nd, rfl⟩⟩; refine ⟨_, rfl, ?_⟩) | ((with_reducible refine qm (f := 110) rfl ?_); refine qy (some 26) rfl rfl Try.func110 (by kernel_rfl) rfl #[.string t102] rfl yq35 ?_; (with_reducible refine (spec_TakeFixed.calls t102 t104 t105 true _ A7.out).mono ?_); rintro e w' ⟨rfl, ⟨nd, rfl⟩⟩; refine ⟨_, rfl, ?_⟩) | (go_at_call 105; (with_reducible refine (spec_Crc.calls k t101 t107 _ A10.out).mono ?_); rintro e w' ⟨rfl, ⟨nd, rfl⟩⟩))
       go_ret2
       exact ⟨by first | rfl | (simp; done) | (simp [*]; done), by repeat (first | exact Drawn0.refl _ | apply Drawn0.step)⟩
      ·rw [if_neg c11] at H
       have c11b0 : (t104 == t107) = false := beq_eq_false_iff_ne.mpr c11
       have c11b1 : (t104 != t107) = true := bne_iff_ne.mpr c11
       simp only [Option.some.injEq, Prod.mk.injEq] at H
       obtain ⟨rfl, rfl⟩ := H
       go_enter Try.func81, Try.ntmps81
       go_wp2_with (first | ((with_reducible refine qm (f := 83) rfl ?_); refine qy (some 20) rfl rfl Try.func83 (by kernel_rfl) rfl #[.string (a0.extract (a1 : Int).toNat a0.size)] rfl yq35 ?_; (with_reducible refine (spec_TakeText.calls k (a0.extract (a1 : Int).toNat a0.size) t101 t102 true _ A6.out).mono ?_); rintro e w' ⟨rfl, ⟨nd, rfl⟩⟩; refine ⟨_, rfl, ?_⟩) | ((with_reducible refine qm (f := 110) rfl ?_); refine qy (some 26) rfl rfl Try.func110 (by kernel_rfl) rfl #[.string t102] rfl yq35 ?_; (with_reducible refine (spec_TakeFixed.calls t102 t104 t105 true _ A7.out).mono ?_); rintro e w' ⟨rfl, ⟨nd, rfl⟩⟩; refine ⟨_, rfl, ?_⟩) | (go_at_call 105; (with_reducible refine (spec_Crc.calls k t101 t107 _ A10.out).mono ?_); rintro e w' ⟨rfl, ⟨nd, rfl⟩⟩))
       go_ret2
       exact ⟨by first | rfl | (simp; done) | (simp [*]; done), by repeat (first | exact Drawn0.refl _ | apply Drawn0.step)⟩
     ·replace c9 := Bool.eq_false_iff.mpr c9
      subst c9
      have H1 : (some ((⟨#[]⟩ : ByteArray), false)) = some (r1, r2) := by rw [if_neg (show ¬ (false = true) by decide)] at H; exact H
      clear H
      have H := H1
      clear H1
      simp only [Option.some.injEq, Prod.mk.injEq] at H
      obtain ⟨rfl, rfl⟩ := H
      go_enter Try.func81, Try.ntmps81
      go_wp2_with (first | ((with_reducible refine qm (f := 83) rfl ?_); refine qy (some 20) rfl rfl Try.func83 (by kernel_rfl) rfl #[.string (a0.extract (a1 : Int).toNat a0.size)] rfl yq35 ?_; (with_reducible refine (spec_TakeText.calls k (a0.extract (a1 : Int).toNat a0.size) t101 t102 true _ A6.out).mono ?_); rintro e w' ⟨rfl, ⟨nd, rfl⟩⟩; refine ⟨_, rfl, ?_⟩) | ((with_reducible refine qm (f := 110) rfl ?_); refine qy (some 26) rfl rfl Try.func110 (by kernel_rfl) rfl #[.string t102] rfl yq35 ?_; (with_reducible refine (spec_TakeFixed.calls t102 t104 t105 false _ A7.out).mono ?_); rintro e w' ⟨rfl, ⟨nd, rfl⟩⟩; refine ⟨_, rfl, ?_⟩))
      go_ret2
      exact ⟨by first | rfl | (simp; done) | (simp [*]; done), by repeat (first | exact Drawn0.refl _ | apply Drawn0.step)⟩
    ·replace c8 := Bool.eq_false_iff.mpr c8
     subst c8
     have H1 : (some ((⟨#[]⟩ : ByteArray), false)) = some (r1, r2) := by rw [if_neg (show ¬ (false = true) by decide)] at H; exact H
     clear H
     have H := H1
     clear H1
     simp only [Option.some.injEq, Prod.mk.injEq] at H
     obtain ⟨rfl, rfl⟩ := H
     go_enter Try.func81, Try.ntmps81
     go_wp2_with (first | ((with_reducible refine qm (f := 83) rfl ?_); refine qy (some 20) rfl rfl Try.func83 (by kernel_rfl) rfl #[.string (a0.extract (a1 : Int).toNat a0.size)] rfl yq35 ?_; (with_reducible refine (spec_TakeText.calls k (a0.extract (a1 : Int).toNat a0.size) t101 t102 false _ A6.out).mono ?_); rintro e w' ⟨rfl, ⟨nd, rfl⟩⟩; refine ⟨_, rfl, ?_⟩) | ((with_reducible refine qm (f := 110) rfl ?_); refine qy (some 26) rfl rfl Try.func110 (by kernel_rfl) rfl #[.string t102] rfl yq35 ?_; (with_reducible refine (spec_TakeFixed.calls t102 t104 t105 t106 _ A7.out).mono ?_); rintro e w' ⟨rfl, ⟨nd, rfl⟩⟩; refine ⟨_, rfl, ?_⟩))
     go_ret2
     exact ⟨by first | rfl | (simp; done) | (simp [*]; done), by repeat (first | exact Drawn0.refl _ | apply Drawn0.step)⟩
   ·rw [if_neg c5] at H
    exact absurd H (by simp)
  ·rw [if_neg c4] at H
   exact absurd H (by simp)
def spec_l12Int.f (k : Nat) (a0 : ByteArray) : Option (Int × ByteArray × Bool) := (spec_TakeVar.f k a0).bind fun bt101 => (if bt101.2.2 = true then (if bt101.1 > 1000000000000 then (some (0, (⟨#[]⟩ : ByteArray), false)) else (some (wrap64 (bt101.1), bt101.2.1, true))) else (some (0, (⟨#[]⟩ : ByteArray), false)))
set_option maxHeartbeats 8000000 in
set_option maxRecDepth 100000 in
theorem spec_l12Int.calls (k : Nat) (a0 : ByteArray) (r1 : Int) (r2 : ByteArray) (r3 : Bool) (w : World) (h : spec_l12Int.f k a0 = some (r1, r2, r3)) :
  Calls Try.prog 82 #[.string a0] w fun e w' => e = .returned (.tuple #[.int .i64 r1, .string r2, .bool r3]) ∧ Drawn0 w w' := by
 have H : ((spec_TakeVar.f k a0).bind fun bt101 => (if bt101.2.2 = true then (if bt101.1 > 1000000000000 then (some (0, (⟨#[]⟩ : ByteArray), false)) else (some (wrap64 (bt101.1), bt101.2.1, true))) else (some (0, (⟨#[]⟩ : ByteArray), false)))) = some (r1, r2, r3) := h
 clear h
 replace H := Option.bind_eq_some_iff.mp H
 obtain ⟨⟨t101, t102, t103⟩, A20, H⟩ := H
 replace H : (if t103 = true then (if t101 > 1000000000000 then (some (0, (⟨#[]⟩ : ByteArray), false)) else (some (wrap64 (t101), t102, true))) else (some (0, (⟨#[]⟩ : ByteArray), false))) = some (r1, r2, r3) := H
 have A2 := Qz.mk A20
 clear A20
 by_cases c3 : t103 = true
 ·subst c3
  have H1 : (if t101 > 1000000000000 then (some (0, (⟨#[]⟩ : ByteArray), false)) else (some (wrap64 (t101), t102, true))) = some (r1, r2, r3) := by rw [if_pos rfl] at H; exact H
  clear H
  have H := H1
  clear H1
  by_cases c4 : t101 > 1000000000000
  ·rw [if_pos c4] at H
   have c4b0 : decide (1000000000000 < t101) = true := decide_eq_true c4
   clear c4
   simp only [Option.some.injEq, Prod.mk.injEq] at H
   obtain ⟨rfl, rfl, rfl⟩ := H
   go_enter Try.func82, Try.ntmps82
   go_wp2_with (first | ((with_reducible refine qm (f := 111) rfl ?_); refine qy (some 10) rfl rfl Try.func111 (by kernel_rfl) rfl #[.string a0] rfl (by (try simp only [List.map_toArray, List.map_cons, List.map_nil]); first | done | rfl) ?_; (with_reducible refine (spec_TakeVar.calls k a0 t101 t102 true _ A2.out).mono ?_); rintro e w' ⟨rfl, ⟨nd, rfl⟩⟩; refine ⟨_, rfl, ?_⟩))
   go_ret3
   exact ⟨by first | rfl | (simp; done) | (simp [*]; done), by repeat (first | exact Drawn0.refl _ | apply Drawn0.step)⟩
  ·rw [if_neg c4] at H
   have c4b0 : decide (1000000000000 < t101) = false := decide_eq_false c4
   clear c4
   simp only [Option.some.injEq, Prod.mk.injEq] at H
   obtain ⟨rfl, rfl, rfl⟩ := H
   go_enter Try.func82, Try.ntmps82
   go_wp2_with (first | ((with_reducible refine qm (f := 111) rfl ?_); refine qy (some 10) rfl rfl Try.func111 (by kernel_rfl) rfl #[.string a0] rfl (by (try simp only [List.map_toArray, List.map_cons, List.map_nil]); first | done | rfl) ?_; (with_reducible refine (spec_TakeVar.calls k a0 t101 t102 true _ A2.out).mono ?_); rintro e w' ⟨rfl, ⟨nd, rfl⟩⟩; refine ⟨_, rfl, ?_⟩))
   go_ret3
   exact ⟨by first | rfl | (simp; done) | (simp [*]; done), by repeat (first | exact Drawn0.refl _ | apply Drawn0.step)⟩
 ·replace c3 := Bool.eq_false_iff.mpr c3
  subst c3
  have H1 : (some (0, (⟨#[]⟩ : ByteArray), false)) = some (r1, r2, r3) := by rw [if_neg (show ¬ (false = true) by decide)] at H; exact H
  clear H
  have H := H1
  clear H1
  simp only [Option.some.injEq, Prod.mk.injEq] at H
  obtain ⟨rfl, rfl, rfl⟩ := H
  go_enter Try.func82, Try.ntmps82
  go_wp2_with (first | ((with_reducible refine qm (f := 111) rfl ?_); refine qy (some 10) rfl rfl Try.func111 (by kernel_rfl) rfl #[.string a0] rfl (by (try simp only [List.map_toArray, List.map_cons, List.map_nil]); first | done | rfl) ?_; (with_reducible refine (spec_TakeVar.calls k a0 t101 t102 false _ A2.out).mono ?_); rintro e w' ⟨rfl, ⟨nd, rfl⟩⟩; refine ⟨_, rfl, ?_⟩))
  go_ret3
  exact ⟨by first | rfl | (simp; done) | (simp [*]; done), by repeat (first | exact Drawn0.refl _ | apply Drawn0.step)⟩
end Go.Proofs.Ytcgejabkjljeeaa.P
end
