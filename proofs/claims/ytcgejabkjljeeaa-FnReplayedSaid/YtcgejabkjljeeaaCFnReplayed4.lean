/- Proved: the law FnReplayed of the given program returns true for every input of its Go types and leaves each argument as it was; no condition. (Part 5 of 17.) -/
import Derived.Test.YtcgejabkjljeeaaProg
import Derived.Below
import Derived.Deep.Draws
import Derived.Deep.AppendLies
import Derived.Maps.AppendAt
import Derived.OwnWalk
import Derived.Laws.BytesArg
import Derived.Laws.MakeOwn
import Derived.Laws.OwnMore
import Derived.Deep.OwnRows
import Derived.Tactics
import Derived.Lib.ConvBytes
import Derived.Laws.Slices
import Derived.WalkKit
import Derived.KernelRfl
import Derived.RowKit3
import Derived.Deep.LoopGhost
import Derived.Deep.QuietTactic
import Derived.BigQuiet
import Derived.WideLaws
import Derived.Deep.DeepCutAuto
import Derived.Deep.CutBlock
import Derived.Deep.RegionHeld3
import Derived.Laws.Rows
import Derived.Lib.AppendStr
import Derived.ArgAppend
import Derived.Laws.IdiomCopy
import Derived.OrdersHeld
import Derived.Laws.BitsLemmas
import Derived.RowKit
import Derived.Test.YtcgejabkjljeeaaCFnReplayed0
import Derived.Test.YtcgejabkjljeeaaCFnReplayed1
import Derived.Test.YtcgejabkjljeeaaCFnReplayed2
import Derived.Test.YtcgejabkjljeeaaCFnReplayed3
section
namespace Go.Proofs.Ytcgejabkjljeeaa.P
open Go.RowKit Go.Proofs.YtcgejabkjljeeaaW.PrintWords Go.Proofs.YtcgejabkjljeeaaW.PrintLast Go.Proofs.YtcgejabkjljeeaaW.PrintMore
attribute [local go_sem] str_gtr str_leq str_geq max2_int min2_int max_two min_two qe1 qd1 max_four min_four
set_option linter.unusedVariables false
set_option linter.unusedSimpArgs false
theorem sq1.{u} : type_of% @List.setIfInBounds_toArray.{u} := @List.setIfInBounds_toArray.{u}
theorem sq2.{u} : type_of% @List.set_cons_zero.{u} := @List.set_cons_zero.{u}
theorem sq3.{u} : type_of% @List.set_cons_succ.{u} := @List.set_cons_succ.{u}
@[reducible] def bq0 : Array Bool := #[false, false, false, false, false, false, false, false, false, false, false, false]
@[reducible] def bq1 : Array Bool := #[false, false, false, false, false, false, false, false, false, false, false]
@[reducible] def bq2 : Array Bool := #[false, false, false, false, false, false, false, false]
@[reducible] def bq3 : Array Bool := #[false, true, false, false, false, false, false, false, false, false, false, false]
@[reducible] def bq4 : Array Bool := #[false, true, false, false, false, false, false, false, false, false, false]
@[reducible] def bq5 : Array Bool := #[false, true, true, false, false, false, false, false, false, false, false, false]
@[reducible] def bq6 : Array Bool := #[false, true, true, false, false, false, false, false, false, false, false]
@[reducible] def bq7 : Array Bool := #[false, true, true, true, false, false, false, false, false, false, false, false]
@[reducible] def bq8 : Array Bool := #[false, true, true, true, false, false, false, false, false, false, false]
@[reducible] def bq9 : Array Bool := #[true, false, false, false, false, false, false, false]
@[reducible] def bq10 : Array Bool := #[true, false, true, false, false, false, false, false]
@[reducible] def bq11 : Array Bool := #[true, true, false, false, false, false, false, false, false, false, false]
@[reducible] def bq12 : Array Bool := #[true, true, true, false, false, false, false, false, false, false, false]
@[reducible] def bq13 : Array Bool := #[true, true, true, false, false, false, false, false, true, false, false]
@[reducible] def bq14 : Array Bool := #[true, true, true, false, false, false, false, false]
@[reducible] def bq15 : Array Bool := #[true, true, true, true, false, false, false, false, false, false, false, false]
@[reducible] def bq16 : Array Bool := #[true, true, true, true, false, false, false, false, false, false, false]
@[reducible] def bq17 : Array Bool := #[true, true, true, true, false, false, false, false, true, false, false]
@[reducible] def bq18 : Array Bool := #[true, true, true, true, false, false, false, false]
@[reducible] def bq19 : Array Bool := #[true, true, true, true, true, false, false, false, false, false, false, false]
@[reducible] def bq20 : Array Bool := #[true, true, true, true, true, false, false, false, false, false, false]
@[reducible] def bq21 : Array Bool := #[true, true, true, true, true, false, false, false, false, true, false, false]
@[reducible] def bq22 : Array Bool := #[true, true, true, true, true, false, false, false, true, false, false]
@[reducible] def bq23 : Array Bool := #[true, true, true, true, true, false, false, false]
@[reducible] def bq24 : Array Bool := #[true, true, true, true, true, true, false, false, false, false, false, false]
@[reducible] def bq25 : Array Bool := #[true, true, true, true, true, true, false, false, false, false, false]
@[reducible] def bq26 : Array Bool := #[true, true, true, true, true, true, false, false, false, true, false, false]
@[reducible] def bq27 : Array Bool := #[true, true, true, true, true, true, false, false, true, false, false]
@[reducible] def bq28 : Array Bool := #[true, true, true, true, true, true, false, false]
@[reducible] def bq29 : Array Bool := #[true, true, true, true, true, true, true, false, false, false, false, false]
@[reducible] def bq30 : Array Bool := #[true, true, true, true, true, true, true, false, false, false, false]
@[reducible] def bq31 : Array Bool := #[true, true, true, true, true, true, true, false, false, true, false, false]
@[reducible] def bq32 : Array Bool := #[true, true, true, true, true, true, true, false, true, false, false]
@[reducible] def bq33 : Array Bool := #[true, true, true, true, true, true, true, false]
@[reducible] def bq34 : Array Bool := #[true, true, true, true, true, true, true, true, false, false, false, false]
@[reducible] def bq35 : Array Bool := #[true, true, true, true, true, true, true, true, false, false, false]
@[reducible] def bq36 : Array Bool := #[true, true, true, true, true, true, true, true, false, false, true, true, false, true, false]
@[reducible] def bq37 : Array Bool := #[true, true, true, true, true, true, true, true, false, true, false, false]
@[reducible] def bq38 : Array Bool := #[true, true, true, true, true, true, true, true, true, false, false, false]
@[reducible] def bq39 : Array Bool := #[true, true, true, true, true, true, true, true, true, false, false]
@[reducible] def bq40 : Array Bool := #[true, true, true, true, true, true, true, true, true, false, true, true, false, true, false]
@[reducible] def bq41 : Array Bool := #[true, true, true, true, true, true, true, true, true, true, false, false]
@[reducible] def bq42 : Array Bool := #[true, true, true, true, true, true, true, true, true, true, false]
@[reducible] def bq43 : Array Bool := #[true, true, true, true, true, true, true, true, true, true, true, false]
@[reducible] def bq44 : Array Bool := #[true, true, true, true, true, true, true, true, true, true, true, true, false, true, false]
@[reducible] def bq45 : Array Bool := #[true, true, true, true, true, true, true, true, true, true, true, true, true, true, false]
@[reducible] def bq46 : Array Bool := #[true, true, true, true, true, true, true, true, true, true, true, true]
@[reducible] def bq47 : Array Bool := #[true, true, true, true, true, true, true, true, true, true, true]
@[reducible] def bq48 : Array Bool := #[true, true, true, true, true, true, true, true]
def errW : Option Int → Value
 | none => .nilIface
 | some c => .iface 0 (.int .i64 c)
theorem qy : errW none = .nilIface := rfl
theorem qx (c : Int) : errW (some c) = .iface 0 (.int .i64 c) := rfl
theorem info2 : (Try.prog.info? 2).map (fun i => (i.zero, i.size, i.bytes)) = some (some (.int .i64 0), 1, 8) := by kernel_rfl
theorem info37 : (Try.prog.info? 37).map (fun i => (i.zero, i.size, i.bytes)) = some (some (.agg #[(.slice none 0 0), (.slice none 0 0), (.int .i64 0), (.int .i64 0), (.int .i64 0)]), 5, 72) := by kernel_rfl
theorem info66 : (Try.prog.info? 66).map (fun i => (i.zero, i.size, i.bytes)) = some (some (.agg #[(.int .i64 0), (.int .i64 0), (.string ⟨#[]⟩), (.string ⟨#[]⟩), (.int .i64 0)]), 5, 56) := by kernel_rfl
structure S66 where
 f0 : Int
 f1 : Int
 f2 : ByteArray
 f3 : ByteArray
 f4 : Int
def z66 : S66 := ⟨(0 : Int), (0 : Int), (⟨#[]⟩ : ByteArray), (⟨#[]⟩ : ByteArray), (0 : Int)⟩
def k66 : Kd S66 := Kd.iso (Kd.pair (Kd.int .i64) (Kd.pair (Kd.int .i64) (Kd.pair Kd.string (Kd.pair Kd.string (Kd.int .i64))))) (fun x : S66 => (x.f0, x.f1, x.f2, x.f3, x.f4))
theorem k66_open {w : World} {x : S66} {cs : List Value} (h : k66.K w x cs) : cs = [.int .i64 x.f0, .int .i64 x.f1, .string x.f2, .string x.f3, .int .i64 x.f4] := by
 obtain ⟨_, _, rfl, rfl, ⟨_, _, rfl, rfl, ⟨_, _, rfl, rfl, ⟨_, _, rfl, rfl, rfl⟩⟩⟩⟩ := h
 exact rfl
theorem k66_openM {w : World} {base : Nat} {ok : Nat → Prop} {x : S66} {cs : List Value} (h : k66.M w base ok x cs) : cs = [.int .i64 x.f0, .int .i64 x.f1, .string x.f2, .string x.f3, .int .i64 x.f4] := by
 obtain ⟨_, _, rfl, rfl, ⟨_, _, rfl, rfl, ⟨_, _, rfl, rfl, ⟨_, _, rfl, rfl, rfl⟩⟩⟩⟩ := h
 exact rfl
theorem k66_mkM (w : World) (base : Nat) (ok : Nat → Prop) (x : S66)  : k66.M w base ok x [.int .i64 x.f0, .int .i64 x.f1, .string x.f2, .string x.f3, .int .i64 x.f4] := ⟨[.int .i64 x.f0], [.int .i64 x.f1, .string x.f2, .string x.f3, .int .i64 x.f4], rfl, rfl, ⟨[.int .i64 x.f1], [.string x.f2, .string x.f3, .int .i64 x.f4], rfl, rfl, ⟨[.string x.f2], [.string x.f3, .int .i64 x.f4], rfl, rfl, ⟨[.string x.f3], [.int .i64 x.f4], rfl, rfl, rfl⟩⟩⟩⟩
def qa1 (xs : List S66) (i : Int) : S66 := xs.getD i.toNat z66
theorem at_T66 {w : World} {A : Option Addr} {n : Nat} {xs : List S66} (h : Kd.C k66 w A n xs) (i : Int) (h0 : 0 ≤ i) (h1 : i < n) : ∃ ad , A = some ad ∧ w.cell? (ad.add (i.toNat * 5)) = some (.int .i64 (qa1 xs i).f0) ∧ w.cell? ⟨(ad.add (i.toNat * 5)).block, (ad.add (i.toNat * 5)).off + 1, none⟩ = some (.int .i64 (qa1 xs i).f1) ∧ w.cell? ⟨(ad.add (i.toNat * 5)).block, (ad.add (i.toNat * 5)).off + 2, none⟩ = some (.string (qa1 xs i).f2) ∧ w.cell? ⟨(ad.add (i.toNat * 5)).block, (ad.add (i.toNat * 5)).off + 3, none⟩ = some (.string (qa1 xs i).f3) ∧ w.cell? ⟨(ad.add (i.toNat * 5)).block, (ad.add (i.toNat * 5)).off + 4, none⟩ = some (.int .i64 (qa1 xs i).f4) := by
 obtain ⟨ad, c, e, _, hK, hc0⟩ := Kd.C_get h z66 i h0 h1
 have hc : ∀ j u, c[j]? = some u → w.cell? (ad.add (i.toNat * 5 + j)) = some u := hc0
 obtain rfl := k66_open hK
 exact ⟨ad, e, hc 0 _ rfl, by rw [← add_field _ _ 1 (by omega)]; exact hc 1 _ rfl, by rw [← add_field _ _ 2 (by omega)]; exact hc 2 _ rfl, by rw [← add_field _ _ 3 (by omega)]; exact hc 3 _ rfl, by rw [← add_field _ _ 4 (by omega)]; exact hc 4 _ rfl⟩
structure S37 where
 f0 : (List S66)
 f1 : (List Int)
 f2 : Int
 f3 : Int
 f4 : Int
def z37 : S37 := ⟨([] : List S66), ([] : List Int), (0 : Int), (0 : Int), (0 : Int)⟩
def k37 : Kd S37 := Kd.iso (Kd.pair (Kd.slice 66 k66) (Kd.pair (Kd.slice 2 (Kd.int .i64)) (Kd.pair (Kd.int .i64) (Kd.pair (Kd.int .i64) (Kd.int .i64))))) (fun x : S37 => (x.f0, x.f1, x.f2, x.f3, x.f4))
theorem k37_open {w : World} {x : S37} {cs : List Value} (h : k37.K w x cs) : ∃ A0 c0 A1 c1, cs = [.slice A0 x.f0.length c0, .slice A1 x.f1.length c1, .int .i64 x.f2, .int .i64 x.f3, .int .i64 x.f4] ∧ x.f0.length ≤ c0 ∧ k66.C w A0 x.f0.length x.f0 ∧ x.f1.length ≤ c1 ∧ (Kd.int .i64).C w A1 x.f1.length x.f1 := by
 obtain ⟨_, _, rfl, ⟨A0, c0, rfl, l0, g0⟩, ⟨_, _, rfl, ⟨A1, c1, rfl, l1, g1⟩, ⟨_, _, rfl, rfl, ⟨_, _, rfl, rfl, rfl⟩⟩⟩⟩ := h
 exact ⟨A0, c0, A1, c1, rfl, l0, g0, l1, g1⟩
theorem k37_mkM (w : World) (base : Nat) (ok : Nat → Prop) (x : S37) {v0 : Value} (g0 : k66.R 66 w base ok v0 x.f0) {v1 : Value} (g1 : (Kd.int .i64).R 2 w base ok v1 x.f1) : k37.M w base ok x [v0, v1, .int .i64 x.f2, .int .i64 x.f3, .int .i64 x.f4] := ⟨[v0], [v1, .int .i64 x.f2, .int .i64 x.f3, .int .i64 x.f4], rfl, ⟨v0, rfl, g0⟩, ⟨[v1], [.int .i64 x.f2, .int .i64 x.f3, .int .i64 x.f4], rfl, ⟨v1, rfl, g1⟩, ⟨[.int .i64 x.f2], [.int .i64 x.f3, .int .i64 x.f4], rfl, rfl, ⟨[.int .i64 x.f3], [.int .i64 x.f4], rfl, rfl, rfl⟩⟩⟩⟩
def qw (xs : List S37) (i : Int) : S37 := xs.getD i.toNat z37
theorem at_T37 {w : World} {A : Option Addr} {n : Nat} {xs : List S37} (h : Kd.C k37 w A n xs) (i : Int) (h0 : 0 ≤ i) (h1 : i < n) : ∃ ad A0 c0 A1 c1, A = some ad ∧ w.cell? (ad.add (i.toNat * 5)) = some (.slice A0 (qw xs i).f0.length c0) ∧ w.cell? ⟨(ad.add (i.toNat * 5)).block, (ad.add (i.toNat * 5)).off + 1, none⟩ = some (.slice A1 (qw xs i).f1.length c1) ∧ w.cell? ⟨(ad.add (i.toNat * 5)).block, (ad.add (i.toNat * 5)).off + 2, none⟩ = some (.int .i64 (qw xs i).f2) ∧ w.cell? ⟨(ad.add (i.toNat * 5)).block, (ad.add (i.toNat * 5)).off + 3, none⟩ = some (.int .i64 (qw xs i).f3) ∧ w.cell? ⟨(ad.add (i.toNat * 5)).block, (ad.add (i.toNat * 5)).off + 4, none⟩ = some (.int .i64 (qw xs i).f4) ∧ (qw xs i).f0.length ≤ c0 ∧ k66.C w A0 (qw xs i).f0.length (qw xs i).f0 ∧ (qw xs i).f1.length ≤ c1 ∧ (Kd.int .i64).C w A1 (qw xs i).f1.length (qw xs i).f1 := by
 obtain ⟨ad, c, e, _, hK, hc0⟩ := Kd.C_get h z37 i h0 h1
 have hc : ∀ j u, c[j]? = some u → w.cell? (ad.add (i.toNat * 5 + j)) = some u := hc0
 obtain ⟨A0, c0, A1, c1, rfl, l0, g0, l1, g1⟩ := k37_open hK
 exact ⟨ad, A0, c0, A1, c1, e, hc 0 _ rfl, by rw [← add_field _ _ 1 (by omega)]; exact hc 1 _ rfl, by rw [← add_field _ _ 2 (by omega)]; exact hc 2 _ rfl, by rw [← add_field _ _ 3 (by omega)]; exact hc 3 _ rfl, by rw [← add_field _ _ 4 (by omega)]; exact hc 4 _ rfl, l0, g0, l1, g1⟩
theorem yq0 {P : Prop} (h : P := by (with_reducible repeat (first | refine qb ?_ _ | refine qc ?_ | refine qa ?_ _)); exact BK101.out) : P := h
theorem yq1 {P : Prop} (h : P := by repeat (first | (with_reducible first | exact HB.out | apply qh | apply qg | apply qi | refine qe ?_ GE101.out) | exact HB.out)) : P := h
theorem yq2 {P : Prop} (h : P := by repeat (first | (with_reducible first | exact HB.out | apply qh | apply qg | apply qi) | exact HB.out)) : P := h
theorem yq3 {P : Prop} (h : P := by rw [hg]; exact Nat.ne_of_lt (qv (g := gb101) (o := .cells #[.int .i64 a0_0, .int .i64 a0_1, .string a0_2, .string a0_3, .int .i64 a0_4] 66 (0, 0)) yq0)) : P := h
theorem yq4 {P : Prop} (h : P := by rw [hg]; exact Nat.ne_of_gt (qv (g := gb101) (o := .cells #[.int .i64 a0_0, .int .i64 a0_1, .string a0_2, .string a0_3, .int .i64 a0_4] 66 (0, 0)) yq0)) : P := h
def spec_l12Ahead.f (a0_0 : Int) (a0_1 : Int) (a0_2 : ByteArray) (a0_3 : ByteArray) (a0_4 : Int) (a1_0 : Int) (a1_1 : Int) (a1_2 : ByteArray) (a1_3 : ByteArray) (a1_4 : Int) : Option (Bool) := if a0_1 = a1_1 then (if a0_1 = 0 then (some (decide (a0_0 > a1_0))) else (some (Op.bytesLess a0_3.toList a1_2.toList))) else (some (decide (a0_1 < a1_1)))
set_option maxHeartbeats 8000000 in
set_option maxRecDepth 100000 in
theorem spec_l12Ahead.calls (a0_0 : Int) (a0_1 : Int) (a0_2 : ByteArray) (a0_3 : ByteArray) (a0_4 : Int) (a1_0 : Int) (a1_1 : Int) (a1_2 : ByteArray) (a1_3 : ByteArray) (a1_4 : Int) (r : Bool) (w : World) (h : spec_l12Ahead.f a0_0 a0_1 a0_2 a0_3 a0_4 a1_0 a1_1 a1_2 a1_3 a1_4 = some r) :
  Calls Try.prog 56 #[.agg #[.int .i64 a0_0, .int .i64 a0_1, .string a0_2, .string a0_3, .int .i64 a0_4], .agg #[.int .i64 a1_0, .int .i64 a1_1, .string a1_2, .string a1_3, .int .i64 a1_4]] w fun e w' => e = .returned (.bool r) ∧ Below w.heap.size w w' := by
 have hu66 := Try.underlying66
 have HB := Qz.mk (Below.refl w.heap.size w)
 have H : (if a0_1 = a1_1 then (if a0_1 = 0 then (some (decide (a0_0 > a1_0))) else (some (Op.bytesLess a0_3.toList a1_2.toList))) else (some (decide (a0_1 < a1_1)))) = some r := h
 clear h
 by_cases c3 : a0_1 = a1_1
 ·rw [if_pos c3] at H
  have c3b0 : (a0_1 == a1_1) = true := beq_iff_eq.mpr c3
  have c3b1 : (a0_1 != a1_1) = false := bne_eq_false_iff_eq.mpr c3
  clear c3
  by_cases c4 : a0_1 = 0
  ·rw [if_pos c4] at H
   have c4b0 : (a0_1 == 0) = true := beq_iff_eq.mpr c4
   have c4b1 : (a0_1 != 0) = false := bne_eq_false_iff_eq.mpr c4
   clear c4
   obtain rfl := Option.some.inj H
   go_enter Try.func56, Try.ntmps56
   go_wp2_with (first | ((with_reducible refine gate_dst (N := 2) rfl ?_); refine box_event ?hg (N := 2) ?hd (cs := #[.int .i64 a0_0, .int .i64 a0_1, .string a0_2, .string a0_3, .int .i64 a0_4]) (t := 66) ?hr ?_; (case hd => rfl); (case hg => rfl); (case hr => first | (go_simp; done) | (go_simp; rfl)); intro gb101 hg w5 hbox hb; have BK101 := Qz.mk (hbox); have GW101 := Qz.mk ((by rw [hg]; exact (qz yq2) : w.heap.size ≤ gb101)); have GE101 := GW101; replace HB := Qz.mk (qq yq2 hb); clear hb hbox hg) | ((with_reducible refine gate_dst (N := 3) rfl ?_); refine box_event ?hg (N := 3) ?hd (cs := #[.int .i64 a1_0, .int .i64 a1_1, .string a1_2, .string a1_3, .int .i64 a1_4]) (t := 66) ?hr ?_; (case hd => rfl); (case hg => rfl); (case hr => first | (go_simp; done) | (go_simp; rfl)); intro gb102 hg w6 hbox hb; have BK102 := Qz.mk (hbox); have GW102 := Qz.mk ((by rw [hg]; exact (qz yq1) : w.heap.size ≤ gb102)); have GE102 := GW102; replace HB := Qz.mk (qq yq1 hb); have NB101_102 := Qz.mk ((yq3 : gb101 ≠ gb102)); have NB102_101 := Qz.mk ((yq4 : gb102 ≠ gb101)); replace BK101 := Qz.mk (qb1 (g := gb101) (o := .cells #[.int .i64 a0_0, .int .i64 a0_1, .string a0_2, .string a0_3, .int .i64 a0_4] 66 (0, 0)) yq0 hb); clear hb hbox hg; have hnb7 := NB101_102.out; have hnc7 := NB102_101.out; have hcz8_0 := (qd BK101.out 0).trans rfl; have hcz8_1 := (qd BK101.out 1).trans rfl; have hcz8_2 := (qd BK101.out 2).trans rfl; have hcz8_3 := (qd BK101.out 3).trans rfl; have hcz8_4 := (qd BK101.out 4).trans rfl; have hfz8_0 := qf BK101.out 0; have hfz8_1 := qf BK101.out 1; have hfz8_2 := qf BK101.out 2; have hfz8_3 := qf BK101.out 3; have hfz8_4 := qf BK101.out 4; have hcz9_0 := (qd BK102.out 0).trans rfl; have hcz9_1 := (qd BK102.out 1).trans rfl; have hcz9_2 := (qd BK102.out 2).trans rfl; have hcz9_3 := (qd BK102.out 3).trans rfl; have hcz9_4 := (qd BK102.out 4).trans rfl; have hfz9_0 := qf BK102.out 0; have hfz9_1 := qf BK102.out 1; have hfz9_2 := qf BK102.out 2; have hfz9_3 := qf BK102.out 3; have hfz9_4 := qf BK102.out 4))
   go_ret
   exact ⟨by first | rfl | (simp [qy, qx] <;> rfl) | (simp [*, qy, qx] <;> rfl), by repeat (first | (with_reducible first | exact HB.out | apply qh | apply qg | apply qi | refine qe ?_ GE101.out | refine qe ?_ GE102.out) | exact HB.out)⟩
  ·rw [if_neg c4] at H
   have c4b0 : (a0_1 == 0) = false := beq_eq_false_iff_ne.mpr c4
   have c4b1 : (a0_1 != 0) = true := bne_iff_ne.mpr c4
   obtain rfl := Option.some.inj H
   go_enter Try.func56, Try.ntmps56
   go_wp2_with (first | ((with_reducible refine gate_dst (N := 2) rfl ?_); refine box_event ?hg (N := 2) ?hd (cs := #[.int .i64 a0_0, .int .i64 a0_1, .string a0_2, .string a0_3, .int .i64 a0_4]) (t := 66) ?hr ?_; (case hd => rfl); (case hg => rfl); (case hr => first | (go_simp; done) | (go_simp; rfl)); intro gb101 hg w10 hbox hb; have BK101 := Qz.mk (hbox); have GW101 := Qz.mk ((by rw [hg]; exact (qz yq2) : w.heap.size ≤ gb101)); have GE101 := GW101; replace HB := Qz.mk (qq yq2 hb); clear hb hbox hg) | ((with_reducible refine gate_dst (N := 3) rfl ?_); refine box_event ?hg (N := 3) ?hd (cs := #[.int .i64 a1_0, .int .i64 a1_1, .string a1_2, .string a1_3, .int .i64 a1_4]) (t := 66) ?hr ?_; (case hd => rfl); (case hg => rfl); (case hr => first | (go_simp; done) | (go_simp; rfl)); intro gb102 hg w11 hbox hb; have BK102 := Qz.mk (hbox); have GW102 := Qz.mk ((by rw [hg]; exact (qz yq1) : w.heap.size ≤ gb102)); have GE102 := GW102; replace HB := Qz.mk (qq yq1 hb); have NB101_102 := Qz.mk ((yq3 : gb101 ≠ gb102)); have NB102_101 := Qz.mk ((yq4 : gb102 ≠ gb101)); replace BK101 := Qz.mk (qb1 (g := gb101) (o := .cells #[.int .i64 a0_0, .int .i64 a0_1, .string a0_2, .string a0_3, .int .i64 a0_4] 66 (0, 0)) yq0 hb); clear hb hbox hg; have hnb12 := NB101_102.out; have hnc12 := NB102_101.out; have hcz13_0 := (qd BK101.out 0).trans rfl; have hcz13_1 := (qd BK101.out 1).trans rfl; have hcz13_2 := (qd BK101.out 2).trans rfl; have hcz13_3 := (qd BK101.out 3).trans rfl; have hcz13_4 := (qd BK101.out 4).trans rfl; have hfz13_0 := qf BK101.out 0; have hfz13_1 := qf BK101.out 1; have hfz13_2 := qf BK101.out 2; have hfz13_3 := qf BK101.out 3; have hfz13_4 := qf BK101.out 4; have hcz14_0 := (qd BK102.out 0).trans rfl; have hcz14_1 := (qd BK102.out 1).trans rfl; have hcz14_2 := (qd BK102.out 2).trans rfl; have hcz14_3 := (qd BK102.out 3).trans rfl; have hcz14_4 := (qd BK102.out 4).trans rfl; have hfz14_0 := qf BK102.out 0; have hfz14_1 := qf BK102.out 1; have hfz14_2 := qf BK102.out 2; have hfz14_3 := qf BK102.out 3; have hfz14_4 := qf BK102.out 4))
   go_ret
   exact ⟨by first | rfl | (simp [qy, qx] <;> rfl) | (simp [*, qy, qx] <;> rfl), by repeat (first | (with_reducible first | exact HB.out | apply qh | apply qg | apply qi | refine qe ?_ GE101.out | refine qe ?_ GE102.out) | exact HB.out)⟩
 ·rw [if_neg c3] at H
  have c3b0 : (a0_1 == a1_1) = false := beq_eq_false_iff_ne.mpr c3
  have c3b1 : (a0_1 != a1_1) = true := bne_iff_ne.mpr c3
  obtain rfl := Option.some.inj H
  go_enter Try.func56, Try.ntmps56
  go_wp2_with (first | ((with_reducible refine gate_dst (N := 2) rfl ?_); refine box_event ?hg (N := 2) ?hd (cs := #[.int .i64 a0_0, .int .i64 a0_1, .string a0_2, .string a0_3, .int .i64 a0_4]) (t := 66) ?hr ?_; (case hd => rfl); (case hg => rfl); (case hr => first | (go_simp; done) | (go_simp; rfl)); intro gb101 hg w15 hbox hb; have BK101 := Qz.mk (hbox); have GW101 := Qz.mk ((by rw [hg]; exact (qz yq2) : w.heap.size ≤ gb101)); have GE101 := GW101; replace HB := Qz.mk (qq yq2 hb); clear hb hbox hg) | ((with_reducible refine gate_dst (N := 3) rfl ?_); refine box_event ?hg (N := 3) ?hd (cs := #[.int .i64 a1_0, .int .i64 a1_1, .string a1_2, .string a1_3, .int .i64 a1_4]) (t := 66) ?hr ?_; (case hd => rfl); (case hg => rfl); (case hr => first | (go_simp; done) | (go_simp; rfl)); intro gb102 hg w16 hbox hb; have BK102 := Qz.mk (hbox); have GW102 := Qz.mk ((by rw [hg]; exact (qz yq1) : w.heap.size ≤ gb102)); have GE102 := GW102; replace HB := Qz.mk (qq yq1 hb); have NB101_102 := Qz.mk ((yq3 : gb101 ≠ gb102)); have NB102_101 := Qz.mk ((yq4 : gb102 ≠ gb101)); replace BK101 := Qz.mk (qb1 (g := gb101) (o := .cells #[.int .i64 a0_0, .int .i64 a0_1, .string a0_2, .string a0_3, .int .i64 a0_4] 66 (0, 0)) yq0 hb); clear hb hbox hg; have hnb17 := NB101_102.out; have hnc17 := NB102_101.out; have hcz18_0 := (qd BK101.out 0).trans rfl; have hcz18_1 := (qd BK101.out 1).trans rfl; have hcz18_2 := (qd BK101.out 2).trans rfl; have hcz18_3 := (qd BK101.out 3).trans rfl; have hcz18_4 := (qd BK101.out 4).trans rfl; have hfz18_0 := qf BK101.out 0; have hfz18_1 := qf BK101.out 1; have hfz18_2 := qf BK101.out 2; have hfz18_3 := qf BK101.out 3; have hfz18_4 := qf BK101.out 4; have hcz19_0 := (qd BK102.out 0).trans rfl; have hcz19_1 := (qd BK102.out 1).trans rfl; have hcz19_2 := (qd BK102.out 2).trans rfl; have hcz19_3 := (qd BK102.out 3).trans rfl; have hcz19_4 := (qd BK102.out 4).trans rfl; have hfz19_0 := qf BK102.out 0; have hfz19_1 := qf BK102.out 1; have hfz19_2 := qf BK102.out 2; have hfz19_3 := qf BK102.out 3; have hfz19_4 := qf BK102.out 4))
  go_ret
  exact ⟨by first | rfl | (simp [qy, qx] <;> rfl) | (simp [*, qy, qx] <;> rfl), by repeat (first | (with_reducible first | exact HB.out | apply qh | apply qg | apply qi | refine qe ?_ GE101.out | refine qe ?_ GE102.out) | exact HB.out)⟩
def spec_l1In.f (a0 : Int) (a1 : Int) (a2 : Int) : Option (Bool) := if a0 ≥ a1 then (some (decide (a0 ≤ a2))) else (some false)
set_option maxHeartbeats 8000000 in
set_option maxRecDepth 100000 in
theorem spec_l1In.calls (a0 : Int) (a1 : Int) (a2 : Int) (r : Bool) (w : World) (h : spec_l1In.f a0 a1 a2 = some r) :
  Calls Try.prog 63 #[.int .i64 a0, .int .i64 a1, .int .i64 a2] w fun e w' => e = .returned (.bool r) ∧ Drawn0 w w' := by
 have H : (if a0 ≥ a1 then (some (decide (a0 ≤ a2))) else (some false)) = some r := h
 clear h
 by_cases c4 : a0 ≥ a1
 ·rw [if_pos c4] at H
  have c4b0 : decide (a1 ≤ a0) = true := decide_eq_true c4
  clear c4
  obtain rfl := Option.some.inj H
  go_enter Try.func63, Try.ntmps63
  go_wp2
  go_ret
  exact ⟨by first | rfl | (simp; done) | (simp [*]; done), by repeat (first | exact Drawn0.refl _ | apply Drawn0.step)⟩
 ·rw [if_neg c4] at H
  have c4b0 : decide (a1 ≤ a0) = false := decide_eq_false c4
  clear c4
  obtain rfl := Option.some.inj H
  go_enter Try.func63, Try.ntmps63
  go_wp2
  go_ret
  exact ⟨by first | rfl | (simp; done) | (simp [*]; done), by repeat (first | exact Drawn0.refl _ | apply Drawn0.step)⟩
def spec_l2User.f (a0 : ByteArray) : Option (Bool) := if (a0.size : Int) ≥ 1 then (some (decide ((a0.size : Int) ≤ 40))) else (some false)
set_option maxHeartbeats 8000000 in
set_option maxRecDepth 100000 in
theorem spec_l2User.calls (a0 : ByteArray) (r : Bool) (w : World) (h : spec_l2User.f a0 = some r) :
  Calls Try.prog 98 #[.string a0] w fun e w' => e = .returned (.bool r) ∧ Drawn0 w w' := by
 have H : (if (a0.size : Int) ≥ 1 then (some (decide ((a0.size : Int) ≤ 40))) else (some false)) = some r := h
 clear h
 by_cases c2 : (a0.size : Int) ≥ 1
 ·rw [if_pos c2] at H
  have c2b0 : decide (1 ≤ (a0.size : Int)) = true := decide_eq_true c2
  have c2b1 : decide (1 ≤ a0.size) = true := decide_eq_true (by omega)
  clear c2
  obtain rfl := Option.some.inj H
  go_enter Try.func98, Try.ntmps98
  go_wp2
  go_ret
  exact ⟨by first | rfl | (simp; done) | (simp [*]; done), by repeat (first | exact Drawn0.refl _ | apply Drawn0.step)⟩
 ·rw [if_neg c2] at H
  have c2b0 : decide (1 ≤ (a0.size : Int)) = false := decide_eq_false c2
  have c2b1 : decide (1 ≤ a0.size) = false := decide_eq_false (by omega)
  clear c2
  obtain rfl := Option.some.inj H
  go_enter Try.func98, Try.ntmps98
  go_wp2
  go_ret
  exact ⟨by first | rfl | (simp; done) | (simp [*]; done), by repeat (first | exact Drawn0.refl _ | apply Drawn0.step)⟩
theorem yq5 {P : Prop} (h : P := by repeat (first | (with_reducible first | exact HB.out | apply qh | apply qg | apply qi) | exact HB.out)) : P := h
theorem yq6 {P : Prop} (h : P := by (try simp only [List.map_toArray, List.map_cons, List.map_nil]); first | done | rfl) : P := h
def spec_l12Meta.f (a0_0 : Int) (a0_1 : Int) (a0_2 : ByteArray) (a0_3 : ByteArray) (a0_4 : Int) : Option (Bool) := (spec_l1In.f a0_0 1 1000000).bind fun t102 => (if t102 = true then ((spec_l1In.f a0_1 0 3).bind fun t103 => (if t103 = true then ((spec_l2User.f a0_2).bind fun t104 => (if t104 = true then ((spec_l2User.f a0_3).bind fun t105 => (if t105 = true then (if ((Op.bytesLess a0_3.toList a0_2.toList) = true) then (some false) else ((spec_l1In.f a0_4 1 400).bind fun t106 => (some t106))) else (some false))) else (some false))) else (some false))) else (some false))
set_option maxHeartbeats 8000000 in
set_option maxRecDepth 100000 in
theorem spec_l12Meta.calls (a0_0 : Int) (a0_1 : Int) (a0_2 : ByteArray) (a0_3 : ByteArray) (a0_4 : Int) (r : Bool) (w : World) (h : spec_l12Meta.f a0_0 a0_1 a0_2 a0_3 a0_4 = some r) :
  Calls Try.prog 64 #[.agg #[.int .i64 a0_0, .int .i64 a0_1, .string a0_2, .string a0_3, .int .i64 a0_4]] w fun e w' => e = .returned (.bool r) ∧ Below w.heap.size w w' := by
 have hu66 := Try.underlying66
 have HB := Qz.mk (Below.refl w.heap.size w)
 have H : ((spec_l1In.f a0_0 1 1000000).bind fun t102 => (if t102 = true then ((spec_l1In.f a0_1 0 3).bind fun t103 => (if t103 = true then ((spec_l2User.f a0_2).bind fun t104 => (if t104 = true then ((spec_l2User.f a0_3).bind fun t105 => (if t105 = true then (if ((Op.bytesLess a0_3.toList a0_2.toList) = true) then (some false) else ((spec_l1In.f a0_4 1 400).bind fun t106 => (some t106))) else (some false))) else (some false))) else (some false))) else (some false))) = some r := h
 clear h
 replace H := Option.bind_eq_some_iff.mp H
 obtain ⟨t102, A20, H⟩ := H
 replace H : (if t102 = true then ((spec_l1In.f a0_1 0 3).bind fun t103 => (if t103 = true then ((spec_l2User.f a0_2).bind fun t104 => (if t104 = true then ((spec_l2User.f a0_3).bind fun t105 => (if t105 = true then (if ((Op.bytesLess a0_3.toList a0_2.toList) = true) then (some false) else ((spec_l1In.f a0_4 1 400).bind fun t106 => (some t106))) else (some false))) else (some false))) else (some false))) else (some false)) = some r := H
 have A2 := Qz.mk A20
 clear A20
 by_cases c3 : t102 = true
 ·subst c3
  have H1 : ((spec_l1In.f a0_1 0 3).bind fun t103 => (if t103 = true then ((spec_l2User.f a0_2).bind fun t104 => (if t104 = true then ((spec_l2User.f a0_3).bind fun t105 => (if t105 = true then (if ((Op.bytesLess a0_3.toList a0_2.toList) = true) then (some false) else ((spec_l1In.f a0_4 1 400).bind fun t106 => (some t106))) else (some false))) else (some false))) else (some false))) = some r := by rw [if_pos rfl] at H; exact H
  clear H
  have H := H1
  clear H1
  replace H := Option.bind_eq_some_iff.mp H
  obtain ⟨t103, A40, H⟩ := H
  replace H : (if t103 = true then ((spec_l2User.f a0_2).bind fun t104 => (if t104 = true then ((spec_l2User.f a0_3).bind fun t105 => (if t105 = true then (if ((Op.bytesLess a0_3.toList a0_2.toList) = true) then (some false) else ((spec_l1In.f a0_4 1 400).bind fun t106 => (some t106))) else (some false))) else (some false))) else (some false)) = some r := H
  have A4 := Qz.mk A40
  clear A40
  by_cases c5 : t103 = true
  ·subst c5
   have H1 : ((spec_l2User.f a0_2).bind fun t104 => (if t104 = true then ((spec_l2User.f a0_3).bind fun t105 => (if t105 = true then (if ((Op.bytesLess a0_3.toList a0_2.toList) = true) then (some false) else ((spec_l1In.f a0_4 1 400).bind fun t106 => (some t106))) else (some false))) else (some false))) = some r := by rw [if_pos rfl] at H; exact H
   clear H
   have H := H1
   clear H1
   replace H := Option.bind_eq_some_iff.mp H
   obtain ⟨t104, A60, H⟩ := H
   replace H : (if t104 = true then ((spec_l2User.f a0_3).bind fun t105 => (if t105 = true then (if ((Op.bytesLess a0_3.toList a0_2.toList) = true) then (some false) else ((spec_l1In.f a0_4 1 400).bind fun t106 => (some t106))) else (some false))) else (some false)) = some r := H
   have A6 := Qz.mk A60
   clear A60
   by_cases c7 : t104 = true
   ·subst c7
    have H1 : ((spec_l2User.f a0_3).bind fun t105 => (if t105 = true then (if ((Op.bytesLess a0_3.toList a0_2.toList) = true) then (some false) else ((spec_l1In.f a0_4 1 400).bind fun t106 => (some t106))) else (some false))) = some r := by rw [if_pos rfl] at H; exact H
    clear H
    have H := H1
    clear H1
    replace H := Option.bind_eq_some_iff.mp H
    obtain ⟨t105, A80, H⟩ := H
    replace H : (if t105 = true then (if ((Op.bytesLess a0_3.toList a0_2.toList) = true) then (some false) else ((spec_l1In.f a0_4 1 400).bind fun t106 => (some t106))) else (some false)) = some r := H
    have A8 := Qz.mk A80
    clear A80
    by_cases c9 : t105 = true
    ·subst c9
     have H1 : (if ((Op.bytesLess a0_3.toList a0_2.toList) = true) then (some false) else ((spec_l1In.f a0_4 1 400).bind fun t106 => (some t106))) = some r := by rw [if_pos rfl] at H; exact H
     clear H
     have H := H1
     clear H1
     by_cases c10 : ((Op.bytesLess a0_3.toList a0_2.toList) = true)
     ·rw [if_pos c10] at H
      have c10b0 : (Op.bytesLess a0_3.toList a0_2.toList) = true := c10
      clear c10
      obtain rfl := Option.some.inj H
      go_enter Try.func64, Try.ntmps64
      go_wp2_with (first | ((with_reducible refine gate_dst (N := 1) rfl ?_); refine box_event ?hg (N := 1) ?hd (cs := #[.int .i64 a0_0, .int .i64 a0_1, .string a0_2, .string a0_3, .int .i64 a0_4]) (t := 66) ?hr ?_; (case hd => rfl); (case hg => rfl); (case hr => first | (go_simp; done) | (go_simp; rfl)); intro gb101 hg w11 hbox hb; have BK101 := Qz.mk (hbox); have GW101 := Qz.mk ((by rw [hg]; exact (qz yq5) : w.heap.size ≤ gb101)); have GE101 := GW101; replace HB := Qz.mk (qq yq5 hb); clear hb hbox hg; have hcz12_0 := (qd BK101.out 0).trans rfl; have hcz12_1 := (qd BK101.out 1).trans rfl; have hcz12_2 := (qd BK101.out 2).trans rfl; have hcz12_3 := (qd BK101.out 3).trans rfl; have hcz12_4 := (qd BK101.out 4).trans rfl; have hfz12_0 := qf BK101.out 0; have hfz12_1 := qf BK101.out 1; have hfz12_2 := qf BK101.out 2; have hfz12_3 := qf BK101.out 3; have hfz12_4 := qf BK101.out 4) | ((with_reducible refine qu (f := 63) rfl ?_); refine goesL_ (some 5) rfl rfl Try.func63 (by kernel_rfl) rfl #[.int .i64 a0_0, .int .i64 1, .int .i64 1000000] rfl yq6 ?_; (with_reducible refine (spec_l1In.calls a0_0 1 1000000 true _ A2.out).mono ?_); rintro e w' ⟨rfl, ⟨nd, rfl⟩⟩; refine ⟨_, rfl, ?_⟩) | (go_at_call 63; (with_reducible refine (spec_l1In.calls a0_1 0 3 true _ A4.out).mono ?_); rintro e w' ⟨rfl, ⟨nd, rfl⟩⟩) | (go_at_call 98; (with_reducible refine (spec_l2User.calls a0_2 true _ A6.out).mono ?_); rintro e w' ⟨rfl, ⟨nd, rfl⟩⟩) | (go_at_call 98; (with_reducible refine (spec_l2User.calls a0_3 true _ A8.out).mono ?_); rintro e w' ⟨rfl, ⟨nd, rfl⟩⟩))
      go_ret
      exact ⟨by first | rfl | (simp [qy, qx] <;> rfl) | (simp [*, qy, qx] <;> rfl), by repeat (first | (with_reducible first | exact HB.out | apply qh | apply qg | apply qi | refine qe ?_ GE101.out) | exact HB.out)⟩
     ·rw [if_neg c10] at H
      have c10b0 : (Op.bytesLess a0_3.toList a0_2.toList) = false := by simpa using c10
      clear c10
      replace H := Option.bind_eq_some_iff.mp H
      obtain ⟨t106, A130, H⟩ := H
      replace H : (some t106) = some r := H
      have A13 := Qz.mk A130
      clear A130
      obtain rfl := Option.some.inj H
      go_enter Try.func64, Try.ntmps64
      go_wp2_with (first | ((with_reducible refine gate_dst (N := 1) rfl ?_); refine box_event ?hg (N := 1) ?hd (cs := #[.int .i64 a0_0, .int .i64 a0_1, .string a0_2, .string a0_3, .int .i64 a0_4]) (t := 66) ?hr ?_; (case hd => rfl); (case hg => rfl); (case hr => first | (go_simp; done) | (go_simp; rfl)); intro gb101 hg w14 hbox hb; have BK101 := Qz.mk (hbox); have GW101 := Qz.mk ((by rw [hg]; exact (qz yq5) : w.heap.size ≤ gb101)); have GE101 := GW101; replace HB := Qz.mk (qq yq5 hb); clear hb hbox hg; have hcz15_0 := (qd BK101.out 0).trans rfl; have hcz15_1 := (qd BK101.out 1).trans rfl; have hcz15_2 := (qd BK101.out 2).trans rfl; have hcz15_3 := (qd BK101.out 3).trans rfl; have hcz15_4 := (qd BK101.out 4).trans rfl; have hfz15_0 := qf BK101.out 0; have hfz15_1 := qf BK101.out 1; have hfz15_2 := qf BK101.out 2; have hfz15_3 := qf BK101.out 3; have hfz15_4 := qf BK101.out 4) | ((with_reducible refine qu (f := 63) rfl ?_); refine goesL_ (some 5) rfl rfl Try.func63 (by kernel_rfl) rfl #[.int .i64 a0_0, .int .i64 1, .int .i64 1000000] rfl yq6 ?_; (with_reducible refine (spec_l1In.calls a0_0 1 1000000 true _ A2.out).mono ?_); rintro e w' ⟨rfl, ⟨nd, rfl⟩⟩; refine ⟨_, rfl, ?_⟩) | (go_at_call 63; (with_reducible refine (spec_l1In.calls a0_1 0 3 true _ A4.out).mono ?_); rintro e w' ⟨rfl, ⟨nd, rfl⟩⟩) | (go_at_call 98; (with_reducible refine (spec_l2User.calls a0_2 true _ A6.out).mono ?_); rintro e w' ⟨rfl, ⟨nd, rfl⟩⟩) | (go_at_call 98; (with_reducible refine (spec_l2User.calls a0_3 true _ A8.out).mono ?_); rintro e w' ⟨rfl, ⟨nd, rfl⟩⟩) | (go_at_call 63; (with_reducible refine (spec_l1In.calls a0_4 1 400 t106 _ A13.out).mono ?_); rintro e w' ⟨rfl, ⟨nd, rfl⟩⟩))
      go_ret
      exact ⟨by first | rfl | (simp [qy, qx] <;> rfl) | (simp [*, qy, qx] <;> rfl), by repeat (first | (with_reducible first | exact HB.out | apply qh | apply qg | apply qi | refine qe ?_ GE101.out) | exact HB.out)⟩
    ·replace c9 := Bool.eq_false_iff.mpr c9
     subst c9
     have H1 : (some false) = some r := by rw [if_neg (show ¬ (false = true) by decide)] at H; exact H
     clear H
     have H := H1
     clear H1
     obtain rfl := Option.some.inj H
     go_enter Try.func64, Try.ntmps64
     go_wp2_with (first | ((with_reducible refine gate_dst (N := 1) rfl ?_); refine box_event ?hg (N := 1) ?hd (cs := #[.int .i64 a0_0, .int .i64 a0_1, .string a0_2, .string a0_3, .int .i64 a0_4]) (t := 66) ?hr ?_; (case hd => rfl); (case hg => rfl); (case hr => first | (go_simp; done) | (go_simp; rfl)); intro gb101 hg w16 hbox hb; have BK101 := Qz.mk (hbox); have GW101 := Qz.mk ((by rw [hg]; exact (qz yq5) : w.heap.size ≤ gb101)); have GE101 := GW101; replace HB := Qz.mk (qq yq5 hb); clear hb hbox hg; have hcz17_0 := (qd BK101.out 0).trans rfl; have hcz17_1 := (qd BK101.out 1).trans rfl; have hcz17_2 := (qd BK101.out 2).trans rfl; have hcz17_3 := (qd BK101.out 3).trans rfl; have hcz17_4 := (qd BK101.out 4).trans rfl; have hfz17_0 := qf BK101.out 0; have hfz17_1 := qf BK101.out 1; have hfz17_2 := qf BK101.out 2; have hfz17_3 := qf BK101.out 3; have hfz17_4 := qf BK101.out 4) | ((with_reducible refine qu (f := 63) rfl ?_); refine goesL_ (some 5) rfl rfl Try.func63 (by kernel_rfl) rfl #[.int .i64 a0_0, .int .i64 1, .int .i64 1000000] rfl yq6 ?_; (with_reducible refine (spec_l1In.calls a0_0 1 1000000 true _ A2.out).mono ?_); rintro e w' ⟨rfl, ⟨nd, rfl⟩⟩; refine ⟨_, rfl, ?_⟩) | (go_at_call 63; (with_reducible refine (spec_l1In.calls a0_1 0 3 true _ A4.out).mono ?_); rintro e w' ⟨rfl, ⟨nd, rfl⟩⟩) | (go_at_call 98; (with_reducible refine (spec_l2User.calls a0_2 true _ A6.out).mono ?_); rintro e w' ⟨rfl, ⟨nd, rfl⟩⟩) | (go_at_call 98; (with_reducible refine (spec_l2User.calls a0_3 false _ A8.out).mono ?_); rintro e w' ⟨rfl, ⟨nd, rfl⟩⟩))
     go_ret
     exact ⟨by first | rfl | (simp [qy, qx] <;> rfl) | (simp [*, qy, qx] <;> rfl), by repeat (first | (with_reducible first | exact HB.out | apply qh | apply qg | apply qi | refine qe ?_ GE101.out) | exact HB.out)⟩
   ·replace c7 := Bool.eq_false_iff.mpr c7
    subst c7
    have H1 : (some false) = some r := by rw [if_neg (show ¬ (false = true) by decide)] at H; exact H
    clear H
    have H := H1
    clear H1
    obtain rfl := Option.some.inj H
    go_enter Try.func64, Try.ntmps64
    go_wp2_with (first | ((with_reducible refine gate_dst (N := 1) rfl ?_); refine box_event ?hg (N := 1) ?hd (cs := #[.int .i64 a0_0, .int .i64 a0_1, .string a0_2, .string a0_3, .int .i64 a0_4]) (t := 66) ?hr ?_; (case hd => rfl); (case hg => rfl); (case hr => first | (go_simp; done) | (go_simp; rfl)); intro gb101 hg w18 hbox hb; have BK101 := Qz.mk (hbox); have GW101 := Qz.mk ((by rw [hg]; exact (qz yq5) : w.heap.size ≤ gb101)); have GE101 := GW101; replace HB := Qz.mk (qq yq5 hb); clear hb hbox hg; have hcz19_0 := (qd BK101.out 0).trans rfl; have hcz19_1 := (qd BK101.out 1).trans rfl; have hcz19_2 := (qd BK101.out 2).trans rfl; have hcz19_3 := (qd BK101.out 3).trans rfl; have hcz19_4 := (qd BK101.out 4).trans rfl; have hfz19_0 := qf BK101.out 0; have hfz19_1 := qf BK101.out 1; have hfz19_2 := qf BK101.out 2; have hfz19_3 := qf BK101.out 3; have hfz19_4 := qf BK101.out 4) | ((with_reducible refine qu (f := 63) rfl ?_); refine goesL_ (some 5) rfl rfl Try.func63 (by kernel_rfl) rfl #[.int .i64 a0_0, .int .i64 1, .int .i64 1000000] rfl yq6 ?_; (with_reducible refine (spec_l1In.calls a0_0 1 1000000 true _ A2.out).mono ?_); rintro e w' ⟨rfl, ⟨nd, rfl⟩⟩; refine ⟨_, rfl, ?_⟩) | (go_at_call 63; (with_reducible refine (spec_l1In.calls a0_1 0 3 true _ A4.out).mono ?_); rintro e w' ⟨rfl, ⟨nd, rfl⟩⟩) | (go_at_call 98; (with_reducible refine (spec_l2User.calls a0_2 false _ A6.out).mono ?_); rintro e w' ⟨rfl, ⟨nd, rfl⟩⟩))
    go_ret
    exact ⟨by first | rfl | (simp [qy, qx] <;> rfl) | (simp [*, qy, qx] <;> rfl), by repeat (first | (with_reducible first | exact HB.out | apply qh | apply qg | apply qi | refine qe ?_ GE101.out) | exact HB.out)⟩
  ·replace c5 := Bool.eq_false_iff.mpr c5
   subst c5
   have H1 : (some false) = some r := by rw [if_neg (show ¬ (false = true) by decide)] at H; exact H
   clear H
   have H := H1
   clear H1
   obtain rfl := Option.some.inj H
   go_enter Try.func64, Try.ntmps64
   go_wp2_with (first | ((with_reducible refine gate_dst (N := 1) rfl ?_); refine box_event ?hg (N := 1) ?hd (cs := #[.int .i64 a0_0, .int .i64 a0_1, .string a0_2, .string a0_3, .int .i64 a0_4]) (t := 66) ?hr ?_; (case hd => rfl); (case hg => rfl); (case hr => first | (go_simp; done) | (go_simp; rfl)); intro gb101 hg w20 hbox hb; have BK101 := Qz.mk (hbox); have GW101 := Qz.mk ((by rw [hg]; exact (qz yq5) : w.heap.size ≤ gb101)); have GE101 := GW101; replace HB := Qz.mk (qq yq5 hb); clear hb hbox hg; have hcz21_0 := (qd BK101.out 0).trans rfl; have hcz21_1 := (qd BK101.out 1).trans rfl; have hcz21_2 := (qd BK101.out 2).trans rfl; have hcz21_3 := (qd BK101.out 3).trans rfl; have hcz21_4 := (qd BK101.out 4).trans rfl; have hfz21_0 := qf BK101.out 0; have hfz21_1 := qf BK101.out 1; have hfz21_2 := qf BK101.out 2; have hfz21_3 := qf BK101.out 3; have hfz21_4 := qf BK101.out 4) | ((with_reducible refine qu (f := 63) rfl ?_); refine goesL_ (some 5) rfl rfl Try.func63 (by kernel_rfl) rfl #[.int .i64 a0_0, .int .i64 1, .int .i64 1000000] rfl yq6 ?_; (with_reducible refine (spec_l1In.calls a0_0 1 1000000 true _ A2.out).mono ?_); rintro e w' ⟨rfl, ⟨nd, rfl⟩⟩; refine ⟨_, rfl, ?_⟩) | (go_at_call 63; (with_reducible refine (spec_l1In.calls a0_1 0 3 false _ A4.out).mono ?_); rintro e w' ⟨rfl, ⟨nd, rfl⟩⟩))
   go_ret
   exact ⟨by first | rfl | (simp [qy, qx] <;> rfl) | (simp [*, qy, qx] <;> rfl), by repeat (first | (with_reducible first | exact HB.out | apply qh | apply qg | apply qi | refine qe ?_ GE101.out) | exact HB.out)⟩
 ·replace c3 := Bool.eq_false_iff.mpr c3
  subst c3
  have H1 : (some false) = some r := by rw [if_neg (show ¬ (false = true) by decide)] at H; exact H
  clear H
  have H := H1
  clear H1
  obtain rfl := Option.some.inj H
  go_enter Try.func64, Try.ntmps64
  go_wp2_with (first | ((with_reducible refine gate_dst (N := 1) rfl ?_); refine box_event ?hg (N := 1) ?hd (cs := #[.int .i64 a0_0, .int .i64 a0_1, .string a0_2, .string a0_3, .int .i64 a0_4]) (t := 66) ?hr ?_; (case hd => rfl); (case hg => rfl); (case hr => first | (go_simp; done) | (go_simp; rfl)); intro gb101 hg w22 hbox hb; have BK101 := Qz.mk (hbox); have GW101 := Qz.mk ((by rw [hg]; exact (qz yq5) : w.heap.size ≤ gb101)); have GE101 := GW101; replace HB := Qz.mk (qq yq5 hb); clear hb hbox hg; have hcz23_0 := (qd BK101.out 0).trans rfl; have hcz23_1 := (qd BK101.out 1).trans rfl; have hcz23_2 := (qd BK101.out 2).trans rfl; have hcz23_3 := (qd BK101.out 3).trans rfl; have hcz23_4 := (qd BK101.out 4).trans rfl; have hfz23_0 := qf BK101.out 0; have hfz23_1 := qf BK101.out 1; have hfz23_2 := qf BK101.out 2; have hfz23_3 := qf BK101.out 3; have hfz23_4 := qf BK101.out 4) | ((with_reducible refine qu (f := 63) rfl ?_); refine goesL_ (some 5) rfl rfl Try.func63 (by kernel_rfl) rfl #[.int .i64 a0_0, .int .i64 1, .int .i64 1000000] rfl yq6 ?_; (with_reducible refine (spec_l1In.calls a0_0 1 1000000 false _ A2.out).mono ?_); rintro e w' ⟨rfl, ⟨nd, rfl⟩⟩; refine ⟨_, rfl, ?_⟩))
  go_ret
  exact ⟨by first | rfl | (simp [qy, qx] <;> rfl) | (simp [*, qy, qx] <;> rfl), by repeat (first | (with_reducible first | exact HB.out | apply qh | apply qg | apply qi | refine qe ?_ GE101.out) | exact HB.out)⟩
end Go.Proofs.Ytcgejabkjljeeaa.P
end

section
namespace Go.Proofs.Ytcgejabkjljeeaa.P
open Go.RowKit Go.Proofs.YtcgejabkjljeeaaW.PrintWords Go.Proofs.YtcgejabkjljeeaaW.PrintLast Go.Proofs.YtcgejabkjljeeaaW.PrintMore
attribute [local go_sem] str_gtr str_leq str_geq max2_int min2_int max_two min_two qe1 qd1 max_four min_four
set_option linter.unusedVariables false
set_option linter.unusedSimpArgs false
theorem wsucc {i : Nat} (h : i < 4611686018427387904) : wrap64 ((i : Int) + 1) = ((i + 1 : Nat) : Int) := by unfold wrap64; omega
theorem wid {x : Int} (h0 : -9223372036854775808 ≤ x) (h1 : x ≤ 9223372036854775807) : wrap64 x = x := by unfold wrap64; omega
theorem uid {x : Int} (h0 : 0 ≤ x) (h1 : x ≤ 18446744073709551615) : IntKind.u64.wrap x = x := IntWalk.u64_in x ⟨h0, h1⟩
theorem _root_.Go.Proofs.YtcgejabkjljeeaaW.PrintWords.Ev.pos {α : Type} {c : Prop} [Decidable c] {a b : Nat → Option α} {r : α} (hc : c) (h : Ev a r) : Ev (fun k => if c then a k else b k) r := Ev.congr (fun _ => if_pos hc) h
theorem _root_.Go.Proofs.YtcgejabkjljeeaaW.PrintWords.Ev.neg {α : Type} {c : Prop} [Decidable c] {a b : Nat → Option α} {r : α} (hc : ¬ c) (h : Ev b r) : Ev (fun k => if c then a k else b k) r := Ev.congr (fun _ => if_neg hc) h
theorem _root_.Go.Proofs.YtcgejabkjljeeaaW.PrintWords.Ev.bindS {α β : Type} {x : Option α} {a : α} {f : Nat → α → Option β} {r : β} (hx : x = some a) (h : Ev (fun k => f k a) r) : Ev (fun k => x.bind (f k)) r := Ev.congr (fun k => by rw [hx]; rfl) h
theorem _root_.Go.Proofs.YtcgejabkjljeeaaW.PrintWords.Ev.eqr {α : Type} {g : Nat → Option α} {r r' : α} (h : Ev g r) (e : r = r') : Ev g r' := e ▸ h
theorem downTo {P : Nat → Prop} (n : Nat) (hn : P n) (hs : ∀ i, i < n → P (i + 1) → P i) : ∀ i, i ≤ n → P i := by
 intro i hi
 obtain ⟨d, rfl⟩ := Nat.exists_eq_add_of_le hi
 clear hi
 induction d generalizing i with
 | zero => exact hn
 | succ d ih => exact hs i (by omega) (ih (i := i + 1) (by rwa [show i + 1 + d = i + (d + 1) from by omega]) (by rwa [show i + 1 + d = i + (d + 1) from by omega]))
theorem getD_rd (xs : List Int) (i : Nat) : rd xs (i : Int) = xs.getD i 0 := by unfold rd; rw [Int.toNat_natCast]
end Go.Proofs.Ytcgejabkjljeeaa.P
end
