/- Proved: the law FnExactCrash of the given program returns true for every input of its Go types and leaves each argument as it was; no condition. (Part 5 of 12.) -/
import Derived.Test.YtidjdkodgddfcaaProg
import Derived.Below
import Derived.Deep.Draws
import Derived.Deep.AppendLies
import Derived.Maps.AppendAt
import Derived.OwnWalk
import Derived.Laws.BytesArg
import Derived.Laws.MakeOwn
import Derived.Laws.OwnMore
import Derived.Deep.OwnRows
import Derived.Tactics
import Derived.Lib.ConvBytes
import Derived.Laws.Slices
import Derived.WalkKit
import Derived.KernelRfl
import Derived.RowKit3
import Derived.Deep.LoopGhost
import Derived.Deep.QuietTactic
import Derived.BigQuiet
import Derived.WideLaws
import Derived.Deep.DeepCutAuto
import Derived.Deep.CutBlock
import Derived.Deep.RegionHeld3
import Derived.Laws.Rows
import Derived.Lib.AppendStr
import Derived.ArgAppend
import Derived.Laws.IdiomCopy
import Derived.OrdersHeld
import Derived.Laws.BitsLemmas
import Derived.RowKit
import Derived.Test.YtidjdkodgddfcaaCFnExactCrash0
import Derived.Test.YtidjdkodgddfcaaCFnExactCrash1
import Derived.Test.YtidjdkodgddfcaaCFnExactCrash2
import Derived.Test.YtidjdkodgddfcaaCFnExactCrash3
section
namespace Go.Proofs.Ytidjdkodgddfcaa.P
open Go.RowKit Go.Proofs.YtidjdkodgddfcaaW.PrintWords Go.Proofs.YtidjdkodgddfcaaW.PrintLast Go.Proofs.YtidjdkodgddfcaaW.PrintMore
attribute [local go_sem] str_gtr str_leq str_geq qb1 qz max_two min_two qv qu qa1 qy
set_option linter.unusedVariables false
set_option linter.unusedSimpArgs false
theorem sq1.{u} : type_of% @List.setIfInBounds_toArray.{u} := @List.setIfInBounds_toArray.{u}
theorem sq2.{u} : type_of% @List.set_cons_zero.{u} := @List.set_cons_zero.{u}
theorem sq3.{u} : type_of% @List.set_cons_succ.{u} := @List.set_cons_succ.{u}
@[reducible] def bq0 : Array Bool := #[false, false, false, false, false, false, false, false, false, false, false]
@[reducible] def bq1 : Array Bool := #[false, false, false, false, false, false, false, false, false, false]
@[reducible] def bq2 : Array Bool := #[false, false, false, false, false, false, false, false]
@[reducible] def bq3 : Array Bool := #[true, false, false, false, false, false, false, false, false, false, false]
@[reducible] def bq4 : Array Bool := #[true, false, false, false, false, false, false, false, false, false]
@[reducible] def bq5 : Array Bool := #[true, false, false, false, false, false, false, false]
@[reducible] def bq6 : Array Bool := #[true, true, false, false, false, false, false, false, false, false, false]
@[reducible] def bq7 : Array Bool := #[true, true, false, false, false, false, false, false, false, false]
@[reducible] def bq8 : Array Bool := #[true, true, false, false, false, false, false, false]
@[reducible] def bq9 : Array Bool := #[true, true, true, false, false, false, false, false, false, false, false]
@[reducible] def bq10 : Array Bool := #[true, true, true, false, false, false, false, false, false, false]
@[reducible] def bq11 : Array Bool := #[true, true, true, false, false, false, false, false]
@[reducible] def bq12 : Array Bool := #[true, true, true, false, true, false, false, false, false, false]
@[reducible] def bq13 : Array Bool := #[true, true, true, false, true, true, false, false, false, false]
@[reducible] def bq14 : Array Bool := #[true, true, true, false, true, true, true, false, false, false]
@[reducible] def bq15 : Array Bool := #[true, true, true, true, false, false, false, false, false, false, false]
@[reducible] def bq16 : Array Bool := #[true, true, true, true, false, false, false, false]
@[reducible] def bq17 : Array Bool := #[true, true, true, true, false, true, false, false, false, false, false]
@[reducible] def bq18 : Array Bool := #[true, true, true, true, false, true, false, false]
@[reducible] def bq19 : Array Bool := #[true, true, true, true, true, true, false, false, false, false, false]
@[reducible] def bq20 : Array Bool := #[true, true, true, true, true, true, false, false]
@[reducible] def bq21 : Array Bool := #[true, true, true, true, true, true, true, false, false, false, false]
@[reducible] def bq22 : Array Bool := #[true, true, true, true, true, true, true, false, false, false]
@[reducible] def bq23 : Array Bool := #[true, true, true, true, true, true, true, false]
@[reducible] def bq24 : Array Bool := #[true, true, true, true, true, true, true, true, false, false, false]
@[reducible] def bq25 : Array Bool := #[true, true, true, true, true, true, true, true, false, false]
@[reducible] def bq26 : Array Bool := #[true, true, true, true, true, true, true, true, true, false, false]
@[reducible] def bq27 : Array Bool := #[true, true, true, true, true, true, true, true, true, false]
@[reducible] def bq28 : Array Bool := #[true, true, true, true, true, true, true, true, true, true, false]
@[reducible] def bq29 : Array Bool := #[true, true, true, true, true, true, true, true, true, true, true]
@[reducible] def bq30 : Array Bool := #[true, true, true, true, true, true, true, true, true, true]
@[reducible] def bq31 : Array Bool := #[true, true, true, true, true, true, true, true]
def errW : Option Int → Value
 | none => .nilIface
 | some c => .iface 0 (.int .i64 c)
theorem qn : errW none = .nilIface := rfl
theorem qm (c : Int) : errW (some c) = .iface 0 (.int .i64 c) := rfl
theorem info2 : (Try.prog.info? 2).map (fun i => (i.zero, i.size, i.bytes)) = some (some (.int .i64 0), 1, 8) := by kernel_rfl
theorem info157 : (Try.prog.info? 157).map (fun i => (i.zero, i.size, i.bytes)) = some (some (.agg #[(.int .i64 0), (.string ⟨#[]⟩), (.string ⟨#[]⟩), (.string ⟨#[]⟩)]), 4, 56) := by kernel_rfl
theorem info170 : (Try.prog.info? 170).map (fun i => (i.zero, i.size, i.bytes)) = some (some (.agg #[(.string ⟨#[]⟩), (.string ⟨#[]⟩)]), 2, 32) := by kernel_rfl
structure S35 where
 f0 : ByteArray
 f1 : Int
 f2 : Int
def z35 : S35 := ⟨(⟨#[]⟩ : ByteArray), (0 : Int), (0 : Int)⟩
def k35 : Kd S35 := Kd.iso (Kd.pair Kd.string (Kd.pair (Kd.int .i64) (Kd.int .i64))) (fun x : S35 => (x.f0, x.f1, x.f2))
theorem k35_open {w : World} {x : S35} {cs : List Value} (h : k35.K w x cs) : cs = [.string x.f0, .int .i64 x.f1, .int .i64 x.f2] := by
 obtain ⟨_, _, rfl, rfl, ⟨_, _, rfl, rfl, rfl⟩⟩ := h
 exact rfl
structure S64 where
 f0 : S35
 f1 : ByteArray
def z64 : S64 := ⟨z35, (⟨#[]⟩ : ByteArray)⟩
def k64 : Kd S64 := Kd.iso (Kd.pair k35 Kd.string) (fun x : S64 => (x.f0, x.f1))
theorem k64_open {w : World} {x : S64} {cs : List Value} (h : k64.K w x cs) : cs = [.string x.f0.f0, .int .i64 x.f0.f1, .int .i64 x.f0.f2, .string x.f1] := by
 obtain ⟨_, _, rfl, s0, rfl⟩ := h
 obtain rfl := k35_open s0
 exact rfl
def rd_T64 (xs : List S64) (i : Int) : S64 := xs.getD i.toNat z64
theorem at_T64 {w : World} {A : Option Addr} {n : Nat} {xs : List S64} (h : Kd.C k64 w A n xs) (i : Int) (h0 : 0 ≤ i) (h1 : i < n) : ∃ ad , A = some ad ∧ w.cell? (ad.add (i.toNat * 4)) = some (.string (rd_T64 xs i).f0.f0) ∧ w.cell? ⟨(ad.add (i.toNat * 4)).block, (ad.add (i.toNat * 4)).off + 1, none⟩ = some (.int .i64 (rd_T64 xs i).f0.f1) ∧ w.cell? ⟨(ad.add (i.toNat * 4)).block, (ad.add (i.toNat * 4)).off + 2, none⟩ = some (.int .i64 (rd_T64 xs i).f0.f2) ∧ w.cell? ⟨(ad.add (i.toNat * 4)).block, (ad.add (i.toNat * 4)).off + 3, none⟩ = some (.string (rd_T64 xs i).f1) := by
 obtain ⟨ad, c, e, _, hK, hc0⟩ := Kd.C_get h z64 i h0 h1
 have hc : ∀ j u, c[j]? = some u → w.cell? (ad.add (i.toNat * 4 + j)) = some u := hc0
 obtain rfl := k64_open hK
 exact ⟨ad, e, hc 0 _ rfl, by rw [← add_field _ _ 1 (by omega)]; exact hc 1 _ rfl, by rw [← add_field _ _ 2 (by omega)]; exact hc 2 _ rfl, by rw [← add_field _ _ 3 (by omega)]; exact hc 3 _ rfl⟩
structure S193 where
 f0 : ByteArray
 f1 : ByteArray
def z193 : S193 := ⟨(⟨#[]⟩ : ByteArray), (⟨#[]⟩ : ByteArray)⟩
def k193 : Kd S193 := Kd.iso (Kd.pair Kd.string Kd.string) (fun x : S193 => (x.f0, x.f1))
theorem k193_open {w : World} {x : S193} {cs : List Value} (h : k193.K w x cs) : cs = [.string x.f0, .string x.f1] := by
 obtain ⟨_, _, rfl, rfl, rfl⟩ := h
 exact rfl
def rd_T193 (xs : List S193) (i : Int) : S193 := xs.getD i.toNat z193
theorem at_T193 {w : World} {A : Option Addr} {n : Nat} {xs : List S193} (h : Kd.C k193 w A n xs) (i : Int) (h0 : 0 ≤ i) (h1 : i < n) : ∃ ad , A = some ad ∧ w.cell? (ad.add (i.toNat * 2)) = some (.string (rd_T193 xs i).f0) ∧ w.cell? ⟨(ad.add (i.toNat * 2)).block, (ad.add (i.toNat * 2)).off + 1, none⟩ = some (.string (rd_T193 xs i).f1) := by
 obtain ⟨ad, c, e, _, hK, hc0⟩ := Kd.C_get h z193 i h0 h1
 have hc : ∀ j u, c[j]? = some u → w.cell? (ad.add (i.toNat * 2 + j)) = some u := hc0
 obtain rfl := k193_open hK
 exact ⟨ad, e, hc 0 _ rfl, by rw [← add_field _ _ 1 (by omega)]; exact hc 1 _ rfl⟩
structure S195 where
 f0 : Int
 f1 : ByteArray
 f2 : ByteArray
 f3 : ByteArray
def z195 : S195 := ⟨(0 : Int), (⟨#[]⟩ : ByteArray), (⟨#[]⟩ : ByteArray), (⟨#[]⟩ : ByteArray)⟩
def k195 : Kd S195 := Kd.iso (Kd.pair (Kd.int .i64) (Kd.pair Kd.string (Kd.pair Kd.string Kd.string))) (fun x : S195 => (x.f0, x.f1, x.f2, x.f3))
theorem k195_open {w : World} {x : S195} {cs : List Value} (h : k195.K w x cs) : cs = [.int .i64 x.f0, .string x.f1, .string x.f2, .string x.f3] := by
 obtain ⟨_, _, rfl, rfl, ⟨_, _, rfl, rfl, ⟨_, _, rfl, rfl, rfl⟩⟩⟩ := h
 exact rfl
def rd_T195 (xs : List S195) (i : Int) : S195 := xs.getD i.toNat z195
theorem at_T195 {w : World} {A : Option Addr} {n : Nat} {xs : List S195} (h : Kd.C k195 w A n xs) (i : Int) (h0 : 0 ≤ i) (h1 : i < n) : ∃ ad , A = some ad ∧ w.cell? (ad.add (i.toNat * 4)) = some (.int .i64 (rd_T195 xs i).f0) ∧ w.cell? ⟨(ad.add (i.toNat * 4)).block, (ad.add (i.toNat * 4)).off + 1, none⟩ = some (.string (rd_T195 xs i).f1) ∧ w.cell? ⟨(ad.add (i.toNat * 4)).block, (ad.add (i.toNat * 4)).off + 2, none⟩ = some (.string (rd_T195 xs i).f2) ∧ w.cell? ⟨(ad.add (i.toNat * 4)).block, (ad.add (i.toNat * 4)).off + 3, none⟩ = some (.string (rd_T195 xs i).f3) := by
 obtain ⟨ad, c, e, _, hK, hc0⟩ := Kd.C_get h z195 i h0 h1
 have hc : ∀ j u, c[j]? = some u → w.cell? (ad.add (i.toNat * 4 + j)) = some u := hc0
 obtain rfl := k195_open hK
 exact ⟨ad, e, hc 0 _ rfl, by rw [← add_field _ _ 1 (by omega)]; exact hc 1 _ rfl, by rw [← add_field _ _ 2 (by omega)]; exact hc 2 _ rfl, by rw [← add_field _ _ 3 (by omega)]; exact hc 3 _ rfl⟩
structure S170 where
 f0 : ByteArray
 f1 : ByteArray
def z170 : S170 := ⟨(⟨#[]⟩ : ByteArray), (⟨#[]⟩ : ByteArray)⟩
def k170 : Kd S170 := Kd.iso (Kd.pair Kd.string Kd.string) (fun x : S170 => (x.f0, x.f1))
theorem k170_heap : Kd.Heap k170 := Kd.heap_iso _ (Kd.heap_pair Kd.heap_string Kd.heap_string)
theorem k170_open {w : World} {x : S170} {cs : List Value} (h : k170.K w x cs) : cs = [.string x.f0, .string x.f1] := by
 obtain ⟨_, _, rfl, rfl, rfl⟩ := h
 exact rfl
theorem k170_openM {w : World} {base : Nat} {ok : Nat → Prop} {x : S170} {cs : List Value} (h : k170.M w base ok x cs) : cs = [.string x.f0, .string x.f1] := by
 obtain ⟨_, _, rfl, rfl, rfl⟩ := h
 exact rfl
theorem k170_mkM (w : World) (base : Nat) (ok : Nat → Prop) (x : S170)  : k170.M w base ok x [.string x.f0, .string x.f1] := ⟨[.string x.f0], [.string x.f1], rfl, rfl, rfl⟩
def qj (xs : List S170) (i : Int) : S170 := xs.getD i.toNat z170
theorem at_T170 {w : World} {A : Option Addr} {n : Nat} {xs : List S170} (h : Kd.C k170 w A n xs) (i : Int) (h0 : 0 ≤ i) (h1 : i < n) : ∃ ad , A = some ad ∧ w.cell? (ad.add (i.toNat * 2)) = some (.string (qj xs i).f0) ∧ w.cell? ⟨(ad.add (i.toNat * 2)).block, (ad.add (i.toNat * 2)).off + 1, none⟩ = some (.string (qj xs i).f1) := by
 obtain ⟨ad, c, e, _, hK, hc0⟩ := Kd.C_get h z170 i h0 h1
 have hc : ∀ j u, c[j]? = some u → w.cell? (ad.add (i.toNat * 2 + j)) = some u := hc0
 obtain rfl := k170_open hK
 exact ⟨ad, e, hc 0 _ rfl, by rw [← add_field _ _ 1 (by omega)]; exact hc 1 _ rfl⟩
structure S157 where
 f0 : Int
 f1 : ByteArray
 f2 : ByteArray
 f3 : ByteArray
def z157 : S157 := ⟨(0 : Int), (⟨#[]⟩ : ByteArray), (⟨#[]⟩ : ByteArray), (⟨#[]⟩ : ByteArray)⟩
def k157 : Kd S157 := Kd.iso (Kd.pair (Kd.int .i64) (Kd.pair Kd.string (Kd.pair Kd.string Kd.string))) (fun x : S157 => (x.f0, x.f1, x.f2, x.f3))
theorem k157_open {w : World} {x : S157} {cs : List Value} (h : k157.K w x cs) : cs = [.int .i64 x.f0, .string x.f1, .string x.f2, .string x.f3] := by
 obtain ⟨_, _, rfl, rfl, ⟨_, _, rfl, rfl, ⟨_, _, rfl, rfl, rfl⟩⟩⟩ := h
 exact rfl
theorem k157_openM {w : World} {base : Nat} {ok : Nat → Prop} {x : S157} {cs : List Value} (h : k157.M w base ok x cs) : cs = [.int .i64 x.f0, .string x.f1, .string x.f2, .string x.f3] := by
 obtain ⟨_, _, rfl, rfl, ⟨_, _, rfl, rfl, ⟨_, _, rfl, rfl, rfl⟩⟩⟩ := h
 exact rfl
theorem k157_mkM (w : World) (base : Nat) (ok : Nat → Prop) (x : S157)  : k157.M w base ok x [.int .i64 x.f0, .string x.f1, .string x.f2, .string x.f3] := ⟨[.int .i64 x.f0], [.string x.f1, .string x.f2, .string x.f3], rfl, rfl, ⟨[.string x.f1], [.string x.f2, .string x.f3], rfl, rfl, ⟨[.string x.f2], [.string x.f3], rfl, rfl, rfl⟩⟩⟩
def qi (xs : List S157) (i : Int) : S157 := xs.getD i.toNat z157
theorem at_T157 {w : World} {A : Option Addr} {n : Nat} {xs : List S157} (h : Kd.C k157 w A n xs) (i : Int) (h0 : 0 ≤ i) (h1 : i < n) : ∃ ad , A = some ad ∧ w.cell? (ad.add (i.toNat * 4)) = some (.int .i64 (qi xs i).f0) ∧ w.cell? ⟨(ad.add (i.toNat * 4)).block, (ad.add (i.toNat * 4)).off + 1, none⟩ = some (.string (qi xs i).f1) ∧ w.cell? ⟨(ad.add (i.toNat * 4)).block, (ad.add (i.toNat * 4)).off + 2, none⟩ = some (.string (qi xs i).f2) ∧ w.cell? ⟨(ad.add (i.toNat * 4)).block, (ad.add (i.toNat * 4)).off + 3, none⟩ = some (.string (qi xs i).f3) := by
 obtain ⟨ad, c, e, _, hK, hc0⟩ := Kd.C_get h z157 i h0 h1
 have hc : ∀ j u, c[j]? = some u → w.cell? (ad.add (i.toNat * 4 + j)) = some u := hc0
 obtain rfl := k157_open hK
 exact ⟨ad, e, hc 0 _ rfl, by rw [← add_field _ _ 1 (by omega)]; exact hc 1 _ rfl, by rw [← add_field _ _ 2 (by omega)]; exact hc 2 _ rfl, by rw [← add_field _ _ 3 (by omega)]; exact hc 3 _ rfl⟩
def spec_l6Name.f (a0 : ByteArray) : Option (Bool) := if (a0.size : Int) ≥ 1 then (some (decide ((a0.size : Int) ≤ 100))) else (some false)
set_option maxHeartbeats 8000000 in
set_option maxRecDepth 100000 in
theorem spec_l6Name.calls (a0 : ByteArray) (r : Bool) (w : World) (h : spec_l6Name.f a0 = some r) :
  Calls Try.prog 176 #[.string a0] w fun e w' => e = .returned (.bool r) ∧ Drawn0 w w' := by
 have H : (if (a0.size : Int) ≥ 1 then (some (decide ((a0.size : Int) ≤ 100))) else (some false)) = some r := h
 clear h
 by_cases c2 : (a0.size : Int) ≥ 1
 ·rw [if_pos c2] at H
  have c2b0 : decide (1 ≤ (a0.size : Int)) = true := decide_eq_true c2
  have c2b1 : decide (1 ≤ a0.size) = true := decide_eq_true (by omega)
  clear c2
  obtain rfl := Option.some.inj H
  go_enter Try.func176, Try.ntmps176
  go_wp2
  go_ret
  exact ⟨by first | rfl | (simp; done) | (simp [*]; done), by repeat (first | exact Drawn0.refl _ | apply Drawn0.step)⟩
 ·rw [if_neg c2] at H
  have c2b0 : decide (1 ≤ (a0.size : Int)) = false := decide_eq_false c2
  have c2b1 : decide (1 ≤ a0.size) = false := decide_eq_false (by omega)
  clear c2
  obtain rfl := Option.some.inj H
  go_enter Try.func176, Try.ntmps176
  go_wp2
  go_ret
  exact ⟨by first | rfl | (simp; done) | (simp [*]; done), by repeat (first | exact Drawn0.refl _ | apply Drawn0.step)⟩
end Go.Proofs.Ytidjdkodgddfcaa.P
end

section
namespace Go.Proofs.Ytidjdkodgddfcaa.P
open Go.RowKit Go.Proofs.YtidjdkodgddfcaaW.PrintWords Go.Proofs.YtidjdkodgddfcaaW.PrintLast Go.Proofs.YtidjdkodgddfcaaW.PrintMore
attribute [local go_sem] str_gtr str_leq str_geq qb1 qz max_two min_two qv qu qa1 qy
set_option linter.unusedVariables false
set_option linter.unusedSimpArgs false
theorem wsucc {i : Nat} (h : i < 4611686018427387904) : wrap64 ((i : Int) + 1) = ((i + 1 : Nat) : Int) := by unfold wrap64; omega
theorem wid {x : Int} (h0 : -9223372036854775808 ≤ x) (h1 : x ≤ 9223372036854775807) : wrap64 x = x := by unfold wrap64; omega
theorem _root_.Go.Proofs.YtidjdkodgddfcaaW.PrintWords.Ev.pos {α : Type} {c : Prop} [Decidable c] {a b : Nat → Option α} {r : α} (hc : c) (h : Ev a r) : Ev (fun k => if c then a k else b k) r := Ev.congr (fun _ => if_pos hc) h
theorem _root_.Go.Proofs.YtidjdkodgddfcaaW.PrintWords.Ev.neg {α : Type} {c : Prop} [Decidable c] {a b : Nat → Option α} {r : α} (hc : ¬ c) (h : Ev b r) : Ev (fun k => if c then a k else b k) r := Ev.congr (fun _ => if_neg hc) h
theorem _root_.Go.Proofs.YtidjdkodgddfcaaW.PrintWords.Ev.bindS {α β : Type} {x : Option α} {a : α} {f : Nat → α → Option β} {r : β} (hx : x = some a) (h : Ev (fun k => f k a) r) : Ev (fun k => x.bind (f k)) r := Ev.congr (fun k => by rw [hx]; rfl) h
theorem _root_.Go.Proofs.YtidjdkodgddfcaaW.PrintWords.Ev.eqr {α : Type} {g : Nat → Option α} {r r' : α} (h : Ev g r) (e : r = r') : Ev g r' := e ▸ h
theorem set_take {α : Type} (ys : List α) (i : Nat) (v : α) (h : i < ys.length) : (ys.set i v).take (i + 1) = ys.take i ++ [v] := by
 rw [List.take_succ_eq_append_getElem (by simpa using h), List.take_set, List.getElem_set_self]
 rw [List.set_eq_of_length_le (by simp; omega)]
theorem copyLoop {α β : Type} (l : Nat → List α → List β → Int → Option (List β)) (h : α → β) (da : α) (B : Nat) (hB : B ≤ 4611686018427387904)
  (hs : ∀ (xs : List α) (ys : List β) (i : Nat) (r : List β), xs.length < B → i < xs.length → ys.length = xs.length → Ev (fun k => l k xs (ys.set i (h (xs.getD i da))) ((i + 1 : Nat) : Int)) r → Ev (fun k => l k xs ys (i : Int)) r)
  (he : ∀ (xs : List α) (ys : List β), Ev (fun k => l k xs ys (xs.length : Int)) ys) (xs : List α) (hx : xs.length < B) (ys : List β) (hy : ys.length = xs.length) : Ev (fun k => l k xs ys 0) (xs.map h) := by
 have key : ∀ (d i : Nat) (ys : List β), ys.length = xs.length → i + d = xs.length → Ev (fun k => l k xs ys (i : Int)) (ys.take i ++ (xs.drop i).map h) := by
  intro d
  induction d with
  | zero =>
   intro i ys hy hi
   have : i = xs.length := by omega
   subst this
   refine (he xs ys).eqr ?_
   rw [List.drop_length, List.map_nil, List.append_nil, List.take_of_length_le (by omega)]
  | succ d ih =>
   intro i ys hy hi
   refine hs xs ys i _ hx (by omega) hy ((ih (i + 1) _ (by simpa using hy) (by omega)).eqr ?_)
   rw [set_take _ _ _ (by omega), List.append_assoc]
   congr 1
   rw [List.drop_eq_getElem_cons (show i < xs.length by omega), List.map_cons, List.getD_eq_getElem?_getD, List.getElem?_eq_getElem (by omega)]
   rfl
 have := key xs.length 0 ys hy (by omega)
 simpa using this
theorem downTo {P : Nat → Prop} (n : Nat) (hn : P n) (hs : ∀ i, i < n → P (i + 1) → P i) : ∀ i, i ≤ n → P i := by
 intro i hi
 obtain ⟨d, rfl⟩ := Nat.exists_eq_add_of_le hi
 clear hi
 induction d generalizing i with
 | zero => exact hn
 | succ d ih => exact hs i (by omega) (ih (i := i + 1) (by rwa [show i + 1 + d = i + (d + 1) from by omega]) (by rwa [show i + 1 + d = i + (d + 1) from by omega]))
def impl_isFile.f (a0 : ByteArray) : Option (Bool) := if (a0.size : Int) ≥ 1 then (some (decide ((a0.size : Int) ≤ 100))) else (some false)
set_option maxHeartbeats 8000000 in
set_option maxRecDepth 100000 in
theorem impl_isFile.calls (a0 : ByteArray) (r : Bool) (w : World) (h : impl_isFile.f a0 = some r) :
  Calls Try.prog 182 #[.string a0] w fun e w' => e = .returned (.bool r) ∧ Drawn0 w w' := by
 have H : (if (a0.size : Int) ≥ 1 then (some (decide ((a0.size : Int) ≤ 100))) else (some false)) = some r := h
 clear h
 by_cases c2 : (a0.size : Int) ≥ 1
 ·rw [if_pos c2] at H
  have c2b0 : decide (1 ≤ (a0.size : Int)) = true := decide_eq_true c2
  have c2b1 : decide (1 ≤ a0.size) = true := decide_eq_true (by omega)
  clear c2
  obtain rfl := Option.some.inj H
  go_enter Try.func182, Try.ntmps182
  go_wp2
  go_ret
  exact ⟨by first | rfl | (simp; done) | (simp [*]; done), by repeat (first | exact Drawn0.refl _ | apply Drawn0.step)⟩
 ·rw [if_neg c2] at H
  have c2b0 : decide (1 ≤ (a0.size : Int)) = false := decide_eq_false c2
  have c2b1 : decide (1 ≤ a0.size) = false := decide_eq_false (by omega)
  clear c2
  obtain rfl := Option.some.inj H
  go_enter Try.func182, Try.ntmps182
  go_wp2
  go_ret
  exact ⟨by first | rfl | (simp; done) | (simp [*]; done), by repeat (first | exact Drawn0.refl _ | apply Drawn0.step)⟩
def impl_within.f (a0 : Int) (a1 : Int) (a2 : Int) : Option (Bool) := if a1 ≤ a0 then (some (decide (a0 ≤ a2))) else (some false)
set_option maxHeartbeats 8000000 in
set_option maxRecDepth 100000 in
theorem impl_within.calls (a0 : Int) (a1 : Int) (a2 : Int) (r : Bool) (w : World) (h : impl_within.f a0 a1 a2 = some r) :
  Calls Try.prog 76 #[.int .i64 a0, .int .i64 a1, .int .i64 a2] w fun e w' => e = .returned (.bool r) ∧ Drawn0 w w' := by
 have H : (if a1 ≤ a0 then (some (decide (a0 ≤ a2))) else (some false)) = some r := h
 clear h
 by_cases c4 : a1 ≤ a0
 ·rw [if_pos c4] at H
  have c4b0 : decide (a1 ≤ a0) = true := decide_eq_true c4
  clear c4
  obtain rfl := Option.some.inj H
  go_enter Try.func76, Try.ntmps76
  go_wp2
  go_ret
  exact ⟨by first | rfl | (simp; done) | (simp [*]; done), by repeat (first | exact Drawn0.refl _ | apply Drawn0.step)⟩
 ·rw [if_neg c4] at H
  have c4b0 : decide (a1 ≤ a0) = false := decide_eq_false c4
  clear c4
  obtain rfl := Option.some.inj H
  go_enter Try.func76, Try.ntmps76
  go_wp2
  go_ret
  exact ⟨by first | rfl | (simp; done) | (simp [*]; done), by repeat (first | exact Drawn0.refl _ | apply Drawn0.step)⟩
end Go.Proofs.Ytidjdkodgddfcaa.P
end

section
namespace Go.Proofs.Ytidjdkodgddfcaa.P
open Go.RowKit Go.Proofs.YtidjdkodgddfcaaW.PrintWords Go.Proofs.YtidjdkodgddfcaaW.PrintLast Go.Proofs.YtidjdkodgddfcaaW.PrintMore
attribute [local go_sem] str_gtr str_leq str_geq qb1 qz max_two min_two qv qu qa1 qy
set_option linter.unusedVariables false
set_option linter.unusedSimpArgs false
def okN (s : ByteArray) : Bool := decide (1 ≤ s.size) && decide (s.size ≤ 100)
def formV (a : Int) (n t d : ByteArray) : Bool := (decide (1 ≤ a) && decide (a ≤ 3)) && okN n && (okN t == decide (a = 2)) && (decide (a = 2) || (t.toList == ([] : List UInt8))) && (decide (a = 1) || (d.toList == ([] : List UInt8)))
theorem fWithin_ev (a : Int) : impl_within.f a 1 3 = some (decide (1 ≤ a) && decide (a ≤ 3)) := by
 unfold impl_within.f
 by_cases h : 1 ≤ a
 ·rw [if_pos h, decide_eq_true h, Bool.true_and]
 ·rw [if_neg h, decide_eq_false h, Bool.false_and]
theorem fFile_ev (s : ByteArray) : impl_isFile.f s = some (okN s) := by
 unfold impl_isFile.f okN
 by_cases h : 1 ≤ s.size
 ·rw [if_pos (by omega), decide_eq_true h, Bool.true_and]
  exact congrArg some (decide_eq_decide.2 (by omega))
 ·rw [if_neg (by omega), decide_eq_false h, Bool.false_and]
theorem qSkip {P : Program} {ops : Array Oper} {C : World → Prop} {Q : Act → Prop} {a : Act} {o : Oper} {rest : List Oper} (hw : Region.wanted o (yielded ops a.tmps) = false) (h : ∀ K : Act → Prop, (∀ a, wpQuiet P ops C Q rest a → K a) → K (a.put o.dst undef)) : wpQuiet P ops C Q (o :: rest) a := by
 unfold wpQuiet
 rw [hw]
 exact h _ (fun _ h => h)
theorem qWant {P : Program} {ops : Array Oper} {C : World → Prop} {Q : Act → Prop} {a : Act} {o : Oper} {rest : List Oper} (hw : Region.wanted o (yielded ops a.tmps) = true) (h : ∀ K : Act → Prop, (∀ a, wpQuiet P ops C Q rest a → K a) → o.quiet P a C K) : wpQuiet P ops C Q (o :: rest) a := by
 unfold wpQuiet
 rw [if_pos hw]
 exact h _ (fun _ h => h)
def impl_DOp_formed.f (a0_0 : Int) (a0_1 : ByteArray) (a0_2 : ByteArray) (a0_3 : ByteArray) : Option Bool := some (formV a0_0 a0_1 a0_2 a0_3)
set_option maxHeartbeats 8000000 in
set_option maxRecDepth 100000 in
theorem impl_DOp_formed.calls (a0_0 : Int) (a0_1 : ByteArray) (a0_2 : ByteArray) (a0_3 : ByteArray) (r : Bool) (w : World) (h : impl_DOp_formed.f a0_0 a0_1 a0_2 a0_3 = some r) :
  Calls Try.prog 137 #[.agg #[.int .i64 a0_0, .string a0_1, .string a0_2, .string a0_3]] w fun e w' => e = .returned (.bool r) ∧ Below w.heap.size w w' := by
 obtain rfl := Option.some.inj h
 clear h
 have hu := Try.underlying157
 have hdr : ∀ {W W' : World}, Drawn0 W W' → ∃ m, W' = W.drewN m := fun h => by obtain ⟨m, hm⟩ := h; exact ⟨m, hm⟩
 have h1 := fun (W : World) (n : Nat) => Calls.quiet_of ((impl_within.calls a0_0 1 3 _ (W.drewN n) (fWithin_ev a0_0)).mono fun _ _ h => ⟨h.1, hdr h.2⟩)
 have h2 := fun (W : World) (n : Nat) => Calls.quiet_of ((impl_isFile.calls a0_1 _ (W.drewN n) (fFile_ev a0_1)).mono fun _ _ h => ⟨h.1, hdr h.2⟩)
 have h3 := fun (W : World) (n : Nat) => Calls.quiet_of ((impl_isFile.calls a0_2 _ (W.drewN n) (fFile_ev a0_2)).mono fun _ _ h => ⟨h.1, hdr h.2⟩)
 have HB := Qz.mk ((Below.refl w.heap.size w).alloc (Nat.le_refl _) (.cells #[.int .i64 a0_0, .string a0_1, .string a0_2, .string a0_3] 157))
 unfold formV
 clear hdr
 generalize (decide (1 ≤ a0_0) && decide (a0_0 ≤ 3)) = p1 at h1 ⊢
 generalize okN a0_1 = p2 at h2 ⊢
 generalize okN a0_2 = p3 at h3 ⊢
 generalize hq2 : decide (a0_0 = 2) = q2
 generalize hq1 : decide (a0_0 = 1) = q1
 generalize he2 : (a0_2.toList == ([] : List UInt8)) = e2
 generalize he3 : (a0_3.toList == ([] : List UInt8)) = e3
 have hq2' : (a0_0 == 2) = q2 := by rw [← hq2]; rfl
 have hq1' : (a0_0 == 1) = q1 := by rw [← hq1]; rfl
 have hc : p1 = false ∨ (p1 = true ∧ p2 = false) ∨ (p1 = true ∧ p2 = true ∧ q2 = false ∧ p3 = true) ∨ (p1 = true ∧ p2 = true ∧ q2 = true ∧ p3 = false) ∨ (p1 = true ∧ p2 = true ∧ q2 = false ∧ p3 = false ∧ e2 = false) ∨ (p1 = true ∧ p2 = true ∧ q2 = false ∧ p3 = false ∧ e2 = true ∧ q1 = false) ∨ (p1 = true ∧ p2 = true ∧ q2 = false ∧ p3 = false ∧ e2 = true ∧ q1 = true) ∨ (p1 = true ∧ p2 = true ∧ q2 = true ∧ p3 = true ∧ q1 = false) ∨ (p1 = true ∧ p2 = true ∧ q2 = true ∧ p3 = true ∧ q1 = true) := by
  cases p1 <;> cases p2 <;> cases q2 <;> cases p3 <;> cases e2 <;> cases q1 <;> simp
 rcases hc with rfl | ⟨rfl, rfl⟩ | ⟨rfl, rfl, rfl, rfl⟩ | ⟨rfl, rfl, rfl, rfl⟩ | ⟨rfl, rfl, rfl, rfl, rfl⟩ | ⟨rfl, rfl, rfl, rfl, rfl, rfl⟩ | ⟨rfl, rfl, rfl, rfl, rfl, rfl⟩ | ⟨rfl, rfl, rfl, rfl, rfl⟩ | ⟨rfl, rfl, rfl, rfl, rfl⟩
 ·go_enter Try.func137, Try.ntmps137
  go_wp2
  refine wp_region_quiet_lit (by kernel_rfl) (by kernel_rfl) ?_
  iterate 4 (with_reducible refine qWant ?want_ (fun K hK => ?_); (case want_ => kernel_rfl); go_simp; (first | (with_reducible refine hK _ ?_; clear hK K) | (apply Exists.intro; refine ⟨fun _ => ?_, hK _ ?_⟩; (first | (go_at_call 76; exact h1 _ _) | (go_at_call 182; first | exact h2 _ _ | exact h3 _ _)); clear hK K)))
  iterate 3 (with_reducible refine qSkip ?skip_ (fun K hK => ?_); (case skip_ => kernel_rfl); go_simp; with_reducible refine hK _ ?_; clear hK K)
  iterate 2 (with_reducible refine qWant ?want_ (fun K hK => ?_); (case want_ => kernel_rfl); go_simp; (first | (with_reducible refine hK _ ?_; clear hK K) | (apply Exists.intro; refine ⟨fun _ => ?_, hK _ ?_⟩; (first | (go_at_call 76; exact h1 _ _) | (go_at_call 182; first | exact h2 _ _ | exact h3 _ _)); clear hK K)))
  iterate 7 (with_reducible refine qSkip ?skip_ (fun K hK => ?_); (case skip_ => kernel_rfl); go_simp; with_reducible refine hK _ ?_; clear hK K)
  iterate 2 (with_reducible refine qWant ?want_ (fun K hK => ?_); (case want_ => kernel_rfl); go_simp; (first | (with_reducible refine hK _ ?_; clear hK K) | (apply Exists.intro; refine ⟨fun _ => ?_, hK _ ?_⟩; (first | (go_at_call 76; exact h1 _ _) | (go_at_call 182; first | exact h2 _ _ | exact h3 _ _)); clear hK K)))
  iterate 8 (with_reducible refine qSkip ?skip_ (fun K hK => ?_); (case skip_ => kernel_rfl); go_simp; with_reducible refine hK _ ?_; clear hK K)
  iterate 2 (with_reducible refine qWant ?want_ (fun K hK => ?_); (case want_ => kernel_rfl); go_simp; (first | (with_reducible refine hK _ ?_; clear hK K) | (apply Exists.intro; refine ⟨fun _ => ?_, hK _ ?_⟩; (first | (go_at_call 76; exact h1 _ _) | (go_at_call 182; first | exact h2 _ _ | exact h3 _ _)); clear hK K)))
  iterate 8 (with_reducible refine qSkip ?skip_ (fun K hK => ?_); (case skip_ => kernel_rfl); go_simp; with_reducible refine hK _ ?_; clear hK K)
  iterate 2 (with_reducible refine qWant ?want_ (fun K hK => ?_); (case want_ => kernel_rfl); go_simp; (first | (with_reducible refine hK _ ?_; clear hK K) | (apply Exists.intro; refine ⟨fun _ => ?_, hK _ ?_⟩; (first | (go_at_call 76; exact h1 _ _) | (go_at_call 182; first | exact h2 _ _ | exact h3 _ _)); clear hK K)))
  refine wpQuiet_nil ?_
  intro _ hw_
  obtain ⟨nq, hw_⟩ := hw_
  subst hw_
  go_wp2
  go_ret
  exact ⟨by simp, by (repeat (first | exact HB.out | apply qa))⟩
 ·go_enter Try.func137, Try.ntmps137
  go_wp2
  refine wp_region_quiet_lit (by kernel_rfl) (by kernel_rfl) ?_
  iterate 9 (with_reducible refine qWant ?want_ (fun K hK => ?_); (case want_ => kernel_rfl); go_simp; (first | (with_reducible refine hK _ ?_; clear hK K) | (apply Exists.intro; refine ⟨fun _ => ?_, hK _ ?_⟩; (first | (go_at_call 76; exact h1 _ _) | (go_at_call 182; first | exact h2 _ _ | exact h3 _ _)); clear hK K)))
  iterate 7 (with_reducible refine qSkip ?skip_ (fun K hK => ?_); (case skip_ => kernel_rfl); go_simp; with_reducible refine hK _ ?_; clear hK K)
  iterate 2 (with_reducible refine qWant ?want_ (fun K hK => ?_); (case want_ => kernel_rfl); go_simp; (first | (with_reducible refine hK _ ?_; clear hK K) | (apply Exists.intro; refine ⟨fun _ => ?_, hK _ ?_⟩; (first | (go_at_call 76; exact h1 _ _) | (go_at_call 182; first | exact h2 _ _ | exact h3 _ _)); clear hK K)))
  iterate 8 (with_reducible refine qSkip ?skip_ (fun K hK => ?_); (case skip_ => kernel_rfl); go_simp; with_reducible refine hK _ ?_; clear hK K)
  iterate 2 (with_reducible refine qWant ?want_ (fun K hK => ?_); (case want_ => kernel_rfl); go_simp; (first | (with_reducible refine hK _ ?_; clear hK K) | (apply Exists.intro; refine ⟨fun _ => ?_, hK _ ?_⟩; (first | (go_at_call 76; exact h1 _ _) | (go_at_call 182; first | exact h2 _ _ | exact h3 _ _)); clear hK K)))
  iterate 8 (with_reducible refine qSkip ?skip_ (fun K hK => ?_); (case skip_ => kernel_rfl); go_simp; with_reducible refine hK _ ?_; clear hK K)
  iterate 2 (with_reducible refine qWant ?want_ (fun K hK => ?_); (case want_ => kernel_rfl); go_simp; (first | (with_reducible refine hK _ ?_; clear hK K) | (apply Exists.intro; refine ⟨fun _ => ?_, hK _ ?_⟩; (first | (go_at_call 76; exact h1 _ _) | (go_at_call 182; first | exact h2 _ _ | exact h3 _ _)); clear hK K)))
  refine wpQuiet_nil ?_
  intro _ hw_
  obtain ⟨nq, hw_⟩ := hw_
  subst hw_
  go_wp2
  go_ret
  exact ⟨by simp, by (repeat (first | exact HB.out | apply qa))⟩
 ·go_enter Try.func137, Try.ntmps137
  go_wp2
  refine wp_region_quiet_lit (by kernel_rfl) (by kernel_rfl) ?_
  iterate 18 (with_reducible refine qWant ?want_ (fun K hK => ?_); (case want_ => kernel_rfl); go_simp; (first | (with_reducible refine hK _ ?_; clear hK K) | (apply Exists.intro; refine ⟨fun _ => ?_, hK _ ?_⟩; (first | (go_at_call 76; exact h1 _ _) | (go_at_call 182; first | exact h2 _ _ | exact h3 _ _)); clear hK K)))
  iterate 8 (with_reducible refine qSkip ?skip_ (fun K hK => ?_); (case skip_ => kernel_rfl); go_simp; with_reducible refine hK _ ?_; clear hK K)
  iterate 2 (with_reducible refine qWant ?want_ (fun K hK => ?_); (case want_ => kernel_rfl); go_simp; (first | (with_reducible refine hK _ ?_; clear hK K) | (apply Exists.intro; refine ⟨fun _ => ?_, hK _ ?_⟩; (first | (go_at_call 76; exact h1 _ _) | (go_at_call 182; first | exact h2 _ _ | exact h3 _ _)); clear hK K)))
  iterate 8 (with_reducible refine qSkip ?skip_ (fun K hK => ?_); (case skip_ => kernel_rfl); go_simp; with_reducible refine hK _ ?_; clear hK K)
  iterate 2 (with_reducible refine qWant ?want_ (fun K hK => ?_); (case want_ => kernel_rfl); go_simp; (first | (with_reducible refine hK _ ?_; clear hK K) | (apply Exists.intro; refine ⟨fun _ => ?_, hK _ ?_⟩; (first | (go_at_call 76; exact h1 _ _) | (go_at_call 182; first | exact h2 _ _ | exact h3 _ _)); clear hK K)))
  refine wpQuiet_nil ?_
  intro _ hw_
  obtain ⟨nq, hw_⟩ := hw_
  subst hw_
  go_wp2
  go_ret
  exact ⟨by simp, by (repeat (first | exact HB.out | apply qa))⟩
 ·go_enter Try.func137, Try.ntmps137
  go_wp2
  refine wp_region_quiet_lit (by kernel_rfl) (by kernel_rfl) ?_
  iterate 18 (with_reducible refine qWant ?want_ (fun K hK => ?_); (case want_ => kernel_rfl); go_simp; (first | (with_reducible refine hK _ ?_; clear hK K) | (apply Exists.intro; refine ⟨fun _ => ?_, hK _ ?_⟩; (first | (go_at_call 76; exact h1 _ _) | (go_at_call 182; first | exact h2 _ _ | exact h3 _ _)); clear hK K)))
  iterate 8 (with_reducible refine qSkip ?skip_ (fun K hK => ?_); (case skip_ => kernel_rfl); go_simp; with_reducible refine hK _ ?_; clear hK K)
  iterate 2 (with_reducible refine qWant ?want_ (fun K hK => ?_); (case want_ => kernel_rfl); go_simp; (first | (with_reducible refine hK _ ?_; clear hK K) | (apply Exists.intro; refine ⟨fun _ => ?_, hK _ ?_⟩; (first | (go_at_call 76; exact h1 _ _) | (go_at_call 182; first | exact h2 _ _ | exact h3 _ _)); clear hK K)))
  iterate 8 (with_reducible refine qSkip ?skip_ (fun K hK => ?_); (case skip_ => kernel_rfl); go_simp; with_reducible refine hK _ ?_; clear hK K)
  iterate 2 (with_reducible refine qWant ?want_ (fun K hK => ?_); (case want_ => kernel_rfl); go_simp; (first | (with_reducible refine hK _ ?_; clear hK K) | (apply Exists.intro; refine ⟨fun _ => ?_, hK _ ?_⟩; (first | (go_at_call 76; exact h1 _ _) | (go_at_call 182; first | exact h2 _ _ | exact h3 _ _)); clear hK K)))
  refine wpQuiet_nil ?_
  intro _ hw_
  obtain ⟨nq, hw_⟩ := hw_
  subst hw_
  go_wp2
  go_ret
  exact ⟨by simp, by (repeat (first | exact HB.out | apply qa))⟩
 ·go_enter Try.func137, Try.ntmps137
  go_wp2
  refine wp_region_quiet_lit (by kernel_rfl) (by kernel_rfl) ?_
  iterate 28 (with_reducible refine qWant ?want_ (fun K hK => ?_); (case want_ => kernel_rfl); go_simp; (first | (with_reducible refine hK _ ?_; clear hK K) | (apply Exists.intro; refine ⟨fun _ => ?_, hK _ ?_⟩; (first | (go_at_call 76; exact h1 _ _) | (go_at_call 182; first | exact h2 _ _ | exact h3 _ _)); clear hK K)))
  iterate 8 (with_reducible refine qSkip ?skip_ (fun K hK => ?_); (case skip_ => kernel_rfl); go_simp; with_reducible refine hK _ ?_; clear hK K)
  iterate 2 (with_reducible refine qWant ?want_ (fun K hK => ?_); (case want_ => kernel_rfl); go_simp; (first | (with_reducible refine hK _ ?_; clear hK K) | (apply Exists.intro; refine ⟨fun _ => ?_, hK _ ?_⟩; (first | (go_at_call 76; exact h1 _ _) | (go_at_call 182; first | exact h2 _ _ | exact h3 _ _)); clear hK K)))
  refine wpQuiet_nil ?_
  intro _ hw_
  obtain ⟨nq, hw_⟩ := hw_
  subst hw_
  go_wp2
  go_ret
  exact ⟨by simp, by (repeat (first | exact HB.out | apply qa))⟩
 ·go_enter Try.func137, Try.ntmps137
  go_wp2
  refine wp_region_quiet_lit (by kernel_rfl) (by kernel_rfl) ?_
  iterate 38 (with_reducible refine qWant ?want_ (fun K hK => ?_); (case want_ => kernel_rfl); go_simp; (first | (with_reducible refine hK _ ?_; clear hK K) | (apply Exists.intro; refine ⟨fun _ => ?_, hK _ ?_⟩; (first | (go_at_call 76; exact h1 _ _) | (go_at_call 182; first | exact h2 _ _ | exact h3 _ _)); clear hK K)))
  refine wpQuiet_nil ?_
  intro _ hw_
  obtain ⟨nq, hw_⟩ := hw_
  subst hw_
  go_wp2
  go_ret
  exact ⟨by simp, by (repeat (first | exact HB.out | apply qa))⟩
 ·go_enter Try.func137, Try.ntmps137
  go_wp2
  refine wp_region_quiet_lit (by kernel_rfl) (by kernel_rfl) ?_
  iterate 32 (with_reducible refine qWant ?want_ (fun K hK => ?_); (case want_ => kernel_rfl); go_simp; (first | (with_reducible refine hK _ ?_; clear hK K) | (apply Exists.intro; refine ⟨fun _ => ?_, hK _ ?_⟩; (first | (go_at_call 76; exact h1 _ _) | (go_at_call 182; first | exact h2 _ _ | exact h3 _ _)); clear hK K)))
  iterate 3 (with_reducible refine qSkip ?skip_ (fun K hK => ?_); (case skip_ => kernel_rfl); go_simp; with_reducible refine hK _ ?_; clear hK K)
  iterate 3 (with_reducible refine qWant ?want_ (fun K hK => ?_); (case want_ => kernel_rfl); go_simp; (first | (with_reducible refine hK _ ?_; clear hK K) | (apply Exists.intro; refine ⟨fun _ => ?_, hK _ ?_⟩; (first | (go_at_call 76; exact h1 _ _) | (go_at_call 182; first | exact h2 _ _ | exact h3 _ _)); clear hK K)))
  refine wpQuiet_nil ?_
  intro _ hw_
  obtain ⟨nq, hw_⟩ := hw_
  subst hw_
  go_wp2
  go_ret
  exact ⟨by simp, by (repeat (first | exact HB.out | apply qa))⟩
 ·go_enter Try.func137, Try.ntmps137
  go_wp2
  refine wp_region_quiet_lit (by kernel_rfl) (by kernel_rfl) ?_
  iterate 22 (with_reducible refine qWant ?want_ (fun K hK => ?_); (case want_ => kernel_rfl); go_simp; (first | (with_reducible refine hK _ ?_; clear hK K) | (apply Exists.intro; refine ⟨fun _ => ?_, hK _ ?_⟩; (first | (go_at_call 76; exact h1 _ _) | (go_at_call 182; first | exact h2 _ _ | exact h3 _ _)); clear hK K)))
  iterate 3 (with_reducible refine qSkip ?skip_ (fun K hK => ?_); (case skip_ => kernel_rfl); go_simp; with_reducible refine hK _ ?_; clear hK K)
  iterate 13 (with_reducible refine qWant ?want_ (fun K hK => ?_); (case want_ => kernel_rfl); go_simp; (first | (with_reducible refine hK _ ?_; clear hK K) | (apply Exists.intro; refine ⟨fun _ => ?_, hK _ ?_⟩; (first | (go_at_call 76; exact h1 _ _) | (go_at_call 182; first | exact h2 _ _ | exact h3 _ _)); clear hK K)))
  refine wpQuiet_nil ?_
  intro _ hw_
  obtain ⟨nq, hw_⟩ := hw_
  subst hw_
  go_wp2
  go_ret
  exact ⟨by simp, by (repeat (first | exact HB.out | apply qa))⟩
 ·go_enter Try.func137, Try.ntmps137
  go_wp2
  refine wp_region_quiet_lit (by kernel_rfl) (by kernel_rfl) ?_
  iterate 22 (with_reducible refine qWant ?want_ (fun K hK => ?_); (case want_ => kernel_rfl); go_simp; (first | (with_reducible refine hK _ ?_; clear hK K) | (apply Exists.intro; refine ⟨fun _ => ?_, hK _ ?_⟩; (first | (go_at_call 76; exact h1 _ _) | (go_at_call 182; first | exact h2 _ _ | exact h3 _ _)); clear hK K)))
  iterate 3 (with_reducible refine qSkip ?skip_ (fun K hK => ?_); (case skip_ => kernel_rfl); go_simp; with_reducible refine hK _ ?_; clear hK K)
  iterate 7 (with_reducible refine qWant ?want_ (fun K hK => ?_); (case want_ => kernel_rfl); go_simp; (first | (with_reducible refine hK _ ?_; clear hK K) | (apply Exists.intro; refine ⟨fun _ => ?_, hK _ ?_⟩; (first | (go_at_call 76; exact h1 _ _) | (go_at_call 182; first | exact h2 _ _ | exact h3 _ _)); clear hK K)))
  iterate 3 (with_reducible refine qSkip ?skip_ (fun K hK => ?_); (case skip_ => kernel_rfl); go_simp; with_reducible refine hK _ ?_; clear hK K)
  iterate 3 (with_reducible refine qWant ?want_ (fun K hK => ?_); (case want_ => kernel_rfl); go_simp; (first | (with_reducible refine hK _ ?_; clear hK K) | (apply Exists.intro; refine ⟨fun _ => ?_, hK _ ?_⟩; (first | (go_at_call 76; exact h1 _ _) | (go_at_call 182; first | exact h2 _ _ | exact h3 _ _)); clear hK K)))
  refine wpQuiet_nil ?_
  intro _ hw_
  obtain ⟨nq, hw_⟩ := hw_
  subst hw_
  go_wp2
  go_ret
  exact ⟨by simp, by (repeat (first | exact HB.out | apply qa))⟩
end Go.Proofs.Ytidjdkodgddfcaa.P
end

section
namespace Go.Proofs.Ytidjdkodgddfcaa.P
open Go.RowKit Go.Proofs.YtidjdkodgddfcaaW.PrintWords Go.Proofs.YtidjdkodgddfcaaW.PrintLast Go.Proofs.YtidjdkodgddfcaaW.PrintMore
attribute [local go_sem] str_gtr str_leq str_geq qb1 qz max_two min_two qv qu qa1 qy
set_option linter.unusedVariables false
set_option linter.unusedSimpArgs false
def spec_l6Files.l0 : Nat → List (S170) → Int → Int → Option (Bool)
 | 0, _, _, _ => none
 | k + 1, x0, x3, x4 => if x4 < (x0.length : Int) then (if 0 ≤ x4 then ((spec_l6Name.f ((qj x0 x4).f0)).bind fun t102 => (if t102 = true then (if x4 > 0 then (if 0 ≤ (wrap64 (x4 - 1)) then (if (wrap64 (x4 - 1)) < (x0.length : Int) then (if ((Op.bytesLess (((qj x0 (wrap64 (x4 - 1))).f0).toList) (((qj x0 x4).f0).toList)) = true) then (spec_l6Files.l0 k x0 (wrap64 (x3 + (((qj x0 x4).f1).size : Int))) (wrap64 (x4 + 1))) else (some false)) else (none)) else (none)) else (spec_l6Files.l0 k x0 (wrap64 (x3 + (((qj x0 x4).f1).size : Int))) (wrap64 (x4 + 1)))) else (some false))) else (none)) else (some (decide (x3 ≤ 200000)))
def spec_l6Files.f (k : Nat) (l0 : List (S170)) : Option (Bool) := if (l0.length : Int) > 60 then (some false) else (spec_l6Files.l0 k l0 0 0)
set_option maxHeartbeats 8000000 in
set_option maxRecDepth 100000 in
theorem spec_l6Files.calls (k : Nat) (A0 : Option Addr) (c0 : Nat) (l0 : List (S170)) (r : Bool) (w : World) (hr0 : Kd.C k170 w A0 l0.length l0) (hc0 : l0.length ≤ c0) (h : spec_l6Files.f k l0 = some r) :
  Calls Try.prog 124 #[.slice A0 l0.length c0] w fun e w' => e = .returned (.bool r) ∧ Below w.heap.size w w' := by
 have HR := Qz.mk hr0
 have hlm := Kd.C_max hr0
 clear hr0 hc0
 unfold spec_l6Files.f at h
 by_cases c0b : (l0.length : Int) > 60
 ·have c0d : decide ((60 : Int) < (l0.length : Int)) = true := decide_eq_true c0b
  rw [if_pos c0b] at h
  obtain rfl := Option.some.inj h
  go_enter Try.func124, Try.ntmps124
  go_wp2
  go_ret
  exact ⟨rfl, Below.refl _ _⟩
 have c0d : decide ((60 : Int) < (l0.length : Int)) = false := decide_eq_false c0b
 rw [if_neg c0b] at h
 clear c0b
 have HH := Qz.mk h
 clear h
 go_enter Try.func124, Try.ntmps124
 go_wp2
 go_loopg [3, 4] k (fun kq v3 v4 wr => ∃ (s : Int) (i : Nat), v3 = .int .i64 s ∧ v4 = .int .i64 i ∧ Qz (spec_l6Files.l0 kq l0 s (i : Int) = some r) ∧ i ≤ l0.length ∧ Qz (kq ≤ k) ∧ Qz (Below w.heap.size w wr))
 case atStart => exact ⟨0, 0, rfl, rfl, HH, Nat.zero_le _, ⟨Nat.le_refl _⟩, ⟨Below.refl _ _⟩⟩
 case round =>
  clear HH
  obtain ⟨s, i, rfl, rfl, HA, hil, HK1, HB⟩ := hrel
  cases gk with
  | zero => exact absurd HA.out (by simp [spec_l6Files.l0])
  | succ k1 =>
   have H := HA.out
   clear HA
   simp only [spec_l6Files.l0] at H
   by_cases c3 : (i : Int) < (l0.length : Int)
   ·rw [if_pos c3, if_pos (by omega)] at H
    have c3b : decide ((i : Int) < (l0.length : Int)) = true := decide_eq_true c3
    have hw2 : wrap64 ((i : Int) + 1) = ((i + 1 : Nat) : Int) := by unfold wrap64; omega
    obtain ⟨t102, A4_, H⟩ := Option.bind_eq_some_iff.mp H
    have A4 := Qz.mk A4_
    clear A4_
    obtain ⟨ad, e, h0, h1⟩ := at_T170 HR.out (i : Int) (by omega) c3
    cases e
    rw [Int.toNat_natCast] at h0 h1
    replace h0 := (HB.out.cell (World.block_lt_of_cell? w _ h0)).trans h0
    replace h1 := (HB.out.cell (World.block_lt_of_cell? w _ h1)).trans h1
    generalize qj l0 (i : Int) = x at h0 h1 A4 H
    have hm : ∀ n, Calls Try.prog 176 #[.string x.f0] (wr.drewN n) fun e w' => e = .returned (.bool t102) ∧ ∃ m, w' = wr.drewN m := fun n => Calls.quiet_of ((spec_l6Name.calls x.f0 t102 (wr.drewN n) A4.out).mono fun _ _ h => ⟨h.1, by obtain ⟨m, hm⟩ := h.2; exact ⟨m, hm⟩⟩)
    cases t102 with
    | false =>
     rw [if_neg (by decide)] at H
     obtain rfl := Option.some.inj H
     clear H
     go_wp2
     refine wp_region_quiet_lit (by kernel_rfl) (by kernel_rfl) ?_
     iterate 8 (with_reducible refine qWant ?want_ (fun K hK => ?_); (case want_ => kernel_rfl); go_simp; (first | (with_reducible refine hK _ ?_; clear hK K) | (apply Exists.intro; refine ⟨fun _ => ?_, hK _ ?_⟩; (go_at_call 176; exact hm _); clear hK K)))
     iterate 16 (with_reducible refine qSkip ?skip_ (fun K hK => ?_); (case skip_ => kernel_rfl); go_simp; with_reducible refine hK _ ?_; clear hK K)
     iterate 1 (with_reducible refine qWant ?want_ (fun K hK => ?_); (case want_ => kernel_rfl); go_simp; (first | (with_reducible refine hK _ ?_; clear hK K) | (apply Exists.intro; refine ⟨fun _ => ?_, hK _ ?_⟩; (go_at_call 176; exact hm _); clear hK K)))
     refine wpQuiet_nil ?_
     intro _ hw_
     obtain ⟨nq, hw_⟩ := hw_
     subst hw_
     go_wp2
     go_ret
     exact ⟨rfl, by (repeat (first | exact HB.out | apply qa))⟩
    | true =>
     rw [if_pos rfl] at H
     by_cases ci : (i : Int) > 0
     case' pos =>
      have cib : decide ((0 : Int) < (i : Int)) = true := decide_eq_true ci
      have cic : decide (0 < i) = true := decide_eq_true (by omega)
      obtain ⟨j, hij⟩ : ∃ j : Nat, i = j + 1 := ⟨i - 1, by omega⟩
      have hw1 : wrap64 ((i : Int) - 1) = (j : Int) := by unfold wrap64; omega
      have hwi : IntKind.i64.wrap ((i : Int) - 1) = (j : Int) := by rw [IntKind.wrap_i64]; omega
      have cjl : (j : Int) < (l0.length : Int) := by omega
      rw [if_pos ci, hw1, if_pos (by omega), if_pos cjl] at H
      obtain ⟨adg, e, g0, g1⟩ := at_T170 HR.out (j : Int) (by omega) cjl
      cases e
      rw [Int.toNat_natCast] at g0 g1
      replace g0 := (HB.out.cell (World.block_lt_of_cell? w _ g0)).trans g0
      replace g1 := (HB.out.cell (World.block_lt_of_cell? w _ g1)).trans g1
      generalize qj l0 (j : Int) = y at g0 g1 H
      clear hij
      by_cases cl : Op.bytesLess y.f0.toList x.f0.toList = true
      case neg =>
       have clb : Op.bytesLess y.f0.toList x.f0.toList = false := by simpa using cl
       rw [if_neg cl] at H
       obtain rfl := Option.some.inj H
       clear H cl
       go_wp2
       refine wp_region_quiet_lit (by kernel_rfl) (by kernel_rfl) ?_
       iterate 25 (with_reducible refine qWant ?want_ (fun K hK => ?_); (case want_ => kernel_rfl); go_simp; (first | (with_reducible refine hK _ ?_; clear hK K) | (apply Exists.intro; refine ⟨fun _ => ?_, hK _ ?_⟩; (go_at_call 176; exact hm _); clear hK K)))
       refine wpQuiet_nil ?_
       intro _ hw_
       obtain ⟨nq, hw_⟩ := hw_
       subst hw_
       go_wp2
       go_ret
       exact ⟨rfl, by (repeat (first | exact HB.out | apply qa))⟩
      rw [if_pos cl] at H
      go_wp2
      refine wp_region_quiet_lit (by kernel_rfl) (by kernel_rfl) ?_
      iterate 25 (with_reducible refine qWant ?want_ (fun K hK => ?_); (case want_ => kernel_rfl); go_simp; (first | (with_reducible refine hK _ ?_; clear hK K) | (apply Exists.intro; refine ⟨fun _ => ?_, hK _ ?_⟩; (go_at_call 176; exact hm _); clear hK K)))
      refine wpQuiet_nil ?_
      intro _ hw_
      obtain ⟨nq, hw_⟩ := hw_
      subst hw_
     case' neg =>
      have cib : decide ((0 : Int) < (i : Int)) = false := decide_eq_false ci
      have cic : decide (0 < i) = false := decide_eq_false (by omega)
      rw [if_neg ci] at H
      go_wp2
      refine wp_region_quiet_lit (by kernel_rfl) (by kernel_rfl) ?_
      iterate 11 (with_reducible refine qWant ?want_ (fun K hK => ?_); (case want_ => kernel_rfl); go_simp; (first | (with_reducible refine hK _ ?_; clear hK K) | (apply Exists.intro; refine ⟨fun _ => ?_, hK _ ?_⟩; (go_at_call 176; exact hm _); clear hK K)))
      iterate 12 (with_reducible refine qSkip ?skip_ (fun K hK => ?_); (case skip_ => kernel_rfl); go_simp; with_reducible refine hK _ ?_; clear hK K)
      iterate 2 (with_reducible refine qWant ?want_ (fun K hK => ?_); (case want_ => kernel_rfl); go_simp; (first | (with_reducible refine hK _ ?_; clear hK K) | (apply Exists.intro; refine ⟨fun _ => ?_, hK _ ?_⟩; (go_at_call 176; exact hm _); clear hK K)))
      refine wpQuiet_nil ?_
      intro _ hw_
      obtain ⟨nq, hw_⟩ := hw_
      subst hw_
     all_goals
      rw [hw2] at H
      have HH := Qz.mk H
      clear H
      go_wp2
      go_roundg k1
      case measure => have := HK1.out; omega
      case rel => exact ⟨_, i + 1, by first | rfl | (simp; done), by first | rfl | (rw [← hw2]; rfl) | (simp; done), HH, by omega, ⟨by have := HK1.out; omega⟩, ⟨by (repeat (first | exact HB.out | apply qa))⟩⟩
   ·rw [if_neg c3] at H
    have c3b : decide ((i : Int) < (l0.length : Int)) = false := decide_eq_false c3
    obtain rfl := Option.some.inj H
    clear H
    go_wp2
    go_ret
    exact ⟨rfl, by (repeat (first | exact HB.out | apply qa))⟩
def spec_l6At.l0 : Nat → List (S170) → ByteArray → Int → Option (Int)
 | 0, _, _, _ => none
 | k + 1, x0, x1, x5 => if x5 < (x0.length : Int) then (if 0 ≤ x5 then (if ((qj x0 x5).f0).toList = x1.toList then (some x5) else (spec_l6At.l0 k x0 x1 (wrap64 (x5 + 1)))) else (none)) else (some (-1))
def spec_l6At.f (k : Nat) (l0 : List (S170)) (a1 : ByteArray) : Option (Int) := spec_l6At.l0 k l0 a1 0
set_option maxHeartbeats 8000000 in
set_option maxRecDepth 100000 in
theorem spec_l6At.calls (k : Nat) (A0 : Option Addr) (c0 : Nat) (l0 : List (S170)) (a1 : ByteArray) (r : Int) (w : World) (hr0 : Kd.C k170 w A0 l0.length l0) (hc0 : l0.length ≤ c0) (h : spec_l6At.f k l0 a1 = some r) :
  Calls Try.prog 141 #[.slice A0 l0.length c0, .string a1] w fun e w' => e = .returned (.int .i64 r) ∧ Drawn0 w w' := by
 have HR0 := Qz.mk hr0
 have HC0 := Qz.mk hc0
 clear hr0 hc0
 have H : (spec_l6At.l0 k l0 a1 0) = some r := h
 clear h
 have H' := Qz.mk H
 clear H
 go_enter Try.func141, Try.ntmps141
 go_wp2
 go_loopg [5] k (fun kq v5 w' => ∃ (x5_1 : Int), v5 = .int .i64 x5_1 ∧ Qz (spec_l6At.l0 kq l0 a1 x5_1 = some r) ∧ Qz (kq ≤ k) ∧ Drawn0 w w')
 case atStart => exact ⟨(0), (by first | rfl | (simp; done) | (simp [*]; done)), H', ⟨Nat.le_refl _⟩, by repeat (first | exact Drawn0.refl _ | apply Drawn0.step)⟩
 case round =>
  clear H'
  (try clear c1);(try clear p2)
  obtain ⟨x5_1, rfl, HA, HK1, ⟨m1, rfl⟩⟩ := hrel
  cases gk with
  | zero => exact absurd HA.out (by simp [spec_l6At.l0])
  | succ k1 =>
   have H := HA.out
   clear HA
   simp only [spec_l6At.l0] at H
   by_cases c3 : x5_1 < (l0.length : Int)
   ·rw [if_pos c3] at H
    have c3b0 : decide (x5_1 < (l0.length : Int)) = true := decide_eq_true c3
    clear c3
    by_cases c4 : 0 ≤ x5_1
    ·rw [if_pos c4] at H
     have c4b0 : decide (0 ≤ x5_1) = true := decide_eq_true c4
     clear c4
     by_cases c5 : ((qj l0 x5_1).f0).toList = a1.toList
     ·rw [if_pos c5] at H
      have c5b0 : (((qj l0 x5_1).f0).toList == a1.toList) = true := beq_iff_eq.mpr c5
      have c5b1 : (((qj l0 x5_1).f0).toList != a1.toList) = false := bne_eq_false_iff_eq.mpr c5
      clear c5
      obtain rfl := Option.some.inj H
      have p101 : 0 ≤ (x5_1 : Int) := of_decide_eq_true (by first | (with_reducible assumption) | assumption)
      have q101 : x5_1 < (l0.length : Int) := of_decide_eq_true (by first | (with_reducible assumption) | assumption)
      obtain ⟨ad101, e101, hx101_0, hx101_1⟩ := at_T170 HR0.out x5_1 p101 q101
      cases e101
      replace p101 := eq_true p101
      replace q101 := eq_true q101
      go_wp2
      go_ret
      exact ⟨by first | rfl | (simp; done) | (simp [*]; done), by repeat (first | exact Drawn0.refl _ | apply Drawn0.step)⟩
     ·rw [if_neg c5] at H
      have c5b0 : (((qj l0 x5_1).f0).toList == a1.toList) = false := beq_eq_false_iff_ne.mpr c5
      have c5b1 : (((qj l0 x5_1).f0).toList != a1.toList) = true := bne_iff_ne.mpr c5
      have H' := Qz.mk H
      clear H
      have p101 : 0 ≤ (x5_1 : Int) := of_decide_eq_true (by first | (with_reducible assumption) | assumption)
      have q101 : x5_1 < (l0.length : Int) := of_decide_eq_true (by first | (with_reducible assumption) | assumption)
      obtain ⟨ad101, e101, hx101_0, hx101_1⟩ := at_T170 HR0.out x5_1 p101 q101
      cases e101
      replace p101 := eq_true p101
      replace q101 := eq_true q101
      go_wp2
      go_roundg k1
      case measure => have := HK1.out; omega
      case rel => exact ⟨(wrap64 (x5_1 + 1)), (by first | rfl | (simp; done) | (simp [*]; done)), H', ⟨by have := HK1.out; omega⟩, by repeat (first | exact Drawn0.refl _ | apply Drawn0.step)⟩
    ·rw [if_neg c4] at H
     exact absurd H (by simp)
   ·rw [if_neg c3] at H
    have c3b0 : decide (x5_1 < (l0.length : Int)) = false := decide_eq_false c3
    clear c3
    obtain rfl := Option.some.inj H
    go_wp2
    go_ret
    exact ⟨by first | rfl | (simp; done) | (simp [*]; done), by repeat (first | exact Drawn0.refl _ | apply Drawn0.step)⟩
theorem yq0 {P : Prop} (h : P := by repeat (first | (with_reducible first | exact HB.out | apply qc | apply qa | apply qb) | exact HB.out)) : P := h
theorem yq1 {P : Prop} (h : P := by first | (with_reducible assumption) | assumption) : P := h
theorem yq2 {P : Prop} (h : P := by first | rfl | (simp; done) | (simp [*]; done)) : P := h
theorem yq3 {P : Prop} (h : P := by (with_reducible repeat (first | apply Kd.R_alloc | apply Kd.R_drewN | apply Kd.R_drew)); exact HO_7.out) : P := h
mutual
def spec_l6Put.l0 : Nat → List (S170) → ByteArray → ByteArray → List (S170) → Bool → Int → Option ((List (S170)))
 | 0, _, _, _, _, _, _ => none
 | k + 1, x0, x1, x2, x7, x8, x9 => if x9 < (x0.length : Int) then (if x8 = true then (spec_l6Put.j1 k x0 x1 x2 x7 x8 x9 false) else (if 0 ≤ x9 then (spec_l6Put.j1 k x0 x1 x2 x7 x8 x9 (!(Op.bytesLess (((qj x0 x9).f0).toList) x1.toList))) else (none))) else (if x8 = true then (some x7) else (if x7.length < 4398046511104 then (some (x7 ++ [(⟨x1, x2⟩ : S170)])) else (none)))
def spec_l6Put.j1 : Nat → List (S170) → ByteArray → ByteArray → List (S170) → Bool → Int → Bool → Option ((List (S170)))
 | 0, _, _, _, _, _, _, _ => none
 | k + 1, x0, x1, x2, x7, x8, x9, x27 => if x27 = true then (if x7.length < 4398046511104 then ((some (x7 ++ [(⟨x1, x2⟩ : S170)] : List (S170))).bind fun y108 => (if 0 ≤ x9 then (if x9 < (x0.length : Int) then (if ((qj x0 x9).f0).toList = x1.toList then (spec_l6Put.l0 k x0 x1 x2 y108 true (wrap64 (x9 + 1))) else (if y108.length < 4398046511104 then (spec_l6Put.l0 k x0 x1 x2 (y108 ++ [(⟨(qj x0 x9).f0, (qj x0 x9).f1⟩ : S170)]) true (wrap64 (x9 + 1))) else (none))) else (none)) else (none))) else (none)) else (if 0 ≤ x9 then (if x9 < (x0.length : Int) then (if ((qj x0 x9).f0).toList = x1.toList then (spec_l6Put.l0 k x0 x1 x2 x7 x8 (wrap64 (x9 + 1))) else (if x7.length < 4398046511104 then (spec_l6Put.l0 k x0 x1 x2 (x7 ++ [(⟨(qj x0 x9).f0, (qj x0 x9).f1⟩ : S170)]) x8 (wrap64 (x9 + 1))) else (none))) else (none)) else (none))
end
def spec_l6Put.f (k : Nat) (l0 : List (S170)) (a1 : ByteArray) (a2 : ByteArray) : Option ((List (S170))) := spec_l6Put.l0 k l0 a1 a2 (([] : List (S170))) false 0
set_option maxHeartbeats 8000000 in
set_option maxRecDepth 100000 in
theorem spec_l6Put.calls (k : Nat) (A0 : Option Addr) (c0 : Nat) (l0 : List (S170)) (a1 : ByteArray) (a2 : ByteArray) (r : List (S170)) (w : World) (hr0 : Kd.C k170 w A0 l0.length l0) (hc0 : l0.length ≤ c0) (h : spec_l6Put.f k l0 a1 a2 = some r) :
  Calls Try.prog 174 #[.slice A0 l0.length c0, .string a1, .string a2] w fun e w' => ∃ v0_ : Value, e = .returned (v0_) ∧ Kd.R k170 170 w' w.heap.size (fun _ => True) v0_ r ∧ Below w.heap.size w w' := by
 have hu170 := Try.underlying170
 have HR0 := Qz.mk hr0
 have HC0 := Qz.mk hc0
 clear hr0 hc0
 have HB := Qz.mk (Below.refl w.heap.size w)
 have H : (spec_l6Put.l0 k l0 a1 a2 (([] : List (S170))) false 0) = some r := h
 clear h
 obtain ⟨y101, hy101⟩ : ∃ y_ : List (S170), y_ = (([] : List (S170))) := ⟨_, rfl⟩
 replace H : (spec_l6Put.l0 k l0 a1 a2 y101 false 0) = some r := by first | (rw [hy101]; with_reducible exact H) | (have H2_ := (Option.bind_some _ _).symm.trans H; rw [hy101]; with_reducible exact H2_) | (have H2_ := (Option.bind_some _ _).symm.trans H; with_reducible exact H2_) | with_reducible exact H | (rw [hy101]; exact H) | exact H
 have Ny101 := Qz.mk hy101
 clear hy101
 have H' := Qz.mk H
 clear H
 go_enter Try.func174, Try.ntmps174
 go_wp2_with (first | ((with_reducible refine qt (N := 10) rfl ?_); refine Kd.R_lit k170 _ 170 ?hg (N := 10) ?hd (xs := ([] : List (S170))) (inner := []) (ok := fun _ => True) (okp := fun _ => True) ?hr ?hp (fun _ hk => hk) trivial (Below.refl _ _) (Nat.le_refl _) (by simp) ?_; (case hd => rfl); (case hg => rfl); (case hr => first | (go_simp; done) | (go_simp; rfl)); (case hp => exact (Reps.none _ _)); intro v102 w4 ho5 hb hg_ hnew_; clear hg_ hnew_; (first | rw [← Ny101.out] at ho5 | (simp only [Int.reduceToNat] at ho5; rw [← Ny101.out] at ho5)); have HO103 := Qz.mk (Kd.R_lower ho5 (qo yq0)); replace HB := Qz.mk (ql yq0 hb); clear hb ho5))
 go_loopg [7, 8, 9] k (fun kq v7 v8 v9 w' => ∃ (x7_1 : List (S170)) (x8_1 : Bool) (x9_1 : Int), v8 = .bool x8_1 ∧ v9 = .int .i64 x9_1 ∧ Qz (spec_l6Put.l0 kq l0 a1 a2 x7_1 x8_1 x9_1 = some r) ∧ Qz (kq ≤ k) ∧ Qz (Kd.R k170 170 w' w.heap.size (fun _ => True) v7 x7_1) ∧ Qz (Below w.heap.size w w'))
 case atStart => exact ⟨(y101), (false), (0), yq2, yq2, H', ⟨Nat.le_refl _⟩, ⟨by (with_reducible repeat (first | apply Kd.R_alloc | apply Kd.R_drewN | apply Kd.R_drew)); exact HO103.out⟩, ⟨by repeat (first | (with_reducible first | exact HB.out | apply qc | apply qa | apply qb) | exact HB.out)⟩⟩
 case round =>
  clear H'
  (try clear c1);(try clear p2)
  obtain ⟨x7_1, x8_1, x9_1, rfl, rfl, HA, HK1, HO_7, HB⟩ := hrel
  cases gk with
  | zero => exact absurd HA.out (by simp [spec_l6Put.l0])
  | succ k1 =>
   have H := HA.out
   clear HA
   simp only [spec_l6Put.l0] at H
   by_cases c6 : x9_1 < (l0.length : Int)
   ·rw [if_pos c6] at H
    have c6b0 : decide (x9_1 < (l0.length : Int)) = true := decide_eq_true c6
    clear c6
    have HC7 := Qz.mk H
    clear H
    go_upto_region 6 with (fail)
    go_cut [27] (fun v27 wc => ∃ (kq : Nat) (x27_6 : Bool), v27 = .bool x27_6 ∧ Qz (spec_l6Put.j1 kq l0 a1 a2 x7_1 x8_1 x9_1 x27_6 = some r) ∧ Qz (kq ≤ k1) ∧ Qz (Kd.R k170 170 wc w.heap.size (fun _ => True) u7 x7_1) ∧ Qz (Below w.heap.size w wc))
    case first =>
     have H := HC7.out
     clear HC7
     by_cases c8 : x8_1 = true
     ·subst c8
      have H1 : (spec_l6Put.j1 k1 l0 a1 a2 x7_1 true x9_1 false) = some r := by rw [if_pos rfl] at H; exact H
      clear H
      have H := H1
      clear H1
      have H' := Qz.mk H
      clear H
      go_wp2
      go_meet
      case rel => exact ⟨_, (false), yq2, H', ⟨by have := HK1.out; first | omega | exact Nat.le_refl _⟩, ⟨by (with_reducible repeat (first | apply Kd.R_alloc | apply Kd.R_drewN | apply Kd.R_drew)); exact HO_7.out⟩, ⟨by repeat (first | (with_reducible first | exact HB.out | apply qc | apply qa | apply qb) | exact HB.out)⟩⟩
     ·replace c8 := Bool.eq_false_iff.mpr c8
      subst c8
      have H1 : (if 0 ≤ x9_1 then (spec_l6Put.j1 k1 l0 a1 a2 x7_1 false x9_1 (!(Op.bytesLess (((qj l0 x9_1).f0).toList) a1.toList))) else (none)) = some r := by rw [if_neg (show ¬ (false = true) by decide)] at H; exact H
      clear H
      have H := H1
      clear H1
      by_cases c9 : 0 ≤ x9_1
      ·rw [if_pos c9] at H
       have c9b0 : decide (0 ≤ x9_1) = true := decide_eq_true c9
       clear c9
       (first | rw [c9b0] | (simp only [i64_w, i32_w]; rw [c9b0]) | skip)
       have H' := Qz.mk H
       clear H
       have p107 : 0 ≤ (x9_1 : Int) := of_decide_eq_true yq1
       have q107 : x9_1 < (l0.length : Int) := of_decide_eq_true yq1
       obtain ⟨ad107, e107, hx107_0, hx107_1⟩ := at_T170 HR0.out x9_1 p107 q107
       cases e107
       replace hx107_0 := (HB.out.cell (World.block_lt_of_cell? w _ hx107_0)).trans hx107_0
       replace hx107_1 := (HB.out.cell (World.block_lt_of_cell? w _ hx107_1)).trans hx107_1
       replace p107 := eq_true p107
       replace q107 := eq_true q107
       go_wp2
       go_meet
       case rel => exact ⟨_, (!(Op.bytesLess (((qj l0 x9_1).f0).toList) a1.toList)), yq2, H', ⟨by have := HK1.out; first | omega | exact Nat.le_refl _⟩, ⟨by (with_reducible repeat (first | apply Kd.R_alloc | apply Kd.R_drewN | apply Kd.R_drew)); exact HO_7.out⟩, ⟨by repeat (first | (with_reducible first | exact HB.out | apply qc | apply qa | apply qb) | exact HB.out)⟩⟩
      ·rw [if_neg c9] at H
       exact absurd H (by simp)
    case rest =>
     clear HC7
     (try clear c1);(try clear p1);(try clear q1);(try clear hx1);(try clear p2);(try clear c6);(try clear c6b0);(try clear c8);(try clear c9);(try clear c9b0);(try clear hx107_0);(try clear hx107_1);(try clear p107);(try clear p2);(try clear q107)
     obtain ⟨kq, x27_6, rfl, HA, HJ6, HO_7, HB⟩ := hcut
     cases kq with
     | zero => exact absurd HA.out (by simp [spec_l6Put.j1])
     | succ kj6 =>
      have H := HA.out
      clear HA
      simp only [spec_l6Put.j1] at H
      by_cases c10 : x27_6 = true
      ·subst c10
       have H1 : (if x7_1.length < 4398046511104 then ((some (x7_1 ++ [(⟨a1, a2⟩ : S170)] : List (S170))).bind fun y108 => (if 0 ≤ x9_1 then (if x9_1 < (l0.length : Int) then (if ((qj l0 x9_1).f0).toList = a1.toList then (spec_l6Put.l0 kj6 l0 a1 a2 y108 true (wrap64 (x9_1 + 1))) else (if y108.length < 4398046511104 then (spec_l6Put.l0 kj6 l0 a1 a2 (y108 ++ [(⟨(qj l0 x9_1).f0, (qj l0 x9_1).f1⟩ : S170)]) true (wrap64 (x9_1 + 1))) else (none))) else (none)) else (none))) else (none)) = some r := by rw [if_pos rfl] at H; exact H
       clear H
       have H := H1
       clear H1
       by_cases c11 : x7_1.length < 4398046511104
       ·rw [if_pos c11] at H
        have LMc11 := Qz.mk c11
        clear c11
        obtain ⟨y108, hy108⟩ : ∃ y_ : List (S170), y_ = (x7_1 ++ [(⟨a1, a2⟩ : S170)]) := ⟨_, rfl⟩
        replace H : (if 0 ≤ x9_1 then (if x9_1 < (l0.length : Int) then (if ((qj l0 x9_1).f0).toList = a1.toList then (spec_l6Put.l0 kj6 l0 a1 a2 y108 true (wrap64 (x9_1 + 1))) else (if y108.length < 4398046511104 then (spec_l6Put.l0 kj6 l0 a1 a2 (y108 ++ [(⟨(qj l0 x9_1).f0, (qj l0 x9_1).f1⟩ : S170)]) true (wrap64 (x9_1 + 1))) else (none))) else (none)) else (none)) = some r := by first | (rw [hy108]; with_reducible exact H) | (have H2_ := (Option.bind_some _ _).symm.trans H; rw [hy108]; with_reducible exact H2_) | (have H2_ := (Option.bind_some _ _).symm.trans H; with_reducible exact H2_) | with_reducible exact H | (rw [hy108]; exact H) | exact H
        have Ny108 := Qz.mk hy108
        clear hy108
        by_cases c12 : 0 ≤ x9_1
        ·rw [if_pos c12] at H
         have c12b0 : decide (0 ≤ x9_1) = true := decide_eq_true c12
         clear c12
         by_cases c13 : x9_1 < (l0.length : Int)
         ·rw [if_pos c13] at H
          have c13b0 : decide (x9_1 < (l0.length : Int)) = true := decide_eq_true c13
          clear c13
          by_cases c14 : ((qj l0 x9_1).f0).toList = a1.toList
          ·rw [if_pos c14] at H
           have c14b0 : (((qj l0 x9_1).f0).toList == a1.toList) = true := beq_iff_eq.mpr c14
           have c14b1 : (((qj l0 x9_1).f0).toList != a1.toList) = false := bne_eq_false_iff_eq.mpr c14
           clear c14
           have H' := Qz.mk H
           clear H
           go_wp2_with (first | ((with_reducible refine gate_builtin (b := .append) (xs := #[.tmp 28, .tmp 32]) rfl ?_); at_builtin; refine Kd.R_append k170 (w0 := w) w.heap.size rfl (.tmp 28) (.tmp 32) 82 170 (.agg #[(.string ⟨#[]⟩), (.string ⟨#[]⟩)]) 32 rfl Try.underlying82 info170 rfl (by decide) (by omega) u7 x7_1 (⟨a1, a2⟩ : S170) [.string a1, .string a2] (fun _ => True) (fun _ => False) rfl rfl ?aP (fun _ hk => hk.elim) ?aF ?aO ?aB ?aS ?aL ?_; (case aP => exact k170_mkM _ _ _ (⟨a1, a2⟩ : S170)); (case aB => exact yq0); (case aF => exact (fun _ _ => trivial)); (case aO => exact yq3); (case aS => exact (qo yq0)); (case aL => have := LMc11.out; omega); intro v109 w15 ho hb hg hat; rw [← Ny108.out] at ho; have n0_ := Qz.mk (hb); have n1_ := Qz.mk (ho); clear HB; clear HO_7; have HB := n0_; have HO110 := n1_; clear n0_ n1_; clear ho hb hg hat; have p111 : 0 ≤ (x9_1 : Int) := of_decide_eq_true yq1; have q111 : x9_1 < (l0.length : Int) := of_decide_eq_true yq1; obtain ⟨ad111, e111, hx111_0, hx111_1⟩ := at_T170 HR0.out x9_1 p111 q111; cases e111; replace hx111_0 := (HB.out.cell (World.block_lt_of_cell? w _ hx111_0)).trans hx111_0; replace hx111_1 := (HB.out.cell (World.block_lt_of_cell? w _ hx111_1)).trans hx111_1; replace p111 := eq_true p111; replace q111 := eq_true q111))
           go_roundg kj6
           case measure => have := HK1.out; have := HJ6.out; omega
           case rel => exact ⟨(y108), (true), (wrap64 (x9_1 + 1)), yq2, yq2, H', ⟨by have := HK1.out; have := HJ6.out; omega⟩, ⟨by (with_reducible repeat (first | apply Kd.R_alloc | apply Kd.R_drewN | apply Kd.R_drew)); exact HO110.out⟩, ⟨by repeat (first | (with_reducible first | exact HB.out | apply qc | apply qa | apply qb) | exact HB.out)⟩⟩
          ·rw [if_neg c14] at H
           have c14b0 : (((qj l0 x9_1).f0).toList == a1.toList) = false := beq_eq_false_iff_ne.mpr c14
           have c14b1 : (((qj l0 x9_1).f0).toList != a1.toList) = true := bne_iff_ne.mpr c14
           by_cases c16 : y108.length < 4398046511104
           ·rw [if_pos c16] at H
            have LMc16 := Qz.mk c16
            clear c16
            obtain ⟨y113, hy113⟩ : ∃ y_ : List (S170), y_ = (y108 ++ [(⟨(qj l0 x9_1).f0, (qj l0 x9_1).f1⟩ : S170)]) := ⟨_, rfl⟩
            replace H : (spec_l6Put.l0 kj6 l0 a1 a2 y113 true (wrap64 (x9_1 + 1))) = some r := by first | (rw [hy113]; with_reducible exact H) | (have H2_ := (Option.bind_some _ _).symm.trans H; rw [hy113]; with_reducible exact H2_) | (have H2_ := (Option.bind_some _ _).symm.trans H; with_reducible exact H2_) | with_reducible exact H | (rw [hy113]; exact H) | exact H
            have Ny113 := Qz.mk hy113
            clear hy113
            have H' := Qz.mk H
            clear H
            go_wp2_with (first | ((with_reducible refine gate_builtin (b := .append) (xs := #[.tmp 28, .tmp 32]) rfl ?_); at_builtin; refine Kd.R_append k170 (w0 := w) w.heap.size rfl (.tmp 28) (.tmp 32) 82 170 (.agg #[(.string ⟨#[]⟩), (.string ⟨#[]⟩)]) 32 rfl Try.underlying82 info170 rfl (by decide) (by omega) u7 x7_1 (⟨a1, a2⟩ : S170) [.string a1, .string a2] (fun _ => True) (fun _ => False) rfl rfl ?aP (fun _ hk => hk.elim) ?aF ?aO ?aB ?aS ?aL ?_; (case aP => exact k170_mkM _ _ _ (⟨a1, a2⟩ : S170)); (case aB => exact yq0); (case aF => exact (fun _ _ => trivial)); (case aO => exact yq3); (case aS => exact (qo yq0)); (case aL => have := LMc11.out; omega); intro v109 w17 ho hb hg hat; rw [← Ny108.out] at ho; have n0_ := Qz.mk (hb); have n1_ := Qz.mk (ho); clear HB; clear HO_7; have HB := n0_; have HO110 := n1_; clear n0_ n1_; clear ho hb hg hat; have p111 : 0 ≤ (x9_1 : Int) := of_decide_eq_true yq1; have q111 : x9_1 < (l0.length : Int) := of_decide_eq_true yq1; obtain ⟨ad111, e111, hx111_0, hx111_1⟩ := at_T170 HR0.out x9_1 p111 q111; cases e111; replace hx111_0 := (HB.out.cell (World.block_lt_of_cell? w _ hx111_0)).trans hx111_0; replace hx111_1 := (HB.out.cell (World.block_lt_of_cell? w _ hx111_1)).trans hx111_1; replace p111 := eq_true p111; replace q111 := eq_true q111; have p112 : 0 ≤ (x9_1 : Int) := of_decide_eq_true yq1; have q112 : x9_1 < (l0.length : Int) := of_decide_eq_true yq1; obtain ⟨ad112, e112, hx112_0, hx112_1⟩ := at_T170 HR0.out x9_1 p112 q112; obtain rfl : ad111 = ad112 := (by injection e112); replace hx112_0 := (HB.out.cell (World.block_lt_of_cell? w _ hx112_0)).trans hx112_0; replace hx112_1 := (HB.out.cell (World.block_lt_of_cell? w _ hx112_1)).trans hx112_1; replace p112 := eq_true p112; replace q112 := eq_true q112) | ((with_reducible refine gate_builtin (b := .append) (xs := #[.tmp 41, .tmp 46]) rfl ?_); at_builtin; refine Kd.R_append k170 (w0 := w) w.heap.size rfl (.tmp 41) (.tmp 46) 82 170 (.agg #[(.string ⟨#[]⟩), (.string ⟨#[]⟩)]) 32 rfl Try.underlying82 info170 rfl (by decide) (by omega) v109 y108 (⟨(qj l0 x9_1).f0, (qj l0 x9_1).f1⟩ : S170) [.string ((qj l0 x9_1).f0), .string ((qj l0 x9_1).f1)] (fun _ => True) (fun _ => False) rfl rfl ?aP (fun _ hk => hk.elim) ?aF ?aO ?aB ?aS ?aL ?_; (case aP => exact k170_mkM _ _ _ (⟨(qj l0 x9_1).f0, (qj l0 x9_1).f1⟩ : S170)); (case aB => exact yq0); (case aF => exact (fun _ _ => trivial)); (case aO => exact (by (with_reducible repeat (first | apply Kd.R_alloc | apply Kd.R_drewN | apply Kd.R_drew)); exact HO110.out)); (case aS => exact (qo yq0)); (case aL => have := LMc16.out; omega); intro v114 w18 ho hb hg hat; rw [← Ny113.out] at ho; have n0_ := Qz.mk (hb); have n1_ := Qz.mk (ho); clear HB; clear HO110; have HB := n0_; have HO115 := n1_; clear n0_ n1_; clear ho hb hg hat))
            go_roundg kj6
            case measure => have := HK1.out; have := HJ6.out; omega
            case rel => exact ⟨(y113), (true), (wrap64 (x9_1 + 1)), yq2, yq2, H', ⟨by have := HK1.out; have := HJ6.out; omega⟩, ⟨by (with_reducible repeat (first | apply Kd.R_alloc | apply Kd.R_drewN | apply Kd.R_drew)); exact HO115.out⟩, ⟨by repeat (first | (with_reducible first | exact HB.out | apply qc | apply qa | apply qb) | exact HB.out)⟩⟩
           ·rw [if_neg c16] at H
            exact absurd H (by simp)
         ·rw [if_neg c13] at H
          exact absurd H (by simp)
        ·rw [if_neg c12] at H
         exact absurd H (by simp)
       ·rw [if_neg c11] at H
        exact absurd H (by simp)
      ·replace c10 := Bool.eq_false_iff.mpr c10
       subst c10
       have H1 : (if 0 ≤ x9_1 then (if x9_1 < (l0.length : Int) then (if ((qj l0 x9_1).f0).toList = a1.toList then (spec_l6Put.l0 kj6 l0 a1 a2 x7_1 x8_1 (wrap64 (x9_1 + 1))) else (if x7_1.length < 4398046511104 then (spec_l6Put.l0 kj6 l0 a1 a2 (x7_1 ++ [(⟨(qj l0 x9_1).f0, (qj l0 x9_1).f1⟩ : S170)]) x8_1 (wrap64 (x9_1 + 1))) else (none))) else (none)) else (none)) = some r := by rw [if_neg (show ¬ (false = true) by decide)] at H; exact H
       clear H
       have H := H1
       clear H1
       by_cases c19 : 0 ≤ x9_1
       ·rw [if_pos c19] at H
        have c19b0 : decide (0 ≤ x9_1) = true := decide_eq_true c19
        clear c19
        by_cases c20 : x9_1 < (l0.length : Int)
        ·rw [if_pos c20] at H
         have c20b0 : decide (x9_1 < (l0.length : Int)) = true := decide_eq_true c20
         clear c20
         by_cases c21 : ((qj l0 x9_1).f0).toList = a1.toList
         ·rw [if_pos c21] at H
          have c21b0 : (((qj l0 x9_1).f0).toList == a1.toList) = true := beq_iff_eq.mpr c21
          have c21b1 : (((qj l0 x9_1).f0).toList != a1.toList) = false := bne_eq_false_iff_eq.mpr c21
          clear c21
          have H' := Qz.mk H
          clear H
          have p116 : 0 ≤ (x9_1 : Int) := of_decide_eq_true yq1
          have q116 : x9_1 < (l0.length : Int) := of_decide_eq_true yq1
          obtain ⟨ad116, e116, hx116_0, hx116_1⟩ := at_T170 HR0.out x9_1 p116 q116
          cases e116
          replace hx116_0 := (HB.out.cell (World.block_lt_of_cell? w _ hx116_0)).trans hx116_0
          replace hx116_1 := (HB.out.cell (World.block_lt_of_cell? w _ hx116_1)).trans hx116_1
          replace p116 := eq_true p116
          replace q116 := eq_true q116
          go_wp2
          go_roundg kj6
          case measure => have := HK1.out; have := HJ6.out; omega
          case rel => exact ⟨(x7_1), (x8_1), (wrap64 (x9_1 + 1)), yq2, yq2, H', ⟨by have := HK1.out; have := HJ6.out; omega⟩, ⟨by (with_reducible repeat (first | apply Kd.R_alloc | apply Kd.R_drewN | apply Kd.R_drew)); exact HO_7.out⟩, ⟨by repeat (first | (with_reducible first | exact HB.out | apply qc | apply qa | apply qb) | exact HB.out)⟩⟩
         ·rw [if_neg c21] at H
          have c21b0 : (((qj l0 x9_1).f0).toList == a1.toList) = false := beq_eq_false_iff_ne.mpr c21
          have c21b1 : (((qj l0 x9_1).f0).toList != a1.toList) = true := bne_iff_ne.mpr c21
          by_cases c22 : x7_1.length < 4398046511104
          ·rw [if_pos c22] at H
           have LMc22 := Qz.mk c22
           clear c22
           obtain ⟨y118, hy118⟩ : ∃ y_ : List (S170), y_ = (x7_1 ++ [(⟨(qj l0 x9_1).f0, (qj l0 x9_1).f1⟩ : S170)]) := ⟨_, rfl⟩
           replace H : (spec_l6Put.l0 kj6 l0 a1 a2 y118 x8_1 (wrap64 (x9_1 + 1))) = some r := by first | (rw [hy118]; with_reducible exact H) | (have H2_ := (Option.bind_some _ _).symm.trans H; rw [hy118]; with_reducible exact H2_) | (have H2_ := (Option.bind_some _ _).symm.trans H; with_reducible exact H2_) | with_reducible exact H | (rw [hy118]; exact H) | exact H
           have Ny118 := Qz.mk hy118
           clear hy118
           have H' := Qz.mk H
           clear H
           have p116 : 0 ≤ (x9_1 : Int) := of_decide_eq_true yq1
           have q116 : x9_1 < (l0.length : Int) := of_decide_eq_true yq1
           obtain ⟨ad116, e116, hx116_0, hx116_1⟩ := at_T170 HR0.out x9_1 p116 q116
           cases e116
           replace hx116_0 := (HB.out.cell (World.block_lt_of_cell? w _ hx116_0)).trans hx116_0
           replace hx116_1 := (HB.out.cell (World.block_lt_of_cell? w _ hx116_1)).trans hx116_1
           replace p116 := eq_true p116
           replace q116 := eq_true q116
           have p117 : 0 ≤ (x9_1 : Int) := of_decide_eq_true yq1
           have q117 : x9_1 < (l0.length : Int) := of_decide_eq_true yq1
           obtain ⟨ad117, e117, hx117_0, hx117_1⟩ := at_T170 HR0.out x9_1 p117 q117
           obtain rfl : ad116 = ad117 := (by injection e117)
           replace hx117_0 := (HB.out.cell (World.block_lt_of_cell? w _ hx117_0)).trans hx117_0
           replace hx117_1 := (HB.out.cell (World.block_lt_of_cell? w _ hx117_1)).trans hx117_1
           replace p117 := eq_true p117
           replace q117 := eq_true q117
           go_wp2_with (first | ((with_reducible refine gate_builtin (b := .append) (xs := #[.tmp 41, .tmp 46]) rfl ?_); at_builtin; refine Kd.R_append k170 (w0 := w) w.heap.size rfl (.tmp 41) (.tmp 46) 82 170 (.agg #[(.string ⟨#[]⟩), (.string ⟨#[]⟩)]) 32 rfl Try.underlying82 info170 rfl (by decide) (by omega) u7 x7_1 (⟨(qj l0 x9_1).f0, (qj l0 x9_1).f1⟩ : S170) [.string ((qj l0 x9_1).f0), .string ((qj l0 x9_1).f1)] (fun _ => True) (fun _ => False) rfl rfl ?aP (fun _ hk => hk.elim) ?aF ?aO ?aB ?aS ?aL ?_; (case aP => exact k170_mkM _ _ _ (⟨(qj l0 x9_1).f0, (qj l0 x9_1).f1⟩ : S170)); (case aB => exact yq0); (case aF => exact (fun _ _ => trivial)); (case aO => exact yq3); (case aS => exact (qo yq0)); (case aL => have := LMc22.out; omega); intro v119 w23 ho hb hg hat; rw [← Ny118.out] at ho; have n0_ := Qz.mk (hb); have n1_ := Qz.mk (ho); clear HB; clear HO_7; have HB := n0_; have HO120 := n1_; clear n0_ n1_; clear ho hb hg hat))
           go_roundg kj6
           case measure => have := HK1.out; have := HJ6.out; omega
           case rel => exact ⟨(y118), (x8_1), (wrap64 (x9_1 + 1)), yq2, yq2, H', ⟨by have := HK1.out; have := HJ6.out; omega⟩, ⟨by (with_reducible repeat (first | apply Kd.R_alloc | apply Kd.R_drewN | apply Kd.R_drew)); exact HO120.out⟩, ⟨by repeat (first | (with_reducible first | exact HB.out | apply qc | apply qa | apply qb) | exact HB.out)⟩⟩
          ·rw [if_neg c22] at H
           exact absurd H (by simp)
        ·rw [if_neg c20] at H
         exact absurd H (by simp)
       ·rw [if_neg c19] at H
        exact absurd H (by simp)
   ·rw [if_neg c6] at H
    have c6b0 : decide (x9_1 < (l0.length : Int)) = false := decide_eq_false c6
    clear c6
    by_cases c24 : x8_1 = true
    ·subst c24
     have H1 : (some x7_1) = some r := by rw [if_pos rfl] at H; exact H
     clear H
     have H := H1
     clear H1
     obtain rfl := Option.some.inj H
     go_wp2
     go_ret
     exact ⟨_, by first | rfl | (simp [qn, qm] <;> rfl) | (simp [*, qn, qm] <;> rfl), by (with_reducible repeat (first | apply Kd.R_alloc | apply Kd.R_drewN | apply Kd.R_drew)); exact HO_7.out, by repeat (first | (with_reducible first | exact HB.out | apply qc | apply qa | apply qb) | exact HB.out)⟩
    ·replace c24 := Bool.eq_false_iff.mpr c24
     subst c24
     have H1 : (if x7_1.length < 4398046511104 then (some (x7_1 ++ [(⟨a1, a2⟩ : S170)])) else (none)) = some r := by rw [if_neg (show ¬ (false = true) by decide)] at H; exact H
     clear H
     have H := H1
     clear H1
     by_cases c25 : x7_1.length < 4398046511104
     ·rw [if_pos c25] at H
      have LMc25 := Qz.mk c25
      clear c25
      obtain ⟨y104, hy104⟩ : ∃ y_ : List (S170), y_ = (x7_1 ++ [(⟨a1, a2⟩ : S170)]) := ⟨_, rfl⟩
      replace H : (some y104) = some r := by first | (rw [hy104]; with_reducible exact H) | (have H2_ := (Option.bind_some _ _).symm.trans H; rw [hy104]; with_reducible exact H2_) | (have H2_ := (Option.bind_some _ _).symm.trans H; with_reducible exact H2_) | with_reducible exact H | (rw [hy104]; exact H) | exact H
      have Ny104 := Qz.mk hy104
      clear hy104
      obtain rfl := Option.some.inj H
      go_wp2_with (first | ((with_reducible refine gate_builtin (b := .append) (xs := #[.tmp 50, .tmp 54]) rfl ?_); at_builtin; refine Kd.R_append k170 (w0 := w) w.heap.size rfl (.tmp 50) (.tmp 54) 82 170 (.agg #[(.string ⟨#[]⟩), (.string ⟨#[]⟩)]) 32 rfl Try.underlying82 info170 rfl (by decide) (by omega) u7 x7_1 (⟨a1, a2⟩ : S170) [.string a1, .string a2] (fun _ => True) (fun _ => False) rfl rfl ?aP (fun _ hk => hk.elim) ?aF ?aO ?aB ?aS ?aL ?_; (case aP => exact k170_mkM _ _ _ (⟨a1, a2⟩ : S170)); (case aB => exact yq0); (case aF => exact (fun _ _ => trivial)); (case aO => exact yq3); (case aS => exact (qo yq0)); (case aL => have := LMc25.out; omega); intro v105 w26 ho hb hg hat; rw [← Ny104.out] at ho; have n0_ := Qz.mk (hb); have n1_ := Qz.mk (ho); clear HB; clear HO_7; have HB := n0_; have HO106 := n1_; clear n0_ n1_; clear ho hb hg hat))
      go_ret
      exact ⟨_, by first | rfl | (simp [qn, qm] <;> rfl) | (simp [*, qn, qm] <;> rfl), by (with_reducible repeat (first | apply Kd.R_alloc | apply Kd.R_drewN | apply Kd.R_drew)); exact HO106.out, by repeat (first | (with_reducible first | exact HB.out | apply qc | apply qa | apply qb) | exact HB.out)⟩
     ·rw [if_neg c25] at H
      exact absurd H (by simp)
theorem yq4 {P : Prop} (h : P := by repeat (first | (with_reducible first | exact HB.out | apply qc | apply qa | apply qb) | exact HB.out)) : P := h
theorem yq5 {P : Prop} (h : P := by first | (with_reducible assumption) | assumption) : P := h
def spec_l6Cut.l0 : Nat → List (S170) → ByteArray → List (S170) → Int → Option ((List (S170)))
 | 0, _, _, _, _ => none
 | k + 1, x0, x1, x5, x6 => if x6 < (x0.length : Int) then (if 0 ≤ x6 then (if ((qj x0 x6).f0).toList = x1.toList then (spec_l6Cut.l0 k x0 x1 x5 (wrap64 (x6 + 1))) else (if x5.length < 4398046511104 then (spec_l6Cut.l0 k x0 x1 (x5 ++ [(⟨(qj x0 x6).f0, (qj x0 x6).f1⟩ : S170)]) (wrap64 (x6 + 1))) else (none))) else (none)) else (some x5)
def spec_l6Cut.f (k : Nat) (l0 : List (S170)) (a1 : ByteArray) : Option ((List (S170))) := spec_l6Cut.l0 k l0 a1 (([] : List (S170))) 0
set_option maxHeartbeats 8000000 in
set_option maxRecDepth 100000 in
theorem spec_l6Cut.calls (k : Nat) (A0 : Option Addr) (c0 : Nat) (l0 : List (S170)) (a1 : ByteArray) (r : List (S170)) (w : World) (hr0 : Kd.C k170 w A0 l0.length l0) (hc0 : l0.length ≤ c0) (h : spec_l6Cut.f k l0 a1 = some r) :
  Calls Try.prog 175 #[.slice A0 l0.length c0, .string a1] w fun e w' => ∃ v0_ : Value, e = .returned (v0_) ∧ Kd.R k170 170 w' w.heap.size (fun _ => True) v0_ r ∧ Below w.heap.size w w' := by
 have hu170 := Try.underlying170
 have HR0 := Qz.mk hr0
 have HC0 := Qz.mk hc0
 clear hr0 hc0
 have HB := Qz.mk (Below.refl w.heap.size w)
 have H : (spec_l6Cut.l0 k l0 a1 (([] : List (S170))) 0) = some r := h
 clear h
 obtain ⟨y101, hy101⟩ : ∃ y_ : List (S170), y_ = (([] : List (S170))) := ⟨_, rfl⟩
 replace H : (spec_l6Cut.l0 k l0 a1 y101 0) = some r := by first | (rw [hy101]; with_reducible exact H) | (have H2_ := (Option.bind_some _ _).symm.trans H; rw [hy101]; with_reducible exact H2_) | (have H2_ := (Option.bind_some _ _).symm.trans H; with_reducible exact H2_) | with_reducible exact H | (rw [hy101]; exact H) | exact H
 have Ny101 := Qz.mk hy101
 clear hy101
 have H' := Qz.mk H
 clear H
 go_enter Try.func175, Try.ntmps175
 go_wp2_with (first | ((with_reducible refine qt (N := 7) rfl ?_); refine Kd.R_lit k170 _ 170 ?hg (N := 7) ?hd (xs := ([] : List (S170))) (inner := []) (ok := fun _ => True) (okp := fun _ => True) ?hr ?hp (fun _ hk => hk) trivial (Below.refl _ _) (Nat.le_refl _) (by simp) ?_; (case hd => rfl); (case hg => rfl); (case hr => first | (go_simp; done) | (go_simp; rfl)); (case hp => exact (Reps.none _ _)); intro v102 w3 ho4 hb hg_ hnew_; clear hg_ hnew_; (first | rw [← Ny101.out] at ho4 | (simp only [Int.reduceToNat] at ho4; rw [← Ny101.out] at ho4)); have HO103 := Qz.mk (Kd.R_lower ho4 (qo yq4)); replace HB := Qz.mk (ql yq4 hb); clear hb ho4))
 go_loopg [5, 6] k (fun kq v5 v6 w' => ∃ (x5_1 : List (S170)) (x6_1 : Int), v6 = .int .i64 x6_1 ∧ Qz (spec_l6Cut.l0 kq l0 a1 x5_1 x6_1 = some r) ∧ Qz (kq ≤ k) ∧ Qz (Kd.R k170 170 w' w.heap.size (fun _ => True) v5 x5_1) ∧ Qz (Below w.heap.size w w'))
 case atStart => exact ⟨(y101), (0), (by first | rfl | (simp; done) | (simp [*]; done)), H', ⟨Nat.le_refl _⟩, ⟨by (with_reducible repeat (first | apply Kd.R_alloc | apply Kd.R_drewN | apply Kd.R_drew)); exact HO103.out⟩, ⟨by repeat (first | (with_reducible first | exact HB.out | apply qc | apply qa | apply qb) | exact HB.out)⟩⟩
 case round =>
  clear H'
  (try clear c1);(try clear p2)
  obtain ⟨x5_1, x6_1, rfl, HA, HK1, HO_5, HB⟩ := hrel
  cases gk with
  | zero => exact absurd HA.out (by simp [spec_l6Cut.l0])
  | succ k1 =>
   have H := HA.out
   clear HA
   simp only [spec_l6Cut.l0] at H
   by_cases c5 : x6_1 < (l0.length : Int)
   ·rw [if_pos c5] at H
    have c5b0 : decide (x6_1 < (l0.length : Int)) = true := decide_eq_true c5
    clear c5
    by_cases c6 : 0 ≤ x6_1
    ·rw [if_pos c6] at H
     have c6b0 : decide (0 ≤ x6_1) = true := decide_eq_true c6
     clear c6
     by_cases c7 : ((qj l0 x6_1).f0).toList = a1.toList
     ·rw [if_pos c7] at H
      have c7b0 : (((qj l0 x6_1).f0).toList == a1.toList) = true := beq_iff_eq.mpr c7
      have c7b1 : (((qj l0 x6_1).f0).toList != a1.toList) = false := bne_eq_false_iff_eq.mpr c7
      clear c7
      have H' := Qz.mk H
      clear H
      have p104 : 0 ≤ (x6_1 : Int) := of_decide_eq_true yq5
      have q104 : x6_1 < (l0.length : Int) := of_decide_eq_true yq5
      obtain ⟨ad104, e104, hx104_0, hx104_1⟩ := at_T170 HR0.out x6_1 p104 q104
      cases e104
      replace hx104_0 := (HB.out.cell (World.block_lt_of_cell? w _ hx104_0)).trans hx104_0
      replace hx104_1 := (HB.out.cell (World.block_lt_of_cell? w _ hx104_1)).trans hx104_1
      replace p104 := eq_true p104
      replace q104 := eq_true q104
      go_wp2
      go_roundg k1
      case measure => have := HK1.out; omega
      case rel => exact ⟨(x5_1), (wrap64 (x6_1 + 1)), (by first | rfl | (simp; done) | (simp [*]; done)), H', ⟨by have := HK1.out; omega⟩, ⟨by (with_reducible repeat (first | apply Kd.R_alloc | apply Kd.R_drewN | apply Kd.R_drew)); exact HO_5.out⟩, ⟨by repeat (first | (with_reducible first | exact HB.out | apply qc | apply qa | apply qb) | exact HB.out)⟩⟩
     ·rw [if_neg c7] at H
      have c7b0 : (((qj l0 x6_1).f0).toList == a1.toList) = false := beq_eq_false_iff_ne.mpr c7
      have c7b1 : (((qj l0 x6_1).f0).toList != a1.toList) = true := bne_iff_ne.mpr c7
      by_cases c8 : x5_1.length < 4398046511104
      ·rw [if_pos c8] at H
       have LMc8 := Qz.mk c8
       clear c8
       obtain ⟨y106, hy106⟩ : ∃ y_ : List (S170), y_ = (x5_1 ++ [(⟨(qj l0 x6_1).f0, (qj l0 x6_1).f1⟩ : S170)]) := ⟨_, rfl⟩
       replace H : (spec_l6Cut.l0 k1 l0 a1 y106 (wrap64 (x6_1 + 1))) = some r := by first | (rw [hy106]; with_reducible exact H) | (have H2_ := (Option.bind_some _ _).symm.trans H; rw [hy106]; with_reducible exact H2_) | (have H2_ := (Option.bind_some _ _).symm.trans H; with_reducible exact H2_) | with_reducible exact H | (rw [hy106]; exact H) | exact H
       have Ny106 := Qz.mk hy106
       clear hy106
       have H' := Qz.mk H
       clear H
       have p104 : 0 ≤ (x6_1 : Int) := of_decide_eq_true yq5
       have q104 : x6_1 < (l0.length : Int) := of_decide_eq_true yq5
       obtain ⟨ad104, e104, hx104_0, hx104_1⟩ := at_T170 HR0.out x6_1 p104 q104
       cases e104
       replace hx104_0 := (HB.out.cell (World.block_lt_of_cell? w _ hx104_0)).trans hx104_0
       replace hx104_1 := (HB.out.cell (World.block_lt_of_cell? w _ hx104_1)).trans hx104_1
       replace p104 := eq_true p104
       replace q104 := eq_true q104
       have p105 : 0 ≤ (x6_1 : Int) := of_decide_eq_true yq5
       have q105 : x6_1 < (l0.length : Int) := of_decide_eq_true yq5
       obtain ⟨ad105, e105, hx105_0, hx105_1⟩ := at_T170 HR0.out x6_1 p105 q105
       obtain rfl : ad104 = ad105 := (by injection e105)
       replace hx105_0 := (HB.out.cell (World.block_lt_of_cell? w _ hx105_0)).trans hx105_0
       replace hx105_1 := (HB.out.cell (World.block_lt_of_cell? w _ hx105_1)).trans hx105_1
       replace p105 := eq_true p105
       replace q105 := eq_true q105
       go_wp2_with (first | ((with_reducible refine gate_builtin (b := .append) (xs := #[.tmp 21, .tmp 26]) rfl ?_); at_builtin; refine Kd.R_append k170 (w0 := w) w.heap.size rfl (.tmp 21) (.tmp 26) 82 170 (.agg #[(.string ⟨#[]⟩), (.string ⟨#[]⟩)]) 32 rfl Try.underlying82 info170 rfl (by decide) (by omega) u5 x5_1 (⟨(qj l0 x6_1).f0, (qj l0 x6_1).f1⟩ : S170) [.string ((qj l0 x6_1).f0), .string ((qj l0 x6_1).f1)] (fun _ => True) (fun _ => False) rfl rfl ?aP (fun _ hk => hk.elim) ?aF ?aO ?aB ?aS ?aL ?_; (case aP => exact k170_mkM _ _ _ (⟨(qj l0 x6_1).f0, (qj l0 x6_1).f1⟩ : S170)); (case aB => exact yq4); (case aF => exact (fun _ _ => trivial)); (case aO => exact (by (with_reducible repeat (first | apply Kd.R_alloc | apply Kd.R_drewN | apply Kd.R_drew)); exact HO_5.out)); (case aS => exact (qo yq4)); (case aL => have := LMc8.out; omega); intro v107 w9 ho hb hg hat; rw [← Ny106.out] at ho; have n0_ := Qz.mk (hb); have n1_ := Qz.mk (ho); clear HB; clear HO_5; have HB := n0_; have HO108 := n1_; clear n0_ n1_; clear ho hb hg hat))
       go_roundg k1
       case measure => have := HK1.out; omega
       case rel => exact ⟨(y106), (wrap64 (x6_1 + 1)), (by first | rfl | (simp; done) | (simp [*]; done)), H', ⟨by have := HK1.out; omega⟩, ⟨by (with_reducible repeat (first | apply Kd.R_alloc | apply Kd.R_drewN | apply Kd.R_drew)); exact HO108.out⟩, ⟨by repeat (first | (with_reducible first | exact HB.out | apply qc | apply qa | apply qb) | exact HB.out)⟩⟩
      ·rw [if_neg c8] at H
       exact absurd H (by simp)
    ·rw [if_neg c6] at H
     exact absurd H (by simp)
   ·rw [if_neg c5] at H
    have c5b0 : decide (x6_1 < (l0.length : Int)) = false := decide_eq_false c5
    clear c5
    obtain rfl := Option.some.inj H
    go_wp2
    go_ret
    exact ⟨_, by first | rfl | (simp [qn, qm] <;> rfl) | (simp [*, qn, qm] <;> rfl), by (with_reducible repeat (first | apply Kd.R_alloc | apply Kd.R_drewN | apply Kd.R_drew)); exact HO_5.out, by repeat (first | (with_reducible first | exact HB.out | apply qc | apply qa | apply qb) | exact HB.out)⟩
theorem yq6 {P : Prop} (h : P := by repeat (first | (with_reducible first | exact HB.out | apply qc | apply qa | apply qb | refine qf ?_ GE101.out) | exact HB.out)) : P := h
theorem yq7 {P : Prop} (h : P := by (try simp only [List.map_toArray, List.map_cons, List.map_nil]); first | done | rfl | (simp only [List.length_drop, List.length_take]; rfl) | (rw [IntWalk.u64_in _ (by omega)] <;> rfl)) : P := h
theorem yq8 {P : Prop} (h : P := by repeat (first | (with_reducible first | exact HB.out | apply qc | apply qa | apply qb) | exact HB.out)) : P := h
theorem yq9 {P : Prop} (h : P := by repeat (first | exact (Kd.C_below HR0.out HB.out) | (with_reducible refine Kd.C_alloc ?_ _) | (with_reducible refine Kd.C_drewN ?_ _) | (with_reducible refine Kd.C_drew ?_))) : P := h
theorem yq10 {P : Prop} (h : P := by (with_reducible repeat (first | refine qh ?_ _ | refine qk ?_ | refine qg ?_ _)); exact BK101.out) : P := h
theorem yq11 {P : Prop} (h : P := by repeat (first | exact (Kd.C_below HR0.out yq6) | (with_reducible refine Kd.C_alloc ?_ _) | (with_reducible refine Kd.C_drewN ?_ _) | (with_reducible refine Kd.C_drew ?_))) : P := h
def spec_l6Do.f (k : Nat) (l0 : List (S170)) (a1_0 : Int) (a1_1 : ByteArray) (a1_2 : ByteArray) (a1_3 : ByteArray) : Option ((List (S170)) × Bool) := (spec_l6At.f k l0 a1_1).bind fun t102 => (if a1_0 = 1 then (if t102 ≥ 0 then (if 0 ≤ t102 then (if t102 < (l0.length : Int) then (if ((qj l0 t102).f1).size + a1_3.size ≤ 9223372036854775807 then ((spec_l6Put.f k l0 a1_1 (((qj l0 t102).f1) ++ a1_3)).bind fun t104 => (some (t104, true))) else (none)) else (none)) else (none)) else ((spec_l6Put.f k l0 a1_1 a1_3).bind fun t107 => (some (t107, true)))) else (if t102 < 0 then ((some (([] : List (S170)) : List (S170))).bind fun y110 => (if y110.length + l0.length < 4398046511104 then (some ((y110 ++ l0), false)) else (none))) else ((spec_l6Cut.f k l0 a1_1).bind fun t116 => (if a1_0 = 2 then (if 0 ≤ t102 then (if t102 < (l0.length : Int) then ((spec_l6Put.f k t116 a1_2 ((qj l0 t102).f1)).bind fun t120 => (some (t120, true))) else (none)) else (none)) else (some (t116, true))))))
def spec_l6Do.T11 : Bool × List (List Nat × List Nat) := (true, [([], []), ([], []), ([1], [1]), ([], []), ([], []), ([3, 4], [3, 4]), ([5], [5]), ([6], [6]), ([0, 2, 7], [0, 2, 7]), ([8, 8, 0, 1, 2, 3, 4, 5, 6, 7, 8], [0, 8])])
def spec_l6Do.B11 : List Nat := [0, 0, 2, 0, 0, 24, 56, 120, 255, 511]
theorem spec_l6Do.tab11 : rtab .any (opsOf Try.f123 11) = spec_l6Do.T11 := by kernel_rfl
theorem spec_l6Do.bits11 : waitsOk spec_l6Do.T11.2 spec_l6Do.B11 = true := by kernel_rfl
set_option maxHeartbeats 8000000 in
set_option maxRecDepth 100000 in
theorem spec_l6Do.calls (k : Nat) (A0 : Option Addr) (c0 : Nat) (l0 : List (S170)) (a1_0 : Int) (a1_1 : ByteArray) (a1_2 : ByteArray) (a1_3 : ByteArray) (r1 : List (S170)) (r2 : Bool) (w : World) (hr0 : Kd.C k170 w A0 l0.length l0) (hc0 : l0.length ≤ c0) (h : spec_l6Do.f k l0 a1_0 a1_1 a1_2 a1_3 = some (r1, r2)) :
  Calls Try.prog 123 #[.slice A0 l0.length c0, .agg #[.int .i64 a1_0, .string a1_1, .string a1_2, .string a1_3]] w fun e w' => ∃ v0_ : Value, e = .returned (.tuple #[v0_, .bool r2]) ∧ Kd.R k170 170 w' w.heap.size (fun _ => True) v0_ r1 ∧ Below w.heap.size w w' := by
 have hu157 := Try.underlying157
 have HR0 := Qz.mk hr0
 have HC0 := Qz.mk hc0
 clear hr0 hc0
 have HB := Qz.mk (Below.refl w.heap.size w)
 have H : ((spec_l6At.f k l0 a1_1).bind fun t102 => (if a1_0 = 1 then (if t102 ≥ 0 then (if 0 ≤ t102 then (if t102 < (l0.length : Int) then (if ((qj l0 t102).f1).size + a1_3.size ≤ 9223372036854775807 then ((spec_l6Put.f k l0 a1_1 (((qj l0 t102).f1) ++ a1_3)).bind fun t104 => (some (t104, true))) else (none)) else (none)) else (none)) else ((spec_l6Put.f k l0 a1_1 a1_3).bind fun t107 => (some (t107, true)))) else (if t102 < 0 then ((some (([] : List (S170)) : List (S170))).bind fun y110 => (if y110.length + l0.length < 4398046511104 then (some ((y110 ++ l0), false)) else (none))) else ((spec_l6Cut.f k l0 a1_1).bind fun t116 => (if a1_0 = 2 then (if 0 ≤ t102 then (if t102 < (l0.length : Int) then ((spec_l6Put.f k t116 a1_2 ((qj l0 t102).f1)).bind fun t120 => (some (t120, true))) else (none)) else (none)) else (some (t116, true))))))) = some (r1, r2) := h
 clear h
 replace H := Option.bind_eq_some_iff.mp H
 obtain ⟨t102, A30, H⟩ := H
 replace H : (if a1_0 = 1 then (if t102 ≥ 0 then (if 0 ≤ t102 then (if t102 < (l0.length : Int) then (if ((qj l0 t102).f1).size + a1_3.size ≤ 9223372036854775807 then ((spec_l6Put.f k l0 a1_1 (((qj l0 t102).f1) ++ a1_3)).bind fun t104 => (some (t104, true))) else (none)) else (none)) else (none)) else ((spec_l6Put.f k l0 a1_1 a1_3).bind fun t107 => (some (t107, true)))) else (if t102 < 0 then ((some (([] : List (S170)) : List (S170))).bind fun y110 => (if y110.length + l0.length < 4398046511104 then (some ((y110 ++ l0), false)) else (none))) else ((spec_l6Cut.f k l0 a1_1).bind fun t116 => (if a1_0 = 2 then (if 0 ≤ t102 then (if t102 < (l0.length : Int) then ((spec_l6Put.f k t116 a1_2 ((qj l0 t102).f1)).bind fun t120 => (some (t120, true))) else (none)) else (none)) else (some (t116, true)))))) = some (r1, r2) := H
 have A3 := Qz.mk A30
 clear A30
 by_cases c4 : a1_0 = 1
 ·rw [if_pos c4] at H
  have c4b0 : (a1_0 == 1) = true := beq_iff_eq.mpr c4
  have c4b1 : (a1_0 != 1) = false := bne_eq_false_iff_eq.mpr c4
  clear c4
  by_cases c5 : t102 ≥ 0
  ·rw [if_pos c5] at H
   have c5b0 : decide (0 ≤ t102) = true := decide_eq_true c5
   clear c5
   by_cases c6 : 0 ≤ t102
   ·rw [if_pos c6] at H
    have c6b0 : decide (0 ≤ t102) = true := decide_eq_true c6
    clear c6
    by_cases c7 : t102 < (l0.length : Int)
    ·rw [if_pos c7] at H
     have c7b0 : decide (t102 < (l0.length : Int)) = true := decide_eq_true c7
     clear c7
     by_cases c8 : ((qj l0 t102).f1).size + a1_3.size ≤ 9223372036854775807
     ·rw [if_pos c8] at H
      have c8b0 := eq_true c8
      have c8b1 : decide (((qj l0 t102).f1).size + a1_3.size ≤ 9223372036854775807) = true := decide_eq_true c8
      try have c8b2 : (9223372036854775807 < ((qj l0 t102).f1).size + a1_3.size) = False := eq_false (Nat.not_lt.2 c8)
      replace H := Option.bind_eq_some_iff.mp H
      obtain ⟨t104, A90, H⟩ := H
      replace H : (some (t104, true)) = some (r1, r2) := H
      have A9 := Qz.mk A90
      clear A90
      simp only [Option.some.injEq, Prod.mk.injEq] at H
      obtain ⟨rfl, rfl⟩ := H
      go_enter Try.func123, Try.ntmps123
      go_wp2_with (first | ((with_reducible refine qt (N := 3) rfl ?_); refine qr ?hg (N := 3) ?hd (cs := #[.int .i64 a1_0, .string a1_1, .string a1_2, .string a1_3]) (t := 157) ?hr ?_; (case hd => rfl); (case hg => rfl); (case hr => first | (go_simp; done) | (go_simp; rfl)); intro gb101 hg w10 hbox hb; have BK101 := Qz.mk (hbox); have GW101 := Qz.mk ((by rw [hg]; exact (qo yq8) : w.heap.size ≤ gb101)); have GE101 := GW101; replace HB := Qz.mk (ql yq8 hb); clear hb hbox hg; have hcz11_0 := (qd BK101.out 0).trans rfl; have hcz11_1 := (qd BK101.out 1).trans rfl; have hcz11_2 := (qd BK101.out 2).trans rfl; have hcz11_3 := (qd BK101.out 3).trans rfl; have hfz11_0 := qe BK101.out 0; have hfz11_1 := qe BK101.out 1; have hfz11_2 := qe BK101.out 2; have hfz11_3 := qe BK101.out 3) | ((with_reducible refine qp (f := 141) rfl ?_); refine qc1 (some 12) rfl rfl Try.func141 (by kernel_rfl) rfl #[.slice A0 l0.length c0, .string a1_1] rfl yq7 ?_; (with_reducible refine (spec_l6At.calls k _ _ l0 a1_1 t102 _ ?side1 ?side2 A3.out).mono ?_); (case side1 => exact yq9); (case side2 => exact HC0.out); rintro e w' ⟨rfl, ⟨nd, rfl⟩⟩; refine ⟨_, rfl, ?_⟩; have p103 : 0 ≤ (t102 : Int) := of_decide_eq_true (by first | (with_reducible assumption) | assumption); have q103 : t102 < (l0.length : Int) := of_decide_eq_true (by first | (with_reducible assumption) | assumption); obtain ⟨ad103, e103, hx103_0, hx103_1⟩ := at_T170 HR0.out t102 p103 q103; cases e103; replace hx103_0 := (HB.out.cell (World.block_lt_of_cell? w _ hx103_0)).trans hx103_0; replace hx103_1 := (HB.out.cell (World.block_lt_of_cell? w _ hx103_1)).trans hx103_1; replace p103 := eq_true p103; replace q103 := eq_true q103) | ((with_reducible refine qp (f := 174) rfl ?_); refine qc1 (some 31) rfl rfl Try.func174 (by kernel_rfl) rfl #[.slice (some ad103) l0.length c0, .string a1_1, .string (((qj l0 t102).f1) ++ a1_3)] rfl yq7 ?_; (with_reducible refine (spec_l6Put.calls k _ _ l0 a1_1 (((qj l0 t102).f1) ++ a1_3) t104 _ ?side1 ?side2 A9.out).mono ?_); (case side1 => exact yq11); (case side2 => exact HC0.out); rintro e w12 ⟨v105, rfl, ho0, hb⟩; refine ⟨_, rfl, ?_⟩; have HO106 := Qz.mk (Kd.R_lower ho0 (qo yq6)); replace BK101 := Qz.mk (qq (g := gb101) (o := .cells #[.int .i64 a1_0, .string a1_1, .string a1_2, .string a1_3] 157 (0, 0)) yq10 hb); replace HB := Qz.mk (ql yq6 hb); (try clear hb); (try clear hk); (try clear ho0)))
      go_ret2
      exact ⟨_, by first | rfl | (simp [qn, qm] <;> rfl) | (simp [*, qn, qm] <;> rfl), by (with_reducible repeat (first | apply Kd.R_alloc | apply Kd.R_drewN | apply Kd.R_drew)); exact HO106.out, by repeat (first | (with_reducible first | exact HB.out | apply qc | apply qa | apply qb | refine qf ?_ GE101.out) | exact HB.out)⟩
     ·rw [if_neg c8] at H
      exact absurd H (by simp)
    ·rw [if_neg c7] at H
     exact absurd H (by simp)
   ·rw [if_neg c6] at H
    exact absurd H (by simp)
  ·rw [if_neg c5] at H
   have c5b0 : decide (0 ≤ t102) = false := decide_eq_false c5
   clear c5
   replace H := Option.bind_eq_some_iff.mp H
   obtain ⟨t107, A130, H⟩ := H
   replace H : (some (t107, true)) = some (r1, r2) := H
   have A13 := Qz.mk A130
   clear A130
   simp only [Option.some.injEq, Prod.mk.injEq] at H
   obtain ⟨rfl, rfl⟩ := H
   go_enter Try.func123, Try.ntmps123
   go_wp2_with (first | ((with_reducible refine qt (N := 3) rfl ?_); refine qr ?hg (N := 3) ?hd (cs := #[.int .i64 a1_0, .string a1_1, .string a1_2, .string a1_3]) (t := 157) ?hr ?_; (case hd => rfl); (case hg => rfl); (case hr => first | (go_simp; done) | (go_simp; rfl)); intro gb101 hg w14 hbox hb; have BK101 := Qz.mk (hbox); have GW101 := Qz.mk ((by rw [hg]; exact (qo yq8) : w.heap.size ≤ gb101)); have GE101 := GW101; replace HB := Qz.mk (ql yq8 hb); clear hb hbox hg; have hcz15_0 := (qd BK101.out 0).trans rfl; have hcz15_1 := (qd BK101.out 1).trans rfl; have hcz15_2 := (qd BK101.out 2).trans rfl; have hcz15_3 := (qd BK101.out 3).trans rfl; have hfz15_0 := qe BK101.out 0; have hfz15_1 := qe BK101.out 1; have hfz15_2 := qe BK101.out 2; have hfz15_3 := qe BK101.out 3) | ((with_reducible refine qp (f := 141) rfl ?_); refine qc1 (some 12) rfl rfl Try.func141 (by kernel_rfl) rfl #[.slice A0 l0.length c0, .string a1_1] rfl yq7 ?_; (with_reducible refine (spec_l6At.calls k _ _ l0 a1_1 t102 _ ?side1 ?side2 A3.out).mono ?_); (case side1 => exact yq9); (case side2 => exact HC0.out); rintro e w' ⟨rfl, ⟨nd, rfl⟩⟩; refine ⟨_, rfl, ?_⟩) | ((with_reducible refine qp (f := 174) rfl ?_); refine qc1 (some 31) rfl rfl Try.func174 (by kernel_rfl) rfl #[.slice A0 l0.length c0, .string a1_1, .string a1_3] rfl yq7 ?_; (with_reducible refine (spec_l6Put.calls k _ _ l0 a1_1 a1_3 t107 _ ?side1 ?side2 A13.out).mono ?_); (case side1 => exact yq11); (case side2 => exact HC0.out); rintro e w16 ⟨v108, rfl, ho0, hb⟩; refine ⟨_, rfl, ?_⟩; have HO109 := Qz.mk (Kd.R_lower ho0 (qo yq6)); replace BK101 := Qz.mk (qq (g := gb101) (o := .cells #[.int .i64 a1_0, .string a1_1, .string a1_2, .string a1_3] 157 (0, 0)) yq10 hb); replace HB := Qz.mk (ql yq6 hb); (try clear hb); (try clear hk); (try clear ho0)))
   go_ret2
   exact ⟨_, by first | rfl | (simp [qn, qm] <;> rfl) | (simp [*, qn, qm] <;> rfl), by (with_reducible repeat (first | apply Kd.R_alloc | apply Kd.R_drewN | apply Kd.R_drew)); exact HO109.out, by repeat (first | (with_reducible first | exact HB.out | apply qc | apply qa | apply qb | refine qf ?_ GE101.out) | exact HB.out)⟩
 ·rw [if_neg c4] at H
  have c4b0 : (a1_0 == 1) = false := beq_eq_false_iff_ne.mpr c4
  have c4b1 : (a1_0 != 1) = true := bne_iff_ne.mpr c4
  by_cases c17 : t102 < 0
  ·rw [if_pos c17] at H
   have c17b0 : decide (t102 < 0) = true := decide_eq_true c17
   clear c17
   obtain ⟨y110, hy110⟩ : ∃ y_ : List (S170), y_ = (([] : List (S170))) := ⟨_, rfl⟩
   replace H : (if y110.length + l0.length < 4398046511104 then (some ((y110 ++ l0), false)) else (none)) = some (r1, r2) := by first | (rw [hy110]; with_reducible exact H) | (have H2_ := (Option.bind_some _ _).symm.trans H; rw [hy110]; with_reducible exact H2_) | (have H2_ := (Option.bind_some _ _).symm.trans H; with_reducible exact H2_) | with_reducible exact H | (rw [hy110]; exact H) | exact H
   have Ny110 := Qz.mk hy110
   clear hy110
   by_cases c18 : y110.length + l0.length < 4398046511104
   ·rw [if_pos c18] at H
    have LMc18 := Qz.mk c18
    clear c18
    obtain ⟨y113, hy113⟩ : ∃ y_ : List (S170), y_ = (y110 ++ l0) := ⟨_, rfl⟩
    replace H : (some (y113, false)) = some (r1, r2) := by first | (rw [hy113]; with_reducible exact H) | (have H2_ := (Option.bind_some _ _).symm.trans H; rw [hy113]; with_reducible exact H2_) | (have H2_ := (Option.bind_some _ _).symm.trans H; with_reducible exact H2_) | with_reducible exact H | (rw [hy113]; exact H) | exact H
    have Ny113 := Qz.mk hy113
    clear hy113
    simp only [Option.some.injEq, Prod.mk.injEq] at H
    obtain ⟨rfl, rfl⟩ := H
    go_enter Try.func123, Try.ntmps123
    go_wp2_with (first | ((with_reducible refine qt (N := 3) rfl ?_); refine qr ?hg (N := 3) ?hd (cs := #[.int .i64 a1_0, .string a1_1, .string a1_2, .string a1_3]) (t := 157) ?hr ?_; (case hd => rfl); (case hg => rfl); (case hr => first | (go_simp; done) | (go_simp; rfl)); intro gb101 hg w19 hbox hb; have BK101 := Qz.mk (hbox); have GW101 := Qz.mk ((by rw [hg]; exact (qo yq8) : w.heap.size ≤ gb101)); have GE101 := GW101; replace HB := Qz.mk (ql yq8 hb); clear hb hbox hg; have hcz20_0 := (qd BK101.out 0).trans rfl; have hcz20_1 := (qd BK101.out 1).trans rfl; have hcz20_2 := (qd BK101.out 2).trans rfl; have hcz20_3 := (qd BK101.out 3).trans rfl; have hfz20_0 := qe BK101.out 0; have hfz20_1 := qe BK101.out 1; have hfz20_2 := qe BK101.out 2; have hfz20_3 := qe BK101.out 3) | ((with_reducible refine qp (f := 141) rfl ?_); refine qc1 (some 12) rfl rfl Try.func141 (by kernel_rfl) rfl #[.slice A0 l0.length c0, .string a1_1] rfl yq7 ?_; (with_reducible refine (spec_l6At.calls k _ _ l0 a1_1 t102 _ ?side1 ?side2 A3.out).mono ?_); (case side1 => exact yq9); (case side2 => exact HC0.out); rintro e w' ⟨rfl, ⟨nd, rfl⟩⟩; refine ⟨_, rfl, ?_⟩) | ((with_reducible refine qt (N := 34) rfl ?_); refine Kd.R_lit k170 _ 170 ?hg (N := 34) ?hd (xs := ([] : List (S170))) (inner := []) (ok := fun _ => True) (okp := fun _ => True) ?hr ?hp (fun _ hk => hk) trivial (Below.refl _ _) (Nat.le_refl _) (by simp) ?_; (case hd => rfl); (case hg => rfl); (case hr => first | (go_simp; done) | (go_simp; rfl)); (case hp => exact (Reps.none _ _)); intro v111 w21 ho22 hb hg_ hnew_; clear hg_ hnew_; (first | rw [← Ny110.out] at ho22 | (simp only [Int.reduceToNat] at ho22; rw [← Ny110.out] at ho22)); have HO112 := Qz.mk (Kd.R_lower ho22 (qo yq6)); replace BK101 := Qz.mk (qq (g := gb101) (o := .cells #[.int .i64 a1_0, .string a1_1, .string a1_2, .string a1_3] 157 (0, 0)) yq10 hb); replace HB := Qz.mk (ql yq6 hb); clear hb ho22) | ((with_reducible refine gate_builtin (b := .append) (xs := #[.tmp 34, .tmp 35]) rfl ?_); at_builtin; refine Kd.R_append_rows k170 (w0 := w) w.heap.size rfl (.tmp 34) (.tmp 35) 82 170 (.agg #[(.string ⟨#[]⟩), (.string ⟨#[]⟩)]) 32 rfl Try.underlying82 info170 rfl (by decide) (by omega) v111 y110 l0 _ _ _ (fun _ => True) (fun _ => False) rfl rfl ?aO ?aR (fun _ _ h => h) (fun _ h => h.elim) ?aF ?aB ?aS ?aL ?_; (case aR => exact yq9); (case aB => exact yq6); (case aF => exact (fun _ _ => trivial)); (case aO => exact (by (with_reducible repeat (first | apply Kd.R_alloc | apply Kd.R_drewN | apply Kd.R_drew)); exact HO112.out)); (case aS => exact (qo yq6)); (case aL => have := LMc18.out; omega); intro v114 w23 ho hb hg hat; rw [← Ny113.out] at ho; have n0_ := Qz.mk (blk_grown (g := gb101) (o := .cells #[.int .i64 a1_0, .string a1_1, .string a1_2, .string a1_3] 157 (0, 0)) yq10 hg (Kd.R_ne HO112.out BK101.out (by decide))); have n1_ := Qz.mk (hb); have n2_ := Qz.mk (ho); clear BK101; clear HB; clear HO112; have BK101 := n0_; have HB := n1_; have HO115 := n2_; clear n0_ n1_ n2_; clear ho hb hg hat))
    go_ret2
    exact ⟨_, by first | rfl | (simp [qn, qm] <;> rfl) | (simp [*, qn, qm] <;> rfl), by (with_reducible repeat (first | apply Kd.R_alloc | apply Kd.R_drewN | apply Kd.R_drew)); exact HO115.out, by repeat (first | (with_reducible first | exact HB.out | apply qc | apply qa | apply qb | refine qf ?_ GE101.out) | exact HB.out)⟩
   ·rw [if_neg c18] at H
    exact absurd H (by simp)
  ·rw [if_neg c17] at H
   have c17b0 : decide (t102 < 0) = false := decide_eq_false c17
   clear c17
   replace H := Option.bind_eq_some_iff.mp H
   obtain ⟨t116, A240, H⟩ := H
   replace H : (if a1_0 = 2 then (if 0 ≤ t102 then (if t102 < (l0.length : Int) then ((spec_l6Put.f k t116 a1_2 ((qj l0 t102).f1)).bind fun t120 => (some (t120, true))) else (none)) else (none)) else (some (t116, true))) = some (r1, r2) := H
   have A24 := Qz.mk A240
   clear A240
   by_cases c25 : a1_0 = 2
   ·rw [if_pos c25] at H
    have c25b0 : (a1_0 == 2) = true := beq_iff_eq.mpr c25
    have c25b1 : (a1_0 != 2) = false := bne_eq_false_iff_eq.mpr c25
    clear c25
    by_cases c26 : 0 ≤ t102
    ·rw [if_pos c26] at H
     have c26b0 : decide (0 ≤ t102) = true := decide_eq_true c26
     clear c26
     by_cases c27 : t102 < (l0.length : Int)
     ·rw [if_pos c27] at H
      have c27b0 : decide (t102 < (l0.length : Int)) = true := decide_eq_true c27
      clear c27
      replace H := Option.bind_eq_some_iff.mp H
      obtain ⟨t120, A280, H⟩ := H
      replace H : (some (t120, true)) = some (r1, r2) := H
      have A28 := Qz.mk A280
      clear A280
      simp only [Option.some.injEq, Prod.mk.injEq] at H
      obtain ⟨rfl, rfl⟩ := H
      go_enter Try.func123, Try.ntmps123
      try go_wp2_with (first | ((with_reducible refine qt (N := 3) rfl ?_); refine qr ?hg (N := 3) ?hd (cs := #[.int .i64 a1_0, .string a1_1, .string a1_2, .string a1_3]) (t := 157) ?hr ?_; (case hd => rfl); (case hg => rfl); (case hr => first | (go_simp; done) | (go_simp; rfl)); intro gb101 hg w29 hbox hb; have BK101 := Qz.mk (hbox); have GW101 := Qz.mk ((by rw [hg]; exact (qo yq8) : w.heap.size ≤ gb101)); have GE101 := GW101; replace HB := Qz.mk (ql yq8 hb); clear hb hbox hg; have hcz30_0 := (qd BK101.out 0).trans rfl; have hcz30_1 := (qd BK101.out 1).trans rfl; have hcz30_2 := (qd BK101.out 2).trans rfl; have hcz30_3 := (qd BK101.out 3).trans rfl; have hfz30_0 := qe BK101.out 0; have hfz30_1 := qe BK101.out 1; have hfz30_2 := qe BK101.out 2; have hfz30_3 := qe BK101.out 3) | ((with_reducible refine qp (f := 141) rfl ?_); refine qc1 (some 12) rfl rfl Try.func141 (by kernel_rfl) rfl #[.slice A0 l0.length c0, .string a1_1] rfl yq7 ?_; (with_reducible refine (spec_l6At.calls k _ _ l0 a1_1 t102 _ ?side1 ?side2 A3.out).mono ?_); (case side1 => exact yq9); (case side2 => exact HC0.out); rintro e w' ⟨rfl, ⟨nd, rfl⟩⟩; refine ⟨_, rfl, ?_⟩) | ((with_reducible refine qp (f := 175) rfl ?_); refine qc1 (some 40) rfl rfl Try.func175 (by kernel_rfl) rfl #[.slice A0 l0.length c0, .string a1_1] rfl yq7 ?_; (with_reducible refine (spec_l6Cut.calls k _ _ l0 a1_1 t116 _ ?side1 ?side2 A24.out).mono ?_); (case side1 => exact yq11); (case side2 => exact HC0.out); rintro e w31 ⟨v117, rfl, ho0, hb⟩; refine ⟨_, rfl, ?_⟩; have HO118 := Qz.mk (Kd.R_lower ho0 (qo yq6)); replace BK101 := Qz.mk (qq (g := gb101) (o := .cells #[.int .i64 a1_0, .string a1_1, .string a1_2, .string a1_3] 157 (0, 0)) yq10 hb); replace HB := Qz.mk (ql yq6 hb); (try clear hb); (try clear hk); (try clear ho0); have hcz32_0 := (qd BK101.out 0).trans rfl; have hcz32_1 := (qd BK101.out 1).trans rfl; have hcz32_2 := (qd BK101.out 2).trans rfl; have hcz32_3 := (qd BK101.out 3).trans rfl; have hfz32_0 := qe BK101.out 0; have hfz32_1 := qe BK101.out 1; have hfz32_2 := qe BK101.out 2; have hfz32_3 := qe BK101.out 3))
      replace HO118 := Qz.mk (Kd.R_drew HO118.out)
      replace BK101 := Qz.mk (qk BK101.out)
      replace HB := Qz.mk (qb HB.out)
      have p119 : 0 ≤ (t102 : Int) := of_decide_eq_true (by first | (with_reducible assumption) | assumption)
      have q119 : t102 < (l0.length : Int) := of_decide_eq_true (by first | (with_reducible assumption) | assumption)
      obtain ⟨ad119, e119, hx119_0, hx119_1⟩ := at_T170 HR0.out t102 p119 q119
      have hw119_1 := hx119_1
      have hw119_0 := hx119_0
      cases e119
      replace hx119_0 := (HB.out.cell (World.block_lt_of_cell? w _ hx119_0)).trans hx119_0
      replace hx119_1 := (HB.out.cell (World.block_lt_of_cell? w _ hx119_1)).trans hx119_1
      replace p119 := eq_true p119
      replace q119 := eq_true q119
      obtain ⟨Ao34, co34, eo34⟩ := Kd.R_slice HO118.out
      (first | subst eo34 | (injection eo34 with f1_ f2_ f3_; have f4_ := f1_.symm; have f5_ := f3_.symm; clear f1_ f2_ f3_; subst f4_; subst f5_))
      refine start_ (n := 10) (S := fun w' => w'.cell? ⟨gb101, 0, none⟩ = some (.int .i64 a1_0) ∧ w'.cell? ⟨gb101, 1, none⟩ = some (.string a1_1) ∧ w'.cell? ⟨gb101, 2, none⟩ = some (.string a1_2) ∧ w'.cell? ⟨gb101, 3, none⟩ = some (.string a1_3) ∧ w'.cell? (ad119.add ((t102).toNat * 2)) = some (.string ((qj l0 t102).f0)) ∧ w'.cell? ⟨(ad119.add ((t102).toNat * 2)).block, (ad119.add ((t102).toNat * 2)).off + 1, none⟩ = some (.string ((qj l0 t102).f1))) (ds := []) bq1 (by kernel_rfl) rfl rfl ⟨(qd BK101.out 0).trans rfl, (qd BK101.out 1).trans rfl, (qd BK101.out 2).trans rfl, (qd BK101.out 3).trans rfl, ((HB.out.cell (World.block_lt_of_cell? w _ hw119_0)).trans hw119_0), ((HB.out.cell (World.block_lt_of_cell? w _ hw119_1)).trans hw119_1)⟩ (fun hHeld => ?_); refine with_tabW spec_l6Do.tab11 spec_l6Do.bits11 (fun HT_ HW_ => ?_)
      generalize w31.drew = w33 at HO118 BK101 HB hx119_0 hx119_1 hHeld ⊢
      refine pure_ (i := 0) (N := some 44) (v := ?_) (a' := ?_) bq4 rfl rfl (qw HT_.out (by kernel_rfl)) (fun _ _ _ h => h) (Or.inl ⟨by rfl, ?_⟩) ?_ ?_
      rotate_left
      ·intro w'
       go_simp
       with_reducible rfl
      rotate_left
      ·simp only [Act.put, sq1, sq2, sq3, i64_w, i32_w]
       rfl
      refine pure_ (i := 1) (N := some 45) (v := ?_) (a' := ?_) bq7 rfl rfl (qw HT_.out (by kernel_rfl)) (fun _ _ _ h => h) (Or.inl ⟨by rfl, ?_⟩) ?_ ?_
      rotate_left
      ·intro w'
       go_simp
       with_reducible rfl
      rotate_left
      ·simp only [Act.put, sq1, sq2, sq3, i64_w, i32_w]
       rfl
      refine pure_ (i := 3) (N := some 47) (v := ?_) (a' := ?_) #[true, true, false, true, false, false, false, false, false, false] rfl rfl (qw HT_.out (by kernel_rfl)) (fun _ _ _ h => h) (Or.inl ⟨by rfl, ?_⟩) ?_ ?_
      rotate_left
      ·intro w'
       go_simp
       with_reducible rfl
      rotate_left
      ·simp only [Act.put, sq1, sq2, sq3, i64_w, i32_w]
       rfl
      refine pure_ (i := 4) (N := some 48) (v := ?_) (a' := ?_) #[true, true, false, true, true, false, false, false, false, false] rfl rfl (qw HT_.out (by kernel_rfl)) (fun _ _ _ h => h) (Or.inl ⟨by rfl, ?_⟩) ?_ ?_
      rotate_left
      ·intro w'
       go_simp
       with_reducible rfl
      rotate_left
      ·simp only [Act.put, sq1, sq2, sq3, i64_w, i32_w]
       rfl
      refine pure_ (i := 5) (N := some 49) (v := ?_) (a' := ?_) #[true, true, false, true, true, true, false, false, false, false] rfl rfl (qw HT_.out (by kernel_rfl)) (fun _ _ _ h => h) (Or.inl ⟨by rfl, ?_⟩) ?_ ?_
      rotate_left
      ·intro w'
       go_simp
       with_reducible rfl
      rotate_left
      ·simp only [Act.put, sq1, sq2, sq3, i64_w, i32_w]
       rfl
      refine pure_ (i := 6) (N := some 50) (v := ?_) (a' := ?_) #[true, true, false, true, true, true, true, false, false, false] rfl rfl (qw HT_.out (by kernel_rfl)) (fun _ _ _ h => h) (Or.inl ⟨by rfl, ?_⟩) ?_ ?_
      rotate_left
      ·intro w'
       go_simp
       with_reducible rfl
      rotate_left
      ·simp only [Act.put, sq1, sq2, sq3, i64_w, i32_w]
       rfl
      refine take_ (i := 2) (N := some 46) (v := ?_) (a' := ?_) bq22 rfl rfl (take_ofW HT_.out HW_.out (by kernel_rfl)) (fun _ _ _ h => h) (Or.inl ⟨by rfl, ?_⟩) hHeld ?_ ?_
      rotate_left
      ·rintro w' ⟨s0, s1, s2, s3, s4, s5⟩
       go_simp
       with_reducible rfl
      rotate_left
      ·simp only [Act.put, sq1, sq2, sq3, i64_w, i32_w]
       rfl
      refine take_ (i := 7) (N := some 51) (v := ?_) (a' := ?_) bq25 rfl rfl (take_ofW HT_.out HW_.out (by kernel_rfl)) (fun _ _ _ h => h) (Or.inl ⟨by rfl, ?_⟩) hHeld ?_ ?_
      rotate_left
      ·rintro w' ⟨s0, s1, s2, s3, s4, s5⟩
       go_simp
       with_reducible rfl
      rotate_left
      ·simp only [Act.put, sq1, sq2, sq3, i64_w, i32_w]
       rfl
      refine one_ (i := 8) (N := some 52) bq27 rfl rfl (one_of HT_.out (by kernel_rfl)) (by decide) (fun K hK => ?_)
      refine goes_ Try.func174 (by kernel_rfl) rfl #[.slice Ao34 t116.length co34, .string a1_2, .string ((qj l0 t102).f1)] (by rfl) rfl rfl yq7 ?_
      with_reducible refine (spec_l6Put.calls k _ _ t116 a1_2 ((qj l0 t102).f1) t120 _ ?side1 ?side2 A28.out).mono ?_
      (case side1 => repeat (first | exact (Kd.R_reads' HO118.out).2.2 | (with_reducible refine Kd.C_alloc ?_ _) | (with_reducible refine Kd.C_drewN ?_ _) | (with_reducible refine Kd.C_drew ?_)))
      (case side2 => exact (Kd.R_reads' HO118.out).2.1)
      rintro e w35 ⟨v121, rfl, ho0, hb⟩
      refine ⟨_, rfl, ?_⟩
      have HO122 := Qz.mk (Kd.R_lower (Kd.R_new' ho0 (Kd.R_lt (by (with_reducible repeat (first | apply Kd.R_alloc | apply Kd.R_drewN | apply Kd.R_drew)); exact HO118.out))) (qo yq6))
      replace HO118 := Qz.mk (Kd.R_elder' (by (with_reducible repeat (first | apply Kd.R_alloc | apply Kd.R_drewN | apply Kd.R_drew)); exact HO118.out) (Kd.R_base ho0) hb)
      replace BK101 := Qz.mk (qq (g := gb101) (o := .cells #[.int .i64 a1_0, .string a1_1, .string a1_2, .string a1_3] 157 (0, 0)) yq10 hb)
      replace HB := Qz.mk (ql yq6 hb)
      (try clear hb)
      (try clear hk)
      (try clear ho0)
      refine hK.out _ _ ⟨(qd BK101.out 0).trans rfl, (qd BK101.out 1).trans rfl, (qd BK101.out 2).trans rfl, (qd BK101.out 3).trans rfl, ((HB.out.cell (World.block_lt_of_cell? w _ hw119_0)).trans hw119_0), ((HB.out.cell (World.block_lt_of_cell? w _ hw119_1)).trans hw119_1)⟩ (fun hHeld => ?_)
      clear hK K
      refine norm_ (a' := ?_) ?_ ?_
      rotate_left
      ·show Act.put _ (some 52) _ = _
       simp only [Act.put, sq1, sq2, sq3, i64_w, i32_w]
       rfl
      refine pure_ (i := 9) (N := some 8) (v := ?_) (a' := ?_) bq30 rfl rfl (qw HT_.out (by kernel_rfl)) (fun _ _ _ h => h) (Or.inl ⟨by rfl, ?_⟩) ?_ ?_
      rotate_left
      ·intro w'
       go_simp
       with_reducible rfl
      rotate_left
      ·simp only [Act.put, sq1, sq2, sq3, i64_w, i32_w]
       rfl
      refine done_ (done_of HT_.out (by kernel_rfl)) ?_
      try go_wp2
      go_ret2
      exact ⟨_, by first | rfl | (simp [qn, qm] <;> rfl) | (simp [*, qn, qm] <;> rfl), by (with_reducible repeat (first | apply Kd.R_alloc | apply Kd.R_drewN | apply Kd.R_drew)); exact Kd.R_mono HO122.out (fun _ hk => trivial), by repeat (first | (with_reducible first | exact HB.out | apply qc | apply qa | apply qb | refine qf ?_ GE101.out) | exact HB.out)⟩
     ·rw [if_neg c27] at H
      exact absurd H (by simp)
    ·rw [if_neg c26] at H
     exact absurd H (by simp)
   ·rw [if_neg c25] at H
    have c25b0 : (a1_0 == 2) = false := beq_eq_false_iff_ne.mpr c25
    have c25b1 : (a1_0 != 2) = true := bne_iff_ne.mpr c25
    simp only [Option.some.injEq, Prod.mk.injEq] at H
    obtain ⟨rfl, rfl⟩ := H
    go_enter Try.func123, Try.ntmps123
    go_wp2_with (first | ((with_reducible refine qt (N := 3) rfl ?_); refine qr ?hg (N := 3) ?hd (cs := #[.int .i64 a1_0, .string a1_1, .string a1_2, .string a1_3]) (t := 157) ?hr ?_; (case hd => rfl); (case hg => rfl); (case hr => first | (go_simp; done) | (go_simp; rfl)); intro gb101 hg w36 hbox hb; have BK101 := Qz.mk (hbox); have GW101 := Qz.mk ((by rw [hg]; exact (qo yq8) : w.heap.size ≤ gb101)); have GE101 := GW101; replace HB := Qz.mk (ql yq8 hb); clear hb hbox hg; have hcz37_0 := (qd BK101.out 0).trans rfl; have hcz37_1 := (qd BK101.out 1).trans rfl; have hcz37_2 := (qd BK101.out 2).trans rfl; have hcz37_3 := (qd BK101.out 3).trans rfl; have hfz37_0 := qe BK101.out 0; have hfz37_1 := qe BK101.out 1; have hfz37_2 := qe BK101.out 2; have hfz37_3 := qe BK101.out 3) | ((with_reducible refine qp (f := 141) rfl ?_); refine qc1 (some 12) rfl rfl Try.func141 (by kernel_rfl) rfl #[.slice A0 l0.length c0, .string a1_1] rfl yq7 ?_; (with_reducible refine (spec_l6At.calls k _ _ l0 a1_1 t102 _ ?side1 ?side2 A3.out).mono ?_); (case side1 => exact yq9); (case side2 => exact HC0.out); rintro e w' ⟨rfl, ⟨nd, rfl⟩⟩; refine ⟨_, rfl, ?_⟩) | ((with_reducible refine qp (f := 175) rfl ?_); refine qc1 (some 40) rfl rfl Try.func175 (by kernel_rfl) rfl #[.slice A0 l0.length c0, .string a1_1] rfl yq7 ?_; (with_reducible refine (spec_l6Cut.calls k _ _ l0 a1_1 t116 _ ?side1 ?side2 A24.out).mono ?_); (case side1 => exact yq11); (case side2 => exact HC0.out); rintro e w38 ⟨v117, rfl, ho0, hb⟩; refine ⟨_, rfl, ?_⟩; have HO118 := Qz.mk (Kd.R_lower ho0 (qo yq6)); replace BK101 := Qz.mk (qq (g := gb101) (o := .cells #[.int .i64 a1_0, .string a1_1, .string a1_2, .string a1_3] 157 (0, 0)) yq10 hb); replace HB := Qz.mk (ql yq6 hb); (try clear hb); (try clear hk); (try clear ho0); have hcz39_0 := (qd BK101.out 0).trans rfl; have hcz39_1 := (qd BK101.out 1).trans rfl; have hcz39_2 := (qd BK101.out 2).trans rfl; have hcz39_3 := (qd BK101.out 3).trans rfl; have hfz39_0 := qe BK101.out 0; have hfz39_1 := qe BK101.out 1; have hfz39_2 := qe BK101.out 2; have hfz39_3 := qe BK101.out 3))
    go_ret2
    exact ⟨_, by first | rfl | (simp [qn, qm] <;> rfl) | (simp [*, qn, qm] <;> rfl), by (with_reducible repeat (first | apply Kd.R_alloc | apply Kd.R_drewN | apply Kd.R_drew)); exact HO118.out, by repeat (first | (with_reducible first | exact HB.out | apply qc | apply qa | apply qb | refine qf ?_ GE101.out) | exact HB.out)⟩
def spec_l1In.f (a0 : Int) (a1 : Int) (a2 : Int) : Option (Bool) := if a0 ≥ a1 then (some (decide (a0 ≤ a2))) else (some false)
set_option maxHeartbeats 8000000 in
set_option maxRecDepth 100000 in
theorem spec_l1In.calls (a0 : Int) (a1 : Int) (a2 : Int) (r : Bool) (w : World) (h : spec_l1In.f a0 a1 a2 = some r) :
  Calls Try.prog 69 #[.int .i64 a0, .int .i64 a1, .int .i64 a2] w fun e w' => e = .returned (.bool r) ∧ Drawn0 w w' := by
 have H : (if a0 ≥ a1 then (some (decide (a0 ≤ a2))) else (some false)) = some r := h
 clear h
 by_cases c4 : a0 ≥ a1
 ·rw [if_pos c4] at H
  have c4b0 : decide (a1 ≤ a0) = true := decide_eq_true c4
  clear c4
  obtain rfl := Option.some.inj H
  go_enter Try.func69, Try.ntmps69
  go_wp2
  go_ret
  exact ⟨by first | rfl | (simp; done) | (simp [*]; done), by repeat (first | exact Drawn0.refl _ | apply Drawn0.step)⟩
 ·rw [if_neg c4] at H
  have c4b0 : decide (a1 ≤ a0) = false := decide_eq_false c4
  clear c4
  obtain rfl := Option.some.inj H
  go_enter Try.func69, Try.ntmps69
  go_wp2
  go_ret
  exact ⟨by first | rfl | (simp; done) | (simp [*]; done), by repeat (first | exact Drawn0.refl _ | apply Drawn0.step)⟩
theorem yq12 {P : Prop} (h : P := by (try simp only [List.map_toArray, List.map_cons, List.map_nil]); first | done | rfl) : P := h
def spec_l6Form.j0 : Nat → Bool → Int → ByteArray → ByteArray → ByteArray → Option (Bool)
 | 0, _, _, _, _, _ => none
 | k + 1, x12, x102000, x102001, x102002, x102003 => if x12 = true then (some false) else (if x102000 = 2 then ((spec_l6Name.f x102002).bind fun t104 => (if t104 = true then (some (x102003.toList == ([] : List UInt8))) else (some false))) else (if x102002.toList = ([] : List UInt8) then (if x102000 = 1 then (some true) else (some (x102003.toList == ([] : List UInt8)))) else (some false)))
def spec_l6Form.f (k : Nat) (a0_0 : Int) (a0_1 : ByteArray) (a0_2 : ByteArray) (a0_3 : ByteArray) : Option (Bool) := (spec_l1In.f a0_0 1 3).bind fun t102 => (if t102 = true then ((spec_l6Name.f a0_1).bind fun t103 => (spec_l6Form.j0 k (!t103) a0_0 a0_1 a0_2 a0_3)) else (spec_l6Form.j0 k true a0_0 a0_1 a0_2 a0_3))
set_option maxHeartbeats 8000000 in
set_option maxRecDepth 100000 in
theorem spec_l6Form.calls (k : Nat) (a0_0 : Int) (a0_1 : ByteArray) (a0_2 : ByteArray) (a0_3 : ByteArray) (r : Bool) (w : World) (h : spec_l6Form.f k a0_0 a0_1 a0_2 a0_3 = some r) :
  Calls Try.prog 134 #[.agg #[.int .i64 a0_0, .string a0_1, .string a0_2, .string a0_3]] w fun e w' => e = .returned (.bool r) ∧ Below w.heap.size w w' := by
 have hu157 := Try.underlying157
 have HB := Qz.mk (Below.refl w.heap.size w)
 have H : ((spec_l1In.f a0_0 1 3).bind fun t102 => (if t102 = true then ((spec_l6Name.f a0_1).bind fun t103 => (spec_l6Form.j0 k (!t103) a0_0 a0_1 a0_2 a0_3)) else (spec_l6Form.j0 k true a0_0 a0_1 a0_2 a0_3))) = some r := h
 clear h
 have HC2 := Qz.mk H
 clear H
 go_enter Try.func134, Try.ntmps134
 go_upto_region 1 with (first | ((with_reducible refine qt (N := 1) rfl ?_); refine qr ?hg (N := 1) ?hd (cs := #[.int .i64 a0_0, .string a0_1, .string a0_2, .string a0_3]) (t := 157) ?hr ?_; (case hd => rfl); (case hg => rfl); (case hr => first | (go_simp; done) | (go_simp; rfl)); intro gb101 hg w3 hbox hb; have BK101 := Qz.mk (hbox); have GW101 := Qz.mk ((by rw [hg]; exact (qo (by repeat (first | (with_reducible first | exact HB.out | apply qc | apply qa | apply qb) | exact HB.out))) : w.heap.size ≤ gb101)); have GE101 := GW101; replace HB := Qz.mk (ql (by repeat (first | (with_reducible first | exact HB.out | apply qc | apply qa | apply qb) | exact HB.out)) hb); clear hb hbox hg))
 (try simp only [Act.put, sq1, sq2, sq3])
 go_cut [12] (fun v12 wc => ∃ (kq : Nat) (x12_1 : Bool), v12 = .bool x12_1 ∧ Qz (spec_l6Form.j0 kq x12_1 a0_0 a0_1 a0_2 a0_3 = some r) ∧ Qz (kq ≤ k) ∧ Qz (wc.heap[gb101]? = some (.cells #[.int .i64 a0_0, .string a0_1, .string a0_2, .string a0_3] 157 (0, 0))) ∧ Qz (Below w.heap.size w wc))
 case first =>
  have H := HC2.out
  clear HC2
  replace H := Option.bind_eq_some_iff.mp H
  obtain ⟨t102, A40, H⟩ := H
  replace H : (if t102 = true then ((spec_l6Name.f a0_1).bind fun t103 => (spec_l6Form.j0 k (!t103) a0_0 a0_1 a0_2 a0_3)) else (spec_l6Form.j0 k true a0_0 a0_1 a0_2 a0_3)) = some r := H
  have A4 := Qz.mk A40
  clear A40
  by_cases c5 : t102 = true
  ·subst c5
   have H1 : ((spec_l6Name.f a0_1).bind fun t103 => (spec_l6Form.j0 k (!t103) a0_0 a0_1 a0_2 a0_3)) = some r := by rw [if_pos rfl] at H; exact H
   clear H
   have H := H1
   clear H1
   replace H := Option.bind_eq_some_iff.mp H
   obtain ⟨t103, A60, H⟩ := H
   replace H : (spec_l6Form.j0 k (!t103) a0_0 a0_1 a0_2 a0_3) = some r := H
   have A6 := Qz.mk A60
   clear A60
   have H' := Qz.mk H
   clear H
   have hcz7_0 := (qd BK101.out 0).trans rfl
   have hcz7_1 := (qd BK101.out 1).trans rfl
   have hcz7_2 := (qd BK101.out 2).trans rfl
   have hcz7_3 := (qd BK101.out 3).trans rfl
   have hfz7_0 := qe BK101.out 0
   have hfz7_1 := qe BK101.out 1
   have hfz7_2 := qe BK101.out 2
   have hfz7_3 := qe BK101.out 3
   go_wp2_with (first | ((with_reducible refine qp (f := 69) rfl ?_); refine qc1 (some 5) rfl rfl Try.func69 (by kernel_rfl) rfl #[.int .i64 a0_0, .int .i64 1, .int .i64 3] rfl yq12 ?_; (with_reducible refine (spec_l1In.calls a0_0 1 3 true _ A4.out).mono ?_); rintro e w' ⟨rfl, ⟨nd, rfl⟩⟩; refine ⟨_, rfl, ?_⟩) | (go_at_call 176; (with_reducible refine (spec_l6Name.calls a0_1 t103 _ A6.out).mono ?_); rintro e w' ⟨rfl, ⟨nd, rfl⟩⟩))
   go_meet
   case rel => exact ⟨_, (!t103), (by first | rfl | (simp; done) | (simp [*]; done)), H', ⟨by first | omega | exact Nat.le_refl _⟩, ⟨by (with_reducible repeat (first | refine qh ?_ _ | refine qk ?_ | refine qg ?_ _)); exact BK101.out⟩, ⟨by repeat (first | (with_reducible first | exact HB.out | apply qc | apply qa | apply qb | refine qf ?_ GE101.out) | exact HB.out)⟩⟩
  ·replace c5 := Bool.eq_false_iff.mpr c5
   subst c5
   have H1 : (spec_l6Form.j0 k true a0_0 a0_1 a0_2 a0_3) = some r := by rw [if_neg (show ¬ (false = true) by decide)] at H; exact H
   clear H
   have H := H1
   clear H1
   have H' := Qz.mk H
   clear H
   have hcz8_0 := (qd BK101.out 0).trans rfl
   have hcz8_1 := (qd BK101.out 1).trans rfl
   have hcz8_2 := (qd BK101.out 2).trans rfl
   have hcz8_3 := (qd BK101.out 3).trans rfl
   have hfz8_0 := qe BK101.out 0
   have hfz8_1 := qe BK101.out 1
   have hfz8_2 := qe BK101.out 2
   have hfz8_3 := qe BK101.out 3
   go_wp2_with (first | ((with_reducible refine qp (f := 69) rfl ?_); refine qc1 (some 5) rfl rfl Try.func69 (by kernel_rfl) rfl #[.int .i64 a0_0, .int .i64 1, .int .i64 3] rfl yq12 ?_; (with_reducible refine (spec_l1In.calls a0_0 1 3 false _ A4.out).mono ?_); rintro e w' ⟨rfl, ⟨nd, rfl⟩⟩; refine ⟨_, rfl, ?_⟩))
   go_meet
   case rel => exact ⟨_, (true), (by first | rfl | (simp; done) | (simp [*]; done)), H', ⟨by first | omega | exact Nat.le_refl _⟩, ⟨by (with_reducible repeat (first | refine qh ?_ _ | refine qk ?_ | refine qg ?_ _)); exact BK101.out⟩, ⟨by repeat (first | (with_reducible first | exact HB.out | apply qc | apply qa | apply qb | refine qf ?_ GE101.out) | exact HB.out)⟩⟩
 case rest =>
  clear HC2
  (try clear c1);(try clear p2);(try clear c5);(try clear c6);(try clear hcz7_0);(try clear hcz7_1);(try clear hcz7_2);(try clear hcz7_3);(try clear hcz8_0);(try clear hcz8_1);(try clear hcz8_2);(try clear hcz8_3);(try clear hfz7_0);(try clear hfz7_1);(try clear hfz7_2);(try clear hfz7_3);(try clear hfz8_0);(try clear hfz8_1);(try clear hfz8_2);(try clear hfz8_3)
  obtain ⟨kq, x12_1, rfl, HA, HJ1, BK101, HB⟩ := hcut
  cases kq with
  | zero => exact absurd HA.out (by simp [spec_l6Form.j0])
  | succ kj1 =>
   have H := HA.out
   clear HA
   simp only [spec_l6Form.j0] at H
   by_cases c9 : x12_1 = true
   ·subst c9
    have H1 : (some false) = some r := by rw [if_pos rfl] at H; exact H
    clear H
    have H := H1
    clear H1
    obtain rfl := Option.some.inj H
    go_wp2
    go_ret
    exact ⟨by first | rfl | (simp [qn, qm] <;> rfl) | (simp [*, qn, qm] <;> rfl), by repeat (first | (with_reducible first | exact HB.out | apply qc | apply qa | apply qb | refine qf ?_ GE101.out) | exact HB.out)⟩
   ·replace c9 := Bool.eq_false_iff.mpr c9
    subst c9
    have H1 : (if a0_0 = 2 then ((spec_l6Name.f a0_2).bind fun t104 => (if t104 = true then (some (a0_3.toList == ([] : List UInt8))) else (some false))) else (if a0_2.toList = ([] : List UInt8) then (if a0_0 = 1 then (some true) else (some (a0_3.toList == ([] : List UInt8)))) else (some false))) = some r := by rw [if_neg (show ¬ (false = true) by decide)] at H; exact H
    clear H
    have H := H1
    clear H1
    by_cases c10 : a0_0 = 2
    ·rw [if_pos c10] at H
     have c10b0 : (a0_0 == 2) = true := beq_iff_eq.mpr c10
     have c10b1 : (a0_0 != 2) = false := bne_eq_false_iff_eq.mpr c10
     clear c10
     replace H := Option.bind_eq_some_iff.mp H
     obtain ⟨t104, A110, H⟩ := H
     replace H : (if t104 = true then (some (a0_3.toList == ([] : List UInt8))) else (some false)) = some r := H
     have A11 := Qz.mk A110
     clear A110
     by_cases c12 : t104 = true
     ·subst c12
      have H1 : (some (a0_3.toList == ([] : List UInt8))) = some r := by rw [if_pos rfl] at H; exact H
      clear H
      have H := H1
      clear H1
      obtain rfl := Option.some.inj H
      have hcz13_0 := (qd BK101.out 0).trans rfl
      have hcz13_1 := (qd BK101.out 1).trans rfl
      have hcz13_2 := (qd BK101.out 2).trans rfl
      have hcz13_3 := (qd BK101.out 3).trans rfl
      have hfz13_0 := qe BK101.out 0
      have hfz13_1 := qe BK101.out 1
      have hfz13_2 := qe BK101.out 2
      have hfz13_3 := qe BK101.out 3
      go_wp2_with (first | ((with_reducible refine qp (f := 176) rfl ?_); refine qc1 (some 18) rfl rfl Try.func176 (by kernel_rfl) rfl #[.string a0_2] rfl yq12 ?_; (with_reducible refine (spec_l6Name.calls a0_2 true _ A11.out).mono ?_); rintro e w' ⟨rfl, ⟨nd, rfl⟩⟩; refine ⟨_, rfl, ?_⟩))
      go_ret
      exact ⟨by first | rfl | (simp [qn, qm] <;> rfl) | (simp [*, qn, qm] <;> rfl), by repeat (first | (with_reducible first | exact HB.out | apply qc | apply qa | apply qb | refine qf ?_ GE101.out) | exact HB.out)⟩
     ·replace c12 := Bool.eq_false_iff.mpr c12
      subst c12
      have H1 : (some false) = some r := by rw [if_neg (show ¬ (false = true) by decide)] at H; exact H
      clear H
      have H := H1
      clear H1
      obtain rfl := Option.some.inj H
      have hcz14_0 := (qd BK101.out 0).trans rfl
      have hcz14_1 := (qd BK101.out 1).trans rfl
      have hcz14_2 := (qd BK101.out 2).trans rfl
      have hcz14_3 := (qd BK101.out 3).trans rfl
      have hfz14_0 := qe BK101.out 0
      have hfz14_1 := qe BK101.out 1
      have hfz14_2 := qe BK101.out 2
      have hfz14_3 := qe BK101.out 3
      go_wp2_with (first | ((with_reducible refine qp (f := 176) rfl ?_); refine qc1 (some 18) rfl rfl Try.func176 (by kernel_rfl) rfl #[.string a0_2] rfl yq12 ?_; (with_reducible refine (spec_l6Name.calls a0_2 false _ A11.out).mono ?_); rintro e w' ⟨rfl, ⟨nd, rfl⟩⟩; refine ⟨_, rfl, ?_⟩))
      go_ret
      exact ⟨by first | rfl | (simp [qn, qm] <;> rfl) | (simp [*, qn, qm] <;> rfl), by repeat (first | (with_reducible first | exact HB.out | apply qc | apply qa | apply qb | refine qf ?_ GE101.out) | exact HB.out)⟩
    ·rw [if_neg c10] at H
     have c10b0 : (a0_0 == 2) = false := beq_eq_false_iff_ne.mpr c10
     have c10b1 : (a0_0 != 2) = true := bne_iff_ne.mpr c10
     by_cases c15 : a0_2.toList = ([] : List UInt8)
     ·rw [if_pos c15] at H
      have c15b0 : (a0_2.toList == ([] : List UInt8)) = true := beq_iff_eq.mpr c15
      have c15b1 : (a0_2.toList != ([] : List UInt8)) = false := bne_eq_false_iff_eq.mpr c15
      clear c15
      by_cases c16 : a0_0 = 1
      ·rw [if_pos c16] at H
       have c16b0 : (a0_0 == 1) = true := beq_iff_eq.mpr c16
       have c16b1 : (a0_0 != 1) = false := bne_eq_false_iff_eq.mpr c16
       clear c16
       obtain rfl := Option.some.inj H
       have hcz17_0 := (qd BK101.out 0).trans rfl
       have hcz17_1 := (qd BK101.out 1).trans rfl
       have hcz17_2 := (qd BK101.out 2).trans rfl
       have hcz17_3 := (qd BK101.out 3).trans rfl
       have hfz17_0 := qe BK101.out 0
       have hfz17_1 := qe BK101.out 1
       have hfz17_2 := qe BK101.out 2
       have hfz17_3 := qe BK101.out 3
       go_wp2
       go_ret
       exact ⟨by first | rfl | (simp [qn, qm] <;> rfl) | (simp [*, qn, qm] <;> rfl), by repeat (first | (with_reducible first | exact HB.out | apply qc | apply qa | apply qb | refine qf ?_ GE101.out) | exact HB.out)⟩
      ·rw [if_neg c16] at H
       have c16b0 : (a0_0 == 1) = false := beq_eq_false_iff_ne.mpr c16
       have c16b1 : (a0_0 != 1) = true := bne_iff_ne.mpr c16
       obtain rfl := Option.some.inj H
       have hcz18_0 := (qd BK101.out 0).trans rfl
       have hcz18_1 := (qd BK101.out 1).trans rfl
       have hcz18_2 := (qd BK101.out 2).trans rfl
       have hcz18_3 := (qd BK101.out 3).trans rfl
       have hfz18_0 := qe BK101.out 0
       have hfz18_1 := qe BK101.out 1
       have hfz18_2 := qe BK101.out 2
       have hfz18_3 := qe BK101.out 3
       go_wp2
       go_ret
       exact ⟨by first | rfl | (simp [qn, qm] <;> rfl) | (simp [*, qn, qm] <;> rfl), by repeat (first | (with_reducible first | exact HB.out | apply qc | apply qa | apply qb | refine qf ?_ GE101.out) | exact HB.out)⟩
     ·rw [if_neg c15] at H
      have c15b0 : (a0_2.toList == ([] : List UInt8)) = false := beq_eq_false_iff_ne.mpr c15
      have c15b1 : (a0_2.toList != ([] : List UInt8)) = true := bne_iff_ne.mpr c15
      obtain rfl := Option.some.inj H
      have hcz19_0 := (qd BK101.out 0).trans rfl
      have hcz19_1 := (qd BK101.out 1).trans rfl
      have hcz19_2 := (qd BK101.out 2).trans rfl
      have hcz19_3 := (qd BK101.out 3).trans rfl
      have hfz19_0 := qe BK101.out 0
      have hfz19_1 := qe BK101.out 1
      have hfz19_2 := qe BK101.out 2
      have hfz19_3 := qe BK101.out 3
      go_wp2
      go_ret
      exact ⟨by first | rfl | (simp [qn, qm] <;> rfl) | (simp [*, qn, qm] <;> rfl), by repeat (first | (with_reducible first | exact HB.out | apply qc | apply qa | apply qb | refine qf ?_ GE101.out) | exact HB.out)⟩
theorem eqA170 (d : Nat) (w : World) (x0 y0 : ByteArray) (x1 y1 : ByteArray) :
  (Op.equalIn (d + 2) 170 (.agg #[.string x0, .string x1]) (.agg #[.string y0, .string y1])).run Try.prog w = .ok (x0.toList == y0.toList && (x1.toList == y1.toList)) w := by
 refine eqA_of Try.underlying170 (by kernel_rfl) ?_
 refine eqf_cons (by rfl) (by go_simp; rfl) (by go_simp; rfl) (by go_simp) ?_
 exact eqf_last (by rfl) (by go_simp; rfl) (by go_simp; rfl) (by go_simp)
end Go.Proofs.Ytidjdkodgddfcaa.P
end

section
namespace Go.Proofs.Ytidjdkodgddfcaa.P
open Go.RowKit Go.Proofs.YtidjdkodgddfcaaW.PrintWords Go.Proofs.YtidjdkodgddfcaaW.PrintLast Go.Proofs.YtidjdkodgddfcaaW.PrintMore
attribute [local go_sem] str_gtr str_leq str_geq qb1 qz max_two min_two qv qu qa1 qy
set_option linter.unusedVariables false
set_option linter.unusedSimpArgs false
attribute [local go_sem high] eqA170
theorem yq13 {P : Prop} (h : P := by first | (with_reducible assumption) | assumption) : P := h
def spec_l6Same.l0 : Nat → List (S170) → List (S170) → Int → Option (Bool)
 | 0, _, _, _ => none
 | k + 1, x0, x1, x5 => if x5 < (x0.length : Int) then (if 0 ≤ x5 then (if x5 < (x1.length : Int) then (if (!((((qj x0 x5).f0).toList) == (((qj x1 x5).f0).toList)) || (!((((qj x0 x5).f1).toList) == (((qj x1 x5).f1).toList)))) = true then (some false) else (spec_l6Same.l0 k x0 x1 (wrap64 (x5 + 1)))) else (none)) else (none)) else (some true)
def spec_l6Same.f (k : Nat) (l0 : List (S170)) (l1 : List (S170)) : Option (Bool) := if (l0.length : Int) = (l1.length : Int) then (spec_l6Same.l0 k l0 l1 0) else (some false)
set_option maxHeartbeats 8000000 in
set_option maxRecDepth 100000 in
theorem spec_l6Same.calls (k : Nat) (A0 : Option Addr) (c0 : Nat) (l0 : List (S170)) (A1 : Option Addr) (c1 : Nat) (l1 : List (S170)) (r : Bool) (w : World) (hr0 : Kd.C k170 w A0 l0.length l0) (hc0 : l0.length ≤ c0) (hr1 : Kd.C k170 w A1 l1.length l1) (hc1 : l1.length ≤ c1) (h : spec_l6Same.f k l0 l1 = some r) :
  Calls Try.prog 135 #[.slice A0 l0.length c0, .slice A1 l1.length c1] w fun e w' => e = .returned (.bool r) ∧ Drawn0 w w' := by
 have hu170 := Try.underlying170
 have HR0 := Qz.mk hr0
 have HC0 := Qz.mk hc0
 clear hr0 hc0
 have HR1 := Qz.mk hr1
 have HC1 := Qz.mk hc1
 clear hr1 hc1
 have H : (if (l0.length : Int) = (l1.length : Int) then (spec_l6Same.l0 k l0 l1 0) else (some false)) = some r := h
 clear h
 by_cases c3 : (l0.length : Int) = (l1.length : Int)
 ·rw [if_pos c3] at H
  have c3b0 : ((l0.length : Int) == (l1.length : Int)) = true := beq_iff_eq.mpr c3
  have c3b1 : ((l0.length : Int) != (l1.length : Int)) = false := bne_eq_false_iff_eq.mpr c3
  have c3b2 : (l0.length == l1.length) = true := by first | simpa using c3 | (simp at c3 ⊢; omega)
  clear c3
  have H' := Qz.mk H
  clear H
  go_enter Try.func135, Try.ntmps135
  go_wp2
  repeat (go_quiet (fail); try go_wp2)
  go_loopg [5] k (fun kq v5 w' => ∃ (x5_1 : Int), v5 = .int .i64 x5_1 ∧ Qz (spec_l6Same.l0 kq l0 l1 x5_1 = some r) ∧ Qz (kq ≤ k) ∧ Drawn0 w w')
  case atStart => exact ⟨(0), (by first | rfl | (simp; done) | (simp [*]; done)), H', ⟨Nat.le_refl _⟩, by repeat (first | exact Drawn0.refl _ | apply Drawn0.step)⟩
  case round =>
   clear H'
   (try clear c1);(try clear p2);(try clear c3);(try clear c3b0);(try clear c3b1);(try clear c3b2)
   obtain ⟨x5_1, rfl, HA, HK1, ⟨m1, rfl⟩⟩ := hrel
   cases gk with
   | zero => exact absurd HA.out (by simp [spec_l6Same.l0])
   | succ k1 =>
    have H := HA.out
    clear HA
    simp only [spec_l6Same.l0] at H
    by_cases c4 : x5_1 < (l0.length : Int)
    ·rw [if_pos c4] at H
     have c4b0 : decide (x5_1 < (l0.length : Int)) = true := decide_eq_true c4
     clear c4
     by_cases c5 : 0 ≤ x5_1
     ·rw [if_pos c5] at H
      have c5b0 : decide (0 ≤ x5_1) = true := decide_eq_true c5
      clear c5
      by_cases c6 : x5_1 < (l1.length : Int)
      ·rw [if_pos c6] at H
       have c6b0 : decide (x5_1 < (l1.length : Int)) = true := decide_eq_true c6
       clear c6
       by_cases c7 : (!((((qj l0 x5_1).f0).toList) == (((qj l1 x5_1).f0).toList)) || (!((((qj l0 x5_1).f1).toList) == (((qj l1 x5_1).f1).toList)))) = true
       ·rw [if_pos c7] at H
        have c7b0 : (!((((qj l0 x5_1).f0).toList) == (((qj l1 x5_1).f0).toList)) || (!((((qj l0 x5_1).f1).toList) == (((qj l1 x5_1).f1).toList)))) = true := c7
        clear c7
        obtain rfl := Option.some.inj H
        have p101 : 0 ≤ (x5_1 : Int) := of_decide_eq_true yq13
        have q101 : x5_1 < (l0.length : Int) := of_decide_eq_true yq13
        obtain ⟨ad101, e101, hx101_0, hx101_1⟩ := at_T170 HR0.out x5_1 p101 q101
        cases e101
        replace p101 := eq_true p101
        replace q101 := eq_true q101
        have p102 : 0 ≤ (x5_1 : Int) := of_decide_eq_true yq13
        have q102 : x5_1 < (l1.length : Int) := of_decide_eq_true yq13
        obtain ⟨ad102, e102, hx102_0, hx102_1⟩ := at_T170 HR1.out x5_1 p102 q102
        cases e102
        replace p102 := eq_true p102
        replace q102 := eq_true q102
        go_wp2
        repeat (go_quiet (fail); try go_wp2)
        go_ret
        exact ⟨by first | rfl | (simp; done) | (simp [*]; done), by repeat (first | exact Drawn0.refl _ | apply Drawn0.step)⟩
       ·rw [if_neg c7] at H
        have c7b0 : (!((((qj l0 x5_1).f0).toList) == (((qj l1 x5_1).f0).toList)) || (!((((qj l0 x5_1).f1).toList) == (((qj l1 x5_1).f1).toList)))) = false := by simpa using c7
        clear c7
        have H' := Qz.mk H
        clear H
        have p101 : 0 ≤ (x5_1 : Int) := of_decide_eq_true yq13
        have q101 : x5_1 < (l0.length : Int) := of_decide_eq_true yq13
        obtain ⟨ad101, e101, hx101_0, hx101_1⟩ := at_T170 HR0.out x5_1 p101 q101
        cases e101
        replace p101 := eq_true p101
        replace q101 := eq_true q101
        have p102 : 0 ≤ (x5_1 : Int) := of_decide_eq_true yq13
        have q102 : x5_1 < (l1.length : Int) := of_decide_eq_true yq13
        obtain ⟨ad102, e102, hx102_0, hx102_1⟩ := at_T170 HR1.out x5_1 p102 q102
        cases e102
        replace p102 := eq_true p102
        replace q102 := eq_true q102
        go_wp2
        repeat (go_quiet (fail); try go_wp2)
        go_roundg k1
        case measure => have := HK1.out; omega
        case rel => exact ⟨(wrap64 (x5_1 + 1)), (by first | rfl | (simp; done) | (simp [*]; done)), H', ⟨by have := HK1.out; omega⟩, by repeat (first | exact Drawn0.refl _ | apply Drawn0.step)⟩
      ·rw [if_neg c6] at H
       exact absurd H (by simp)
     ·rw [if_neg c5] at H
      exact absurd H (by simp)
    ·rw [if_neg c4] at H
     have c4b0 : decide (x5_1 < (l0.length : Int)) = false := decide_eq_false c4
     clear c4
     obtain rfl := Option.some.inj H
     go_wp2
     repeat (go_quiet (fail); try go_wp2)
     go_ret
     exact ⟨by first | rfl | (simp; done) | (simp [*]; done), by repeat (first | exact Drawn0.refl _ | apply Drawn0.step)⟩
 ·rw [if_neg c3] at H
  have c3b0 : ((l0.length : Int) == (l1.length : Int)) = false := beq_eq_false_iff_ne.mpr c3
  have c3b1 : ((l0.length : Int) != (l1.length : Int)) = true := bne_iff_ne.mpr c3
  have c3b2 : (l0.length == l1.length) = false := by first | simpa using c3 | (simp at c3 ⊢; omega)
  obtain rfl := Option.some.inj H
  go_enter Try.func135, Try.ntmps135
  go_wp2
  repeat (go_quiet (fail); try go_wp2)
  go_ret
  exact ⟨by first | rfl | (simp; done) | (simp [*]; done), by repeat (first | exact Drawn0.refl _ | apply Drawn0.step)⟩
theorem yq14 {P : Prop} (h : P := by repeat (first | (with_reducible first | exact HB.out | apply qc | apply qa | apply qb | refine qf ?_ GE101.out) | exact HB.out)) : P := h
theorem yq15 {P : Prop} (h : P := by (try simp only [List.map_toArray, List.map_cons, List.map_nil]); first | done | rfl | (simp only [List.length_drop, List.length_take]; rfl) | (rw [IntWalk.u64_in _ (by omega)] <;> rfl)) : P := h
theorem yq16 {P : Prop} (h : P := by (with_reducible repeat (first | refine qh ?_ _ | refine qk ?_ | refine qg ?_ _)); exact BK101.out) : P := h
theorem yq17 {P : Prop} (h : P := by (with_reducible repeat (first | apply Kd.V_alloc | apply Kd.V_drewN | apply Kd.V_drew)); exact HO_102001.out) : P := h
theorem yq18 {P : Prop} (h : P := by (with_reducible repeat (first | apply Kd.V_alloc | apply Kd.V_drewN | apply Kd.V_drew)); exact HO_3.out) : P := h
theorem yq19 {P : Prop} (h : P := by repeat (first | exact (Kd.V_reads' HO_3.out).2.2 | (with_reducible refine Kd.C_alloc ?_ _) | (with_reducible refine Kd.C_drewN ?_ _) | (with_reducible refine Kd.C_drew ?_))) : P := h
theorem yq20 {P : Prop} (h : P := by first | (with_reducible assumption) | assumption) : P := h
theorem yq21 {P : Prop} (h : P := by repeat (first | exact (Kd.C_below HR0_0.out HB.out) | (with_reducible refine Kd.C_alloc ?_ _) | (with_reducible refine Kd.C_drewN ?_ _) | (with_reducible refine Kd.C_drew ?_))) : P := h
theorem yq22 {P : Prop} (h : P := by (with_reducible repeat (first | apply Kd.V_alloc | apply Kd.V_drewN | apply Kd.V_drew)); exact HO0_1.out) : P := h
theorem yq23 {P : Prop} (h : P := by (with_reducible repeat (first | apply Kd.R_alloc | apply Kd.R_drewN | apply Kd.R_drew)); exact HO108.out) : P := h
theorem bkbf63 {w0 W W2 : World} {g : Nat} {o : Obj} (_ : Qz (w0.heap[g]? = some o)) (h : W.heap[g]? = some o) (hb : Below W.heap.size W W2) : Qz (W2.heap[g]? = some o) := Qz.mk (qq h hb)
mutual
def spec_DiskOk.j0 : Nat → Bool → List (S170) → List (S170) → List (S157) → Option (Bool)
 | 0, _, _, _, _ => none
 | k + 1, x22, x102000, x102001, x102002 => if x22 = true then (some false) else (spec_DiskOk.l0 k x102001 0 x102000 x102001 x102002)
def spec_DiskOk.l0 : Nat → List (S170) → Int → List (S170) → List (S170) → List (S157) → Option (Bool)
 | 0, _, _, _, _, _ => none
 | k + 1, x3, x4, x102000, x102001, x102002 => if x4 < (x102002.length : Int) then (if 0 ≤ x4 then ((spec_l6Do.f k x3 ((qi x102002 x4).f0) ((qi x102002 x4).f1) ((qi x102002 x4).f2) ((qi x102002 x4).f3)).bind fun bt106 => (if bt106.2 = true then ((spec_l6Form.f k ((qi x102002 x4).f0) ((qi x102002 x4).f1) ((qi x102002 x4).f2) ((qi x102002 x4).f3)).bind fun t111 => (if t111 = true then ((spec_l6Files.f k bt106.1).bind fun t112 => (if t112 = true then (spec_DiskOk.l0 k bt106.1 (wrap64 (x4 + 1)) x102000 x102001 x102002) else (some false))) else (some false))) else (some false))) else (none)) else ((spec_l6Same.f k x3 x102000).bind fun t104 => (some t104))
end
def spec_DiskOk.f (k : Nat) (l0_0 : List (S170)) (l0_1 : List (S170)) (l0_2 : List (S157)) : Option (Bool) := (spec_l6Files.f k l0_0).bind fun t102 => (if t102 = true then ((spec_l6Files.f k l0_1).bind fun t103 => (if t103 = true then (spec_DiskOk.j0 k (decide ((l0_2.length : Int) > 200)) l0_0 l0_1 l0_2) else (spec_DiskOk.j0 k true l0_0 l0_1 l0_2))) else (spec_DiskOk.j0 k true l0_0 l0_1 l0_2))
set_option maxHeartbeats 8000000 in
set_option maxRecDepth 100000 in
theorem spec_DiskOk.calls (k : Nat) (A0_0 : Option Addr) (c0_0 : Nat) (l0_0 : List (S170)) (P0_1_ : Nat → Prop) (A0_1 : Option Addr) (c0_1 : Nat) (l0_1 : List (S170)) (A0_2 : Option Addr) (c0_2 : Nat) (l0_2 : List (S157)) (r : Bool) (w : World) (hr0_0 : Kd.C k170 w A0_0 l0_0.length l0_0) (hc0_0 : l0_0.length ≤ c0_0) (hs0_1 : Kd.V k170 170 w w.heap.size (fun k_ => P0_1_ k_) (.slice A0_1 l0_1.length c0_1) l0_1) (hr0_2 : Kd.C k157 w A0_2 l0_2.length l0_2) (hc0_2 : l0_2.length ≤ c0_2) (h : spec_DiskOk.f k l0_0 l0_1 l0_2 = some r) :
  Calls Try.prog 63 #[.agg #[.slice A0_0 l0_0.length c0_0, .slice A0_1 l0_1.length c0_1, .slice A0_2 l0_2.length c0_2]] w fun e w' => e = .returned (.bool r) ∧ Below w.heap.size w w' := by
 have hu85 := Try.underlying85
 have hu157 := Try.underlying157
 have HR0_0 := Qz.mk hr0_0
 have HC0_0 := Qz.mk hc0_0
 clear hr0_0 hc0_0
 have HO0_1 := Qz.mk (show Kd.V k170 170 w w.heap.size (fun k_ => (P0_1_ k_ ∨ w.heap.size ≤ k_)) (.slice A0_1 l0_1.length c0_1) l0_1 from Kd.V_mono hs0_1 (fun k_ hk => .inl hk))
 have HR0_2 := Qz.mk hr0_2
 have HC0_2 := Qz.mk hc0_2
 clear hr0_2 hc0_2
 have HB := Qz.mk (Below.refl w.heap.size w)
 have H : ((spec_l6Files.f k l0_0).bind fun t102 => (if t102 = true then ((spec_l6Files.f k l0_1).bind fun t103 => (if t103 = true then (spec_DiskOk.j0 k (decide ((l0_2.length : Int) > 200)) l0_0 l0_1 l0_2) else (spec_DiskOk.j0 k true l0_0 l0_1 l0_2))) else (spec_DiskOk.j0 k true l0_0 l0_1 l0_2))) = some r := h
 clear h
 have HC2 := Qz.mk H
 clear H
 go_enter Try.func63, Try.ntmps63
 go_upto_region 1 with (first | ((with_reducible refine qt (N := 1) rfl ?_); (try (refine gate_guard (by rfl) ?_; dsimp only)); refine qr ?hg (N := 1) ?hd (cs := #[.slice A0_0 l0_0.length c0_0, .slice A0_1 l0_1.length c0_1, .slice A0_2 l0_2.length c0_2]) (t := 85) ?hr ?_; (case hd => rfl); (case hg => rfl); (case hr => first | (go_simp; done) | (go_simp; rfl)); intro gb101 hg w3 hbox hb; replace HO0_1 := Qz.mk (Kd.V_below (Kd.V_elderB yq22 gb101 (Nat.le_of_eq hg.symm)) hb); have BK101 := Qz.mk (hbox); have GW101 := Qz.mk ((by rw [hg]; exact (qo (by repeat (first | (with_reducible first | exact HB.out | apply qc | apply qa | apply qb) | exact HB.out))) : w.heap.size ≤ gb101)); have GE101 := GW101; replace HB := Qz.mk (ql (by repeat (first | (with_reducible first | exact HB.out | apply qc | apply qa | apply qb) | exact HB.out)) hb); clear hb hbox hg))
 (try simp only [Act.put, sq1, sq2, sq3])
 go_cut [22] (fun v22 wc => ∃ (kq : Nat) (x22_1 : Bool), v22 = .bool x22_1 ∧ Qz (spec_DiskOk.j0 kq x22_1 l0_0 l0_1 l0_2 = some r) ∧ Qz (kq ≤ k) ∧ Qz (Kd.V k170 170 wc w.heap.size (fun k_ => (P0_1_ k_ ∨ w.heap.size ≤ k_) ∧ k_ ≠ gb101) (.slice A0_1 l0_1.length c0_1) l0_1) ∧ Qz (wc.heap[gb101]? = some (.cells #[(.slice A0_0 l0_0.length c0_0), (.slice A0_1 l0_1.length c0_1), (.slice A0_2 l0_2.length c0_2)] 85 (0, 0))) ∧ Qz (Below w.heap.size w wc))
 case first =>
  have H := HC2.out
  clear HC2
  replace H := Option.bind_eq_some_iff.mp H
  obtain ⟨t102, A40, H⟩ := H
  replace H : (if t102 = true then ((spec_l6Files.f k l0_1).bind fun t103 => (if t103 = true then (spec_DiskOk.j0 k (decide ((l0_2.length : Int) > 200)) l0_0 l0_1 l0_2) else (spec_DiskOk.j0 k true l0_0 l0_1 l0_2))) else (spec_DiskOk.j0 k true l0_0 l0_1 l0_2)) = some r := H
  have A4 := Qz.mk A40
  clear A40
  by_cases c5 : t102 = true
  ·subst c5
   have H1 : ((spec_l6Files.f k l0_1).bind fun t103 => (if t103 = true then (spec_DiskOk.j0 k (decide ((l0_2.length : Int) > 200)) l0_0 l0_1 l0_2) else (spec_DiskOk.j0 k true l0_0 l0_1 l0_2))) = some r := by rw [if_pos rfl] at H; exact H
   clear H
   have H := H1
   clear H1
   replace H := Option.bind_eq_some_iff.mp H
   obtain ⟨t103, A60, H⟩ := H
   replace H : (if t103 = true then (spec_DiskOk.j0 k (decide ((l0_2.length : Int) > 200)) l0_0 l0_1 l0_2) else (spec_DiskOk.j0 k true l0_0 l0_1 l0_2)) = some r := H
   have A6 := Qz.mk A60
   clear A60
   by_cases c7 : t103 = true
   ·subst c7
    have H1 : (spec_DiskOk.j0 k (decide ((l0_2.length : Int) > 200)) l0_0 l0_1 l0_2) = some r := by rw [if_pos rfl] at H; exact H
    clear H
    have H := H1
    clear H1
    have H' := Qz.mk H
    clear H
    have hcz8_0 := (qd BK101.out 0).trans rfl
    have hcz8_1 := (qd BK101.out 1).trans rfl
    have hcz8_2 := (qd BK101.out 2).trans rfl
    have hfz8_0 := qe BK101.out 0
    have hfz8_1 := qe BK101.out 1
    have hfz8_2 := qe BK101.out 2
    go_wp2_with (first | ((with_reducible refine qp (f := 124) rfl ?_); refine qc1 (some 9) rfl rfl Try.func124 (by kernel_rfl) rfl #[.slice A0_0 l0_0.length c0_0] rfl yq15 ?_; (with_reducible refine (spec_l6Files.calls k _ _ l0_0 true _ ?side1 ?side2 A4.out).mono ?_); (case side1 => exact yq21); (case side2 => exact HC0_0.out); rintro e w9 ⟨rfl, hb⟩; refine ⟨_, rfl, ?_⟩; replace HO0_1 := Qz.mk (Kd.V_below yq22 hb); replace BK101 := bkbf63 BK101 yq16 hb; replace HB := Qz.mk (ql yq14 hb); (try clear hb); (try clear hk); have hcz10_0 := (qd BK101.out 0).trans rfl; have hcz10_1 := (qd BK101.out 1).trans rfl; have hcz10_2 := (qd BK101.out 2).trans rfl; have hfz10_0 := qe BK101.out 0; have hfz10_1 := qe BK101.out 1; have hfz10_2 := qe BK101.out 2) | (go_at_call 124; (with_reducible refine (spec_l6Files.calls k _ _ l0_1 true _ ?side1 ?side2 A6.out).mono ?_); (case side1 => repeat (first | exact (Kd.V_reads' HO0_1.out).2.2 | (with_reducible refine Kd.C_alloc ?_ _) | (with_reducible refine Kd.C_drewN ?_ _) | (with_reducible refine Kd.C_drew ?_))); (case side2 => exact (Kd.V_reads' HO0_1.out).2.1); rintro e w11 ⟨rfl, hb⟩; replace HO0_1 := Qz.mk (Kd.V_below yq22 hb); replace BK101 := bkbf63 BK101 yq16 hb; replace HB := Qz.mk (ql yq14 hb); (try clear hb); (try clear hk); have hcz12_0 := (qd BK101.out 0).trans rfl; have hcz12_1 := (qd BK101.out 1).trans rfl; have hcz12_2 := (qd BK101.out 2).trans rfl; have hfz12_0 := qe BK101.out 0; have hfz12_1 := qe BK101.out 1; have hfz12_2 := qe BK101.out 2))
    go_meet
    case rel => exact ⟨_, (decide ((l0_2.length : Int) > 200)), (by first | rfl | (simp; done) | (simp [*]; done)), H', ⟨by first | omega | exact Nat.le_refl _⟩, ⟨by (with_reducible repeat (first | apply Kd.V_alloc | apply Kd.V_drewN | apply Kd.V_drew)); exact HO0_1.out⟩, ⟨by (with_reducible repeat (first | refine qh ?_ _ | refine qk ?_ | refine qg ?_ _)); exact BK101.out⟩, ⟨by repeat (first | (with_reducible first | exact HB.out | apply qc | apply qa | apply qb | refine qf ?_ GE101.out) | exact HB.out)⟩⟩
   ·replace c7 := Bool.eq_false_iff.mpr c7
    subst c7
    have H1 : (spec_DiskOk.j0 k true l0_0 l0_1 l0_2) = some r := by rw [if_neg (show ¬ (false = true) by decide)] at H; exact H
    clear H
    have H := H1
    clear H1
    have H' := Qz.mk H
    clear H
    have hcz13_0 := (qd BK101.out 0).trans rfl
    have hcz13_1 := (qd BK101.out 1).trans rfl
    have hcz13_2 := (qd BK101.out 2).trans rfl
    have hfz13_0 := qe BK101.out 0
    have hfz13_1 := qe BK101.out 1
    have hfz13_2 := qe BK101.out 2
    go_wp2_with (first | ((with_reducible refine qp (f := 124) rfl ?_); refine qc1 (some 9) rfl rfl Try.func124 (by kernel_rfl) rfl #[.slice A0_0 l0_0.length c0_0] rfl yq15 ?_; (with_reducible refine (spec_l6Files.calls k _ _ l0_0 true _ ?side1 ?side2 A4.out).mono ?_); (case side1 => exact yq21); (case side2 => exact HC0_0.out); rintro e w14 ⟨rfl, hb⟩; refine ⟨_, rfl, ?_⟩; replace HO0_1 := Qz.mk (Kd.V_below yq22 hb); replace BK101 := bkbf63 BK101 yq16 hb; replace HB := Qz.mk (ql yq14 hb); (try clear hb); (try clear hk); have hcz15_0 := (qd BK101.out 0).trans rfl; have hcz15_1 := (qd BK101.out 1).trans rfl; have hcz15_2 := (qd BK101.out 2).trans rfl; have hfz15_0 := qe BK101.out 0; have hfz15_1 := qe BK101.out 1; have hfz15_2 := qe BK101.out 2) | (go_at_call 124; (with_reducible refine (spec_l6Files.calls k _ _ l0_1 false _ ?side1 ?side2 A6.out).mono ?_); (case side1 => repeat (first | exact (Kd.V_reads' HO0_1.out).2.2 | (with_reducible refine Kd.C_alloc ?_ _) | (with_reducible refine Kd.C_drewN ?_ _) | (with_reducible refine Kd.C_drew ?_))); (case side2 => exact (Kd.V_reads' HO0_1.out).2.1); rintro e w16 ⟨rfl, hb⟩; replace HO0_1 := Qz.mk (Kd.V_below yq22 hb); replace BK101 := bkbf63 BK101 yq16 hb; replace HB := Qz.mk (ql yq14 hb); (try clear hb); (try clear hk)))
    go_meet
    case rel => exact ⟨_, (true), (by first | rfl | (simp; done) | (simp [*]; done)), H', ⟨by first | omega | exact Nat.le_refl _⟩, ⟨by (with_reducible repeat (first | apply Kd.V_alloc | apply Kd.V_drewN | apply Kd.V_drew)); exact HO0_1.out⟩, ⟨by (with_reducible repeat (first | refine qh ?_ _ | refine qk ?_ | refine qg ?_ _)); exact BK101.out⟩, ⟨by repeat (first | (with_reducible first | exact HB.out | apply qc | apply qa | apply qb | refine qf ?_ GE101.out) | exact HB.out)⟩⟩
  ·replace c5 := Bool.eq_false_iff.mpr c5
   subst c5
   have H1 : (spec_DiskOk.j0 k true l0_0 l0_1 l0_2) = some r := by rw [if_neg (show ¬ (false = true) by decide)] at H; exact H
   clear H
   have H := H1
   clear H1
   have H' := Qz.mk H
   clear H
   have hcz17_0 := (qd BK101.out 0).trans rfl
   have hcz17_1 := (qd BK101.out 1).trans rfl
   have hcz17_2 := (qd BK101.out 2).trans rfl
   have hfz17_0 := qe BK101.out 0
   have hfz17_1 := qe BK101.out 1
   have hfz17_2 := qe BK101.out 2
   go_wp2_with (first | ((with_reducible refine qp (f := 124) rfl ?_); refine qc1 (some 9) rfl rfl Try.func124 (by kernel_rfl) rfl #[.slice A0_0 l0_0.length c0_0] rfl yq15 ?_; (with_reducible refine (spec_l6Files.calls k _ _ l0_0 false _ ?side1 ?side2 A4.out).mono ?_); (case side1 => exact yq21); (case side2 => exact HC0_0.out); rintro e w18 ⟨rfl, hb⟩; refine ⟨_, rfl, ?_⟩; replace HO0_1 := Qz.mk (Kd.V_below yq22 hb); replace BK101 := bkbf63 BK101 yq16 hb; replace HB := Qz.mk (ql yq14 hb); (try clear hb); (try clear hk)))
   go_meet
   case rel => exact ⟨_, (true), (by first | rfl | (simp; done) | (simp [*]; done)), H', ⟨by first | omega | exact Nat.le_refl _⟩, ⟨by (with_reducible repeat (first | apply Kd.V_alloc | apply Kd.V_drewN | apply Kd.V_drew)); exact HO0_1.out⟩, ⟨by (with_reducible repeat (first | refine qh ?_ _ | refine qk ?_ | refine qg ?_ _)); exact BK101.out⟩, ⟨by repeat (first | (with_reducible first | exact HB.out | apply qc | apply qa | apply qb | refine qf ?_ GE101.out) | exact HB.out)⟩⟩
 case rest =>
  clear HC2
  (try clear c1);(try clear p2);(try clear c5);(try clear c6);(try clear c7);(try clear c12);(try clear hcz10_0);(try clear hcz10_1);(try clear hcz10_2);(try clear hcz12_0);(try clear hcz12_1);(try clear hcz12_2);(try clear hcz13_0);(try clear hcz13_1);(try clear hcz13_2);(try clear hcz15_0);(try clear hcz15_1);(try clear hcz15_2);(try clear hcz17_0);(try clear hcz17_1);(try clear hcz17_2);(try clear hcz8_0);(try clear hcz8_1);(try clear hcz8_2);(try clear hfz10_0);(try clear hfz10_1);(try clear hfz10_2);(try clear hfz12_0);(try clear hfz12_1);(try clear hfz12_2);(try clear hfz13_0);(try clear hfz13_1);(try clear hfz13_2);(try clear hfz15_0);(try clear hfz15_1);(try clear hfz15_2);(try clear hfz17_0);(try clear hfz17_1);(try clear hfz17_2);(try clear hfz8_0);(try clear hfz8_1);(try clear hfz8_2)
  obtain ⟨kq, x22_1, rfl, HA, HJ1, HO_102001, BK101, HB⟩ := hcut
  cases kq with
  | zero => exact absurd HA.out (by simp [spec_DiskOk.j0])
  | succ kj1 =>
   have H := HA.out
   clear HA
   simp only [spec_DiskOk.j0] at H
   by_cases c19 : x22_1 = true
   ·subst c19
    have H1 : (some false) = some r := by rw [if_pos rfl] at H; exact H
    clear H
    have H := H1
    clear H1
    obtain rfl := Option.some.inj H
    go_wp2
    go_ret
    exact ⟨by first | rfl | (simp [qn, qm] <;> rfl) | (simp [*, qn, qm] <;> rfl), by repeat (first | (with_reducible first | exact HB.out | apply qc | apply qa | apply qb | refine qf ?_ GE101.out) | exact HB.out)⟩
   ·replace c19 := Bool.eq_false_iff.mpr c19
    subst c19
    have H1 : (spec_DiskOk.l0 kj1 l0_1 0 l0_0 l0_1 l0_2) = some r := by rw [if_neg (show ¬ (false = true) by decide)] at H; exact H
    clear H
    have H := H1
    clear H1
    have H' := Qz.mk H
    clear H
    have hcz20_0 := (qd BK101.out 0).trans rfl
    have hcz20_1 := (qd BK101.out 1).trans rfl
    have hcz20_2 := (qd BK101.out 2).trans rfl
    have hfz20_0 := qe BK101.out 0
    have hfz20_1 := qe BK101.out 1
    have hfz20_2 := qe BK101.out 2
    go_wp2
    go_loopg [3, 4] kj1 (fun kq v3 v4 w' => ∃ (x3_2 : List (S170)) (x4_2 : Int), v4 = .int .i64 x4_2 ∧ Qz (spec_DiskOk.l0 kq x3_2 x4_2 l0_0 l0_1 l0_2 = some r) ∧ Qz (kq ≤ kj1) ∧ Qz (Kd.V k170 170 w' w.heap.size (fun k_ => (P0_1_ k_ ∨ w.heap.size ≤ k_) ∧ k_ ≠ gb101) v3 x3_2) ∧ Qz (Kd.V k170 170 w' w.heap.size (fun k_ => (P0_1_ k_ ∨ w.heap.size ≤ k_) ∧ k_ ≠ gb101) (.slice A0_1 l0_1.length c0_1) l0_1) ∧ Qz (w'.heap[gb101]? = some (.cells #[(.slice A0_0 l0_0.length c0_0), (.slice A0_1 l0_1.length c0_1), (.slice A0_2 l0_2.length c0_2)] 85 (0, 0))) ∧ Qz (Below w.heap.size w w'))
    case atStart => exact ⟨(l0_1), (0), (by first | rfl | (simp; done) | (simp [*]; done)), H', ⟨Nat.le_refl _⟩, ⟨by (with_reducible repeat (first | apply Kd.V_alloc | apply Kd.V_drewN | apply Kd.V_drew)); exact HO_102001.out⟩, ⟨by (with_reducible repeat (first | apply Kd.V_alloc | apply Kd.V_drewN | apply Kd.V_drew)); exact HO_102001.out⟩, ⟨by (with_reducible repeat (first | refine qh ?_ _ | refine qk ?_ | refine qg ?_ _)); exact BK101.out⟩, ⟨by repeat (first | (with_reducible first | exact HB.out | apply qc | apply qa | apply qb | refine qf ?_ GE101.out) | exact HB.out)⟩⟩
    case round =>
     clear H'
     (try clear c1);(try clear p2);(try clear c5);(try clear c6);(try clear c7);(try clear c12);(try clear c19);(try clear hcz10_0);(try clear hcz10_1);(try clear hcz10_2);(try clear hcz12_0);(try clear hcz12_1);(try clear hcz12_2);(try clear hcz13_0);(try clear hcz13_1);(try clear hcz13_2);(try clear hcz15_0);(try clear hcz15_1);(try clear hcz15_2);(try clear hcz17_0);(try clear hcz17_1);(try clear hcz17_2);(try clear hcz20_0);(try clear hcz20_1);(try clear hcz20_2);(try clear hcz8_0);(try clear hcz8_1);(try clear hcz8_2);(try clear hfz10_0);(try clear hfz10_1);(try clear hfz10_2);(try clear hfz12_0);(try clear hfz12_1);(try clear hfz12_2);(try clear hfz13_0);(try clear hfz13_1);(try clear hfz13_2);(try clear hfz15_0);(try clear hfz15_1);(try clear hfz15_2);(try clear hfz17_0);(try clear hfz17_1);(try clear hfz17_2);(try clear hfz20_0);(try clear hfz20_1);(try clear hfz20_2);(try clear hfz8_0);(try clear hfz8_1);(try clear hfz8_2);(try clear p2)
     obtain ⟨x3_2, x4_2, rfl, HA, HK2, HO_3, HO_102001, BK101, HB⟩ := hrel
     cases gk with
     | zero => exact absurd HA.out (by simp [spec_DiskOk.l0])
     | succ k2 =>
      have H := HA.out
      clear HA
      simp only [spec_DiskOk.l0] at H
      by_cases c21 : x4_2 < (l0_2.length : Int)
      ·rw [if_pos c21] at H
       have c21b0 : decide (x4_2 < (l0_2.length : Int)) = true := decide_eq_true c21
       clear c21
       by_cases c22 : 0 ≤ x4_2
       ·rw [if_pos c22] at H
        have c22b0 : decide (0 ≤ x4_2) = true := decide_eq_true c22
        clear c22
        replace H := Option.bind_eq_some_iff.mp H
        obtain ⟨⟨t106, t109⟩, A230, H⟩ := H
        replace H : (if t109 = true then ((spec_l6Form.f k2 ((qi l0_2 x4_2).f0) ((qi l0_2 x4_2).f1) ((qi l0_2 x4_2).f2) ((qi l0_2 x4_2).f3)).bind fun t111 => (if t111 = true then ((spec_l6Files.f k2 t106).bind fun t112 => (if t112 = true then (spec_DiskOk.l0 k2 t106 (wrap64 (x4_2 + 1)) l0_0 l0_1 l0_2) else (some false))) else (some false))) else (some false)) = some r := H
        have A23 := Qz.mk A230
        clear A230
        by_cases c24 : t109 = true
        ·subst c24
         have H1 : ((spec_l6Form.f k2 ((qi l0_2 x4_2).f0) ((qi l0_2 x4_2).f1) ((qi l0_2 x4_2).f2) ((qi l0_2 x4_2).f3)).bind fun t111 => (if t111 = true then ((spec_l6Files.f k2 t106).bind fun t112 => (if t112 = true then (spec_DiskOk.l0 k2 t106 (wrap64 (x4_2 + 1)) l0_0 l0_1 l0_2) else (some false))) else (some false))) = some r := by rw [if_pos rfl] at H; exact H
         clear H
         have H := H1
         clear H1
         replace H := Option.bind_eq_some_iff.mp H
         obtain ⟨t111, A250, H⟩ := H
         replace H : (if t111 = true then ((spec_l6Files.f k2 t106).bind fun t112 => (if t112 = true then (spec_DiskOk.l0 k2 t106 (wrap64 (x4_2 + 1)) l0_0 l0_1 l0_2) else (some false))) else (some false)) = some r := H
         have A25 := Qz.mk A250
         clear A250
         by_cases c26 : t111 = true
         ·subst c26
          have H1 : ((spec_l6Files.f k2 t106).bind fun t112 => (if t112 = true then (spec_DiskOk.l0 k2 t106 (wrap64 (x4_2 + 1)) l0_0 l0_1 l0_2) else (some false))) = some r := by rw [if_pos rfl] at H; exact H
          clear H
          have H := H1
          clear H1
          replace H := Option.bind_eq_some_iff.mp H
          obtain ⟨t112, A270, H⟩ := H
          replace H : (if t112 = true then (spec_DiskOk.l0 k2 t106 (wrap64 (x4_2 + 1)) l0_0 l0_1 l0_2) else (some false)) = some r := H
          have A27 := Qz.mk A270
          clear A270
          by_cases c28 : t112 = true
          ·subst c28
           have H1 : (spec_DiskOk.l0 k2 t106 (wrap64 (x4_2 + 1)) l0_0 l0_1 l0_2) = some r := by rw [if_pos rfl] at H; exact H
           clear H
           have H := H1
           clear H1
           have H' := Qz.mk H
           clear H
           have hcz29_0 := (qd BK101.out 0).trans rfl
           have hcz29_1 := (qd BK101.out 1).trans rfl
           have hcz29_2 := (qd BK101.out 2).trans rfl
           have hfz29_0 := qe BK101.out 0
           have hfz29_1 := qe BK101.out 1
           have hfz29_2 := qe BK101.out 2
           have p105 : 0 ≤ (x4_2 : Int) := of_decide_eq_true yq20
           have q105 : x4_2 < (l0_2.length : Int) := of_decide_eq_true yq20
           obtain ⟨ad105, e105, hx105_0, hx105_1, hx105_2, hx105_3⟩ := at_T157 HR0_2.out x4_2 p105 q105
           cases e105
           replace hx105_0 := (HB.out.cell (World.block_lt_of_cell? w _ hx105_0)).trans hx105_0
           replace hx105_1 := (HB.out.cell (World.block_lt_of_cell? w _ hx105_1)).trans hx105_1
           replace hx105_2 := (HB.out.cell (World.block_lt_of_cell? w _ hx105_2)).trans hx105_2
           replace hx105_3 := (HB.out.cell (World.block_lt_of_cell? w _ hx105_3)).trans hx105_3
           replace p105 := eq_true p105
           replace q105 := eq_true q105
           obtain ⟨Ao30, co30, eo30⟩ := Kd.V_slice HO_3.out
           subst eo30
           go_wp2_with (first | ((with_reducible refine qp (f := 123) rfl ?_); refine qc1 (some 39) rfl rfl Try.func123 (by kernel_rfl) rfl #[.slice Ao30 x3_2.length co30, .agg #[.int .i64 ((qi l0_2 x4_2).f0), .string ((qi l0_2 x4_2).f1), .string ((qi l0_2 x4_2).f2), .string ((qi l0_2 x4_2).f3)]] rfl yq15 ?_; (with_reducible refine (spec_l6Do.calls k2 _ _ x3_2 ((qi l0_2 x4_2).f0) ((qi l0_2 x4_2).f1) ((qi l0_2 x4_2).f2) ((qi l0_2 x4_2).f3) t106 true _ ?side1 ?side2 A23.out).mono ?_); (case side1 => exact yq19); (case side2 => exact (Kd.V_reads' HO_3.out).2.1); rintro e w31 ⟨v107, rfl, ho0, hb⟩; refine ⟨_, rfl, ?_⟩; replace HO_3 := Qz.mk (Kd.V_elder' yq18 (Kd.R_base ho0) hb); replace HO_102001 := Qz.mk (Kd.V_elder' yq17 (Kd.R_base ho0) hb); have HO108 := Qz.mk (Kd.R_lower (Kd.R_newM (M := fun k_ => (w.heap.size ≤ k_)) ho0 (qo yq14) (fun k_ h_ => h_)) (qo yq14)); replace BK101 := bkbf63 BK101 yq16 hb; replace HB := Qz.mk (ql yq14 hb); (try clear hb); (try clear hk); (try clear ho0); have hcz32_0 := (qd BK101.out 0).trans rfl; have hcz32_1 := (qd BK101.out 1).trans rfl; have hcz32_2 := (qd BK101.out 2).trans rfl; have hfz32_0 := qe BK101.out 0; have hfz32_1 := qe BK101.out 1; have hfz32_2 := qe BK101.out 2; have p110 : 0 ≤ (x4_2 : Int) := of_decide_eq_true yq20; have q110 : x4_2 < (l0_2.length : Int) := of_decide_eq_true yq20; obtain ⟨ad110, e110, hx110_0, hx110_1, hx110_2, hx110_3⟩ := at_T157 HR0_2.out x4_2 p110 q110; obtain rfl : ad105 = ad110 := (by injection e110); replace hx110_0 := (HB.out.cell (World.block_lt_of_cell? w _ hx110_0)).trans hx110_0; replace hx110_1 := (HB.out.cell (World.block_lt_of_cell? w _ hx110_1)).trans hx110_1; replace hx110_2 := (HB.out.cell (World.block_lt_of_cell? w _ hx110_2)).trans hx110_2; replace hx110_3 := (HB.out.cell (World.block_lt_of_cell? w _ hx110_3)).trans hx110_3; replace p110 := eq_true p110; replace q110 := eq_true q110) | (go_at_call 134; (with_reducible refine (spec_l6Form.calls k2 ((qi l0_2 x4_2).f0) ((qi l0_2 x4_2).f1) ((qi l0_2 x4_2).f2) ((qi l0_2 x4_2).f3) true _ A25.out).mono ?_); rintro e w33 ⟨rfl, hb⟩; replace HO_3 := Qz.mk (Kd.V_below yq18 hb); replace HO_102001 := Qz.mk (Kd.V_below yq17 hb); replace HO108 := Qz.mk (Kd.R_below yq23 hb); replace BK101 := bkbf63 BK101 yq16 hb; replace HB := Qz.mk (ql yq14 hb); (try clear hb); (try clear hk); obtain ⟨Ao34, co34, eo34⟩ := Kd.R_slice HO108.out; subst eo34) | (go_at_call 124; (with_reducible refine (spec_l6Files.calls k2 _ _ t106 true _ ?side1 ?side2 A27.out).mono ?_); (case side1 => repeat (first | exact (Kd.R_reads' HO108.out).2.2 | (with_reducible refine Kd.C_alloc ?_ _) | (with_reducible refine Kd.C_drewN ?_ _) | (with_reducible refine Kd.C_drew ?_))); (case side2 => exact (Kd.R_reads' HO108.out).2.1); rintro e w35 ⟨rfl, hb⟩; replace HO_3 := Qz.mk (Kd.V_below yq18 hb); replace HO_102001 := Qz.mk (Kd.V_below yq17 hb); replace HO108 := Qz.mk (Kd.R_below yq23 hb); replace BK101 := bkbf63 BK101 yq16 hb; replace HB := Qz.mk (ql yq14 hb); (try clear hb); (try clear hk)))
           go_roundg k2
           case measure => have := HJ1.out; have := HK2.out; omega
           case rel => exact ⟨(t106), (wrap64 (x4_2 + 1)), (by first | rfl | (simp; done) | (simp [*]; done)), H', ⟨by have := HJ1.out; have := HK2.out; omega⟩, ⟨Kd.V_mono (Kd.R_V (by (with_reducible repeat (first | apply Kd.R_alloc | apply Kd.R_drewN | apply Kd.R_drew)); exact Kd.R_mono (ok' := fun k_ => w.heap.size ≤ k_ ∧ k_ ≠ gb101) (Kd.R_types HO108.out BK101.out (by decide)) (fun _ hk => ⟨hk.1.1, hk.2⟩))) (fun k_ hk => by first | exact ⟨(.inr (hk.1)), hk.2⟩ | exact (.inr (hk)))⟩, ⟨by (with_reducible repeat (first | apply Kd.V_alloc | apply Kd.V_drewN | apply Kd.V_drew)); exact Kd.V_mono HO_102001.out (fun _ hk => ⟨hk.1.1, hk.1.2⟩)⟩, ⟨by (with_reducible repeat (first | refine qh ?_ _ | refine qk ?_ | refine qg ?_ _)); exact BK101.out⟩, ⟨by repeat (first | (with_reducible first | exact HB.out | apply qc | apply qa | apply qb | refine qf ?_ GE101.out) | exact HB.out)⟩⟩
          ·replace c28 := Bool.eq_false_iff.mpr c28
           subst c28
           have H1 : (some false) = some r := by rw [if_neg (show ¬ (false = true) by decide)] at H; exact H
           clear H
           have H := H1
           clear H1
           obtain rfl := Option.some.inj H
           have hcz36_0 := (qd BK101.out 0).trans rfl
           have hcz36_1 := (qd BK101.out 1).trans rfl
           have hcz36_2 := (qd BK101.out 2).trans rfl
           have hfz36_0 := qe BK101.out 0
           have hfz36_1 := qe BK101.out 1
           have hfz36_2 := qe BK101.out 2
           have p105 : 0 ≤ (x4_2 : Int) := of_decide_eq_true yq20
           have q105 : x4_2 < (l0_2.length : Int) := of_decide_eq_true yq20
           obtain ⟨ad105, e105, hx105_0, hx105_1, hx105_2, hx105_3⟩ := at_T157 HR0_2.out x4_2 p105 q105
           cases e105
           replace hx105_0 := (HB.out.cell (World.block_lt_of_cell? w _ hx105_0)).trans hx105_0
           replace hx105_1 := (HB.out.cell (World.block_lt_of_cell? w _ hx105_1)).trans hx105_1
           replace hx105_2 := (HB.out.cell (World.block_lt_of_cell? w _ hx105_2)).trans hx105_2
           replace hx105_3 := (HB.out.cell (World.block_lt_of_cell? w _ hx105_3)).trans hx105_3
           replace p105 := eq_true p105
           replace q105 := eq_true q105
           obtain ⟨Ao37, co37, eo37⟩ := Kd.V_slice HO_3.out
           subst eo37
           go_wp2_with (first | ((with_reducible refine qp (f := 123) rfl ?_); refine qc1 (some 39) rfl rfl Try.func123 (by kernel_rfl) rfl #[.slice Ao37 x3_2.length co37, .agg #[.int .i64 ((qi l0_2 x4_2).f0), .string ((qi l0_2 x4_2).f1), .string ((qi l0_2 x4_2).f2), .string ((qi l0_2 x4_2).f3)]] rfl yq15 ?_; (with_reducible refine (spec_l6Do.calls k2 _ _ x3_2 ((qi l0_2 x4_2).f0) ((qi l0_2 x4_2).f1) ((qi l0_2 x4_2).f2) ((qi l0_2 x4_2).f3) t106 true _ ?side1 ?side2 A23.out).mono ?_); (case side1 => exact yq19); (case side2 => exact (Kd.V_reads' HO_3.out).2.1); rintro e w38 ⟨v107, rfl, ho0, hb⟩; refine ⟨_, rfl, ?_⟩; replace HO_3 := Qz.mk (Kd.V_elder' yq18 (Kd.R_base ho0) hb); replace HO_102001 := Qz.mk (Kd.V_elder' yq17 (Kd.R_base ho0) hb); have HO108 := Qz.mk (Kd.R_lower (Kd.R_newM (M := fun k_ => (w.heap.size ≤ k_)) ho0 (qo yq14) (fun k_ h_ => h_)) (qo yq14)); replace BK101 := bkbf63 BK101 yq16 hb; replace HB := Qz.mk (ql yq14 hb); (try clear hb); (try clear hk); (try clear ho0); have hcz39_0 := (qd BK101.out 0).trans rfl; have hcz39_1 := (qd BK101.out 1).trans rfl; have hcz39_2 := (qd BK101.out 2).trans rfl; have hfz39_0 := qe BK101.out 0; have hfz39_1 := qe BK101.out 1; have hfz39_2 := qe BK101.out 2; have p110 : 0 ≤ (x4_2 : Int) := of_decide_eq_true yq20; have q110 : x4_2 < (l0_2.length : Int) := of_decide_eq_true yq20; obtain ⟨ad110, e110, hx110_0, hx110_1, hx110_2, hx110_3⟩ := at_T157 HR0_2.out x4_2 p110 q110; obtain rfl : ad105 = ad110 := (by injection e110); replace hx110_0 := (HB.out.cell (World.block_lt_of_cell? w _ hx110_0)).trans hx110_0; replace hx110_1 := (HB.out.cell (World.block_lt_of_cell? w _ hx110_1)).trans hx110_1; replace hx110_2 := (HB.out.cell (World.block_lt_of_cell? w _ hx110_2)).trans hx110_2; replace hx110_3 := (HB.out.cell (World.block_lt_of_cell? w _ hx110_3)).trans hx110_3; replace p110 := eq_true p110; replace q110 := eq_true q110) | (go_at_call 134; (with_reducible refine (spec_l6Form.calls k2 ((qi l0_2 x4_2).f0) ((qi l0_2 x4_2).f1) ((qi l0_2 x4_2).f2) ((qi l0_2 x4_2).f3) true _ A25.out).mono ?_); rintro e w40 ⟨rfl, hb⟩; replace HO_3 := Qz.mk (Kd.V_below yq18 hb); replace HO_102001 := Qz.mk (Kd.V_below yq17 hb); replace HO108 := Qz.mk (Kd.R_below yq23 hb); replace BK101 := bkbf63 BK101 yq16 hb; replace HB := Qz.mk (ql yq14 hb); (try clear hb); (try clear hk); obtain ⟨Ao41, co41, eo41⟩ := Kd.R_slice HO108.out; subst eo41) | (go_at_call 124; (with_reducible refine (spec_l6Files.calls k2 _ _ t106 false _ ?side1 ?side2 A27.out).mono ?_); (case side1 => repeat (first | exact (Kd.R_reads' HO108.out).2.2 | (with_reducible refine Kd.C_alloc ?_ _) | (with_reducible refine Kd.C_drewN ?_ _) | (with_reducible refine Kd.C_drew ?_))); (case side2 => exact (Kd.R_reads' HO108.out).2.1); rintro e w42 ⟨rfl, hb⟩; replace HO_3 := Qz.mk (Kd.V_below yq18 hb); replace HO_102001 := Qz.mk (Kd.V_below yq17 hb); replace HO108 := Qz.mk (Kd.R_below yq23 hb); replace BK101 := bkbf63 BK101 yq16 hb; replace HB := Qz.mk (ql yq14 hb); (try clear hb); (try clear hk)))
           go_ret
           exact ⟨by first | rfl | (simp [qn, qm] <;> rfl) | (simp [*, qn, qm] <;> rfl), by repeat (first | (with_reducible first | exact HB.out | apply qc | apply qa | apply qb | refine qf ?_ GE101.out) | exact HB.out)⟩
         ·replace c26 := Bool.eq_false_iff.mpr c26
          subst c26
          have H1 : (some false) = some r := by rw [if_neg (show ¬ (false = true) by decide)] at H; exact H
          clear H
          have H := H1
          clear H1
          obtain rfl := Option.some.inj H
          have hcz43_0 := (qd BK101.out 0).trans rfl
          have hcz43_1 := (qd BK101.out 1).trans rfl
          have hcz43_2 := (qd BK101.out 2).trans rfl
          have hfz43_0 := qe BK101.out 0
          have hfz43_1 := qe BK101.out 1
          have hfz43_2 := qe BK101.out 2
          have p105 : 0 ≤ (x4_2 : Int) := of_decide_eq_true yq20
          have q105 : x4_2 < (l0_2.length : Int) := of_decide_eq_true yq20
          obtain ⟨ad105, e105, hx105_0, hx105_1, hx105_2, hx105_3⟩ := at_T157 HR0_2.out x4_2 p105 q105
          cases e105
          replace hx105_0 := (HB.out.cell (World.block_lt_of_cell? w _ hx105_0)).trans hx105_0
          replace hx105_1 := (HB.out.cell (World.block_lt_of_cell? w _ hx105_1)).trans hx105_1
          replace hx105_2 := (HB.out.cell (World.block_lt_of_cell? w _ hx105_2)).trans hx105_2
          replace hx105_3 := (HB.out.cell (World.block_lt_of_cell? w _ hx105_3)).trans hx105_3
          replace p105 := eq_true p105
          replace q105 := eq_true q105
          obtain ⟨Ao44, co44, eo44⟩ := Kd.V_slice HO_3.out
          subst eo44
          go_wp2_with (first | ((with_reducible refine qp (f := 123) rfl ?_); refine qc1 (some 39) rfl rfl Try.func123 (by kernel_rfl) rfl #[.slice Ao44 x3_2.length co44, .agg #[.int .i64 ((qi l0_2 x4_2).f0), .string ((qi l0_2 x4_2).f1), .string ((qi l0_2 x4_2).f2), .string ((qi l0_2 x4_2).f3)]] rfl yq15 ?_; (with_reducible refine (spec_l6Do.calls k2 _ _ x3_2 ((qi l0_2 x4_2).f0) ((qi l0_2 x4_2).f1) ((qi l0_2 x4_2).f2) ((qi l0_2 x4_2).f3) t106 true _ ?side1 ?side2 A23.out).mono ?_); (case side1 => exact yq19); (case side2 => exact (Kd.V_reads' HO_3.out).2.1); rintro e w45 ⟨v107, rfl, ho0, hb⟩; refine ⟨_, rfl, ?_⟩; replace HO_3 := Qz.mk (Kd.V_elder' yq18 (Kd.R_base ho0) hb); replace HO_102001 := Qz.mk (Kd.V_elder' yq17 (Kd.R_base ho0) hb); have HO108 := Qz.mk (Kd.R_lower (Kd.R_newM (M := fun k_ => (w.heap.size ≤ k_)) ho0 (qo yq14) (fun k_ h_ => h_)) (qo yq14)); replace BK101 := bkbf63 BK101 yq16 hb; replace HB := Qz.mk (ql yq14 hb); (try clear hb); (try clear hk); (try clear ho0); have hcz46_0 := (qd BK101.out 0).trans rfl; have hcz46_1 := (qd BK101.out 1).trans rfl; have hcz46_2 := (qd BK101.out 2).trans rfl; have hfz46_0 := qe BK101.out 0; have hfz46_1 := qe BK101.out 1; have hfz46_2 := qe BK101.out 2; have p110 : 0 ≤ (x4_2 : Int) := of_decide_eq_true yq20; have q110 : x4_2 < (l0_2.length : Int) := of_decide_eq_true yq20; obtain ⟨ad110, e110, hx110_0, hx110_1, hx110_2, hx110_3⟩ := at_T157 HR0_2.out x4_2 p110 q110; obtain rfl : ad105 = ad110 := (by injection e110); replace hx110_0 := (HB.out.cell (World.block_lt_of_cell? w _ hx110_0)).trans hx110_0; replace hx110_1 := (HB.out.cell (World.block_lt_of_cell? w _ hx110_1)).trans hx110_1; replace hx110_2 := (HB.out.cell (World.block_lt_of_cell? w _ hx110_2)).trans hx110_2; replace hx110_3 := (HB.out.cell (World.block_lt_of_cell? w _ hx110_3)).trans hx110_3; replace p110 := eq_true p110; replace q110 := eq_true q110) | (go_at_call 134; (with_reducible refine (spec_l6Form.calls k2 ((qi l0_2 x4_2).f0) ((qi l0_2 x4_2).f1) ((qi l0_2 x4_2).f2) ((qi l0_2 x4_2).f3) false _ A25.out).mono ?_); rintro e w47 ⟨rfl, hb⟩; replace HO_3 := Qz.mk (Kd.V_below yq18 hb); replace HO_102001 := Qz.mk (Kd.V_below yq17 hb); replace HO108 := Qz.mk (Kd.R_below yq23 hb); replace BK101 := bkbf63 BK101 yq16 hb; replace HB := Qz.mk (ql yq14 hb); (try clear hb); (try clear hk)))
          go_ret
          exact ⟨by first | rfl | (simp [qn, qm] <;> rfl) | (simp [*, qn, qm] <;> rfl), by repeat (first | (with_reducible first | exact HB.out | apply qc | apply qa | apply qb | refine qf ?_ GE101.out) | exact HB.out)⟩
        ·replace c24 := Bool.eq_false_iff.mpr c24
         subst c24
         have H1 : (some false) = some r := by rw [if_neg (show ¬ (false = true) by decide)] at H; exact H
         clear H
         have H := H1
         clear H1
         obtain rfl := Option.some.inj H
         have hcz48_0 := (qd BK101.out 0).trans rfl
         have hcz48_1 := (qd BK101.out 1).trans rfl
         have hcz48_2 := (qd BK101.out 2).trans rfl
         have hfz48_0 := qe BK101.out 0
         have hfz48_1 := qe BK101.out 1
         have hfz48_2 := qe BK101.out 2
         have p105 : 0 ≤ (x4_2 : Int) := of_decide_eq_true yq20
         have q105 : x4_2 < (l0_2.length : Int) := of_decide_eq_true yq20
         obtain ⟨ad105, e105, hx105_0, hx105_1, hx105_2, hx105_3⟩ := at_T157 HR0_2.out x4_2 p105 q105
         cases e105
         replace hx105_0 := (HB.out.cell (World.block_lt_of_cell? w _ hx105_0)).trans hx105_0
         replace hx105_1 := (HB.out.cell (World.block_lt_of_cell? w _ hx105_1)).trans hx105_1
         replace hx105_2 := (HB.out.cell (World.block_lt_of_cell? w _ hx105_2)).trans hx105_2
         replace hx105_3 := (HB.out.cell (World.block_lt_of_cell? w _ hx105_3)).trans hx105_3
         replace p105 := eq_true p105
         replace q105 := eq_true q105
         obtain ⟨Ao49, co49, eo49⟩ := Kd.V_slice HO_3.out
         subst eo49
         go_wp2_with (first | ((with_reducible refine qp (f := 123) rfl ?_); refine qc1 (some 39) rfl rfl Try.func123 (by kernel_rfl) rfl #[.slice Ao49 x3_2.length co49, .agg #[.int .i64 ((qi l0_2 x4_2).f0), .string ((qi l0_2 x4_2).f1), .string ((qi l0_2 x4_2).f2), .string ((qi l0_2 x4_2).f3)]] rfl yq15 ?_; (with_reducible refine (spec_l6Do.calls k2 _ _ x3_2 ((qi l0_2 x4_2).f0) ((qi l0_2 x4_2).f1) ((qi l0_2 x4_2).f2) ((qi l0_2 x4_2).f3) t106 false _ ?side1 ?side2 A23.out).mono ?_); (case side1 => exact yq19); (case side2 => exact (Kd.V_reads' HO_3.out).2.1); rintro e w50 ⟨v107, rfl, ho0, hb⟩; refine ⟨_, rfl, ?_⟩; replace HO_3 := Qz.mk (Kd.V_elder' yq18 (Kd.R_base ho0) hb); replace HO_102001 := Qz.mk (Kd.V_elder' yq17 (Kd.R_base ho0) hb); have HO108 := Qz.mk (Kd.R_lower (Kd.R_newM (M := fun k_ => (w.heap.size ≤ k_)) ho0 (qo yq14) (fun k_ h_ => h_)) (qo yq14)); replace BK101 := bkbf63 BK101 yq16 hb; replace HB := Qz.mk (ql yq14 hb); (try clear hb); (try clear hk); (try clear ho0)))
         go_ret
         exact ⟨by first | rfl | (simp [qn, qm] <;> rfl) | (simp [*, qn, qm] <;> rfl), by repeat (first | (with_reducible first | exact HB.out | apply qc | apply qa | apply qb | refine qf ?_ GE101.out) | exact HB.out)⟩
       ·rw [if_neg c22] at H
        exact absurd H (by simp)
      ·rw [if_neg c21] at H
       have c21b0 : decide (x4_2 < (l0_2.length : Int)) = false := decide_eq_false c21
       clear c21
       replace H := Option.bind_eq_some_iff.mp H
       obtain ⟨t104, A510, H⟩ := H
       replace H : (some t104) = some r := H
       have A51 := Qz.mk A510
       clear A510
       obtain rfl := Option.some.inj H
       have hcz52_0 := (qd BK101.out 0).trans rfl
       have hcz52_1 := (qd BK101.out 1).trans rfl
       have hcz52_2 := (qd BK101.out 2).trans rfl
       have hfz52_0 := qe BK101.out 0
       have hfz52_1 := qe BK101.out 1
       have hfz52_2 := qe BK101.out 2
       obtain ⟨Ao53, co53, eo53⟩ := Kd.V_slice HO_3.out
       subst eo53
       go_wp2_with (first | ((with_reducible refine qp (f := 135) rfl ?_); refine qc1 (some 62) rfl rfl Try.func135 (by kernel_rfl) rfl #[.slice Ao53 x3_2.length co53, .slice A0_0 l0_0.length c0_0] rfl yq15 ?_; (with_reducible refine (spec_l6Same.calls k2 _ _ x3_2 _ _ l0_0 t104 _ ?side1 ?side2 ?side3 ?side4 A51.out).mono ?_); (case side1 => exact yq19); (case side2 => exact (Kd.V_reads' HO_3.out).2.1); (case side3 => exact yq21); (case side4 => exact HC0_0.out); rintro e w' ⟨rfl, ⟨nd, rfl⟩⟩; refine ⟨_, rfl, ?_⟩))
       go_ret
       exact ⟨by first | rfl | (simp [qn, qm] <;> rfl) | (simp [*, qn, qm] <;> rfl), by repeat (first | (with_reducible first | exact HB.out | apply qc | apply qa | apply qb | refine qf ?_ GE101.out) | exact HB.out)⟩
end Go.Proofs.Ytidjdkodgddfcaa.P
end

section
namespace Go.Proofs.Ytidjdkodgddfcaa.P
open Go.RowKit Go.Proofs.YtidjdkodgddfcaaW.PrintWords Go.Proofs.YtidjdkodgddfcaaW.PrintLast Go.Proofs.YtidjdkodgddfcaaW.PrintMore
attribute [local go_sem] str_gtr str_leq str_geq qb1 qz max_two min_two qv qu qa1 qy
set_option linter.unusedVariables false
set_option linter.unusedSimpArgs false
theorem within_ev (a b c : Int) : impl_within.f a b c = some (decide (b ≤ a ∧ a ≤ c)) := by
 unfold impl_within.f
 by_cases h : b ≤ a <;> simp [h]
theorem in_ev (a b c : Int) : spec_l1In.f a b c = some (decide (b ≤ a ∧ a ≤ c)) := by
 unfold spec_l1In.f
 by_cases h : b ≤ a <;> simp [h]
def isU (s : ByteArray) : Prop := 1 ≤ s.size ∧ s.size ≤ 40
instance (s : ByteArray) : Decidable (isU s) := by unfold isU; infer_instance
end Go.Proofs.Ytidjdkodgddfcaa.P
end
