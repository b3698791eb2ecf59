/- Proved: the law FnBlockSought of the given program returns true for every input of its Go types and leaves each argument as it was; no condition. (Part 5 of 12.) -/
import Derived.Test.YtidjdkodgddfcaaProg
import Derived.Below
import Derived.Deep.Draws
import Derived.Deep.AppendLies
import Derived.Maps.AppendAt
import Derived.OwnWalk
import Derived.Laws.BytesArg
import Derived.Laws.MakeOwn
import Derived.Laws.OwnMore
import Derived.Deep.OwnRows
import Derived.Tactics
import Derived.Lib.ConvBytes
import Derived.Laws.Slices
import Derived.WalkKit
import Derived.KernelRfl
import Derived.RowKit3
import Derived.Deep.LoopGhost
import Derived.Deep.QuietTactic
import Derived.BigQuiet
import Derived.WideLaws
import Derived.Deep.DeepCutAuto
import Derived.Deep.CutBlock
import Derived.Deep.RegionHeld3
import Derived.Laws.Rows
import Derived.Lib.AppendStr
import Derived.ArgAppend
import Derived.Laws.IdiomCopy
import Derived.OrdersHeld
import Derived.Laws.BitsLemmas
import Derived.RowKit
import Derived.Test.YtidjdkodgddfcaaCFnBlockSought0
import Derived.Test.YtidjdkodgddfcaaCFnBlockSought1
import Derived.Test.YtidjdkodgddfcaaCFnBlockSought2
import Derived.Test.YtidjdkodgddfcaaCFnBlockSought3
section
namespace Go.Proofs.Ytidjdkodgddfcaa.P
open Go.RowKit Go.Proofs.YtidjdkodgddfcaaW.PrintWords Go.Proofs.YtidjdkodgddfcaaW.PrintLast Go.Proofs.YtidjdkodgddfcaaW.PrintMore
attribute [local go_sem] qh1 qg1 qi1 qf1 qd1 qk1 qj1 qy qx qe1 qc1
set_option linter.unusedVariables false
set_option linter.unusedSimpArgs false
theorem sq1.{u} : type_of% @List.setIfInBounds_toArray.{u} := @List.setIfInBounds_toArray.{u}
theorem sq2.{u} : type_of% @List.set_cons_zero.{u} := @List.set_cons_zero.{u}
theorem sq3.{u} : type_of% @List.set_cons_succ.{u} := @List.set_cons_succ.{u}
@[reducible] def bq0 : Array Bool := #[false, false, false, false, false, false, false, false, false, false, false, false, false, false, false, false, false, false, false, false, false, false, false, false, false]
@[reducible] def bq1 : Array Bool := #[false, false, false, false, false, false, false, false, false, false, false, false, false, false, false, false, false, false, false]
@[reducible] def bq2 : Array Bool := #[false, false, false, false, false, false, false, false, false, false, false, false, false, false, false, false, false, false]
@[reducible] def bq3 : Array Bool := #[false, false, false, false, false, false, false, false, false, false, false, false, false, false, false]
@[reducible] def bq4 : Array Bool := #[false, false, false, false, false, false, false, false, false, false, false, false, false, false]
@[reducible] def bq5 : Array Bool := #[false, false, false, false, false, false, false, false, false, false, false, false]
@[reducible] def bq6 : Array Bool := #[true, false, false, false, false, false, false, false, false, false, false, false, false, false, false, false, false, false, false, false, false, false, false, false, false]
@[reducible] def bq7 : Array Bool := #[true, false, false, false, false, false, false, false, false, false, false, false, false, false, false, false, false, false, false]
@[reducible] def bq8 : Array Bool := #[true, false, false, false, false, false, false, false, false, false, false, false, false, false, false, false, false, false]
@[reducible] def bq9 : Array Bool := #[true, false, false, false, false, false, false, false, false, false, false, false, false, false, false]
@[reducible] def bq10 : Array Bool := #[true, false, false, false, false, false, false, false, false, false, false, false, false, false]
@[reducible] def bq11 : Array Bool := #[true, false, false, false, false, false, false, false, false, false, false, false]
@[reducible] def bq12 : Array Bool := #[true, false, true, false, false, false, false, false, false, false, false, false]
@[reducible] def bq13 : Array Bool := #[true, false, true, true, false, false, false, false, false, false, false, false]
@[reducible] def bq14 : Array Bool := #[true, false, true, true, false, false, true, false, false, false, false, false]
@[reducible] def bq15 : Array Bool := #[true, false, true, true, false, false, true, true, false, false, false, false]
@[reducible] def bq16 : Array Bool := #[true, false, true, true, false, false, true, true, true, false, false, false]
@[reducible] def bq17 : Array Bool := #[true, true, false, false, false, false, false, false, false, false, false, false, false, false, false, false, false, false, false, false, false, false, false, false, false]
@[reducible] def bq18 : Array Bool := #[true, true, false, false, false, false, false, false, false, false, false, false, false, false, false, false, false, false, false]
@[reducible] def bq19 : Array Bool := #[true, true, false, false, false, false, false, false, false, false, false, false, false, false, false, false, false, false]
@[reducible] def bq20 : Array Bool := #[true, true, false, false, false, false, false, false, false, false, false, false, false, false, false]
@[reducible] def bq21 : Array Bool := #[true, true, false, false, false, false, false, false, false, false, false, false, false, false]
@[reducible] def bq22 : Array Bool := #[true, true, false, true, false, false, false, false, false, false, false, false, false, false]
@[reducible] def bq23 : Array Bool := #[true, true, false, true, true, false, false, false, false, false, false, false, false, false]
@[reducible] def bq24 : Array Bool := #[true, true, false, true, true, true, false, false, false, false, false, false, false, false]
@[reducible] def bq25 : Array Bool := #[true, true, false, true, true, true, false, false, true, false, false, false, false, false]
@[reducible] def bq26 : Array Bool := #[true, true, false, true, true, true, false, false, true, true, false, false, false, false]
@[reducible] def bq27 : Array Bool := #[true, true, true, false, false, false, false, false, false, false, false, false, false, false, false, false, false, false, false, false, false, false, false, false, false]
@[reducible] def bq28 : Array Bool := #[true, true, true, false, false, false, false, false, false, false, false, false, false, false, false, false, false, false, false]
@[reducible] def bq29 : Array Bool := #[true, true, true, false, false, false, false, false, false, false, false, false, false, false, false, false, false, false]
@[reducible] def bq30 : Array Bool := #[true, true, true, false, false, false, false, false, false, false, false, false, false, false, false]
@[reducible] def bq31 : Array Bool := #[true, true, true, false, false, false, false, false, false, false, false, false, false, false]
@[reducible] def bq32 : Array Bool := #[true, true, true, false, false, true, false, false, false, false, false, false, false, false, false, false, false, false]
@[reducible] def bq33 : Array Bool := #[true, true, true, false, false, true, true, false, false, false, false, false, false, false, false, false, false, false]
@[reducible] def bq34 : Array Bool := #[true, true, true, false, false, true, true, true, false, false, false, false, false, false, false, false, false, false]
@[reducible] def bq35 : Array Bool := #[true, true, true, false, false, true, true, true, false, false, true, false, false, false, false, false, false, false]
@[reducible] def bq36 : Array Bool := #[true, true, true, false, false, true, true, true, false, false, true, true, false, false, false, false, false, false]
@[reducible] def bq37 : Array Bool := #[true, true, true, false, false, true, true, true, false, false, true, true, true, false, false, false, false, false]
@[reducible] def bq38 : Array Bool := #[true, true, true, false, false, true, true, true, false, false, true, true, true, true, false, false, false, false]
@[reducible] def bq39 : Array Bool := #[true, true, true, false, false, true, true, true, false, false, true, true, true, true, true, false, false, false]
@[reducible] def bq40 : Array Bool := #[true, true, true, true, false, false, false, false, false, false, false, false, false, false, false, false, false, false, false, false, false, false, false, false, false]
@[reducible] def bq41 : Array Bool := #[true, true, true, true, false, false, false, false, false, false, false, false, false, false, false, false, false, false, false]
@[reducible] def bq42 : Array Bool := #[true, true, true, true, false, false, false, false, false, false, false, false, false, false, false]
@[reducible] def bq43 : Array Bool := #[true, true, true, true, false, false, false, false, false, false, false, false, false, false]
@[reducible] def bq44 : Array Bool := #[true, true, true, true, false, false, true, true, true, false, false, false]
@[reducible] def bq45 : Array Bool := #[true, true, true, true, false, true, true, true, false, false, true, true, true, true, true, false, false, false]
@[reducible] def bq46 : Array Bool := #[true, true, true, true, true, false, false, false, false, false, false, false, false, false, false, false, false, false, false, false, false, false, false, false, false]
@[reducible] def bq47 : Array Bool := #[true, true, true, true, true, false, false, false, false, false, false, false, false, false, false, false, false, false, false]
@[reducible] def bq48 : Array Bool := #[true, true, true, true, true, false, false, false, false, false, false, false, false, false, false]
@[reducible] def bq49 : Array Bool := #[true, true, true, true, true, false, false, false, false, false, false, false, false, false]
@[reducible] def bq50 : Array Bool := #[true, true, true, true, true, false, true, true, true, false, false, false]
@[reducible] def bq51 : Array Bool := #[true, true, true, true, true, true, false, false, false, false, false, false, false, false, false, false, false, false, false, false, false, false, false, false, false]
@[reducible] def bq52 : Array Bool := #[true, true, true, true, true, true, false, false, false, false, false, false, false, false, false, false, false, false, false]
@[reducible] def bq53 : Array Bool := #[true, true, true, true, true, true, false, false, false, false, false, false, false, false, false]
@[reducible] def bq54 : Array Bool := #[true, true, true, true, true, true, false, false, false, false, false, false, false, false]
@[reducible] def bq55 : Array Bool := #[true, true, true, true, true, true, false, false, true, true, false, false, false, false]
@[reducible] def bq56 : Array Bool := #[true, true, true, true, true, true, true, false, false, false, false, false, false, false, false, false, false, false, false, false, false, false, false, false, false]
@[reducible] def bq57 : Array Bool := #[true, true, true, true, true, true, true, false, false, false, false, false, false, false, false, false, false, false, false]
@[reducible] def bq58 : Array Bool := #[true, true, true, true, true, true, true, false, false, false, false, false, false, false, false]
@[reducible] def bq59 : Array Bool := #[true, true, true, true, true, true, true, false, false, false, false, false, false, false]
@[reducible] def bq60 : Array Bool := #[true, true, true, true, true, true, true, false, true, true, false, false, false, false]
@[reducible] def bq61 : Array Bool := #[true, true, true, true, true, true, true, true, false, false, false, false, false, false, false, false, false, false, false, false, false, false, false, false, false]
@[reducible] def bq62 : Array Bool := #[true, true, true, true, true, true, true, true, false, false, false, false, false, false, false, false, false, false, false]
@[reducible] def bq63 : Array Bool := #[true, true, true, true, true, true, true, true, false, false, false, false, false, false, false]
@[reducible] def bq64 : Array Bool := #[true, true, true, true, true, true, true, true, false, false, false, false, false, false]
@[reducible] def bq65 : Array Bool := #[true, true, true, true, true, true, true, true, false, false, true, true, true, true, true, false, false, false]
@[reducible] def bq66 : Array Bool := #[true, true, true, true, true, true, true, true, true, false, false, false, false, false, false, false, false, false, false, false, false, false, false, false, false]
@[reducible] def bq67 : Array Bool := #[true, true, true, true, true, true, true, true, true, false, false, false, false, false, false, false, false, false, false]
@[reducible] def bq68 : Array Bool := #[true, true, true, true, true, true, true, true, true, false, false, false, false, false, false]
@[reducible] def bq69 : Array Bool := #[true, true, true, true, true, true, true, true, true, false, false, false, false, false]
@[reducible] def bq70 : Array Bool := #[true, true, true, true, true, true, true, true, true, false, false, false]
@[reducible] def bq71 : Array Bool := #[true, true, true, true, true, true, true, true, true, false, true, false, false, false, false]
@[reducible] def bq72 : Array Bool := #[true, true, true, true, true, true, true, true, true, false, true, false, false, false]
@[reducible] def bq73 : Array Bool := #[true, true, true, true, true, true, true, true, true, false, true, true, true, true, true, false, false, false]
@[reducible] def bq74 : Array Bool := #[true, true, true, true, true, true, true, true, true, true, false, false, false, false, false, false, false, false, false, false, false, false, false, false, false]
@[reducible] def bq75 : Array Bool := #[true, true, true, true, true, true, true, true, true, true, false, false, false, false, false, false, false, false, false]
@[reducible] def bq76 : Array Bool := #[true, true, true, true, true, true, true, true, true, true, false, false, false, false]
@[reducible] def bq77 : Array Bool := #[true, true, true, true, true, true, true, true, true, true, false, false]
@[reducible] def bq78 : Array Bool := #[true, true, true, true, true, true, true, true, true, true, true, false, false, false, false, false, false, false, false, false, false, false, false, false, false]
@[reducible] def bq79 : Array Bool := #[true, true, true, true, true, true, true, true, true, true, true, false, false, false, false, false, false, false, false]
@[reducible] def bq80 : Array Bool := #[true, true, true, true, true, true, true, true, true, true, true, false, false, false, false]
@[reducible] def bq81 : Array Bool := #[true, true, true, true, true, true, true, true, true, true, true, false, false, false]
@[reducible] def bq82 : Array Bool := #[true, true, true, true, true, true, true, true, true, true, true, false]
@[reducible] def bq83 : Array Bool := #[true, true, true, true, true, true, true, true, true, true, true, true, false, false, false, false, false, false, false, false, false, false, false, false, false]
@[reducible] def bq84 : Array Bool := #[true, true, true, true, true, true, true, true, true, true, true, true, false, false, false, false, false, false, false]
@[reducible] def bq85 : Array Bool := #[true, true, true, true, true, true, true, true, true, true, true, true, false, false, false]
@[reducible] def bq86 : Array Bool := #[true, true, true, true, true, true, true, true, true, true, true, true, false, false]
@[reducible] def bq87 : Array Bool := #[true, true, true, true, true, true, true, true, true, true, true, true, false, true, false, false, false, false, false]
@[reducible] def bq88 : Array Bool := #[true, true, true, true, true, true, true, true, true, true, true, true, true, false, false, false, false, false, false, false, false, false, false, false, false]
@[reducible] def bq89 : Array Bool := #[true, true, true, true, true, true, true, true, true, true, true, true, true, false, false, false, false, false, false]
@[reducible] def bq90 : Array Bool := #[true, true, true, true, true, true, true, true, true, true, true, true, true, false, false]
@[reducible] def bq91 : Array Bool := #[true, true, true, true, true, true, true, true, true, true, true, true, true, false]
@[reducible] def bq92 : Array Bool := #[true, true, true, true, true, true, true, true, true, true, true, true, true, true, false, false, false, false, false, false, false, false, false, false, false]
@[reducible] def bq93 : Array Bool := #[true, true, true, true, true, true, true, true, true, true, true, true, true, true, false, false, false, false, false]
@[reducible] def bq94 : Array Bool := #[true, true, true, true, true, true, true, true, true, true, true, true, true, true, false]
@[reducible] def bq95 : Array Bool := #[true, true, true, true, true, true, true, true, true, true, true, true, true, true, true, false, false, false, false, false, false, false, false, false, false]
@[reducible] def bq96 : Array Bool := #[true, true, true, true, true, true, true, true, true, true, true, true, true, true, true, false, false, false, false]
@[reducible] def bq97 : Array Bool := #[true, true, true, true, true, true, true, true, true, true, true, true, true, true, true, false, false, false]
@[reducible] def bq98 : Array Bool := #[true, true, true, true, true, true, true, true, true, true, true, true, true, true, true, false, true, false, false, false, false, false, false, false, false]
@[reducible] def bq99 : Array Bool := #[true, true, true, true, true, true, true, true, true, true, true, true, true, true, true, false, true, true, false, false, false, false, false, false, false]
@[reducible] def bq100 : Array Bool := #[true, true, true, true, true, true, true, true, true, true, true, true, true, true, true, false, true, true, true, false, false, false, false, false, false]
@[reducible] def bq101 : Array Bool := #[true, true, true, true, true, true, true, true, true, true, true, true, true, true, true, false, true, true, true, true, false, false, false, false, false]
@[reducible] def bq102 : Array Bool := #[true, true, true, true, true, true, true, true, true, true, true, true, true, true, true, true, false, false, false, false, false, false, false, false, false]
@[reducible] def bq103 : Array Bool := #[true, true, true, true, true, true, true, true, true, true, true, true, true, true, true, true, false, false, false]
@[reducible] def bq104 : Array Bool := #[true, true, true, true, true, true, true, true, true, true, true, true, true, true, true, true, false, false]
@[reducible] def bq105 : Array Bool := #[true, true, true, true, true, true, true, true, true, true, true, true, true, true, true, true, true, false, false, false, false, false, false, false, false]
@[reducible] def bq106 : Array Bool := #[true, true, true, true, true, true, true, true, true, true, true, true, true, true, true, true, true, false, false]
@[reducible] def bq107 : Array Bool := #[true, true, true, true, true, true, true, true, true, true, true, true, true, true, true, true, true, false]
@[reducible] def bq108 : Array Bool := #[true, true, true, true, true, true, true, true, true, true, true, true, true, true, true, true, true, true, false, false, false, false, false, false, false]
@[reducible] def bq109 : Array Bool := #[true, true, true, true, true, true, true, true, true, true, true, true, true, true, true, true, true, true, false]
@[reducible] def bq110 : Array Bool := #[true, true, true, true, true, true, true, true, true, true, true, true, true, true, true, true, true, true, true, false, false, false, false, false, false]
@[reducible] def bq111 : Array Bool := #[true, true, true, true, true, true, true, true, true, true, true, true, true, true, true, true, true, true, true, true, false, false, false, false, false]
@[reducible] def bq112 : Array Bool := #[true, true, true, true, true, true, true, true, true, true, true, true, true, true, true, true, true, true, true, true, true, false, false, false, false]
@[reducible] def bq113 : Array Bool := #[true, true, true, true, true, true, true, true, true, true, true, true, true, true, true, true, true, true, true, true, true, true, false, false, false]
@[reducible] def bq114 : Array Bool := #[true, true, true, true, true, true, true, true, true, true, true, true, true, true, true, true, true, true, true, true, true, true, true, false, false]
@[reducible] def bq115 : Array Bool := #[true, true, true, true, true, true, true, true, true, true, true, true, true, true, true, true, true, true, true, true, true, true, true, true, false]
@[reducible] def bq116 : Array Bool := #[true, true, true, true, true, true, true, true, true, true, true, true, true, true, true, true, true, true, true, true, true, true, true, true, true]
@[reducible] def bq117 : Array Bool := #[true, true, true, true, true, true, true, true, true, true, true, true, true, true, true, true, true, true, true]
@[reducible] def bq118 : Array Bool := #[true, true, true, true, true, true, true, true, true, true, true, true, true, true, true, true, true, true]
@[reducible] def bq119 : Array Bool := #[true, true, true, true, true, true, true, true, true, true, true, true, true, true, true]
@[reducible] def bq120 : Array Bool := #[true, true, true, true, true, true, true, true, true, true, true, true, true, true]
@[reducible] def bq121 : Array Bool := #[true, true, true, true, true, true, true, true, true, true, true, true]
def errW : Option Int → Value
 | none => .nilIface
 | some c => .iface 0 (.int .i64 c)
theorem qn : errW none = .nilIface := rfl
theorem qm (c : Int) : errW (some c) = .iface 0 (.int .i64 c) := rfl
theorem info5 : (Try.prog.info? 5).map (fun i => (i.zero, i.size, i.bytes)) = some (some (.int .u8 0), 1, 1) := by kernel_rfl
theorem info64 : (Try.prog.info? 64).map (fun i => (i.zero, i.size, i.bytes)) = some (some (.agg #[(.string ⟨#[]⟩), (.int .i64 0), (.int .i64 0), (.string ⟨#[]⟩)]), 4, 48) := by kernel_rfl
structure S35 where
 f0 : ByteArray
 f1 : Int
 f2 : Int
def z35 : S35 := ⟨(⟨#[]⟩ : ByteArray), (0 : Int), (0 : Int)⟩
def k35 : Kd S35 := Kd.iso (Kd.pair Kd.string (Kd.pair (Kd.int .i64) (Kd.int .i64))) (fun x : S35 => (x.f0, x.f1, x.f2))
theorem k35_open {w : World} {x : S35} {cs : List Value} (h : k35.K w x cs) : cs = [.string x.f0, .int .i64 x.f1, .int .i64 x.f2] := by
 obtain ⟨_, _, rfl, rfl, ⟨_, _, rfl, rfl, rfl⟩⟩ := h
 exact rfl
theorem k35_mkM (w : World) (base : Nat) (ok : Nat → Prop) (x : S35)  : k35.M w base ok x [.string x.f0, .int .i64 x.f1, .int .i64 x.f2] := ⟨[.string x.f0], [.int .i64 x.f1, .int .i64 x.f2], rfl, rfl, ⟨[.int .i64 x.f1], [.int .i64 x.f2], rfl, rfl, rfl⟩⟩
structure S64 where
 f0 : S35
 f1 : ByteArray
def z64 : S64 := ⟨z35, (⟨#[]⟩ : ByteArray)⟩
def k64 : Kd S64 := Kd.iso (Kd.pair k35 Kd.string) (fun x : S64 => (x.f0, x.f1))
theorem k64_open {w : World} {x : S64} {cs : List Value} (h : k64.K w x cs) : cs = [.string x.f0.f0, .int .i64 x.f0.f1, .int .i64 x.f0.f2, .string x.f1] := by
 obtain ⟨_, _, rfl, s0, rfl⟩ := h
 obtain rfl := k35_open s0
 exact rfl
theorem k64_mkM (w : World) (base : Nat) (ok : Nat → Prop) (x : S64)  : k64.M w base ok x [.string x.f0.f0, .int .i64 x.f0.f1, .int .i64 x.f0.f2, .string x.f1] := ⟨[.string x.f0.f0, .int .i64 x.f0.f1, .int .i64 x.f0.f2], [.string x.f1], rfl, (k35_mkM w base ok x.f0 ), rfl⟩
def qk (xs : List S64) (i : Int) : S64 := xs.getD i.toNat z64
theorem at_T64 {w : World} {A : Option Addr} {n : Nat} {xs : List S64} (h : Kd.C k64 w A n xs) (i : Int) (h0 : 0 ≤ i) (h1 : i < n) : ∃ ad , A = some ad ∧ w.cell? (ad.add (i.toNat * 4)) = some (.string (qk xs i).f0.f0) ∧ w.cell? ⟨(ad.add (i.toNat * 4)).block, (ad.add (i.toNat * 4)).off + 1, none⟩ = some (.int .i64 (qk xs i).f0.f1) ∧ w.cell? ⟨(ad.add (i.toNat * 4)).block, (ad.add (i.toNat * 4)).off + 2, none⟩ = some (.int .i64 (qk xs i).f0.f2) ∧ w.cell? ⟨(ad.add (i.toNat * 4)).block, (ad.add (i.toNat * 4)).off + 3, none⟩ = some (.string (qk xs i).f1) := by
 obtain ⟨ad, c, e, _, hK, hc0⟩ := Kd.C_get h z64 i h0 h1
 have hc : ∀ j u, c[j]? = some u → w.cell? (ad.add (i.toNat * 4 + j)) = some u := hc0
 obtain rfl := k64_open hK
 exact ⟨ad, e, hc 0 _ rfl, by rw [← add_field _ _ 1 (by omega)]; exact hc 1 _ rfl, by rw [← add_field _ _ 2 (by omega)]; exact hc 2 _ rfl, by rw [← add_field _ _ 3 (by omega)]; exact hc 3 _ rfl⟩
def spec_l2User.f (a0 : ByteArray) : Option (Bool) := if (a0.size : Int) ≥ 1 then (some (decide ((a0.size : Int) ≤ 40))) else (some false)
set_option maxHeartbeats 8000000 in
set_option maxRecDepth 100000 in
theorem spec_l2User.calls (a0 : ByteArray) (r : Bool) (w : World) (h : spec_l2User.f a0 = some r) :
  Calls Try.prog 151 #[.string a0] w fun e w' => e = .returned (.bool r) ∧ Drawn0 w w' := by
 have H : (if (a0.size : Int) ≥ 1 then (some (decide ((a0.size : Int) ≤ 40))) else (some false)) = some r := h
 clear h
 by_cases c2 : (a0.size : Int) ≥ 1
 ·rw [if_pos c2] at H
  have c2b0 : decide (1 ≤ (a0.size : Int)) = true := decide_eq_true c2
  have c2b1 : decide (1 ≤ a0.size) = true := decide_eq_true (by omega)
  clear c2
  obtain rfl := Option.some.inj H
  go_enter Try.func151, Try.ntmps151
  go_wp2
  go_ret
  exact ⟨by first | rfl | (simp; done) | (simp [*]; done), by repeat (first | exact Drawn0.refl _ | apply Drawn0.step)⟩
 ·rw [if_neg c2] at H
  have c2b0 : decide (1 ≤ (a0.size : Int)) = false := decide_eq_false c2
  have c2b1 : decide (1 ≤ a0.size) = false := decide_eq_false (by omega)
  clear c2
  obtain rfl := Option.some.inj H
  go_enter Try.func151, Try.ntmps151
  go_wp2
  go_ret
  exact ⟨by first | rfl | (simp; done) | (simp [*]; done), by repeat (first | exact Drawn0.refl _ | apply Drawn0.step)⟩
def spec_l1In.f (a0 : Int) (a1 : Int) (a2 : Int) : Option (Bool) := if a0 ≥ a1 then (some (decide (a0 ≤ a2))) else (some false)
set_option maxHeartbeats 8000000 in
set_option maxRecDepth 100000 in
theorem spec_l1In.calls (a0 : Int) (a1 : Int) (a2 : Int) (r : Bool) (w : World) (h : spec_l1In.f a0 a1 a2 = some r) :
  Calls Try.prog 69 #[.int .i64 a0, .int .i64 a1, .int .i64 a2] w fun e w' => e = .returned (.bool r) ∧ Drawn0 w w' := by
 have H : (if a0 ≥ a1 then (some (decide (a0 ≤ a2))) else (some false)) = some r := h
 clear h
 by_cases c4 : a0 ≥ a1
 ·rw [if_pos c4] at H
  have c4b0 : decide (a1 ≤ a0) = true := decide_eq_true c4
  clear c4
  obtain rfl := Option.some.inj H
  go_enter Try.func69, Try.ntmps69
  go_wp2
  go_ret
  exact ⟨by first | rfl | (simp; done) | (simp [*]; done), by repeat (first | exact Drawn0.refl _ | apply Drawn0.step)⟩
 ·rw [if_neg c4] at H
  have c4b0 : decide (a1 ≤ a0) = false := decide_eq_false c4
  clear c4
  obtain rfl := Option.some.inj H
  go_enter Try.func69, Try.ntmps69
  go_wp2
  go_ret
  exact ⟨by first | rfl | (simp; done) | (simp [*]; done), by repeat (first | exact Drawn0.refl _ | apply Drawn0.step)⟩
theorem yq0 {P : Prop} (h : P := by repeat (first | (with_reducible first | exact HB.out | apply qc | apply qa | apply qb) | exact HB.out)) : P := h
def spec_KeyOk.f (a0_0 : ByteArray) (a0_1 : Int) (a0_2 : Int) : Option (Bool) := (spec_l2User.f a0_0).bind fun t102 => (if t102 = true then ((spec_l1In.f a0_1 0 1000000000000).bind fun t103 => (if t103 = true then ((spec_l1In.f a0_2 0 1).bind fun t104 => (some t104)) else (some false))) else (some false))
set_option maxHeartbeats 8000000 in
set_option maxRecDepth 100000 in
theorem spec_KeyOk.calls (a0_0 : ByteArray) (a0_1 : Int) (a0_2 : Int) (r : Bool) (w : World) (h : spec_KeyOk.f a0_0 a0_1 a0_2 = some r) :
  Calls Try.prog 79 #[.agg #[.string a0_0, .int .i64 a0_1, .int .i64 a0_2]] w fun e w' => e = .returned (.bool r) ∧ Below w.heap.size w w' := by
 have hu35 := Try.underlying35
 have HB := Qz.mk (Below.refl w.heap.size w)
 have H : ((spec_l2User.f a0_0).bind fun t102 => (if t102 = true then ((spec_l1In.f a0_1 0 1000000000000).bind fun t103 => (if t103 = true then ((spec_l1In.f a0_2 0 1).bind fun t104 => (some t104)) else (some false))) else (some false))) = some r := h
 clear h
 replace H := Option.bind_eq_some_iff.mp H
 obtain ⟨t102, A20, H⟩ := H
 replace H : (if t102 = true then ((spec_l1In.f a0_1 0 1000000000000).bind fun t103 => (if t103 = true then ((spec_l1In.f a0_2 0 1).bind fun t104 => (some t104)) else (some false))) else (some false)) = some r := H
 have A2 := Qz.mk A20
 clear A20
 by_cases c3 : t102 = true
 ·subst c3
  have H1 : ((spec_l1In.f a0_1 0 1000000000000).bind fun t103 => (if t103 = true then ((spec_l1In.f a0_2 0 1).bind fun t104 => (some t104)) else (some false))) = some r := by rw [if_pos rfl] at H; exact H
  clear H
  have H := H1
  clear H1
  replace H := Option.bind_eq_some_iff.mp H
  obtain ⟨t103, A40, H⟩ := H
  replace H : (if t103 = true then ((spec_l1In.f a0_2 0 1).bind fun t104 => (some t104)) else (some false)) = some r := H
  have A4 := Qz.mk A40
  clear A40
  by_cases c5 : t103 = true
  ·subst c5
   have H1 : ((spec_l1In.f a0_2 0 1).bind fun t104 => (some t104)) = some r := by rw [if_pos rfl] at H; exact H
   clear H
   have H := H1
   clear H1
   replace H := Option.bind_eq_some_iff.mp H
   obtain ⟨t104, A60, H⟩ := H
   replace H : (some t104) = some r := H
   have A6 := Qz.mk A60
   clear A60
   obtain rfl := Option.some.inj H
   go_enter Try.func79, Try.ntmps79
   go_wp2_with (first | ((with_reducible refine qb1 (N := 1) rfl ?_); refine qz ?hg (N := 1) ?hd (cs := #[.string a0_0, .int .i64 a0_1, .int .i64 a0_2]) (t := 35) ?hr ?_; (case hd => rfl); (case hg => rfl); (case hr => first | (go_simp; done) | (go_simp; rfl)); intro gb101 hg w7 hbox hb; have BK101 := Qz.mk (hbox); have GW101 := Qz.mk ((by rw [hg]; exact (qv yq0) : w.heap.size ≤ gb101)); have GE101 := GW101; replace HB := Qz.mk (ql yq0 hb); clear hb hbox hg; have hcz8_0 : w7.cell? ⟨gb101, 0, none⟩ = some (.string a0_0) := (qf BK101.out 0).trans rfl; have hcz8_1 : w7.cell? ⟨gb101, 1, none⟩ = some (.int .i64 a0_1) := (qf BK101.out 1).trans rfl; have hcz8_2 : w7.cell? ⟨gb101, 2, none⟩ = some (.int .i64 a0_2) := (qf BK101.out 2).trans rfl; have hfz8_0 := qe BK101.out 0; have hfz8_1 := qe BK101.out 1; have hfz8_2 := qe BK101.out 2) | ((with_reducible refine qj (f := 151) rfl ?_); refine qt (some 5) rfl rfl Try.func151 (by kernel_rfl) rfl #[.string a0_0] rfl (by (try simp only [List.map_toArray, List.map_cons, List.map_nil]); first | done | rfl) ?_; (with_reducible refine (spec_l2User.calls a0_0 true _ A2.out).mono ?_); rintro e w' ⟨rfl, ⟨nd, rfl⟩⟩; refine ⟨_, rfl, ?_⟩) | (go_at_call 69; (with_reducible refine (spec_l1In.calls a0_1 0 1000000000000 true _ A4.out).mono ?_); rintro e w' ⟨rfl, ⟨nd, rfl⟩⟩) | (go_at_call 69; (with_reducible refine (spec_l1In.calls a0_2 0 1 t104 _ A6.out).mono ?_); rintro e w' ⟨rfl, ⟨nd, rfl⟩⟩))
   go_ret
   exact ⟨by first | rfl | (simp [qn, qm] <;> rfl) | (simp [*, qn, qm] <;> rfl), by repeat (first | (with_reducible first | exact HB.out | apply qc | apply qa | apply qb | refine qd ?_ GE101.out) | exact HB.out)⟩
  ·replace c5 := Bool.eq_false_iff.mpr c5
   subst c5
   have H1 : (some false) = some r := by rw [if_neg (show ¬ (false = true) by decide)] at H; exact H
   clear H
   have H := H1
   clear H1
   obtain rfl := Option.some.inj H
   go_enter Try.func79, Try.ntmps79
   go_wp2_with (first | ((with_reducible refine qb1 (N := 1) rfl ?_); refine qz ?hg (N := 1) ?hd (cs := #[.string a0_0, .int .i64 a0_1, .int .i64 a0_2]) (t := 35) ?hr ?_; (case hd => rfl); (case hg => rfl); (case hr => first | (go_simp; done) | (go_simp; rfl)); intro gb101 hg w9 hbox hb; have BK101 := Qz.mk (hbox); have GW101 := Qz.mk ((by rw [hg]; exact (qv yq0) : w.heap.size ≤ gb101)); have GE101 := GW101; replace HB := Qz.mk (ql yq0 hb); clear hb hbox hg; have hcz10_0 : w9.cell? ⟨gb101, 0, none⟩ = some (.string a0_0) := (qf BK101.out 0).trans rfl; have hcz10_1 : w9.cell? ⟨gb101, 1, none⟩ = some (.int .i64 a0_1) := (qf BK101.out 1).trans rfl; have hcz10_2 : w9.cell? ⟨gb101, 2, none⟩ = some (.int .i64 a0_2) := (qf BK101.out 2).trans rfl; have hfz10_0 := qe BK101.out 0; have hfz10_1 := qe BK101.out 1; have hfz10_2 := qe BK101.out 2) | ((with_reducible refine qj (f := 151) rfl ?_); refine qt (some 5) rfl rfl Try.func151 (by kernel_rfl) rfl #[.string a0_0] rfl (by (try simp only [List.map_toArray, List.map_cons, List.map_nil]); first | done | rfl) ?_; (with_reducible refine (spec_l2User.calls a0_0 true _ A2.out).mono ?_); rintro e w' ⟨rfl, ⟨nd, rfl⟩⟩; refine ⟨_, rfl, ?_⟩) | (go_at_call 69; (with_reducible refine (spec_l1In.calls a0_1 0 1000000000000 false _ A4.out).mono ?_); rintro e w' ⟨rfl, ⟨nd, rfl⟩⟩))
   go_ret
   exact ⟨by first | rfl | (simp [qn, qm] <;> rfl) | (simp [*, qn, qm] <;> rfl), by repeat (first | (with_reducible first | exact HB.out | apply qc | apply qa | apply qb | refine qd ?_ GE101.out) | exact HB.out)⟩
 ·replace c3 := Bool.eq_false_iff.mpr c3
  subst c3
  have H1 : (some false) = some r := by rw [if_neg (show ¬ (false = true) by decide)] at H; exact H
  clear H
  have H := H1
  clear H1
  obtain rfl := Option.some.inj H
  go_enter Try.func79, Try.ntmps79
  go_wp2_with (first | ((with_reducible refine qb1 (N := 1) rfl ?_); refine qz ?hg (N := 1) ?hd (cs := #[.string a0_0, .int .i64 a0_1, .int .i64 a0_2]) (t := 35) ?hr ?_; (case hd => rfl); (case hg => rfl); (case hr => first | (go_simp; done) | (go_simp; rfl)); intro gb101 hg w11 hbox hb; have BK101 := Qz.mk (hbox); have GW101 := Qz.mk ((by rw [hg]; exact (qv yq0) : w.heap.size ≤ gb101)); have GE101 := GW101; replace HB := Qz.mk (ql yq0 hb); clear hb hbox hg; have hcz12_0 : w11.cell? ⟨gb101, 0, none⟩ = some (.string a0_0) := (qf BK101.out 0).trans rfl; have hcz12_1 : w11.cell? ⟨gb101, 1, none⟩ = some (.int .i64 a0_1) := (qf BK101.out 1).trans rfl; have hcz12_2 : w11.cell? ⟨gb101, 2, none⟩ = some (.int .i64 a0_2) := (qf BK101.out 2).trans rfl; have hfz12_0 := qe BK101.out 0; have hfz12_1 := qe BK101.out 1; have hfz12_2 := qe BK101.out 2) | ((with_reducible refine qj (f := 151) rfl ?_); refine qt (some 5) rfl rfl Try.func151 (by kernel_rfl) rfl #[.string a0_0] rfl (by (try simp only [List.map_toArray, List.map_cons, List.map_nil]); first | done | rfl) ?_; (with_reducible refine (spec_l2User.calls a0_0 false _ A2.out).mono ?_); rintro e w' ⟨rfl, ⟨nd, rfl⟩⟩; refine ⟨_, rfl, ?_⟩))
  go_ret
  exact ⟨by first | rfl | (simp [qn, qm] <;> rfl) | (simp [*, qn, qm] <;> rfl), by repeat (first | (with_reducible first | exact HB.out | apply qc | apply qa | apply qb | refine qd ?_ GE101.out) | exact HB.out)⟩
theorem yq1 {P : Prop} (h : P := by repeat (first | (with_reducible first | exact HB.out | apply qc | apply qa | apply qb) | exact HB.out)) : P := h
theorem yq2 {P : Prop} (h : P := by repeat (first | (with_reducible first | exact HB.out | apply qc | apply qa | apply qb | refine qd ?_ GE101.out) | exact HB.out)) : P := h
theorem yq3 {P : Prop} (h : P := by (with_reducible repeat (first | refine qg ?_ _ | refine qi ?_ | refine qh ?_ _)); exact BK101.out) : P := h
theorem yq4 {P : Prop} (h : P := by (try simp only [List.map_toArray, List.map_cons, List.map_nil]); first | done | rfl) : P := h
def spec_EntryOk.f (a0_0 : ByteArray) (a0_1 : Int) (a0_2 : Int) (a0_3 : ByteArray) : Option (Bool) := (spec_KeyOk.f a0_0 a0_1 a0_2).bind fun t102 => (if t102 = true then (if (a0_3.size : Int) ≤ 200 then (if a0_2 = 1 then (some true) else (some (a0_3.toList == ([] : List UInt8)))) else (some false)) else (some false))
set_option maxHeartbeats 8000000 in
set_option maxRecDepth 100000 in
theorem spec_EntryOk.calls (a0_0 : ByteArray) (a0_1 : Int) (a0_2 : Int) (a0_3 : ByteArray) (r : Bool) (w : World) (h : spec_EntryOk.f a0_0 a0_1 a0_2 a0_3 = some r) :
  Calls Try.prog 143 #[.agg #[.string a0_0, .int .i64 a0_1, .int .i64 a0_2, .string a0_3]] w fun e w' => e = .returned (.bool r) ∧ Below w.heap.size w w' := by
 have hu64 := Try.underlying64
 have hu35 := Try.underlying35
 have HB := Qz.mk (Below.refl w.heap.size w)
 have H : ((spec_KeyOk.f a0_0 a0_1 a0_2).bind fun t102 => (if t102 = true then (if (a0_3.size : Int) ≤ 200 then (if a0_2 = 1 then (some true) else (some (a0_3.toList == ([] : List UInt8)))) else (some false)) else (some false))) = some r := h
 clear h
 replace H := Option.bind_eq_some_iff.mp H
 obtain ⟨t102, A20, H⟩ := H
 replace H : (if t102 = true then (if (a0_3.size : Int) ≤ 200 then (if a0_2 = 1 then (some true) else (some (a0_3.toList == ([] : List UInt8)))) else (some false)) else (some false)) = some r := H
 have A2 := Qz.mk A20
 clear A20
 by_cases c3 : t102 = true
 ·subst c3
  have H1 : (if (a0_3.size : Int) ≤ 200 then (if a0_2 = 1 then (some true) else (some (a0_3.toList == ([] : List UInt8)))) else (some false)) = some r := by rw [if_pos rfl] at H; exact H
  clear H
  have H := H1
  clear H1
  by_cases c4 : (a0_3.size : Int) ≤ 200
  ·rw [if_pos c4] at H
   have c4b0 : decide ((a0_3.size : Int) ≤ 200) = true := decide_eq_true c4
   have c4b1 : decide (a0_3.size ≤ 200) = true := decide_eq_true (by omega)
   clear c4
   by_cases c5 : a0_2 = 1
   ·rw [if_pos c5] at H
    have c5b0 : (a0_2 == 1) = true := beq_iff_eq.mpr c5
    have c5b1 : (a0_2 != 1) = false := bne_eq_false_iff_eq.mpr c5
    clear c5
    obtain rfl := Option.some.inj H
    go_enter Try.func143, Try.ntmps143
    go_wp2_with (first | ((with_reducible refine qb1 (N := 1) rfl ?_); (try (refine gate_guard (by rfl) ?_; dsimp only)); refine qz ?hg (N := 1) ?hd (cs := #[.string a0_0, .int .i64 a0_1, .int .i64 a0_2, .string a0_3]) (t := 64) ?hr ?_; (case hd => rfl); (case hg => rfl); (case hr => first | (go_simp; done) | (go_simp; rfl)); intro gb101 hg w6 hbox hb; have BK101 := Qz.mk (hbox); have GW101 := Qz.mk ((by rw [hg]; exact (qv yq1) : w.heap.size ≤ gb101)); have GE101 := GW101; replace HB := Qz.mk (ql yq1 hb); clear hb hbox hg; have hcz7_0 : w6.cell? ⟨gb101, 0, none⟩ = some (.string a0_0) := (qf BK101.out 0).trans rfl; have hcz7_1 : w6.cell? ⟨gb101, 1, none⟩ = some (.int .i64 a0_1) := (qf BK101.out 1).trans rfl; have hcz7_2 : w6.cell? ⟨gb101, 2, none⟩ = some (.int .i64 a0_2) := (qf BK101.out 2).trans rfl; have hcz7_3 : w6.cell? ⟨gb101, 3, none⟩ = some (.string a0_3) := (qf BK101.out 3).trans rfl; have hfz7_0 := qe BK101.out 0; have hfz7_1 := qe BK101.out 1; have hfz7_2 := qe BK101.out 2; have hfz7_3 := qe BK101.out 3) | ((with_reducible refine qj (f := 79) rfl ?_); refine qt (some 5) rfl rfl Try.func79 (by kernel_rfl) rfl #[.agg #[.string a0_0, .int .i64 a0_1, .int .i64 a0_2]] rfl yq4 ?_; (with_reducible refine (spec_KeyOk.calls a0_0 a0_1 a0_2 true _ A2.out).mono ?_); rintro e w8 ⟨rfl, hb⟩; refine ⟨_, rfl, ?_⟩; replace BK101 := Qz.mk (qu (g := gb101) (o := .cells #[.string a0_0, .int .i64 a0_1, .int .i64 a0_2, .string a0_3] 64 (0, 0)) yq3 hb); replace HB := Qz.mk (ql yq2 hb); (try clear hb); have hcz9_0 : w8.cell? ⟨gb101, 0, none⟩ = some (.string a0_0) := (qf BK101.out 0).trans rfl; have hcz9_1 : w8.cell? ⟨gb101, 1, none⟩ = some (.int .i64 a0_1) := (qf BK101.out 1).trans rfl; have hcz9_2 : w8.cell? ⟨gb101, 2, none⟩ = some (.int .i64 a0_2) := (qf BK101.out 2).trans rfl; have hcz9_3 : w8.cell? ⟨gb101, 3, none⟩ = some (.string a0_3) := (qf BK101.out 3).trans rfl; have hfz9_0 := qe BK101.out 0; have hfz9_1 := qe BK101.out 1; have hfz9_2 := qe BK101.out 2; have hfz9_3 := qe BK101.out 3))
    go_ret
    exact ⟨by first | rfl | (simp [qn, qm] <;> rfl) | (simp [*, qn, qm] <;> rfl), by repeat (first | (with_reducible first | exact HB.out | apply qc | apply qa | apply qb | refine qd ?_ GE101.out) | exact HB.out)⟩
   ·rw [if_neg c5] at H
    have c5b0 : (a0_2 == 1) = false := beq_eq_false_iff_ne.mpr c5
    have c5b1 : (a0_2 != 1) = true := bne_iff_ne.mpr c5
    obtain rfl := Option.some.inj H
    go_enter Try.func143, Try.ntmps143
    go_wp2_with (first | ((with_reducible refine qb1 (N := 1) rfl ?_); (try (refine gate_guard (by rfl) ?_; dsimp only)); refine qz ?hg (N := 1) ?hd (cs := #[.string a0_0, .int .i64 a0_1, .int .i64 a0_2, .string a0_3]) (t := 64) ?hr ?_; (case hd => rfl); (case hg => rfl); (case hr => first | (go_simp; done) | (go_simp; rfl)); intro gb101 hg w10 hbox hb; have BK101 := Qz.mk (hbox); have GW101 := Qz.mk ((by rw [hg]; exact (qv yq1) : w.heap.size ≤ gb101)); have GE101 := GW101; replace HB := Qz.mk (ql yq1 hb); clear hb hbox hg; have hcz11_0 : w10.cell? ⟨gb101, 0, none⟩ = some (.string a0_0) := (qf BK101.out 0).trans rfl; have hcz11_1 : w10.cell? ⟨gb101, 1, none⟩ = some (.int .i64 a0_1) := (qf BK101.out 1).trans rfl; have hcz11_2 : w10.cell? ⟨gb101, 2, none⟩ = some (.int .i64 a0_2) := (qf BK101.out 2).trans rfl; have hcz11_3 : w10.cell? ⟨gb101, 3, none⟩ = some (.string a0_3) := (qf BK101.out 3).trans rfl; have hfz11_0 := qe BK101.out 0; have hfz11_1 := qe BK101.out 1; have hfz11_2 := qe BK101.out 2; have hfz11_3 := qe BK101.out 3) | ((with_reducible refine qj (f := 79) rfl ?_); refine qt (some 5) rfl rfl Try.func79 (by kernel_rfl) rfl #[.agg #[.string a0_0, .int .i64 a0_1, .int .i64 a0_2]] rfl yq4 ?_; (with_reducible refine (spec_KeyOk.calls a0_0 a0_1 a0_2 true _ A2.out).mono ?_); rintro e w12 ⟨rfl, hb⟩; refine ⟨_, rfl, ?_⟩; replace BK101 := Qz.mk (qu (g := gb101) (o := .cells #[.string a0_0, .int .i64 a0_1, .int .i64 a0_2, .string a0_3] 64 (0, 0)) yq3 hb); replace HB := Qz.mk (ql yq2 hb); (try clear hb); have hcz13_0 : w12.cell? ⟨gb101, 0, none⟩ = some (.string a0_0) := (qf BK101.out 0).trans rfl; have hcz13_1 : w12.cell? ⟨gb101, 1, none⟩ = some (.int .i64 a0_1) := (qf BK101.out 1).trans rfl; have hcz13_2 : w12.cell? ⟨gb101, 2, none⟩ = some (.int .i64 a0_2) := (qf BK101.out 2).trans rfl; have hcz13_3 : w12.cell? ⟨gb101, 3, none⟩ = some (.string a0_3) := (qf BK101.out 3).trans rfl; have hfz13_0 := qe BK101.out 0; have hfz13_1 := qe BK101.out 1; have hfz13_2 := qe BK101.out 2; have hfz13_3 := qe BK101.out 3))
    go_ret
    exact ⟨by first | rfl | (simp [qn, qm] <;> rfl) | (simp [*, qn, qm] <;> rfl), by repeat (first | (with_reducible first | exact HB.out | apply qc | apply qa | apply qb | refine qd ?_ GE101.out) | exact HB.out)⟩
  ·rw [if_neg c4] at H
   have c4b0 : decide ((a0_3.size : Int) ≤ 200) = false := decide_eq_false c4
   have c4b1 : decide (a0_3.size ≤ 200) = false := decide_eq_false (by omega)
   clear c4
   obtain rfl := Option.some.inj H
   go_enter Try.func143, Try.ntmps143
   go_wp2_with (first | ((with_reducible refine qb1 (N := 1) rfl ?_); (try (refine gate_guard (by rfl) ?_; dsimp only)); refine qz ?hg (N := 1) ?hd (cs := #[.string a0_0, .int .i64 a0_1, .int .i64 a0_2, .string a0_3]) (t := 64) ?hr ?_; (case hd => rfl); (case hg => rfl); (case hr => first | (go_simp; done) | (go_simp; rfl)); intro gb101 hg w14 hbox hb; have BK101 := Qz.mk (hbox); have GW101 := Qz.mk ((by rw [hg]; exact (qv yq1) : w.heap.size ≤ gb101)); have GE101 := GW101; replace HB := Qz.mk (ql yq1 hb); clear hb hbox hg; have hcz15_0 : w14.cell? ⟨gb101, 0, none⟩ = some (.string a0_0) := (qf BK101.out 0).trans rfl; have hcz15_1 : w14.cell? ⟨gb101, 1, none⟩ = some (.int .i64 a0_1) := (qf BK101.out 1).trans rfl; have hcz15_2 : w14.cell? ⟨gb101, 2, none⟩ = some (.int .i64 a0_2) := (qf BK101.out 2).trans rfl; have hcz15_3 : w14.cell? ⟨gb101, 3, none⟩ = some (.string a0_3) := (qf BK101.out 3).trans rfl; have hfz15_0 := qe BK101.out 0; have hfz15_1 := qe BK101.out 1; have hfz15_2 := qe BK101.out 2; have hfz15_3 := qe BK101.out 3) | ((with_reducible refine qj (f := 79) rfl ?_); refine qt (some 5) rfl rfl Try.func79 (by kernel_rfl) rfl #[.agg #[.string a0_0, .int .i64 a0_1, .int .i64 a0_2]] rfl yq4 ?_; (with_reducible refine (spec_KeyOk.calls a0_0 a0_1 a0_2 true _ A2.out).mono ?_); rintro e w16 ⟨rfl, hb⟩; refine ⟨_, rfl, ?_⟩; replace BK101 := Qz.mk (qu (g := gb101) (o := .cells #[.string a0_0, .int .i64 a0_1, .int .i64 a0_2, .string a0_3] 64 (0, 0)) yq3 hb); replace HB := Qz.mk (ql yq2 hb); (try clear hb); have hcz17_0 : w16.cell? ⟨gb101, 0, none⟩ = some (.string a0_0) := (qf BK101.out 0).trans rfl; have hcz17_1 : w16.cell? ⟨gb101, 1, none⟩ = some (.int .i64 a0_1) := (qf BK101.out 1).trans rfl; have hcz17_2 : w16.cell? ⟨gb101, 2, none⟩ = some (.int .i64 a0_2) := (qf BK101.out 2).trans rfl; have hcz17_3 : w16.cell? ⟨gb101, 3, none⟩ = some (.string a0_3) := (qf BK101.out 3).trans rfl; have hfz17_0 := qe BK101.out 0; have hfz17_1 := qe BK101.out 1; have hfz17_2 := qe BK101.out 2; have hfz17_3 := qe BK101.out 3))
   go_ret
   exact ⟨by first | rfl | (simp [qn, qm] <;> rfl) | (simp [*, qn, qm] <;> rfl), by repeat (first | (with_reducible first | exact HB.out | apply qc | apply qa | apply qb | refine qd ?_ GE101.out) | exact HB.out)⟩
 ·replace c3 := Bool.eq_false_iff.mpr c3
  subst c3
  have H1 : (some false) = some r := by rw [if_neg (show ¬ (false = true) by decide)] at H; exact H
  clear H
  have H := H1
  clear H1
  obtain rfl := Option.some.inj H
  go_enter Try.func143, Try.ntmps143
  go_wp2_with (first | ((with_reducible refine qb1 (N := 1) rfl ?_); (try (refine gate_guard (by rfl) ?_; dsimp only)); refine qz ?hg (N := 1) ?hd (cs := #[.string a0_0, .int .i64 a0_1, .int .i64 a0_2, .string a0_3]) (t := 64) ?hr ?_; (case hd => rfl); (case hg => rfl); (case hr => first | (go_simp; done) | (go_simp; rfl)); intro gb101 hg w18 hbox hb; have BK101 := Qz.mk (hbox); have GW101 := Qz.mk ((by rw [hg]; exact (qv yq1) : w.heap.size ≤ gb101)); have GE101 := GW101; replace HB := Qz.mk (ql yq1 hb); clear hb hbox hg; have hcz19_0 : w18.cell? ⟨gb101, 0, none⟩ = some (.string a0_0) := (qf BK101.out 0).trans rfl; have hcz19_1 : w18.cell? ⟨gb101, 1, none⟩ = some (.int .i64 a0_1) := (qf BK101.out 1).trans rfl; have hcz19_2 : w18.cell? ⟨gb101, 2, none⟩ = some (.int .i64 a0_2) := (qf BK101.out 2).trans rfl; have hcz19_3 : w18.cell? ⟨gb101, 3, none⟩ = some (.string a0_3) := (qf BK101.out 3).trans rfl; have hfz19_0 := qe BK101.out 0; have hfz19_1 := qe BK101.out 1; have hfz19_2 := qe BK101.out 2; have hfz19_3 := qe BK101.out 3) | ((with_reducible refine qj (f := 79) rfl ?_); refine qt (some 5) rfl rfl Try.func79 (by kernel_rfl) rfl #[.agg #[.string a0_0, .int .i64 a0_1, .int .i64 a0_2]] rfl yq4 ?_; (with_reducible refine (spec_KeyOk.calls a0_0 a0_1 a0_2 false _ A2.out).mono ?_); rintro e w20 ⟨rfl, hb⟩; refine ⟨_, rfl, ?_⟩; replace BK101 := Qz.mk (qu (g := gb101) (o := .cells #[.string a0_0, .int .i64 a0_1, .int .i64 a0_2, .string a0_3] 64 (0, 0)) yq3 hb); replace HB := Qz.mk (ql yq2 hb); (try clear hb)))
  go_ret
  exact ⟨by first | rfl | (simp [qn, qm] <;> rfl) | (simp [*, qn, qm] <;> rfl), by repeat (first | (with_reducible first | exact HB.out | apply qc | apply qa | apply qb | refine qd ?_ GE101.out) | exact HB.out)⟩
theorem eqA35 (d : Nat) (w : World) (x0 y0 : ByteArray) (x1 y1 : Int) (x2 y2 : Int) :
  (Op.equalIn (d + 2) 35 (.agg #[.string x0, .int .i64 x1, .int .i64 x2]) (.agg #[.string y0, .int .i64 y1, .int .i64 y2])).run Try.prog w = .ok (x0.toList == y0.toList && (x1 == y1 && (x2 == y2))) w := by
 refine eqA_of Try.underlying35 (by kernel_rfl) ?_
 refine eqf_cons (by rfl) (by go_simp; rfl) (by go_simp; rfl) (by go_simp) ?_
 refine eqf_cons (by rfl) (by go_simp; rfl) (by go_simp; rfl) (by go_simp) ?_
 exact eqf_last (by rfl) (by go_simp; rfl) (by go_simp; rfl) (by go_simp)
end Go.Proofs.Ytidjdkodgddfcaa.P
end

section
namespace Go.Proofs.Ytidjdkodgddfcaa.P
open Go.RowKit Go.Proofs.YtidjdkodgddfcaaW.PrintWords Go.Proofs.YtidjdkodgddfcaaW.PrintLast Go.Proofs.YtidjdkodgddfcaaW.PrintMore
attribute [local go_sem] qh1 qg1 qi1 qf1 qd1 qk1 qj1 qy qx qe1 qc1
set_option linter.unusedVariables false
set_option linter.unusedSimpArgs false
attribute [local go_sem high] eqA35
theorem yq5 {P : Prop} (h : P := by (with_reducible repeat (first | refine qg ?_ _ | refine qi ?_ | refine qh ?_ _)); exact BK101.out) : P := h
theorem yq6 {P : Prop} (h : P := by repeat (first | (with_reducible first | exact HB.out | apply qc | apply qa | apply qb | refine qd ?_ GE101.out | refine qd ?_ GE102.out) | exact HB.out)) : P := h
def spec_KeyCmp.j0 : Nat → Bool → ByteArray → Int → Int → ByteArray → Int → Int → Option (Int)
 | 0, _, _, _, _, _, _, _ => none
 | k + 1, x12, x102000, x102001, x102002, x103000, x103001, x103002 => if x12 = true then (some 0) else (if (x102000.toList == x103000.toList && (x102001 == x103001 && (x102002 == x103002))) = true then (some 0) else (if (Op.bytesLess x102000.toList x103000.toList) = true then (some (-1)) else (if x102000.toList = x103000.toList then (if x102001 > x103001 then (some (-1)) else (if x102001 = x103001 then (if x102002 > x103002 then (some (-1)) else (some 1)) else (some 1))) else (some 1))))
def spec_KeyCmp.f (k : Nat) (a0_0 : ByteArray) (a0_1 : Int) (a0_2 : Int) (a1_0 : ByteArray) (a1_1 : Int) (a1_2 : Int) : Option (Int) := (spec_KeyOk.f a0_0 a0_1 a0_2).bind fun t103 => (if t103 = true then ((spec_KeyOk.f a1_0 a1_1 a1_2).bind fun t104 => (spec_KeyCmp.j0 k (!t104) a0_0 a0_1 a0_2 a1_0 a1_1 a1_2)) else (spec_KeyCmp.j0 k true a0_0 a0_1 a0_2 a1_0 a1_1 a1_2))
set_option maxHeartbeats 8000000 in
set_option maxRecDepth 100000 in
theorem spec_KeyCmp.calls (k : Nat) (a0_0 : ByteArray) (a0_1 : Int) (a0_2 : Int) (a1_0 : ByteArray) (a1_1 : Int) (a1_2 : Int) (r : Int) (w : World) (h : spec_KeyCmp.f k a0_0 a0_1 a0_2 a1_0 a1_1 a1_2 = some r) :
  Calls Try.prog 144 #[.agg #[.string a0_0, .int .i64 a0_1, .int .i64 a0_2], .agg #[.string a1_0, .int .i64 a1_1, .int .i64 a1_2]] w fun e w' => e = .returned (.int .i64 r) ∧ Below w.heap.size w w' := by
 have hu35 := Try.underlying35
 have HB := Qz.mk (Below.refl w.heap.size w)
 have H : ((spec_KeyOk.f a0_0 a0_1 a0_2).bind fun t103 => (if t103 = true then ((spec_KeyOk.f a1_0 a1_1 a1_2).bind fun t104 => (spec_KeyCmp.j0 k (!t104) a0_0 a0_1 a0_2 a1_0 a1_1 a1_2)) else (spec_KeyCmp.j0 k true a0_0 a0_1 a0_2 a1_0 a1_1 a1_2))) = some r := h
 clear h
 have HC3 := Qz.mk H
 clear H
 go_enter Try.func144, Try.ntmps144
 go_upto_region 1 with (first | ((with_reducible refine qb1 (N := 2) rfl ?_); refine qz ?hg (N := 2) ?hd (cs := #[.string a0_0, .int .i64 a0_1, .int .i64 a0_2]) (t := 35) ?hr ?_; (case hd => rfl); (case hg => rfl); (case hr => first | (go_simp; done) | (go_simp; rfl)); intro gb101 hg w4 hbox hb; have BK101 := Qz.mk (hbox); have GW101 := Qz.mk ((by rw [hg]; exact (qv (by repeat (first | (with_reducible first | exact HB.out | apply qc | apply qa | apply qb) | exact HB.out))) : w.heap.size ≤ gb101)); have GE101 := GW101; replace HB := Qz.mk (ql (by repeat (first | (with_reducible first | exact HB.out | apply qc | apply qa | apply qb) | exact HB.out)) hb); clear hb hbox hg) | ((with_reducible refine qb1 (N := 3) rfl ?_); refine qz ?hg (N := 3) ?hd (cs := #[.string a1_0, .int .i64 a1_1, .int .i64 a1_2]) (t := 35) ?hr ?_; (case hd => rfl); (case hg => rfl); (case hr => first | (go_simp; done) | (go_simp; rfl)); intro gb102 hg w5 hbox hb; have BK102 := Qz.mk (hbox); have GW102 := Qz.mk ((by rw [hg]; exact (qv (by repeat (first | (with_reducible first | exact HB.out | apply qc | apply qa | apply qb | refine qd ?_ GE101.out) | exact HB.out))) : w.heap.size ≤ gb102)); have GE102 := GW102; replace HB := Qz.mk (ql (by repeat (first | (with_reducible first | exact HB.out | apply qc | apply qa | apply qb | refine qd ?_ GE101.out) | exact HB.out)) hb); have NB101_102 := Qz.mk ((by rw [hg]; exact Nat.ne_of_lt (blk_lt (g := gb101) (o := .cells #[.string a0_0, .int .i64 a0_1, .int .i64 a0_2] 35 (0, 0)) yq5) : gb101 ≠ gb102)); have NB102_101 := Qz.mk ((by rw [hg]; exact Nat.ne_of_gt (blk_lt (g := gb101) (o := .cells #[.string a0_0, .int .i64 a0_1, .int .i64 a0_2] 35 (0, 0)) yq5) : gb102 ≠ gb101)); replace BK101 := Qz.mk (qu (g := gb101) (o := .cells #[.string a0_0, .int .i64 a0_1, .int .i64 a0_2] 35 (0, 0)) yq5 hb); clear hb hbox hg))
 (try simp only [Act.put, sq1, sq2, sq3])
 go_cut [12] (fun v12 wc => ∃ (kq : Nat) (x12_2 : Bool), v12 = .bool x12_2 ∧ Qz (spec_KeyCmp.j0 kq x12_2 a0_0 a0_1 a0_2 a1_0 a1_1 a1_2 = some r) ∧ Qz (kq ≤ k) ∧ Qz (wc.heap[gb101]? = some (.cells #[.string a0_0, .int .i64 a0_1, .int .i64 a0_2] 35 (0, 0))) ∧ Qz (wc.heap[gb102]? = some (.cells #[.string a1_0, .int .i64 a1_1, .int .i64 a1_2] 35 (0, 0))) ∧ Qz (Below w.heap.size w wc))
 case first =>
  have H := HC3.out
  clear HC3
  replace H := Option.bind_eq_some_iff.mp H
  obtain ⟨t103, A60, H⟩ := H
  replace H : (if t103 = true then ((spec_KeyOk.f a1_0 a1_1 a1_2).bind fun t104 => (spec_KeyCmp.j0 k (!t104) a0_0 a0_1 a0_2 a1_0 a1_1 a1_2)) else (spec_KeyCmp.j0 k true a0_0 a0_1 a0_2 a1_0 a1_1 a1_2)) = some r := H
  have A6 := Qz.mk A60
  clear A60
  by_cases c7 : t103 = true
  ·subst c7
   have H1 : ((spec_KeyOk.f a1_0 a1_1 a1_2).bind fun t104 => (spec_KeyCmp.j0 k (!t104) a0_0 a0_1 a0_2 a1_0 a1_1 a1_2)) = some r := by rw [if_pos rfl] at H; exact H
   clear H
   have H := H1
   clear H1
   replace H := Option.bind_eq_some_iff.mp H
   obtain ⟨t104, A80, H⟩ := H
   replace H : (spec_KeyCmp.j0 k (!t104) a0_0 a0_1 a0_2 a1_0 a1_1 a1_2) = some r := H
   have A8 := Qz.mk A80
   clear A80
   have H' := Qz.mk H
   clear H
   have hnb9 := NB101_102.out
   have hnc9 := NB102_101.out
   have hcz10_0 : w5.cell? ⟨gb101, 0, none⟩ = some (.string a0_0) := (qf BK101.out 0).trans rfl
   have hcz10_1 : w5.cell? ⟨gb101, 1, none⟩ = some (.int .i64 a0_1) := (qf BK101.out 1).trans rfl
   have hcz10_2 : w5.cell? ⟨gb101, 2, none⟩ = some (.int .i64 a0_2) := (qf BK101.out 2).trans rfl
   have hfz10_0 := qe BK101.out 0
   have hfz10_1 := qe BK101.out 1
   have hfz10_2 := qe BK101.out 2
   go_wp2_with (first | ((with_reducible refine qj (f := 79) rfl ?_); refine qt (some 6) rfl rfl Try.func79 (by kernel_rfl) rfl #[.agg #[.string a0_0, .int .i64 a0_1, .int .i64 a0_2]] rfl (by (try simp only [List.map_toArray, List.map_cons, List.map_nil]); first | done | rfl) ?_; (with_reducible refine (spec_KeyOk.calls a0_0 a0_1 a0_2 true _ A6.out).mono ?_); rintro e w11 ⟨rfl, hb⟩; refine ⟨_, rfl, ?_⟩; replace BK101 := Qz.mk (qu (g := gb101) (o := .cells #[.string a0_0, .int .i64 a0_1, .int .i64 a0_2] 35 (0, 0)) yq5 hb); replace BK102 := Qz.mk (qu (g := gb102) (o := .cells #[.string a1_0, .int .i64 a1_1, .int .i64 a1_2] 35 (0, 0)) (by (with_reducible repeat (first | refine qg ?_ _ | refine qi ?_ | refine qh ?_ _)); exact BK102.out) hb); replace HB := Qz.mk (ql yq6 hb); (try clear hb); have hcz12_0 : w11.cell? ⟨gb102, 0, none⟩ = some (.string a1_0) := (qf BK102.out 0).trans rfl; have hcz12_1 : w11.cell? ⟨gb102, 1, none⟩ = some (.int .i64 a1_1) := (qf BK102.out 1).trans rfl; have hcz12_2 : w11.cell? ⟨gb102, 2, none⟩ = some (.int .i64 a1_2) := (qf BK102.out 2).trans rfl; have hfz12_0 := qe BK102.out 0; have hfz12_1 := qe BK102.out 1; have hfz12_2 := qe BK102.out 2) | (go_at_call 79; (with_reducible refine (spec_KeyOk.calls a1_0 a1_1 a1_2 t104 _ A8.out).mono ?_); rintro e w13 ⟨rfl, hb⟩; replace BK101 := Qz.mk (qu (g := gb101) (o := .cells #[.string a0_0, .int .i64 a0_1, .int .i64 a0_2] 35 (0, 0)) yq5 hb); replace BK102 := Qz.mk (qu (g := gb102) (o := .cells #[.string a1_0, .int .i64 a1_1, .int .i64 a1_2] 35 (0, 0)) (by (with_reducible repeat (first | refine qg ?_ _ | refine qi ?_ | refine qh ?_ _)); exact BK102.out) hb); replace HB := Qz.mk (ql yq6 hb); (try clear hb)))
   go_meet
   case rel => exact ⟨_, (!t104), (by first | rfl | (simp; done) | (simp [*]; done)), H', ⟨by first | omega | exact Nat.le_refl _⟩, ⟨by (with_reducible repeat (first | refine qg ?_ _ | refine qi ?_ | refine qh ?_ _)); exact BK101.out⟩, ⟨by (with_reducible repeat (first | refine qg ?_ _ | refine qi ?_ | refine qh ?_ _)); exact BK102.out⟩, ⟨by repeat (first | (with_reducible first | exact HB.out | apply qc | apply qa | apply qb | refine qd ?_ GE101.out | refine qd ?_ GE102.out) | exact HB.out)⟩⟩
  ·replace c7 := Bool.eq_false_iff.mpr c7
   subst c7
   have H1 : (spec_KeyCmp.j0 k true a0_0 a0_1 a0_2 a1_0 a1_1 a1_2) = some r := by rw [if_neg (show ¬ (false = true) by decide)] at H; exact H
   clear H
   have H := H1
   clear H1
   have H' := Qz.mk H
   clear H
   have hnb14 := NB101_102.out
   have hnc14 := NB102_101.out
   have hcz15_0 : w5.cell? ⟨gb101, 0, none⟩ = some (.string a0_0) := (qf BK101.out 0).trans rfl
   have hcz15_1 : w5.cell? ⟨gb101, 1, none⟩ = some (.int .i64 a0_1) := (qf BK101.out 1).trans rfl
   have hcz15_2 : w5.cell? ⟨gb101, 2, none⟩ = some (.int .i64 a0_2) := (qf BK101.out 2).trans rfl
   have hfz15_0 := qe BK101.out 0
   have hfz15_1 := qe BK101.out 1
   have hfz15_2 := qe BK101.out 2
   go_wp2_with (first | ((with_reducible refine qj (f := 79) rfl ?_); refine qt (some 6) rfl rfl Try.func79 (by kernel_rfl) rfl #[.agg #[.string a0_0, .int .i64 a0_1, .int .i64 a0_2]] rfl (by (try simp only [List.map_toArray, List.map_cons, List.map_nil]); first | done | rfl) ?_; (with_reducible refine (spec_KeyOk.calls a0_0 a0_1 a0_2 false _ A6.out).mono ?_); rintro e w16 ⟨rfl, hb⟩; refine ⟨_, rfl, ?_⟩; replace BK101 := Qz.mk (qu (g := gb101) (o := .cells #[.string a0_0, .int .i64 a0_1, .int .i64 a0_2] 35 (0, 0)) yq5 hb); replace BK102 := Qz.mk (qu (g := gb102) (o := .cells #[.string a1_0, .int .i64 a1_1, .int .i64 a1_2] 35 (0, 0)) (by (with_reducible repeat (first | refine qg ?_ _ | refine qi ?_ | refine qh ?_ _)); exact BK102.out) hb); replace HB := Qz.mk (ql yq6 hb); (try clear hb)))
   go_meet
   case rel => exact ⟨_, (true), (by first | rfl | (simp; done) | (simp [*]; done)), H', ⟨by first | omega | exact Nat.le_refl _⟩, ⟨by (with_reducible repeat (first | refine qg ?_ _ | refine qi ?_ | refine qh ?_ _)); exact BK101.out⟩, ⟨by (with_reducible repeat (first | refine qg ?_ _ | refine qi ?_ | refine qh ?_ _)); exact BK102.out⟩, ⟨by repeat (first | (with_reducible first | exact HB.out | apply qc | apply qa | apply qb | refine qd ?_ GE101.out | refine qd ?_ GE102.out) | exact HB.out)⟩⟩
 case rest =>
  clear HC3
  try clear c1
  try clear p2
  try clear c7
  try clear c9
  try clear c14
  try clear hcz10_0
  try clear hcz10_1
  try clear hcz10_2
  try clear hcz12_0
  try clear hcz12_1
  try clear hcz12_2
  try clear hcz15_0
  try clear hcz15_1
  try clear hcz15_2
  try clear hfz10_0
  try clear hfz10_1
  try clear hfz10_2
  try clear hfz12_0
  try clear hfz12_1
  try clear hfz12_2
  try clear hfz15_0
  try clear hfz15_1
  try clear hfz15_2
  obtain ⟨kq, x12_2, rfl, HA, HJ2, BK101, BK102, HB⟩ := hcut
  cases kq with
  | zero => exact absurd HA.out (by simp [spec_KeyCmp.j0])
  | succ kj2 =>
   have H := HA.out
   clear HA
   simp only [spec_KeyCmp.j0] at H
   by_cases c17 : x12_2 = true
   ·subst c17
    have H1 : (some 0) = some r := by rw [if_pos rfl] at H; exact H
    clear H
    have H := H1
    clear H1
    obtain rfl := Option.some.inj H
    go_wp2
    go_ret
    exact ⟨by first | rfl | (simp [qn, qm] <;> rfl) | (simp [*, qn, qm] <;> rfl), by repeat (first | (with_reducible first | exact HB.out | apply qc | apply qa | apply qb | refine qd ?_ GE101.out | refine qd ?_ GE102.out) | exact HB.out)⟩
   ·replace c17 := Bool.eq_false_iff.mpr c17
    subst c17
    have H1 : (if (a0_0.toList == a1_0.toList && (a0_1 == a1_1 && (a0_2 == a1_2))) = true then (some 0) else (if (Op.bytesLess a0_0.toList a1_0.toList) = true then (some (-1)) else (if a0_0.toList = a1_0.toList then (if a0_1 > a1_1 then (some (-1)) else (if a0_1 = a1_1 then (if a0_2 > a1_2 then (some (-1)) else (some 1)) else (some 1))) else (some 1)))) = some r := by rw [if_neg (show ¬ (false = true) by decide)] at H; exact H
    clear H
    have H := H1
    clear H1
    by_cases c18 : (a0_0.toList == a1_0.toList && (a0_1 == a1_1 && (a0_2 == a1_2))) = true
    ·rw [if_pos c18] at H
     have c18b0 : (a0_0.toList == a1_0.toList && (a0_1 == a1_1 && (a0_2 == a1_2))) = true := c18
     (try (have c18b1 : decide (a0_0.toList = a1_0.toList && (a0_1 == a1_1 && (a0_2 == a1_2))) = true := by simpa using c18))
     (try (have c18b2 : (a0_0.toList == a1_0.toList && (a0_1 == a1_1 && (a0_2 == a1_2))) = true := by simpa using c18))
     clear c18
     obtain rfl := Option.some.inj H
     have hnb19 := NB101_102.out
     have hnc19 := NB102_101.out
     have hcz20_0 : wc.cell? ⟨gb101, 0, none⟩ = some (.string a0_0) := (qf BK101.out 0).trans rfl
     have hcz20_1 : wc.cell? ⟨gb101, 1, none⟩ = some (.int .i64 a0_1) := (qf BK101.out 1).trans rfl
     have hcz20_2 : wc.cell? ⟨gb101, 2, none⟩ = some (.int .i64 a0_2) := (qf BK101.out 2).trans rfl
     have hfz20_0 := qe BK101.out 0
     have hfz20_1 := qe BK101.out 1
     have hfz20_2 := qe BK101.out 2
     have hcz21_0 : wc.cell? ⟨gb102, 0, none⟩ = some (.string a1_0) := (qf BK102.out 0).trans rfl
     have hcz21_1 : wc.cell? ⟨gb102, 1, none⟩ = some (.int .i64 a1_1) := (qf BK102.out 1).trans rfl
     have hcz21_2 : wc.cell? ⟨gb102, 2, none⟩ = some (.int .i64 a1_2) := (qf BK102.out 2).trans rfl
     have hfz21_0 := qe BK102.out 0
     have hfz21_1 := qe BK102.out 1
     have hfz21_2 := qe BK102.out 2
     go_wp2
     go_ret
     exact ⟨by first | rfl | (simp [qn, qm] <;> rfl) | (simp [*, qn, qm] <;> rfl), by repeat (first | (with_reducible first | exact HB.out | apply qc | apply qa | apply qb | refine qd ?_ GE101.out | refine qd ?_ GE102.out) | exact HB.out)⟩
    ·rw [if_neg c18] at H
     have c18b0 : (a0_0.toList == a1_0.toList && (a0_1 == a1_1 && (a0_2 == a1_2))) = false := by simpa using c18
     (try (have c18b1 : decide (a0_0.toList = a1_0.toList && (a0_1 == a1_1 && (a0_2 == a1_2))) = false := by simpa using c18))
     (try (have c18b2 : (a0_0.toList == a1_0.toList && (a0_1 == a1_1 && (a0_2 == a1_2))) = false := by simpa using c18))
     (try (have c18b3 : ¬ (a0_0.toList = a1_0.toList && (a0_1 == a1_1 && (a0_2 == a1_2))) := by simpa using c18))
     clear c18
     by_cases c22 : (Op.bytesLess a0_0.toList a1_0.toList) = true
     ·rw [if_pos c22] at H
      have c22b0 : (Op.bytesLess a0_0.toList a1_0.toList) = true := c22
      clear c22
      obtain rfl := Option.some.inj H
      have hnb23 := NB101_102.out
      have hnc23 := NB102_101.out
      have hcz24_0 : wc.cell? ⟨gb101, 0, none⟩ = some (.string a0_0) := (qf BK101.out 0).trans rfl
      have hcz24_1 : wc.cell? ⟨gb101, 1, none⟩ = some (.int .i64 a0_1) := (qf BK101.out 1).trans rfl
      have hcz24_2 : wc.cell? ⟨gb101, 2, none⟩ = some (.int .i64 a0_2) := (qf BK101.out 2).trans rfl
      have hfz24_0 := qe BK101.out 0
      have hfz24_1 := qe BK101.out 1
      have hfz24_2 := qe BK101.out 2
      have hcz25_0 : wc.cell? ⟨gb102, 0, none⟩ = some (.string a1_0) := (qf BK102.out 0).trans rfl
      have hcz25_1 : wc.cell? ⟨gb102, 1, none⟩ = some (.int .i64 a1_1) := (qf BK102.out 1).trans rfl
      have hcz25_2 : wc.cell? ⟨gb102, 2, none⟩ = some (.int .i64 a1_2) := (qf BK102.out 2).trans rfl
      have hfz25_0 := qe BK102.out 0
      have hfz25_1 := qe BK102.out 1
      have hfz25_2 := qe BK102.out 2
      go_wp2
      go_ret
      exact ⟨by first | rfl | (simp [qn, qm] <;> rfl) | (simp [*, qn, qm] <;> rfl), by repeat (first | (with_reducible first | exact HB.out | apply qc | apply qa | apply qb | refine qd ?_ GE101.out | refine qd ?_ GE102.out) | exact HB.out)⟩
     ·rw [if_neg c22] at H
      have c22b0 : (Op.bytesLess a0_0.toList a1_0.toList) = false := by simpa using c22
      clear c22
      by_cases c26 : a0_0.toList = a1_0.toList
      ·rw [if_pos c26] at H
       have c26b0 : (a0_0.toList == a1_0.toList) = true := beq_iff_eq.mpr c26
       (try (have c18s26 := c18b0; simp only [c26b0, Bool.true_and] at c18s26))
       have c26b1 : (a0_0.toList != a1_0.toList) = false := bne_eq_false_iff_eq.mpr c26
       clear c26
       by_cases c27 : a0_1 > a1_1
       ·rw [if_pos c27] at H
        have c27b0 : decide (a1_1 < a0_1) = true := decide_eq_true c27
        clear c27
        obtain rfl := Option.some.inj H
        have hnb28 := NB101_102.out
        have hnc28 := NB102_101.out
        have hcz29_0 : wc.cell? ⟨gb101, 0, none⟩ = some (.string a0_0) := (qf BK101.out 0).trans rfl
        have hcz29_1 : wc.cell? ⟨gb101, 1, none⟩ = some (.int .i64 a0_1) := (qf BK101.out 1).trans rfl
        have hcz29_2 : wc.cell? ⟨gb101, 2, none⟩ = some (.int .i64 a0_2) := (qf BK101.out 2).trans rfl
        have hfz29_0 := qe BK101.out 0
        have hfz29_1 := qe BK101.out 1
        have hfz29_2 := qe BK101.out 2
        have hcz30_0 : wc.cell? ⟨gb102, 0, none⟩ = some (.string a1_0) := (qf BK102.out 0).trans rfl
        have hcz30_1 : wc.cell? ⟨gb102, 1, none⟩ = some (.int .i64 a1_1) := (qf BK102.out 1).trans rfl
        have hcz30_2 : wc.cell? ⟨gb102, 2, none⟩ = some (.int .i64 a1_2) := (qf BK102.out 2).trans rfl
        have hfz30_0 := qe BK102.out 0
        have hfz30_1 := qe BK102.out 1
        have hfz30_2 := qe BK102.out 2
        go_wp2
        go_ret
        exact ⟨by first | rfl | (simp [qn, qm] <;> rfl) | (simp [*, qn, qm] <;> rfl), by repeat (first | (with_reducible first | exact HB.out | apply qc | apply qa | apply qb | refine qd ?_ GE101.out | refine qd ?_ GE102.out) | exact HB.out)⟩
       ·rw [if_neg c27] at H
        have c27b0 : decide (a1_1 < a0_1) = false := decide_eq_false c27
        clear c27
        by_cases c31 : a0_1 = a1_1
        ·rw [if_pos c31] at H
         have c31b0 : (a0_1 == a1_1) = true := beq_iff_eq.mpr c31
         have c31b1 : (a0_1 != a1_1) = false := bne_eq_false_iff_eq.mpr c31
         (try (have c18s26s31 := c18s26; simp only [show (a0_1 == a1_1) = true from beq_iff_eq.mpr c31, Bool.true_and] at c18s26s31))
         clear c31
         by_cases c32 : a0_2 > a1_2
         ·rw [if_pos c32] at H
          have c32b0 : decide (a1_2 < a0_2) = true := decide_eq_true c32
          clear c32
          obtain rfl := Option.some.inj H
          have hnb33 := NB101_102.out
          have hnc33 := NB102_101.out
          have hcz34_0 : wc.cell? ⟨gb101, 0, none⟩ = some (.string a0_0) := (qf BK101.out 0).trans rfl
          have hcz34_1 : wc.cell? ⟨gb101, 1, none⟩ = some (.int .i64 a0_1) := (qf BK101.out 1).trans rfl
          have hcz34_2 : wc.cell? ⟨gb101, 2, none⟩ = some (.int .i64 a0_2) := (qf BK101.out 2).trans rfl
          have hfz34_0 := qe BK101.out 0
          have hfz34_1 := qe BK101.out 1
          have hfz34_2 := qe BK101.out 2
          have hcz35_0 : wc.cell? ⟨gb102, 0, none⟩ = some (.string a1_0) := (qf BK102.out 0).trans rfl
          have hcz35_1 : wc.cell? ⟨gb102, 1, none⟩ = some (.int .i64 a1_1) := (qf BK102.out 1).trans rfl
          have hcz35_2 : wc.cell? ⟨gb102, 2, none⟩ = some (.int .i64 a1_2) := (qf BK102.out 2).trans rfl
          have hfz35_0 := qe BK102.out 0
          have hfz35_1 := qe BK102.out 1
          have hfz35_2 := qe BK102.out 2
          go_wp2
          go_ret
          exact ⟨by first | rfl | (simp [qn, qm] <;> rfl) | (simp [*, qn, qm] <;> rfl), by repeat (first | (with_reducible first | exact HB.out | apply qc | apply qa | apply qb | refine qd ?_ GE101.out | refine qd ?_ GE102.out) | exact HB.out)⟩
         ·rw [if_neg c32] at H
          have c32b0 : decide (a1_2 < a0_2) = false := decide_eq_false c32
          clear c32
          obtain rfl := Option.some.inj H
          have hnb36 := NB101_102.out
          have hnc36 := NB102_101.out
          have hcz37_0 : wc.cell? ⟨gb101, 0, none⟩ = some (.string a0_0) := (qf BK101.out 0).trans rfl
          have hcz37_1 : wc.cell? ⟨gb101, 1, none⟩ = some (.int .i64 a0_1) := (qf BK101.out 1).trans rfl
          have hcz37_2 : wc.cell? ⟨gb101, 2, none⟩ = some (.int .i64 a0_2) := (qf BK101.out 2).trans rfl
          have hfz37_0 := qe BK101.out 0
          have hfz37_1 := qe BK101.out 1
          have hfz37_2 := qe BK101.out 2
          have hcz38_0 : wc.cell? ⟨gb102, 0, none⟩ = some (.string a1_0) := (qf BK102.out 0).trans rfl
          have hcz38_1 : wc.cell? ⟨gb102, 1, none⟩ = some (.int .i64 a1_1) := (qf BK102.out 1).trans rfl
          have hcz38_2 : wc.cell? ⟨gb102, 2, none⟩ = some (.int .i64 a1_2) := (qf BK102.out 2).trans rfl
          have hfz38_0 := qe BK102.out 0
          have hfz38_1 := qe BK102.out 1
          have hfz38_2 := qe BK102.out 2
          go_wp2
          go_ret
          exact ⟨by first | rfl | (simp [qn, qm] <;> rfl) | (simp [*, qn, qm] <;> rfl), by repeat (first | (with_reducible first | exact HB.out | apply qc | apply qa | apply qb | refine qd ?_ GE101.out | refine qd ?_ GE102.out) | exact HB.out)⟩
        ·rw [if_neg c31] at H
         have c31b0 : (a0_1 == a1_1) = false := beq_eq_false_iff_ne.mpr c31
         have c31b1 : (a0_1 != a1_1) = true := bne_iff_ne.mpr c31
         obtain rfl := Option.some.inj H
         have hnb39 := NB101_102.out
         have hnc39 := NB102_101.out
         have hcz40_0 : wc.cell? ⟨gb101, 0, none⟩ = some (.string a0_0) := (qf BK101.out 0).trans rfl
         have hcz40_1 : wc.cell? ⟨gb101, 1, none⟩ = some (.int .i64 a0_1) := (qf BK101.out 1).trans rfl
         have hcz40_2 : wc.cell? ⟨gb101, 2, none⟩ = some (.int .i64 a0_2) := (qf BK101.out 2).trans rfl
         have hfz40_0 := qe BK101.out 0
         have hfz40_1 := qe BK101.out 1
         have hfz40_2 := qe BK101.out 2
         have hcz41_0 : wc.cell? ⟨gb102, 0, none⟩ = some (.string a1_0) := (qf BK102.out 0).trans rfl
         have hcz41_1 : wc.cell? ⟨gb102, 1, none⟩ = some (.int .i64 a1_1) := (qf BK102.out 1).trans rfl
         have hcz41_2 : wc.cell? ⟨gb102, 2, none⟩ = some (.int .i64 a1_2) := (qf BK102.out 2).trans rfl
         have hfz41_0 := qe BK102.out 0
         have hfz41_1 := qe BK102.out 1
         have hfz41_2 := qe BK102.out 2
         go_wp2
         go_ret
         exact ⟨by first | rfl | (simp [qn, qm] <;> rfl) | (simp [*, qn, qm] <;> rfl), by repeat (first | (with_reducible first | exact HB.out | apply qc | apply qa | apply qb | refine qd ?_ GE101.out | refine qd ?_ GE102.out) | exact HB.out)⟩
      ·rw [if_neg c26] at H
       have c26b0 : (a0_0.toList == a1_0.toList) = false := beq_eq_false_iff_ne.mpr c26
       have c26b1 : (a0_0.toList != a1_0.toList) = true := bne_iff_ne.mpr c26
       obtain rfl := Option.some.inj H
       have hnb42 := NB101_102.out
       have hnc42 := NB102_101.out
       have hcz43_0 : wc.cell? ⟨gb101, 0, none⟩ = some (.string a0_0) := (qf BK101.out 0).trans rfl
       have hcz43_1 : wc.cell? ⟨gb101, 1, none⟩ = some (.int .i64 a0_1) := (qf BK101.out 1).trans rfl
       have hcz43_2 : wc.cell? ⟨gb101, 2, none⟩ = some (.int .i64 a0_2) := (qf BK101.out 2).trans rfl
       have hfz43_0 := qe BK101.out 0
       have hfz43_1 := qe BK101.out 1
       have hfz43_2 := qe BK101.out 2
       have hcz44_0 : wc.cell? ⟨gb102, 0, none⟩ = some (.string a1_0) := (qf BK102.out 0).trans rfl
       have hcz44_1 : wc.cell? ⟨gb102, 1, none⟩ = some (.int .i64 a1_1) := (qf BK102.out 1).trans rfl
       have hcz44_2 : wc.cell? ⟨gb102, 2, none⟩ = some (.int .i64 a1_2) := (qf BK102.out 2).trans rfl
       have hfz44_0 := qe BK102.out 0
       have hfz44_1 := qe BK102.out 1
       have hfz44_2 := qe BK102.out 2
       go_wp2
       go_ret
       exact ⟨by first | rfl | (simp [qn, qm] <;> rfl) | (simp [*, qn, qm] <;> rfl), by repeat (first | (with_reducible first | exact HB.out | apply qc | apply qa | apply qb | refine qd ?_ GE101.out | refine qd ?_ GE102.out) | exact HB.out)⟩
theorem yq7 {P : Prop} (h : P := by first | (with_reducible assumption) | assumption) : P := h
theorem yq8 {P : Prop} (h : P := by repeat (first | (with_reducible first | exact HB.out | apply qc | apply qa | apply qb) | exact HB.out)) : P := h
theorem yq9 {P : Prop} (h : P := by (try simp only [List.map_toArray, List.map_cons, List.map_nil]); first | done | rfl) : P := h
def spec_EntriesOk.l0 : Nat → List (S64) → Int → Option (Bool)
 | 0, _, _ => none
 | k + 1, x0, x3 => if x3 < (x0.length : Int) then (if 0 ≤ x3 then ((spec_EntryOk.f ((qk x0 x3).f0.f0) ((qk x0 x3).f0.f1) ((qk x0 x3).f0.f2) ((qk x0 x3).f1)).bind fun t102 => (if t102 = true then (if x3 > 0 then (if 0 ≤ (wrap64 (x3 - 1)) then (if (wrap64 (x3 - 1)) < (x0.length : Int) then ((spec_KeyCmp.f k ((qk x0 (wrap64 (x3 - 1))).f0.f0) ((qk x0 (wrap64 (x3 - 1))).f0.f1) ((qk x0 (wrap64 (x3 - 1))).f0.f2) ((qk x0 x3).f0.f0) ((qk x0 x3).f0.f1) ((qk x0 x3).f0.f2)).bind fun t105 => (if t105 ≥ 0 then (some false) else (spec_EntriesOk.l0 k x0 (wrap64 (x3 + 1))))) else (none)) else (none)) else (spec_EntriesOk.l0 k x0 (wrap64 (x3 + 1)))) else (some false))) else (none)) else (some true)
def spec_EntriesOk.f (k : Nat) (l0 : List (S64)) : Option (Bool) := if (l0.length : Int) > 400 then (some false) else (spec_EntriesOk.l0 k l0 0)
def spec_EntriesOk.T6 : Bool × List (List Nat × List Nat) := (true, [([], []), ([], []), ([0, 1], [0, 1]), ([2], [2]), ([3], [3]), ([4], [4]), ([5, 4], [5]), ([6], [6]), ([7, 6], [6, 7]), ([8, 6, 6], [6, 8]), ([9], [9]), ([9], [9]), ([11, 9], [9, 11]), ([10, 12, 9], [9, 10, 12]), ([13, 9], [9, 13]), ([14, 9], [9, 14]), ([9], [9]), ([9], [9]), ([16, 17, 9], [9, 16, 17]), ([18, 9], [9, 18]), ([19, 9], [9, 19]), ([15, 20, 9, 9], [9, 15, 20]), ([21, 9], [9, 21]), ([9, 22, 6], [6, 9, 22]), ([6, 23], [6, 23])])
def spec_EntriesOk.B6 : List Nat := [0, 0, 3, 7, 15, 31, 63, 127, 255, 511, 1023, 1023, 3071, 8191, 16383, 32767, 1023, 1023, 197631, 459775, 984063, 2097151, 4194303, 8388607, 16777215]
theorem spec_EntriesOk.tab6 : rtab .any (opsOf Try.f68 6) = spec_EntriesOk.T6 := by kernel_rfl
theorem spec_EntriesOk.bits6 : waitsOk spec_EntriesOk.T6.2 spec_EntriesOk.B6 = true := by kernel_rfl
set_option maxHeartbeats 8000000 in
set_option maxRecDepth 100000 in
theorem spec_EntriesOk.calls (k : Nat) (A0 : Option Addr) (c0 : Nat) (l0 : List (S64)) (r : Bool) (w : World) (hr0 : Kd.C k64 w A0 l0.length l0) (hc0 : l0.length ≤ c0) (h : spec_EntriesOk.f k l0 = some r) :
  Calls Try.prog 68 #[.slice A0 l0.length c0] w fun e w' => e = .returned (.bool r) ∧ Below w.heap.size w w' := by
 have hu64 := Try.underlying64
 have hu35 := Try.underlying35
 have HR0 := Qz.mk hr0
 have HC0 := Qz.mk hc0
 clear hr0 hc0
 have HB := Qz.mk (Below.refl w.heap.size w)
 have H : (if (l0.length : Int) > 400 then (some false) else (spec_EntriesOk.l0 k l0 0)) = some r := h
 clear h
 by_cases c2 : (l0.length : Int) > 400
 ·rw [if_pos c2] at H
  have c2b0 : decide (400 < (l0.length : Int)) = true := decide_eq_true c2
  have c2b1 : decide (400 < l0.length) = true := decide_eq_true (by omega)
  clear c2
  obtain rfl := Option.some.inj H
  go_enter Try.func68, Try.ntmps68
  go_wp2
  go_ret
  exact ⟨by first | rfl | (simp [qn, qm] <;> rfl) | (simp [*, qn, qm] <;> rfl), by repeat (first | (with_reducible first | exact HB.out | apply qc | apply qa | apply qb) | exact HB.out)⟩
 ·rw [if_neg c2] at H
  have c2b0 : decide (400 < (l0.length : Int)) = false := decide_eq_false c2
  have c2b1 : decide (400 < l0.length) = false := decide_eq_false (by omega)
  clear c2
  have H' := Qz.mk H
  clear H
  go_enter Try.func68, Try.ntmps68
  go_wp2
  go_loopg [3] k (fun kq v3 w' => ∃ (x3_1 : Int), v3 = .int .i64 x3_1 ∧ Qz (spec_EntriesOk.l0 kq l0 x3_1 = some r) ∧ Qz (kq ≤ k) ∧ Qz (Below w.heap.size w w'))
  case atStart => exact ⟨(0), (by first | rfl | (simp; done) | (simp [*]; done)), H', ⟨Nat.le_refl _⟩, ⟨by repeat (first | (with_reducible first | exact HB.out | apply qc | apply qa | apply qb) | exact HB.out)⟩⟩
  case round =>
   clear H'
   try clear c2
   try clear c2b0
   try clear c2b1
   try clear p2
   obtain ⟨x3_1, rfl, HA, HK1, HB⟩ := hrel
   cases gk with
   | zero => exact absurd HA.out (by simp [spec_EntriesOk.l0])
   | succ k1 =>
    have H := HA.out
    clear HA
    simp only [spec_EntriesOk.l0] at H
    by_cases c3 : x3_1 < (l0.length : Int)
    ·rw [if_pos c3] at H
     have c3b0 : decide (x3_1 < (l0.length : Int)) = true := decide_eq_true c3
     clear c3
     by_cases c4 : 0 ≤ x3_1
     ·rw [if_pos c4] at H
      have c4b0 : decide (0 ≤ x3_1) = true := decide_eq_true c4
      clear c4
      replace H := Option.bind_eq_some_iff.mp H
      obtain ⟨t102, A50, H⟩ := H
      replace H : (if t102 = true then (if x3_1 > 0 then (if 0 ≤ (wrap64 (x3_1 - 1)) then (if (wrap64 (x3_1 - 1)) < (l0.length : Int) then ((spec_KeyCmp.f k1 ((qk l0 (wrap64 (x3_1 - 1))).f0.f0) ((qk l0 (wrap64 (x3_1 - 1))).f0.f1) ((qk l0 (wrap64 (x3_1 - 1))).f0.f2) ((qk l0 x3_1).f0.f0) ((qk l0 x3_1).f0.f1) ((qk l0 x3_1).f0.f2)).bind fun t105 => (if t105 ≥ 0 then (some false) else (spec_EntriesOk.l0 k1 l0 (wrap64 (x3_1 + 1))))) else (none)) else (none)) else (spec_EntriesOk.l0 k1 l0 (wrap64 (x3_1 + 1)))) else (some false)) = some r := H
      have A5 := Qz.mk A50
      clear A50
      by_cases c6 : t102 = true
      ·subst c6
       have H1 : (if x3_1 > 0 then (if 0 ≤ (wrap64 (x3_1 - 1)) then (if (wrap64 (x3_1 - 1)) < (l0.length : Int) then ((spec_KeyCmp.f k1 ((qk l0 (wrap64 (x3_1 - 1))).f0.f0) ((qk l0 (wrap64 (x3_1 - 1))).f0.f1) ((qk l0 (wrap64 (x3_1 - 1))).f0.f2) ((qk l0 x3_1).f0.f0) ((qk l0 x3_1).f0.f1) ((qk l0 x3_1).f0.f2)).bind fun t105 => (if t105 ≥ 0 then (some false) else (spec_EntriesOk.l0 k1 l0 (wrap64 (x3_1 + 1))))) else (none)) else (none)) else (spec_EntriesOk.l0 k1 l0 (wrap64 (x3_1 + 1)))) = some r := by rw [if_pos rfl] at H; exact H
       clear H
       have H := H1
       clear H1
       by_cases c7 : x3_1 > 0
       ·rw [if_pos c7] at H
        have c7b0 : decide (0 < x3_1) = true := decide_eq_true c7
        clear c7
        obtain ⟨ji8, hji8⟩ : ∃ j_ : Int, (wrap64 (x3_1 - 1)) = j_ := ⟨_, rfl⟩
        replace H : (if 0 ≤ (ji8) then (if (ji8) < (l0.length : Int) then ((spec_KeyCmp.f k1 ((qk l0 (ji8)).f0.f0) ((qk l0 (ji8)).f0.f1) ((qk l0 (ji8)).f0.f2) ((qk l0 x3_1).f0.f0) ((qk l0 x3_1).f0.f1) ((qk l0 x3_1).f0.f2)).bind fun t105 => (if t105 ≥ 0 then (some false) else (spec_EntriesOk.l0 k1 l0 (wrap64 (x3_1 + 1))))) else (none)) else (none)) = some r := by first | (rw [hji8] at H; exact H) | (simp only [hji8] at H ⊢; exact H)
        (try rw [hji8] at A5)
        have hji8w : (IntKind.i64.wrap (x3_1 - 1)) = ji8 := (i64_w _).trans hji8
        by_cases c9 : 0 ≤ (ji8)
        ·rw [if_pos c9] at H
         have c9b0 : decide (0 ≤ (ji8)) = true := decide_eq_true c9
         clear c9
         by_cases c10 : (ji8) < (l0.length : Int)
         ·rw [if_pos c10] at H
          have c10b0 : decide ((ji8) < (l0.length : Int)) = true := decide_eq_true c10
          clear c10
          replace H := Option.bind_eq_some_iff.mp H
          obtain ⟨t105, A110, H⟩ := H
          replace H : (if t105 ≥ 0 then (some false) else (spec_EntriesOk.l0 k1 l0 (wrap64 (x3_1 + 1)))) = some r := H
          have A11 := Qz.mk A110
          clear A110
          by_cases c12 : t105 ≥ 0
          ·rw [if_pos c12] at H
           have c12b0 : decide (0 ≤ t105) = true := decide_eq_true c12
           clear c12
           obtain rfl := Option.some.inj H
           try go_wp2
           replace HB := Qz.mk (qb HB.out)
           have p101 : 0 ≤ (x3_1 : Int) := of_decide_eq_true yq7
           have q101 : x3_1 < (l0.length : Int) := of_decide_eq_true yq7
           obtain ⟨ad101, e101, hx101_0, hx101_1, hx101_2, hx101_3⟩ := at_T64 HR0.out x3_1 p101 q101
           have hw101_3 := hx101_3
           have hw101_2 := hx101_2
           have hw101_1 := hx101_1
           have hw101_0 := hx101_0
           cases e101
           replace hx101_0 := (HB.out.cell (World.block_lt_of_cell? w _ hx101_0)).trans hx101_0
           replace hx101_1 := (HB.out.cell (World.block_lt_of_cell? w _ hx101_1)).trans hx101_1
           replace hx101_2 := (HB.out.cell (World.block_lt_of_cell? w _ hx101_2)).trans hx101_2
           replace hx101_3 := (HB.out.cell (World.block_lt_of_cell? w _ hx101_3)).trans hx101_3
           replace p101 := eq_true p101
           replace q101 := eq_true q101
           have p103 : 0 ≤ ((ji8) : Int) := of_decide_eq_true yq7
           have q103 : (ji8) < (l0.length : Int) := of_decide_eq_true yq7
           obtain ⟨ad103, e103, hx103_0, hx103_1, hx103_2, hx103_3⟩ := at_T64 HR0.out (ji8) p103 q103
           have hw103_3 := hx103_3
           have hw103_2 := hx103_2
           have hw103_1 := hx103_1
           have hw103_0 := hx103_0
           obtain rfl : ad101 = ad103 := (by injection e103)
           replace hx103_0 := (HB.out.cell (World.block_lt_of_cell? w _ hx103_0)).trans hx103_0
           replace hx103_1 := (HB.out.cell (World.block_lt_of_cell? w _ hx103_1)).trans hx103_1
           replace hx103_2 := (HB.out.cell (World.block_lt_of_cell? w _ hx103_2)).trans hx103_2
           replace hx103_3 := (HB.out.cell (World.block_lt_of_cell? w _ hx103_3)).trans hx103_3
           replace p103 := eq_true p103
           replace q103 := eq_true q103
           have p104 : 0 ≤ (x3_1 : Int) := of_decide_eq_true yq7
           have q104 : x3_1 < (l0.length : Int) := of_decide_eq_true yq7
           obtain ⟨ad104, e104, hx104_0, hx104_1, hx104_2, hx104_3⟩ := at_T64 HR0.out x3_1 p104 q104
           have hw104_3 := hx104_3
           have hw104_2 := hx104_2
           have hw104_1 := hx104_1
           have hw104_0 := hx104_0
           obtain rfl : ad101 = ad104 := (by injection e104)
           replace hx104_0 := (HB.out.cell (World.block_lt_of_cell? w _ hx104_0)).trans hx104_0
           replace hx104_1 := (HB.out.cell (World.block_lt_of_cell? w _ hx104_1)).trans hx104_1
           replace hx104_2 := (HB.out.cell (World.block_lt_of_cell? w _ hx104_2)).trans hx104_2
           replace hx104_3 := (HB.out.cell (World.block_lt_of_cell? w _ hx104_3)).trans hx104_3
           replace p104 := eq_true p104
           replace q104 := eq_true q104
           refine start_ (n := 25) (S := fun w' => w'.cell? (ad101.add ((x3_1).toNat * 4)) = some (.string ((qk l0 x3_1).f0.f0)) ∧ w'.cell? ⟨(ad101.add ((x3_1).toNat * 4)).block, (ad101.add ((x3_1).toNat * 4)).off + 1, none⟩ = some (.int .i64 ((qk l0 x3_1).f0.f1)) ∧ w'.cell? ⟨(ad101.add ((x3_1).toNat * 4)).block, (ad101.add ((x3_1).toNat * 4)).off + 2, none⟩ = some (.int .i64 ((qk l0 x3_1).f0.f2)) ∧ w'.cell? ⟨(ad101.add ((x3_1).toNat * 4)).block, (ad101.add ((x3_1).toNat * 4)).off + 3, none⟩ = some (.string ((qk l0 x3_1).f1)) ∧ w'.cell? (ad101.add (((ji8)).toNat * 4)) = some (.string ((qk l0 (ji8)).f0.f0)) ∧ w'.cell? ⟨(ad101.add (((ji8)).toNat * 4)).block, (ad101.add (((ji8)).toNat * 4)).off + 1, none⟩ = some (.int .i64 ((qk l0 (ji8)).f0.f1)) ∧ w'.cell? ⟨(ad101.add (((ji8)).toNat * 4)).block, (ad101.add (((ji8)).toNat * 4)).off + 2, none⟩ = some (.int .i64 ((qk l0 (ji8)).f0.f2)) ∧ w'.cell? ⟨(ad101.add (((ji8)).toNat * 4)).block, (ad101.add (((ji8)).toNat * 4)).off + 3, none⟩ = some (.string ((qk l0 (ji8)).f1)) ∧ w'.cell? (ad101.add ((x3_1).toNat * 4)) = some (.string ((qk l0 x3_1).f0.f0)) ∧ w'.cell? ⟨(ad101.add ((x3_1).toNat * 4)).block, (ad101.add ((x3_1).toNat * 4)).off + 1, none⟩ = some (.int .i64 ((qk l0 x3_1).f0.f1)) ∧ w'.cell? ⟨(ad101.add ((x3_1).toNat * 4)).block, (ad101.add ((x3_1).toNat * 4)).off + 2, none⟩ = some (.int .i64 ((qk l0 x3_1).f0.f2)) ∧ w'.cell? ⟨(ad101.add ((x3_1).toNat * 4)).block, (ad101.add ((x3_1).toNat * 4)).off + 3, none⟩ = some (.string ((qk l0 x3_1).f1))) (ds := []) bq0 (by kernel_rfl) rfl rfl ⟨((HB.out.cell (World.block_lt_of_cell? w _ hw101_0)).trans hw101_0), ((HB.out.cell (World.block_lt_of_cell? w _ hw101_1)).trans hw101_1), ((HB.out.cell (World.block_lt_of_cell? w _ hw101_2)).trans hw101_2), ((HB.out.cell (World.block_lt_of_cell? w _ hw101_3)).trans hw101_3), ((HB.out.cell (World.block_lt_of_cell? w _ hw103_0)).trans hw103_0), ((HB.out.cell (World.block_lt_of_cell? w _ hw103_1)).trans hw103_1), ((HB.out.cell (World.block_lt_of_cell? w _ hw103_2)).trans hw103_2), ((HB.out.cell (World.block_lt_of_cell? w _ hw103_3)).trans hw103_3), ((HB.out.cell (World.block_lt_of_cell? w _ hw104_0)).trans hw104_0), ((HB.out.cell (World.block_lt_of_cell? w _ hw104_1)).trans hw104_1), ((HB.out.cell (World.block_lt_of_cell? w _ hw104_2)).trans hw104_2), ((HB.out.cell (World.block_lt_of_cell? w _ hw104_3)).trans hw104_3)⟩ (fun hHeld => ?_); refine with_tabW spec_EntriesOk.tab6 spec_EntriesOk.bits6 (fun HT_ HW_ => ?_)
           generalize wr.drew = w13 at HB hx101_0 hx101_1 hx101_2 hx101_3 hx103_0 hx103_1 hx103_2 hx103_3 hx104_0 hx104_1 hx104_2 hx104_3 hHeld ⊢
           refine pure_ (i := 0) (N := some 13) (v := ?_) (a' := ?_) bq6 rfl rfl (qr HT_.out (by kernel_rfl)) (fun _ _ _ h => h) (Or.inl ⟨by rfl, ?_⟩) ?_ ?_
           rotate_left
           ·intro w'
            go_simp
            with_reducible rfl
           rotate_left
           ·simp only [Act.put, sq1, sq2, sq3, i64_w, i32_w]
            rfl
           refine pure_ (i := 1) (N := some 14) (v := ?_) (a' := ?_) bq17 rfl rfl (qr HT_.out (by kernel_rfl)) (fun _ _ _ h => h) (Or.inl ⟨by rfl, ?_⟩) ?_ ?_
           rotate_left
           ·intro w'
            go_simp
            with_reducible rfl
           rotate_left
           ·simp only [Act.put, sq1, sq2, sq3, i64_w, i32_w]
            rfl
           refine pure_ (i := 2) (N := some 15) (v := ?_) (a' := ?_) bq27 rfl rfl (qr HT_.out (by kernel_rfl)) (fun _ _ _ h => h) (Or.inl ⟨by rfl, ?_⟩) ?_ ?_
           rotate_left
           ·intro w'
            go_simp
            with_reducible rfl
           rotate_left
           ·simp only [Act.put, sq1, sq2, sq3, i64_w, i32_w]
            rfl
           refine take_ (i := 3) (N := some 16) (v := ?_) (a' := ?_) bq40 rfl rfl (take_ofW HT_.out HW_.out (by kernel_rfl)) (fun _ _ _ h => h) (Or.inl ⟨by rfl, ?_⟩) hHeld ?_ ?_
           rotate_left
           ·rintro w' ⟨s0, s1, s2, s3, s4, s5, s6, s7, s8, s9, s10, s11⟩
            go_simp
            with_reducible rfl
           rotate_left
           ·simp only [Act.put, sq1, sq2, sq3, i64_w, i32_w]
            rfl
           refine one_ (i := 4) (N := some 17) bq46 rfl rfl (one_of HT_.out (by kernel_rfl)) (by decide) (fun K hK => ?_)
           refine goes_ Try.func143 (by kernel_rfl) rfl #[.agg #[.string ((qk l0 x3_1).f0.f0), .int .i64 ((qk l0 x3_1).f0.f1), .int .i64 ((qk l0 x3_1).f0.f2), .string ((qk l0 x3_1).f1)]] (by rfl) rfl rfl yq9 ?_
           with_reducible refine (spec_EntryOk.calls ((qk l0 x3_1).f0.f0) ((qk l0 x3_1).f0.f1) ((qk l0 x3_1).f0.f2) ((qk l0 x3_1).f1) true _ A5.out).mono ?_
           rintro e w14 ⟨rfl, hb⟩
           refine ⟨_, rfl, ?_⟩
           replace HB := Qz.mk (ql yq8 hb)
           (try clear hb)
           refine hK.out _ _ ⟨((HB.out.cell (World.block_lt_of_cell? w _ hw101_0)).trans hw101_0), ((HB.out.cell (World.block_lt_of_cell? w _ hw101_1)).trans hw101_1), ((HB.out.cell (World.block_lt_of_cell? w _ hw101_2)).trans hw101_2), ((HB.out.cell (World.block_lt_of_cell? w _ hw101_3)).trans hw101_3), ((HB.out.cell (World.block_lt_of_cell? w _ hw103_0)).trans hw103_0), ((HB.out.cell (World.block_lt_of_cell? w _ hw103_1)).trans hw103_1), ((HB.out.cell (World.block_lt_of_cell? w _ hw103_2)).trans hw103_2), ((HB.out.cell (World.block_lt_of_cell? w _ hw103_3)).trans hw103_3), ((HB.out.cell (World.block_lt_of_cell? w _ hw104_0)).trans hw104_0), ((HB.out.cell (World.block_lt_of_cell? w _ hw104_1)).trans hw104_1), ((HB.out.cell (World.block_lt_of_cell? w _ hw104_2)).trans hw104_2), ((HB.out.cell (World.block_lt_of_cell? w _ hw104_3)).trans hw104_3)⟩ (fun hHeld => ?_)
           clear hK K
           refine norm_ (a' := ?_) ?_ ?_
           rotate_left
           ·show Act.put _ (some 17) _ = _
            simp only [Act.put, sq1, sq2, sq3, i64_w, i32_w]
            rfl
           refine pure_ (i := 5) (N := some 18) (v := ?_) (a' := ?_) bq51 rfl rfl (qr HT_.out (by kernel_rfl)) (fun _ _ _ h => h) (Or.inl ⟨by rfl, ?_⟩) ?_ ?_
           rotate_left
           ·intro w'
            go_simp
            with_reducible rfl
           rotate_left
           ·simp only [Act.put, sq1, sq2, sq3, i64_w, i32_w]
            rfl
           refine pure_ (i := 6) (N := some 19) (v := ?_) (a' := ?_) bq56 rfl rfl (qr HT_.out (by kernel_rfl)) (fun _ _ _ h => h) (Or.inl ⟨by rfl, ?_⟩) ?_ ?_
           rotate_left
           ·intro w'
            go_simp
            with_reducible rfl
           rotate_left
           ·simp only [Act.put, sq1, sq2, sq3, i64_w, i32_w]
            rfl
           refine pure_ (i := 7) (N := some 20) (v := ?_) (a' := ?_) bq61 rfl rfl (qr HT_.out (by kernel_rfl)) (fun _ _ _ h => h) (Or.inl ⟨by rfl, ?_⟩) ?_ ?_
           rotate_left
           ·intro w'
            go_simp
            with_reducible rfl
           rotate_left
           ·simp only [Act.put, sq1, sq2, sq3, i64_w, i32_w]
            rfl
           refine pure_ (i := 8) (N := some 21) (v := ?_) (a' := ?_) bq66 rfl rfl (qr HT_.out (by kernel_rfl)) (fun _ _ _ h => h) (Or.inl ⟨by rfl, ?_⟩) ?_ ?_
           rotate_left
           ·intro w'
            go_simp
            with_reducible rfl
           rotate_left
           ·simp only [Act.put, sq1, sq2, sq3, i64_w, i32_w]
            rfl
           refine pure_ (i := 9) (N := some 22) (v := ?_) (a' := ?_) bq74 rfl rfl (qr HT_.out (by kernel_rfl)) (fun _ _ _ h => h) (Or.inl ⟨by rfl, ?_⟩) ?_ ?_
           rotate_left
           ·intro w'
            go_simp
            with_reducible rfl
           rotate_left
           ·simp only [Act.put, sq1, sq2, sq3, i64_w, i32_w]
            rfl
           refine pure_ (i := 10) (N := some 23) (v := ?_) (a' := ?_) bq78 rfl rfl (qr HT_.out (by kernel_rfl)) (fun _ _ _ h => h) (Or.inl ⟨by rfl, ?_⟩) ?_ ?_
           rotate_left
           ·intro w'
            go_simp
            with_reducible rfl
           rotate_left
           ·simp only [Act.put, sq1, sq2, sq3, i64_w, i32_w]
            rfl
           refine pure_ (i := 11) (N := some 24) (v := ?_) (a' := ?_) bq83 rfl rfl (qr HT_.out (by kernel_rfl)) (fun _ _ _ h => h) (Or.inl ⟨by rfl, ?_⟩) ?_ ?_
           rotate_left
           ·intro w'
            go_simp
            with_reducible rfl
           rotate_left
           ·simp only [Act.put, sq1, sq2, sq3, i64_w, i32_w]
            rfl
           refine pure_ (i := 12) (N := some 25) (v := ?_) (a' := ?_) bq88 rfl rfl (qr HT_.out (by kernel_rfl)) (fun _ _ _ h => h) (Or.inl ⟨by rfl, ?_⟩) ?_ ?_
           rotate_left
           ·intro w'
            go_simp
            with_reducible rfl
           rotate_left
           ·simp only [Act.put, sq1, sq2, sq3, i64_w, i32_w]
            rfl
           refine pure_ (i := 13) (N := some 26) (v := ?_) (a' := ?_) bq92 rfl rfl (qr HT_.out (by kernel_rfl)) (fun _ _ _ h => h) (Or.inl ⟨by rfl, ?_⟩) ?_ ?_
           rotate_left
           ·intro w'
            go_simp
            with_reducible rfl
           rotate_left
           ·simp only [Act.put, sq1, sq2, sq3, i64_w, i32_w]
            rfl
           refine pure_ (i := 14) (N := some 27) (v := ?_) (a' := ?_) bq95 rfl rfl (qr HT_.out (by kernel_rfl)) (fun _ _ _ h => h) (Or.inl ⟨by rfl, ?_⟩) ?_ ?_
           rotate_left
           ·intro w'
            go_simp
            with_reducible rfl
           rotate_left
           ·simp only [Act.put, sq1, sq2, sq3, i64_w, i32_w]
            rfl
           refine pure_ (i := 16) (N := some 29) (v := ?_) (a' := ?_) bq98 rfl rfl (qr HT_.out (by kernel_rfl)) (fun _ _ _ h => h) (Or.inl ⟨by rfl, ?_⟩) ?_ ?_
           rotate_left
           ·intro w'
            go_simp
            with_reducible rfl
           rotate_left
           ·simp only [Act.put, sq1, sq2, sq3, i64_w, i32_w]
            rfl
           refine pure_ (i := 17) (N := some 30) (v := ?_) (a' := ?_) bq99 rfl rfl (qr HT_.out (by kernel_rfl)) (fun _ _ _ h => h) (Or.inl ⟨by rfl, ?_⟩) ?_ ?_
           rotate_left
           ·intro w'
            go_simp
            with_reducible rfl
           rotate_left
           ·simp only [Act.put, sq1, sq2, sq3, i64_w, i32_w]
            rfl
           refine pure_ (i := 18) (N := some 31) (v := ?_) (a' := ?_) bq100 rfl rfl (qr HT_.out (by kernel_rfl)) (fun _ _ _ h => h) (Or.inl ⟨by rfl, ?_⟩) ?_ ?_
           rotate_left
           ·intro w'
            go_simp
            with_reducible rfl
           rotate_left
           ·simp only [Act.put, sq1, sq2, sq3, i64_w, i32_w]
            rfl
           refine pure_ (i := 19) (N := some 32) (v := ?_) (a' := ?_) bq101 rfl rfl (qr HT_.out (by kernel_rfl)) (fun _ _ _ h => h) (Or.inl ⟨by rfl, ?_⟩) ?_ ?_
           rotate_left
           ·intro w'
            go_simp
            with_reducible rfl
           rotate_left
           ·simp only [Act.put, sq1, sq2, sq3, i64_w, i32_w]
            rfl
           refine take_ (i := 15) (N := some 28) (v := ?_) (a' := ?_) bq111 rfl rfl (take_ofW HT_.out HW_.out (by kernel_rfl)) (fun _ _ _ h => h) (Or.inl ⟨by rfl, ?_⟩) hHeld ?_ ?_
           rotate_left
           ·rintro w' ⟨s0, s1, s2, s3, s4, s5, s6, s7, s8, s9, s10, s11⟩
            go_simp
            with_reducible rfl
           rotate_left
           ·simp only [Act.put, sq1, sq2, sq3, i64_w, i32_w]
            rfl
           refine take_ (i := 20) (N := some 33) (v := ?_) (a' := ?_) bq112 rfl rfl (take_ofW HT_.out HW_.out (by kernel_rfl)) (fun _ _ _ h => h) (Or.inl ⟨by rfl, ?_⟩) hHeld ?_ ?_
           rotate_left
           ·rintro w' ⟨s0, s1, s2, s3, s4, s5, s6, s7, s8, s9, s10, s11⟩
            go_simp
            with_reducible rfl
           rotate_left
           ·simp only [Act.put, sq1, sq2, sq3, i64_w, i32_w]
            rfl
           refine one_ (i := 21) (N := some 34) bq113 rfl rfl (one_of HT_.out (by kernel_rfl)) (by decide) (fun K hK => ?_)
           refine goes_ Try.func144 (by kernel_rfl) rfl #[.agg #[.string ((qk l0 (ji8)).f0.f0), .int .i64 ((qk l0 (ji8)).f0.f1), .int .i64 ((qk l0 (ji8)).f0.f2)], .agg #[.string ((qk l0 x3_1).f0.f0), .int .i64 ((qk l0 x3_1).f0.f1), .int .i64 ((qk l0 x3_1).f0.f2)]] (by rfl) rfl rfl (by (try simp only [List.map_toArray, List.map_cons, List.map_nil]); first | done | (simp only [hji8]; rfl) | rfl | (simp only [List.length_drop, List.length_take]; rfl) | (rw [IntWalk.u64_in _ (by omega)] <;> rfl)) ?_
           with_reducible refine (spec_KeyCmp.calls k1 ((qk l0 (ji8)).f0.f0) ((qk l0 (ji8)).f0.f1) ((qk l0 (ji8)).f0.f2) ((qk l0 x3_1).f0.f0) ((qk l0 x3_1).f0.f1) ((qk l0 x3_1).f0.f2) t105 _ A11.out).mono ?_
           rintro e w15 ⟨rfl, hb⟩
           refine ⟨_, rfl, ?_⟩
           replace HB := Qz.mk (ql yq8 hb)
           (try clear hb)
           refine hK.out _ _ ⟨((HB.out.cell (World.block_lt_of_cell? w _ hw101_0)).trans hw101_0), ((HB.out.cell (World.block_lt_of_cell? w _ hw101_1)).trans hw101_1), ((HB.out.cell (World.block_lt_of_cell? w _ hw101_2)).trans hw101_2), ((HB.out.cell (World.block_lt_of_cell? w _ hw101_3)).trans hw101_3), ((HB.out.cell (World.block_lt_of_cell? w _ hw103_0)).trans hw103_0), ((HB.out.cell (World.block_lt_of_cell? w _ hw103_1)).trans hw103_1), ((HB.out.cell (World.block_lt_of_cell? w _ hw103_2)).trans hw103_2), ((HB.out.cell (World.block_lt_of_cell? w _ hw103_3)).trans hw103_3), ((HB.out.cell (World.block_lt_of_cell? w _ hw104_0)).trans hw104_0), ((HB.out.cell (World.block_lt_of_cell? w _ hw104_1)).trans hw104_1), ((HB.out.cell (World.block_lt_of_cell? w _ hw104_2)).trans hw104_2), ((HB.out.cell (World.block_lt_of_cell? w _ hw104_3)).trans hw104_3)⟩ (fun hHeld => ?_)
           clear hK K
           refine norm_ (a' := ?_) ?_ ?_
           rotate_left
           ·show Act.put _ (some 34) _ = _
            simp only [Act.put, sq1, sq2, sq3, i64_w, i32_w]
            rfl
           refine pure_ (i := 22) (N := some 35) (v := ?_) (a' := ?_) bq114 rfl rfl (qr HT_.out (by kernel_rfl)) (fun _ _ _ h => h) (Or.inl ⟨by rfl, ?_⟩) ?_ ?_
           rotate_left
           ·intro w'
            go_simp
            with_reducible rfl
           rotate_left
           ·simp only [Act.put, sq1, sq2, sq3, i64_w, i32_w]
            rfl
           refine pure_ (i := 23) (N := some 36) (v := ?_) (a' := ?_) bq115 rfl rfl (qr HT_.out (by kernel_rfl)) (fun _ _ _ h => h) (Or.inl ⟨by rfl, ?_⟩) ?_ ?_
           rotate_left
           ·intro w'
            go_simp
            with_reducible rfl
           rotate_left
           ·simp only [Act.put, sq1, sq2, sq3, i64_w, i32_w]
            rfl
           refine pure_ (i := 24) (N := some 37) (v := ?_) (a' := ?_) bq116 rfl rfl (qr HT_.out (by kernel_rfl)) (fun _ _ _ h => h) (Or.inl ⟨by rfl, ?_⟩) ?_ ?_
           rotate_left
           ·intro w'
            go_simp
            with_reducible rfl
           rotate_left
           ·simp only [Act.put, sq1, sq2, sq3, i64_w, i32_w]
            rfl
           refine done_ (done_of HT_.out (by kernel_rfl)) ?_
           try go_wp2
           go_ret
           exact ⟨by first | rfl | (simp [qn, qm] <;> rfl) | (simp only [← hji8]; first | rfl | (simp [qn, qm] <;> rfl)) | (simp [*, qn, qm] <;> rfl), by repeat (first | (with_reducible first | exact HB.out | apply qc | apply qa | apply qb) | exact HB.out)⟩
          ·rw [if_neg c12] at H
           have c12b0 : decide (0 ≤ t105) = false := decide_eq_false c12
           clear c12
           have H' := Qz.mk H
           clear H
           try go_wp2
           replace HB := Qz.mk (qb HB.out)
           have p101 : 0 ≤ (x3_1 : Int) := of_decide_eq_true yq7
           have q101 : x3_1 < (l0.length : Int) := of_decide_eq_true yq7
           obtain ⟨ad101, e101, hx101_0, hx101_1, hx101_2, hx101_3⟩ := at_T64 HR0.out x3_1 p101 q101
           have hw101_3 := hx101_3
           have hw101_2 := hx101_2
           have hw101_1 := hx101_1
           have hw101_0 := hx101_0
           cases e101
           replace hx101_0 := (HB.out.cell (World.block_lt_of_cell? w _ hx101_0)).trans hx101_0
           replace hx101_1 := (HB.out.cell (World.block_lt_of_cell? w _ hx101_1)).trans hx101_1
           replace hx101_2 := (HB.out.cell (World.block_lt_of_cell? w _ hx101_2)).trans hx101_2
           replace hx101_3 := (HB.out.cell (World.block_lt_of_cell? w _ hx101_3)).trans hx101_3
           replace p101 := eq_true p101
           replace q101 := eq_true q101
           have p103 : 0 ≤ ((ji8) : Int) := of_decide_eq_true yq7
           have q103 : (ji8) < (l0.length : Int) := of_decide_eq_true yq7
           obtain ⟨ad103, e103, hx103_0, hx103_1, hx103_2, hx103_3⟩ := at_T64 HR0.out (ji8) p103 q103
           have hw103_3 := hx103_3
           have hw103_2 := hx103_2
           have hw103_1 := hx103_1
           have hw103_0 := hx103_0
           obtain rfl : ad101 = ad103 := (by injection e103)
           replace hx103_0 := (HB.out.cell (World.block_lt_of_cell? w _ hx103_0)).trans hx103_0
           replace hx103_1 := (HB.out.cell (World.block_lt_of_cell? w _ hx103_1)).trans hx103_1
           replace hx103_2 := (HB.out.cell (World.block_lt_of_cell? w _ hx103_2)).trans hx103_2
           replace hx103_3 := (HB.out.cell (World.block_lt_of_cell? w _ hx103_3)).trans hx103_3
           replace p103 := eq_true p103
           replace q103 := eq_true q103
           have p104 : 0 ≤ (x3_1 : Int) := of_decide_eq_true yq7
           have q104 : x3_1 < (l0.length : Int) := of_decide_eq_true yq7
           obtain ⟨ad104, e104, hx104_0, hx104_1, hx104_2, hx104_3⟩ := at_T64 HR0.out x3_1 p104 q104
           have hw104_3 := hx104_3
           have hw104_2 := hx104_2
           have hw104_1 := hx104_1
           have hw104_0 := hx104_0
           obtain rfl : ad101 = ad104 := (by injection e104)
           replace hx104_0 := (HB.out.cell (World.block_lt_of_cell? w _ hx104_0)).trans hx104_0
           replace hx104_1 := (HB.out.cell (World.block_lt_of_cell? w _ hx104_1)).trans hx104_1
           replace hx104_2 := (HB.out.cell (World.block_lt_of_cell? w _ hx104_2)).trans hx104_2
           replace hx104_3 := (HB.out.cell (World.block_lt_of_cell? w _ hx104_3)).trans hx104_3
           replace p104 := eq_true p104
           replace q104 := eq_true q104
           refine start_ (n := 25) (S := fun w' => w'.cell? (ad101.add ((x3_1).toNat * 4)) = some (.string ((qk l0 x3_1).f0.f0)) ∧ w'.cell? ⟨(ad101.add ((x3_1).toNat * 4)).block, (ad101.add ((x3_1).toNat * 4)).off + 1, none⟩ = some (.int .i64 ((qk l0 x3_1).f0.f1)) ∧ w'.cell? ⟨(ad101.add ((x3_1).toNat * 4)).block, (ad101.add ((x3_1).toNat * 4)).off + 2, none⟩ = some (.int .i64 ((qk l0 x3_1).f0.f2)) ∧ w'.cell? ⟨(ad101.add ((x3_1).toNat * 4)).block, (ad101.add ((x3_1).toNat * 4)).off + 3, none⟩ = some (.string ((qk l0 x3_1).f1)) ∧ w'.cell? (ad101.add (((ji8)).toNat * 4)) = some (.string ((qk l0 (ji8)).f0.f0)) ∧ w'.cell? ⟨(ad101.add (((ji8)).toNat * 4)).block, (ad101.add (((ji8)).toNat * 4)).off + 1, none⟩ = some (.int .i64 ((qk l0 (ji8)).f0.f1)) ∧ w'.cell? ⟨(ad101.add (((ji8)).toNat * 4)).block, (ad101.add (((ji8)).toNat * 4)).off + 2, none⟩ = some (.int .i64 ((qk l0 (ji8)).f0.f2)) ∧ w'.cell? ⟨(ad101.add (((ji8)).toNat * 4)).block, (ad101.add (((ji8)).toNat * 4)).off + 3, none⟩ = some (.string ((qk l0 (ji8)).f1)) ∧ w'.cell? (ad101.add ((x3_1).toNat * 4)) = some (.string ((qk l0 x3_1).f0.f0)) ∧ w'.cell? ⟨(ad101.add ((x3_1).toNat * 4)).block, (ad101.add ((x3_1).toNat * 4)).off + 1, none⟩ = some (.int .i64 ((qk l0 x3_1).f0.f1)) ∧ w'.cell? ⟨(ad101.add ((x3_1).toNat * 4)).block, (ad101.add ((x3_1).toNat * 4)).off + 2, none⟩ = some (.int .i64 ((qk l0 x3_1).f0.f2)) ∧ w'.cell? ⟨(ad101.add ((x3_1).toNat * 4)).block, (ad101.add ((x3_1).toNat * 4)).off + 3, none⟩ = some (.string ((qk l0 x3_1).f1))) (ds := []) bq0 (by kernel_rfl) rfl rfl ⟨((HB.out.cell (World.block_lt_of_cell? w _ hw101_0)).trans hw101_0), ((HB.out.cell (World.block_lt_of_cell? w _ hw101_1)).trans hw101_1), ((HB.out.cell (World.block_lt_of_cell? w _ hw101_2)).trans hw101_2), ((HB.out.cell (World.block_lt_of_cell? w _ hw101_3)).trans hw101_3), ((HB.out.cell (World.block_lt_of_cell? w _ hw103_0)).trans hw103_0), ((HB.out.cell (World.block_lt_of_cell? w _ hw103_1)).trans hw103_1), ((HB.out.cell (World.block_lt_of_cell? w _ hw103_2)).trans hw103_2), ((HB.out.cell (World.block_lt_of_cell? w _ hw103_3)).trans hw103_3), ((HB.out.cell (World.block_lt_of_cell? w _ hw104_0)).trans hw104_0), ((HB.out.cell (World.block_lt_of_cell? w _ hw104_1)).trans hw104_1), ((HB.out.cell (World.block_lt_of_cell? w _ hw104_2)).trans hw104_2), ((HB.out.cell (World.block_lt_of_cell? w _ hw104_3)).trans hw104_3)⟩ (fun hHeld => ?_); refine with_tabW spec_EntriesOk.tab6 spec_EntriesOk.bits6 (fun HT_ HW_ => ?_)
           generalize wr.drew = w16 at HB hx101_0 hx101_1 hx101_2 hx101_3 hx103_0 hx103_1 hx103_2 hx103_3 hx104_0 hx104_1 hx104_2 hx104_3 hHeld ⊢
           refine pure_ (i := 0) (N := some 13) (v := ?_) (a' := ?_) bq6 rfl rfl (qr HT_.out (by kernel_rfl)) (fun _ _ _ h => h) (Or.inl ⟨by rfl, ?_⟩) ?_ ?_
           rotate_left
           ·intro w'
            go_simp
            with_reducible rfl
           rotate_left
           ·simp only [Act.put, sq1, sq2, sq3, i64_w, i32_w]
            rfl
           refine pure_ (i := 1) (N := some 14) (v := ?_) (a' := ?_) bq17 rfl rfl (qr HT_.out (by kernel_rfl)) (fun _ _ _ h => h) (Or.inl ⟨by rfl, ?_⟩) ?_ ?_
           rotate_left
           ·intro w'
            go_simp
            with_reducible rfl
           rotate_left
           ·simp only [Act.put, sq1, sq2, sq3, i64_w, i32_w]
            rfl
           refine pure_ (i := 2) (N := some 15) (v := ?_) (a' := ?_) bq27 rfl rfl (qr HT_.out (by kernel_rfl)) (fun _ _ _ h => h) (Or.inl ⟨by rfl, ?_⟩) ?_ ?_
           rotate_left
           ·intro w'
            go_simp
            with_reducible rfl
           rotate_left
           ·simp only [Act.put, sq1, sq2, sq3, i64_w, i32_w]
            rfl
           refine take_ (i := 3) (N := some 16) (v := ?_) (a' := ?_) bq40 rfl rfl (take_ofW HT_.out HW_.out (by kernel_rfl)) (fun _ _ _ h => h) (Or.inl ⟨by rfl, ?_⟩) hHeld ?_ ?_
           rotate_left
           ·rintro w' ⟨s0, s1, s2, s3, s4, s5, s6, s7, s8, s9, s10, s11⟩
            go_simp
            with_reducible rfl
           rotate_left
           ·simp only [Act.put, sq1, sq2, sq3, i64_w, i32_w]
            rfl
           refine one_ (i := 4) (N := some 17) bq46 rfl rfl (one_of HT_.out (by kernel_rfl)) (by decide) (fun K hK => ?_)
           refine goes_ Try.func143 (by kernel_rfl) rfl #[.agg #[.string ((qk l0 x3_1).f0.f0), .int .i64 ((qk l0 x3_1).f0.f1), .int .i64 ((qk l0 x3_1).f0.f2), .string ((qk l0 x3_1).f1)]] (by rfl) rfl rfl yq9 ?_
           with_reducible refine (spec_EntryOk.calls ((qk l0 x3_1).f0.f0) ((qk l0 x3_1).f0.f1) ((qk l0 x3_1).f0.f2) ((qk l0 x3_1).f1) true _ A5.out).mono ?_
           rintro e w17 ⟨rfl, hb⟩
           refine ⟨_, rfl, ?_⟩
           replace HB := Qz.mk (ql yq8 hb)
           (try clear hb)
           refine hK.out _ _ ⟨((HB.out.cell (World.block_lt_of_cell? w _ hw101_0)).trans hw101_0), ((HB.out.cell (World.block_lt_of_cell? w _ hw101_1)).trans hw101_1), ((HB.out.cell (World.block_lt_of_cell? w _ hw101_2)).trans hw101_2), ((HB.out.cell (World.block_lt_of_cell? w _ hw101_3)).trans hw101_3), ((HB.out.cell (World.block_lt_of_cell? w _ hw103_0)).trans hw103_0), ((HB.out.cell (World.block_lt_of_cell? w _ hw103_1)).trans hw103_1), ((HB.out.cell (World.block_lt_of_cell? w _ hw103_2)).trans hw103_2), ((HB.out.cell (World.block_lt_of_cell? w _ hw103_3)).trans hw103_3), ((HB.out.cell (World.block_lt_of_cell? w _ hw104_0)).trans hw104_0), ((HB.out.cell (World.block_lt_of_cell? w _ hw104_1)).trans hw104_1), ((HB.out.cell (World.block_lt_of_cell? w _ hw104_2)).trans hw104_2), ((HB.out.cell (World.block_lt_of_cell? w _ hw104_3)).trans hw104_3)⟩ (fun hHeld => ?_)
           clear hK K
           refine norm_ (a' := ?_) ?_ ?_
           rotate_left
           ·show Act.put _ (some 17) _ = _
            simp only [Act.put, sq1, sq2, sq3, i64_w, i32_w]
            rfl
           refine pure_ (i := 5) (N := some 18) (v := ?_) (a' := ?_) bq51 rfl rfl (qr HT_.out (by kernel_rfl)) (fun _ _ _ h => h) (Or.inl ⟨by rfl, ?_⟩) ?_ ?_
           rotate_left
           ·intro w'
            go_simp
            with_reducible rfl
           rotate_left
           ·simp only [Act.put, sq1, sq2, sq3, i64_w, i32_w]
            rfl
           refine pure_ (i := 6) (N := some 19) (v := ?_) (a' := ?_) bq56 rfl rfl (qr HT_.out (by kernel_rfl)) (fun _ _ _ h => h) (Or.inl ⟨by rfl, ?_⟩) ?_ ?_
           rotate_left
           ·intro w'
            go_simp
            with_reducible rfl
           rotate_left
           ·simp only [Act.put, sq1, sq2, sq3, i64_w, i32_w]
            rfl
           refine pure_ (i := 7) (N := some 20) (v := ?_) (a' := ?_) bq61 rfl rfl (qr HT_.out (by kernel_rfl)) (fun _ _ _ h => h) (Or.inl ⟨by rfl, ?_⟩) ?_ ?_
           rotate_left
           ·intro w'
            go_simp
            with_reducible rfl
           rotate_left
           ·simp only [Act.put, sq1, sq2, sq3, i64_w, i32_w]
            rfl
           refine pure_ (i := 8) (N := some 21) (v := ?_) (a' := ?_) bq66 rfl rfl (qr HT_.out (by kernel_rfl)) (fun _ _ _ h => h) (Or.inl ⟨by rfl, ?_⟩) ?_ ?_
           rotate_left
           ·intro w'
            go_simp
            with_reducible rfl
           rotate_left
           ·simp only [Act.put, sq1, sq2, sq3, i64_w, i32_w]
            rfl
           refine pure_ (i := 9) (N := some 22) (v := ?_) (a' := ?_) bq74 rfl rfl (qr HT_.out (by kernel_rfl)) (fun _ _ _ h => h) (Or.inl ⟨by rfl, ?_⟩) ?_ ?_
           rotate_left
           ·intro w'
            go_simp
            with_reducible rfl
           rotate_left
           ·simp only [Act.put, sq1, sq2, sq3, i64_w, i32_w]
            rfl
           refine pure_ (i := 10) (N := some 23) (v := ?_) (a' := ?_) bq78 rfl rfl (qr HT_.out (by kernel_rfl)) (fun _ _ _ h => h) (Or.inl ⟨by rfl, ?_⟩) ?_ ?_
           rotate_left
           ·intro w'
            go_simp
            with_reducible rfl
           rotate_left
           ·simp only [Act.put, sq1, sq2, sq3, i64_w, i32_w]
            rfl
           refine pure_ (i := 11) (N := some 24) (v := ?_) (a' := ?_) bq83 rfl rfl (qr HT_.out (by kernel_rfl)) (fun _ _ _ h => h) (Or.inl ⟨by rfl, ?_⟩) ?_ ?_
           rotate_left
           ·intro w'
            go_simp
            with_reducible rfl
           rotate_left
           ·simp only [Act.put, sq1, sq2, sq3, i64_w, i32_w]
            rfl
           refine pure_ (i := 12) (N := some 25) (v := ?_) (a' := ?_) bq88 rfl rfl (qr HT_.out (by kernel_rfl)) (fun _ _ _ h => h) (Or.inl ⟨by rfl, ?_⟩) ?_ ?_
           rotate_left
           ·intro w'
            go_simp
            with_reducible rfl
           rotate_left
           ·simp only [Act.put, sq1, sq2, sq3, i64_w, i32_w]
            rfl
           refine pure_ (i := 13) (N := some 26) (v := ?_) (a' := ?_) bq92 rfl rfl (qr HT_.out (by kernel_rfl)) (fun _ _ _ h => h) (Or.inl ⟨by rfl, ?_⟩) ?_ ?_
           rotate_left
           ·intro w'
            go_simp
            with_reducible rfl
           rotate_left
           ·simp only [Act.put, sq1, sq2, sq3, i64_w, i32_w]
            rfl
           refine pure_ (i := 14) (N := some 27) (v := ?_) (a' := ?_) bq95 rfl rfl (qr HT_.out (by kernel_rfl)) (fun _ _ _ h => h) (Or.inl ⟨by rfl, ?_⟩) ?_ ?_
           rotate_left
           ·intro w'
            go_simp
            with_reducible rfl
           rotate_left
           ·simp only [Act.put, sq1, sq2, sq3, i64_w, i32_w]
            rfl
           refine pure_ (i := 16) (N := some 29) (v := ?_) (a' := ?_) bq98 rfl rfl (qr HT_.out (by kernel_rfl)) (fun _ _ _ h => h) (Or.inl ⟨by rfl, ?_⟩) ?_ ?_
           rotate_left
           ·intro w'
            go_simp
            with_reducible rfl
           rotate_left
           ·simp only [Act.put, sq1, sq2, sq3, i64_w, i32_w]
            rfl
           refine pure_ (i := 17) (N := some 30) (v := ?_) (a' := ?_) bq99 rfl rfl (qr HT_.out (by kernel_rfl)) (fun _ _ _ h => h) (Or.inl ⟨by rfl, ?_⟩) ?_ ?_
           rotate_left
           ·intro w'
            go_simp
            with_reducible rfl
           rotate_left
           ·simp only [Act.put, sq1, sq2, sq3, i64_w, i32_w]
            rfl
           refine pure_ (i := 18) (N := some 31) (v := ?_) (a' := ?_) bq100 rfl rfl (qr HT_.out (by kernel_rfl)) (fun _ _ _ h => h) (Or.inl ⟨by rfl, ?_⟩) ?_ ?_
           rotate_left
           ·intro w'
            go_simp
            with_reducible rfl
           rotate_left
           ·simp only [Act.put, sq1, sq2, sq3, i64_w, i32_w]
            rfl
           refine pure_ (i := 19) (N := some 32) (v := ?_) (a' := ?_) bq101 rfl rfl (qr HT_.out (by kernel_rfl)) (fun _ _ _ h => h) (Or.inl ⟨by rfl, ?_⟩) ?_ ?_
           rotate_left
           ·intro w'
            go_simp
            with_reducible rfl
           rotate_left
           ·simp only [Act.put, sq1, sq2, sq3, i64_w, i32_w]
            rfl
           refine take_ (i := 15) (N := some 28) (v := ?_) (a' := ?_) bq111 rfl rfl (take_ofW HT_.out HW_.out (by kernel_rfl)) (fun _ _ _ h => h) (Or.inl ⟨by rfl, ?_⟩) hHeld ?_ ?_
           rotate_left
           ·rintro w' ⟨s0, s1, s2, s3, s4, s5, s6, s7, s8, s9, s10, s11⟩
            go_simp
            with_reducible rfl
           rotate_left
           ·simp only [Act.put, sq1, sq2, sq3, i64_w, i32_w]
            rfl
           refine take_ (i := 20) (N := some 33) (v := ?_) (a' := ?_) bq112 rfl rfl (take_ofW HT_.out HW_.out (by kernel_rfl)) (fun _ _ _ h => h) (Or.inl ⟨by rfl, ?_⟩) hHeld ?_ ?_
           rotate_left
           ·rintro w' ⟨s0, s1, s2, s3, s4, s5, s6, s7, s8, s9, s10, s11⟩
            go_simp
            with_reducible rfl
           rotate_left
           ·simp only [Act.put, sq1, sq2, sq3, i64_w, i32_w]
            rfl
           refine one_ (i := 21) (N := some 34) bq113 rfl rfl (one_of HT_.out (by kernel_rfl)) (by decide) (fun K hK => ?_)
           refine goes_ Try.func144 (by kernel_rfl) rfl #[.agg #[.string ((qk l0 (ji8)).f0.f0), .int .i64 ((qk l0 (ji8)).f0.f1), .int .i64 ((qk l0 (ji8)).f0.f2)], .agg #[.string ((qk l0 x3_1).f0.f0), .int .i64 ((qk l0 x3_1).f0.f1), .int .i64 ((qk l0 x3_1).f0.f2)]] (by rfl) rfl rfl (by (try simp only [List.map_toArray, List.map_cons, List.map_nil]); first | done | (simp only [hji8]; rfl) | rfl | (simp only [List.length_drop, List.length_take]; rfl) | (rw [IntWalk.u64_in _ (by omega)] <;> rfl)) ?_
           with_reducible refine (spec_KeyCmp.calls k1 ((qk l0 (ji8)).f0.f0) ((qk l0 (ji8)).f0.f1) ((qk l0 (ji8)).f0.f2) ((qk l0 x3_1).f0.f0) ((qk l0 x3_1).f0.f1) ((qk l0 x3_1).f0.f2) t105 _ A11.out).mono ?_
           rintro e w18 ⟨rfl, hb⟩
           refine ⟨_, rfl, ?_⟩
           replace HB := Qz.mk (ql yq8 hb)
           (try clear hb)
           refine hK.out _ _ ⟨((HB.out.cell (World.block_lt_of_cell? w _ hw101_0)).trans hw101_0), ((HB.out.cell (World.block_lt_of_cell? w _ hw101_1)).trans hw101_1), ((HB.out.cell (World.block_lt_of_cell? w _ hw101_2)).trans hw101_2), ((HB.out.cell (World.block_lt_of_cell? w _ hw101_3)).trans hw101_3), ((HB.out.cell (World.block_lt_of_cell? w _ hw103_0)).trans hw103_0), ((HB.out.cell (World.block_lt_of_cell? w _ hw103_1)).trans hw103_1), ((HB.out.cell (World.block_lt_of_cell? w _ hw103_2)).trans hw103_2), ((HB.out.cell (World.block_lt_of_cell? w _ hw103_3)).trans hw103_3), ((HB.out.cell (World.block_lt_of_cell? w _ hw104_0)).trans hw104_0), ((HB.out.cell (World.block_lt_of_cell? w _ hw104_1)).trans hw104_1), ((HB.out.cell (World.block_lt_of_cell? w _ hw104_2)).trans hw104_2), ((HB.out.cell (World.block_lt_of_cell? w _ hw104_3)).trans hw104_3)⟩ (fun hHeld => ?_)
           clear hK K
           refine norm_ (a' := ?_) ?_ ?_
           rotate_left
           ·show Act.put _ (some 34) _ = _
            simp only [Act.put, sq1, sq2, sq3, i64_w, i32_w]
            rfl
           refine pure_ (i := 22) (N := some 35) (v := ?_) (a' := ?_) bq114 rfl rfl (qr HT_.out (by kernel_rfl)) (fun _ _ _ h => h) (Or.inl ⟨by rfl, ?_⟩) ?_ ?_
           rotate_left
           ·intro w'
            go_simp
            with_reducible rfl
           rotate_left
           ·simp only [Act.put, sq1, sq2, sq3, i64_w, i32_w]
            rfl
           refine pure_ (i := 23) (N := some 36) (v := ?_) (a' := ?_) bq115 rfl rfl (qr HT_.out (by kernel_rfl)) (fun _ _ _ h => h) (Or.inl ⟨by rfl, ?_⟩) ?_ ?_
           rotate_left
           ·intro w'
            go_simp
            with_reducible rfl
           rotate_left
           ·simp only [Act.put, sq1, sq2, sq3, i64_w, i32_w]
            rfl
           refine pure_ (i := 24) (N := some 37) (v := ?_) (a' := ?_) bq116 rfl rfl (qr HT_.out (by kernel_rfl)) (fun _ _ _ h => h) (Or.inl ⟨by rfl, ?_⟩) ?_ ?_
           rotate_left
           ·intro w'
            go_simp
            with_reducible rfl
           rotate_left
           ·simp only [Act.put, sq1, sq2, sq3, i64_w, i32_w]
            rfl
           refine done_ (done_of HT_.out (by kernel_rfl)) ?_
           try go_wp2
           go_roundg k1
           case measure => have := HK1.out; omega
           case rel => exact ⟨(wrap64 (x3_1 + 1)), (by first | rfl | (simp; done) | (simp [*]; done)), H', ⟨by have := HK1.out; omega⟩, ⟨by repeat (first | (with_reducible first | exact HB.out | apply qc | apply qa | apply qb) | exact HB.out)⟩⟩
         ·rw [if_neg c10] at H
          exact absurd H (by simp)
        ·rw [if_neg c9] at H
         exact absurd H (by simp)
       ·rw [if_neg c7] at H
        have c7b0 : decide (0 < x3_1) = false := decide_eq_false c7
        clear c7
        have H' := Qz.mk H
        clear H
        try go_wp2
        replace HB := Qz.mk (qb HB.out)
        have p101 : 0 ≤ (x3_1 : Int) := of_decide_eq_true yq7
        have q101 : x3_1 < (l0.length : Int) := of_decide_eq_true yq7
        obtain ⟨ad101, e101, hx101_0, hx101_1, hx101_2, hx101_3⟩ := at_T64 HR0.out x3_1 p101 q101
        have hw101_3 := hx101_3
        have hw101_2 := hx101_2
        have hw101_1 := hx101_1
        have hw101_0 := hx101_0
        cases e101
        replace hx101_0 := (HB.out.cell (World.block_lt_of_cell? w _ hx101_0)).trans hx101_0
        replace hx101_1 := (HB.out.cell (World.block_lt_of_cell? w _ hx101_1)).trans hx101_1
        replace hx101_2 := (HB.out.cell (World.block_lt_of_cell? w _ hx101_2)).trans hx101_2
        replace hx101_3 := (HB.out.cell (World.block_lt_of_cell? w _ hx101_3)).trans hx101_3
        replace p101 := eq_true p101
        replace q101 := eq_true q101
        refine start_ (n := 25) (S := fun w' => w'.cell? (ad101.add ((x3_1).toNat * 4)) = some (.string ((qk l0 x3_1).f0.f0)) ∧ w'.cell? ⟨(ad101.add ((x3_1).toNat * 4)).block, (ad101.add ((x3_1).toNat * 4)).off + 1, none⟩ = some (.int .i64 ((qk l0 x3_1).f0.f1)) ∧ w'.cell? ⟨(ad101.add ((x3_1).toNat * 4)).block, (ad101.add ((x3_1).toNat * 4)).off + 2, none⟩ = some (.int .i64 ((qk l0 x3_1).f0.f2)) ∧ w'.cell? ⟨(ad101.add ((x3_1).toNat * 4)).block, (ad101.add ((x3_1).toNat * 4)).off + 3, none⟩ = some (.string ((qk l0 x3_1).f1))) (ds := []) bq0 (by kernel_rfl) rfl rfl ⟨((HB.out.cell (World.block_lt_of_cell? w _ hw101_0)).trans hw101_0), ((HB.out.cell (World.block_lt_of_cell? w _ hw101_1)).trans hw101_1), ((HB.out.cell (World.block_lt_of_cell? w _ hw101_2)).trans hw101_2), ((HB.out.cell (World.block_lt_of_cell? w _ hw101_3)).trans hw101_3)⟩ (fun hHeld => ?_); refine with_tabW spec_EntriesOk.tab6 spec_EntriesOk.bits6 (fun HT_ HW_ => ?_)
        generalize wr.drew = w19 at HB hx101_0 hx101_1 hx101_2 hx101_3 hHeld ⊢
        refine pure_ (i := 0) (N := some 13) (v := ?_) (a' := ?_) bq6 rfl rfl (qr HT_.out (by kernel_rfl)) (fun _ _ _ h => h) (Or.inl ⟨by rfl, ?_⟩) ?_ ?_
        rotate_left
        ·intro w'
         go_simp
         with_reducible rfl
        rotate_left
        ·simp only [Act.put, sq1, sq2, sq3, i64_w, i32_w]
         rfl
        refine pure_ (i := 1) (N := some 14) (v := ?_) (a' := ?_) bq17 rfl rfl (qr HT_.out (by kernel_rfl)) (fun _ _ _ h => h) (Or.inl ⟨by rfl, ?_⟩) ?_ ?_
        rotate_left
        ·intro w'
         go_simp
         with_reducible rfl
        rotate_left
        ·simp only [Act.put, sq1, sq2, sq3, i64_w, i32_w]
         rfl
        refine pure_ (i := 2) (N := some 15) (v := ?_) (a' := ?_) bq27 rfl rfl (qr HT_.out (by kernel_rfl)) (fun _ _ _ h => h) (Or.inl ⟨by rfl, ?_⟩) ?_ ?_
        rotate_left
        ·intro w'
         go_simp
         with_reducible rfl
        rotate_left
        ·simp only [Act.put, sq1, sq2, sq3, i64_w, i32_w]
         rfl
        refine take_ (i := 3) (N := some 16) (v := ?_) (a' := ?_) bq40 rfl rfl (take_ofW HT_.out HW_.out (by kernel_rfl)) (fun _ _ _ h => h) (Or.inl ⟨by rfl, ?_⟩) hHeld ?_ ?_
        rotate_left
        ·rintro w' ⟨s0, s1, s2, s3⟩
         go_simp
         with_reducible rfl
        rotate_left
        ·simp only [Act.put, sq1, sq2, sq3, i64_w, i32_w]
         rfl
        refine one_ (i := 4) (N := some 17) bq46 rfl rfl (one_of HT_.out (by kernel_rfl)) (by decide) (fun K hK => ?_)
        refine goes_ Try.func143 (by kernel_rfl) rfl #[.agg #[.string ((qk l0 x3_1).f0.f0), .int .i64 ((qk l0 x3_1).f0.f1), .int .i64 ((qk l0 x3_1).f0.f2), .string ((qk l0 x3_1).f1)]] (by rfl) rfl rfl yq9 ?_
        with_reducible refine (spec_EntryOk.calls ((qk l0 x3_1).f0.f0) ((qk l0 x3_1).f0.f1) ((qk l0 x3_1).f0.f2) ((qk l0 x3_1).f1) true _ A5.out).mono ?_
        rintro e w20 ⟨rfl, hb⟩
        refine ⟨_, rfl, ?_⟩
        replace HB := Qz.mk (ql yq8 hb)
        (try clear hb)
        refine hK.out _ _ ⟨((HB.out.cell (World.block_lt_of_cell? w _ hw101_0)).trans hw101_0), ((HB.out.cell (World.block_lt_of_cell? w _ hw101_1)).trans hw101_1), ((HB.out.cell (World.block_lt_of_cell? w _ hw101_2)).trans hw101_2), ((HB.out.cell (World.block_lt_of_cell? w _ hw101_3)).trans hw101_3)⟩ (fun hHeld => ?_)
        clear hK K
        refine norm_ (a' := ?_) ?_ ?_
        rotate_left
        ·show Act.put _ (some 17) _ = _
         simp only [Act.put, sq1, sq2, sq3, i64_w, i32_w]
         rfl
        refine pure_ (i := 5) (N := some 18) (v := ?_) (a' := ?_) bq51 rfl rfl (qr HT_.out (by kernel_rfl)) (fun _ _ _ h => h) (Or.inl ⟨by rfl, ?_⟩) ?_ ?_
        rotate_left
        ·intro w'
         go_simp
         with_reducible rfl
        rotate_left
        ·simp only [Act.put, sq1, sq2, sq3, i64_w, i32_w]
         rfl
        refine pure_ (i := 6) (N := some 19) (v := ?_) (a' := ?_) bq56 rfl rfl (qr HT_.out (by kernel_rfl)) (fun _ _ _ h => h) (Or.inl ⟨by rfl, ?_⟩) ?_ ?_
        rotate_left
        ·intro w'
         go_simp
         with_reducible rfl
        rotate_left
        ·simp only [Act.put, sq1, sq2, sq3, i64_w, i32_w]
         rfl
        refine pure_ (i := 7) (N := some 20) (v := ?_) (a' := ?_) bq61 rfl rfl (qr HT_.out (by kernel_rfl)) (fun _ _ _ h => h) (Or.inl ⟨by rfl, ?_⟩) ?_ ?_
        rotate_left
        ·intro w'
         go_simp
         with_reducible rfl
        rotate_left
        ·simp only [Act.put, sq1, sq2, sq3, i64_w, i32_w]
         rfl
        refine pure_ (i := 8) (N := some 21) (v := ?_) (a' := ?_) bq66 rfl rfl (qr HT_.out (by kernel_rfl)) (fun _ _ _ h => h) (Or.inl ⟨by rfl, ?_⟩) ?_ ?_
        rotate_left
        ·intro w'
         go_simp
         with_reducible rfl
        rotate_left
        ·simp only [Act.put, sq1, sq2, sq3, i64_w, i32_w]
         rfl
        refine pure_ (i := 9) (N := some 22) (v := ?_) (a' := ?_) bq74 rfl rfl (qr HT_.out (by kernel_rfl)) (fun _ _ _ h => h) (Or.inl ⟨by rfl, ?_⟩) ?_ ?_
        rotate_left
        ·intro w'
         go_simp
         with_reducible rfl
        rotate_left
        ·simp only [Act.put, sq1, sq2, sq3, i64_w, i32_w]
         rfl
        refine pure_ (i := 10) (N := some 23) (v := undef) (a' := ?_) bq78 rfl rfl (qr HT_.out (by kernel_rfl)) (fun _ _ _ h => h) (Or.inr ⟨by rfl, rfl⟩) ?_ ?_
        rotate_left
        ·simp only [Act.put, sq1, sq2, sq3, i64_w, i32_w]
         rfl
        refine pure_ (i := 11) (N := some 24) (v := undef) (a' := ?_) bq83 rfl rfl (qr HT_.out (by kernel_rfl)) (fun _ _ _ h => h) (Or.inr ⟨by rfl, rfl⟩) ?_ ?_
        rotate_left
        ·simp only [Act.put, sq1, sq2, sq3, i64_w, i32_w]
         rfl
        refine pure_ (i := 12) (N := some 25) (v := undef) (a' := ?_) bq88 rfl rfl (qr HT_.out (by kernel_rfl)) (fun _ _ _ h => h) (Or.inr ⟨by rfl, rfl⟩) ?_ ?_
        rotate_left
        ·simp only [Act.put, sq1, sq2, sq3, i64_w, i32_w]
         rfl
        refine pure_ (i := 13) (N := some 26) (v := undef) (a' := ?_) bq92 rfl rfl (qr HT_.out (by kernel_rfl)) (fun _ _ _ h => h) (Or.inr ⟨by rfl, rfl⟩) ?_ ?_
        rotate_left
        ·simp only [Act.put, sq1, sq2, sq3, i64_w, i32_w]
         rfl
        refine pure_ (i := 14) (N := some 27) (v := undef) (a' := ?_) bq95 rfl rfl (qr HT_.out (by kernel_rfl)) (fun _ _ _ h => h) (Or.inr ⟨by rfl, rfl⟩) ?_ ?_
        rotate_left
        ·simp only [Act.put, sq1, sq2, sq3, i64_w, i32_w]
         rfl
        refine pure_ (i := 15) (N := some 28) (v := undef) (a' := ?_) bq102 rfl rfl (qr HT_.out (by kernel_rfl)) (fun _ _ _ h => h) (Or.inr ⟨by rfl, rfl⟩) ?_ ?_
        rotate_left
        ·simp only [Act.put, sq1, sq2, sq3, i64_w, i32_w]
         rfl
        refine pure_ (i := 16) (N := some 29) (v := undef) (a' := ?_) bq105 rfl rfl (qr HT_.out (by kernel_rfl)) (fun _ _ _ h => h) (Or.inr ⟨by rfl, rfl⟩) ?_ ?_
        rotate_left
        ·simp only [Act.put, sq1, sq2, sq3, i64_w, i32_w]
         rfl
        refine pure_ (i := 17) (N := some 30) (v := undef) (a' := ?_) bq108 rfl rfl (qr HT_.out (by kernel_rfl)) (fun _ _ _ h => h) (Or.inr ⟨by rfl, rfl⟩) ?_ ?_
        rotate_left
        ·simp only [Act.put, sq1, sq2, sq3, i64_w, i32_w]
         rfl
        refine pure_ (i := 18) (N := some 31) (v := undef) (a' := ?_) bq110 rfl rfl (qr HT_.out (by kernel_rfl)) (fun _ _ _ h => h) (Or.inr ⟨by rfl, rfl⟩) ?_ ?_
        rotate_left
        ·simp only [Act.put, sq1, sq2, sq3, i64_w, i32_w]
         rfl
        refine pure_ (i := 19) (N := some 32) (v := undef) (a' := ?_) bq111 rfl rfl (qr HT_.out (by kernel_rfl)) (fun _ _ _ h => h) (Or.inr ⟨by rfl, rfl⟩) ?_ ?_
        rotate_left
        ·simp only [Act.put, sq1, sq2, sq3, i64_w, i32_w]
         rfl
        refine pure_ (i := 20) (N := some 33) (v := undef) (a' := ?_) bq112 rfl rfl (qr HT_.out (by kernel_rfl)) (fun _ _ _ h => h) (Or.inr ⟨by rfl, rfl⟩) ?_ ?_
        rotate_left
        ·simp only [Act.put, sq1, sq2, sq3, i64_w, i32_w]
         rfl
        refine pure_ (i := 21) (N := some 34) (v := undef) (a' := ?_) bq113 rfl rfl (qr HT_.out (by kernel_rfl)) (fun _ _ _ h => h) (Or.inr ⟨by rfl, rfl⟩) ?_ ?_
        rotate_left
        ·simp only [Act.put, sq1, sq2, sq3, i64_w, i32_w]
         rfl
        refine pure_ (i := 22) (N := some 35) (v := undef) (a' := ?_) bq114 rfl rfl (qr HT_.out (by kernel_rfl)) (fun _ _ _ h => h) (Or.inr ⟨by rfl, rfl⟩) ?_ ?_
        rotate_left
        ·simp only [Act.put, sq1, sq2, sq3, i64_w, i32_w]
         rfl
        refine pure_ (i := 23) (N := some 36) (v := ?_) (a' := ?_) bq115 rfl rfl (qr HT_.out (by kernel_rfl)) (fun _ _ _ h => h) (Or.inl ⟨by rfl, ?_⟩) ?_ ?_
        rotate_left
        ·intro w'
         go_simp
         with_reducible rfl
        rotate_left
        ·simp only [Act.put, sq1, sq2, sq3, i64_w, i32_w]
         rfl
        refine pure_ (i := 24) (N := some 37) (v := ?_) (a' := ?_) bq116 rfl rfl (qr HT_.out (by kernel_rfl)) (fun _ _ _ h => h) (Or.inl ⟨by rfl, ?_⟩) ?_ ?_
        rotate_left
        ·intro w'
         go_simp
         with_reducible rfl
        rotate_left
        ·simp only [Act.put, sq1, sq2, sq3, i64_w, i32_w]
         rfl
        refine done_ (done_of HT_.out (by kernel_rfl)) ?_
        try go_wp2
        go_roundg k1
        case measure => have := HK1.out; omega
        case rel => exact ⟨(wrap64 (x3_1 + 1)), (by first | rfl | (simp; done) | (simp [*]; done)), H', ⟨by have := HK1.out; omega⟩, ⟨by repeat (first | (with_reducible first | exact HB.out | apply qc | apply qa | apply qb) | exact HB.out)⟩⟩
      ·replace c6 := Bool.eq_false_iff.mpr c6
       subst c6
       have H1 : (some false) = some r := by rw [if_neg (show ¬ (false = true) by decide)] at H; exact H
       clear H
       have H := H1
       clear H1
       obtain rfl := Option.some.inj H
       try go_wp2
       replace HB := Qz.mk (qb HB.out)
       have p101 : 0 ≤ (x3_1 : Int) := of_decide_eq_true yq7
       have q101 : x3_1 < (l0.length : Int) := of_decide_eq_true yq7
       obtain ⟨ad101, e101, hx101_0, hx101_1, hx101_2, hx101_3⟩ := at_T64 HR0.out x3_1 p101 q101
       have hw101_3 := hx101_3
       have hw101_2 := hx101_2
       have hw101_1 := hx101_1
       have hw101_0 := hx101_0
       cases e101
       replace hx101_0 := (HB.out.cell (World.block_lt_of_cell? w _ hx101_0)).trans hx101_0
       replace hx101_1 := (HB.out.cell (World.block_lt_of_cell? w _ hx101_1)).trans hx101_1
       replace hx101_2 := (HB.out.cell (World.block_lt_of_cell? w _ hx101_2)).trans hx101_2
       replace hx101_3 := (HB.out.cell (World.block_lt_of_cell? w _ hx101_3)).trans hx101_3
       replace p101 := eq_true p101
       replace q101 := eq_true q101
       refine start_ (n := 25) (S := fun w' => w'.cell? (ad101.add ((x3_1).toNat * 4)) = some (.string ((qk l0 x3_1).f0.f0)) ∧ w'.cell? ⟨(ad101.add ((x3_1).toNat * 4)).block, (ad101.add ((x3_1).toNat * 4)).off + 1, none⟩ = some (.int .i64 ((qk l0 x3_1).f0.f1)) ∧ w'.cell? ⟨(ad101.add ((x3_1).toNat * 4)).block, (ad101.add ((x3_1).toNat * 4)).off + 2, none⟩ = some (.int .i64 ((qk l0 x3_1).f0.f2)) ∧ w'.cell? ⟨(ad101.add ((x3_1).toNat * 4)).block, (ad101.add ((x3_1).toNat * 4)).off + 3, none⟩ = some (.string ((qk l0 x3_1).f1))) (ds := []) bq0 (by kernel_rfl) rfl rfl ⟨((HB.out.cell (World.block_lt_of_cell? w _ hw101_0)).trans hw101_0), ((HB.out.cell (World.block_lt_of_cell? w _ hw101_1)).trans hw101_1), ((HB.out.cell (World.block_lt_of_cell? w _ hw101_2)).trans hw101_2), ((HB.out.cell (World.block_lt_of_cell? w _ hw101_3)).trans hw101_3)⟩ (fun hHeld => ?_); refine with_tabW spec_EntriesOk.tab6 spec_EntriesOk.bits6 (fun HT_ HW_ => ?_)
       generalize wr.drew = w21 at HB hx101_0 hx101_1 hx101_2 hx101_3 hHeld ⊢
       refine pure_ (i := 0) (N := some 13) (v := ?_) (a' := ?_) bq6 rfl rfl (qr HT_.out (by kernel_rfl)) (fun _ _ _ h => h) (Or.inl ⟨by rfl, ?_⟩) ?_ ?_
       rotate_left
       ·intro w'
        go_simp
        with_reducible rfl
       rotate_left
       ·simp only [Act.put, sq1, sq2, sq3, i64_w, i32_w]
        rfl
       refine pure_ (i := 1) (N := some 14) (v := ?_) (a' := ?_) bq17 rfl rfl (qr HT_.out (by kernel_rfl)) (fun _ _ _ h => h) (Or.inl ⟨by rfl, ?_⟩) ?_ ?_
       rotate_left
       ·intro w'
        go_simp
        with_reducible rfl
       rotate_left
       ·simp only [Act.put, sq1, sq2, sq3, i64_w, i32_w]
        rfl
       refine pure_ (i := 2) (N := some 15) (v := ?_) (a' := ?_) bq27 rfl rfl (qr HT_.out (by kernel_rfl)) (fun _ _ _ h => h) (Or.inl ⟨by rfl, ?_⟩) ?_ ?_
       rotate_left
       ·intro w'
        go_simp
        with_reducible rfl
       rotate_left
       ·simp only [Act.put, sq1, sq2, sq3, i64_w, i32_w]
        rfl
       refine take_ (i := 3) (N := some 16) (v := ?_) (a' := ?_) bq40 rfl rfl (take_ofW HT_.out HW_.out (by kernel_rfl)) (fun _ _ _ h => h) (Or.inl ⟨by rfl, ?_⟩) hHeld ?_ ?_
       rotate_left
       ·rintro w' ⟨s0, s1, s2, s3⟩
        go_simp
        with_reducible rfl
       rotate_left
       ·simp only [Act.put, sq1, sq2, sq3, i64_w, i32_w]
        rfl
       refine one_ (i := 4) (N := some 17) bq46 rfl rfl (one_of HT_.out (by kernel_rfl)) (by decide) (fun K hK => ?_)
       refine goes_ Try.func143 (by kernel_rfl) rfl #[.agg #[.string ((qk l0 x3_1).f0.f0), .int .i64 ((qk l0 x3_1).f0.f1), .int .i64 ((qk l0 x3_1).f0.f2), .string ((qk l0 x3_1).f1)]] (by rfl) rfl rfl yq9 ?_
       with_reducible refine (spec_EntryOk.calls ((qk l0 x3_1).f0.f0) ((qk l0 x3_1).f0.f1) ((qk l0 x3_1).f0.f2) ((qk l0 x3_1).f1) false _ A5.out).mono ?_
       rintro e w22 ⟨rfl, hb⟩
       refine ⟨_, rfl, ?_⟩
       replace HB := Qz.mk (ql yq8 hb)
       (try clear hb)
       refine hK.out _ _ ⟨((HB.out.cell (World.block_lt_of_cell? w _ hw101_0)).trans hw101_0), ((HB.out.cell (World.block_lt_of_cell? w _ hw101_1)).trans hw101_1), ((HB.out.cell (World.block_lt_of_cell? w _ hw101_2)).trans hw101_2), ((HB.out.cell (World.block_lt_of_cell? w _ hw101_3)).trans hw101_3)⟩ (fun hHeld => ?_)
       clear hK K
       refine norm_ (a' := ?_) ?_ ?_
       rotate_left
       ·show Act.put _ (some 17) _ = _
        simp only [Act.put, sq1, sq2, sq3, i64_w, i32_w]
        rfl
       refine pure_ (i := 5) (N := some 18) (v := ?_) (a' := ?_) bq51 rfl rfl (qr HT_.out (by kernel_rfl)) (fun _ _ _ h => h) (Or.inl ⟨by rfl, ?_⟩) ?_ ?_
       rotate_left
       ·intro w'
        go_simp
        with_reducible rfl
       rotate_left
       ·simp only [Act.put, sq1, sq2, sq3, i64_w, i32_w]
        rfl
       refine pure_ (i := 6) (N := some 19) (v := ?_) (a' := ?_) bq56 rfl rfl (qr HT_.out (by kernel_rfl)) (fun _ _ _ h => h) (Or.inl ⟨by rfl, ?_⟩) ?_ ?_
       rotate_left
       ·intro w'
        go_simp
        with_reducible rfl
       rotate_left
       ·simp only [Act.put, sq1, sq2, sq3, i64_w, i32_w]
        rfl
       refine pure_ (i := 7) (N := some 20) (v := undef) (a' := ?_) bq61 rfl rfl (qr HT_.out (by kernel_rfl)) (fun _ _ _ h => h) (Or.inr ⟨by rfl, rfl⟩) ?_ ?_
       rotate_left
       ·simp only [Act.put, sq1, sq2, sq3, i64_w, i32_w]
        rfl
       refine pure_ (i := 8) (N := some 21) (v := undef) (a' := ?_) bq66 rfl rfl (qr HT_.out (by kernel_rfl)) (fun _ _ _ h => h) (Or.inr ⟨by rfl, rfl⟩) ?_ ?_
       rotate_left
       ·simp only [Act.put, sq1, sq2, sq3, i64_w, i32_w]
        rfl
       refine pure_ (i := 9) (N := some 22) (v := undef) (a' := ?_) bq74 rfl rfl (qr HT_.out (by kernel_rfl)) (fun _ _ _ h => h) (Or.inr ⟨by rfl, rfl⟩) ?_ ?_
       rotate_left
       ·simp only [Act.put, sq1, sq2, sq3, i64_w, i32_w]
        rfl
       refine pure_ (i := 10) (N := some 23) (v := undef) (a' := ?_) bq78 rfl rfl (qr HT_.out (by kernel_rfl)) (fun _ _ _ h => h) (Or.inr ⟨by rfl, rfl⟩) ?_ ?_
       rotate_left
       ·simp only [Act.put, sq1, sq2, sq3, i64_w, i32_w]
        rfl
       refine pure_ (i := 11) (N := some 24) (v := undef) (a' := ?_) bq83 rfl rfl (qr HT_.out (by kernel_rfl)) (fun _ _ _ h => h) (Or.inr ⟨by rfl, rfl⟩) ?_ ?_
       rotate_left
       ·simp only [Act.put, sq1, sq2, sq3, i64_w, i32_w]
        rfl
       refine pure_ (i := 12) (N := some 25) (v := undef) (a' := ?_) bq88 rfl rfl (qr HT_.out (by kernel_rfl)) (fun _ _ _ h => h) (Or.inr ⟨by rfl, rfl⟩) ?_ ?_
       rotate_left
       ·simp only [Act.put, sq1, sq2, sq3, i64_w, i32_w]
        rfl
       refine pure_ (i := 13) (N := some 26) (v := undef) (a' := ?_) bq92 rfl rfl (qr HT_.out (by kernel_rfl)) (fun _ _ _ h => h) (Or.inr ⟨by rfl, rfl⟩) ?_ ?_
       rotate_left
       ·simp only [Act.put, sq1, sq2, sq3, i64_w, i32_w]
        rfl
       refine pure_ (i := 14) (N := some 27) (v := undef) (a' := ?_) bq95 rfl rfl (qr HT_.out (by kernel_rfl)) (fun _ _ _ h => h) (Or.inr ⟨by rfl, rfl⟩) ?_ ?_
       rotate_left
       ·simp only [Act.put, sq1, sq2, sq3, i64_w, i32_w]
        rfl
       refine pure_ (i := 15) (N := some 28) (v := undef) (a' := ?_) bq102 rfl rfl (qr HT_.out (by kernel_rfl)) (fun _ _ _ h => h) (Or.inr ⟨by rfl, rfl⟩) ?_ ?_
       rotate_left
       ·simp only [Act.put, sq1, sq2, sq3, i64_w, i32_w]
        rfl
       refine pure_ (i := 16) (N := some 29) (v := undef) (a' := ?_) bq105 rfl rfl (qr HT_.out (by kernel_rfl)) (fun _ _ _ h => h) (Or.inr ⟨by rfl, rfl⟩) ?_ ?_
       rotate_left
       ·simp only [Act.put, sq1, sq2, sq3, i64_w, i32_w]
        rfl
       refine pure_ (i := 17) (N := some 30) (v := undef) (a' := ?_) bq108 rfl rfl (qr HT_.out (by kernel_rfl)) (fun _ _ _ h => h) (Or.inr ⟨by rfl, rfl⟩) ?_ ?_
       rotate_left
       ·simp only [Act.put, sq1, sq2, sq3, i64_w, i32_w]
        rfl
       refine pure_ (i := 18) (N := some 31) (v := undef) (a' := ?_) bq110 rfl rfl (qr HT_.out (by kernel_rfl)) (fun _ _ _ h => h) (Or.inr ⟨by rfl, rfl⟩) ?_ ?_
       rotate_left
       ·simp only [Act.put, sq1, sq2, sq3, i64_w, i32_w]
        rfl
       refine pure_ (i := 19) (N := some 32) (v := undef) (a' := ?_) bq111 rfl rfl (qr HT_.out (by kernel_rfl)) (fun _ _ _ h => h) (Or.inr ⟨by rfl, rfl⟩) ?_ ?_
       rotate_left
       ·simp only [Act.put, sq1, sq2, sq3, i64_w, i32_w]
        rfl
       refine pure_ (i := 20) (N := some 33) (v := undef) (a' := ?_) bq112 rfl rfl (qr HT_.out (by kernel_rfl)) (fun _ _ _ h => h) (Or.inr ⟨by rfl, rfl⟩) ?_ ?_
       rotate_left
       ·simp only [Act.put, sq1, sq2, sq3, i64_w, i32_w]
        rfl
       refine pure_ (i := 21) (N := some 34) (v := undef) (a' := ?_) bq113 rfl rfl (qr HT_.out (by kernel_rfl)) (fun _ _ _ h => h) (Or.inr ⟨by rfl, rfl⟩) ?_ ?_
       rotate_left
       ·simp only [Act.put, sq1, sq2, sq3, i64_w, i32_w]
        rfl
       refine pure_ (i := 22) (N := some 35) (v := undef) (a' := ?_) bq114 rfl rfl (qr HT_.out (by kernel_rfl)) (fun _ _ _ h => h) (Or.inr ⟨by rfl, rfl⟩) ?_ ?_
       rotate_left
       ·simp only [Act.put, sq1, sq2, sq3, i64_w, i32_w]
        rfl
       refine pure_ (i := 23) (N := some 36) (v := undef) (a' := ?_) bq115 rfl rfl (qr HT_.out (by kernel_rfl)) (fun _ _ _ h => h) (Or.inr ⟨by rfl, rfl⟩) ?_ ?_
       rotate_left
       ·simp only [Act.put, sq1, sq2, sq3, i64_w, i32_w]
        rfl
       refine pure_ (i := 24) (N := some 37) (v := ?_) (a' := ?_) bq116 rfl rfl (qr HT_.out (by kernel_rfl)) (fun _ _ _ h => h) (Or.inl ⟨by rfl, ?_⟩) ?_ ?_
       rotate_left
       ·intro w'
        go_simp
        with_reducible rfl
       rotate_left
       ·simp only [Act.put, sq1, sq2, sq3, i64_w, i32_w]
        rfl
       refine done_ (done_of HT_.out (by kernel_rfl)) ?_
       try go_wp2
       go_ret
       exact ⟨by first | rfl | (simp [qn, qm] <;> rfl) | (simp [*, qn, qm] <;> rfl), by repeat (first | (with_reducible first | exact HB.out | apply qc | apply qa | apply qb) | exact HB.out)⟩
     ·rw [if_neg c4] at H
      exact absurd H (by simp)
    ·rw [if_neg c3] at H
     have c3b0 : decide (x3_1 < (l0.length : Int)) = false := decide_eq_false c3
     clear c3
     obtain rfl := Option.some.inj H
     go_wp2
     go_ret
     exact ⟨by first | rfl | (simp [qn, qm] <;> rfl) | (simp [*, qn, qm] <;> rfl), by repeat (first | (with_reducible first | exact HB.out | apply qc | apply qa | apply qb) | exact HB.out)⟩
def spec_PutFixed.f (a0 : Int) : Option (ByteArray) := some (strOfNums (([(a0) % 256, (a0 / 256) % 256, (a0 / 65536) % 256, (a0 / 16777216) % 256] : List Int)))
set_option maxHeartbeats 8000000 in
set_option maxRecDepth 100000 in
theorem spec_PutFixed.calls (a0 : Int) (r : ByteArray) (w : World) (h : spec_PutFixed.f a0 = some r) :
  Calls Try.prog 72 #[.int .u32 a0] w fun e w' => e = .returned (.string r) ∧ Below w.heap.size w w' := by
 have HB := Qz.mk (Below.refl w.heap.size w)
 have H : (some (strOfNums (([(a0) % 256, (a0 / 256) % 256, (a0 / 65536) % 256, (a0 / 16777216) % 256] : List Int)))) = some r := h
 clear h
 obtain ⟨y101, hy101⟩ : ∃ y_ : List Int, y_ = (([(a0) % 256, (a0 / 256) % 256, (a0 / 65536) % 256, (a0 / 16777216) % 256] : List Int)) := ⟨_, rfl⟩
 replace H : (some (strOfNums y101)) = some r := by first | (rw [hy101]; with_reducible exact H) | (have H2_ := (Option.bind_some _ _).symm.trans H; rw [hy101]; with_reducible exact H2_) | (have H2_ := (Option.bind_some _ _).symm.trans H; with_reducible exact H2_) | with_reducible exact H | (rw [hy101]; exact H) | exact H
 have Ny101 := Qz.mk hy101
 clear hy101
 obtain rfl := Option.some.inj H
 go_enter Try.func72, Try.ntmps72
 go_wp2_with (first | ((with_reducible refine qb1 (N := 14) rfl ?_); refine Kd.R_lit (Kd.int .u8) _ 5 ?hg (N := 14) ?hd (xs := ([(a0) % 256, (a0 / 256) % 256, (a0 / 65536) % 256, (a0 / 16777216) % 256] : List Int)) (inner := [.int .u8 ((a0) % 256), .int .u8 ((a0 / 256) % 256), .int .u8 ((a0 / 65536) % 256), .int .u8 ((a0 / 16777216) % 256)]) (ok := fun _ => True) (okp := fun _ => True) ?hr ?hp (fun _ hk => hk) trivial (Below.refl _ _) (Nat.le_refl _) (by simp) ?_; (case hd => rfl); (case hg => rfl); (case hr => first | (go_simp; done) | (go_simp; rfl)); (case hp => exact (Reps.one (show Kd.M (Kd.int .u8) _ _ _ ((a0) % 256) [.int .u8 ((a0) % 256)] from rfl) (Reps.one (show Kd.M (Kd.int .u8) _ _ _ ((a0 / 256) % 256) [.int .u8 ((a0 / 256) % 256)] from rfl) (Reps.one (show Kd.M (Kd.int .u8) _ _ _ ((a0 / 65536) % 256) [.int .u8 ((a0 / 65536) % 256)] from rfl) (Reps.one (show Kd.M (Kd.int .u8) _ _ _ ((a0 / 16777216) % 256) [.int .u8 ((a0 / 16777216) % 256)] from rfl) (Reps.none _ _)))))); intro v102 w2 ho3 hb hg_ hnew_; clear hg_ hnew_; (first | rw [← Ny101.out] at ho3 | (simp only [Int.reduceToNat] at ho3; rw [← Ny101.out] at ho3)); have HO103 := Qz.mk (Kd.R_lower ho3 (qv (by repeat (first | (with_reducible first | exact HB.out | apply qc | apply qa | apply qb) | exact HB.out)))); replace HB := Qz.mk (ql (by repeat (first | (with_reducible first | exact HB.out | apply qc | apply qa | apply qb) | exact HB.out)) hb); clear hb ho3; have hcv4 := own_string (P := Try.prog) Try.underlying42 Try.underlying5 Try.underlying9 (Kd.own_of_R HO103.out)))
 go_ret
 exact ⟨by first | rfl | (simp [qn, qm] <;> rfl) | (simp [*, qn, qm] <;> rfl), by repeat (first | (with_reducible first | exact HB.out | apply qc | apply qa | apply qb) | exact HB.out)⟩
theorem yq10 {P : Prop} (h : P := by repeat (first | (with_reducible first | exact HB.out | apply qc | apply qa | apply qb | refine qd ?_ GE101.out) | exact HB.out)) : P := h
theorem yq11 {P : Prop} (h : P := by repeat (first | (with_reducible first | exact HB.out | apply qc | apply qa | apply qb) | exact HB.out)) : P := h
theorem yq12 {P : Prop} (h : P := by (with_reducible repeat (first | refine qg ?_ _ | refine qi ?_ | refine qh ?_ _)); exact BK101.out) : P := h
def spec_KeyText.f (a0_0 : ByteArray) (a0_1 : Int) (a0_2 : Int) : Option (ByteArray) := (spec_KeyOk.f a0_0 a0_1 a0_2).bind fun t102 => (if t102 = true then ((spec_PutFixed.f ((IntKind.u64.wrap (wrap64 ((wrap64 (2 * a0_1)) + a0_2))) % 4294967296)).bind fun t103 => (if a0_0.size + t103.size ≤ 9223372036854775807 then ((spec_PutFixed.f (((IntKind.u64.wrap (wrap64 ((wrap64 (2 * a0_1)) + a0_2))) / 4294967296) % 4294967296)).bind fun t104 => (if a0_0.size + t103.size + t104.size ≤ 9223372036854775807 then (some ((a0_0 ++ t103) ++ t104)) else (none))) else (none))) else (some (⟨#[]⟩ : ByteArray)))
def spec_KeyText.T4 : Bool × List (List Nat × List Nat) := (true, [([], []), ([0], [0]), ([], []), ([2], [2]), ([3], [3]), ([1, 4], [1, 4]), ([], []), ([6], [6]), ([7], [7]), ([8, 4], [8]), ([5, 9], [5, 9]), ([10, 9, 0, 1, 2, 3, 4, 5, 6, 7, 8, 9, 10], [10])])
def spec_KeyText.B4 : List Nat := [0, 1, 0, 4, 12, 31, 0, 64, 192, 476, 1023, 2047]
theorem spec_KeyText.tab4 : rtab .any (opsOf Try.f70 4) = spec_KeyText.T4 := by kernel_rfl
theorem spec_KeyText.bits4 : waitsOk spec_KeyText.T4.2 spec_KeyText.B4 = true := by kernel_rfl
set_option maxHeartbeats 8000000 in
set_option maxRecDepth 100000 in
theorem spec_KeyText.calls (a0_0 : ByteArray) (a0_1 : Int) (a0_2 : Int) (r : ByteArray) (w : World) (h : spec_KeyText.f a0_0 a0_1 a0_2 = some r) :
  Calls Try.prog 70 #[.agg #[.string a0_0, .int .i64 a0_1, .int .i64 a0_2]] w fun e w' => e = .returned (.string r) ∧ Below w.heap.size w w' := by
 have hu35 := Try.underlying35
 have HB := Qz.mk (Below.refl w.heap.size w)
 have H : ((spec_KeyOk.f a0_0 a0_1 a0_2).bind fun t102 => (if t102 = true then ((spec_PutFixed.f ((IntKind.u64.wrap (wrap64 ((wrap64 (2 * a0_1)) + a0_2))) % 4294967296)).bind fun t103 => (if a0_0.size + t103.size ≤ 9223372036854775807 then ((spec_PutFixed.f (((IntKind.u64.wrap (wrap64 ((wrap64 (2 * a0_1)) + a0_2))) / 4294967296) % 4294967296)).bind fun t104 => (if a0_0.size + t103.size + t104.size ≤ 9223372036854775807 then (some ((a0_0 ++ t103) ++ t104)) else (none))) else (none))) else (some (⟨#[]⟩ : ByteArray)))) = some r := h
 clear h
 replace H := Option.bind_eq_some_iff.mp H
 obtain ⟨t102, A20, H⟩ := H
 replace H : (if t102 = true then ((spec_PutFixed.f ((IntKind.u64.wrap (wrap64 ((wrap64 (2 * a0_1)) + a0_2))) % 4294967296)).bind fun t103 => (if a0_0.size + t103.size ≤ 9223372036854775807 then ((spec_PutFixed.f (((IntKind.u64.wrap (wrap64 ((wrap64 (2 * a0_1)) + a0_2))) / 4294967296) % 4294967296)).bind fun t104 => (if a0_0.size + t103.size + t104.size ≤ 9223372036854775807 then (some ((a0_0 ++ t103) ++ t104)) else (none))) else (none))) else (some (⟨#[]⟩ : ByteArray))) = some r := H
 have A2 := Qz.mk A20
 clear A20
 by_cases c3 : t102 = true
 ·subst c3
  have H1 : ((spec_PutFixed.f ((IntKind.u64.wrap (wrap64 ((wrap64 (2 * a0_1)) + a0_2))) % 4294967296)).bind fun t103 => (if a0_0.size + t103.size ≤ 9223372036854775807 then ((spec_PutFixed.f (((IntKind.u64.wrap (wrap64 ((wrap64 (2 * a0_1)) + a0_2))) / 4294967296) % 4294967296)).bind fun t104 => (if a0_0.size + t103.size + t104.size ≤ 9223372036854775807 then (some ((a0_0 ++ t103) ++ t104)) else (none))) else (none))) = some r := by rw [if_pos rfl] at H; exact H
  clear H
  have H := H1
  clear H1
  replace H := Option.bind_eq_some_iff.mp H
  obtain ⟨t103, A40, H⟩ := H
  replace H : (if a0_0.size + t103.size ≤ 9223372036854775807 then ((spec_PutFixed.f (((IntKind.u64.wrap (wrap64 ((wrap64 (2 * a0_1)) + a0_2))) / 4294967296) % 4294967296)).bind fun t104 => (if a0_0.size + t103.size + t104.size ≤ 9223372036854775807 then (some ((a0_0 ++ t103) ++ t104)) else (none))) else (none)) = some r := H
  have A4 := Qz.mk A40
  clear A40
  by_cases c5 : a0_0.size + t103.size ≤ 9223372036854775807
  ·rw [if_pos c5] at H
   have c5b0 := eq_true c5
   have c5b1 : decide (a0_0.size + t103.size ≤ 9223372036854775807) = true := decide_eq_true c5
   try have c5b2 : (9223372036854775807 < a0_0.size + t103.size) = False := eq_false (Nat.not_lt.2 c5)
   replace H := Option.bind_eq_some_iff.mp H
   obtain ⟨t104, A60, H⟩ := H
   replace H : (if a0_0.size + t103.size + t104.size ≤ 9223372036854775807 then (some ((a0_0 ++ t103) ++ t104)) else (none)) = some r := H
   have A6 := Qz.mk A60
   clear A60
   by_cases c7 : a0_0.size + t103.size + t104.size ≤ 9223372036854775807
   ·rw [if_pos c7] at H
    have c7b0 := eq_true c7
    have c7b1 : decide (a0_0.size + t103.size + t104.size ≤ 9223372036854775807) = true := decide_eq_true c7
    try have c7b2 : (9223372036854775807 < a0_0.size + t103.size + t104.size) = False := eq_false (Nat.not_lt.2 c7)
    obtain rfl := Option.some.inj H
    go_enter Try.func70, Try.ntmps70
    try go_wp2_with (first | ((with_reducible refine qb1 (N := 1) rfl ?_); refine qz ?hg (N := 1) ?hd (cs := #[.string a0_0, .int .i64 a0_1, .int .i64 a0_2]) (t := 35) ?hr ?_; (case hd => rfl); (case hg => rfl); (case hr => first | (go_simp; done) | (go_simp; rfl)); intro gb101 hg w8 hbox hb; have BK101 := Qz.mk (hbox); have GW101 := Qz.mk ((by rw [hg]; exact (qv yq11) : w.heap.size ≤ gb101)); have GE101 := GW101; replace HB := Qz.mk (ql yq11 hb); clear hb hbox hg; have hcz9_0 : w8.cell? ⟨gb101, 0, none⟩ = some (.string a0_0) := (qf BK101.out 0).trans rfl; have hcz9_1 : w8.cell? ⟨gb101, 1, none⟩ = some (.int .i64 a0_1) := (qf BK101.out 1).trans rfl; have hcz9_2 : w8.cell? ⟨gb101, 2, none⟩ = some (.int .i64 a0_2) := (qf BK101.out 2).trans rfl; have hfz9_0 := qe BK101.out 0; have hfz9_1 := qe BK101.out 1; have hfz9_2 := qe BK101.out 2) | ((with_reducible refine qj (f := 79) rfl ?_); refine qt (some 5) rfl rfl Try.func79 (by kernel_rfl) rfl #[.agg #[.string a0_0, .int .i64 a0_1, .int .i64 a0_2]] rfl (by (try simp only [List.map_toArray, List.map_cons, List.map_nil]); first | done | rfl) ?_; (with_reducible refine (spec_KeyOk.calls a0_0 a0_1 a0_2 true _ A2.out).mono ?_); rintro e w10 ⟨rfl, hb⟩; refine ⟨_, rfl, ?_⟩; replace BK101 := Qz.mk (qu (g := gb101) (o := .cells #[.string a0_0, .int .i64 a0_1, .int .i64 a0_2] 35 (0, 0)) yq12 hb); replace HB := Qz.mk (ql yq10 hb); (try clear hb); have hcz11_0 : w10.cell? ⟨gb101, 0, none⟩ = some (.string a0_0) := (qf BK101.out 0).trans rfl; have hcz11_1 : w10.cell? ⟨gb101, 1, none⟩ = some (.int .i64 a0_1) := (qf BK101.out 1).trans rfl; have hcz11_2 : w10.cell? ⟨gb101, 2, none⟩ = some (.int .i64 a0_2) := (qf BK101.out 2).trans rfl; have hfz11_0 := qe BK101.out 0; have hfz11_1 := qe BK101.out 1; have hfz11_2 := qe BK101.out 2))
    replace BK101 := Qz.mk (qi BK101.out)
    replace HB := Qz.mk (qb HB.out)
    refine start_ (n := 12) (S := fun w' => w'.cell? ⟨gb101, 0, none⟩ = some (.string a0_0) ∧ w'.cell? ⟨gb101, 1, none⟩ = some (.int .i64 a0_1) ∧ w'.cell? ⟨gb101, 2, none⟩ = some (.int .i64 a0_2)) (ds := []) bq5 (by kernel_rfl) rfl rfl ⟨(qf BK101.out 0).trans rfl, (qf BK101.out 1).trans rfl, (qf BK101.out 2).trans rfl⟩ (fun hHeld => ?_); refine with_tabW spec_KeyText.tab4 spec_KeyText.bits4 (fun HT_ HW_ => ?_)
    generalize w10.drew = w12 at BK101 HB hHeld ⊢
    refine pure_ (i := 0) (N := some 14) (v := ?_) (a' := ?_) bq11 rfl rfl (qr HT_.out (by kernel_rfl)) (fun _ _ _ h => h) (Or.inl ⟨by rfl, ?_⟩) ?_ ?_
    rotate_left
    ·intro w'
     go_simp
     with_reducible rfl
    rotate_left
    ·simp only [Act.put, sq1, sq2, sq3, i64_w, i32_w]
     rfl
    refine pure_ (i := 2) (N := some 16) (v := ?_) (a' := ?_) bq12 rfl rfl (qr HT_.out (by kernel_rfl)) (fun _ _ _ h => h) (Or.inl ⟨by rfl, ?_⟩) ?_ ?_
    rotate_left
    ·intro w'
     go_simp
     with_reducible rfl
    rotate_left
    ·simp only [Act.put, sq1, sq2, sq3, i64_w, i32_w]
     rfl
    refine pure_ (i := 3) (N := some 17) (v := ?_) (a' := ?_) bq13 rfl rfl (qr HT_.out (by kernel_rfl)) (fun _ _ _ h => h) (Or.inl ⟨by rfl, ?_⟩) ?_ ?_
    rotate_left
    ·intro w'
     go_simp
     with_reducible rfl
    rotate_left
    ·simp only [Act.put, sq1, sq2, sq3, i64_w, i32_w]
     rfl
    refine pure_ (i := 6) (N := some 20) (v := ?_) (a' := ?_) bq14 rfl rfl (qr HT_.out (by kernel_rfl)) (fun _ _ _ h => h) (Or.inl ⟨by rfl, ?_⟩) ?_ ?_
    rotate_left
    ·intro w'
     go_simp
     with_reducible rfl
    rotate_left
    ·simp only [Act.put, sq1, sq2, sq3, i64_w, i32_w]
     rfl
    refine pure_ (i := 7) (N := some 21) (v := ?_) (a' := ?_) bq15 rfl rfl (qr HT_.out (by kernel_rfl)) (fun _ _ _ h => h) (Or.inl ⟨by rfl, ?_⟩) ?_ ?_
    rotate_left
    ·intro w'
     go_simp
     with_reducible rfl
    rotate_left
    ·simp only [Act.put, sq1, sq2, sq3, i64_w, i32_w]
     rfl
    refine pure_ (i := 8) (N := some 22) (v := ?_) (a' := ?_) bq16 rfl rfl (qr HT_.out (by kernel_rfl)) (fun _ _ _ h => h) (Or.inl ⟨by rfl, ?_⟩) ?_ ?_
    rotate_left
    ·intro w'
     go_simp
     with_reducible rfl
    rotate_left
    ·simp only [Act.put, sq1, sq2, sq3, i64_w, i32_w]
     rfl
    refine take_ (i := 1) (N := some 15) (v := ?_) (a' := ?_) bq44 rfl rfl (take_ofW HT_.out HW_.out (by kernel_rfl)) (fun _ _ _ h => h) (Or.inl ⟨by rfl, ?_⟩) hHeld ?_ ?_
    rotate_left
    ·rintro w' ⟨s0, s1, s2⟩
     go_simp
     with_reducible rfl
    rotate_left
    ·simp only [Act.put, sq1, sq2, sq3, i64_w, i32_w]
     rfl
    refine one_ (i := 4) (N := some 18) bq50 rfl rfl (one_of HT_.out (by kernel_rfl)) (by decide) (fun K hK => ?_)
    refine goes_ Try.func72 (by kernel_rfl) rfl #[.int .u32 ((IntKind.u64.wrap (wrap64 ((wrap64 (2 * a0_1)) + a0_2))) % 4294967296)] (by rfl) rfl rfl (by (try simp only [List.map_toArray, List.map_cons, List.map_nil]); first | done | rfl | (simp only [List.length_drop, List.length_take]; rfl) | (rw [IntWalk.u64_in _ (by omega)] <;> rfl)) ?_
    with_reducible refine (spec_PutFixed.calls ((IntKind.u64.wrap (wrap64 ((wrap64 (2 * a0_1)) + a0_2))) % 4294967296) t103 _ A4.out).mono ?_
    rintro e w13 ⟨rfl, hb⟩
    refine ⟨_, rfl, ?_⟩
    replace BK101 := Qz.mk (qu (g := gb101) (o := .cells #[.string a0_0, .int .i64 a0_1, .int .i64 a0_2] 35 (0, 0)) yq12 hb)
    replace HB := Qz.mk (ql yq10 hb)
    (try clear hb)
    refine hK.out _ _ ⟨(qf BK101.out 0).trans rfl, (qf BK101.out 1).trans rfl, (qf BK101.out 2).trans rfl⟩ (fun hHeld => ?_)
    clear hK K
    refine norm_ (a' := ?_) ?_ ?_
    rotate_left
    ·show Act.put _ (some 18) _ = _
     simp only [Act.put, sq1, sq2, sq3, i64_w, i32_w]
     rfl
    refine pure_ (i := 5) (N := some 19) (v := ?_) (a' := ?_) bq70 rfl rfl (qr HT_.out (by kernel_rfl)) (fun _ _ _ h => h) (Or.inl ⟨by rfl, ?_⟩) ?_ ?_
    rotate_left
    ·intro w'
     go_simp
     with_reducible rfl
    rotate_left
    ·simp only [Act.put, sq1, sq2, sq3, i64_w, i32_w]
     rfl
    refine one_ (i := 9) (N := some 23) bq77 rfl rfl (one_of HT_.out (by kernel_rfl)) (by decide) (fun K hK => ?_)
    refine goes_ Try.func72 (by kernel_rfl) rfl #[.int .u32 (((IntKind.u64.wrap (wrap64 ((wrap64 (2 * a0_1)) + a0_2))) / 4294967296) % 4294967296)] (by rfl) rfl rfl (by (try simp only [List.map_toArray, List.map_cons, List.map_nil]); first | done | rfl | (simp only [List.length_drop, List.length_take]; rfl) | (rw [IntWalk.u64_in _ (by omega)] <;> rfl)) ?_
    with_reducible refine (spec_PutFixed.calls (((IntKind.u64.wrap (wrap64 ((wrap64 (2 * a0_1)) + a0_2))) / 4294967296) % 4294967296) t104 _ A6.out).mono ?_
    rintro e w14 ⟨rfl, hb⟩
    refine ⟨_, rfl, ?_⟩
    replace BK101 := Qz.mk (qu (g := gb101) (o := .cells #[.string a0_0, .int .i64 a0_1, .int .i64 a0_2] 35 (0, 0)) yq12 hb)
    replace HB := Qz.mk (ql yq10 hb)
    (try clear hb)
    refine hK.out _ _ ⟨(qf BK101.out 0).trans rfl, (qf BK101.out 1).trans rfl, (qf BK101.out 2).trans rfl⟩ (fun hHeld => ?_)
    clear hK K
    refine norm_ (a' := ?_) ?_ ?_
    rotate_left
    ·show Act.put _ (some 23) _ = _
     simp only [Act.put, sq1, sq2, sq3, i64_w, i32_w]
     rfl
    refine pure_ (i := 10) (N := some 24) (v := ?_) (a' := ?_) bq82 rfl rfl (qr HT_.out (by kernel_rfl)) (fun _ _ _ h => h) (Or.inl ⟨by rfl, ?_⟩) ?_ ?_
    rotate_left
    ·intro w'
     go_simp
     with_reducible rfl
    rotate_left
    ·simp only [Act.put, sq1, sq2, sq3, i64_w, i32_w]
     rfl
    refine pure_ (i := 11) (N := some 2) (v := ?_) (a' := ?_) bq121 rfl rfl (qr HT_.out (by kernel_rfl)) (fun _ _ _ h => h) (Or.inl ⟨by rfl, ?_⟩) ?_ ?_
    rotate_left
    ·intro w'
     go_simp
     with_reducible rfl
    rotate_left
    ·simp only [Act.put, sq1, sq2, sq3, i64_w, i32_w]
     rfl
    refine done_ (done_of HT_.out (by kernel_rfl)) ?_
    try go_wp2
    go_ret
    exact ⟨by first | rfl | (simp [qn, qm] <;> rfl) | (simp [*, qn, qm] <;> rfl), by repeat (first | (with_reducible first | exact HB.out | apply qc | apply qa | apply qb | refine qd ?_ GE101.out) | exact HB.out)⟩
   ·rw [if_neg c7] at H
    exact absurd H (by simp)
  ·rw [if_neg c5] at H
   exact absurd H (by simp)
 ·replace c3 := Bool.eq_false_iff.mpr c3
  subst c3
  have H1 : (some (⟨#[]⟩ : ByteArray)) = some r := by rw [if_neg (show ¬ (false = true) by decide)] at H; exact H
  clear H
  have H := H1
  clear H1
  obtain rfl := Option.some.inj H
  go_enter Try.func70, Try.ntmps70
  go_wp2_with (first | ((with_reducible refine qb1 (N := 1) rfl ?_); refine qz ?hg (N := 1) ?hd (cs := #[.string a0_0, .int .i64 a0_1, .int .i64 a0_2]) (t := 35) ?hr ?_; (case hd => rfl); (case hg => rfl); (case hr => first | (go_simp; done) | (go_simp; rfl)); intro gb101 hg w15 hbox hb; have BK101 := Qz.mk (hbox); have GW101 := Qz.mk ((by rw [hg]; exact (qv yq11) : w.heap.size ≤ gb101)); have GE101 := GW101; replace HB := Qz.mk (ql yq11 hb); clear hb hbox hg; have hcz16_0 : w15.cell? ⟨gb101, 0, none⟩ = some (.string a0_0) := (qf BK101.out 0).trans rfl; have hcz16_1 : w15.cell? ⟨gb101, 1, none⟩ = some (.int .i64 a0_1) := (qf BK101.out 1).trans rfl; have hcz16_2 : w15.cell? ⟨gb101, 2, none⟩ = some (.int .i64 a0_2) := (qf BK101.out 2).trans rfl; have hfz16_0 := qe BK101.out 0; have hfz16_1 := qe BK101.out 1; have hfz16_2 := qe BK101.out 2) | ((with_reducible refine qj (f := 79) rfl ?_); refine qt (some 5) rfl rfl Try.func79 (by kernel_rfl) rfl #[.agg #[.string a0_0, .int .i64 a0_1, .int .i64 a0_2]] rfl (by (try simp only [List.map_toArray, List.map_cons, List.map_nil]); first | done | rfl) ?_; (with_reducible refine (spec_KeyOk.calls a0_0 a0_1 a0_2 false _ A2.out).mono ?_); rintro e w17 ⟨rfl, hb⟩; refine ⟨_, rfl, ?_⟩; replace BK101 := Qz.mk (qu (g := gb101) (o := .cells #[.string a0_0, .int .i64 a0_1, .int .i64 a0_2] 35 (0, 0)) yq12 hb); replace HB := Qz.mk (ql yq10 hb); (try clear hb)))
  go_ret
  exact ⟨by first | rfl | (simp [qn, qm] <;> rfl) | (simp [*, qn, qm] <;> rfl), by repeat (first | (with_reducible first | exact HB.out | apply qc | apply qa | apply qb | refine qd ?_ GE101.out) | exact HB.out)⟩
theorem yq13 {P : Prop} (h : P := by first | (with_reducible assumption) | assumption) : P := h
def spec_SharedWith.l0 : Nat → ByteArray → ByteArray → Int → Option (Int)
 | 0, _, _, _ => none
 | k + 1, x0, x1, x5 => if x5 < (x0.size : Int) then (if x5 < (x1.size : Int) then (if 0 ≤ x5 then (if (bt x0 x5) = (bt x1 x5) then (spec_SharedWith.l0 k x0 x1 (wrap64 (x5 + 1))) else (some x5)) else (none)) else (some x5)) else (some x5)
def spec_SharedWith.f (k : Nat) (a0 : ByteArray) (a1 : ByteArray) : Option (Int) := spec_SharedWith.l0 k a0 a1 0
set_option maxHeartbeats 8000000 in
set_option maxRecDepth 100000 in
theorem spec_SharedWith.calls (k : Nat) (a0 : ByteArray) (a1 : ByteArray) (r : Int) (w : World) (h : spec_SharedWith.f k a0 a1 = some r) :
  Calls Try.prog 71 #[.string a0, .string a1] w fun e w' => e = .returned (.int .i64 r) ∧ Drawn0 w w' := by
 have H : (spec_SharedWith.l0 k a0 a1 0) = some r := h
 clear h
 have H' := Qz.mk H
 clear H
 go_enter Try.func71, Try.ntmps71
 go_wp2
 repeat (go_quiet (fail); try go_wp2)
 go_loopg [5] k (fun kq v5 w' => ∃ (x5_1 : Int), v5 = .int .i64 x5_1 ∧ Qz (spec_SharedWith.l0 kq a0 a1 x5_1 = some r) ∧ Qz (kq ≤ k) ∧ Drawn0 w w')
 case atStart => exact ⟨(0), (by first | rfl | (simp; done) | (simp [*]; done)), H', ⟨Nat.le_refl _⟩, by repeat (first | exact Drawn0.refl _ | apply Drawn0.step)⟩
 case round =>
  clear H'
  try clear p2
  obtain ⟨x5_1, rfl, HA, HK1, ⟨m1, rfl⟩⟩ := hrel
  cases gk with
  | zero => exact absurd HA.out (by simp [spec_SharedWith.l0])
  | succ k1 =>
   have H := HA.out
   clear HA
   simp only [spec_SharedWith.l0] at H
   by_cases c3 : x5_1 < (a0.size : Int)
   ·rw [if_pos c3] at H
    have c3b0 : decide (x5_1 < (a0.size : Int)) = true := decide_eq_true c3
    clear c3
    by_cases c4 : x5_1 < (a1.size : Int)
    ·rw [if_pos c4] at H
     have c4b0 : decide (x5_1 < (a1.size : Int)) = true := decide_eq_true c4
     clear c4
     by_cases c5 : 0 ≤ x5_1
     ·rw [if_pos c5] at H
      have c5b0 : decide (0 ≤ x5_1) = true := decide_eq_true c5
      clear c5
      by_cases c8 : (bt a0 x5_1) = (bt a1 x5_1)
      ·rw [if_pos c8] at H
       have c8b0 : ((bt a0 x5_1) == (bt a1 x5_1)) = true := beq_iff_eq.mpr c8
       have c8b1 : ((bt a0 x5_1) != (bt a1 x5_1)) = false := bne_eq_false_iff_eq.mpr c8
       clear c8
       have H' := Qz.mk H
       clear H
       have p6 : 0 ≤ (x5_1 : Int) := of_decide_eq_true yq13
       have q6 : x5_1 < (a0.size : Int) := of_decide_eq_true yq13
       have hx6 := bt_at a0 x5_1
       replace p6 := eq_true p6
       replace q6 := eq_true q6
       have p7 : 0 ≤ (x5_1 : Int) := of_decide_eq_true yq13
       have q7 : x5_1 < (a1.size : Int) := of_decide_eq_true yq13
       have hx7 := bt_at a1 x5_1
       replace p7 := eq_true p7
       replace q7 := eq_true q7
       go_wp2
       repeat (go_quiet (fail); try go_wp2)
       go_roundg k1
       case measure => have := HK1.out; omega
       case rel => exact ⟨(wrap64 (x5_1 + 1)), (by first | rfl | (simp; done) | (simp [*]; done)), H', ⟨by have := HK1.out; omega⟩, by repeat (first | exact Drawn0.refl _ | apply Drawn0.step)⟩
      ·rw [if_neg c8] at H
       have c8b0 : ((bt a0 x5_1) == (bt a1 x5_1)) = false := beq_eq_false_iff_ne.mpr c8
       have c8b1 : ((bt a0 x5_1) != (bt a1 x5_1)) = true := bne_iff_ne.mpr c8
       obtain rfl := Option.some.inj H
       have p6 : 0 ≤ (x5_1 : Int) := of_decide_eq_true yq13
       have q6 : x5_1 < (a0.size : Int) := of_decide_eq_true yq13
       have hx6 := bt_at a0 x5_1
       replace p6 := eq_true p6
       replace q6 := eq_true q6
       have p7 : 0 ≤ (x5_1 : Int) := of_decide_eq_true yq13
       have q7 : x5_1 < (a1.size : Int) := of_decide_eq_true yq13
       have hx7 := bt_at a1 x5_1
       replace p7 := eq_true p7
       replace q7 := eq_true q7
       go_wp2
       repeat (go_quiet (fail); try go_wp2)
       go_ret
       exact ⟨by first | rfl | (simp; done) | (simp [*]; done), by repeat (first | exact Drawn0.refl _ | apply Drawn0.step)⟩
     ·rw [if_neg c5] at H
      exact absurd H (by simp)
    ·rw [if_neg c4] at H
     have c4b0 : decide (x5_1 < (a1.size : Int)) = false := decide_eq_false c4
     clear c4
     obtain rfl := Option.some.inj H
     go_wp2
     repeat (go_quiet (fail); try go_wp2)
     go_ret
     exact ⟨by first | rfl | (simp; done) | (simp [*]; done), by repeat (first | exact Drawn0.refl _ | apply Drawn0.step)⟩
   ·rw [if_neg c3] at H
    have c3b0 : decide (x5_1 < (a0.size : Int)) = false := decide_eq_false c3
    clear c3
    obtain rfl := Option.some.inj H
    go_wp2
    repeat (go_quiet (fail); try go_wp2)
    go_ret
    exact ⟨by first | rfl | (simp; done) | (simp [*]; done), by repeat (first | exact Drawn0.refl _ | apply Drawn0.step)⟩
theorem yq14 {P : Prop} (h : P := by repeat (first | (with_reducible first | exact HB.out | apply qc | apply qa | apply qb) | exact HB.out)) : P := h
def spec_PutVar.l0 : Nat → Int → List Int → Option (ByteArray)
 | 0, _, _ => none
 | k + 1, x0, x3 => if x0 ≥ 128 then (if x3.length < 140737488355328 then (spec_PutVar.l0 k (IntKind.u64.wrap (Int.tdiv x0 128)) (x3 ++ [(IntKind.u64.wrap ((Int.tmod x0 128) + 128)) % 256])) else (none)) else (if x3.length < 140737488355328 then (some (strOfNums (x3 ++ [(x0) % 256]))) else (none))
def spec_PutVar.f (k : Nat) (a0 : Int) : Option (ByteArray) := spec_PutVar.l0 k a0 (([] : List Int))
set_option maxHeartbeats 8000000 in
set_option maxRecDepth 100000 in
theorem spec_PutVar.calls (k : Nat) (a0 : Int) (r : ByteArray) (w : World) (h : spec_PutVar.f k a0 = some r) :
  Calls Try.prog 73 #[.int .u64 a0] w fun e w' => e = .returned (.string r) ∧ Below w.heap.size w w' := by
 have HB := Qz.mk (Below.refl w.heap.size w)
 have H : (spec_PutVar.l0 k a0 (([] : List Int))) = some r := h
 clear h
 obtain ⟨y101, hy101⟩ : ∃ y_ : List Int, y_ = (([] : List Int)) := ⟨_, rfl⟩
 replace H : (spec_PutVar.l0 k a0 y101) = some r := by first | (rw [hy101]; with_reducible exact H) | (have H2_ := (Option.bind_some _ _).symm.trans H; rw [hy101]; with_reducible exact H2_) | (have H2_ := (Option.bind_some _ _).symm.trans H; with_reducible exact H2_) | with_reducible exact H | (rw [hy101]; exact H) | exact H
 have Ny101 := Qz.mk hy101
 clear hy101
 have H' := Qz.mk H
 clear H
 go_enter Try.func73, Try.ntmps73
 go_wp2_with (first | ((with_reducible refine qb1 (N := 4) rfl ?_); refine Kd.R_lit (Kd.int .u8) _ 5 ?hg (N := 4) ?hd (xs := ([] : List Int)) (inner := []) (ok := fun _ => True) (okp := fun _ => True) ?hr ?hp (fun _ hk => hk) trivial (Below.refl _ _) (Nat.le_refl _) (by simp) ?_; (case hd => rfl); (case hg => rfl); (case hr => first | (go_simp; done) | (go_simp; rfl)); (case hp => exact (Reps.none _ _)); intro v102 w2 ho3 hb hg_ hnew_; clear hg_ hnew_; (first | rw [← Ny101.out] at ho3 | (simp only [Int.reduceToNat] at ho3; rw [← Ny101.out] at ho3)); have HO103 := Qz.mk (Kd.R_lower ho3 (qv yq14)); replace HB := Qz.mk (ql yq14 hb); clear hb ho3))
 go_loopg [0, 3] k (fun kq v0 v3 w' => ∃ (x0_1 : Int) (x3_1 : List Int), v0 = .int .u64 x0_1 ∧ Qz (spec_PutVar.l0 kq x0_1 x3_1 = some r) ∧ Qz (kq ≤ k) ∧ Qz (Kd.R (Kd.int .u8) 5 w' w.heap.size (fun _ => True) v3 x3_1) ∧ Qz (Below w.heap.size w w'))
 case atStart => exact ⟨(a0), (y101), (by first | rfl | (simp; done) | (simp [*]; done)), H', ⟨Nat.le_refl _⟩, ⟨by (with_reducible repeat (first | apply Kd.R_alloc | apply Kd.R_drewN | apply Kd.R_drew)); exact HO103.out⟩, ⟨by repeat (first | (with_reducible first | exact HB.out | apply qc | apply qa | apply qb) | exact HB.out)⟩⟩
 case round =>
  clear H'
  try clear p2
  obtain ⟨x0_1, x3_1, rfl, HA, HK1, HO_3, HB⟩ := hrel
  cases gk with
  | zero => exact absurd HA.out (by simp [spec_PutVar.l0])
  | succ k1 =>
   have H := HA.out
   clear HA
   simp only [spec_PutVar.l0] at H
   by_cases c4 : x0_1 ≥ 128
   ·rw [if_pos c4] at H
    have c4b0 : decide (128 ≤ x0_1) = true := decide_eq_true c4
    clear c4
    by_cases c5 : x3_1.length < 140737488355328
    ·rw [if_pos c5] at H
     have LMc5 := Qz.mk c5
     clear c5
     obtain ⟨y104, hy104⟩ : ∃ y_ : List Int, y_ = (x3_1 ++ [(IntKind.u64.wrap ((Int.tmod x0_1 128) + 128)) % 256]) := ⟨_, rfl⟩
     replace H : (spec_PutVar.l0 k1 (IntKind.u64.wrap (Int.tdiv x0_1 128)) y104) = some r := by first | (rw [hy104]; with_reducible exact H) | (have H2_ := (Option.bind_some _ _).symm.trans H; rw [hy104]; with_reducible exact H2_) | (have H2_ := (Option.bind_some _ _).symm.trans H; with_reducible exact H2_) | with_reducible exact H | (rw [hy104]; exact H) | exact H
     have Ny104 := Qz.mk hy104
     clear hy104
     have H' := Qz.mk H
     clear H
     go_wp2_with (first | ((with_reducible refine gate_builtin (b := .append) (xs := #[.tmp 7, .tmp 12]) rfl ?_); at_builtin; refine Kd.R_append (Kd.int .u8) (w0 := w) w.heap.size rfl (.tmp 7) (.tmp 12) 42 5 (.int .u8 0) 1 rfl Try.underlying42 info5 rfl (by decide) (by omega) u3 x3_1 ((IntKind.u64.wrap ((Int.tmod x0_1 128) + 128)) % 256) [.int .u8 ((IntKind.u64.wrap ((Int.tmod x0_1 128) + 128)) % 256)] (fun _ => True) (fun _ => False) rfl rfl ?aP (fun _ hk => hk.elim) ?aF ?aO ?aB ?aS ?aL ?_; (case aP => exact rfl); (case aB => exact yq14); (case aF => exact (fun _ _ => trivial)); (case aO => exact (by (with_reducible repeat (first | apply Kd.R_alloc | apply Kd.R_drewN | apply Kd.R_drew)); exact HO_3.out)); (case aS => exact (qv yq14)); (case aL => have := LMc5.out; omega); intro v105 w6 ho hb hg hat; rw [← Ny104.out] at ho; have n0_ := Qz.mk (hb); have n1_ := Qz.mk (ho); clear HB; clear HO_3; have HB := n0_; have HO106 := n1_; clear n0_ n1_; clear ho hb hg hat))
     go_roundg k1
     case measure => have := HK1.out; omega
     case rel => exact ⟨(IntKind.u64.wrap (Int.tdiv x0_1 128)), (y104), (by first | rfl | (simp; done) | (simp [*]; done)), H', ⟨by have := HK1.out; omega⟩, ⟨by (with_reducible repeat (first | apply Kd.R_alloc | apply Kd.R_drewN | apply Kd.R_drew)); exact HO106.out⟩, ⟨by repeat (first | (with_reducible first | exact HB.out | apply qc | apply qa | apply qb) | exact HB.out)⟩⟩
    ·rw [if_neg c5] at H
     exact absurd H (by simp)
   ·rw [if_neg c4] at H
    have c4b0 : decide (128 ≤ x0_1) = false := decide_eq_false c4
    clear c4
    by_cases c7 : x3_1.length < 140737488355328
    ·rw [if_pos c7] at H
     have LMc7 := Qz.mk c7
     clear c7
     obtain ⟨y107, hy107⟩ : ∃ y_ : List Int, y_ = (x3_1 ++ [(x0_1) % 256]) := ⟨_, rfl⟩
     replace H : (some (strOfNums y107)) = some r := by first | (rw [hy107]; with_reducible exact H) | (have H2_ := (Option.bind_some _ _).symm.trans H; rw [hy107]; with_reducible exact H2_) | (have H2_ := (Option.bind_some _ _).symm.trans H; with_reducible exact H2_) | with_reducible exact H | (rw [hy107]; exact H) | exact H
     have Ny107 := Qz.mk hy107
     clear hy107
     obtain rfl := Option.some.inj H
     go_wp2_with (first | ((with_reducible refine gate_builtin (b := .append) (xs := #[.tmp 16, .tmp 19]) rfl ?_); at_builtin; refine Kd.R_append (Kd.int .u8) (w0 := w) w.heap.size rfl (.tmp 16) (.tmp 19) 42 5 (.int .u8 0) 1 rfl Try.underlying42 info5 rfl (by decide) (by omega) u3 x3_1 ((x0_1) % 256) [.int .u8 ((x0_1) % 256)] (fun _ => True) (fun _ => False) rfl rfl ?aP (fun _ hk => hk.elim) ?aF ?aO ?aB ?aS ?aL ?_; (case aP => exact rfl); (case aB => exact yq14); (case aF => exact (fun _ _ => trivial)); (case aO => exact (by (with_reducible repeat (first | apply Kd.R_alloc | apply Kd.R_drewN | apply Kd.R_drew)); exact HO_3.out)); (case aS => exact (qv yq14)); (case aL => have := LMc7.out; omega); intro v108 w8 ho hb hg hat; rw [← Ny107.out] at ho; have n0_ := Qz.mk (hb); have n1_ := Qz.mk (ho); clear HB; clear HO_3; have HB := n0_; have HO109 := n1_; clear n0_ n1_; clear ho hb hg hat; have hcv9 := own_string (P := Try.prog) Try.underlying42 Try.underlying5 Try.underlying9 (Kd.own_of_R HO109.out)))
     go_ret
     exact ⟨by first | rfl | (simp [qn, qm] <;> rfl) | (simp [*, qn, qm] <;> rfl), by repeat (first | (with_reducible first | exact HB.out | apply qc | apply qa | apply qb) | exact HB.out)⟩
    ·rw [if_neg c7] at H
     exact absurd H (by simp)
def spec_PutText.f (k : Nat) (a0 : ByteArray) : Option (ByteArray) := (spec_PutVar.f k (IntKind.u64.wrap ((a0.size : Int)))).bind fun t101 => (if t101.size + a0.size ≤ 9223372036854775807 then (some (t101 ++ a0)) else (none))
set_option maxHeartbeats 8000000 in
set_option maxRecDepth 100000 in
theorem spec_PutText.calls (k : Nat) (a0 : ByteArray) (r : ByteArray) (w : World) (h : spec_PutText.f k a0 = some r) :
  Calls Try.prog 74 #[.string a0] w fun e w' => e = .returned (.string r) ∧ Below w.heap.size w w' := by
 have HB := Qz.mk (Below.refl w.heap.size w)
 have H : ((spec_PutVar.f k (IntKind.u64.wrap ((a0.size : Int)))).bind fun t101 => (if t101.size + a0.size ≤ 9223372036854775807 then (some (t101 ++ a0)) else (none))) = some r := h
 clear h
 replace H := Option.bind_eq_some_iff.mp H
 obtain ⟨t101, A20, H⟩ := H
 replace H : (if t101.size + a0.size ≤ 9223372036854775807 then (some (t101 ++ a0)) else (none)) = some r := H
 have A2 := Qz.mk A20
 clear A20
 by_cases c3 : t101.size + a0.size ≤ 9223372036854775807
 ·rw [if_pos c3] at H
  have c3b0 := eq_true c3
  have c3b1 : decide (t101.size + a0.size ≤ 9223372036854775807) = true := decide_eq_true c3
  try have c3b2 : (9223372036854775807 < t101.size + a0.size) = False := eq_false (Nat.not_lt.2 c3)
  obtain rfl := Option.some.inj H
  go_enter Try.func74, Try.ntmps74
  go_wp2_with (first | ((with_reducible refine qj (f := 73) rfl ?_); refine qt (some 6) rfl rfl Try.func73 (by kernel_rfl) rfl #[.int .u64 (IntKind.u64.wrap ((a0.size : Int)))] rfl (by (try simp only [List.map_toArray, List.map_cons, List.map_nil]); first | done | rfl | (simp only [List.length_drop, List.length_take]; rfl) | (rw [IntWalk.u64_in _ (by omega)] <;> rfl)) ?_; (with_reducible refine (spec_PutVar.calls k (IntKind.u64.wrap ((a0.size : Int))) t101 _ A2.out).mono ?_); rintro e w4 ⟨rfl, hb⟩; refine ⟨_, rfl, ?_⟩; replace HB := Qz.mk (ql (by repeat (first | (with_reducible first | exact HB.out | apply qc | apply qa | apply qb) | exact HB.out)) hb); (try clear hb)))
  go_ret
  exact ⟨by first | rfl | (simp [qn, qm] <;> rfl) | (simp [*, qn, qm] <;> rfl), by repeat (first | (with_reducible first | exact HB.out | apply qc | apply qa | apply qb) | exact HB.out)⟩
 ·rw [if_neg c3] at H
  exact absurd H (by simp)
theorem yq15 {P : Prop} (h : P := by repeat (first | (with_reducible first | exact HB.out | apply qc | apply qa | apply qb) | exact HB.out)) : P := h
theorem yq16 {P : Prop} (h : P := by (try simp only [List.map_toArray, List.map_cons, List.map_nil]); first | done | rfl) : P := h
theorem yq17 {P : Prop} (h : P := by first | rfl | (simp; done) | (simp [*]; done)) : P := h
theorem yq18 {P : Prop} (h : P := by (try simp only [List.map_toArray, List.map_cons, List.map_nil]); first | done | rfl | (simp only [List.length_drop, List.length_take]; rfl) | (rw [IntWalk.u64_in _ (by omega)] <;> rfl)) : P := h
theorem yq19 {P : Prop} (h : P := by repeat (first | exact (Kd.C_below HR0.out HB.out) | (with_reducible refine Kd.C_alloc ?_ _) | (with_reducible refine Kd.C_drewN ?_ _) | (with_reducible refine Kd.C_drew ?_))) : P := h
theorem yq20 {P : Prop} (h : P := by first | (with_reducible assumption) | assumption) : P := h
mutual
def spec_BlockOf.j0 : Nat → List (S64) → Int → Bool → Option (ByteArray × Bool)
 | 0, _, _, _ => none
 | k + 1, x0, x1, x25 => if x25 = true then (some ((⟨#[]⟩ : ByteArray), false)) else (spec_BlockOf.l0 k x0 x1 (⟨#[]⟩ : ByteArray) (⟨#[]⟩ : ByteArray) 0 (⟨#[]⟩ : ByteArray) 0)
def spec_BlockOf.l0 : Nat → List (S64) → Int → ByteArray → ByteArray → Int → ByteArray → Int → Option (ByteArray × Bool)
 | 0, _, _, _, _, _, _, _ => none
 | k + 1, x0, x1, x6, x7, x8, x9, x10 => if x10 < (x0.length : Int) then (if 0 ≤ x10 then ((spec_KeyText.f ((qk x0 x10).f0.f0) ((qk x0 x10).f0.f1) ((qk x0 x10).f0.f2)).bind fun t104 => ((spec_SharedWith.f k x9 t104).bind fun t105 => (if x1 = 0 then (none) else (if (Int.tmod x10 x1) = 0 then ((spec_PutFixed.f (((x6.size : Int)) % 4294967296)).bind fun t106 => (if x7.size + t106.size ≤ 9223372036854775807 then ((spec_PutVar.f k 0).bind fun t107 => (if x6.size + t107.size ≤ 9223372036854775807 then (if 0 ≤ (t104.size : Int) then ((spec_PutText.f k (t104.extract 0 t104.size)).bind fun t108 => (if x6.size + t107.size + t108.size ≤ 9223372036854775807 then ((spec_PutText.f k ((qk x0 x10).f1)).bind fun t110 => (if x6.size + t107.size + t108.size + t110.size ≤ 9223372036854775807 then (spec_BlockOf.l0 k x0 x1 (((x6 ++ t107) ++ t108) ++ t110) (x7 ++ t106) ((x8 + 1) % 4294967296) t104 (wrap64 (x10 + 1))) else (none))) else (none))) else (none)) else (none))) else (none))) else ((spec_PutVar.f k (IntKind.u64.wrap (t105))).bind fun t111 => (if x6.size + t111.size ≤ 9223372036854775807 then (if 0 ≤ t105 then (if t105 ≤ (t104.size : Int) then ((spec_PutText.f k (t104.extract (t105 : Int).toNat t104.size)).bind fun t112 => (if x6.size + t111.size + t112.size ≤ 9223372036854775807 then ((spec_PutText.f k ((qk x0 x10).f1)).bind fun t114 => (if x6.size + t111.size + t112.size + t114.size ≤ 9223372036854775807 then (spec_BlockOf.l0 k x0 x1 (((x6 ++ t111) ++ t112) ++ t114) x7 x8 t104 (wrap64 (x10 + 1))) else (none))) else (none))) else (none)) else (none)) else (none))))))) else (none)) else (if x6.size + x7.size ≤ 9223372036854775807 then ((spec_PutFixed.f x8).bind fun t115 => (if x6.size + x7.size + t115.size ≤ 9223372036854775807 then ((spec_PutFixed.f ((x1) % 4294967296)).bind fun t116 => (if x6.size + x7.size + t115.size + t116.size ≤ 9223372036854775807 then (if ((((x6 ++ x7) ++ t115) ++ t116).size : Int) > 60000 then (some ((⟨#[]⟩ : ByteArray), false)) else (some (((x6 ++ x7) ++ t115) ++ t116, true))) else (none))) else (none))) else (none))
end
def spec_BlockOf.f (k : Nat) (l0 : List (S64)) (a1 : Int) : Option (ByteArray × Bool) := (spec_EntriesOk.f k l0).bind fun t101 => (if t101 = true then (if (l0.length : Int) = 0 then (spec_BlockOf.j0 k l0 a1 true) else ((spec_l1In.f a1 1 16).bind fun t102 => (spec_BlockOf.j0 k l0 a1 (!t102)))) else (spec_BlockOf.j0 k l0 a1 true))
def spec_BlockOf.T16 : Bool × List (List Nat × List Nat) := (true, [([], []), ([], []), ([1], [1]), ([2], [2]), ([0, 3], [0, 3]), ([], []), ([], []), ([5, 6], [5, 6]), ([7, 3], [7]), ([4, 8], [4, 8]), ([], []), ([], []), ([10, 11], [10, 11]), ([12], [12]), ([13], [13]), ([14, 8], [14]), ([9, 15], [9, 15]), ([16, 15, 0, 1, 2, 3, 4, 5, 6, 7, 8, 9, 10, 11, 12, 13, 14, 15, 16], [0, 16])])
def spec_BlockOf.B16 : List Nat := [0, 0, 2, 6, 15, 0, 0, 96, 238, 511, 0, 0, 3072, 7168, 15360, 32238, 65535, 131071]
theorem spec_BlockOf.tab16 : rtab .any (opsOf Try.f16 16) = spec_BlockOf.T16 := by kernel_rfl
theorem spec_BlockOf.bits16 : waitsOk spec_BlockOf.T16.2 spec_BlockOf.B16 = true := by kernel_rfl
set_option maxHeartbeats 8000000 in
set_option maxRecDepth 100000 in
theorem spec_BlockOf.calls (k : Nat) (A0 : Option Addr) (c0 : Nat) (l0 : List (S64)) (a1 : Int) (r1 : ByteArray) (r2 : Bool) (w : World) (hr0 : Kd.C k64 w A0 l0.length l0) (hc0 : l0.length ≤ c0) (h : spec_BlockOf.f k l0 a1 = some (r1, r2)) :
  Calls Try.prog 16 #[.slice A0 l0.length c0, .int .i64 a1] w fun e w' => e = .returned (.tuple #[.string r1, .bool r2]) ∧ Below w.heap.size w w' := by
 have hu35 := Try.underlying35
 have HR0 := Qz.mk hr0
 have HC0 := Qz.mk hc0
 clear hr0 hc0
 have HB := Qz.mk (Below.refl w.heap.size w)
 have H : ((spec_EntriesOk.f k l0).bind fun t101 => (if t101 = true then (if (l0.length : Int) = 0 then (spec_BlockOf.j0 k l0 a1 true) else ((spec_l1In.f a1 1 16).bind fun t102 => (spec_BlockOf.j0 k l0 a1 (!t102)))) else (spec_BlockOf.j0 k l0 a1 true))) = some (r1, r2) := h
 clear h
 have HC3 := Qz.mk H
 clear H
 go_enter Try.func16, Try.ntmps16
 go_upto_region 1 with (fail)
 go_cut [25] (fun v25 wc => ∃ (kq : Nat) (x25_2 : Bool), v25 = .bool x25_2 ∧ Qz (spec_BlockOf.j0 kq l0 a1 x25_2 = some (r1, r2)) ∧ Qz (kq ≤ k) ∧ Qz (Below w.heap.size w wc))
 case first =>
  have H := HC3.out
  clear HC3
  replace H := Option.bind_eq_some_iff.mp H
  obtain ⟨t101, A40, H⟩ := H
  replace H : (if t101 = true then (if (l0.length : Int) = 0 then (spec_BlockOf.j0 k l0 a1 true) else ((spec_l1In.f a1 1 16).bind fun t102 => (spec_BlockOf.j0 k l0 a1 (!t102)))) else (spec_BlockOf.j0 k l0 a1 true)) = some (r1, r2) := H
  have A4 := Qz.mk A40
  clear A40
  by_cases c5 : t101 = true
  ·subst c5
   have H1 : (if (l0.length : Int) = 0 then (spec_BlockOf.j0 k l0 a1 true) else ((spec_l1In.f a1 1 16).bind fun t102 => (spec_BlockOf.j0 k l0 a1 (!t102)))) = some (r1, r2) := by rw [if_pos rfl] at H; exact H
   clear H
   have H := H1
   clear H1
   by_cases c6 : (l0.length : Int) = 0
   ·rw [if_pos c6] at H
    have c6b0 : ((l0.length : Int) == 0) = true := beq_iff_eq.mpr c6
    have c6b1 : ((l0.length : Int) != 0) = false := bne_eq_false_iff_eq.mpr c6
    clear c6
    (first | rw [c6b0] | (simp only [i64_w, i32_w]; rw [c6b0]) | skip)
    have H' := Qz.mk H
    clear H
    go_wp2_with (first | ((with_reducible refine qj (f := 68) rfl ?_); refine qt (some 14) rfl rfl Try.func68 (by kernel_rfl) rfl #[.slice A0 l0.length c0] rfl yq18 ?_; (with_reducible refine (spec_EntriesOk.calls k _ _ l0 true _ ?side1 ?side2 A4.out).mono ?_); (case side1 => exact yq19); (case side2 => exact HC0.out); rintro e w7 ⟨rfl, hb⟩; refine ⟨_, rfl, ?_⟩; replace HB := Qz.mk (ql yq15 hb); (try clear hb)))
    go_meet
    case rel => exact ⟨_, (true), yq17, H', ⟨by first | omega | exact Nat.le_refl _⟩, ⟨by repeat (first | (with_reducible first | exact HB.out | apply qc | apply qa | apply qb) | exact HB.out)⟩⟩
   ·rw [if_neg c6] at H
    have c6b0 : ((l0.length : Int) == 0) = false := beq_eq_false_iff_ne.mpr c6
    have c6b1 : ((l0.length : Int) != 0) = true := bne_iff_ne.mpr c6
    have c6b2 : ¬ (l0 = []) := fun h_ => c6 (by rw [h_]; rfl)
    (first | rw [c6b0] | (simp only [i64_w, i32_w]; rw [c6b0]) | skip)
    replace H := Option.bind_eq_some_iff.mp H
    obtain ⟨t102, A80, H⟩ := H
    replace H : (spec_BlockOf.j0 k l0 a1 (!t102)) = some (r1, r2) := H
    have A8 := Qz.mk A80
    clear A80
    have H' := Qz.mk H
    clear H
    go_wp2_with (first | ((with_reducible refine qj (f := 68) rfl ?_); refine qt (some 14) rfl rfl Try.func68 (by kernel_rfl) rfl #[.slice A0 l0.length c0] rfl yq18 ?_; (with_reducible refine (spec_EntriesOk.calls k _ _ l0 true _ ?side1 ?side2 A4.out).mono ?_); (case side1 => exact yq19); (case side2 => exact HC0.out); rintro e w9 ⟨rfl, hb⟩; refine ⟨_, rfl, ?_⟩; replace HB := Qz.mk (ql yq15 hb); (try clear hb)) | (go_at_call 69; (with_reducible refine (spec_l1In.calls a1 1 16 t102 _ A8.out).mono ?_); rintro e w' ⟨rfl, ⟨nd, rfl⟩⟩))
    go_meet
    case rel => exact ⟨_, (!t102), yq17, H', ⟨by first | omega | exact Nat.le_refl _⟩, ⟨by repeat (first | (with_reducible first | exact HB.out | apply qc | apply qa | apply qb) | exact HB.out)⟩⟩
  ·replace c5 := Bool.eq_false_iff.mpr c5
   subst c5
   have H1 : (spec_BlockOf.j0 k l0 a1 true) = some (r1, r2) := by rw [if_neg (show ¬ (false = true) by decide)] at H; exact H
   clear H
   have H := H1
   clear H1
   have H' := Qz.mk H
   clear H
   go_wp2_with (first | ((with_reducible refine qj (f := 68) rfl ?_); refine qt (some 14) rfl rfl Try.func68 (by kernel_rfl) rfl #[.slice A0 l0.length c0] rfl yq18 ?_; (with_reducible refine (spec_EntriesOk.calls k _ _ l0 false _ ?side1 ?side2 A4.out).mono ?_); (case side1 => exact yq19); (case side2 => exact HC0.out); rintro e w10 ⟨rfl, hb⟩; refine ⟨_, rfl, ?_⟩; replace HB := Qz.mk (ql yq15 hb); (try clear hb)))
   go_meet
   case rel => exact ⟨_, (true), yq17, H', ⟨by first | omega | exact Nat.le_refl _⟩, ⟨by repeat (first | (with_reducible first | exact HB.out | apply qc | apply qa | apply qb) | exact HB.out)⟩⟩
 case rest =>
  clear HC3
  try clear c1
  try clear p2
  try clear c5
  try clear c6
  try clear c6b0
  try clear c6b1
  try clear c6b2
  obtain ⟨kq, x25_2, rfl, HA, HJ2, HB⟩ := hcut
  cases kq with
  | zero => exact absurd HA.out (by simp [spec_BlockOf.j0])
  | succ kj2 =>
   have H := HA.out
   clear HA
   simp only [spec_BlockOf.j0] at H
   by_cases c11 : x25_2 = true
   ·subst c11
    have H1 : (some ((⟨#[]⟩ : ByteArray), false)) = some (r1, r2) := by rw [if_pos rfl] at H; exact H
    clear H
    have H := H1
    clear H1
    simp only [Option.some.injEq, Prod.mk.injEq] at H
    obtain ⟨rfl, rfl⟩ := H
    go_wp2
    go_ret2
    exact ⟨by first | rfl | (simp [qn, qm] <;> rfl) | (simp [*, qn, qm] <;> rfl), by repeat (first | (with_reducible first | exact HB.out | apply qc | apply qa | apply qb) | exact HB.out)⟩
   ·replace c11 := Bool.eq_false_iff.mpr c11
    subst c11
    have H1 : (spec_BlockOf.l0 kj2 l0 a1 (⟨#[]⟩ : ByteArray) (⟨#[]⟩ : ByteArray) 0 (⟨#[]⟩ : ByteArray) 0) = some (r1, r2) := by rw [if_neg (show ¬ (false = true) by decide)] at H; exact H
    clear H
    have H := H1
    clear H1
    have H' := Qz.mk H
    clear H
    go_wp2
    go_loopg [6, 7, 8, 9, 10] kj2 (fun kq v6 v7 v8 v9 v10 w' => ∃ (x6_2 : ByteArray) (x7_2 : ByteArray) (x8_2 : Int) (x9_2 : ByteArray) (x10_2 : Int), v6 = .string x6_2 ∧ v7 = .string x7_2 ∧ v8 = .int .u32 x8_2 ∧ v9 = .string x9_2 ∧ v10 = .int .i64 x10_2 ∧ Qz (spec_BlockOf.l0 kq l0 a1 x6_2 x7_2 x8_2 x9_2 x10_2 = some (r1, r2)) ∧ Qz (kq ≤ kj2) ∧ Qz (Below w.heap.size w w'))
    case atStart => exact ⟨((⟨#[]⟩ : ByteArray)), ((⟨#[]⟩ : ByteArray)), (0), ((⟨#[]⟩ : ByteArray)), (0), yq17, yq17, yq17, yq17, yq17, H', ⟨Nat.le_refl _⟩, ⟨by repeat (first | (with_reducible first | exact HB.out | apply qc | apply qa | apply qb) | exact HB.out)⟩⟩
    case round =>
     clear H'
     try clear c1
     try clear p2
     try clear c5
     try clear c6
     try clear c6b0
     try clear c6b1
     try clear c6b2
     try clear c11
     try clear p2
     obtain ⟨x6_2, x7_2, x8_2, x9_2, x10_2, rfl, rfl, rfl, rfl, rfl, HA, HK2, HB⟩ := hrel
     cases gk with
     | zero => exact absurd HA.out (by simp [spec_BlockOf.l0])
     | succ k2 =>
      have H := HA.out
      clear HA
      simp only [spec_BlockOf.l0] at H
      by_cases c12 : x10_2 < (l0.length : Int)
      ·rw [if_pos c12] at H
       have c12b0 : decide (x10_2 < (l0.length : Int)) = true := decide_eq_true c12
       clear c12
       by_cases c13 : 0 ≤ x10_2
       ·rw [if_pos c13] at H
        have c13b0 : decide (0 ≤ x10_2) = true := decide_eq_true c13
        clear c13
        replace H := Option.bind_eq_some_iff.mp H
        obtain ⟨t104, A140, H⟩ := H
        replace H : ((spec_SharedWith.f k2 x9_2 t104).bind fun t105 => (if a1 = 0 then (none) else (if (Int.tmod x10_2 a1) = 0 then ((spec_PutFixed.f (((x6_2.size : Int)) % 4294967296)).bind fun t106 => (if x7_2.size + t106.size ≤ 9223372036854775807 then ((spec_PutVar.f k2 0).bind fun t107 => (if x6_2.size + t107.size ≤ 9223372036854775807 then (if 0 ≤ (t104.size : Int) then ((spec_PutText.f k2 (t104.extract 0 t104.size)).bind fun t108 => (if x6_2.size + t107.size + t108.size ≤ 9223372036854775807 then ((spec_PutText.f k2 ((qk l0 x10_2).f1)).bind fun t110 => (if x6_2.size + t107.size + t108.size + t110.size ≤ 9223372036854775807 then (spec_BlockOf.l0 k2 l0 a1 (((x6_2 ++ t107) ++ t108) ++ t110) (x7_2 ++ t106) ((x8_2 + 1) % 4294967296) t104 (wrap64 (x10_2 + 1))) else (none))) else (none))) else (none)) else (none))) else (none))) else ((spec_PutVar.f k2 (IntKind.u64.wrap (t105))).bind fun t111 => (if x6_2.size + t111.size ≤ 9223372036854775807 then (if 0 ≤ t105 then (if t105 ≤ (t104.size : Int) then ((spec_PutText.f k2 (t104.extract (t105 : Int).toNat t104.size)).bind fun t112 => (if x6_2.size + t111.size + t112.size ≤ 9223372036854775807 then ((spec_PutText.f k2 ((qk l0 x10_2).f1)).bind fun t114 => (if x6_2.size + t111.size + t112.size + t114.size ≤ 9223372036854775807 then (spec_BlockOf.l0 k2 l0 a1 (((x6_2 ++ t111) ++ t112) ++ t114) x7_2 x8_2 t104 (wrap64 (x10_2 + 1))) else (none))) else (none))) else (none)) else (none)) else (none)))))) = some (r1, r2) := H
        have A14 := Qz.mk A140
        clear A140
        replace H := Option.bind_eq_some_iff.mp H
        obtain ⟨t105, A150, H⟩ := H
        replace H : (if a1 = 0 then (none) else (if (Int.tmod x10_2 a1) = 0 then ((spec_PutFixed.f (((x6_2.size : Int)) % 4294967296)).bind fun t106 => (if x7_2.size + t106.size ≤ 9223372036854775807 then ((spec_PutVar.f k2 0).bind fun t107 => (if x6_2.size + t107.size ≤ 9223372036854775807 then (if 0 ≤ (t104.size : Int) then ((spec_PutText.f k2 (t104.extract 0 t104.size)).bind fun t108 => (if x6_2.size + t107.size + t108.size ≤ 9223372036854775807 then ((spec_PutText.f k2 ((qk l0 x10_2).f1)).bind fun t110 => (if x6_2.size + t107.size + t108.size + t110.size ≤ 9223372036854775807 then (spec_BlockOf.l0 k2 l0 a1 (((x6_2 ++ t107) ++ t108) ++ t110) (x7_2 ++ t106) ((x8_2 + 1) % 4294967296) t104 (wrap64 (x10_2 + 1))) else (none))) else (none))) else (none)) else (none))) else (none))) else ((spec_PutVar.f k2 (IntKind.u64.wrap (t105))).bind fun t111 => (if x6_2.size + t111.size ≤ 9223372036854775807 then (if 0 ≤ t105 then (if t105 ≤ (t104.size : Int) then ((spec_PutText.f k2 (t104.extract (t105 : Int).toNat t104.size)).bind fun t112 => (if x6_2.size + t111.size + t112.size ≤ 9223372036854775807 then ((spec_PutText.f k2 ((qk l0 x10_2).f1)).bind fun t114 => (if x6_2.size + t111.size + t112.size + t114.size ≤ 9223372036854775807 then (spec_BlockOf.l0 k2 l0 a1 (((x6_2 ++ t111) ++ t112) ++ t114) x7_2 x8_2 t104 (wrap64 (x10_2 + 1))) else (none))) else (none))) else (none)) else (none)) else (none))))) = some (r1, r2) := H
        have A15 := Qz.mk A150
        clear A150
        by_cases c16 : a1 = 0
        ·rw [if_pos c16] at H
         exact absurd H (by simp)
        ·rw [if_neg c16] at H
         have c16b0 : (a1 == 0) = false := beq_eq_false_iff_ne.mpr c16
         have c16b1 : (a1 != 0) = true := bne_iff_ne.mpr c16
         by_cases c17 : (Int.tmod x10_2 a1) = 0
         ·rw [if_pos c17] at H
          have c17b0 : ((Int.tmod x10_2 a1) == 0) = true := beq_iff_eq.mpr c17
          have c17b1 : ((Int.tmod x10_2 a1) != 0) = false := bne_eq_false_iff_eq.mpr c17
          clear c17
          replace H := Option.bind_eq_some_iff.mp H
          obtain ⟨t106, A180, H⟩ := H
          replace H : (if x7_2.size + t106.size ≤ 9223372036854775807 then ((spec_PutVar.f k2 0).bind fun t107 => (if x6_2.size + t107.size ≤ 9223372036854775807 then (if 0 ≤ (t104.size : Int) then ((spec_PutText.f k2 (t104.extract 0 t104.size)).bind fun t108 => (if x6_2.size + t107.size + t108.size ≤ 9223372036854775807 then ((spec_PutText.f k2 ((qk l0 x10_2).f1)).bind fun t110 => (if x6_2.size + t107.size + t108.size + t110.size ≤ 9223372036854775807 then (spec_BlockOf.l0 k2 l0 a1 (((x6_2 ++ t107) ++ t108) ++ t110) (x7_2 ++ t106) ((x8_2 + 1) % 4294967296) t104 (wrap64 (x10_2 + 1))) else (none))) else (none))) else (none)) else (none))) else (none)) = some (r1, r2) := H
          have A18 := Qz.mk A180
          clear A180
          by_cases c19 : x7_2.size + t106.size ≤ 9223372036854775807
          ·rw [if_pos c19] at H
           have c19b0 := eq_true c19
           have c19b1 : decide (x7_2.size + t106.size ≤ 9223372036854775807) = true := decide_eq_true c19
           try have c19b2 : (9223372036854775807 < x7_2.size + t106.size) = False := eq_false (Nat.not_lt.2 c19)
           replace H := Option.bind_eq_some_iff.mp H
           obtain ⟨t107, A200, H⟩ := H
           replace H : (if x6_2.size + t107.size ≤ 9223372036854775807 then (if 0 ≤ (t104.size : Int) then ((spec_PutText.f k2 (t104.extract 0 t104.size)).bind fun t108 => (if x6_2.size + t107.size + t108.size ≤ 9223372036854775807 then ((spec_PutText.f k2 ((qk l0 x10_2).f1)).bind fun t110 => (if x6_2.size + t107.size + t108.size + t110.size ≤ 9223372036854775807 then (spec_BlockOf.l0 k2 l0 a1 (((x6_2 ++ t107) ++ t108) ++ t110) (x7_2 ++ t106) ((x8_2 + 1) % 4294967296) t104 (wrap64 (x10_2 + 1))) else (none))) else (none))) else (none)) else (none)) = some (r1, r2) := H
           have A20 := Qz.mk A200
           clear A200
           by_cases c21 : x6_2.size + t107.size ≤ 9223372036854775807
           ·rw [if_pos c21] at H
            have c21b0 := eq_true c21
            have c21b1 : decide (x6_2.size + t107.size ≤ 9223372036854775807) = true := decide_eq_true c21
            try have c21b2 : (9223372036854775807 < x6_2.size + t107.size) = False := eq_false (Nat.not_lt.2 c21)
            by_cases c22 : 0 ≤ (t104.size : Int)
            ·rw [if_pos c22] at H
             have c22b0 := eq_true c22
             have c22b1 : decide (0 ≤ (t104.size : Int)) = true := decide_eq_true c22
             clear c22
             replace H := Option.bind_eq_some_iff.mp H
             obtain ⟨t108, A230, H⟩ := H
             replace H : (if x6_2.size + t107.size + t108.size ≤ 9223372036854775807 then ((spec_PutText.f k2 ((qk l0 x10_2).f1)).bind fun t110 => (if x6_2.size + t107.size + t108.size + t110.size ≤ 9223372036854775807 then (spec_BlockOf.l0 k2 l0 a1 (((x6_2 ++ t107) ++ t108) ++ t110) (x7_2 ++ t106) ((x8_2 + 1) % 4294967296) t104 (wrap64 (x10_2 + 1))) else (none))) else (none)) = some (r1, r2) := H
             have A23 := Qz.mk A230
             clear A230
             by_cases c24 : x6_2.size + t107.size + t108.size ≤ 9223372036854775807
             ·rw [if_pos c24] at H
              have c24b0 := eq_true c24
              have c24b1 : decide (x6_2.size + t107.size + t108.size ≤ 9223372036854775807) = true := decide_eq_true c24
              try have c24b2 : (9223372036854775807 < x6_2.size + t107.size + t108.size) = False := eq_false (Nat.not_lt.2 c24)
              replace H := Option.bind_eq_some_iff.mp H
              obtain ⟨t110, A250, H⟩ := H
              replace H : (if x6_2.size + t107.size + t108.size + t110.size ≤ 9223372036854775807 then (spec_BlockOf.l0 k2 l0 a1 (((x6_2 ++ t107) ++ t108) ++ t110) (x7_2 ++ t106) ((x8_2 + 1) % 4294967296) t104 (wrap64 (x10_2 + 1))) else (none)) = some (r1, r2) := H
              have A25 := Qz.mk A250
              clear A250
              by_cases c26 : x6_2.size + t107.size + t108.size + t110.size ≤ 9223372036854775807
              ·rw [if_pos c26] at H
               have c26b0 := eq_true c26
               have c26b1 : decide (x6_2.size + t107.size + t108.size + t110.size ≤ 9223372036854775807) = true := decide_eq_true c26
               try have c26b2 : (9223372036854775807 < x6_2.size + t107.size + t108.size + t110.size) = False := eq_false (Nat.not_lt.2 c26)
               have H' := Qz.mk H
               clear H
               have p103 : 0 ≤ (x10_2 : Int) := of_decide_eq_true yq20
               have q103 : x10_2 < (l0.length : Int) := of_decide_eq_true yq20
               obtain ⟨ad103, e103, hx103_0, hx103_1, hx103_2, hx103_3⟩ := at_T64 HR0.out x10_2 p103 q103
               cases e103
               replace hx103_0 := (HB.out.cell (World.block_lt_of_cell? w _ hx103_0)).trans hx103_0
               replace hx103_1 := (HB.out.cell (World.block_lt_of_cell? w _ hx103_1)).trans hx103_1
               replace hx103_2 := (HB.out.cell (World.block_lt_of_cell? w _ hx103_2)).trans hx103_2
               replace hx103_3 := (HB.out.cell (World.block_lt_of_cell? w _ hx103_3)).trans hx103_3
               replace p103 := eq_true p103
               replace q103 := eq_true q103
               try go_wp2_with (first | ((with_reducible refine qj (f := 70) rfl ?_); refine qt (some 37) rfl rfl Try.func70 (by kernel_rfl) rfl #[.agg #[.string ((qk l0 x10_2).f0.f0), .int .i64 ((qk l0 x10_2).f0.f1), .int .i64 ((qk l0 x10_2).f0.f2)]] rfl yq16 ?_; (with_reducible refine (spec_KeyText.calls ((qk l0 x10_2).f0.f0) ((qk l0 x10_2).f0.f1) ((qk l0 x10_2).f0.f2) t104 _ A14.out).mono ?_); rintro e w27 ⟨rfl, hb⟩; refine ⟨_, rfl, ?_⟩; replace HB := Qz.mk (ql yq15 hb); (try clear hb)) | ((with_reducible refine qj (f := 71) rfl ?_); refine qt (some 40) rfl rfl Try.func71 (by kernel_rfl) rfl #[.string x9_2, .string t104] rfl yq16 ?_; (with_reducible refine (spec_SharedWith.calls k2 x9_2 t104 t105 _ A15.out).mono ?_); rintro e w' ⟨rfl, ⟨nd, rfl⟩⟩; refine ⟨_, rfl, ?_⟩) | ((with_reducible refine qj (f := 72) rfl ?_); refine qt (some 49) rfl rfl Try.func72 (by kernel_rfl) rfl #[.int .u32 (((x6_2.size : Int)) % 4294967296)] rfl yq16 ?_; (with_reducible refine (spec_PutFixed.calls (((x6_2.size : Int)) % 4294967296) t106 _ A18.out).mono ?_); rintro e w28 ⟨rfl, hb⟩; refine ⟨_, rfl, ?_⟩; replace HB := Qz.mk (ql yq15 hb); (try clear hb)))
               replace HB := Qz.mk (qb HB.out)
               have p109 : 0 ≤ (x10_2 : Int) := of_decide_eq_true yq20
               have q109 : x10_2 < (l0.length : Int) := of_decide_eq_true yq20
               obtain ⟨ad109, e109, hx109_0, hx109_1, hx109_2, hx109_3⟩ := at_T64 HR0.out x10_2 p109 q109
               have hw109_3 := hx109_3
               have hw109_2 := hx109_2
               have hw109_1 := hx109_1
               have hw109_0 := hx109_0
               obtain rfl : ad103 = ad109 := (by injection e109)
               replace hx109_0 := (HB.out.cell (World.block_lt_of_cell? w _ hx109_0)).trans hx109_0
               replace hx109_1 := (HB.out.cell (World.block_lt_of_cell? w _ hx109_1)).trans hx109_1
               replace hx109_2 := (HB.out.cell (World.block_lt_of_cell? w _ hx109_2)).trans hx109_2
               replace hx109_3 := (HB.out.cell (World.block_lt_of_cell? w _ hx109_3)).trans hx109_3
               replace p109 := eq_true p109
               replace q109 := eq_true q109
               refine start_ (n := 18) (S := fun w' => w'.cell? (ad103.add ((x10_2).toNat * 4)) = some (.string ((qk l0 x10_2).f0.f0)) ∧ w'.cell? ⟨(ad103.add ((x10_2).toNat * 4)).block, (ad103.add ((x10_2).toNat * 4)).off + 1, none⟩ = some (.int .i64 ((qk l0 x10_2).f0.f1)) ∧ w'.cell? ⟨(ad103.add ((x10_2).toNat * 4)).block, (ad103.add ((x10_2).toNat * 4)).off + 2, none⟩ = some (.int .i64 ((qk l0 x10_2).f0.f2)) ∧ w'.cell? ⟨(ad103.add ((x10_2).toNat * 4)).block, (ad103.add ((x10_2).toNat * 4)).off + 3, none⟩ = some (.string ((qk l0 x10_2).f1))) (ds := []) bq2 (by kernel_rfl) rfl rfl ⟨((HB.out.cell (World.block_lt_of_cell? w _ hw109_0)).trans hw109_0), ((HB.out.cell (World.block_lt_of_cell? w _ hw109_1)).trans hw109_1), ((HB.out.cell (World.block_lt_of_cell? w _ hw109_2)).trans hw109_2), ((HB.out.cell (World.block_lt_of_cell? w _ hw109_3)).trans hw109_3)⟩ (fun hHeld => ?_); refine with_tabW spec_BlockOf.tab16 spec_BlockOf.bits16 (fun HT_ HW_ => ?_)
               generalize w28.drew = w29 at HB hx109_0 hx109_1 hx109_2 hx109_3 hHeld ⊢
               refine pure_ (i := 0) (N := some 53) (v := ?_) (a' := ?_) bq8 rfl rfl (qr HT_.out (by kernel_rfl)) (fun _ _ _ h => h) (Or.inl ⟨by rfl, ?_⟩) ?_ ?_
               rotate_left
               ·intro w'
                go_simp
                with_reducible rfl
               rotate_left
               ·simp only [Act.put, sq1, sq2, sq3, i64_w, i32_w]
                rfl
               refine pure_ (i := 1) (N := some 54) (v := ?_) (a' := ?_) bq19 rfl rfl (qr HT_.out (by kernel_rfl)) (fun _ _ _ h => h) (Or.inl ⟨by rfl, ?_⟩) ?_ ?_
               rotate_left
               ·intro w'
                go_simp
                with_reducible rfl
               rotate_left
               ·simp only [Act.put, sq1, sq2, sq3, i64_w, i32_w]
                rfl
               refine pure_ (i := 2) (N := some 55) (v := ?_) (a' := ?_) bq29 rfl rfl (qr HT_.out (by kernel_rfl)) (fun _ _ _ h => h) (Or.inl ⟨by rfl, ?_⟩) ?_ ?_
               rotate_left
               ·intro w'
                go_simp
                with_reducible rfl
               rotate_left
               ·simp only [Act.put, sq1, sq2, sq3, i64_w, i32_w]
                rfl
               refine pure_ (i := 5) (N := some 58) (v := ?_) (a' := ?_) bq32 rfl rfl (qr HT_.out (by kernel_rfl)) (fun _ _ _ h => h) (Or.inl ⟨by rfl, ?_⟩) ?_ ?_
               rotate_left
               ·intro w'
                go_simp
                with_reducible rfl
               rotate_left
               ·simp only [Act.put, sq1, sq2, sq3, i64_w, i32_w]
                rfl
               refine pure_ (i := 6) (N := some 59) (v := ?_) (a' := ?_) bq33 rfl rfl (qr HT_.out (by kernel_rfl)) (fun _ _ _ h => h) (Or.inl ⟨by rfl, ?_⟩) ?_ ?_
               rotate_left
               ·intro w'
                go_simp
                with_reducible rfl
               rotate_left
               ·simp only [Act.put, sq1, sq2, sq3, i64_w, i32_w]
                rfl
               refine pure_ (i := 7) (N := some 60) (v := ?_) (a' := ?_) bq34 rfl rfl (qr HT_.out (by kernel_rfl)) (fun _ _ _ h => h) (Or.inl ⟨by rfl, ?_⟩) ?_ ?_
               rotate_left
               ·intro w'
                go_simp
                with_reducible rfl
               rotate_left
               ·simp only [Act.put, sq1, sq2, sq3, i64_w, i32_w]
                rfl
               refine pure_ (i := 10) (N := some 63) (v := ?_) (a' := ?_) bq35 rfl rfl (qr HT_.out (by kernel_rfl)) (fun _ _ _ h => h) (Or.inl ⟨by rfl, ?_⟩) ?_ ?_
               rotate_left
               ·intro w'
                go_simp
                with_reducible rfl
               rotate_left
               ·simp only [Act.put, sq1, sq2, sq3, i64_w, i32_w]
                rfl
               refine pure_ (i := 11) (N := some 64) (v := ?_) (a' := ?_) bq36 rfl rfl (qr HT_.out (by kernel_rfl)) (fun _ _ _ h => h) (Or.inl ⟨by rfl, ?_⟩) ?_ ?_
               rotate_left
               ·intro w'
                go_simp
                with_reducible rfl
               rotate_left
               ·simp only [Act.put, sq1, sq2, sq3, i64_w, i32_w]
                rfl
               refine pure_ (i := 12) (N := some 65) (v := ?_) (a' := ?_) bq37 rfl rfl (qr HT_.out (by kernel_rfl)) (fun _ _ _ h => h) (Or.inl ⟨by rfl, ?_⟩) ?_ ?_
               rotate_left
               ·intro w'
                go_simp
                with_reducible rfl
               rotate_left
               ·simp only [Act.put, sq1, sq2, sq3, i64_w, i32_w]
                rfl
               refine pure_ (i := 13) (N := some 66) (v := ?_) (a' := ?_) bq38 rfl rfl (qr HT_.out (by kernel_rfl)) (fun _ _ _ h => h) (Or.inl ⟨by rfl, ?_⟩) ?_ ?_
               rotate_left
               ·intro w'
                go_simp
                with_reducible rfl
               rotate_left
               ·simp only [Act.put, sq1, sq2, sq3, i64_w, i32_w]
                rfl
               refine take_ (i := 14) (N := some 67) (v := ?_) (a' := ?_) bq39 rfl rfl (take_ofW HT_.out HW_.out (by kernel_rfl)) (fun _ _ _ h => h) (Or.inl ⟨by rfl, ?_⟩) hHeld ?_ ?_
               rotate_left
               ·rintro w' ⟨s0, s1, s2, s3⟩
                go_simp
                with_reducible rfl
               rotate_left
               ·simp only [Act.put, sq1, sq2, sq3, i64_w, i32_w]
                rfl
               refine one_ (i := 3) (N := some 56) bq45 rfl rfl (one_of HT_.out (by kernel_rfl)) (by decide) (fun K hK => ?_)
               refine goes_ Try.func73 (by kernel_rfl) rfl #[.int .u64 0] (by rfl) rfl rfl yq16 ?_
               with_reducible refine (spec_PutVar.calls k2 0 t107 _ A20.out).mono ?_
               rintro e w30 ⟨rfl, hb⟩
               refine ⟨_, rfl, ?_⟩
               replace HB := Qz.mk (ql yq15 hb)
               (try clear hb)
               refine hK.out _ _ ⟨((HB.out.cell (World.block_lt_of_cell? w _ hw109_0)).trans hw109_0), ((HB.out.cell (World.block_lt_of_cell? w _ hw109_1)).trans hw109_1), ((HB.out.cell (World.block_lt_of_cell? w _ hw109_2)).trans hw109_2), ((HB.out.cell (World.block_lt_of_cell? w _ hw109_3)).trans hw109_3)⟩ (fun hHeld => ?_)
               clear hK K
               refine norm_ (a' := ?_) ?_ ?_
               rotate_left
               ·show Act.put _ (some 56) _ = _
                simp only [Act.put, sq1, sq2, sq3, i64_w, i32_w]
                rfl
               refine pure_ (i := 4) (N := some 57) (v := ?_) (a' := ?_) bq65 rfl rfl (qr HT_.out (by kernel_rfl)) (fun _ _ _ h => h) (Or.inl ⟨by rfl, ?_⟩) ?_ ?_
               rotate_left
               ·intro w'
                go_simp
                with_reducible rfl
               rotate_left
               ·simp only [Act.put, sq1, sq2, sq3, i64_w, i32_w]
                rfl
               refine one_ (i := 8) (N := some 61) bq73 rfl rfl (one_of HT_.out (by kernel_rfl)) (by decide) (fun K hK => ?_)
               refine goes_ Try.func74 (by kernel_rfl) rfl #[.string (t104.extract 0 t104.size)] (by rfl) rfl rfl (by (try simp only [List.map_toArray, List.map_cons, List.map_nil]); first | done | rfl | (rw [ByteArray.extract_zero_size]; rfl) | (simp only [List.length_drop, List.length_take]; rfl) | (rw [IntWalk.u64_in _ (by omega)] <;> rfl)) ?_
               with_reducible refine (spec_PutText.calls k2 (t104.extract 0 t104.size) t108 _ A23.out).mono ?_
               rintro e w31 ⟨rfl, hb⟩
               refine ⟨_, rfl, ?_⟩
               replace HB := Qz.mk (ql yq15 hb)
               (try clear hb)
               refine hK.out _ _ ⟨((HB.out.cell (World.block_lt_of_cell? w _ hw109_0)).trans hw109_0), ((HB.out.cell (World.block_lt_of_cell? w _ hw109_1)).trans hw109_1), ((HB.out.cell (World.block_lt_of_cell? w _ hw109_2)).trans hw109_2), ((HB.out.cell (World.block_lt_of_cell? w _ hw109_3)).trans hw109_3)⟩ (fun hHeld => ?_)
               clear hK K
               refine norm_ (a' := ?_) ?_ ?_
               rotate_left
               ·show Act.put _ (some 61) _ = _
                simp only [Act.put, sq1, sq2, sq3, i64_w, i32_w]
                rfl
               refine pure_ (i := 9) (N := some 62) (v := ?_) (a' := ?_) bq97 rfl rfl (qr HT_.out (by kernel_rfl)) (fun _ _ _ h => h) (Or.inl ⟨by rfl, ?_⟩) ?_ ?_
               rotate_left
               ·intro w'
                go_simp
                with_reducible rfl
               rotate_left
               ·simp only [Act.put, sq1, sq2, sq3, i64_w, i32_w]
                rfl
               refine one_ (i := 15) (N := some 68) bq104 rfl rfl (one_of HT_.out (by kernel_rfl)) (by decide) (fun K hK => ?_)
               refine goes_ Try.func74 (by kernel_rfl) rfl #[.string ((qk l0 x10_2).f1)] (by rfl) rfl rfl yq16 ?_
               with_reducible refine (spec_PutText.calls k2 ((qk l0 x10_2).f1) t110 _ A25.out).mono ?_
               rintro e w32 ⟨rfl, hb⟩
               refine ⟨_, rfl, ?_⟩
               replace HB := Qz.mk (ql yq15 hb)
               (try clear hb)
               refine hK.out _ _ ⟨((HB.out.cell (World.block_lt_of_cell? w _ hw109_0)).trans hw109_0), ((HB.out.cell (World.block_lt_of_cell? w _ hw109_1)).trans hw109_1), ((HB.out.cell (World.block_lt_of_cell? w _ hw109_2)).trans hw109_2), ((HB.out.cell (World.block_lt_of_cell? w _ hw109_3)).trans hw109_3)⟩ (fun hHeld => ?_)
               clear hK K
               refine norm_ (a' := ?_) ?_ ?_
               rotate_left
               ·show Act.put _ (some 68) _ = _
                simp only [Act.put, sq1, sq2, sq3, i64_w, i32_w]
                rfl
               refine pure_ (i := 16) (N := some 69) (v := ?_) (a' := ?_) bq107 rfl rfl (qr HT_.out (by kernel_rfl)) (fun _ _ _ h => h) (Or.inl ⟨by rfl, ?_⟩) ?_ ?_
               rotate_left
               ·intro w'
                go_simp
                with_reducible rfl
               rotate_left
               ·simp only [Act.put, sq1, sq2, sq3, i64_w, i32_w]
                rfl
               refine pure_ (i := 17) (N := some 6) (v := ?_) (a' := ?_) bq118 rfl rfl (qr HT_.out (by kernel_rfl)) (fun _ _ _ h => h) (Or.inl ⟨by rfl, ?_⟩) ?_ ?_
               rotate_left
               ·intro w'
                go_simp
                with_reducible rfl
               rotate_left
               ·simp only [Act.put, sq1, sq2, sq3, i64_w, i32_w]
                rfl
               refine done_ (done_of HT_.out (by kernel_rfl)) ?_
               try go_wp2
               go_roundg k2
               case measure => have := HJ2.out; have := HK2.out; omega
               case rel => exact ⟨(((x6_2 ++ t107) ++ t108) ++ t110), (x7_2 ++ t106), ((x8_2 + 1) % 4294967296), (t104), (wrap64 (x10_2 + 1)), yq17, yq17, yq17, yq17, yq17, H', ⟨by have := HJ2.out; have := HK2.out; omega⟩, ⟨by repeat (first | (with_reducible first | exact HB.out | apply qc | apply qa | apply qb) | exact HB.out)⟩⟩
              ·rw [if_neg c26] at H
               exact absurd H (by simp)
             ·rw [if_neg c24] at H
              exact absurd H (by simp)
            ·rw [if_neg c22] at H
             exact absurd H (by simp)
           ·rw [if_neg c21] at H
            exact absurd H (by simp)
          ·rw [if_neg c19] at H
           exact absurd H (by simp)
         ·rw [if_neg c17] at H
          have c17b0 : ((Int.tmod x10_2 a1) == 0) = false := beq_eq_false_iff_ne.mpr c17
          have c17b1 : ((Int.tmod x10_2 a1) != 0) = true := bne_iff_ne.mpr c17
          replace H := Option.bind_eq_some_iff.mp H
          obtain ⟨t111, A330, H⟩ := H
          replace H : (if x6_2.size + t111.size ≤ 9223372036854775807 then (if 0 ≤ t105 then (if t105 ≤ (t104.size : Int) then ((spec_PutText.f k2 (t104.extract (t105 : Int).toNat t104.size)).bind fun t112 => (if x6_2.size + t111.size + t112.size ≤ 9223372036854775807 then ((spec_PutText.f k2 ((qk l0 x10_2).f1)).bind fun t114 => (if x6_2.size + t111.size + t112.size + t114.size ≤ 9223372036854775807 then (spec_BlockOf.l0 k2 l0 a1 (((x6_2 ++ t111) ++ t112) ++ t114) x7_2 x8_2 t104 (wrap64 (x10_2 + 1))) else (none))) else (none))) else (none)) else (none)) else (none)) = some (r1, r2) := H
          have A33 := Qz.mk A330
          clear A330
          by_cases c34 : x6_2.size + t111.size ≤ 9223372036854775807
          ·rw [if_pos c34] at H
           have c34b0 := eq_true c34
           have c34b1 : decide (x6_2.size + t111.size ≤ 9223372036854775807) = true := decide_eq_true c34
           try have c34b2 : (9223372036854775807 < x6_2.size + t111.size) = False := eq_false (Nat.not_lt.2 c34)
           by_cases c35 : 0 ≤ t105
           ·rw [if_pos c35] at H
            have c35b0 := eq_true c35
            have c35b1 : decide (0 ≤ t105) = true := decide_eq_true c35
            clear c35
            by_cases c36 : t105 ≤ (t104.size : Int)
            ·rw [if_pos c36] at H
             have c36b0 := eq_true c36
             have c36b1 : decide (t105 ≤ (t104.size : Int)) = true := decide_eq_true c36
             clear c36
             replace H := Option.bind_eq_some_iff.mp H
             obtain ⟨t112, A370, H⟩ := H
             replace H : (if x6_2.size + t111.size + t112.size ≤ 9223372036854775807 then ((spec_PutText.f k2 ((qk l0 x10_2).f1)).bind fun t114 => (if x6_2.size + t111.size + t112.size + t114.size ≤ 9223372036854775807 then (spec_BlockOf.l0 k2 l0 a1 (((x6_2 ++ t111) ++ t112) ++ t114) x7_2 x8_2 t104 (wrap64 (x10_2 + 1))) else (none))) else (none)) = some (r1, r2) := H
             have A37 := Qz.mk A370
             clear A370
             by_cases c38 : x6_2.size + t111.size + t112.size ≤ 9223372036854775807
             ·rw [if_pos c38] at H
              have c38b0 := eq_true c38
              have c38b1 : decide (x6_2.size + t111.size + t112.size ≤ 9223372036854775807) = true := decide_eq_true c38
              try have c38b2 : (9223372036854775807 < x6_2.size + t111.size + t112.size) = False := eq_false (Nat.not_lt.2 c38)
              replace H := Option.bind_eq_some_iff.mp H
              obtain ⟨t114, A390, H⟩ := H
              replace H : (if x6_2.size + t111.size + t112.size + t114.size ≤ 9223372036854775807 then (spec_BlockOf.l0 k2 l0 a1 (((x6_2 ++ t111) ++ t112) ++ t114) x7_2 x8_2 t104 (wrap64 (x10_2 + 1))) else (none)) = some (r1, r2) := H
              have A39 := Qz.mk A390
              clear A390
              by_cases c40 : x6_2.size + t111.size + t112.size + t114.size ≤ 9223372036854775807
              ·rw [if_pos c40] at H
               have c40b0 := eq_true c40
               have c40b1 : decide (x6_2.size + t111.size + t112.size + t114.size ≤ 9223372036854775807) = true := decide_eq_true c40
               try have c40b2 : (9223372036854775807 < x6_2.size + t111.size + t112.size + t114.size) = False := eq_false (Nat.not_lt.2 c40)
               have H' := Qz.mk H
               clear H
               have p103 : 0 ≤ (x10_2 : Int) := of_decide_eq_true yq20
               have q103 : x10_2 < (l0.length : Int) := of_decide_eq_true yq20
               obtain ⟨ad103, e103, hx103_0, hx103_1, hx103_2, hx103_3⟩ := at_T64 HR0.out x10_2 p103 q103
               cases e103
               replace hx103_0 := (HB.out.cell (World.block_lt_of_cell? w _ hx103_0)).trans hx103_0
               replace hx103_1 := (HB.out.cell (World.block_lt_of_cell? w _ hx103_1)).trans hx103_1
               replace hx103_2 := (HB.out.cell (World.block_lt_of_cell? w _ hx103_2)).trans hx103_2
               replace hx103_3 := (HB.out.cell (World.block_lt_of_cell? w _ hx103_3)).trans hx103_3
               replace p103 := eq_true p103
               replace q103 := eq_true q103
               try go_wp2_with (first | ((with_reducible refine qj (f := 70) rfl ?_); refine qt (some 37) rfl rfl Try.func70 (by kernel_rfl) rfl #[.agg #[.string ((qk l0 x10_2).f0.f0), .int .i64 ((qk l0 x10_2).f0.f1), .int .i64 ((qk l0 x10_2).f0.f2)]] rfl yq16 ?_; (with_reducible refine (spec_KeyText.calls ((qk l0 x10_2).f0.f0) ((qk l0 x10_2).f0.f1) ((qk l0 x10_2).f0.f2) t104 _ A14.out).mono ?_); rintro e w41 ⟨rfl, hb⟩; refine ⟨_, rfl, ?_⟩; replace HB := Qz.mk (ql yq15 hb); (try clear hb)) | ((with_reducible refine qj (f := 71) rfl ?_); refine qt (some 40) rfl rfl Try.func71 (by kernel_rfl) rfl #[.string x9_2, .string t104] rfl yq16 ?_; (with_reducible refine (spec_SharedWith.calls k2 x9_2 t104 t105 _ A15.out).mono ?_); rintro e w' ⟨rfl, ⟨nd, rfl⟩⟩; refine ⟨_, rfl, ?_⟩))
               (try (rw [drewN_self w41]; generalize hq_ : World.drewN w41 _ = w41; have n0_ : Qz (Below w.heap.size w w41) := ⟨by rw [← hq_]; exact yq15⟩; clear HB hq_; have HB := n0_; clear n0_))
               replace HB := Qz.mk (qb HB.out)
               have p113 : 0 ≤ (x10_2 : Int) := of_decide_eq_true yq20
               have q113 : x10_2 < (l0.length : Int) := of_decide_eq_true yq20
               obtain ⟨ad113, e113, hx113_0, hx113_1, hx113_2, hx113_3⟩ := at_T64 HR0.out x10_2 p113 q113
               have hw113_3 := hx113_3
               have hw113_2 := hx113_2
               have hw113_1 := hx113_1
               have hw113_0 := hx113_0
               obtain rfl : ad103 = ad113 := (by injection e113)
               replace hx113_0 := (HB.out.cell (World.block_lt_of_cell? w _ hx113_0)).trans hx113_0
               replace hx113_1 := (HB.out.cell (World.block_lt_of_cell? w _ hx113_1)).trans hx113_1
               replace hx113_2 := (HB.out.cell (World.block_lt_of_cell? w _ hx113_2)).trans hx113_2
               replace hx113_3 := (HB.out.cell (World.block_lt_of_cell? w _ hx113_3)).trans hx113_3
               replace p113 := eq_true p113
               replace q113 := eq_true q113
               refine start_ (n := 18) (S := fun w' => w'.cell? (ad103.add ((x10_2).toNat * 4)) = some (.string ((qk l0 x10_2).f0.f0)) ∧ w'.cell? ⟨(ad103.add ((x10_2).toNat * 4)).block, (ad103.add ((x10_2).toNat * 4)).off + 1, none⟩ = some (.int .i64 ((qk l0 x10_2).f0.f1)) ∧ w'.cell? ⟨(ad103.add ((x10_2).toNat * 4)).block, (ad103.add ((x10_2).toNat * 4)).off + 2, none⟩ = some (.int .i64 ((qk l0 x10_2).f0.f2)) ∧ w'.cell? ⟨(ad103.add ((x10_2).toNat * 4)).block, (ad103.add ((x10_2).toNat * 4)).off + 3, none⟩ = some (.string ((qk l0 x10_2).f1))) (ds := []) bq2 (by kernel_rfl) rfl rfl ⟨((HB.out.cell (World.block_lt_of_cell? w _ hw113_0)).trans hw113_0), ((HB.out.cell (World.block_lt_of_cell? w _ hw113_1)).trans hw113_1), ((HB.out.cell (World.block_lt_of_cell? w _ hw113_2)).trans hw113_2), ((HB.out.cell (World.block_lt_of_cell? w _ hw113_3)).trans hw113_3)⟩ (fun hHeld => ?_); refine with_tabW spec_BlockOf.tab16 spec_BlockOf.bits16 (fun HT_ HW_ => ?_)
               generalize w41.drew = w42 at HB hx113_0 hx113_1 hx113_2 hx113_3 hHeld ⊢
               refine pure_ (i := 0) (N := some 53) (v := ?_) (a' := ?_) bq8 rfl rfl (qr HT_.out (by kernel_rfl)) (fun _ _ _ h => h) (Or.inl ⟨by rfl, ?_⟩) ?_ ?_
               rotate_left
               ·intro w'
                go_simp
                with_reducible rfl
               rotate_left
               ·simp only [Act.put, sq1, sq2, sq3, i64_w, i32_w]
                rfl
               refine pure_ (i := 1) (N := some 54) (v := ?_) (a' := ?_) bq19 rfl rfl (qr HT_.out (by kernel_rfl)) (fun _ _ _ h => h) (Or.inl ⟨by rfl, ?_⟩) ?_ ?_
               rotate_left
               ·intro w'
                go_simp
                with_reducible rfl
               rotate_left
               ·simp only [Act.put, sq1, sq2, sq3, i64_w, i32_w]
                rfl
               refine pure_ (i := 2) (N := some 55) (v := ?_) (a' := ?_) bq29 rfl rfl (qr HT_.out (by kernel_rfl)) (fun _ _ _ h => h) (Or.inl ⟨by rfl, ?_⟩) ?_ ?_
               rotate_left
               ·intro w'
                go_simp
                with_reducible rfl
               rotate_left
               ·simp only [Act.put, sq1, sq2, sq3, i64_w, i32_w]
                rfl
               refine pure_ (i := 5) (N := some 58) (v := ?_) (a' := ?_) bq32 rfl rfl (qr HT_.out (by kernel_rfl)) (fun _ _ _ h => h) (Or.inl ⟨by rfl, ?_⟩) ?_ ?_
               rotate_left
               ·intro w'
                go_simp
                with_reducible rfl
               rotate_left
               ·simp only [Act.put, sq1, sq2, sq3, i64_w, i32_w]
                rfl
               refine pure_ (i := 6) (N := some 59) (v := ?_) (a' := ?_) bq33 rfl rfl (qr HT_.out (by kernel_rfl)) (fun _ _ _ h => h) (Or.inl ⟨by rfl, ?_⟩) ?_ ?_
               rotate_left
               ·intro w'
                go_simp
                with_reducible rfl
               rotate_left
               ·simp only [Act.put, sq1, sq2, sq3, i64_w, i32_w]
                rfl
               refine pure_ (i := 7) (N := some 60) (v := ?_) (a' := ?_) bq34 rfl rfl (qr HT_.out (by kernel_rfl)) (fun _ _ _ h => h) (Or.inl ⟨by rfl, ?_⟩) ?_ ?_
               rotate_left
               ·intro w'
                go_simp
                with_reducible rfl
               rotate_left
               ·simp only [Act.put, sq1, sq2, sq3, i64_w, i32_w]
                rfl
               refine pure_ (i := 10) (N := some 63) (v := ?_) (a' := ?_) bq35 rfl rfl (qr HT_.out (by kernel_rfl)) (fun _ _ _ h => h) (Or.inl ⟨by rfl, ?_⟩) ?_ ?_
               rotate_left
               ·intro w'
                go_simp
                with_reducible rfl
               rotate_left
               ·simp only [Act.put, sq1, sq2, sq3, i64_w, i32_w]
                rfl
               refine pure_ (i := 11) (N := some 64) (v := ?_) (a' := ?_) bq36 rfl rfl (qr HT_.out (by kernel_rfl)) (fun _ _ _ h => h) (Or.inl ⟨by rfl, ?_⟩) ?_ ?_
               rotate_left
               ·intro w'
                go_simp
                with_reducible rfl
               rotate_left
               ·simp only [Act.put, sq1, sq2, sq3, i64_w, i32_w]
                rfl
               refine pure_ (i := 12) (N := some 65) (v := ?_) (a' := ?_) bq37 rfl rfl (qr HT_.out (by kernel_rfl)) (fun _ _ _ h => h) (Or.inl ⟨by rfl, ?_⟩) ?_ ?_
               rotate_left
               ·intro w'
                go_simp
                with_reducible rfl
               rotate_left
               ·simp only [Act.put, sq1, sq2, sq3, i64_w, i32_w]
                rfl
               refine pure_ (i := 13) (N := some 66) (v := ?_) (a' := ?_) bq38 rfl rfl (qr HT_.out (by kernel_rfl)) (fun _ _ _ h => h) (Or.inl ⟨by rfl, ?_⟩) ?_ ?_
               rotate_left
               ·intro w'
                go_simp
                with_reducible rfl
               rotate_left
               ·simp only [Act.put, sq1, sq2, sq3, i64_w, i32_w]
                rfl
               refine take_ (i := 14) (N := some 67) (v := ?_) (a' := ?_) bq39 rfl rfl (take_ofW HT_.out HW_.out (by kernel_rfl)) (fun _ _ _ h => h) (Or.inl ⟨by rfl, ?_⟩) hHeld ?_ ?_
               rotate_left
               ·rintro w' ⟨s0, s1, s2, s3⟩
                go_simp
                with_reducible rfl
               rotate_left
               ·simp only [Act.put, sq1, sq2, sq3, i64_w, i32_w]
                rfl
               refine one_ (i := 3) (N := some 56) bq45 rfl rfl (one_of HT_.out (by kernel_rfl)) (by decide) (fun K hK => ?_)
               refine goes_ Try.func73 (by kernel_rfl) rfl #[.int .u64 (IntKind.u64.wrap (t105))] (by rfl) rfl rfl yq18 ?_
               with_reducible refine (spec_PutVar.calls k2 (IntKind.u64.wrap (t105)) t111 _ A33.out).mono ?_
               rintro e w43 ⟨rfl, hb⟩
               refine ⟨_, rfl, ?_⟩
               replace HB := Qz.mk (ql yq15 hb)
               (try clear hb)
               refine hK.out _ _ ⟨((HB.out.cell (World.block_lt_of_cell? w _ hw113_0)).trans hw113_0), ((HB.out.cell (World.block_lt_of_cell? w _ hw113_1)).trans hw113_1), ((HB.out.cell (World.block_lt_of_cell? w _ hw113_2)).trans hw113_2), ((HB.out.cell (World.block_lt_of_cell? w _ hw113_3)).trans hw113_3)⟩ (fun hHeld => ?_)
               clear hK K
               refine norm_ (a' := ?_) ?_ ?_
               rotate_left
               ·show Act.put _ (some 56) _ = _
                simp only [Act.put, sq1, sq2, sq3, i64_w, i32_w]
                rfl
               refine pure_ (i := 4) (N := some 57) (v := ?_) (a' := ?_) bq65 rfl rfl (qr HT_.out (by kernel_rfl)) (fun _ _ _ h => h) (Or.inl ⟨by rfl, ?_⟩) ?_ ?_
               rotate_left
               ·intro w'
                go_simp
                with_reducible rfl
               rotate_left
               ·simp only [Act.put, sq1, sq2, sq3, i64_w, i32_w]
                rfl
               refine one_ (i := 8) (N := some 61) bq73 rfl rfl (one_of HT_.out (by kernel_rfl)) (by decide) (fun K hK => ?_)
               refine goes_ Try.func74 (by kernel_rfl) rfl #[.string (t104.extract (t105 : Int).toNat t104.size)] (by rfl) rfl rfl yq16 ?_
               with_reducible refine (spec_PutText.calls k2 (t104.extract (t105 : Int).toNat t104.size) t112 _ A37.out).mono ?_
               rintro e w44 ⟨rfl, hb⟩
               refine ⟨_, rfl, ?_⟩
               replace HB := Qz.mk (ql yq15 hb)
               (try clear hb)
               refine hK.out _ _ ⟨((HB.out.cell (World.block_lt_of_cell? w _ hw113_0)).trans hw113_0), ((HB.out.cell (World.block_lt_of_cell? w _ hw113_1)).trans hw113_1), ((HB.out.cell (World.block_lt_of_cell? w _ hw113_2)).trans hw113_2), ((HB.out.cell (World.block_lt_of_cell? w _ hw113_3)).trans hw113_3)⟩ (fun hHeld => ?_)
               clear hK K
               refine norm_ (a' := ?_) ?_ ?_
               rotate_left
               ·show Act.put _ (some 61) _ = _
                simp only [Act.put, sq1, sq2, sq3, i64_w, i32_w]
                rfl
               refine pure_ (i := 9) (N := some 62) (v := ?_) (a' := ?_) bq97 rfl rfl (qr HT_.out (by kernel_rfl)) (fun _ _ _ h => h) (Or.inl ⟨by rfl, ?_⟩) ?_ ?_
               rotate_left
               ·intro w'
                go_simp
                with_reducible rfl
               rotate_left
               ·simp only [Act.put, sq1, sq2, sq3, i64_w, i32_w]
                rfl
               refine one_ (i := 15) (N := some 68) bq104 rfl rfl (one_of HT_.out (by kernel_rfl)) (by decide) (fun K hK => ?_)
               refine goes_ Try.func74 (by kernel_rfl) rfl #[.string ((qk l0 x10_2).f1)] (by rfl) rfl rfl yq16 ?_
               with_reducible refine (spec_PutText.calls k2 ((qk l0 x10_2).f1) t114 _ A39.out).mono ?_
               rintro e w45 ⟨rfl, hb⟩
               refine ⟨_, rfl, ?_⟩
               replace HB := Qz.mk (ql yq15 hb)
               (try clear hb)
               refine hK.out _ _ ⟨((HB.out.cell (World.block_lt_of_cell? w _ hw113_0)).trans hw113_0), ((HB.out.cell (World.block_lt_of_cell? w _ hw113_1)).trans hw113_1), ((HB.out.cell (World.block_lt_of_cell? w _ hw113_2)).trans hw113_2), ((HB.out.cell (World.block_lt_of_cell? w _ hw113_3)).trans hw113_3)⟩ (fun hHeld => ?_)
               clear hK K
               refine norm_ (a' := ?_) ?_ ?_
               rotate_left
               ·show Act.put _ (some 68) _ = _
                simp only [Act.put, sq1, sq2, sq3, i64_w, i32_w]
                rfl
               refine pure_ (i := 16) (N := some 69) (v := ?_) (a' := ?_) bq107 rfl rfl (qr HT_.out (by kernel_rfl)) (fun _ _ _ h => h) (Or.inl ⟨by rfl, ?_⟩) ?_ ?_
               rotate_left
               ·intro w'
                go_simp
                with_reducible rfl
               rotate_left
               ·simp only [Act.put, sq1, sq2, sq3, i64_w, i32_w]
                rfl
               refine pure_ (i := 17) (N := some 6) (v := ?_) (a' := ?_) bq118 rfl rfl (qr HT_.out (by kernel_rfl)) (fun _ _ _ h => h) (Or.inl ⟨by rfl, ?_⟩) ?_ ?_
               rotate_left
               ·intro w'
                go_simp
                with_reducible rfl
               rotate_left
               ·simp only [Act.put, sq1, sq2, sq3, i64_w, i32_w]
                rfl
               refine done_ (done_of HT_.out (by kernel_rfl)) ?_
               try go_wp2
               go_roundg k2
               case measure => have := HJ2.out; have := HK2.out; omega
               case rel => exact ⟨(((x6_2 ++ t111) ++ t112) ++ t114), (x7_2), (x8_2), (t104), (wrap64 (x10_2 + 1)), yq17, yq17, yq17, yq17, yq17, H', ⟨by have := HJ2.out; have := HK2.out; omega⟩, ⟨by repeat (first | (with_reducible first | exact HB.out | apply qc | apply qa | apply qb) | exact HB.out)⟩⟩
              ·rw [if_neg c40] at H
               exact absurd H (by simp)
             ·rw [if_neg c38] at H
              exact absurd H (by simp)
            ·rw [if_neg c36] at H
             exact absurd H (by simp)
           ·rw [if_neg c35] at H
            exact absurd H (by simp)
          ·rw [if_neg c34] at H
           exact absurd H (by simp)
       ·rw [if_neg c13] at H
        exact absurd H (by simp)
      ·rw [if_neg c12] at H
       have c12b0 : decide (x10_2 < (l0.length : Int)) = false := decide_eq_false c12
       clear c12
       by_cases c46 : x6_2.size + x7_2.size ≤ 9223372036854775807
       ·rw [if_pos c46] at H
        have c46b0 := eq_true c46
        have c46b1 : decide (x6_2.size + x7_2.size ≤ 9223372036854775807) = true := decide_eq_true c46
        try have c46b2 : (9223372036854775807 < x6_2.size + x7_2.size) = False := eq_false (Nat.not_lt.2 c46)
        replace H := Option.bind_eq_some_iff.mp H
        obtain ⟨t115, A470, H⟩ := H
        replace H : (if x6_2.size + x7_2.size + t115.size ≤ 9223372036854775807 then ((spec_PutFixed.f ((a1) % 4294967296)).bind fun t116 => (if x6_2.size + x7_2.size + t115.size + t116.size ≤ 9223372036854775807 then (if ((((x6_2 ++ x7_2) ++ t115) ++ t116).size : Int) > 60000 then (some ((⟨#[]⟩ : ByteArray), false)) else (some (((x6_2 ++ x7_2) ++ t115) ++ t116, true))) else (none))) else (none)) = some (r1, r2) := H
        have A47 := Qz.mk A470
        clear A470
        by_cases c48 : x6_2.size + x7_2.size + t115.size ≤ 9223372036854775807
        ·rw [if_pos c48] at H
         have c48b0 := eq_true c48
         have c48b1 : decide (x6_2.size + x7_2.size + t115.size ≤ 9223372036854775807) = true := decide_eq_true c48
         try have c48b2 : (9223372036854775807 < x6_2.size + x7_2.size + t115.size) = False := eq_false (Nat.not_lt.2 c48)
         replace H := Option.bind_eq_some_iff.mp H
         obtain ⟨t116, A490, H⟩ := H
         replace H : (if x6_2.size + x7_2.size + t115.size + t116.size ≤ 9223372036854775807 then (if ((((x6_2 ++ x7_2) ++ t115) ++ t116).size : Int) > 60000 then (some ((⟨#[]⟩ : ByteArray), false)) else (some (((x6_2 ++ x7_2) ++ t115) ++ t116, true))) else (none)) = some (r1, r2) := H
         have A49 := Qz.mk A490
         clear A490
         by_cases c50 : x6_2.size + x7_2.size + t115.size + t116.size ≤ 9223372036854775807
         ·rw [if_pos c50] at H
          have c50b0 := eq_true c50
          have c50b1 : decide (x6_2.size + x7_2.size + t115.size + t116.size ≤ 9223372036854775807) = true := decide_eq_true c50
          try have c50b2 : (9223372036854775807 < x6_2.size + x7_2.size + t115.size + t116.size) = False := eq_false (Nat.not_lt.2 c50)
          by_cases c51 : ((((x6_2 ++ x7_2) ++ t115) ++ t116).size : Int) > 60000
          ·rw [if_pos c51] at H
           have c51b0 : decide (60000 < ((((x6_2 ++ x7_2) ++ t115) ++ t116).size : Int)) = true := decide_eq_true c51
           (try (have c51s1 := c51b0; simp only [ByteArray.size_append] at c51s1))
           (try (have c51s2 := c51b0; simp only [ByteArray.size_append, Int.natCast_add] at c51s2))
           have c51b1 : decide (60000 < (((x6_2 ++ x7_2) ++ t115) ++ t116).size) = true := decide_eq_true (by omega)
           clear c51
           simp only [Option.some.injEq, Prod.mk.injEq] at H
           obtain ⟨rfl, rfl⟩ := H
           go_wp2_with (first | ((with_reducible refine qj (f := 72) rfl ?_); refine qt (some 75) rfl rfl Try.func72 (by kernel_rfl) rfl #[.int .u32 x8_2] rfl yq16 ?_; (with_reducible refine (spec_PutFixed.calls x8_2 t115 _ A47.out).mono ?_); rintro e w52 ⟨rfl, hb⟩; refine ⟨_, rfl, ?_⟩; replace HB := Qz.mk (ql yq15 hb); (try clear hb)) | ((with_reducible refine qj (f := 72) rfl ?_); refine qt (some 79) rfl rfl Try.func72 (by kernel_rfl) rfl #[.int .u32 ((a1) % 4294967296)] rfl yq16 ?_; (with_reducible refine (spec_PutFixed.calls ((a1) % 4294967296) t116 _ A49.out).mono ?_); rintro e w53 ⟨rfl, hb⟩; refine ⟨_, rfl, ?_⟩; replace HB := Qz.mk (ql yq15 hb); (try clear hb)))
           go_ret2
           exact ⟨by first | rfl | (simp [qn, qm] <;> rfl) | (simp [*, qn, qm] <;> rfl), by repeat (first | (with_reducible first | exact HB.out | apply qc | apply qa | apply qb) | exact HB.out)⟩
          ·rw [if_neg c51] at H
           have c51b0 : decide (60000 < ((((x6_2 ++ x7_2) ++ t115) ++ t116).size : Int)) = false := decide_eq_false c51
           (try (have c51s1 := c51b0; simp only [ByteArray.size_append] at c51s1))
           (try (have c51s2 := c51b0; simp only [ByteArray.size_append, Int.natCast_add] at c51s2))
           have c51b1 : decide (60000 < (((x6_2 ++ x7_2) ++ t115) ++ t116).size) = false := decide_eq_false (by omega)
           clear c51
           simp only [Option.some.injEq, Prod.mk.injEq] at H
           obtain ⟨rfl, rfl⟩ := H
           go_wp2_with (first | ((with_reducible refine qj (f := 72) rfl ?_); refine qt (some 75) rfl rfl Try.func72 (by kernel_rfl) rfl #[.int .u32 x8_2] rfl yq16 ?_; (with_reducible refine (spec_PutFixed.calls x8_2 t115 _ A47.out).mono ?_); rintro e w54 ⟨rfl, hb⟩; refine ⟨_, rfl, ?_⟩; replace HB := Qz.mk (ql yq15 hb); (try clear hb)) | ((with_reducible refine qj (f := 72) rfl ?_); refine qt (some 79) rfl rfl Try.func72 (by kernel_rfl) rfl #[.int .u32 ((a1) % 4294967296)] rfl yq16 ?_; (with_reducible refine (spec_PutFixed.calls ((a1) % 4294967296) t116 _ A49.out).mono ?_); rintro e w55 ⟨rfl, hb⟩; refine ⟨_, rfl, ?_⟩; replace HB := Qz.mk (ql yq15 hb); (try clear hb)))
           go_ret2
           exact ⟨by first | rfl | (simp [qn, qm] <;> rfl) | (simp [*, qn, qm] <;> rfl), by repeat (first | (with_reducible first | exact HB.out | apply qc | apply qa | apply qb) | exact HB.out)⟩
         ·rw [if_neg c50] at H
          exact absurd H (by simp)
        ·rw [if_neg c48] at H
         exact absurd H (by simp)
       ·rw [if_neg c46] at H
        exact absurd H (by simp)
theorem yq21 {P : Prop} (h : P := by first | (with_reducible assumption) | assumption) : P := h
def spec_TakeFixed.f (a0 : ByteArray) : Option (Int × ByteArray × Bool) := if (a0.size : Int) < 4 then (some (0, (⟨#[]⟩ : ByteArray), false)) else (if 0 < (a0.size : Int) then (if 1 < (a0.size : Int) then (if 2 < (a0.size : Int) then (if 3 < (a0.size : Int) then (if 4 ≤ (a0.size : Int) then (some (Go.bits .or .u32 (Go.bits .or .u32 (Go.bits .or .u32 ((bt a0 0) % 4294967296) ((((bt a0 1) % 4294967296) * 256) % 4294967296)) ((((bt a0 2) % 4294967296) * 65536) % 4294967296)) ((((bt a0 3) % 4294967296) * 16777216) % 4294967296), a0.extract 4 a0.size, true)) else (none)) else (none)) else (none)) else (none)) else (none))
set_option maxHeartbeats 8000000 in
set_option maxRecDepth 100000 in
theorem spec_TakeFixed.calls (a0 : ByteArray) (r1 : Int) (r2 : ByteArray) (r3 : Bool) (w : World) (h : spec_TakeFixed.f a0 = some (r1, r2, r3)) :
  Calls Try.prog 81 #[.string a0] w fun e w' => e = .returned (.tuple #[.int .u32 r1, .string r2, .bool r3]) ∧ Drawn0 w w' := by
 have H : (if (a0.size : Int) < 4 then (some (0, (⟨#[]⟩ : ByteArray), false)) else (if 0 < (a0.size : Int) then (if 1 < (a0.size : Int) then (if 2 < (a0.size : Int) then (if 3 < (a0.size : Int) then (if 4 ≤ (a0.size : Int) then (some (Go.bits .or .u32 (Go.bits .or .u32 (Go.bits .or .u32 ((bt a0 0) % 4294967296) ((((bt a0 1) % 4294967296) * 256) % 4294967296)) ((((bt a0 2) % 4294967296) * 65536) % 4294967296)) ((((bt a0 3) % 4294967296) * 16777216) % 4294967296), a0.extract 4 a0.size, true)) else (none)) else (none)) else (none)) else (none)) else (none))) = some (r1, r2, r3) := h
 clear h
 by_cases c2 : (a0.size : Int) < 4
 ·rw [if_pos c2] at H
  have c2b0 : decide ((a0.size : Int) < 4) = true := decide_eq_true c2
  have c2b1 : decide (a0.size < 4) = true := decide_eq_true (by omega)
  clear c2
  simp only [Option.some.injEq, Prod.mk.injEq] at H
  obtain ⟨rfl, rfl, rfl⟩ := H
  go_enter Try.func81, Try.ntmps81
  go_wp2
  repeat (go_quiet (fail); try go_wp2)
  go_ret3
  exact ⟨by first | rfl | (simp; done) | (simp [*]; done), by repeat (first | exact Drawn0.refl _ | apply Drawn0.step)⟩
 ·rw [if_neg c2] at H
  have c2b0 : decide ((a0.size : Int) < 4) = false := decide_eq_false c2
  have c2b1 : decide (a0.size < 4) = false := decide_eq_false (by omega)
  clear c2
  by_cases c3 : 0 < (a0.size : Int)
  ·rw [if_pos c3] at H
   have c3b0 : decide (0 < (a0.size : Int)) = true := decide_eq_true c3
   have c3b1 : decide (0 < a0.size) = true := decide_eq_true (by omega)
   clear c3
   by_cases c5 : 1 < (a0.size : Int)
   ·rw [if_pos c5] at H
    have c5b0 : decide (1 < (a0.size : Int)) = true := decide_eq_true c5
    have c5b1 : decide (1 < a0.size) = true := decide_eq_true (by omega)
    clear c5
    by_cases c7 : 2 < (a0.size : Int)
    ·rw [if_pos c7] at H
     have c7b0 : decide (2 < (a0.size : Int)) = true := decide_eq_true c7
     have c7b1 : decide (2 < a0.size) = true := decide_eq_true (by omega)
     clear c7
     by_cases c9 : 3 < (a0.size : Int)
     ·rw [if_pos c9] at H
      have c9b0 : decide (3 < (a0.size : Int)) = true := decide_eq_true c9
      have c9b1 : decide (3 < a0.size) = true := decide_eq_true (by omega)
      clear c9
      by_cases c11 : 4 ≤ (a0.size : Int)
      ·rw [if_pos c11] at H
       have c11b0 := eq_true c11
       have c11b1 : decide (4 ≤ (a0.size : Int)) = true := decide_eq_true c11
       clear c11
       simp only [Option.some.injEq, Prod.mk.injEq] at H
       obtain ⟨rfl, rfl, rfl⟩ := H
       have p4 : 0 ≤ (0 : Int) := (by omega)
       have q4 : 0 < a0.size := (by have : (0 : Int) < (a0.size : Int) := of_decide_eq_true yq21; omega)
       have hx4 : ∀ h : 0 < a0.size, ((a0[0]'h).toNat : Int) = bt a0 0 := bt_at a0 0
       clear p4
       have qi4 : (0 < (a0.size : Int)) = True := eq_true (of_decide_eq_true yq21)
       replace q4 := eq_true q4
       have p6 : 0 ≤ (1 : Int) := (by omega)
       have q6 : 1 < a0.size := (by have : (1 : Int) < (a0.size : Int) := of_decide_eq_true yq21; omega)
       have hx6 : ∀ h : 1 < a0.size, ((a0[1]'h).toNat : Int) = bt a0 1 := bt_at a0 1
       clear p6
       have qi6 : (1 < (a0.size : Int)) = True := eq_true (of_decide_eq_true yq21)
       replace q6 := eq_true q6
       have p8 : 0 ≤ (2 : Int) := (by omega)
       have q8 : 2 < a0.size := (by have : (2 : Int) < (a0.size : Int) := of_decide_eq_true yq21; omega)
       have hx8 : ∀ h : 2 < a0.size, ((a0[2]'h).toNat : Int) = bt a0 2 := bt_at a0 2
       clear p8
       have qi8 : (2 < (a0.size : Int)) = True := eq_true (of_decide_eq_true yq21)
       replace q8 := eq_true q8
       have p10 : 0 ≤ (3 : Int) := (by omega)
       have q10 : 3 < a0.size := (by have : (3 : Int) < (a0.size : Int) := of_decide_eq_true yq21; omega)
       have hx10 : ∀ h : 3 < a0.size, ((a0[3]'h).toNat : Int) = bt a0 3 := bt_at a0 3
       clear p10
       have qi10 : (3 < (a0.size : Int)) = True := eq_true (of_decide_eq_true yq21)
       replace q10 := eq_true q10
       go_enter Try.func81, Try.ntmps81
       go_wp2
       repeat (go_quiet (fail); try go_wp2)
       go_ret3
       exact ⟨by first | rfl | (simp; done) | (simp [*]; done), by repeat (first | exact Drawn0.refl _ | apply Drawn0.step)⟩
      ·rw [if_neg c11] at H
       exact absurd H (by simp)
     ·rw [if_neg c9] at H
      exact absurd H (by simp)
    ·rw [if_neg c7] at H
     exact absurd H (by simp)
   ·rw [if_neg c5] at H
    exact absurd H (by simp)
  ·rw [if_neg c3] at H
   exact absurd H (by simp)
theorem yq22 {P : Prop} (h : P := by first | (with_reducible assumption) | assumption) : P := h
theorem yq23 {P : Prop} (h : P := by first | rfl | (simp; done) | (simp [*]; done)) : P := h
mutual
def spec_TakeVar.l0 : Nat → ByteArray → Int → Int → Option (Int × ByteArray × Bool)
 | 0, _, _, _ => none
 | k + 1, x0, x5, x6 => if x6 < (x0.size : Int) then (spec_TakeVar.j1 k x0 x5 x6 (decide (x6 < 10))) else (spec_TakeVar.j1 k x0 x5 x6 false)
def spec_TakeVar.j1 : Nat → ByteArray → Int → Int → Bool → Option (Int × ByteArray × Bool)
 | 0, _, _, _, _ => none
 | k + 1, x0, x5, x6, x15 => if x15 = true then (if 0 ≤ x6 then (if x6 < (x0.size : Int) then (if x6 = 9 then (spec_TakeVar.j2 k x0 x5 x6 (IntKind.u64.wrap (Int.tmod (bt x0 x6) 128)) (decide ((bt x0 x6) > 1))) else (spec_TakeVar.j2 k x0 x5 x6 (IntKind.u64.wrap (Int.tmod (bt x0 x6) 128)) false)) else (none)) else (none)) else (some (0, (⟨#[]⟩ : ByteArray), false))
def spec_TakeVar.j2 : Nat → ByteArray → Int → Int → Int → Bool → Option (Int × ByteArray × Bool)
 | 0, _, _, _, _, _ => none
 | k + 1, x0, x5, x6, x7, x30 => if x30 = true then (some (0, (⟨#[]⟩ : ByteArray), false)) else (if 0 ≤ (IntKind.u64.wrap (wrap64 (7 * x6))) then (if 0 ≤ x6 then (if x6 < (x0.size : Int) then (if (bt x0 x6) < 128 then (if x6 > 0 then (if (bt x0 x6) = 0 then (some (0, (⟨#[]⟩ : ByteArray), false)) else (if 0 ≤ (wrap64 (x6 + 1)) then (if (wrap64 (x6 + 1)) ≤ (x0.size : Int) then (some (Go.bits .or .u64 x5 (shl .u64 x7 (IntKind.u64.wrap (wrap64 (7 * x6)))), x0.extract ((wrap64 (x6 + 1)) : Int).toNat x0.size, true)) else (none)) else (none))) else (if 0 ≤ (wrap64 (x6 + 1)) then (if (wrap64 (x6 + 1)) ≤ (x0.size : Int) then (some (Go.bits .or .u64 x5 (shl .u64 x7 (IntKind.u64.wrap (wrap64 (7 * x6)))), x0.extract ((wrap64 (x6 + 1)) : Int).toNat x0.size, true)) else (none)) else (none))) else (spec_TakeVar.l0 k x0 (Go.bits .or .u64 x5 (shl .u64 x7 (IntKind.u64.wrap (wrap64 (7 * x6))))) (wrap64 (x6 + 1)))) else (none)) else (none)) else (none))
end
def spec_TakeVar.f (k : Nat) (a0 : ByteArray) : Option (Int × ByteArray × Bool) := spec_TakeVar.l0 k a0 0 0
set_option maxHeartbeats 8000000 in
set_option maxRecDepth 100000 in
theorem spec_TakeVar.calls (k : Nat) (a0 : ByteArray) (r1 : Int) (r2 : ByteArray) (r3 : Bool) (w : World) (h : spec_TakeVar.f k a0 = some (r1, r2, r3)) :
  Calls Try.prog 82 #[.string a0] w fun e w' => e = .returned (.tuple #[.int .u64 r1, .string r2, .bool r3]) ∧ Drawn0 w w' := by
 have H : (spec_TakeVar.l0 k a0 0 0) = some (r1, r2, r3) := h
 clear h
 have H' := Qz.mk H
 clear H
 go_enter Try.func82, Try.ntmps82
 go_wp2
 repeat (go_quiet (fail); try go_wp2)
 go_loopg [5, 6] k (fun kq v5 v6 w' => ∃ (x5_1 : Int) (x6_1 : Int), v5 = .int .u64 x5_1 ∧ v6 = .int .i64 x6_1 ∧ Qz (spec_TakeVar.l0 kq a0 x5_1 x6_1 = some (r1, r2, r3)) ∧ Qz (kq ≤ k) ∧ Drawn0 w w')
 case atStart => exact ⟨(0), (0), yq23, yq23, H', ⟨Nat.le_refl _⟩, by repeat (first | exact Drawn0.refl _ | apply Drawn0.step)⟩
 case round =>
  clear H'
  obtain ⟨x5_1, x6_1, rfl, rfl, HA, HK1, ⟨m1, rfl⟩⟩ := hrel
  cases gk with
  | zero => exact absurd HA.out (by simp [spec_TakeVar.l0])
  | succ k1 =>
   have H := HA.out
   clear HA
   simp only [spec_TakeVar.l0] at H
   have HC2 := Qz.mk H
   clear H
   go_upto_region 3 with (fail)
   repeat (go_quiet (fail); go_upto_region 3 with (fail))
   go_cut [15] (fun v15 wc => ∃ (kq : Nat) (x15_1 : Bool), v15 = .bool x15_1 ∧ Qz (spec_TakeVar.j1 kq a0 x5_1 x6_1 x15_1 = some (r1, r2, r3)) ∧ Qz (kq ≤ k1) ∧ Drawn0 w wc)
   case first =>
    have H := HC2.out
    clear HC2
    by_cases c3 : x6_1 < (a0.size : Int)
    ·rw [if_pos c3] at H
     have c3b0 : decide (x6_1 < (a0.size : Int)) = true := decide_eq_true c3
     clear c3
     (first | rw [c3b0] | (simp only [i64_w, i32_w]; rw [c3b0]) | skip)
     have H' := Qz.mk H
     clear H
     go_wp2
     repeat (go_quiet (fail); try go_wp2)
     go_meet
     case rel => exact ⟨_, (decide (x6_1 < 10)), yq23, H', ⟨by have := HK1.out; first | omega | exact Nat.le_refl _⟩, by repeat (first | exact Drawn0.refl _ | apply Drawn0.step)⟩
    ·rw [if_neg c3] at H
     have c3b0 : decide (x6_1 < (a0.size : Int)) = false := decide_eq_false c3
     clear c3
     (first | rw [c3b0] | (simp only [i64_w, i32_w]; rw [c3b0]) | skip)
     have H' := Qz.mk H
     clear H
     go_wp2
     repeat (go_quiet (fail); try go_wp2)
     go_meet
     case rel => exact ⟨_, (false), yq23, H', ⟨by have := HK1.out; first | omega | exact Nat.le_refl _⟩, by repeat (first | exact Drawn0.refl _ | apply Drawn0.step)⟩
   case rest =>
    clear HC2
    try clear p2
    try clear c3
    try clear c3b0
    obtain ⟨kq, x15_1, rfl, HA, HJ1, ⟨mc1, rfl⟩⟩ := hcut
    cases kq with
    | zero => exact absurd HA.out (by simp [spec_TakeVar.j1])
    | succ kj1 =>
     have H := HA.out
     clear HA
     simp only [spec_TakeVar.j1] at H
     by_cases c4 : x15_1 = true
     ·subst c4
      have H1 : (if 0 ≤ x6_1 then (if x6_1 < (a0.size : Int) then (if x6_1 = 9 then (spec_TakeVar.j2 kj1 a0 x5_1 x6_1 (IntKind.u64.wrap (Int.tmod (bt a0 x6_1) 128)) (decide ((bt a0 x6_1) > 1))) else (spec_TakeVar.j2 kj1 a0 x5_1 x6_1 (IntKind.u64.wrap (Int.tmod (bt a0 x6_1) 128)) false)) else (none)) else (none)) = some (r1, r2, r3) := by rw [if_pos rfl] at H; exact H
      clear H
      have H := H1
      clear H1
      by_cases c5 : 0 ≤ x6_1
      ·rw [if_pos c5] at H
       have c5b0 : decide (0 ≤ x6_1) = true := decide_eq_true c5
       clear c5
       by_cases c6 : x6_1 < (a0.size : Int)
       ·rw [if_pos c6] at H
        have c6b0 : decide (x6_1 < (a0.size : Int)) = true := decide_eq_true c6
        clear c6
        have HC8 := Qz.mk H
        clear H
        have p7 : 0 ≤ (x6_1 : Int) := of_decide_eq_true yq22
        have q7 : x6_1 < (a0.size : Int) := of_decide_eq_true yq22
        have hx7 := bt_at a0 x6_1
        replace p7 := eq_true p7
        replace q7 := eq_true q7
        go_upto_region 6 with (fail)
        repeat (go_quiet (fail); go_upto_region 6 with (fail))
        go_cut [30] (fun v30 wc => ∃ (kq : Nat) (x30_7 : Bool), v30 = .bool x30_7 ∧ Qz (spec_TakeVar.j2 kq a0 x5_1 x6_1 (IntKind.u64.wrap (Int.tmod (bt a0 x6_1) 128)) x30_7 = some (r1, r2, r3)) ∧ Qz (kq ≤ kj1) ∧ Drawn0 w wc)
        case first =>
         have H := HC8.out
         clear HC8
         by_cases c9 : x6_1 = 9
         ·rw [if_pos c9] at H
          have c9b0 : (x6_1 == 9) = true := beq_iff_eq.mpr c9
          have c9b1 : (x6_1 != 9) = false := bne_eq_false_iff_eq.mpr c9
          clear c9
          (first | rw [c9b0] | (simp only [i64_w, i32_w]; rw [c9b0]) | skip)
          have H' := Qz.mk H
          clear H
          have p10 : 0 ≤ (x6_1 : Int) := of_decide_eq_true yq22
          have q10 : x6_1 < (a0.size : Int) := of_decide_eq_true yq22
          have hx10 := bt_at a0 x6_1
          replace p10 := eq_true p10
          replace q10 := eq_true q10
          go_wp2
          repeat (go_quiet (fail); try go_wp2)
          go_meet
          case rel => exact ⟨_, (decide ((bt a0 x6_1) > 1)), yq23, H', ⟨by have := HK1.out; have := HJ1.out; first | omega | exact Nat.le_refl _⟩, by repeat (first | exact Drawn0.refl _ | apply Drawn0.step)⟩
         ·rw [if_neg c9] at H
          have c9b0 : (x6_1 == 9) = false := beq_eq_false_iff_ne.mpr c9
          have c9b1 : (x6_1 != 9) = true := bne_iff_ne.mpr c9
          (first | rw [c9b0] | (simp only [i64_w, i32_w]; rw [c9b0]) | skip)
          have H' := Qz.mk H
          clear H
          go_wp2
          repeat (go_quiet (fail); try go_wp2)
          go_meet
          case rel => exact ⟨_, (false), yq23, H', ⟨by have := HK1.out; have := HJ1.out; first | omega | exact Nat.le_refl _⟩, by repeat (first | exact Drawn0.refl _ | apply Drawn0.step)⟩
        case rest =>
         clear HC8
         try clear c1
         try clear p1
         try clear q1
         try clear hx1
         try clear p2
         try clear c3
         try clear c3b0
         try clear c4
         try clear c5
         try clear c5b0
         try clear c6
         try clear c6b0
         try clear p7
         try clear q7
         try clear hx7
         try clear c8
         try clear c9
         try clear c9b0
         try clear c9b1
         try clear p10
         try clear q10
         try clear hx10
         try clear p10
         try clear p2
         try clear p7
         try clear q10
         try clear q7
         obtain ⟨kq, x30_7, rfl, HA, HJ7, ⟨mc7, rfl⟩⟩ := hcut
         cases kq with
         | zero => exact absurd HA.out (by simp [spec_TakeVar.j2])
         | succ kj7 =>
          have H := HA.out
          clear HA
          simp only [spec_TakeVar.j2] at H
          by_cases c11 : x30_7 = true
          ·subst c11
           have H1 : (some (0, (⟨#[]⟩ : ByteArray), false)) = some (r1, r2, r3) := by rw [if_pos rfl] at H; exact H
           clear H
           have H := H1
           clear H1
           simp only [Option.some.injEq, Prod.mk.injEq] at H
           obtain ⟨rfl, rfl, rfl⟩ := H
           go_wp2
           repeat (go_quiet (fail); try go_wp2)
           go_ret3
           exact ⟨by first | rfl | (simp; done) | (simp [*]; done), by repeat (first | exact Drawn0.refl _ | apply Drawn0.step)⟩
          ·replace c11 := Bool.eq_false_iff.mpr c11
           subst c11
           have H1 : (if 0 ≤ (IntKind.u64.wrap (wrap64 (7 * x6_1))) then (if 0 ≤ x6_1 then (if x6_1 < (a0.size : Int) then (if (bt a0 x6_1) < 128 then (if x6_1 > 0 then (if (bt a0 x6_1) = 0 then (some (0, (⟨#[]⟩ : ByteArray), false)) else (if 0 ≤ (wrap64 (x6_1 + 1)) then (if (wrap64 (x6_1 + 1)) ≤ (a0.size : Int) then (some (Go.bits .or .u64 x5_1 (shl .u64 (IntKind.u64.wrap (Int.tmod (bt a0 x6_1) 128)) (IntKind.u64.wrap (wrap64 (7 * x6_1)))), a0.extract ((wrap64 (x6_1 + 1)) : Int).toNat a0.size, true)) else (none)) else (none))) else (if 0 ≤ (wrap64 (x6_1 + 1)) then (if (wrap64 (x6_1 + 1)) ≤ (a0.size : Int) then (some (Go.bits .or .u64 x5_1 (shl .u64 (IntKind.u64.wrap (Int.tmod (bt a0 x6_1) 128)) (IntKind.u64.wrap (wrap64 (7 * x6_1)))), a0.extract ((wrap64 (x6_1 + 1)) : Int).toNat a0.size, true)) else (none)) else (none))) else (spec_TakeVar.l0 kj7 a0 (Go.bits .or .u64 x5_1 (shl .u64 (IntKind.u64.wrap (Int.tmod (bt a0 x6_1) 128)) (IntKind.u64.wrap (wrap64 (7 * x6_1))))) (wrap64 (x6_1 + 1)))) else (none)) else (none)) else (none)) = some (r1, r2, r3) := by rw [if_neg (show ¬ (false = true) by decide)] at H; exact H
           clear H
           have H := H1
           clear H1
           obtain ⟨ji12, hji12⟩ : ∃ j_ : Int, (IntKind.u64.wrap (wrap64 (7 * x6_1))) = j_ := ⟨_, rfl⟩
           replace H : (if 0 ≤ (ji12) then (if 0 ≤ x6_1 then (if x6_1 < (a0.size : Int) then (if (bt a0 x6_1) < 128 then (if x6_1 > 0 then (if (bt a0 x6_1) = 0 then (some (0, (⟨#[]⟩ : ByteArray), false)) else (if 0 ≤ (wrap64 (x6_1 + 1)) then (if (wrap64 (x6_1 + 1)) ≤ (a0.size : Int) then (some (Go.bits .or .u64 x5_1 (shl .u64 (IntKind.u64.wrap (Int.tmod (bt a0 x6_1) 128)) (ji12)), a0.extract ((wrap64 (x6_1 + 1)) : Int).toNat a0.size, true)) else (none)) else (none))) else (if 0 ≤ (wrap64 (x6_1 + 1)) then (if (wrap64 (x6_1 + 1)) ≤ (a0.size : Int) then (some (Go.bits .or .u64 x5_1 (shl .u64 (IntKind.u64.wrap (Int.tmod (bt a0 x6_1) 128)) (ji12)), a0.extract ((wrap64 (x6_1 + 1)) : Int).toNat a0.size, true)) else (none)) else (none))) else (spec_TakeVar.l0 kj7 a0 (Go.bits .or .u64 x5_1 (shl .u64 (IntKind.u64.wrap (Int.tmod (bt a0 x6_1) 128)) (ji12))) (wrap64 (x6_1 + 1)))) else (none)) else (none)) else (none)) = some (r1, r2, r3) := by first | (rw [hji12] at H; exact H) | (simp only [hji12] at H ⊢; exact H)
           by_cases c13 : 0 ≤ (ji12)
           ·rw [if_pos c13] at H
            have c13b0 := eq_true c13
            have c13b1 : decide (0 ≤ (ji12)) = true := decide_eq_true c13
            clear c13
            obtain ⟨ji14, hji14⟩ : ∃ j_ : Int, (shl .u64 (IntKind.u64.wrap (Int.tmod (bt a0 x6_1) 128)) (ji12)) = j_ := ⟨_, rfl⟩
            replace H : (if 0 ≤ x6_1 then (if x6_1 < (a0.size : Int) then (if (bt a0 x6_1) < 128 then (if x6_1 > 0 then (if (bt a0 x6_1) = 0 then (some (0, (⟨#[]⟩ : ByteArray), false)) else (if 0 ≤ (wrap64 (x6_1 + 1)) then (if (wrap64 (x6_1 + 1)) ≤ (a0.size : Int) then (some (Go.bits .or .u64 x5_1 (ji14), a0.extract ((wrap64 (x6_1 + 1)) : Int).toNat a0.size, true)) else (none)) else (none))) else (if 0 ≤ (wrap64 (x6_1 + 1)) then (if (wrap64 (x6_1 + 1)) ≤ (a0.size : Int) then (some (Go.bits .or .u64 x5_1 (ji14), a0.extract ((wrap64 (x6_1 + 1)) : Int).toNat a0.size, true)) else (none)) else (none))) else (spec_TakeVar.l0 kj7 a0 (Go.bits .or .u64 x5_1 (ji14)) (wrap64 (x6_1 + 1)))) else (none)) else (none)) = some (r1, r2, r3) := by first | (rw [hji14] at H; exact H) | (simp only [hji14] at H ⊢; exact H)
            have hji14_ : (IntKind.u64.wrap ((IntKind.u64.wrap (Int.tmod (bt a0 x6_1) 128)) * 2 ^ min (ji12).toNat 64)) = ji14 := hji14
            have hji14z : (ji12) ≤ 64 → (IntKind.u64.wrap ((IntKind.u64.wrap (Int.tmod (bt a0 x6_1) 128)) * 2 ^ (ji12).toNat)) = ji14 := shl_small hji14
            by_cases c15 : 0 ≤ x6_1
            ·rw [if_pos c15] at H
             have c15b0 : decide (0 ≤ x6_1) = true := decide_eq_true c15
             clear c15
             by_cases c16 : x6_1 < (a0.size : Int)
             ·rw [if_pos c16] at H
              have c16b0 : decide (x6_1 < (a0.size : Int)) = true := decide_eq_true c16
              clear c16
              by_cases c18 : (bt a0 x6_1) < 128
              ·rw [if_pos c18] at H
               have c18b0 : decide ((bt a0 x6_1) < 128) = true := decide_eq_true c18
               clear c18
               by_cases c19 : x6_1 > 0
               ·rw [if_pos c19] at H
                have c19b0 : decide (0 < x6_1) = true := decide_eq_true c19
                clear c19
                by_cases c21 : (bt a0 x6_1) = 0
                ·rw [if_pos c21] at H
                 have c21b0 : ((bt a0 x6_1) == 0) = true := beq_iff_eq.mpr c21
                 have c21b1 : ((bt a0 x6_1) != 0) = false := bne_eq_false_iff_eq.mpr c21
                 clear c21
                 simp only [Option.some.injEq, Prod.mk.injEq] at H
                 obtain ⟨rfl, rfl, rfl⟩ := H
                 have p17 : 0 ≤ (x6_1 : Int) := of_decide_eq_true yq22
                 have q17 : x6_1 < (a0.size : Int) := of_decide_eq_true yq22
                 have hx17 := bt_at a0 x6_1
                 replace p17 := eq_true p17
                 replace q17 := eq_true q17
                 have p20 : 0 ≤ (x6_1 : Int) := of_decide_eq_true yq22
                 have q20 : x6_1 < (a0.size : Int) := of_decide_eq_true yq22
                 have hx20 := bt_at a0 x6_1
                 replace p20 := eq_true p20
                 replace q20 := eq_true q20
                 go_wp2
                 repeat (go_quiet (fail); try go_wp2)
                 go_ret3
                 exact ⟨by first | rfl | (simp; done) | (simp only [← hji12, ← hji14] <;> (first | rfl | simp)) | (simp [*]; done), by repeat (first | exact Drawn0.refl _ | apply Drawn0.step)⟩
                ·rw [if_neg c21] at H
                 have c21b0 : ((bt a0 x6_1) == 0) = false := beq_eq_false_iff_ne.mpr c21
                 have c21b1 : ((bt a0 x6_1) != 0) = true := bne_iff_ne.mpr c21
                 obtain ⟨ji22, hji22⟩ : ∃ j_ : Int, (wrap64 (x6_1 + 1)) = j_ := ⟨_, rfl⟩
                 replace H : (if 0 ≤ (ji22) then (if (ji22) ≤ (a0.size : Int) then (some (Go.bits .or .u64 x5_1 (ji14), a0.extract ((ji22) : Int).toNat a0.size, true)) else (none)) else (none)) = some (r1, r2, r3) := by first | (rw [hji22] at H; exact H) | (simp only [hji22] at H ⊢; exact H)
                 have hji22w : (IntKind.i64.wrap (x6_1 + 1)) = ji22 := (i64_w _).trans hji22
                 by_cases c23 : 0 ≤ (ji22)
                 ·rw [if_pos c23] at H
                  have c23b0 := eq_true c23
                  have c23b1 : decide (0 ≤ (ji22)) = true := decide_eq_true c23
                  clear c23
                  by_cases c24 : (ji22) ≤ (a0.size : Int)
                  ·rw [if_pos c24] at H
                   have c24b0 := eq_true c24
                   have c24b1 : decide ((ji22) ≤ (a0.size : Int)) = true := decide_eq_true c24
                   clear c24
                   simp only [Option.some.injEq, Prod.mk.injEq] at H
                   obtain ⟨rfl, rfl, rfl⟩ := H
                   have p17 : 0 ≤ (x6_1 : Int) := of_decide_eq_true yq22
                   have q17 : x6_1 < (a0.size : Int) := of_decide_eq_true yq22
                   have hx17 := bt_at a0 x6_1
                   replace p17 := eq_true p17
                   replace q17 := eq_true q17
                   have p20 : 0 ≤ (x6_1 : Int) := of_decide_eq_true yq22
                   have q20 : x6_1 < (a0.size : Int) := of_decide_eq_true yq22
                   have hx20 := bt_at a0 x6_1
                   replace p20 := eq_true p20
                   replace q20 := eq_true q20
                   go_wp2
                   repeat (go_quiet (fail); try go_wp2)
                   go_ret3
                   exact ⟨by first | rfl | (simp; done) | (simp only [← hji12, ← hji14, ← hji22] <;> (first | rfl | simp)) | (simp [*]; done), by repeat (first | exact Drawn0.refl _ | apply Drawn0.step)⟩
                  ·rw [if_neg c24] at H
                   exact absurd H (by simp)
                 ·rw [if_neg c23] at H
                  exact absurd H (by simp)
               ·rw [if_neg c19] at H
                have c19b0 : decide (0 < x6_1) = false := decide_eq_false c19
                clear c19
                obtain ⟨ji25, hji25⟩ : ∃ j_ : Int, (wrap64 (x6_1 + 1)) = j_ := ⟨_, rfl⟩
                replace H : (if 0 ≤ (ji25) then (if (ji25) ≤ (a0.size : Int) then (some (Go.bits .or .u64 x5_1 (ji14), a0.extract ((ji25) : Int).toNat a0.size, true)) else (none)) else (none)) = some (r1, r2, r3) := by first | (rw [hji25] at H; exact H) | (simp only [hji25] at H ⊢; exact H)
                have hji25w : (IntKind.i64.wrap (x6_1 + 1)) = ji25 := (i64_w _).trans hji25
                by_cases c26 : 0 ≤ (ji25)
                ·rw [if_pos c26] at H
                 have c26b0 := eq_true c26
                 have c26b1 : decide (0 ≤ (ji25)) = true := decide_eq_true c26
                 clear c26
                 by_cases c27 : (ji25) ≤ (a0.size : Int)
                 ·rw [if_pos c27] at H
                  have c27b0 := eq_true c27
                  have c27b1 : decide ((ji25) ≤ (a0.size : Int)) = true := decide_eq_true c27
                  clear c27
                  simp only [Option.some.injEq, Prod.mk.injEq] at H
                  obtain ⟨rfl, rfl, rfl⟩ := H
                  have p17 : 0 ≤ (x6_1 : Int) := of_decide_eq_true yq22
                  have q17 : x6_1 < (a0.size : Int) := of_decide_eq_true yq22
                  have hx17 := bt_at a0 x6_1
                  replace p17 := eq_true p17
                  replace q17 := eq_true q17
                  go_wp2
                  repeat (go_quiet (fail); try go_wp2)
                  go_ret3
                  exact ⟨by first | rfl | (simp; done) | (simp only [← hji12, ← hji14, ← hji25] <;> (first | rfl | simp)) | (simp [*]; done), by repeat (first | exact Drawn0.refl _ | apply Drawn0.step)⟩
                 ·rw [if_neg c27] at H
                  exact absurd H (by simp)
                ·rw [if_neg c26] at H
                 exact absurd H (by simp)
              ·rw [if_neg c18] at H
               have c18b0 : decide ((bt a0 x6_1) < 128) = false := decide_eq_false c18
               clear c18
               have H' := Qz.mk H
               clear H
               have p17 : 0 ≤ (x6_1 : Int) := of_decide_eq_true yq22
               have q17 : x6_1 < (a0.size : Int) := of_decide_eq_true yq22
               have hx17 := bt_at a0 x6_1
               replace p17 := eq_true p17
               replace q17 := eq_true q17
               go_wp2
               repeat (go_quiet (fail); try go_wp2)
               go_roundg kj7
               case measure => have := HK1.out; have := HJ1.out; have := HJ7.out; omega
               case rel => exact ⟨(Go.bits .or .u64 x5_1 (ji14)), (wrap64 (x6_1 + 1)), (by first | rfl | (simp; done) | (simp only [← hji14] <;> (first | rfl | simp)) | (simp [*]; done)), yq23, H', ⟨by have := HK1.out; have := HJ1.out; have := HJ7.out; omega⟩, by repeat (first | exact Drawn0.refl _ | apply Drawn0.step)⟩
             ·rw [if_neg c16] at H
              exact absurd H (by simp)
            ·rw [if_neg c15] at H
             exact absurd H (by simp)
           ·rw [if_neg c13] at H
            exact absurd H (by simp)
       ·rw [if_neg c6] at H
        exact absurd H (by simp)
      ·rw [if_neg c5] at H
       exact absurd H (by simp)
     ·replace c4 := Bool.eq_false_iff.mpr c4
      subst c4
      have H1 : (some (0, (⟨#[]⟩ : ByteArray), false)) = some (r1, r2, r3) := by rw [if_neg (show ¬ (false = true) by decide)] at H; exact H
      clear H
      have H := H1
      clear H1
      simp only [Option.some.injEq, Prod.mk.injEq] at H
      obtain ⟨rfl, rfl, rfl⟩ := H
      go_wp2
      repeat (go_quiet (fail); try go_wp2)
      go_ret3
      exact ⟨by first | rfl | (simp; done) | (simp [*]; done), by repeat (first | exact Drawn0.refl _ | apply Drawn0.step)⟩
def spec_TakeText.f (k : Nat) (a0 : ByteArray) : Option (ByteArray × ByteArray × Bool) := (spec_TakeVar.f k a0).bind fun bt101 => (if bt101.2.2 = true then (if bt101.1 > 60000 then (some ((⟨#[]⟩ : ByteArray), (⟨#[]⟩ : ByteArray), false)) else (if bt101.1 > (IntKind.u64.wrap ((bt101.2.1.size : Int))) then (some ((⟨#[]⟩ : ByteArray), (⟨#[]⟩ : ByteArray), false)) else (if 0 ≤ bt101.1 then (if bt101.1 ≤ (bt101.2.1.size : Int) then (some (bt101.2.1.extract 0 (bt101.1 : Int).toNat, bt101.2.1.extract (bt101.1 : Int).toNat bt101.2.1.size, true)) else (none)) else (none)))) else (some ((⟨#[]⟩ : ByteArray), (⟨#[]⟩ : ByteArray), false)))
set_option maxHeartbeats 8000000 in
set_option maxRecDepth 100000 in
theorem spec_TakeText.calls (k : Nat) (a0 : ByteArray) (r1 : ByteArray) (r2 : ByteArray) (r3 : Bool) (w : World) (h : spec_TakeText.f k a0 = some (r1, r2, r3)) :
  Calls Try.prog 83 #[.string a0] w fun e w' => e = .returned (.tuple #[.string r1, .string r2, .bool r3]) ∧ Drawn0 w w' := by
 have H : ((spec_TakeVar.f k a0).bind fun bt101 => (if bt101.2.2 = true then (if bt101.1 > 60000 then (some ((⟨#[]⟩ : ByteArray), (⟨#[]⟩ : ByteArray), false)) else (if bt101.1 > (IntKind.u64.wrap ((bt101.2.1.size : Int))) then (some ((⟨#[]⟩ : ByteArray), (⟨#[]⟩ : ByteArray), false)) else (if 0 ≤ bt101.1 then (if bt101.1 ≤ (bt101.2.1.size : Int) then (some (bt101.2.1.extract 0 (bt101.1 : Int).toNat, bt101.2.1.extract (bt101.1 : Int).toNat bt101.2.1.size, true)) else (none)) else (none)))) else (some ((⟨#[]⟩ : ByteArray), (⟨#[]⟩ : ByteArray), false)))) = some (r1, r2, r3) := h
 clear h
 replace H := Option.bind_eq_some_iff.mp H
 obtain ⟨⟨t101, t102, t103⟩, A20, H⟩ := H
 replace H : (if t103 = true then (if t101 > 60000 then (some ((⟨#[]⟩ : ByteArray), (⟨#[]⟩ : ByteArray), false)) else (if t101 > (IntKind.u64.wrap ((t102.size : Int))) then (some ((⟨#[]⟩ : ByteArray), (⟨#[]⟩ : ByteArray), false)) else (if 0 ≤ t101 then (if t101 ≤ (t102.size : Int) then (some (t102.extract 0 (t101 : Int).toNat, t102.extract (t101 : Int).toNat t102.size, true)) else (none)) else (none)))) else (some ((⟨#[]⟩ : ByteArray), (⟨#[]⟩ : ByteArray), false))) = some (r1, r2, r3) := H
 have A2 := Qz.mk A20
 clear A20
 by_cases c3 : t103 = true
 ·subst c3
  have H1 : (if t101 > 60000 then (some ((⟨#[]⟩ : ByteArray), (⟨#[]⟩ : ByteArray), false)) else (if t101 > (IntKind.u64.wrap ((t102.size : Int))) then (some ((⟨#[]⟩ : ByteArray), (⟨#[]⟩ : ByteArray), false)) else (if 0 ≤ t101 then (if t101 ≤ (t102.size : Int) then (some (t102.extract 0 (t101 : Int).toNat, t102.extract (t101 : Int).toNat t102.size, true)) else (none)) else (none)))) = some (r1, r2, r3) := by rw [if_pos rfl] at H; exact H
  clear H
  have H := H1
  clear H1
  by_cases c4 : t101 > 60000
  ·rw [if_pos c4] at H
   have c4b0 : decide (60000 < t101) = true := decide_eq_true c4
   clear c4
   simp only [Option.some.injEq, Prod.mk.injEq] at H
   obtain ⟨rfl, rfl, rfl⟩ := H
   go_enter Try.func83, Try.ntmps83
   go_wp2_with (first | (go_at_call 82; (with_reducible refine (spec_TakeVar.calls k a0 t101 t102 true _ A2.out).mono ?_); rintro e w' ⟨rfl, ⟨nd, rfl⟩⟩; (try first | exact ⟨rfl, _, World.drewN_drewN _ _ _⟩ | exact ⟨rfl, _, Eq.trans (World.drewN_drewN _ _ _) (congrArg (World.drewN _) (Nat.add_assoc _ _ _))⟩)))
   repeat (go_quiet (first | (go_at_call 82; (with_reducible refine (spec_TakeVar.calls k a0 t101 t102 true _ A2.out).mono ?_); rintro e w' ⟨rfl, ⟨nd, rfl⟩⟩; (try first | exact ⟨rfl, _, World.drewN_drewN _ _ _⟩ | exact ⟨rfl, _, Eq.trans (World.drewN_drewN _ _ _) (congrArg (World.drewN _) (Nat.add_assoc _ _ _))⟩))); try go_wp2_with (first | (go_at_call 82; (with_reducible refine (spec_TakeVar.calls k a0 t101 t102 true _ A2.out).mono ?_); rintro e w' ⟨rfl, ⟨nd, rfl⟩⟩; (try first | exact ⟨rfl, _, World.drewN_drewN _ _ _⟩ | exact ⟨rfl, _, Eq.trans (World.drewN_drewN _ _ _) (congrArg (World.drewN _) (Nat.add_assoc _ _ _))⟩))))
   go_ret3
   exact ⟨by first | rfl | (simp; done) | (simp [*]; done), by repeat (first | exact Drawn0.refl _ | apply Drawn0.step)⟩
  ·rw [if_neg c4] at H
   have c4b0 : decide (60000 < t101) = false := decide_eq_false c4
   clear c4
   by_cases c5 : t101 > (IntKind.u64.wrap ((t102.size : Int)))
   ·rw [if_pos c5] at H
    have c5b0 : decide ((IntKind.u64.wrap ((t102.size : Int))) < t101) = true := decide_eq_true c5
    clear c5
    simp only [Option.some.injEq, Prod.mk.injEq] at H
    obtain ⟨rfl, rfl, rfl⟩ := H
    go_enter Try.func83, Try.ntmps83
    go_wp2_with (first | (go_at_call 82; (with_reducible refine (spec_TakeVar.calls k a0 t101 t102 true _ A2.out).mono ?_); rintro e w' ⟨rfl, ⟨nd, rfl⟩⟩; (try first | exact ⟨rfl, _, World.drewN_drewN _ _ _⟩ | exact ⟨rfl, _, Eq.trans (World.drewN_drewN _ _ _) (congrArg (World.drewN _) (Nat.add_assoc _ _ _))⟩)))
    repeat (go_quiet (first | (go_at_call 82; (with_reducible refine (spec_TakeVar.calls k a0 t101 t102 true _ A2.out).mono ?_); rintro e w' ⟨rfl, ⟨nd, rfl⟩⟩; (try first | exact ⟨rfl, _, World.drewN_drewN _ _ _⟩ | exact ⟨rfl, _, Eq.trans (World.drewN_drewN _ _ _) (congrArg (World.drewN _) (Nat.add_assoc _ _ _))⟩))); try go_wp2_with (first | (go_at_call 82; (with_reducible refine (spec_TakeVar.calls k a0 t101 t102 true _ A2.out).mono ?_); rintro e w' ⟨rfl, ⟨nd, rfl⟩⟩; (try first | exact ⟨rfl, _, World.drewN_drewN _ _ _⟩ | exact ⟨rfl, _, Eq.trans (World.drewN_drewN _ _ _) (congrArg (World.drewN _) (Nat.add_assoc _ _ _))⟩))))
    go_ret3
    exact ⟨by first | rfl | (simp; done) | (simp [*]; done), by repeat (first | exact Drawn0.refl _ | apply Drawn0.step)⟩
   ·rw [if_neg c5] at H
    have c5b0 : decide ((IntKind.u64.wrap ((t102.size : Int))) < t101) = false := decide_eq_false c5
    clear c5
    by_cases c6 : 0 ≤ t101
    ·rw [if_pos c6] at H
     have c6b0 := eq_true c6
     have c6b1 : decide (0 ≤ t101) = true := decide_eq_true c6
     clear c6
     by_cases c7 : t101 ≤ (t102.size : Int)
     ·rw [if_pos c7] at H
      have c7b0 := eq_true c7
      have c7b1 : decide (t101 ≤ (t102.size : Int)) = true := decide_eq_true c7
      clear c7
      have c8b0 := eq_true (of_decide_eq_true (by first | (with_reducible assumption) | assumption) : 0 ≤ t101)
      have c9b0 := eq_true (of_decide_eq_true (by first | (with_reducible assumption) | assumption) : t101 ≤ (t102.size : Int))
      simp only [Option.some.injEq, Prod.mk.injEq] at H
      obtain ⟨rfl, rfl, rfl⟩ := H
      go_enter Try.func83, Try.ntmps83
      go_wp2_with (first | (go_at_call 82; (with_reducible refine (spec_TakeVar.calls k a0 t101 t102 true _ A2.out).mono ?_); rintro e w' ⟨rfl, ⟨nd, rfl⟩⟩; (try first | exact ⟨rfl, _, World.drewN_drewN _ _ _⟩ | exact ⟨rfl, _, Eq.trans (World.drewN_drewN _ _ _) (congrArg (World.drewN _) (Nat.add_assoc _ _ _))⟩)))
      repeat (go_quiet (first | (go_at_call 82; (with_reducible refine (spec_TakeVar.calls k a0 t101 t102 true _ A2.out).mono ?_); rintro e w' ⟨rfl, ⟨nd, rfl⟩⟩; (try first | exact ⟨rfl, _, World.drewN_drewN _ _ _⟩ | exact ⟨rfl, _, Eq.trans (World.drewN_drewN _ _ _) (congrArg (World.drewN _) (Nat.add_assoc _ _ _))⟩))); try go_wp2_with (first | (go_at_call 82; (with_reducible refine (spec_TakeVar.calls k a0 t101 t102 true _ A2.out).mono ?_); rintro e w' ⟨rfl, ⟨nd, rfl⟩⟩; (try first | exact ⟨rfl, _, World.drewN_drewN _ _ _⟩ | exact ⟨rfl, _, Eq.trans (World.drewN_drewN _ _ _) (congrArg (World.drewN _) (Nat.add_assoc _ _ _))⟩))))
      go_ret3
      exact ⟨by first | rfl | (simp; done) | (simp [*]; done), by repeat (first | exact Drawn0.refl _ | apply Drawn0.step)⟩
     ·rw [if_neg c7] at H
      exact absurd H (by simp)
    ·rw [if_neg c6] at H
     exact absurd H (by simp)
 ·replace c3 := Bool.eq_false_iff.mpr c3
  subst c3
  have H1 : (some ((⟨#[]⟩ : ByteArray), (⟨#[]⟩ : ByteArray), false)) = some (r1, r2, r3) := by rw [if_neg (show ¬ (false = true) by decide)] at H; exact H
  clear H
  have H := H1
  clear H1
  simp only [Option.some.injEq, Prod.mk.injEq] at H
  obtain ⟨rfl, rfl, rfl⟩ := H
  go_enter Try.func83, Try.ntmps83
  go_wp2_with (first | (go_at_call 82; (with_reducible refine (spec_TakeVar.calls k a0 t101 t102 false _ A2.out).mono ?_); rintro e w' ⟨rfl, ⟨nd, rfl⟩⟩; (try first | exact ⟨rfl, _, World.drewN_drewN _ _ _⟩ | exact ⟨rfl, _, Eq.trans (World.drewN_drewN _ _ _) (congrArg (World.drewN _) (Nat.add_assoc _ _ _))⟩)))
  repeat (go_quiet (first | (go_at_call 82; (with_reducible refine (spec_TakeVar.calls k a0 t101 t102 false _ A2.out).mono ?_); rintro e w' ⟨rfl, ⟨nd, rfl⟩⟩; (try first | exact ⟨rfl, _, World.drewN_drewN _ _ _⟩ | exact ⟨rfl, _, Eq.trans (World.drewN_drewN _ _ _) (congrArg (World.drewN _) (Nat.add_assoc _ _ _))⟩))); try go_wp2_with (first | (go_at_call 82; (with_reducible refine (spec_TakeVar.calls k a0 t101 t102 false _ A2.out).mono ?_); rintro e w' ⟨rfl, ⟨nd, rfl⟩⟩; (try first | exact ⟨rfl, _, World.drewN_drewN _ _ _⟩ | exact ⟨rfl, _, Eq.trans (World.drewN_drewN _ _ _) (congrArg (World.drewN _) (Nat.add_assoc _ _ _))⟩))))
  go_ret3
  exact ⟨by first | rfl | (simp; done) | (simp [*]; done), by repeat (first | exact Drawn0.refl _ | apply Drawn0.step)⟩
end Go.Proofs.Ytidjdkodgddfcaa.P
end
