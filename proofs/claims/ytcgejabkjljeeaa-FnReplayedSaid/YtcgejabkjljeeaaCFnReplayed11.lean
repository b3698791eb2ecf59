/- Proved: the law FnReplayed of the given program returns true for every input of its Go types and leaves each argument as it was; no condition. (Part 12 of 17.) -/
import Derived.Test.YtcgejabkjljeeaaCFnReplayed4
import Derived.Test.YtcgejabkjljeeaaCFnReplayed5
import Derived.Shelf.SlSortCmp.KitK
import Derived.Shelf.SlSortCmp.InsertionK
import Derived.Sort.WalkB2
import Derived.Sort.WalkB12
import Derived.Deep.LoopGhost
section
namespace Go.Proofs.Ytcgejabkjljeeaa.P
open Go.RowKit Go.Proofs.YtcgejabkjljeeaaW.PrintWords Go.Proofs.YtcgejabkjljeeaaW.PrintLast Go.Proofs.YtcgejabkjljeeaaW.PrintMore
attribute [local go_sem] str_gtr str_leq str_geq max2_int min2_int max_two min_two qe1 qd1 max_four min_four
set_option linter.unusedVariables false
set_option linter.unusedSimpArgs false
end Go.Proofs.Ytcgejabkjljeeaa.P
namespace Go.Proofs
open Go.Shelf Go.RowKit Go.Lib Go.Sort
end Go.Proofs
namespace Go.Proofs.Ytcgejabkjljeeaa.P
open Go.Shelf Go.RowKit Go.Lib Go.Sort
structure SortEnv (P : Program) : Prop where
 mixed : P.follows .mixedOrders = true
 f126 : P.funcs[126]? = some Try.f126
 f125 : P.funcs[125]? = some Try.f125
 f124 : P.funcs[124]? = some Try.f124
 f123 : P.funcs[123]? = some Try.f123
 f116 : P.funcs[116]? = some Try.f116
 f95 : P.funcs[95]? = some Try.f95
 t0 : P.underlying 0 = some (TypeDesc.tuple #[])
 a0 : ∀ w, (isAgg 0).run P w = .ok false w
 z0 : ∀ w, (Go.sizeOf 0).run P w = .ok 1 w
 v0 : ∀ w, (zeroValue 0).run P w = .ok (Value.tuple #[]) w
 t3 : P.underlying 3 = some (TypeDesc.int IntKind.i64)
 a3 : ∀ w, (isAgg 3).run P w = .ok false w
 z3 : ∀ w, (Go.sizeOf 3).run P w = .ok 1 w
 v3 : ∀ w, (zeroValue 3).run P w = .ok (Value.int IntKind.i64 0) w
 t4 : P.underlying 4 = some (TypeDesc.bool)
 a4 : ∀ w, (isAgg 4).run P w = .ok false w
 z4 : ∀ w, (Go.sizeOf 4).run P w = .ok 1 w
 v4 : ∀ w, (zeroValue 4).run P w = .ok (Value.bool false) w
 t139 : P.underlying 139 = some (TypeDesc.int IntKind.u64)
 a139 : ∀ w, (isAgg 139).run P w = .ok false w
 z139 : ∀ w, (Go.sizeOf 139).run P w = .ok 1 w
 v139 : ∀ w, (zeroValue 139).run P w = .ok (Value.int IntKind.u64 0) w
 t30 : P.underlying 30 = some (TypeDesc.slice 66)
 a30 : ∀ w, (isAgg 30).run P w = .ok false w
 z30 : ∀ w, (Go.sizeOf 30).run P w = .ok 1 w
 v30 : ∀ w, (zeroValue 30).run P w = .ok (Value.slice none 0 0) w
 a86 : ∀ w, (isAgg 86).run P w = .ok false w
 z86 : ∀ w, (Go.sizeOf 86).run P w = .ok 1 w
 v86 : ∀ w, (zeroValue 86).run P w = .ok (Value.nilFunc) w
theorem sortEnv : SortEnv Try.prog := ⟨by kernel_rfl, Try.func126, Try.func125, Try.func124, Try.func123, Try.func116, Try.func95, Try.underlying0, fun w => by kernel_rfl, fun w => by kernel_rfl, fun w => by kernel_rfl, Try.underlying3, fun w => by kernel_rfl, fun w => by kernel_rfl, fun w => by kernel_rfl, Try.underlying4, fun w => by kernel_rfl, fun w => by kernel_rfl, fun w => by kernel_rfl, Try.underlying139, fun w => by kernel_rfl, fun w => by kernel_rfl, fun w => by kernel_rfl, Try.underlying30, fun w => by kernel_rfl, fun w => by kernel_rfl, fun w => by kernel_rfl, fun w => by kernel_rfl, fun w => by kernel_rfl, fun w => by kernel_rfl⟩
set_option maxHeartbeats 4000000 in
set_option maxRecDepth 1000000 in
theorem ins_calls {P : Program} (E : SortEnv P) {α : Type} [Inhabited α] (k : Nat) (aE : ∀ w, (isAgg 66).run P w = .ok true w) (zE : ∀ w, (Go.sizeOf 66).run P w = .ok k w) (enc : α → List Value) (cf : α → α → Int) (g : Nat) (cb : Array Value) (blk off cap : Nat) (d0 : Array α) (w0 : World) (eg : ∀ args w, (callFunc g args).run P w = .ok (.enter g args) w) (hcmp : CmpB P g cb enc cf) (R : RowK enc k w0 blk off d0) (a b : Nat) (d : Array α) (w : World) (hs : d0.size = d.size) (S : SWX enc k w0 blk off d w) (hab : a ≤ b) (hb : b ≤ d.size) (hsz : d.size < 4611686018427387904) :
  Calls P 123 #[.slice (some ⟨blk, off, none⟩) d.size cap, .int .i64 a, .int .i64 b, .func (.func g) #[] cb] w fun e w' => e = .returned (.tuple #[]) ∧ SWX enc k w0 blk off (insertionSort (ltOf cf) d a b) w' := by
 have mixed := E.mixed; have t0 := E.t0; have a0 := E.a0; have z0 := E.z0; have v0 := E.v0; have t3 := E.t3; have a3 := E.a3; have z3 := E.z3; have v3 := E.v3; have t4 := E.t4; have a4 := E.a4; have z4 := E.z4; have v4 := E.v4; have t139 := E.t139; have a139 := E.a139; have z139 := E.z139; have v139 := E.v139; have t30 := E.t30; have a30 := E.a30; have z30 := E.z30; have v30 := E.v30; have a86 := E.a86; have z86 := E.z86; have v86 := E.v86
 have q126 : ∀ args w, (callFunc 126 args).run P w = .ok (.enter 126 args) w := enters_of E.f126 (by kernel_rfl) rfl
 have q125 : ∀ args w, (callFunc 125 args).run P w = .ok (.enter 125 args) w := enters_of E.f125 (by kernel_rfl) rfl
 have q124 : ∀ args w, (callFunc 124 args).run P w = .ok (.enter 124 args) w := enters_of E.f124 (by kernel_rfl) rfl
 have q123 : ∀ args w, (callFunc 123 args).run P w = .ok (.enter 123 args) w := enters_of E.f123 (by kernel_rfl) rfl
 have q116 : ∀ args w, (callFunc 116 args).run P w = .ok (.enter 116 args) w := enters_of E.f116 (by kernel_rfl) rfl
 have S0 : Aside (SWX enc k w0 blk off d w) := S
 have HC : Aside (CmpB P g cb enc cf) := hcmp
 clear S hcmp
 go_enter E.f123, Try.ntmps123
 go_wp2
 go_loopg [8] (b - a) (fun g1 vi wr => ∃ (i : Nat) (dk : Array α), vi = .int .i64 i ∧ a < i ∧ i ≤ b + 1 ∧ b + 1 - i ≤ g1 + 1 ∧ dk.size = d.size ∧ Aside (SWX enc k w0 blk off dk wr) ∧ Hid (insOuter (ltOf cf) a b i dk = insOuter (ltOf cf) a b (a + 1) d))
 case atStart => exact ⟨a + 1, d, by go_num, by omega, by omega, by omega, rfl, S0, rfl⟩
 case round =>
  clear S0
  obtain ⟨i, dk, rfl, hai, hib, hg1, hsk, S1, HO⟩ := hrel
  by_cases hlt : i < b
  ·have hltz : (i : Int) < (b : Int) := by omega
   go_wp2
   go_loopg [9] i (fun g2 vj wr => ∃ (j : Nat) (dj : Array α), vj = .int .i64 j ∧ a ≤ j ∧ j ≤ i ∧ j ≤ g2 ∧ dj.size = d.size ∧ Aside (SWX enc k w0 blk off dj wr) ∧ Hid (insInner (ltOf cf) a j dj = insInner (ltOf cf) a i dk))
   case atStart => exact ⟨i, dk, rfl, by omega, Nat.le_refl _, Nat.le_refl _, hsk, S1, rfl⟩
   case round =>
    clear S1
    obtain ⟨j, dj, rfl, haj, hji, hg2, hsj, S1, HI⟩ := hrel
    have out : (j ≤ a ∨ ltOf cf dj[j]! dj[j - 1]! = false) → Hid (insOuter (ltOf cf) a b (i + 1) dj = insOuter (ltOf cf) a b (a + 1) d) := fun hs => by
     show _ = _
     rw [← HO.out, insOuter_go _ _ _ _ _ hlt, ← HI.out, insInner_stop _ _ _ _ hs]
    have OUT : Aside _ := out
    clear out
    by_cases hja : a < j
    ·obtain ⟨jp, rfl⟩ : ∃ jp, j = jp + 1 := ⟨j - 1, by omega⟩
     have hjaz : decide ((jp : Int) + 1 > (a : Int)) = true := decide_eq_true (by omega)
     have hjaz' : (a : Int) < (jp : Int) + 1 := by omega
     cases hq : ltOf cf dj[jp + 1]! dj[jp]! with
     | true =>
      have ea12 : ((jp : Int) + 1).toNat = jp + 1 := by omega
      have pa12 : (0 : Int) ≤ (jp : Int) + 1 := by omega
      have ba12 : (jp : Int) + 1 < (d.size : Int) := by omega
      have ra12 : IntKind.i64.wrap ((jp : Int) + 1) = (jp : Int) + 1 := by rw [IntKind.wrap_i64]; omega
      have ec12 : ((jp : Int)).toNat = jp := by omega
      have pc12 : (0 : Int) ≤ (jp : Int) := by omega
      have bc12 : (jp : Int) < (d.size : Int) := by omega
      have rc12 : IntKind.i64.wrap ((jp : Int)) = (jp : Int) := by rw [IntKind.wrap_i64]; omega
      obtain ⟨x12, hx12⟩ : ∃ x, x = dj[jp + 1]! := ⟨_, rfl⟩
      obtain ⟨y12, hy12⟩ : ∃ x, x = dj[jp]! := ⟨_, rfl⟩
      have l12a := S1.out.ld R (by omega) P (jp + 1) (by omega)
      have l12b := S1.out.ld R (by omega) P (jp) (by omega)
      rw [← hx12] at l12a
      rw [← hy12] at l12b
      have hc12 := CmpB.at_ HC.out wr x12 y12
      have hv12 : (cf x12 y12 < 0) := by rw [hx12, hy12]; exact of_decide_eq_true hq
      have hd12 : decide (cf x12 y12 < 0) = true := decide_eq_true hv12
      clear hx12 hy12
      go_wp2_with fail
      refine wp_region_quietX (by assumption) (by kernel_rfl) ?_
      repeat (quiet_step (first | (go_at_fn g; refine callsX_of (hc12 _ _))))
      refine wpQuiet_nil ?_
      intro _ hw_
      obtain ⟨⟨tq, osq⟩, hw_⟩ := hw_
      subst hw_
      have S2 : Aside (SWX enc k w0 blk off dj (grow (atD wr tq) osq)) := S1.out.grownX tq osq
      clear l12a l12b hc12 S1
      generalize grow (atD wr tq) osq = w2 at S2 ⊢
      clear tq osq
      go_wp2_with fail
      have ea13 : ((jp : Int) + 1).toNat = jp + 1 := by omega
      have pa13 : (0 : Int) ≤ (jp : Int) + 1 := by omega
      have ba13 : (jp : Int) + 1 < (d.size : Int) := by omega
      have ra13 : IntKind.i64.wrap ((jp : Int) + 1) = (jp : Int) + 1 := by rw [IntKind.wrap_i64]; omega
      have ec13 : ((jp : Int)).toNat = jp := by omega
      have pc13 : (0 : Int) ≤ (jp : Int) := by omega
      have bc13 : (jp : Int) < (d.size : Int) := by omega
      have rc13 : IntKind.i64.wrap ((jp : Int)) = (jp : Int) := by rw [IntKind.wrap_i64]; omega
      have S3 : Aside (SWX enc k w0 blk off (swp dj (jp + 1) (jp)) ((w2.drew.setCells blk (off + (jp + 1) * k) (enc dj[jp]!)).setCells blk (off + (jp) * k) (enc dj[jp + 1]!))) := S2.out.swapped R (jp + 1) (jp) (by omega) (by omega)
      have l13a := S2.out.ld1 R (by omega) P (jp + 1) (by omega)
      have l13b := S2.out.ld1 R (by omega) P (jp) (by omega)
      have s13a := S2.out.st1 R (by omega) P (jp + 1) (by omega) dj[jp]!
      have s13b := S2.out.st2 R (by omega) P (jp + 1) (jp) (by omega) (by omega) dj[jp]! dj[jp + 1]!
      have n13a : (enc dj[jp + 1]!).length = k := R.hk _
      have n13b : (enc dj[jp]!).length = k := R.hk _
      generalize enc dj[jp + 1]! = cI13 at S3 l13a s13b n13a
      generalize enc dj[jp]! = cJ13 at S3 l13b s13a s13b n13b
      clear S2
      go_wp2_with fail
      go_big_region_o
      clear l13a l13b s13a s13b
      generalize (w2.drew.setCells blk (off + (jp + 1) * k) cJ13).setCells blk (off + (jp) * k) cI13 = w3 at S3 ⊢
      go_wp2
      go_roundg jp
      case measure => omega
      case rel =>
       refine ⟨jp, swp dj (jp + 1) jp, by first | rfl | go_num | (congr 1; omega), by omega, by omega, Nat.le_refl _, by rw [size_swp]; exact hsj, S3, ?_⟩
       show _ = _
       have := insInner_go (ltOf cf) a (jp + 1) dj hja (by simp only [Nat.add_sub_cancel]; exact hq)
       simp only [Nat.add_sub_cancel] at this
       rw [← HI.out, this]
     | false =>
      have ea14 : ((jp : Int) + 1).toNat = jp + 1 := by omega
      have pa14 : (0 : Int) ≤ (jp : Int) + 1 := by omega
      have ba14 : (jp : Int) + 1 < (d.size : Int) := by omega
      have ra14 : IntKind.i64.wrap ((jp : Int) + 1) = (jp : Int) + 1 := by rw [IntKind.wrap_i64]; omega
      have ec14 : ((jp : Int)).toNat = jp := by omega
      have pc14 : (0 : Int) ≤ (jp : Int) := by omega
      have bc14 : (jp : Int) < (d.size : Int) := by omega
      have rc14 : IntKind.i64.wrap ((jp : Int)) = (jp : Int) := by rw [IntKind.wrap_i64]; omega
      obtain ⟨x14, hx14⟩ : ∃ x, x = dj[jp + 1]! := ⟨_, rfl⟩
      obtain ⟨y14, hy14⟩ : ∃ x, x = dj[jp]! := ⟨_, rfl⟩
      have l14a := S1.out.ld R (by omega) P (jp + 1) (by omega)
      have l14b := S1.out.ld R (by omega) P (jp) (by omega)
      rw [← hx14] at l14a
      rw [← hy14] at l14b
      have hc14 := CmpB.at_ HC.out wr x14 y14
      have hv14 : ¬ (cf x14 y14 < 0) := by rw [hx14, hy14]; exact of_decide_eq_false hq
      have hd14 : decide (cf x14 y14 < 0) = false := decide_eq_false hv14
      clear hx14 hy14
      go_wp2_with fail
      refine wp_region_quietX (by assumption) (by kernel_rfl) ?_
      repeat (quiet_step (first | (go_at_fn g; refine callsX_of (hc14 _ _))))
      refine wpQuiet_nil ?_
      intro _ hw_
      obtain ⟨⟨tq, osq⟩, hw_⟩ := hw_
      subst hw_
      have S2 : Aside (SWX enc k w0 blk off dj (grow (atD wr tq) osq)) := S1.out.grownX tq osq
      clear l14a l14b hc14 S1
      generalize grow (atD wr tq) osq = w2 at S2 ⊢
      clear tq osq
      go_wp2
      go_roundg (b - (i + 1))
      case measure => omega
      case rel => exact ⟨i + 1, dj, by first | rfl | go_num, by omega, by omega, by omega, hsj, S2, OUT.out (Or.inr (by simp only [Nat.add_sub_cancel]; exact hq))⟩
    ·have hjaz : decide ((j : Int) > (a : Int)) = false := decide_eq_false (by omega)
     have hjaz' : ¬ (a : Int) < (j : Int) := by omega
     have S2 : Aside (SWX enc k w0 blk off dj wr.drew) := S1.out.drew
     clear S1
     go_wp2_with fail
     go_big_region_o
     all_goals go_wp2
     go_roundg (b - (i + 1))
     case measure => omega
     case rel => exact ⟨i + 1, dj, by first | rfl | go_num, by omega, by omega, by omega, hsj, S2, OUT.out (Or.inl (by omega))⟩
  ·have hltz : ¬ (i : Int) < (b : Int) := by omega
   go_wp2
   go_end0
   refine ⟨rfl, ?_⟩
   unfold Sort.insertionSort
   rw [← HO.out, insOuter_stop _ _ _ _ _ hlt]
   exact S1.out
set_option maxHeartbeats 4000000 in
set_option maxRecDepth 1000000 in
theorem swR_calls {P : Program} (E : SortEnv P) {α : Type} [Inhabited α] (k : Nat) (aE : ∀ w, (isAgg 66).run P w = .ok true w) (zE : ∀ w, (Go.sizeOf 66).run P w = .ok k w) (enc : α → List Value) (a b n : Nat) (g : Nat) (cb : Array Value) (blk off cap : Nat) (d0 d : Array α) (w0 w : World) (R : RowK enc k w0 blk off d0) (hs : d0.size = d.size) (S : SWX enc k w0 blk off d w) (hsz : d.size < 4611686018427387904) (hab : a + n ≤ b) (hb : b + n ≤ d.size) :
  Calls P 126 #[.slice (some ⟨blk, off, none⟩) d.size cap, .int .i64 a, .int .i64 b, .int .i64 n, .func (.func g) #[] cb] w fun e w' => e = .returned (.tuple #[]) ∧ SWX enc k w0 blk off (swR a b n 0 d) w' := by
 have mixed := E.mixed; have t0 := E.t0; have a0 := E.a0; have z0 := E.z0; have v0 := E.v0; have t3 := E.t3; have a3 := E.a3; have z3 := E.z3; have v3 := E.v3; have t4 := E.t4; have a4 := E.a4; have z4 := E.z4; have v4 := E.v4; have t139 := E.t139; have a139 := E.a139; have z139 := E.z139; have v139 := E.v139; have t30 := E.t30; have a30 := E.a30; have z30 := E.z30; have v30 := E.v30; have a86 := E.a86; have z86 := E.z86; have v86 := E.v86
 have q126 : ∀ args w, (callFunc 126 args).run P w = .ok (.enter 126 args) w := enters_of E.f126 (by kernel_rfl) rfl
 have q125 : ∀ args w, (callFunc 125 args).run P w = .ok (.enter 125 args) w := enters_of E.f125 (by kernel_rfl) rfl
 have q124 : ∀ args w, (callFunc 124 args).run P w = .ok (.enter 124 args) w := enters_of E.f124 (by kernel_rfl) rfl
 have q123 : ∀ args w, (callFunc 123 args).run P w = .ok (.enter 123 args) w := enters_of E.f123 (by kernel_rfl) rfl
 have q116 : ∀ args w, (callFunc 116 args).run P w = .ok (.enter 116 args) w := enters_of E.f116 (by kernel_rfl) rfl
 have S0 : Aside (SWX enc k w0 blk off d w) := S
 clear S
 go_enter E.f126, Try.ntmps126
 go_wp2
 go_loopg [10] n (fun kx s10 wr => ∃ (i : Nat) (dk : Array α), s10 = .int .i64 i ∧ i ≤ n ∧ n - i ≤ kx ∧ dk.size = d.size ∧ Aside (SWX enc k w0 blk off dk wr) ∧ Hid (swR a b n i dk = swR a b n 0 d))
 case atStart => exact ⟨0, d, rfl, Nat.zero_le _, Nat.le_refl _, rfl, S0, rfl⟩
 case round =>
  clear S0
  obtain ⟨i, dk, rfl, hi, hkx, hds, S1, HE⟩ := hrel
  by_cases hlt : i < n
  ·have hltz : (i : Int) < (n : Int) := by omega
   have ea44 : ((a : Int) + (i : Int)).toNat = a + i := by omega
   have pa44 : (0 : Int) ≤ (a : Int) + (i : Int) := by omega
   have ba44 : (a : Int) + (i : Int) < (d.size : Int) := by omega
   have ra44 : IntKind.i64.wrap ((a : Int) + (i : Int)) = (a : Int) + (i : Int) := by rw [IntKind.wrap_i64]; omega
   have ec44 : ((b : Int) + (i : Int)).toNat = b + i := by omega
   have pc44 : (0 : Int) ≤ (b : Int) + (i : Int) := by omega
   have bc44 : (b : Int) + (i : Int) < (d.size : Int) := by omega
   have rc44 : IntKind.i64.wrap ((b : Int) + (i : Int)) = (b : Int) + (i : Int) := by rw [IntKind.wrap_i64]; omega
   have S2 : Aside (SWX enc k w0 blk off (swp dk (a + i) (b + i)) ((wr.drew.setCells blk (off + (a + i) * k) (enc dk[b + i]!)).setCells blk (off + (b + i) * k) (enc dk[a + i]!))) := S1.out.swapped R (a + i) (b + i) (by omega) (by omega)
   have l44a := S1.out.ld1 R (by omega) P (a + i) (by omega)
   have l44b := S1.out.ld1 R (by omega) P (b + i) (by omega)
   have s44a := S1.out.st1 R (by omega) P (a + i) (by omega) dk[b + i]!
   have s44b := S1.out.st2 R (by omega) P (a + i) (b + i) (by omega) (by omega) dk[b + i]! dk[a + i]!
   have n44a : (enc dk[a + i]!).length = k := R.hk _
   have n44b : (enc dk[b + i]!).length = k := R.hk _
   generalize enc dk[a + i]! = cI44 at S2 l44a s44b n44a
   generalize enc dk[b + i]! = cJ44 at S2 l44b s44a s44b n44b
   clear S1
   go_wp2_with fail
   go_big_region_o
   clear l44a l44b s44a s44b
   generalize (wr.drew.setCells blk (off + (a + i) * k) cJ44).setCells blk (off + (b + i) * k) cI44 = w2 at S2 ⊢
   go_wp2
   go_roundg (n - (i + 1))
   case measure => omega
   case rel => exact ⟨i + 1, swp dk (a + i) (b + i), by first | rfl | go_num, by omega, Nat.le_refl _, by rw [size_swp]; exact hds, S2, by show _ = _; rw [← HE.out, swR.eq_1 a b n i, if_pos hlt]⟩
  ·have hltz : ¬ (i : Int) < (n : Int) := by omega
   go_wp2
   go_end0
   refine ⟨rfl, ?_⟩
   rw [← HE.out, swR, if_neg hlt]
   exact S1.out
set_option maxHeartbeats 4000000 in
set_option maxRecDepth 1000000 in
theorem rotL_calls {P : Program} (E : SortEnv P) {α : Type} [Inhabited α] (k : Nat) (aE : ∀ w, (isAgg 66).run P w = .ok true w) (zE : ∀ w, (Go.sizeOf 66).run P w = .ok k w) (enc : α → List Value) (a m b : Nat) (g : Nat) (cb : Array Value) (blk off cap : Nat) (d0 d : Array α) (w0 w : World) (R : RowK enc k w0 blk off d0) (hs : d0.size = d.size) (S : SWX enc k w0 blk off d w) (hsz : d.size < 4611686018427387904) (h1 : a < m) (h2 : m < b) (hb : b ≤ d.size) :
  Calls P 125 #[.slice (some ⟨blk, off, none⟩) d.size cap, .int .i64 a, .int .i64 m, .int .i64 b, .func (.func g) #[] cb] w fun e w' => e = .returned (.tuple #[]) ∧ SWX enc k w0 blk off (rotL m (m - a) (b - m) d) w' := by
 have mixed := E.mixed; have t0 := E.t0; have a0 := E.a0; have z0 := E.z0; have v0 := E.v0; have t3 := E.t3; have a3 := E.a3; have z3 := E.z3; have v3 := E.v3; have t4 := E.t4; have a4 := E.a4; have z4 := E.z4; have v4 := E.v4; have t139 := E.t139; have a139 := E.a139; have z139 := E.z139; have v139 := E.v139; have t30 := E.t30; have a30 := E.a30; have z30 := E.z30; have v30 := E.v30; have a86 := E.a86; have z86 := E.z86; have v86 := E.v86
 have q126 : ∀ args w, (callFunc 126 args).run P w = .ok (.enter 126 args) w := enters_of E.f126 (by kernel_rfl) rfl
 have q125 : ∀ args w, (callFunc 125 args).run P w = .ok (.enter 125 args) w := enters_of E.f125 (by kernel_rfl) rfl
 have q124 : ∀ args w, (callFunc 124 args).run P w = .ok (.enter 124 args) w := enters_of E.f124 (by kernel_rfl) rfl
 have q123 : ∀ args w, (callFunc 123 args).run P w = .ok (.enter 123 args) w := enters_of E.f123 (by kernel_rfl) rfl
 have q116 : ∀ args w, (callFunc 116 args).run P w = .ok (.enter 116 args) w := enters_of E.f116 (by kernel_rfl) rfl
 have S0 : Aside (SWX enc k w0 blk off d w) := S
 clear S
 go_enter E.f125, Try.ntmps125
 go_wp2
 go_loopg [10, 11] (b - a) (fun kx s10 s11 wr => ∃ (i j : Nat) (dk : Array α), s10 = .int .i64 i ∧ s11 = .int .i64 j ∧ 0 < i ∧ 0 < j ∧ i ≤ m ∧ m + j ≤ d.size ∧ i + j ≤ kx ∧ dk.size = d.size ∧ Aside (SWX enc k w0 blk off dk wr) ∧ Hid (rotL m i j dk = rotL m (m - a) (b - m) d))
 case atStart => exact ⟨m - a, b - m, d, by first | go_num | (congr 1; omega), by first | go_num | (congr 1; omega), by omega, by omega, by omega, by omega, by omega, rfl, S0, rfl⟩
 case round =>
  clear S0
  obtain ⟨i, j, dk, rfl, rfl, hi, hj, him, hjm, hkx, hds, S1, HE⟩ := hrel
  by_cases hij : i = j
  ·subst hij
   have hc := swR_calls E k aE zE enc (m - i) m i g cb blk off cap d0 dk w0 wr R (by omega) S1.out (by omega) (by omega) (by omega)
   rw [show dk.size = d.size from hds] at hc
   rw [show ((m - i : Nat) : Int) = (m : Int) - (i : Int) from by omega] at hc
   go_wp2_with (first | (go_at_call 126; refine hc.mono ?_; rintro e w' ⟨rfl, S2⟩))
   go_end0
   refine ⟨rfl, ?_⟩
   rw [← HE.out, rotL, if_pos (.inl rfl)]
   exact S2
  ·have hijz : ¬ ((i : Int) = (j : Int)) := by omega
   by_cases hlt : j < i
   ·have hltz : (j : Int) < (i : Int) := by omega
    have hc := swR_calls E k aE zE enc (m - i) m j g cb blk off cap d0 dk w0 wr R (by omega) S1.out (by omega) (by omega) (by omega)
    rw [show dk.size = d.size from hds] at hc
    rw [show ((m - i : Nat) : Int) = (m : Int) - (i : Int) from by omega] at hc
    go_wp2_with (first | (go_at_call 126; refine hc.mono ?_; rintro e w' ⟨rfl, h_⟩))
    have S2 : Aside _ := h_
    clear h_
    go_roundg (i - j + j)
    case measure => omega
    case rel => exact ⟨i - j, j, _, by first | go_num | (congr 1; omega), rfl, by omega, hj, by omega, hjm, Nat.le_refl _, by rw [swR_size]; exact hds, S2, by show _ = _; rw [← HE.out, rotL.eq_1 m i j, if_neg (by omega), if_pos hlt]⟩
   ·have hltz : ¬ (j : Int) < (i : Int) := by omega
    have hc := swR_calls E k aE zE enc (m - i) (m + j - i) i g cb blk off cap d0 dk w0 wr R (by omega) S1.out (by omega) (by omega) (by omega)
    rw [show dk.size = d.size from hds] at hc
    rw [show ((m - i : Nat) : Int) = (m : Int) - (i : Int) from by omega] at hc
    rw [show ((m + j - i : Nat) : Int) = (m : Int) + (j : Int) - (i : Int) from by omega] at hc
    go_wp2_with (first | (go_at_call 126; refine hc.mono ?_; rintro e w' ⟨rfl, h_⟩))
    have S2 : Aside _ := h_
    clear h_
    go_roundg (i + (j - i))
    case measure => omega
    case rel => exact ⟨i, j - i, _, rfl, by first | go_num | (congr 1; omega), hi, by omega, him, by omega, Nat.le_refl _, by rw [swR_size]; exact hds, S2, by show _ = _; rw [← HE.out, rotL.eq_1 m i j, if_neg (by omega), if_neg hlt]⟩
set_option maxHeartbeats 40000000 in
set_option maxRecDepth 1000000 in
theorem symM_calls {P : Program} (E : SortEnv P) {α : Type} [Inhabited α] (k : Nat) (aE : ∀ w, (isAgg 66).run P w = .ok true w) (zE : ∀ w, (Go.sizeOf 66).run P w = .ok k w) (enc : α → List Value) (cf : α → α → Int) (g : Nat) (cb : Array Value) (blk off cap : Nat) (d0 : Array α) (w0 : World) (eg : ∀ args w, (callFunc g args).run P w = .ok (.enter g args) w) (hcmp : CmpB P g cb enc cf) (R : RowK enc k w0 blk off d0) : ∀ (f a m b : Nat) (d : Array α) (w : World) (_hs : d0.size = d.size) (_S : SWX enc k w0 blk off d w) (_hsz : d.size < 4611686018427387904) (_hf : b - a ≤ f) (_h1 : a < m) (_h2 : m < b) (_hb : b ≤ d.size),
  Calls P 124 #[.slice (some ⟨blk, off, none⟩) d.size cap, .int .i64 a, .int .i64 m, .int .i64 b, .func (.func g) #[] cb] w fun e w' => e = .returned (.tuple #[]) ∧ SWX enc k w0 blk off (symM (ltOf cf) f d a m b) w' := by
 have HC : Aside (CmpB P g cb enc cf) := hcmp
 clear hcmp
 intro f
 induction f with
 | zero => intro a m b d w hs S hsz hf h1 h2 hb; omega
 | succ f ih =>
  intro a m b d w hs S hsz hf h1 h2 hb
  have mixed := E.mixed; have t0 := E.t0; have a0 := E.a0; have z0 := E.z0; have v0 := E.v0; have t3 := E.t3; have a3 := E.a3; have z3 := E.z3; have v3 := E.v3; have t4 := E.t4; have a4 := E.a4; have z4 := E.z4; have v4 := E.v4; have t139 := E.t139; have a139 := E.a139; have z139 := E.z139; have v139 := E.v139; have t30 := E.t30; have a30 := E.a30; have z30 := E.z30; have v30 := E.v30; have a86 := E.a86; have z86 := E.z86; have v86 := E.v86
  have q126 : ∀ args w, (callFunc 126 args).run P w = .ok (.enter 126 args) w := enters_of E.f126 (by kernel_rfl) rfl
  have q125 : ∀ args w, (callFunc 125 args).run P w = .ok (.enter 125 args) w := enters_of E.f125 (by kernel_rfl) rfl
  have q124 : ∀ args w, (callFunc 124 args).run P w = .ok (.enter 124 args) w := enters_of E.f124 (by kernel_rfl) rfl
  have q123 : ∀ args w, (callFunc 123 args).run P w = .ok (.enter 123 args) w := enters_of E.f123 (by kernel_rfl) rfl
  have q116 : ∀ args w, (callFunc 116 args).run P w = .ok (.enter 116 args) w := enters_of E.f116 (by kernel_rfl) rfl
  have S0 : Aside (SWX enc k w0 blk off d w) := S
  clear S
  by_cases c1 : m - a = 1
  ·obtain rfl : m = a + 1 := by omega
   have hz1 : ((a : Int) + 1 - (a : Int)) = 1 := by omega
   go_enter E.f124, Try.ntmps124
   go_wp2
   go_loopg [10, 11] (b - (a + 1)) (fun kx sA sB wr => ∃ (i j : Nat), sA = .int .i64 i ∧ sB = .int .i64 j ∧ (a + 1) ≤ i ∧ i ≤ j ∧ j ≤ b ∧ j - i ≤ kx ∧ Aside (SWX enc k w0 blk off d wr) ∧ Hid (bsx (fun h => ltOf cf d[h]! d[a]!) i j = bsx (fun h => ltOf cf d[h]! d[a]!) (a + 1) b))
   case atStart => exact ⟨(a + 1), b, by first | rfl | go_num | (congr 1; omega), by first | rfl | go_num | (congr 1; omega), Nat.le_refl _, by omega, Nat.le_refl _, Nat.le_refl _, S0, rfl⟩
   case round =>
    clear S0
    obtain ⟨i, j, rfl, rfl, hli, hlj, hjh, hkx, S1, HE⟩ := hrel
    by_cases hij : i < j
    ·have hijz : (i : Int) < (j : Int) := by omega
     cases hq : ltOf cf d[(i + j) / 2]! d[a]! with
     | true =>
      have ea50 : (((i : Int) + (j : Int)) / 2).toNat = (i + j) / 2 := by omega
      have pa50 : (0 : Int) ≤ ((i : Int) + (j : Int)) / 2 := by omega
      have ba50 : ((i : Int) + (j : Int)) / 2 < (d.size : Int) := by omega
      have ra50 : IntKind.i64.wrap (((i : Int) + (j : Int)) / 2) = ((i : Int) + (j : Int)) / 2 := by rw [IntKind.wrap_i64]; omega
      have ec50 : ((a : Int)).toNat = a := by omega
      have pc50 : (0 : Int) ≤ (a : Int) := by omega
      have bc50 : (a : Int) < (d.size : Int) := by omega
      have rc50 : IntKind.i64.wrap ((a : Int)) = (a : Int) := by rw [IntKind.wrap_i64]; omega
      obtain ⟨x50, hx50⟩ : ∃ x, x = d[(i + j) / 2]! := ⟨_, rfl⟩
      obtain ⟨y50, hy50⟩ : ∃ x, x = d[a]! := ⟨_, rfl⟩
      have l50a := S1.out.ld R (by omega) P ((i + j) / 2) (by omega)
      have l50b := S1.out.ld R (by omega) P (a) (by omega)
      rw [← hx50] at l50a
      rw [← hy50] at l50b
      have hc50 := CmpB.at_ HC.out wr x50 y50
      have hv50 : (cf x50 y50 < 0) := by rw [hx50, hy50]; exact of_decide_eq_true hq
      have hd50 : decide (cf x50 y50 < 0) = true := decide_eq_true hv50
      clear hx50 hy50
      go_wp2_with fail
      refine wp_region_quietX (by assumption) (by kernel_rfl) ?_
      repeat (quiet_step (first | (go_at_fn g; refine callsX_of (hc50 _ _))))
      refine wpQuiet_nil ?_
      intro _ hw_
      obtain ⟨⟨tq, osq⟩, hw_⟩ := hw_
      subst hw_
      have S2 : Aside (SWX enc k w0 blk off d (grow (atD wr tq) osq)) := S1.out.grownX tq osq
      clear l50a l50b hc50 S1
      generalize grow (atD wr tq) osq = w2 at S2 ⊢
      clear tq osq
      go_wp2
      go_roundg (j - ((i + j) / 2 + 1))
      case measure => omega
      case rel => exact ⟨(i + j) / 2 + 1, j, by first | rfl | go_num | (congr 1; omega), rfl, by omega, by omega, by omega, Nat.le_refl _, S2, by show _ = _; rw [← HE.out, bsx.eq_1 _ i j, if_pos hij, if_pos (by simp [hq])]⟩
     | false =>
      have ea50 : (((i : Int) + (j : Int)) / 2).toNat = (i + j) / 2 := by omega
      have pa50 : (0 : Int) ≤ ((i : Int) + (j : Int)) / 2 := by omega
      have ba50 : ((i : Int) + (j : Int)) / 2 < (d.size : Int) := by omega
      have ra50 : IntKind.i64.wrap (((i : Int) + (j : Int)) / 2) = ((i : Int) + (j : Int)) / 2 := by rw [IntKind.wrap_i64]; omega
      have ec50 : ((a : Int)).toNat = a := by omega
      have pc50 : (0 : Int) ≤ (a : Int) := by omega
      have bc50 : (a : Int) < (d.size : Int) := by omega
      have rc50 : IntKind.i64.wrap ((a : Int)) = (a : Int) := by rw [IntKind.wrap_i64]; omega
      obtain ⟨x50, hx50⟩ : ∃ x, x = d[(i + j) / 2]! := ⟨_, rfl⟩
      obtain ⟨y50, hy50⟩ : ∃ x, x = d[a]! := ⟨_, rfl⟩
      have l50a := S1.out.ld R (by omega) P ((i + j) / 2) (by omega)
      have l50b := S1.out.ld R (by omega) P (a) (by omega)
      rw [← hx50] at l50a
      rw [← hy50] at l50b
      have hc50 := CmpB.at_ HC.out wr x50 y50
      have hv50 : ¬ (cf x50 y50 < 0) := by rw [hx50, hy50]; exact of_decide_eq_false hq
      have hd50 : decide (cf x50 y50 < 0) = false := decide_eq_false hv50
      clear hx50 hy50
      go_wp2_with fail
      refine wp_region_quietX (by assumption) (by kernel_rfl) ?_
      repeat (quiet_step (first | (go_at_fn g; refine callsX_of (hc50 _ _))))
      refine wpQuiet_nil ?_
      intro _ hw_
      obtain ⟨⟨tq, osq⟩, hw_⟩ := hw_
      subst hw_
      have S2 : Aside (SWX enc k w0 blk off d (grow (atD wr tq) osq)) := S1.out.grownX tq osq
      clear l50a l50b hc50 S1
      generalize grow (atD wr tq) osq = w2 at S2 ⊢
      clear tq osq
      go_wp2
      go_roundg ((i + j) / 2 - i)
      case measure => omega
      case rel => exact ⟨i, (i + j) / 2, rfl, by first | rfl | go_num | (congr 1; omega), by omega, by omega, by omega, Nat.le_refl _, S2, by show _ = _; rw [← HE.out, bsx.eq_1 _ i j, if_pos hij, if_neg (by simp [hq])]⟩
    ·have hijz : ¬ (i : Int) < (j : Int) := by omega
     obtain rfl : i = j := by omega
     have hst : bsx (fun h => ltOf cf d[h]! d[a]!) (a + 1) b = i := by rw [← HE.out, bsx, if_neg (by omega)]
     clear HE
     have HST : Hid (bsx (fun h => ltOf cf d[h]! d[a]!) (a + 1) b = i) := hst
     clear hst
     go_wp2
     go_loopg [13] (i - 1 - a) (fun kx sA wr => ∃ (q : Nat) (dk : Array α), sA = .int .i64 q ∧ a ≤ q ∧ q ≤ i - 1 ∧ i - 1 - q ≤ kx ∧ dk.size = d.size ∧ Aside (SWX enc k w0 blk off dk wr) ∧ Hid (upL (i - 1) q dk = upL (i - 1) a d))
     case atStart => exact ⟨a, d, rfl, Nat.le_refl _, by omega, Nat.le_refl _, rfl, S1, rfl⟩
     case round =>
      clear S1
      obtain ⟨q, dk, rfl, hq1, hq2, hkx2, hds, S1, HU⟩ := hrel
      by_cases hlt : q < i - 1
      ·have hltz : (q : Int) < (i : Int) - 1 := by omega
       have ea54 : ((q : Int)).toNat = q := by omega
       have pa54 : (0 : Int) ≤ (q : Int) := by omega
       have ba54 : (q : Int) < (d.size : Int) := by omega
       have ra54 : IntKind.i64.wrap ((q : Int)) = (q : Int) := by rw [IntKind.wrap_i64]; omega
       have ec54 : ((q : Int) + 1).toNat = q + 1 := by omega
       have pc54 : (0 : Int) ≤ (q : Int) + 1 := by omega
       have bc54 : (q : Int) + 1 < (d.size : Int) := by omega
       have rc54 : IntKind.i64.wrap ((q : Int) + 1) = (q : Int) + 1 := by rw [IntKind.wrap_i64]; omega
       have S2 : Aside (SWX enc k w0 blk off (swp dk (q) (q + 1)) ((wr.drew.setCells blk (off + (q) * k) (enc dk[q + 1]!)).setCells blk (off + (q + 1) * k) (enc dk[q]!))) := S1.out.swapped R (q) (q + 1) (by omega) (by omega)
       have l54a := S1.out.ld1 R (by omega) P (q) (by omega)
       have l54b := S1.out.ld1 R (by omega) P (q + 1) (by omega)
       have s54a := S1.out.st1 R (by omega) P (q) (by omega) dk[q + 1]!
       have s54b := S1.out.st2 R (by omega) P (q) (q + 1) (by omega) (by omega) dk[q + 1]! dk[q]!
       have n54a : (enc dk[q]!).length = k := R.hk _
       have n54b : (enc dk[q + 1]!).length = k := R.hk _
       generalize enc dk[q]! = cI54 at S2 l54a s54b n54a
       generalize enc dk[q + 1]! = cJ54 at S2 l54b s54a s54b n54b
       clear S1
       go_wp2_with fail
       go_big_region_o
       clear l54a l54b s54a s54b
       generalize (wr.drew.setCells blk (off + (q) * k) cJ54).setCells blk (off + (q + 1) * k) cI54 = w2 at S2 ⊢
       go_wp2
       go_roundg (i - 1 - (q + 1))
       case measure => omega
       case rel => exact ⟨q + 1, swp dk q (q + 1), by first | rfl | go_num, by omega, by omega, Nat.le_refl _, by rw [size_swp]; exact hds, S2, by show _ = _; rw [← HU.out, upL.eq_1 (i - 1) q, if_pos hlt]⟩
      ·have hltz : ¬ (q : Int) < (i : Int) - 1 := by omega
       go_wp2
       (first | go_end0 | refine bodyPost_ret (results_none rfl _ _ _) rfl ?_)
       refine ⟨rfl, ?_⟩
       unfold symM
       rw [if_pos (by omega), HST.out, ← HU.out, upL, if_neg hlt]
       exact S1.out
  ·have hz1 : ¬ ((m : Int) - (a : Int) = 1) := by omega
   have hz1b : ((m : Int) - (a : Int) == 1) = false := beq_eq_false_iff_ne.2 hz1
   by_cases c2 : b - m = 1
   ·obtain rfl : b = m + 1 := by omega
    have hz2 : ((m : Int) + 1 - (m : Int)) = 1 := by omega
    go_enter E.f124, Try.ntmps124
    go_wp2
    go_loopg [14, 15] (m - a) (fun kx sA sB wr => ∃ (i j : Nat), sA = .int .i64 i ∧ sB = .int .i64 j ∧ a ≤ i ∧ i ≤ j ∧ j ≤ m ∧ j - i ≤ kx ∧ Aside (SWX enc k w0 blk off d wr) ∧ Hid (bsx (fun h => !ltOf cf d[m]! d[h]!) i j = bsx (fun h => !ltOf cf d[m]! d[h]!) a m))
    case atStart => exact ⟨a, m, by first | rfl | go_num | (congr 1; omega), by first | rfl | go_num | (congr 1; omega), Nat.le_refl _, by omega, Nat.le_refl _, Nat.le_refl _, S0, rfl⟩
    case round =>
     clear S0
     obtain ⟨i, j, rfl, rfl, hli, hlj, hjh, hkx, S1, HE⟩ := hrel
     by_cases hij : i < j
     ·have hijz : (i : Int) < (j : Int) := by omega
      cases hq : ltOf cf d[m]! d[(i + j) / 2]! with
      | false =>
       have ea56 : ((m : Int)).toNat = m := by omega
       have pa56 : (0 : Int) ≤ (m : Int) := by omega
       have ba56 : (m : Int) < (d.size : Int) := by omega
       have ra56 : IntKind.i64.wrap ((m : Int)) = (m : Int) := by rw [IntKind.wrap_i64]; omega
       have ec56 : (((i : Int) + (j : Int)) / 2).toNat = (i + j) / 2 := by omega
       have pc56 : (0 : Int) ≤ ((i : Int) + (j : Int)) / 2 := by omega
       have bc56 : ((i : Int) + (j : Int)) / 2 < (d.size : Int) := by omega
       have rc56 : IntKind.i64.wrap (((i : Int) + (j : Int)) / 2) = ((i : Int) + (j : Int)) / 2 := by rw [IntKind.wrap_i64]; omega
       obtain ⟨x56, hx56⟩ : ∃ x, x = d[m]! := ⟨_, rfl⟩
       obtain ⟨y56, hy56⟩ : ∃ x, x = d[(i + j) / 2]! := ⟨_, rfl⟩
       have l56a := S1.out.ld R (by omega) P (m) (by omega)
       have l56b := S1.out.ld R (by omega) P ((i + j) / 2) (by omega)
       rw [← hx56] at l56a
       rw [← hy56] at l56b
       have hc56 := CmpB.at_ HC.out wr x56 y56
       have hv56 : ¬ (cf x56 y56 < 0) := by rw [hx56, hy56]; exact of_decide_eq_false hq
       have hd56 : decide (cf x56 y56 < 0) = false := decide_eq_false hv56
       clear hx56 hy56
       go_wp2_with fail
       refine wp_region_quietX (by assumption) (by kernel_rfl) ?_
       repeat (quiet_step (first | (go_at_fn g; refine callsX_of (hc56 _ _))))
       refine wpQuiet_nil ?_
       intro _ hw_
       obtain ⟨⟨tq, osq⟩, hw_⟩ := hw_
       subst hw_
       have S2 : Aside (SWX enc k w0 blk off d (grow (atD wr tq) osq)) := S1.out.grownX tq osq
       clear l56a l56b hc56 S1
       generalize grow (atD wr tq) osq = w2 at S2 ⊢
       clear tq osq
       go_wp2
       go_roundg (j - ((i + j) / 2 + 1))
       case measure => omega
       case rel => exact ⟨(i + j) / 2 + 1, j, by first | rfl | go_num | (congr 1; omega), rfl, by omega, by omega, by omega, Nat.le_refl _, S2, by show _ = _; rw [← HE.out, bsx.eq_1 _ i j, if_pos hij, if_pos (by simp [hq])]⟩
      | true =>
       have ea56 : ((m : Int)).toNat = m := by omega
       have pa56 : (0 : Int) ≤ (m : Int) := by omega
       have ba56 : (m : Int) < (d.size : Int) := by omega
       have ra56 : IntKind.i64.wrap ((m : Int)) = (m : Int) := by rw [IntKind.wrap_i64]; omega
       have ec56 : (((i : Int) + (j : Int)) / 2).toNat = (i + j) / 2 := by omega
       have pc56 : (0 : Int) ≤ ((i : Int) + (j : Int)) / 2 := by omega
       have bc56 : ((i : Int) + (j : Int)) / 2 < (d.size : Int) := by omega
       have rc56 : IntKind.i64.wrap (((i : Int) + (j : Int)) / 2) = ((i : Int) + (j : Int)) / 2 := by rw [IntKind.wrap_i64]; omega
       obtain ⟨x56, hx56⟩ : ∃ x, x = d[m]! := ⟨_, rfl⟩
       obtain ⟨y56, hy56⟩ : ∃ x, x = d[(i + j) / 2]! := ⟨_, rfl⟩
       have l56a := S1.out.ld R (by omega) P (m) (by omega)
       have l56b := S1.out.ld R (by omega) P ((i + j) / 2) (by omega)
       rw [← hx56] at l56a
       rw [← hy56] at l56b
       have hc56 := CmpB.at_ HC.out wr x56 y56
       have hv56 : (cf x56 y56 < 0) := by rw [hx56, hy56]; exact of_decide_eq_true hq
       have hd56 : decide (cf x56 y56 < 0) = true := decide_eq_true hv56
       clear hx56 hy56
       go_wp2_with fail
       refine wp_region_quietX (by assumption) (by kernel_rfl) ?_
       repeat (quiet_step (first | (go_at_fn g; refine callsX_of (hc56 _ _))))
       refine wpQuiet_nil ?_
       intro _ hw_
       obtain ⟨⟨tq, osq⟩, hw_⟩ := hw_
       subst hw_
       have S2 : Aside (SWX enc k w0 blk off d (grow (atD wr tq) osq)) := S1.out.grownX tq osq
       clear l56a l56b hc56 S1
       generalize grow (atD wr tq) osq = w2 at S2 ⊢
       clear tq osq
       go_wp2
       go_roundg ((i + j) / 2 - i)
       case measure => omega
       case rel => exact ⟨i, (i + j) / 2, rfl, by first | rfl | go_num | (congr 1; omega), by omega, by omega, by omega, Nat.le_refl _, S2, by show _ = _; rw [← HE.out, bsx.eq_1 _ i j, if_pos hij, if_neg (by simp [hq])]⟩
     ·have hijz : ¬ (i : Int) < (j : Int) := by omega
      obtain rfl : i = j := by omega
      have hst : bsx (fun h => !ltOf cf d[m]! d[h]!) a m = i := by rw [← HE.out, bsx, if_neg (by omega)]
      clear HE
      have HST : Hid (bsx (fun h => !ltOf cf d[m]! d[h]!) a m = i) := hst
      clear hst
      go_wp2
      go_loopg [17] (m - i) (fun kx sA wr => ∃ (q : Nat) (dk : Array α), sA = .int .i64 q ∧ i ≤ q ∧ q ≤ m ∧ q - i ≤ kx ∧ dk.size = d.size ∧ Aside (SWX enc k w0 blk off dk wr) ∧ Hid (dnL i q dk = dnL i m d))
      case atStart => exact ⟨m, d, rfl, by omega, Nat.le_refl _, Nat.le_refl _, rfl, S1, rfl⟩
      case round =>
       clear S1
       obtain ⟨q, dk, rfl, hq1, hq2, hkx2, hds, S1, HU⟩ := hrel
       by_cases hlt : i < q
       ·obtain ⟨q, rfl⟩ : ∃ r, q = r + 1 := ⟨q - 1, by omega⟩
        have hltz : (i : Int) < (q : Int) + 1 := by omega
        have ea58 : ((q : Int) + 1).toNat = q + 1 := by omega
        have pa58 : (0 : Int) ≤ (q : Int) + 1 := by omega
        have ba58 : (q : Int) + 1 < (d.size : Int) := by omega
        have ra58 : IntKind.i64.wrap ((q : Int) + 1) = (q : Int) + 1 := by rw [IntKind.wrap_i64]; omega
        have ec58 : ((q : Int)).toNat = q := by omega
        have pc58 : (0 : Int) ≤ (q : Int) := by omega
        have bc58 : (q : Int) < (d.size : Int) := by omega
        have rc58 : IntKind.i64.wrap ((q : Int)) = (q : Int) := by rw [IntKind.wrap_i64]; omega
        have S2 : Aside (SWX enc k w0 blk off (swp dk (q + 1) (q)) ((wr.drew.setCells blk (off + (q + 1) * k) (enc dk[q]!)).setCells blk (off + (q) * k) (enc dk[q + 1]!))) := S1.out.swapped R (q + 1) (q) (by omega) (by omega)
        have l58a := S1.out.ld1 R (by omega) P (q + 1) (by omega)
        have l58b := S1.out.ld1 R (by omega) P (q) (by omega)
        have s58a := S1.out.st1 R (by omega) P (q + 1) (by omega) dk[q]!
        have s58b := S1.out.st2 R (by omega) P (q + 1) (q) (by omega) (by omega) dk[q]! dk[q + 1]!
        have n58a : (enc dk[q + 1]!).length = k := R.hk _
        have n58b : (enc dk[q]!).length = k := R.hk _
        generalize enc dk[q + 1]! = cI58 at S2 l58a s58b n58a
        generalize enc dk[q]! = cJ58 at S2 l58b s58a s58b n58b
        clear S1
        go_wp2_with fail
        go_big_region_o
        clear l58a l58b s58a s58b
        generalize (wr.drew.setCells blk (off + (q + 1) * k) cJ58).setCells blk (off + (q) * k) cI58 = w2 at S2 ⊢
        go_wp2
        go_roundg (q - i)
        case measure => omega
        case rel => exact ⟨q, swp dk (q + 1) q, by first | rfl | go_num, by omega, by omega, Nat.le_refl _, by rw [size_swp]; exact hds, S2, by show _ = _; rw [← HU.out, show dnL i (q + 1) dk = if i < q + 1 then dnL i q (swp dk (q + 1) q) else dk from rfl, if_pos hlt]⟩
       ·have hltz : ¬ (i : Int) < (q : Int) := by omega
        obtain rfl : i = q := by omega
        go_wp2
        (first | go_end0 | refine bodyPost_ret (results_none rfl _ _ _) rfl ?_)
        refine ⟨rfl, ?_⟩
        unfold symM
        rw [if_neg (by omega), if_pos (by omega), HST.out, ← HU.out]
        have e : dnL i i dk = dk := by
         cases i with
         | zero => rfl
         | succ i => unfold dnL; rw [if_neg (by omega)]
        rw [e]
        exact S1.out
   ·have hz2 : ¬ ((b : Int) - (m : Int) = 1) := by omega
    have hz2b : ((b : Int) - (m : Int) == 1) = false := beq_eq_false_iff_ne.2 hz2
    by_cases cm : (a + b) / 2 < m
    ·have hmz : ((a : Int) + (b : Int)) / 2 < (m : Int) := by omega
     have hlo : symLo a m b = (a + b) / 2 + m - b := by unfold symLo; rw [if_pos cm]
     have hhi : symHi a m b = (a + b) / 2 := by unfold symHi; rw [if_pos cm]
     go_enter E.f124, Try.ntmps124
     go_wp2
     go_loopg [20, 21] (((a + b) / 2) - ((a + b) / 2 + m - b)) (fun kx sA sB wr => ∃ (i j : Nat), sA = .int .i64 i ∧ sB = .int .i64 j ∧ ((a + b) / 2 + m - b) ≤ i ∧ i ≤ j ∧ j ≤ ((a + b) / 2) ∧ j - i ≤ kx ∧ Aside (SWX enc k w0 blk off d wr) ∧ Hid (bsx (fun c => !ltOf cf d[(a + b) / 2 + m - 1 - c]! d[c]!) i j = bsx (fun c => !ltOf cf d[(a + b) / 2 + m - 1 - c]! d[c]!) ((a + b) / 2 + m - b) ((a + b) / 2)))
     case atStart => exact ⟨((a + b) / 2 + m - b), ((a + b) / 2), by first | rfl | go_num | (congr 1; omega), by first | rfl | go_num | (congr 1; omega), Nat.le_refl _, by omega, Nat.le_refl _, Nat.le_refl _, S0, rfl⟩
     case round =>
      clear S0
      obtain ⟨i, j, rfl, rfl, hli, hlj, hjh, hkx, S1, HE⟩ := hrel
      by_cases hij : i < j
      ·have hijz : (i : Int) < (j : Int) := by omega
       have y1 : ((i : Int) + (j : Int)) / 2 ≤ ((a : Int) + (b : Int)) / 2 + (m : Int) - 1 := by omega
       have y2 : ((i : Int) + (j : Int)) / 2 < ((a : Int) + (b : Int)) / 2 + (m : Int) := by omega
       have y3 : (0 : Int) ≤ ((a : Int) + (b : Int)) / 2 + (m : Int) - 1 := by omega
       have y4 : ((a : Int) + (b : Int)) / 2 + (m : Int) - 1 < (d.size : Int) + ((i : Int) + (j : Int)) / 2 := by omega
       have y5 : (((a : Int) + (b : Int)) / 2 + (m : Int) - 1 - ((i : Int) + (j : Int)) / 2).toNat = (a + b) / 2 + m - 1 - (i + j) / 2 := by omega
       cases hq : ltOf cf d[(a + b) / 2 + m - 1 - (i + j) / 2]! d[(i + j) / 2]! with
       | false =>
        have ea60 : (((a : Int) + (b : Int)) / 2 + (m : Int) - 1 - ((i : Int) + (j : Int)) / 2).toNat = (a + b) / 2 + m - 1 - (i + j) / 2 := by omega
        have pa60 : (0 : Int) ≤ ((a : Int) + (b : Int)) / 2 + (m : Int) - 1 - ((i : Int) + (j : Int)) / 2 := by omega
        have ba60 : ((a : Int) + (b : Int)) / 2 + (m : Int) - 1 - ((i : Int) + (j : Int)) / 2 < (d.size : Int) := by omega
        have ra60 : IntKind.i64.wrap (((a : Int) + (b : Int)) / 2 + (m : Int) - 1 - ((i : Int) + (j : Int)) / 2) = ((a : Int) + (b : Int)) / 2 + (m : Int) - 1 - ((i : Int) + (j : Int)) / 2 := by rw [IntKind.wrap_i64]; omega
        have ec60 : (((i : Int) + (j : Int)) / 2).toNat = (i + j) / 2 := by omega
        have pc60 : (0 : Int) ≤ ((i : Int) + (j : Int)) / 2 := by omega
        have bc60 : ((i : Int) + (j : Int)) / 2 < (d.size : Int) := by omega
        have rc60 : IntKind.i64.wrap (((i : Int) + (j : Int)) / 2) = ((i : Int) + (j : Int)) / 2 := by rw [IntKind.wrap_i64]; omega
        obtain ⟨x60, hx60⟩ : ∃ x, x = d[(a + b) / 2 + m - 1 - (i + j) / 2]! := ⟨_, rfl⟩
        obtain ⟨y60, hy60⟩ : ∃ x, x = d[(i + j) / 2]! := ⟨_, rfl⟩
        have l60a := S1.out.ld R (by omega) P ((a + b) / 2 + m - 1 - (i + j) / 2) (by omega)
        have l60b := S1.out.ld R (by omega) P ((i + j) / 2) (by omega)
        rw [← hx60] at l60a
        rw [← hy60] at l60b
        have hc60 := CmpB.at_ HC.out wr x60 y60
        have hv60 : ¬ (cf x60 y60 < 0) := by rw [hx60, hy60]; exact of_decide_eq_false hq
        have hd60 : decide (cf x60 y60 < 0) = false := decide_eq_false hv60
        clear hx60 hy60
        go_wp2_with fail
        refine wp_region_quietX (by assumption) (by kernel_rfl) ?_
        repeat (quiet_step (first | (go_at_fn g; refine callsX_of (hc60 _ _))))
        refine wpQuiet_nil ?_
        intro _ hw_
        obtain ⟨⟨tq, osq⟩, hw_⟩ := hw_
        subst hw_
        have S2 : Aside (SWX enc k w0 blk off d (grow (atD wr tq) osq)) := S1.out.grownX tq osq
        clear l60a l60b hc60 S1
        generalize grow (atD wr tq) osq = w2 at S2 ⊢
        clear tq osq
        go_wp2
        go_roundg (j - ((i + j) / 2 + 1))
        case measure => omega
        case rel => exact ⟨(i + j) / 2 + 1, j, by first | rfl | go_num | (congr 1; omega), rfl, by omega, by omega, by omega, Nat.le_refl _, S2, by show _ = _; rw [← HE.out, bsx.eq_1 _ i j, if_pos hij, if_pos (by simp [hq])]⟩
       | true =>
        have ea60 : (((a : Int) + (b : Int)) / 2 + (m : Int) - 1 - ((i : Int) + (j : Int)) / 2).toNat = (a + b) / 2 + m - 1 - (i + j) / 2 := by omega
        have pa60 : (0 : Int) ≤ ((a : Int) + (b : Int)) / 2 + (m : Int) - 1 - ((i : Int) + (j : Int)) / 2 := by omega
        have ba60 : ((a : Int) + (b : Int)) / 2 + (m : Int) - 1 - ((i : Int) + (j : Int)) / 2 < (d.size : Int) := by omega
        have ra60 : IntKind.i64.wrap (((a : Int) + (b : Int)) / 2 + (m : Int) - 1 - ((i : Int) + (j : Int)) / 2) = ((a : Int) + (b : Int)) / 2 + (m : Int) - 1 - ((i : Int) + (j : Int)) / 2 := by rw [IntKind.wrap_i64]; omega
        have ec60 : (((i : Int) + (j : Int)) / 2).toNat = (i + j) / 2 := by omega
        have pc60 : (0 : Int) ≤ ((i : Int) + (j : Int)) / 2 := by omega
        have bc60 : ((i : Int) + (j : Int)) / 2 < (d.size : Int) := by omega
        have rc60 : IntKind.i64.wrap (((i : Int) + (j : Int)) / 2) = ((i : Int) + (j : Int)) / 2 := by rw [IntKind.wrap_i64]; omega
        obtain ⟨x60, hx60⟩ : ∃ x, x = d[(a + b) / 2 + m - 1 - (i + j) / 2]! := ⟨_, rfl⟩
        obtain ⟨y60, hy60⟩ : ∃ x, x = d[(i + j) / 2]! := ⟨_, rfl⟩
        have l60a := S1.out.ld R (by omega) P ((a + b) / 2 + m - 1 - (i + j) / 2) (by omega)
        have l60b := S1.out.ld R (by omega) P ((i + j) / 2) (by omega)
        rw [← hx60] at l60a
        rw [← hy60] at l60b
        have hc60 := CmpB.at_ HC.out wr x60 y60
        have hv60 : (cf x60 y60 < 0) := by rw [hx60, hy60]; exact of_decide_eq_true hq
        have hd60 : decide (cf x60 y60 < 0) = true := decide_eq_true hv60
        clear hx60 hy60
        go_wp2_with fail
        refine wp_region_quietX (by assumption) (by kernel_rfl) ?_
        repeat (quiet_step (first | (go_at_fn g; refine callsX_of (hc60 _ _))))
        refine wpQuiet_nil ?_
        intro _ hw_
        obtain ⟨⟨tq, osq⟩, hw_⟩ := hw_
        subst hw_
        have S2 : Aside (SWX enc k w0 blk off d (grow (atD wr tq) osq)) := S1.out.grownX tq osq
        clear l60a l60b hc60 S1
        generalize grow (atD wr tq) osq = w2 at S2 ⊢
        clear tq osq
        go_wp2
        go_roundg ((i + j) / 2 - i)
        case measure => omega
        case rel => exact ⟨i, (i + j) / 2, rfl, by first | rfl | go_num | (congr 1; omega), by omega, by omega, by omega, Nat.le_refl _, S2, by show _ = _; rw [← HE.out, bsx.eq_1 _ i j, if_pos hij, if_neg (by simp [hq])]⟩
      ·have hijz : ¬ (i : Int) < (j : Int) := by omega
       obtain rfl : i = j := by omega
       have hst : bsx (fun c => !ltOf cf d[(a + b) / 2 + m - 1 - c]! d[c]!) ((a + b) / 2 + m - b) ((a + b) / 2) = i := by rw [← HE.out, bsx, if_neg (by omega)]
       clear HE
       have HST : Hid (symSt (ltOf cf) d a m b = i) := by show _ = _; unfold symSt; rw [hlo, hhi]; exact hst
       clear hst
       by_cases c1 : i < m
       ·by_cases c2 : i < (a + b) / 2
        ·by_cases c3 : a < i
         ·by_cases c4 : (a + b) / 2 + m - i < b
          ·have z1 : ((i : Int) < (m : Int)) := by omega
           have z2 : ((m : Int) < ((a : Int) + (b : Int)) / 2 + (m : Int) - (i : Int)) := by omega
           have z3 : ((a : Int) < (i : Int)) := by omega
           have z4 : ((i : Int) < ((a : Int) + (b : Int)) / 2) := by omega
           have z5 : (((a : Int) + (b : Int)) / 2 < ((a : Int) + (b : Int)) / 2 + (m : Int) - (i : Int)) := by omega
           have z6 : (((a : Int) + (b : Int)) / 2 + (m : Int) - (i : Int) < (b : Int)) := by omega
           have hcA := rotL_calls E k aE zE enc i m ((a + b) / 2 + m - i) g cb blk off cap d0 d w0 wr R (by omega) S1.out (by omega) (by omega) (by omega) (by omega)
           rw [show (((a + b) / 2 + m - i : Nat) : Int) = ((a : Int) + (b : Int)) / 2 + (m : Int) - (i : Int) from by omega] at hcA
           have e1 : symA m i ((a + b) / 2 + m - i) d = (rotL m (m - i) ((a + b) / 2 + m - i - m) d) := by unfold symA; rw [if_pos (by omega)]
           have z7 : (rotL m (m - i) ((a + b) / 2 + m - i - m) d).size = d.size := by exact rotL_size ..
           have e2 : symB (symM (ltOf cf) f) a i ((a + b) / 2) (rotL m (m - i) ((a + b) / 2 + m - i - m) d) = (symM (ltOf cf) f (rotL m (m - i) ((a + b) / 2 + m - i - m) d) a i ((a + b) / 2)) := by unfold symB; rw [if_pos (by omega)]
           have z8 : (symM (ltOf cf) f (rotL m (m - i) ((a + b) / 2 + m - i - m) d) a i ((a + b) / 2)).size = d.size := by first | exact (symM_size ..).trans z7 | simp only [symM_size]
           have e3 : symE (symM (ltOf cf) f) ((a + b) / 2) ((a + b) / 2 + m - i) b (symM (ltOf cf) f (rotL m (m - i) ((a + b) / 2 + m - i - m) d) a i ((a + b) / 2)) = (symM (ltOf cf) f (symM (ltOf cf) f (rotL m (m - i) ((a + b) / 2 + m - i - m) d) a i ((a + b) / 2)) ((a + b) / 2) ((a + b) / 2 + m - i) b) := by unfold symE; rw [if_pos (by omega)]
           have E3 : Hid (symM (ltOf cf) (f + 1) d a m b = (symM (ltOf cf) f (symM (ltOf cf) f (rotL m (m - i) ((a + b) / 2 + m - i - m) d) a i ((a + b) / 2)) ((a + b) / 2) ((a + b) / 2 + m - i) b)) := by show _ = _; rw [symM, if_neg (by omega), if_neg (by omega), HST.out, e1, e2, e3]
           clear e1 e2 e3
           go_wp2_with (first | (go_at_call 125; refine hcA.mono ?_; rintro e w2 ⟨rfl, h_⟩))
           have S2 : Aside _ := h_
           clear h_ hcA
           have hcB := ih a i ((a + b) / 2) (rotL m (m - i) ((a + b) / 2 + m - i - m) d) w2 (by omega) S2.out (by omega) (by omega) (by omega) (by omega) (by omega)
           rw [z7] at hcB
           go_wp2_with (first | (go_at_call 124; refine hcB.mono ?_; rintro e w3 ⟨rfl, h_⟩))
           have S3 : Aside _ := h_
           clear h_ hcB
           have hcC := ih ((a + b) / 2) ((a + b) / 2 + m - i) b (symM (ltOf cf) f (rotL m (m - i) ((a + b) / 2 + m - i - m) d) a i ((a + b) / 2)) w3 (by omega) S3.out (by omega) (by omega) (by omega) (by omega) (by omega)
           rw [z8, show (((a + b) / 2 + m - i : Nat) : Int) = ((a : Int) + (b : Int)) / 2 + (m : Int) - (i : Int) from by omega] at hcC
           go_wp2_with (first | (go_at_call 124; refine hcC.mono ?_; rintro e w4 ⟨rfl, h_⟩))
           have S4 : Aside _ := h_
           clear h_ hcC
           go_wp2
           (first | go_end0 | refine bodyPost_ret (results_none rfl _ _ _) rfl ?_)
           exact ⟨rfl, by rw [E3.out]; exact S4.out⟩
          ·have z1 : ((i : Int) < (m : Int)) := by omega
           have z2 : ((m : Int) < ((a : Int) + (b : Int)) / 2 + (m : Int) - (i : Int)) := by omega
           have z3 : ((a : Int) < (i : Int)) := by omega
           have z4 : ((i : Int) < ((a : Int) + (b : Int)) / 2) := by omega
           have z5 : (((a : Int) + (b : Int)) / 2 < ((a : Int) + (b : Int)) / 2 + (m : Int) - (i : Int)) := by omega
           have z6 : ¬ (((a : Int) + (b : Int)) / 2 + (m : Int) - (i : Int) < (b : Int)) := by omega
           have hcA := rotL_calls E k aE zE enc i m ((a + b) / 2 + m - i) g cb blk off cap d0 d w0 wr R (by omega) S1.out (by omega) (by omega) (by omega) (by omega)
           rw [show (((a + b) / 2 + m - i : Nat) : Int) = ((a : Int) + (b : Int)) / 2 + (m : Int) - (i : Int) from by omega] at hcA
           have e1 : symA m i ((a + b) / 2 + m - i) d = (rotL m (m - i) ((a + b) / 2 + m - i - m) d) := by unfold symA; rw [if_pos (by omega)]
           have z7 : (rotL m (m - i) ((a + b) / 2 + m - i - m) d).size = d.size := by exact rotL_size ..
           have e2 : symB (symM (ltOf cf) f) a i ((a + b) / 2) (rotL m (m - i) ((a + b) / 2 + m - i - m) d) = (symM (ltOf cf) f (rotL m (m - i) ((a + b) / 2 + m - i - m) d) a i ((a + b) / 2)) := by unfold symB; rw [if_pos (by omega)]
           have z8 : (symM (ltOf cf) f (rotL m (m - i) ((a + b) / 2 + m - i - m) d) a i ((a + b) / 2)).size = d.size := by first | exact (symM_size ..).trans z7 | simp only [symM_size]
           have e3 : symE (symM (ltOf cf) f) ((a + b) / 2) ((a + b) / 2 + m - i) b (symM (ltOf cf) f (rotL m (m - i) ((a + b) / 2 + m - i - m) d) a i ((a + b) / 2)) = (symM (ltOf cf) f (rotL m (m - i) ((a + b) / 2 + m - i - m) d) a i ((a + b) / 2)) := by unfold symE; rw [if_neg (by omega)]
           have E3 : Hid (symM (ltOf cf) (f + 1) d a m b = (symM (ltOf cf) f (rotL m (m - i) ((a + b) / 2 + m - i - m) d) a i ((a + b) / 2))) := by show _ = _; rw [symM, if_neg (by omega), if_neg (by omega), HST.out, e1, e2, e3]
           clear e1 e2 e3
           go_wp2_with (first | (go_at_call 125; refine hcA.mono ?_; rintro e w2 ⟨rfl, h_⟩))
           have S2 : Aside _ := h_
           clear h_ hcA
           have hcB := ih a i ((a + b) / 2) (rotL m (m - i) ((a + b) / 2 + m - i - m) d) w2 (by omega) S2.out (by omega) (by omega) (by omega) (by omega) (by omega)
           rw [z7] at hcB
           go_wp2_with (first | (go_at_call 124; refine hcB.mono ?_; rintro e w3 ⟨rfl, h_⟩))
           have S3 : Aside _ := h_
           clear h_ hcB
           go_wp2
           (first | go_end0 | refine bodyPost_ret (results_none rfl _ _ _) rfl ?_)
           exact ⟨rfl, by rw [E3.out]; exact S3.out⟩
         ·by_cases c4 : (a + b) / 2 + m - i < b
          ·have z1 : ((i : Int) < (m : Int)) := by omega
           have z2 : ((m : Int) < ((a : Int) + (b : Int)) / 2 + (m : Int) - (i : Int)) := by omega
           have z3 : ¬ ((a : Int) < (i : Int)) := by omega
           have z4 : ((i : Int) < ((a : Int) + (b : Int)) / 2) := by omega
           have z5 : (((a : Int) + (b : Int)) / 2 < ((a : Int) + (b : Int)) / 2 + (m : Int) - (i : Int)) := by omega
           have z6 : (((a : Int) + (b : Int)) / 2 + (m : Int) - (i : Int) < (b : Int)) := by omega
           have hcA := rotL_calls E k aE zE enc i m ((a + b) / 2 + m - i) g cb blk off cap d0 d w0 wr R (by omega) S1.out (by omega) (by omega) (by omega) (by omega)
           rw [show (((a + b) / 2 + m - i : Nat) : Int) = ((a : Int) + (b : Int)) / 2 + (m : Int) - (i : Int) from by omega] at hcA
           have e1 : symA m i ((a + b) / 2 + m - i) d = (rotL m (m - i) ((a + b) / 2 + m - i - m) d) := by unfold symA; rw [if_pos (by omega)]
           have z7 : (rotL m (m - i) ((a + b) / 2 + m - i - m) d).size = d.size := by exact rotL_size ..
           have e2 : symB (symM (ltOf cf) f) a i ((a + b) / 2) (rotL m (m - i) ((a + b) / 2 + m - i - m) d) = (rotL m (m - i) ((a + b) / 2 + m - i - m) d) := by unfold symB; rw [if_neg (by omega)]
           have z8 : (rotL m (m - i) ((a + b) / 2 + m - i - m) d).size = d.size := by exact z7
           have e3 : symE (symM (ltOf cf) f) ((a + b) / 2) ((a + b) / 2 + m - i) b (rotL m (m - i) ((a + b) / 2 + m - i - m) d) = (symM (ltOf cf) f (rotL m (m - i) ((a + b) / 2 + m - i - m) d) ((a + b) / 2) ((a + b) / 2 + m - i) b) := by unfold symE; rw [if_pos (by omega)]
           have E3 : Hid (symM (ltOf cf) (f + 1) d a m b = (symM (ltOf cf) f (rotL m (m - i) ((a + b) / 2 + m - i - m) d) ((a + b) / 2) ((a + b) / 2 + m - i) b)) := by show _ = _; rw [symM, if_neg (by omega), if_neg (by omega), HST.out, e1, e2, e3]
           clear e1 e2 e3
           go_wp2_with (first | (go_at_call 125; refine hcA.mono ?_; rintro e w2 ⟨rfl, h_⟩))
           have S2 : Aside _ := h_
           clear h_ hcA
           have hcC := ih ((a + b) / 2) ((a + b) / 2 + m - i) b (rotL m (m - i) ((a + b) / 2 + m - i - m) d) w2 (by omega) S2.out (by omega) (by omega) (by omega) (by omega) (by omega)
           rw [z8, show (((a + b) / 2 + m - i : Nat) : Int) = ((a : Int) + (b : Int)) / 2 + (m : Int) - (i : Int) from by omega] at hcC
           go_wp2_with (first | (go_at_call 124; refine hcC.mono ?_; rintro e w4 ⟨rfl, h_⟩))
           have S4 : Aside _ := h_
           clear h_ hcC
           go_wp2
           (first | go_end0 | refine bodyPost_ret (results_none rfl _ _ _) rfl ?_)
           exact ⟨rfl, by rw [E3.out]; exact S4.out⟩
          ·have z1 : ((i : Int) < (m : Int)) := by omega
           have z2 : ((m : Int) < ((a : Int) + (b : Int)) / 2 + (m : Int) - (i : Int)) := by omega
           have z3 : ¬ ((a : Int) < (i : Int)) := by omega
           have z4 : ((i : Int) < ((a : Int) + (b : Int)) / 2) := by omega
           have z5 : (((a : Int) + (b : Int)) / 2 < ((a : Int) + (b : Int)) / 2 + (m : Int) - (i : Int)) := by omega
           have z6 : ¬ (((a : Int) + (b : Int)) / 2 + (m : Int) - (i : Int) < (b : Int)) := by omega
           have hcA := rotL_calls E k aE zE enc i m ((a + b) / 2 + m - i) g cb blk off cap d0 d w0 wr R (by omega) S1.out (by omega) (by omega) (by omega) (by omega)
           rw [show (((a + b) / 2 + m - i : Nat) : Int) = ((a : Int) + (b : Int)) / 2 + (m : Int) - (i : Int) from by omega] at hcA
           have e1 : symA m i ((a + b) / 2 + m - i) d = (rotL m (m - i) ((a + b) / 2 + m - i - m) d) := by unfold symA; rw [if_pos (by omega)]
           have z7 : (rotL m (m - i) ((a + b) / 2 + m - i - m) d).size = d.size := by exact rotL_size ..
           have e2 : symB (symM (ltOf cf) f) a i ((a + b) / 2) (rotL m (m - i) ((a + b) / 2 + m - i - m) d) = (rotL m (m - i) ((a + b) / 2 + m - i - m) d) := by unfold symB; rw [if_neg (by omega)]
           have z8 : (rotL m (m - i) ((a + b) / 2 + m - i - m) d).size = d.size := by exact z7
           have e3 : symE (symM (ltOf cf) f) ((a + b) / 2) ((a + b) / 2 + m - i) b (rotL m (m - i) ((a + b) / 2 + m - i - m) d) = (rotL m (m - i) ((a + b) / 2 + m - i - m) d) := by unfold symE; rw [if_neg (by omega)]
           have E3 : Hid (symM (ltOf cf) (f + 1) d a m b = (rotL m (m - i) ((a + b) / 2 + m - i - m) d)) := by show _ = _; rw [symM, if_neg (by omega), if_neg (by omega), HST.out, e1, e2, e3]
           clear e1 e2 e3
           go_wp2_with (first | (go_at_call 125; refine hcA.mono ?_; rintro e w2 ⟨rfl, h_⟩))
           have S2 : Aside _ := h_
           clear h_ hcA
           go_wp2
           (first | go_end0 | refine bodyPost_ret (results_none rfl _ _ _) rfl ?_)
           exact ⟨rfl, by rw [E3.out]; exact S2.out⟩
        ·by_cases c3 : a < i
         ·by_cases c4 : (a + b) / 2 + m - i < b
          ·have z1 : ((i : Int) < (m : Int)) := by omega
           have z2 : ¬ ((m : Int) < ((a : Int) + (b : Int)) / 2 + (m : Int) - (i : Int)) := by omega
           have z3 : ((a : Int) < (i : Int)) := by omega
           have z4 : ¬ ((i : Int) < ((a : Int) + (b : Int)) / 2) := by omega
           have z5 : (((a : Int) + (b : Int)) / 2 < ((a : Int) + (b : Int)) / 2 + (m : Int) - (i : Int)) := by omega
           have z6 : (((a : Int) + (b : Int)) / 2 + (m : Int) - (i : Int) < (b : Int)) := by omega
           have e1 : symA m i ((a + b) / 2 + m - i) d = d := by unfold symA; rw [if_neg (by omega)]
           have z7 : d.size = d.size := by rfl
           have e2 : symB (symM (ltOf cf) f) a i ((a + b) / 2) d = d := by unfold symB; rw [if_neg (by omega)]
           have z8 : d.size = d.size := by exact z7
           have e3 : symE (symM (ltOf cf) f) ((a + b) / 2) ((a + b) / 2 + m - i) b d = (symM (ltOf cf) f d ((a + b) / 2) ((a + b) / 2 + m - i) b) := by unfold symE; rw [if_pos (by omega)]
           have E3 : Hid (symM (ltOf cf) (f + 1) d a m b = (symM (ltOf cf) f d ((a + b) / 2) ((a + b) / 2 + m - i) b)) := by show _ = _; rw [symM, if_neg (by omega), if_neg (by omega), HST.out, e1, e2, e3]
           clear e1 e2 e3
           have hcC := ih ((a + b) / 2) ((a + b) / 2 + m - i) b d wr (by omega) S1.out (by omega) (by omega) (by omega) (by omega) (by omega)
           rw [z8, show (((a + b) / 2 + m - i : Nat) : Int) = ((a : Int) + (b : Int)) / 2 + (m : Int) - (i : Int) from by omega] at hcC
           go_wp2_with (first | (go_at_call 124; refine hcC.mono ?_; rintro e w4 ⟨rfl, h_⟩))
           have S4 : Aside _ := h_
           clear h_ hcC
           go_wp2
           (first | go_end0 | refine bodyPost_ret (results_none rfl _ _ _) rfl ?_)
           exact ⟨rfl, by rw [E3.out]; exact S4.out⟩
          ·exfalso
           omega
         ·by_cases c4 : (a + b) / 2 + m - i < b
          ·exfalso
           omega
          ·exfalso
           omega
       ·by_cases c2 : i < (a + b) / 2
        ·by_cases c3 : a < i
         ·by_cases c4 : (a + b) / 2 + m - i < b
          ·exfalso
           omega
          ·exfalso
           omega
         ·by_cases c4 : (a + b) / 2 + m - i < b
          ·exfalso
           omega
          ·exfalso
           omega
        ·by_cases c3 : a < i
         ·by_cases c4 : (a + b) / 2 + m - i < b
          ·exfalso
           omega
          ·exfalso
           omega
         ·by_cases c4 : (a + b) / 2 + m - i < b
          ·exfalso
           omega
          ·exfalso
           omega
    ·have hmz : ¬ ((a : Int) + (b : Int)) / 2 < (m : Int) := by omega
     have hlo : symLo a m b = a := by unfold symLo; rw [if_neg cm]
     have hhi : symHi a m b = m := by unfold symHi; rw [if_neg cm]
     go_enter E.f124, Try.ntmps124
     go_wp2
     go_loopg [20, 21] (m - a) (fun kx sA sB wr => ∃ (i j : Nat), sA = .int .i64 i ∧ sB = .int .i64 j ∧ a ≤ i ∧ i ≤ j ∧ j ≤ m ∧ j - i ≤ kx ∧ Aside (SWX enc k w0 blk off d wr) ∧ Hid (bsx (fun c => !ltOf cf d[(a + b) / 2 + m - 1 - c]! d[c]!) i j = bsx (fun c => !ltOf cf d[(a + b) / 2 + m - 1 - c]! d[c]!) a m))
     case atStart => exact ⟨a, m, by first | rfl | go_num | (congr 1; omega), by first | rfl | go_num | (congr 1; omega), Nat.le_refl _, by omega, Nat.le_refl _, Nat.le_refl _, S0, rfl⟩
     case round =>
      clear S0
      obtain ⟨i, j, rfl, rfl, hli, hlj, hjh, hkx, S1, HE⟩ := hrel
      by_cases hij : i < j
      ·have hijz : (i : Int) < (j : Int) := by omega
       have y1 : ((i : Int) + (j : Int)) / 2 ≤ ((a : Int) + (b : Int)) / 2 + (m : Int) - 1 := by omega
       have y2 : ((i : Int) + (j : Int)) / 2 < ((a : Int) + (b : Int)) / 2 + (m : Int) := by omega
       have y3 : (0 : Int) ≤ ((a : Int) + (b : Int)) / 2 + (m : Int) - 1 := by omega
       have y4 : ((a : Int) + (b : Int)) / 2 + (m : Int) - 1 < (d.size : Int) + ((i : Int) + (j : Int)) / 2 := by omega
       have y5 : (((a : Int) + (b : Int)) / 2 + (m : Int) - 1 - ((i : Int) + (j : Int)) / 2).toNat = (a + b) / 2 + m - 1 - (i + j) / 2 := by omega
       cases hq : ltOf cf d[(a + b) / 2 + m - 1 - (i + j) / 2]! d[(i + j) / 2]! with
       | false =>
        have ea62 : (((a : Int) + (b : Int)) / 2 + (m : Int) - 1 - ((i : Int) + (j : Int)) / 2).toNat = (a + b) / 2 + m - 1 - (i + j) / 2 := by omega
        have pa62 : (0 : Int) ≤ ((a : Int) + (b : Int)) / 2 + (m : Int) - 1 - ((i : Int) + (j : Int)) / 2 := by omega
        have ba62 : ((a : Int) + (b : Int)) / 2 + (m : Int) - 1 - ((i : Int) + (j : Int)) / 2 < (d.size : Int) := by omega
        have ra62 : IntKind.i64.wrap (((a : Int) + (b : Int)) / 2 + (m : Int) - 1 - ((i : Int) + (j : Int)) / 2) = ((a : Int) + (b : Int)) / 2 + (m : Int) - 1 - ((i : Int) + (j : Int)) / 2 := by rw [IntKind.wrap_i64]; omega
        have ec62 : (((i : Int) + (j : Int)) / 2).toNat = (i + j) / 2 := by omega
        have pc62 : (0 : Int) ≤ ((i : Int) + (j : Int)) / 2 := by omega
        have bc62 : ((i : Int) + (j : Int)) / 2 < (d.size : Int) := by omega
        have rc62 : IntKind.i64.wrap (((i : Int) + (j : Int)) / 2) = ((i : Int) + (j : Int)) / 2 := by rw [IntKind.wrap_i64]; omega
        obtain ⟨x62, hx62⟩ : ∃ x, x = d[(a + b) / 2 + m - 1 - (i + j) / 2]! := ⟨_, rfl⟩
        obtain ⟨y62, hy62⟩ : ∃ x, x = d[(i + j) / 2]! := ⟨_, rfl⟩
        have l62a := S1.out.ld R (by omega) P ((a + b) / 2 + m - 1 - (i + j) / 2) (by omega)
        have l62b := S1.out.ld R (by omega) P ((i + j) / 2) (by omega)
        rw [← hx62] at l62a
        rw [← hy62] at l62b
        have hc62 := CmpB.at_ HC.out wr x62 y62
        have hv62 : ¬ (cf x62 y62 < 0) := by rw [hx62, hy62]; exact of_decide_eq_false hq
        have hd62 : decide (cf x62 y62 < 0) = false := decide_eq_false hv62
        clear hx62 hy62
        go_wp2_with fail
        refine wp_region_quietX (by assumption) (by kernel_rfl) ?_
        repeat (quiet_step (first | (go_at_fn g; refine callsX_of (hc62 _ _))))
        refine wpQuiet_nil ?_
        intro _ hw_
        obtain ⟨⟨tq, osq⟩, hw_⟩ := hw_
        subst hw_
        have S2 : Aside (SWX enc k w0 blk off d (grow (atD wr tq) osq)) := S1.out.grownX tq osq
        clear l62a l62b hc62 S1
        generalize grow (atD wr tq) osq = w2 at S2 ⊢
        clear tq osq
        go_wp2
        go_roundg (j - ((i + j) / 2 + 1))
        case measure => omega
        case rel => exact ⟨(i + j) / 2 + 1, j, by first | rfl | go_num | (congr 1; omega), rfl, by omega, by omega, by omega, Nat.le_refl _, S2, by show _ = _; rw [← HE.out, bsx.eq_1 _ i j, if_pos hij, if_pos (by simp [hq])]⟩
       | true =>
        have ea62 : (((a : Int) + (b : Int)) / 2 + (m : Int) - 1 - ((i : Int) + (j : Int)) / 2).toNat = (a + b) / 2 + m - 1 - (i + j) / 2 := by omega
        have pa62 : (0 : Int) ≤ ((a : Int) + (b : Int)) / 2 + (m : Int) - 1 - ((i : Int) + (j : Int)) / 2 := by omega
        have ba62 : ((a : Int) + (b : Int)) / 2 + (m : Int) - 1 - ((i : Int) + (j : Int)) / 2 < (d.size : Int) := by omega
        have ra62 : IntKind.i64.wrap (((a : Int) + (b : Int)) / 2 + (m : Int) - 1 - ((i : Int) + (j : Int)) / 2) = ((a : Int) + (b : Int)) / 2 + (m : Int) - 1 - ((i : Int) + (j : Int)) / 2 := by rw [IntKind.wrap_i64]; omega
        have ec62 : (((i : Int) + (j : Int)) / 2).toNat = (i + j) / 2 := by omega
        have pc62 : (0 : Int) ≤ ((i : Int) + (j : Int)) / 2 := by omega
        have bc62 : ((i : Int) + (j : Int)) / 2 < (d.size : Int) := by omega
        have rc62 : IntKind.i64.wrap (((i : Int) + (j : Int)) / 2) = ((i : Int) + (j : Int)) / 2 := by rw [IntKind.wrap_i64]; omega
        obtain ⟨x62, hx62⟩ : ∃ x, x = d[(a + b) / 2 + m - 1 - (i + j) / 2]! := ⟨_, rfl⟩
        obtain ⟨y62, hy62⟩ : ∃ x, x = d[(i + j) / 2]! := ⟨_, rfl⟩
        have l62a := S1.out.ld R (by omega) P ((a + b) / 2 + m - 1 - (i + j) / 2) (by omega)
        have l62b := S1.out.ld R (by omega) P ((i + j) / 2) (by omega)
        rw [← hx62] at l62a
        rw [← hy62] at l62b
        have hc62 := CmpB.at_ HC.out wr x62 y62
        have hv62 : (cf x62 y62 < 0) := by rw [hx62, hy62]; exact of_decide_eq_true hq
        have hd62 : decide (cf x62 y62 < 0) = true := decide_eq_true hv62
        clear hx62 hy62
        go_wp2_with fail
        refine wp_region_quietX (by assumption) (by kernel_rfl) ?_
        repeat (quiet_step (first | (go_at_fn g; refine callsX_of (hc62 _ _))))
        refine wpQuiet_nil ?_
        intro _ hw_
        obtain ⟨⟨tq, osq⟩, hw_⟩ := hw_
        subst hw_
        have S2 : Aside (SWX enc k w0 blk off d (grow (atD wr tq) osq)) := S1.out.grownX tq osq
        clear l62a l62b hc62 S1
        generalize grow (atD wr tq) osq = w2 at S2 ⊢
        clear tq osq
        go_wp2
        go_roundg ((i + j) / 2 - i)
        case measure => omega
        case rel => exact ⟨i, (i + j) / 2, rfl, by first | rfl | go_num | (congr 1; omega), by omega, by omega, by omega, Nat.le_refl _, S2, by show _ = _; rw [← HE.out, bsx.eq_1 _ i j, if_pos hij, if_neg (by simp [hq])]⟩
      ·have hijz : ¬ (i : Int) < (j : Int) := by omega
       obtain rfl : i = j := by omega
       have hst : bsx (fun c => !ltOf cf d[(a + b) / 2 + m - 1 - c]! d[c]!) a m = i := by rw [← HE.out, bsx, if_neg (by omega)]
       clear HE
       have HST : Hid (symSt (ltOf cf) d a m b = i) := by show _ = _; unfold symSt; rw [hlo, hhi]; exact hst
       clear hst
       by_cases c1 : i < m
       ·by_cases c2 : i < (a + b) / 2
        ·by_cases c3 : a < i
         ·by_cases c4 : (a + b) / 2 + m - i < b
          ·have z1 : ((i : Int) < (m : Int)) := by omega
           have z2 : ((m : Int) < ((a : Int) + (b : Int)) / 2 + (m : Int) - (i : Int)) := by omega
           have z3 : ((a : Int) < (i : Int)) := by omega
           have z4 : ((i : Int) < ((a : Int) + (b : Int)) / 2) := by omega
           have z5 : (((a : Int) + (b : Int)) / 2 < ((a : Int) + (b : Int)) / 2 + (m : Int) - (i : Int)) := by omega
           have z6 : (((a : Int) + (b : Int)) / 2 + (m : Int) - (i : Int) < (b : Int)) := by omega
           have hcA := rotL_calls E k aE zE enc i m ((a + b) / 2 + m - i) g cb blk off cap d0 d w0 wr R (by omega) S1.out (by omega) (by omega) (by omega) (by omega)
           rw [show (((a + b) / 2 + m - i : Nat) : Int) = ((a : Int) + (b : Int)) / 2 + (m : Int) - (i : Int) from by omega] at hcA
           have e1 : symA m i ((a + b) / 2 + m - i) d = (rotL m (m - i) ((a + b) / 2 + m - i - m) d) := by unfold symA; rw [if_pos (by omega)]
           have z7 : (rotL m (m - i) ((a + b) / 2 + m - i - m) d).size = d.size := by exact rotL_size ..
           have e2 : symB (symM (ltOf cf) f) a i ((a + b) / 2) (rotL m (m - i) ((a + b) / 2 + m - i - m) d) = (symM (ltOf cf) f (rotL m (m - i) ((a + b) / 2 + m - i - m) d) a i ((a + b) / 2)) := by unfold symB; rw [if_pos (by omega)]
           have z8 : (symM (ltOf cf) f (rotL m (m - i) ((a + b) / 2 + m - i - m) d) a i ((a + b) / 2)).size = d.size := by first | exact (symM_size ..).trans z7 | simp only [symM_size]
           have e3 : symE (symM (ltOf cf) f) ((a + b) / 2) ((a + b) / 2 + m - i) b (symM (ltOf cf) f (rotL m (m - i) ((a + b) / 2 + m - i - m) d) a i ((a + b) / 2)) = (symM (ltOf cf) f (symM (ltOf cf) f (rotL m (m - i) ((a + b) / 2 + m - i - m) d) a i ((a + b) / 2)) ((a + b) / 2) ((a + b) / 2 + m - i) b) := by unfold symE; rw [if_pos (by omega)]
           have E3 : Hid (symM (ltOf cf) (f + 1) d a m b = (symM (ltOf cf) f (symM (ltOf cf) f (rotL m (m - i) ((a + b) / 2 + m - i - m) d) a i ((a + b) / 2)) ((a + b) / 2) ((a + b) / 2 + m - i) b)) := by show _ = _; rw [symM, if_neg (by omega), if_neg (by omega), HST.out, e1, e2, e3]
           clear e1 e2 e3
           go_wp2_with (first | (go_at_call 125; refine hcA.mono ?_; rintro e w2 ⟨rfl, h_⟩))
           have S2 : Aside _ := h_
           clear h_ hcA
           have hcB := ih a i ((a + b) / 2) (rotL m (m - i) ((a + b) / 2 + m - i - m) d) w2 (by omega) S2.out (by omega) (by omega) (by omega) (by omega) (by omega)
           rw [z7] at hcB
           go_wp2_with (first | (go_at_call 124; refine hcB.mono ?_; rintro e w3 ⟨rfl, h_⟩))
           have S3 : Aside _ := h_
           clear h_ hcB
           have hcC := ih ((a + b) / 2) ((a + b) / 2 + m - i) b (symM (ltOf cf) f (rotL m (m - i) ((a + b) / 2 + m - i - m) d) a i ((a + b) / 2)) w3 (by omega) S3.out (by omega) (by omega) (by omega) (by omega) (by omega)
           rw [z8, show (((a + b) / 2 + m - i : Nat) : Int) = ((a : Int) + (b : Int)) / 2 + (m : Int) - (i : Int) from by omega] at hcC
           go_wp2_with (first | (go_at_call 124; refine hcC.mono ?_; rintro e w4 ⟨rfl, h_⟩))
           have S4 : Aside _ := h_
           clear h_ hcC
           go_wp2
           (first | go_end0 | refine bodyPost_ret (results_none rfl _ _ _) rfl ?_)
           exact ⟨rfl, by rw [E3.out]; exact S4.out⟩
          ·exfalso
           omega
         ·by_cases c4 : (a + b) / 2 + m - i < b
          ·have z1 : ((i : Int) < (m : Int)) := by omega
           have z2 : ((m : Int) < ((a : Int) + (b : Int)) / 2 + (m : Int) - (i : Int)) := by omega
           have z3 : ¬ ((a : Int) < (i : Int)) := by omega
           have z4 : ((i : Int) < ((a : Int) + (b : Int)) / 2) := by omega
           have z5 : (((a : Int) + (b : Int)) / 2 < ((a : Int) + (b : Int)) / 2 + (m : Int) - (i : Int)) := by omega
           have z6 : (((a : Int) + (b : Int)) / 2 + (m : Int) - (i : Int) < (b : Int)) := by omega
           have hcA := rotL_calls E k aE zE enc i m ((a + b) / 2 + m - i) g cb blk off cap d0 d w0 wr R (by omega) S1.out (by omega) (by omega) (by omega) (by omega)
           rw [show (((a + b) / 2 + m - i : Nat) : Int) = ((a : Int) + (b : Int)) / 2 + (m : Int) - (i : Int) from by omega] at hcA
           have e1 : symA m i ((a + b) / 2 + m - i) d = (rotL m (m - i) ((a + b) / 2 + m - i - m) d) := by unfold symA; rw [if_pos (by omega)]
           have z7 : (rotL m (m - i) ((a + b) / 2 + m - i - m) d).size = d.size := by exact rotL_size ..
           have e2 : symB (symM (ltOf cf) f) a i ((a + b) / 2) (rotL m (m - i) ((a + b) / 2 + m - i - m) d) = (rotL m (m - i) ((a + b) / 2 + m - i - m) d) := by unfold symB; rw [if_neg (by omega)]
           have z8 : (rotL m (m - i) ((a + b) / 2 + m - i - m) d).size = d.size := by exact z7
           have e3 : symE (symM (ltOf cf) f) ((a + b) / 2) ((a + b) / 2 + m - i) b (rotL m (m - i) ((a + b) / 2 + m - i - m) d) = (symM (ltOf cf) f (rotL m (m - i) ((a + b) / 2 + m - i - m) d) ((a + b) / 2) ((a + b) / 2 + m - i) b) := by unfold symE; rw [if_pos (by omega)]
           have E3 : Hid (symM (ltOf cf) (f + 1) d a m b = (symM (ltOf cf) f (rotL m (m - i) ((a + b) / 2 + m - i - m) d) ((a + b) / 2) ((a + b) / 2 + m - i) b)) := by show _ = _; rw [symM, if_neg (by omega), if_neg (by omega), HST.out, e1, e2, e3]
           clear e1 e2 e3
           go_wp2_with (first | (go_at_call 125; refine hcA.mono ?_; rintro e w2 ⟨rfl, h_⟩))
           have S2 : Aside _ := h_
           clear h_ hcA
           have hcC := ih ((a + b) / 2) ((a + b) / 2 + m - i) b (rotL m (m - i) ((a + b) / 2 + m - i - m) d) w2 (by omega) S2.out (by omega) (by omega) (by omega) (by omega) (by omega)
           rw [z8, show (((a + b) / 2 + m - i : Nat) : Int) = ((a : Int) + (b : Int)) / 2 + (m : Int) - (i : Int) from by omega] at hcC
           go_wp2_with (first | (go_at_call 124; refine hcC.mono ?_; rintro e w4 ⟨rfl, h_⟩))
           have S4 : Aside _ := h_
           clear h_ hcC
           go_wp2
           (first | go_end0 | refine bodyPost_ret (results_none rfl _ _ _) rfl ?_)
           exact ⟨rfl, by rw [E3.out]; exact S4.out⟩
          ·have z1 : ((i : Int) < (m : Int)) := by omega
           have z2 : ((m : Int) < ((a : Int) + (b : Int)) / 2 + (m : Int) - (i : Int)) := by omega
           have z3 : ¬ ((a : Int) < (i : Int)) := by omega
           have z4 : ((i : Int) < ((a : Int) + (b : Int)) / 2) := by omega
           have z5 : (((a : Int) + (b : Int)) / 2 < ((a : Int) + (b : Int)) / 2 + (m : Int) - (i : Int)) := by omega
           have z6 : ¬ (((a : Int) + (b : Int)) / 2 + (m : Int) - (i : Int) < (b : Int)) := by omega
           have hcA := rotL_calls E k aE zE enc i m ((a + b) / 2 + m - i) g cb blk off cap d0 d w0 wr R (by omega) S1.out (by omega) (by omega) (by omega) (by omega)
           rw [show (((a + b) / 2 + m - i : Nat) : Int) = ((a : Int) + (b : Int)) / 2 + (m : Int) - (i : Int) from by omega] at hcA
           have e1 : symA m i ((a + b) / 2 + m - i) d = (rotL m (m - i) ((a + b) / 2 + m - i - m) d) := by unfold symA; rw [if_pos (by omega)]
           have z7 : (rotL m (m - i) ((a + b) / 2 + m - i - m) d).size = d.size := by exact rotL_size ..
           have e2 : symB (symM (ltOf cf) f) a i ((a + b) / 2) (rotL m (m - i) ((a + b) / 2 + m - i - m) d) = (rotL m (m - i) ((a + b) / 2 + m - i - m) d) := by unfold symB; rw [if_neg (by omega)]
           have z8 : (rotL m (m - i) ((a + b) / 2 + m - i - m) d).size = d.size := by exact z7
           have e3 : symE (symM (ltOf cf) f) ((a + b) / 2) ((a + b) / 2 + m - i) b (rotL m (m - i) ((a + b) / 2 + m - i - m) d) = (rotL m (m - i) ((a + b) / 2 + m - i - m) d) := by unfold symE; rw [if_neg (by omega)]
           have E3 : Hid (symM (ltOf cf) (f + 1) d a m b = (rotL m (m - i) ((a + b) / 2 + m - i - m) d)) := by show _ = _; rw [symM, if_neg (by omega), if_neg (by omega), HST.out, e1, e2, e3]
           clear e1 e2 e3
           go_wp2_with (first | (go_at_call 125; refine hcA.mono ?_; rintro e w2 ⟨rfl, h_⟩))
           have S2 : Aside _ := h_
           clear h_ hcA
           go_wp2
           (first | go_end0 | refine bodyPost_ret (results_none rfl _ _ _) rfl ?_)
           exact ⟨rfl, by rw [E3.out]; exact S2.out⟩
        ·by_cases c3 : a < i
         ·by_cases c4 : (a + b) / 2 + m - i < b
          ·exfalso
           omega
          ·exfalso
           omega
         ·by_cases c4 : (a + b) / 2 + m - i < b
          ·exfalso
           omega
          ·exfalso
           omega
       ·by_cases c2 : i < (a + b) / 2
        ·by_cases c3 : a < i
         ·by_cases c4 : (a + b) / 2 + m - i < b
          ·have z1 : ¬ ((i : Int) < (m : Int)) := by omega
           have z2 : ((m : Int) < ((a : Int) + (b : Int)) / 2 + (m : Int) - (i : Int)) := by omega
           have z3 : ((a : Int) < (i : Int)) := by omega
           have z4 : ((i : Int) < ((a : Int) + (b : Int)) / 2) := by omega
           have z5 : ¬ (((a : Int) + (b : Int)) / 2 < ((a : Int) + (b : Int)) / 2 + (m : Int) - (i : Int)) := by omega
           have z6 : (((a : Int) + (b : Int)) / 2 + (m : Int) - (i : Int) < (b : Int)) := by omega
           have e1 : symA m i ((a + b) / 2 + m - i) d = d := by unfold symA; rw [if_neg (by omega)]
           have z7 : d.size = d.size := by rfl
           have e2 : symB (symM (ltOf cf) f) a i ((a + b) / 2) d = (symM (ltOf cf) f d a i ((a + b) / 2)) := by unfold symB; rw [if_pos (by omega)]
           have z8 : (symM (ltOf cf) f d a i ((a + b) / 2)).size = d.size := by first | exact (symM_size ..).trans z7 | simp only [symM_size]
           have e3 : symE (symM (ltOf cf) f) ((a + b) / 2) ((a + b) / 2 + m - i) b (symM (ltOf cf) f d a i ((a + b) / 2)) = (symM (ltOf cf) f d a i ((a + b) / 2)) := by unfold symE; rw [if_neg (by omega)]
           have E3 : Hid (symM (ltOf cf) (f + 1) d a m b = (symM (ltOf cf) f d a i ((a + b) / 2))) := by show _ = _; rw [symM, if_neg (by omega), if_neg (by omega), HST.out, e1, e2, e3]
           clear e1 e2 e3
           have hcB := ih a i ((a + b) / 2) d wr (by omega) S1.out (by omega) (by omega) (by omega) (by omega) (by omega)
           rw [z7] at hcB
           go_wp2_with (first | (go_at_call 124; refine hcB.mono ?_; rintro e w3 ⟨rfl, h_⟩))
           have S3 : Aside _ := h_
           clear h_ hcB
           go_wp2
           (first | go_end0 | refine bodyPost_ret (results_none rfl _ _ _) rfl ?_)
           exact ⟨rfl, by rw [E3.out]; exact S3.out⟩
          ·exfalso
           omega
         ·by_cases c4 : (a + b) / 2 + m - i < b
          ·exfalso
           omega
          ·exfalso
           omega
        ·by_cases c3 : a < i
         ·by_cases c4 : (a + b) / 2 + m - i < b
          ·have z1 : ¬ ((i : Int) < (m : Int)) := by omega
           have z2 : ¬ ((m : Int) < ((a : Int) + (b : Int)) / 2 + (m : Int) - (i : Int)) := by omega
           have z3 : ((a : Int) < (i : Int)) := by omega
           have z4 : ¬ ((i : Int) < ((a : Int) + (b : Int)) / 2) := by omega
           have z5 : ¬ (((a : Int) + (b : Int)) / 2 < ((a : Int) + (b : Int)) / 2 + (m : Int) - (i : Int)) := by omega
           have z6 : (((a : Int) + (b : Int)) / 2 + (m : Int) - (i : Int) < (b : Int)) := by omega
           have e1 : symA m i ((a + b) / 2 + m - i) d = d := by unfold symA; rw [if_neg (by omega)]
           have z7 : d.size = d.size := by rfl
           have e2 : symB (symM (ltOf cf) f) a i ((a + b) / 2) d = d := by unfold symB; rw [if_neg (by omega)]
           have z8 : d.size = d.size := by exact z7
           have e3 : symE (symM (ltOf cf) f) ((a + b) / 2) ((a + b) / 2 + m - i) b d = d := by unfold symE; rw [if_neg (by omega)]
           have E3 : Hid (symM (ltOf cf) (f + 1) d a m b = d) := by show _ = _; rw [symM, if_neg (by omega), if_neg (by omega), HST.out, e1, e2, e3]
           clear e1 e2 e3
           go_wp2
           (first | go_end0 | refine bodyPost_ret (results_none rfl _ _ _) rfl ?_)
           exact ⟨rfl, by rw [E3.out]; exact S1.out⟩
          ·exfalso
           omega
         ·by_cases c4 : (a + b) / 2 + m - i < b
          ·exfalso
           omega
          ·exfalso
           omega
set_option maxHeartbeats 40000000 in
set_option maxRecDepth 1000000 in
theorem stab_calls {P : Program} (E : SortEnv P) {α : Type} [Inhabited α] (k : Nat) (aE : ∀ w, (isAgg 66).run P w = .ok true w) (zE : ∀ w, (Go.sizeOf 66).run P w = .ok k w) (enc : α → List Value) (cf : α → α → Int) (g : Nat) (cb : Array Value) (blk off cap : Nat) (d0 : Array α) (w0 : World) (eg : ∀ args w, (callFunc g args).run P w = .ok (.enter g args) w) (hcmp : CmpB P g cb enc cf) (R : RowK enc k w0 blk off d0) (d : Array α) (w : World) (hs : d0.size = d.size) (S : SWX enc k w0 blk off d w) (hsz : d.size < 2305843009213693952) :
  Calls P 116 #[.slice (some ⟨blk, off, none⟩) d.size cap, .int .i64 d.size, .func (.func g) #[] cb] w fun e w' => e = .returned (.tuple #[]) ∧ SWX enc k w0 blk off (stab (ltOf cf) d) w' := by
 have mixed := E.mixed; have t0 := E.t0; have a0 := E.a0; have z0 := E.z0; have v0 := E.v0; have t3 := E.t3; have a3 := E.a3; have z3 := E.z3; have v3 := E.v3; have t4 := E.t4; have a4 := E.a4; have z4 := E.z4; have v4 := E.v4; have t139 := E.t139; have a139 := E.a139; have z139 := E.z139; have v139 := E.v139; have t30 := E.t30; have a30 := E.a30; have z30 := E.z30; have v30 := E.v30; have a86 := E.a86; have z86 := E.z86; have v86 := E.v86
 have q126 : ∀ args w, (callFunc 126 args).run P w = .ok (.enter 126 args) w := enters_of E.f126 (by kernel_rfl) rfl
 have q125 : ∀ args w, (callFunc 125 args).run P w = .ok (.enter 125 args) w := enters_of E.f125 (by kernel_rfl) rfl
 have q124 : ∀ args w, (callFunc 124 args).run P w = .ok (.enter 124 args) w := enters_of E.f124 (by kernel_rfl) rfl
 have q123 : ∀ args w, (callFunc 123 args).run P w = .ok (.enter 123 args) w := enters_of E.f123 (by kernel_rfl) rfl
 have q116 : ∀ args w, (callFunc 116 args).run P w = .ok (.enter 116 args) w := enters_of E.f116 (by kernel_rfl) rfl
 have S0 : Aside (SWX enc k w0 blk off d w) := S
 have HC : Aside (CmpB P g cb enc cf) := hcmp
 have hins : ∀ (a b : Nat) (dk : Array α) (wr : World), dk.size = d.size → Aside (SWX enc k w0 blk off dk wr) → a ≤ b → b ≤ d.size → Calls P 123 #[.slice (some ⟨blk, off, none⟩) d.size cap, .int .i64 a, .int .i64 b, .func (.func g) #[] cb] wr fun e w' => e = .returned (.tuple #[]) ∧ SWX enc k w0 blk off (insertionSort (ltOf cf) dk a b) w' := by
  intro a b dk wr hz hS hab hb
  have := ins_calls E k aE zE enc cf g cb blk off cap d0 w0 eg HC.out R a b dk wr (by omega) hS.out hab (by omega) (by omega)
  rw [hz] at this
  exact this
 have hsym : ∀ (a m b : Nat) (dk : Array α) (wr : World), dk.size = d.size → Aside (SWX enc k w0 blk off dk wr) → a < m → m < b → b ≤ d.size → Calls P 124 #[.slice (some ⟨blk, off, none⟩) d.size cap, .int .i64 a, .int .i64 m, .int .i64 b, .func (.func g) #[] cb] wr fun e w' => e = .returned (.tuple #[]) ∧ SWX enc k w0 blk off (symM (ltOf cf) d.size dk a m b) w' := by
  intro a m b dk wr hz hS h1 h2 hb
  have := symM_calls E k aE zE enc cf g cb blk off cap d0 w0 eg HC.out R d.size a m b dk wr (by omega) hS.out (by omega) (by omega) h1 h2 (by omega)
  rw [hz] at this
  exact this
 have HI : Aside _ := hins
 have HY : Aside _ := hsym
 clear S hcmp hins hsym
 generalize hfin : stab (ltOf cf) d = fin
 have FIN : Hid (stL3 (ltOf cf) 20 d.size (stL1 (ltOf cf) 20 d.size 0 d) = fin) := hfin
 clear hfin
 generalize hn : d.size = n at *
 go_enter E.f116, Try.ntmps116
 go_wp2
 go_loopg [7, 8] n (fun kx s7 s8 wr => ∃ (a : Nat) (dk : Array α), s7 = .int .i64 a ∧ s8 = .int .i64 ((a : Int) + 20) ∧ a ≤ n ∧ n - a ≤ kx ∧ Hid (dk.size = n) ∧ Aside (SWX enc k w0 blk off dk wr) ∧ Hid (stL3 (ltOf cf) 20 n (stL1 (ltOf cf) 20 n a dk) = fin))
 case atStart => exact ⟨0, d, rfl, rfl, Nat.zero_le _, Nat.le_refl _, hn, S0, FIN.out⟩
 case round =>
  clear S0 FIN
  obtain ⟨a, dk, rfl, rfl, han, hkx, hds, S1, HE⟩ := hrel
  by_cases hlt : a + 20 ≤ n
  ·have hltz : (a : Int) + 20 ≤ (n : Int) := by omega
   have hc := HI.out a (a + 20) dk wr hds.out S1 (by omega) hlt
   rw [show ((a + 20 : Nat) : Int) = (a : Int) + 20 from by omega] at hc
   go_wp2_with (first | (go_at_call 123; refine hc.mono ?_; rintro e w2 ⟨rfl, h_⟩))
   have S2 : Aside _ := h_
   clear h_ hc
   go_wp2
   go_roundg (n - (a + 20))
   case measure => omega
   case rel => exact ⟨a + 20, insertionSort (ltOf cf) dk a (a + 20), by first | rfl | go_num, by first | rfl | go_num, hlt, Nat.le_refl _, by show _ = _; rw [insertionSort_size]; exact hds.out, S2, by show _ = _; rw [← HE.out, stL1.eq_1 _ 20 n a, if_neg (by omega)]⟩
  ·have hltz : ¬ (a : Int) + 20 ≤ (n : Int) := by omega
   have hc := HI.out a n dk wr hds.out S1 han (Nat.le_refl _)
   have FIN : Hid (stL3 (ltOf cf) 20 n (insertionSort (ltOf cf) dk a n) = fin) := by show _ = _; rw [← HE.out, stL1.eq_1 _ 20 n a, if_pos (by omega)]
   have hd2 : Hid ((insertionSort (ltOf cf) dk a n).size = n) := by show _ = _; rw [insertionSort_size]; exact hds.out
   clear HE
   go_wp2_with (first | (go_at_call 123; refine hc.mono ?_; rintro e w2 ⟨rfl, h_⟩))
   have S2 : Aside _ := h_
   clear h_ hc S1 hds
   generalize insertionSort (ltOf cf) dk a n = d1 at S2 FIN hd2
   go_wp2
   go_loopg [6] n (fun kx s6 wr => ∃ (bs : Nat) (dk : Array α), s6 = .int .i64 bs ∧ 0 < bs ∧ bs ≤ 40 + 2 * n ∧ n - bs ≤ kx ∧ Hid (dk.size = n) ∧ Aside (SWX enc k w0 blk off dk wr) ∧ Hid (stL3 (ltOf cf) bs n dk = fin))
   case atStart => exact ⟨20, d1, rfl, by omega, by omega, by omega, hd2, S2, FIN⟩
   case round =>
    clear S2 FIN hd2
    obtain ⟨bs, dk, rfl, hb0, hbn, hkx2, hds, S1, HE⟩ := hrel
    by_cases hlt2 : bs < n
    ·have hltz2 : (bs : Int) < (n : Int) := by omega
     have HE2 : Hid (stL3 (ltOf cf) (2 * bs) n (stL2 (ltOf cf) bs n 0 dk) = fin) := by show _ = _; rw [← HE.out, stL3.eq_1 _ bs n, if_neg (by omega)]
     clear HE
     go_wp2
     go_loopg [7, 8] n (fun kx s7 s8 wr => ∃ (a : Nat) (dk : Array α), s7 = .int .i64 a ∧ s8 = .int .i64 ((a : Int) + 2 * (bs : Int)) ∧ a ≤ n ∧ n - a ≤ kx ∧ Hid (dk.size = n) ∧ Aside (SWX enc k w0 blk off dk wr) ∧ Hid (stL3 (ltOf cf) (2 * bs) n (stL2 (ltOf cf) bs n a dk) = fin))
     case atStart => exact ⟨0, dk, rfl, by first | rfl | go_num | (congr 1; omega), Nat.zero_le _, Nat.le_refl _, hds, S1, HE2⟩
     case round =>
      clear S1 HE2 hds
      obtain ⟨a, dk, rfl, rfl, han, hkx3, hds, S1, HE⟩ := hrel
      by_cases hlt3 : a + 2 * bs ≤ n
      ·have hltz3 : (a : Int) + 2 * (bs : Int) ≤ (n : Int) := by omega
       have hc := HY.out a (a + bs) (a + 2 * bs) dk wr hds.out S1 (by omega) (by omega) hlt3
       rw [show ((a + bs : Nat) : Int) = (a : Int) + (bs : Int) from by omega, show ((a + 2 * bs : Nat) : Int) = (a : Int) + 2 * (bs : Int) from by omega] at hc
       go_wp2_with (first | (go_at_call 124; refine hc.mono ?_; rintro e w2 ⟨rfl, h_⟩))
       have S2 : Aside _ := h_
       clear h_ hc
       go_wp2
       go_roundg (n - (a + 2 * bs))
       case measure => omega
       case rel => exact ⟨a + 2 * bs, symM (ltOf cf) n dk a (a + bs) (a + 2 * bs), by first | rfl | go_num | (congr 1; omega), by first | rfl | go_num | (congr 1; omega), hlt3, Nat.le_refl _, by show _ = _; rw [symM_size]; exact hds.out, S2, by show _ = _; rw [← HE.out, stL2.eq_1 _ bs n a, if_neg (by omega)]⟩
      ·have hltz3 : ¬ (a : Int) + 2 * (bs : Int) ≤ (n : Int) := by omega
       by_cases hm : a + bs < n
       ·have hmz : (a : Int) + (bs : Int) < (n : Int) := by omega
        have hc := HY.out a (a + bs) n dk wr hds.out S1 (by omega) hm (Nat.le_refl _)
        rw [show ((a + bs : Nat) : Int) = (a : Int) + (bs : Int) from by omega] at hc
        go_wp2_with (first | (go_at_call 124; refine hc.mono ?_; rintro e w2 ⟨rfl, h_⟩))
        have S2 : Aside _ := h_
        clear h_ hc
        go_wp2
        go_roundg (n - 2 * bs)
        case measure => omega
        case rel => exact ⟨2 * bs, symM (ltOf cf) n dk a (a + bs) n, by first | rfl | go_num | (congr 1; omega), by omega, by omega, Nat.le_refl _, by show _ = _; rw [symM_size]; exact hds.out, S2, by show _ = _; rw [← HE.out, stL2.eq_1 _ bs n a, if_pos (by omega), if_pos hm]⟩
       ·have hmz : ¬ (a : Int) + (bs : Int) < (n : Int) := by omega
        go_wp2
        go_roundg (n - 2 * bs)
        case measure => omega
        case rel => exact ⟨2 * bs, dk, by first | rfl | go_num | (congr 1; omega), by omega, by omega, Nat.le_refl _, hds, S1, by show _ = _; rw [← HE.out, stL2.eq_1 _ bs n a, if_pos (by omega), if_neg hm]⟩
    ·have hltz2 : ¬ (bs : Int) < (n : Int) := by omega
     go_wp2
     (first | go_end0 | refine bodyPost_ret (results_none rfl _ _ _) rfl ?_)
     refine ⟨rfl, ?_⟩
     rw [← HE.out, stL3, if_pos (by omega)]
     exact S1.out
set_option maxHeartbeats 4000000 in
theorem sortStable_calls {P : Program} (E : SortEnv P) {α : Type} [Inhabited α] (k : Nat) (aE : ∀ w, (isAgg 66).run P w = .ok true w) (zE : ∀ w, (Go.sizeOf 66).run P w = .ok k w) (enc : α → List Value) (cf : α → α → Int) (g : Nat) (cb : Array Value) (blk off cap : Nat) (d0 : Array α) (w0 : World) (eg : ∀ args w, (callFunc g args).run P w = .ok (.enter g args) w) (hcmp : CmpB P g cb enc cf) (R : RowK enc k w0 blk off d0) (d : Array α) (w : World) (hs : d0.size = d.size) (S : SWX enc k w0 blk off d w) (hsz : d.size < 2305843009213693952) :
  Calls P 95 #[.slice (some ⟨blk, off, none⟩) d.size cap, .func (.func g) #[] cb] w fun e w' => e = .returned (.tuple #[]) ∧ SWX enc k w0 blk off (stab (ltOf cf) d) w' := by
 have hc := stab_calls E k aE zE enc cf g cb blk off cap d0 w0 eg hcmp R d w hs S hsz
 have mixed := E.mixed; have t0 := E.t0; have a0 := E.a0; have z0 := E.z0; have v0 := E.v0; have t3 := E.t3; have a3 := E.a3; have z3 := E.z3; have v3 := E.v3; have t4 := E.t4; have a4 := E.a4; have z4 := E.z4; have v4 := E.v4; have t139 := E.t139; have a139 := E.a139; have z139 := E.z139; have v139 := E.v139; have t30 := E.t30; have a30 := E.a30; have z30 := E.z30; have v30 := E.v30; have a86 := E.a86; have z86 := E.z86; have v86 := E.v86
 have q126 : ∀ args w, (callFunc 126 args).run P w = .ok (.enter 126 args) w := enters_of E.f126 (by kernel_rfl) rfl
 have q125 : ∀ args w, (callFunc 125 args).run P w = .ok (.enter 125 args) w := enters_of E.f125 (by kernel_rfl) rfl
 have q124 : ∀ args w, (callFunc 124 args).run P w = .ok (.enter 124 args) w := enters_of E.f124 (by kernel_rfl) rfl
 have q123 : ∀ args w, (callFunc 123 args).run P w = .ok (.enter 123 args) w := enters_of E.f123 (by kernel_rfl) rfl
 have q116 : ∀ args w, (callFunc 116 args).run P w = .ok (.enter 116 args) w := enters_of E.f116 (by kernel_rfl) rfl
 clear S hcmp
 generalize stab (ltOf cf) d = fin at hc ⊢
 go_enter E.f95, Try.ntmps95
 go_wp2_with (first | (go_at_call 116; refine hc.mono ?_; rintro e w2 ⟨rfl, h_⟩))
 (first | go_end0 | refine bodyPost_ret (results_none rfl _ _ _) rfl ?_)
 exact ⟨rfl, h_⟩
end Go.Proofs.Ytcgejabkjljeeaa.P
end
