/- Proved: the law FnExactCrash of the given program returns true for every input of its Go types and leaves each argument as it was; no condition. (Part 8 of 12.) -/
import Derived.Test.YtidjdkodgddfcaaCFnExactCrash4
import Derived.Deep.RegionWith
import Derived.Deep.RegionHeld3
import Derived.Deep.QuietTactic
import Derived.BigQuiet
import Derived.Test.YtidjdkodgddfcaaCFnExactCrash6
section
namespace Go.Proofs.Ytidjdkodgddfcaa.P
open Go.RowKit Go.Proofs.YtidjdkodgddfcaaW.PrintWords Go.Proofs.YtidjdkodgddfcaaW.PrintLast Go.Proofs.YtidjdkodgddfcaaW.PrintMore
attribute [local go_sem] str_gtr str_leq str_geq qb1 qz max_two min_two qv qu qa1 qy
set_option linter.unusedVariables false
set_option linter.unusedSimpArgs false
theorem findIdx_at {α : Type} (p : α → Bool) (d : α) : ∀ (l : List α) (i : Nat), i ≤ l.length → (∀ t, t < i → p (l.getD t d) = false) → (i < l.length → p (l.getD i d) = true) → l.findIdx p = i
 | [], i, hi, _, _ => by
  have : i = 0 := by simpa using hi
  subst this
  rfl
 | x :: xs, 0, _, _, h => by
  have h0 : p x = true := by simpa using h (by simp)
  rw [List.findIdx_cons, h0]
  rfl
 | x :: xs, i + 1, hi, hn, h => by
  have h0 : p x = false := by simpa using hn 0 (Nat.succ_pos _)
  rw [List.findIdx_cons, h0]
  rw [findIdx_at p d xs i (by simpa using hi) (fun t ht => by simpa using hn (t + 1) (by omega)) (fun hl => by simpa using h (by simpa using hl))]
  rfl
set_option maxHeartbeats 4000000 in
theorem bsearch_Entry.calls (g : Nat) (c : S64 → Int) (y : S64) (A : Option Addr) (cap : Nat) (l : List S64) (w : World) (hr : Kd.C k64 w A l.length l) (hl : l.length < 4611686018427387904)
  (eg : ∀ args w, (callFunc g args).run Try.prog w = .ok (.enter g args) w)
  (hp : ∀ (x : S64) (W : World), Below w.heap.size w W → Calls Try.prog g #[.agg #[.string x.f0.f0, .int .i64 x.f0.f1, .int .i64 x.f0.f2, .string x.f1], .agg #[.string y.f0.f0, .int .i64 y.f0.f1, .int .i64 y.f0.f2, .string y.f1]] W fun e w' => e = .returned (.int .i64 (c x)) ∧ Below W.heap.size W w')
  (mono : ∀ i j, i ≤ j → j < l.length → c (l.getD j z64) < 0 → c (l.getD i z64) < 0) :
  Calls Try.prog 96 #[.slice A l.length cap, .agg #[.string y.f0.f0, .int .i64 y.f0.f1, .int .i64 y.f0.f2, .string y.f1], .func (.func g) #[] #[]] w fun e w' => e = .returned (.tuple #[.int .i64 ((l.findIdx fun x => decide (0 ≤ c x) : Nat) : Int), .bool (decide ((l.findIdx fun x => decide (0 ≤ c x)) < l.length) && decide (c (l.getD (l.findIdx fun x => decide (0 ≤ c x)) z64) = 0))]) ∧ Below w.heap.size w w' := by
 have hbx : Below w.heap.size w (w.alloc (.cells #[.string y.f0.f0, .int .i64 y.f0.f1, .int .i64 y.f0.f2, .string y.f1] 64)) := (Below.refl _ w).alloc (Nat.le_refl _) _
 have HBX := Qz.mk hbx
 have HR := Qz.mk (Kd.C_below hr hbx)
 have HP := Qz.mk hp
 have M := Qz.mk mono
 clear hbx hp
 clear hr mono
 generalize hcnt : (l.findIdx fun x => decide (0 ≤ c x)) = cnt
 have CN := Qz.mk hcnt
 clear hcnt
 generalize hfin : (decide (cnt < l.length) && decide (c (l.getD cnt z64) = 0)) = fin
 have FIN := Qz.mk hfin
 clear hfin
 go_enter Try.func96, Try.ntmps96
 go_wp2
 go_loopg [9, 10] l.length (fun kx s9 s10 wr => ∃ lo hi : Nat, s9 = .int .i64 lo ∧ s10 = .int .i64 hi ∧ lo ≤ hi ∧ hi ≤ l.length ∧ hi - lo ≤ kx ∧ Qz (Below (w.alloc (.cells #[.string y.f0.f0, .int .i64 y.f0.f1, .int .i64 y.f0.f2, .string y.f1] 64)).heap.size (w.alloc (.cells #[.string y.f0.f0, .int .i64 y.f0.f1, .int .i64 y.f0.f2, .string y.f1] 64)) wr) ∧
  Qz ((∀ t, t < lo → c (l.getD t z64) < 0) ∧ (∀ t, hi ≤ t → t < l.length → 0 ≤ c (l.getD t z64))))
 case atStart => exact ⟨0, l.length, rfl, rfl, Nat.zero_le _, Nat.le_refl _, by omega, ⟨Below.refl _ _⟩, ⟨fun t ht => absurd ht (Nat.not_lt_zero _), fun t h1 h2 => by omega⟩⟩
 case round =>
  obtain ⟨lo, hi, rfl, rfl, hlh, hin, hg, BW, I⟩ := hrel
  have HBW := Qz.mk (HBX.out.trans (BW.out.mono (by simp)))
  have hy0 : wr.cell? ⟨w.heap.size, 0, none⟩ = some (.string y.f0.f0) := (BW.out.cell (p := ⟨w.heap.size, 0, none⟩) (by simp)).trans (by simp)
  have hy1 : wr.cell? ⟨w.heap.size, 1, none⟩ = some (.int .i64 y.f0.f1) := (BW.out.cell (p := ⟨w.heap.size, 1, none⟩) (by simp)).trans (by simp)
  have hy2 : wr.cell? ⟨w.heap.size, 2, none⟩ = some (.int .i64 y.f0.f2) := (BW.out.cell (p := ⟨w.heap.size, 2, none⟩) (by simp)).trans (by simp)
  have hy3 : wr.cell? ⟨w.heap.size, 3, none⟩ = some (.string y.f1) := (BW.out.cell (p := ⟨w.heap.size, 3, none⟩) (by simp)).trans (by simp)
  by_cases hlt : lo < hi
  ·obtain ⟨ad, e, h0, h1, h2, h3⟩ := at_T64 HR.out ((((lo + hi) / 2 : Nat)) : Int) (by omega) (by omega)
   cases e
   replace h0 := (BW.out.cell (World.block_lt_of_cell? _ _ h0)).trans h0
   replace h1 := (BW.out.cell (World.block_lt_of_cell? _ _ h1)).trans h1
   replace h2 := (BW.out.cell (World.block_lt_of_cell? _ _ h2)).trans h2
   replace h3 := (BW.out.cell (World.block_lt_of_cell? _ _ h3)).trans h3
   rw [Int.toNat_natCast] at h0 h1 h2 h3
   have hcall := HP.out (rd_T64 l ((((lo + hi) / 2 : Nat)) : Int)) wr (HBX.out.trans (BW.out.mono (by simp)))
   have HX : Qz (rd_T64 l ((((lo + hi) / 2 : Nat)) : Int) = l.getD ((lo + hi) / 2) z64) := ⟨by unfold rd_T64; rw [Int.toNat_natCast]⟩
   generalize rd_T64 l ((((lo + hi) / 2 : Nat)) : Int) = x at h0 h1 h2 h3 hcall HX
   by_cases hyx : c x < 0
   ·go_wp2_with fail
    go_region_with ((with_reducible refine (HP.out x _ ?hW).mono ?_); (case hW => (repeat (first | exact HBW.out | apply qb | apply qa))); rintro e w' ⟨rfl, hb'⟩)
    all_goals
     have HB2 := Qz.mk ((qb BW.out).trans (hb'.mono BW.out.size))
     clear hb' hy0 hy1 hy2 hy3 h0 h1 h2 h3
     go_wp2
     go_roundg (hi - ((lo + hi) / 2 + 1))
     case measure => omega
     case rel =>
      exact ⟨(lo + hi) / 2 + 1, hi, by first | rfl | go_num, rfl, by omega, hin, Nat.le_refl _, HB2, ⟨fun t ht => M.out t ((lo + hi) / 2) (by omega) (by omega) (by rw [← HX.out]; exact hyx), I.out.2⟩⟩
   ·go_wp2_with fail
    go_region_with ((with_reducible refine (HP.out x _ ?hW).mono ?_); (case hW => (repeat (first | exact HBW.out | apply qb | apply qa))); rintro e w' ⟨rfl, hb'⟩)
    all_goals
     have HB2 := Qz.mk ((qb BW.out).trans (hb'.mono BW.out.size))
     clear hb' hy0 hy1 hy2 hy3 h0 h1 h2 h3
     go_wp2
     go_roundg ((lo + hi) / 2 - lo)
     case measure => omega
     case rel =>
      refine ⟨lo, (lo + hi) / 2, rfl, by first | rfl | go_num, by omega, by omega, Nat.le_refl _, HB2, ⟨I.out.1, fun t ht htn => Int.not_lt.1 fun h => ?_⟩⟩
      have := M.out ((lo + hi) / 2) t ht htn h
      rw [← HX.out] at this
      first | exact hyx this | omega
  ·obtain rfl : hi = lo := by omega
   have ecnt : cnt = hi := by
    rw [← CN.out]
    exact findIdx_at _ z64 l hi hin (fun t ht => decide_eq_false (by have := I.out.1 t ht; omega)) (fun h => decide_eq_true (I.out.2 hi (Nat.le_refl _) h))
   subst ecnt
   by_cases hn : cnt < l.length
   ·obtain ⟨ad, e, h0, h1, h2, h3⟩ := at_T64 HR.out (cnt : Int) (by omega) (by omega)
    cases e
    replace h0 := (BW.out.cell (World.block_lt_of_cell? _ _ h0)).trans h0
    replace h1 := (BW.out.cell (World.block_lt_of_cell? _ _ h1)).trans h1
    replace h2 := (BW.out.cell (World.block_lt_of_cell? _ _ h2)).trans h2
    replace h3 := (BW.out.cell (World.block_lt_of_cell? _ _ h3)).trans h3
    rw [Int.toNat_natCast] at h0 h1 h2 h3
    have hcall := HP.out (rd_T64 l (cnt : Int)) wr (HBX.out.trans (BW.out.mono (by simp)))
    have HX : Qz (rd_T64 l (cnt : Int) = l.getD cnt z64) := ⟨by unfold rd_T64; rw [Int.toNat_natCast]⟩
    generalize rd_T64 l (cnt : Int) = x at h0 h1 h2 h3 hcall HX
    go_wp2_with fail
    go_region_held3 (fun w' => w'.cell? ⟨w.heap.size, 0, none⟩ = some (.string y.f0.f0) ∧ w'.cell? ⟨w.heap.size, 1, none⟩ = some (.int .i64 y.f0.f1) ∧ w'.cell? ⟨w.heap.size, 2, none⟩ = some (.int .i64 y.f0.f2) ∧ w'.cell? ⟨w.heap.size, 3, none⟩ = some (.string y.f1) ∧ w'.cell? (ad.add (cnt * 4)) = some (.string x.f0.f0) ∧ w'.cell? ⟨(ad.add (cnt * 4)).block, (ad.add (cnt * 4)).off + 1, none⟩ = some (.int .i64 x.f0.f1) ∧ w'.cell? ⟨(ad.add (cnt * 4)).block, (ad.add (cnt * 4)).off + 2, none⟩ = some (.int .i64 x.f0.f2) ∧ w'.cell? ⟨(ad.add (cnt * 4)).block, (ad.add (cnt * 4)).off + 3, none⟩ = some (.string x.f1) ∧ Qz (Below (w.alloc (.cells #[.string y.f0.f0, .int .i64 y.f0.f1, .int .i64 y.f0.f2, .string y.f1] 64)).heap.size (w.alloc (.cells #[.string y.f0.f0, .int .i64 y.f0.f1, .int .i64 y.f0.f2, .string y.f1] 64)) w')) (first | exact ⟨ky0, ky1, ky2, ky3, kx0, kx1, kx2, kx3, KB⟩ | exact ⟨hy0, hy1, hy2, hy3, h0, h1, h2, h3, ⟨qb BW.out⟩⟩) (first | ((with_reducible refine (HP.out x _ ?hW).mono ?_); (case hW => exact HBX.out.trans (Below.mono (qb BW.out) (by simp))); rintro e w' ⟨rfl, hb'⟩; have ky0 := (hb'.cell (World.block_lt_of_cell? _ _ hy0)).trans hy0; have ky1 := (hb'.cell (World.block_lt_of_cell? _ _ hy1)).trans hy1; have ky2 := (hb'.cell (World.block_lt_of_cell? _ _ hy2)).trans hy2; have ky3 := (hb'.cell (World.block_lt_of_cell? _ _ hy3)).trans hy3; have kx0 := (hb'.cell (World.block_lt_of_cell? _ _ h0)).trans h0; have kx1 := (hb'.cell (World.block_lt_of_cell? _ _ h1)).trans h1; have kx2 := (hb'.cell (World.block_lt_of_cell? _ _ h2)).trans h2; have kx3 := (hb'.cell (World.block_lt_of_cell? _ _ h3)).trans h3; have KB := Qz.mk ((qb BW.out).trans (hb'.mono BW.out.size))))
    all_goals
     go_wp2
     go_ret2
     exact ⟨by rw [← FIN.out, ← HX.out]; simp [hn]; try rfl, HBX.out.trans (KB.out.mono (by simp))⟩
   ·go_wp2_with fail
    go_quiet (fail)
    go_wp2
    go_ret2
    exact ⟨by rw [← FIN.out]; simp [hn], HBX.out.trans (Below.mono (by repeat (first | exact BW.out | apply qa | apply qb)) (by simp))⟩
end Go.Proofs.Ytidjdkodgddfcaa.P
end

section
namespace Go.Proofs.Ytidjdkodgddfcaa.P
open Go.RowKit Go.Proofs.YtidjdkodgddfcaaW.PrintWords Go.Proofs.YtidjdkodgddfcaaW.PrintLast Go.Proofs.YtidjdkodgddfcaaW.PrintMore
attribute [local go_sem] str_gtr str_leq str_geq qb1 qz max_two min_two qv qu qa1 qy
set_option linter.unusedVariables false
set_option linter.unusedSimpArgs false
set_option maxHeartbeats 4000000 in
theorem bsearch_File.calls (g : Nat) (c : S170 → Int) (y : ByteArray) (A : Option Addr) (cap : Nat) (l : List S170) (w : World) (hr : Kd.C k170 w A l.length l) (hl : l.length < 4611686018427387904)
  (eg : ∀ args w, (callFunc g args).run Try.prog w = .ok (.enter g args) w)
  (hp : ∀ (x : S170) (W : World), Below w.heap.size w W → Calls Try.prog g #[.agg #[.string x.f0, .string x.f1], .string y] W fun e w' => e = .returned (.int .i64 (c x)) ∧ Below W.heap.size W w')
  (mono : ∀ i j, i ≤ j → j < l.length → c (l.getD j z170) < 0 → c (l.getD i z170) < 0) :
  Calls Try.prog 193 #[.slice A l.length cap, .string y, .func (.func g) #[] #[]] w fun e w' => e = .returned (.tuple #[.int .i64 ((l.findIdx fun x => decide (0 ≤ c x) : Nat) : Int), .bool (decide ((l.findIdx fun x => decide (0 ≤ c x)) < l.length) && decide (c (l.getD (l.findIdx fun x => decide (0 ≤ c x)) z170) = 0))]) ∧ Below w.heap.size w w' := by
 have HR := Qz.mk hr
 have HP := Qz.mk hp
 have M := Qz.mk mono
 clear hr mono hp
 generalize hcnt : (l.findIdx fun x => decide (0 ≤ c x)) = cnt
 have CN := Qz.mk hcnt
 clear hcnt
 generalize hfin : (decide (cnt < l.length) && decide (c (l.getD cnt z170) = 0)) = fin
 have FIN := Qz.mk hfin
 clear hfin
 go_enter Try.func193, Try.ntmps193
 go_wp2
 go_loopg [9, 10] l.length (fun kx s9 s10 wr => ∃ lo hi : Nat, s9 = .int .i64 lo ∧ s10 = .int .i64 hi ∧ lo ≤ hi ∧ hi ≤ l.length ∧ hi - lo ≤ kx ∧ Qz (Below w.heap.size w wr) ∧
  Qz ((∀ t, t < lo → c (l.getD t z170) < 0) ∧ (∀ t, hi ≤ t → t < l.length → 0 ≤ c (l.getD t z170))))
 case atStart => exact ⟨0, l.length, rfl, rfl, Nat.zero_le _, Nat.le_refl _, by omega, ⟨Below.refl _ _⟩, ⟨fun t ht => absurd ht (Nat.not_lt_zero _), fun t h1 h2 => by omega⟩⟩
 case round =>
  obtain ⟨lo, hi, rfl, rfl, hlh, hin, hg, BW, I⟩ := hrel
  by_cases hlt : lo < hi
  ·obtain ⟨ad, e, h0, h1⟩ := at_T170 HR.out ((((lo + hi) / 2 : Nat)) : Int) (by omega) (by omega)
   cases e
   replace h0 := (BW.out.cell (World.block_lt_of_cell? _ _ h0)).trans h0
   replace h1 := (BW.out.cell (World.block_lt_of_cell? _ _ h1)).trans h1
   rw [Int.toNat_natCast] at h0 h1
   have hcall := HP.out (qj l ((((lo + hi) / 2 : Nat)) : Int)) wr BW.out
   have HX : Qz (qj l ((((lo + hi) / 2 : Nat)) : Int) = l.getD ((lo + hi) / 2) z170) := ⟨by unfold qj; rw [Int.toNat_natCast]⟩
   generalize qj l ((((lo + hi) / 2 : Nat)) : Int) = x at h0 h1 hcall HX
   by_cases hyx : c x < 0
   ·go_wp2_with fail
    (with_reducible refine hcall.mono ?_)
    rintro e w' ⟨rfl, hb'⟩
    all_goals
     have HB2 := Qz.mk (BW.out.trans (hb'.mono BW.out.size))
     clear hb' h0 h1
     go_wp2
     go_roundg (hi - ((lo + hi) / 2 + 1))
     case measure => omega
     case rel =>
      exact ⟨(lo + hi) / 2 + 1, hi, by first | rfl | go_num, rfl, by omega, hin, Nat.le_refl _, HB2, ⟨fun t ht => M.out t ((lo + hi) / 2) (by omega) (by omega) (by rw [← HX.out]; exact hyx), I.out.2⟩⟩
   ·go_wp2_with fail
    (with_reducible refine hcall.mono ?_)
    rintro e w' ⟨rfl, hb'⟩
    all_goals
     have HB2 := Qz.mk (BW.out.trans (hb'.mono BW.out.size))
     clear hb' h0 h1
     go_wp2
     go_roundg ((lo + hi) / 2 - lo)
     case measure => omega
     case rel =>
      refine ⟨lo, (lo + hi) / 2, rfl, by first | rfl | go_num, by omega, by omega, Nat.le_refl _, HB2, ⟨I.out.1, fun t ht htn => Int.not_lt.1 fun h => ?_⟩⟩
      have := M.out ((lo + hi) / 2) t ht htn h
      rw [← HX.out] at this
      first | exact hyx this | omega
  ·obtain rfl : hi = lo := by omega
   have ecnt : cnt = hi := by
    rw [← CN.out]
    exact findIdx_at _ z170 l hi hin (fun t ht => decide_eq_false (by have := I.out.1 t ht; omega)) (fun h => decide_eq_true (I.out.2 hi (Nat.le_refl _) h))
   subst ecnt
   by_cases hn : cnt < l.length
   ·obtain ⟨ad, e, h0, h1⟩ := at_T170 HR.out (cnt : Int) (by omega) (by omega)
    cases e
    replace h0 := (BW.out.cell (World.block_lt_of_cell? _ _ h0)).trans h0
    replace h1 := (BW.out.cell (World.block_lt_of_cell? _ _ h1)).trans h1
    rw [Int.toNat_natCast] at h0 h1
    have hcall := HP.out (qj l (cnt : Int)) wr BW.out
    have HX : Qz (qj l (cnt : Int) = l.getD cnt z170) := ⟨by unfold qj; rw [Int.toNat_natCast]⟩
    generalize qj l (cnt : Int) = x at h0 h1 hcall HX
    go_wp2_with fail
    (with_reducible refine hcall.mono ?_)
    rintro e w' ⟨rfl, hb'⟩
    have KB := Qz.mk (BW.out.trans (hb'.mono BW.out.size))
    all_goals
     go_wp2
     go_ret2
     exact ⟨by rw [← FIN.out, ← HX.out]; simp [hn]; try rfl, KB.out⟩
   ·go_wp2
    go_ret2
    exact ⟨by rw [← FIN.out]; simp [hn], BW.out⟩
def upF (l : List S170) : Bool := (List.range l.length).all fun i => i == 0 || tless (l.getD (i - 1) z170).f0 (l.getD i z170).f0
def ccmp (a b : ByteArray) : Int := if tless a b = true then -1 else if tless b a = true then 1 else 0
theorem ccmp_neg {a b : ByteArray} : ccmp a b < 0 ↔ tless a b = true := by
 unfold ccmp
 split
 ·simp [*]
 ·split <;> simp [*]
theorem tless_trans {a b c : ByteArray} (h : tless a b = true) (h2 : tless b c = true) : tless a c = true := bl_trans h h2
theorem upF_lt {l : List S170} (h : upF l = true) : ∀ (d i : Nat), i + d + 1 < l.length → tless (l.getD i z170).f0 (l.getD (i + d + 1) z170).f0 = true := by
 have one : ∀ i, i + 1 < l.length → tless (l.getD i z170).f0 (l.getD (i + 1) z170).f0 = true := by
  intro i hi
  unfold upF at h
  rw [List.all_eq_true] at h
  have := h (i + 1) (List.mem_range.2 hi)
  simpa using this
 intro d
 induction d with
 | zero => intro i hi; exact one i hi
 | succ d ih => intro i hi; exact tless_trans (ih i (by omega)) (one (i + d + 1) (by omega))
theorem upF_mono {l : List S170} (h : upF l = true) (y : ByteArray) (i j : Nat) (hij : i ≤ j) (hj : j < l.length) (hc : ccmp (l.getD j z170).f0 y < 0) : ccmp (l.getD i z170).f0 y < 0 := by
 rcases Nat.lt_or_ge i j with hlt | hge
 ·have h1 := upF_lt h (j - i - 1) i (by omega)
  rw [show i + (j - i - 1) + 1 = j from by omega] at h1
  exact ccmp_neg.2 (tless_trans h1 (ccmp_neg.1 hc))
 ·rw [show i = j from by omega]
  exact hc
def fpos (l : List S170) (y : ByteArray) : Nat := l.findIdx fun x => decide (0 ≤ ccmp x.f0 y)
def impl_find.f (l0 : List S170) (a1 : ByteArray) : Option (Int × Bool) :=
 if l0.length < 4611686018427387904 ∧ upF l0 = true then some ((fpos l0 a1 : Int), decide (fpos l0 a1 < l0.length) && decide (ccmp (l0.getD (fpos l0 a1) z170).f0 a1 = 0)) else none
set_option maxHeartbeats 4000000 in
theorem impl_find.calls (A0 : Option Addr) (c0 : Nat) (l0 : List S170) (a1 : ByteArray) (r0 : Int) (r1 : Bool) (w : World) (hr0 : Kd.C k170 w A0 l0.length l0) (hc0 : l0.length ≤ c0) (h : impl_find.f l0 a1 = some (r0, r1)) :
  Calls Try.prog 183 #[.slice A0 l0.length c0, .string a1] w fun e w' => e = .returned (.tuple #[.int .i64 r0, .bool r1]) ∧ Below w.heap.size w w' := by
 unfold impl_find.f at h
 split at h
 ·rename_i hq
  injection h with h
  injection h with h0 h1
  have hcall := bsearch_File.calls 194 (fun x => ccmp x.f0 a1) a1 A0 c0 l0 w hr0 hq.1 (fun args w => by kernel_rfl) (fun x W hb => impl_find_1.calls x.f0 x.f1 a1 _ W (by unfold impl_find_1.f; rw [compareS_ev]; rfl)) (upF_mono hq.2 a1)
  rw [show (l0.findIdx fun x => decide (0 ≤ ccmp x.f0 a1)) = fpos l0 a1 from rfl, h0, h1] at hcall
  clear h0 h1 hq hr0
  go_enter Try.func183, Try.ntmps183
  go_wp2_with fail
  (with_reducible refine hcall.mono ?_)
  rintro e w' ⟨rfl, hb'⟩
  go_wp2
  go_ret2
  exact ⟨rfl, hb'⟩
 ·cases h
theorem yq25 {P : Prop} (h : P := by (try simp only [List.map_toArray, List.map_cons, List.map_nil]); first | done | rfl | (simp only [List.length_drop, List.length_take]; rfl) | (rw [IntWalk.u64_in _ (by omega)] <;> rfl)) : P := h
theorem yq26 {P : Prop} (h : P := by repeat (first | (with_reducible first | exact HB.out | apply qc | apply qa | apply qb | refine qf ?_ GE101.out) | exact HB.out)) : P := h
theorem yq27 {P : Prop} (h : P := by (with_reducible repeat (first | refine qh ?_ _ | refine qk ?_ | refine qg ?_ _)); exact BK101.out) : P := h
theorem yq28 {P : Prop} (h : P := by repeat (first | (with_reducible first | exact HB.out | apply qc | apply qa | apply qb | refine qf ?_ GE101.out | refine qf ?_ GE118.out) | exact HB.out)) : P := h
theorem yq29 {P : Prop} (h : P := by first | (with_reducible assumption) | assumption) : P := h
theorem yq30 {P : Prop} (h : P := by repeat (first | (with_reducible first | exact HB.out | apply qc | apply qa | apply qb) | exact HB.out)) : P := h
theorem yq31 {P : Prop} (h : P := by (with_reducible repeat (first | apply Kd.R_alloc | apply Kd.R_drewN | apply Kd.R_drew)); exact HO104.out) : P := h
theorem yq32 {P : Prop} (h : P := by (with_reducible repeat (first | refine qh ?_ _ | refine qk ?_ | refine qg ?_ _)); exact BK118.out) : P := h
theorem yq33 {P : Prop} (h : P := by rw [hw]; exact (by (with_reducible repeat (first | refine qh ?_ _ | refine qk ?_ | refine qg ?_ _)); refine blk_put (cs := #[.string ((qj t102 t105).f0), .string (⟨#[]⟩ : ByteArray)]) ?_ 1 _ rfl; (with_reducible repeat (first | refine qh ?_ _ | refine qk ?_ | refine qg ?_ _)); refine blk_put (cs := #[.string (⟨#[]⟩ : ByteArray), .string (⟨#[]⟩ : ByteArray)]) ?_ 0 _ rfl; (with_reducible repeat (first | refine qh ?_ _ | refine qk ?_ | refine qg ?_ _)); exact BK118.out)) : P := h
theorem yq34 {P : Prop} (h : P := by repeat (first | exact (Kd.R_reads' HO104.out).2.2 | (with_reducible refine Kd.C_alloc ?_ _) | (with_reducible refine Kd.C_drewN ?_ _) | (with_reducible refine Kd.C_drew ?_))) : P := h
theorem yq35 {P : Prop} (h : P := by repeat (first | exact (Kd.C_below HR0.out HB.out) | (with_reducible refine Kd.C_alloc ?_ _) | (with_reducible refine Kd.C_drewN ?_ _) | (with_reducible refine Kd.C_drew ?_))) : P := h
theorem yq36 {P : Prop} (h : P := by (with_reducible repeat (first | apply Kd.R_alloc | apply Kd.R_drewN | apply Kd.R_drew)); exact (Kd.R_mono (Kd.R_far (p := ⟨gb118, 0, none⟩) (Kd.R_mono HO121.out (fun k_ hk => (⟨hk, hk⟩ : _ ∧ k_ ≠ gb118))) (fun _ hk => hk.2) (.string a1_2)) (fun _ h_ => h_.1))) : P := h
theorem yq37 {P : Prop} (h : P := by rw [hw]; exact (by (with_reducible repeat (first | apply Kd.R_alloc | apply Kd.R_drewN | apply Kd.R_drew)); exact Kd.R_mono (Kd.R_far (p := ⟨gb118, 1, none⟩) (Kd.R_far (p := ⟨gb118, 0, none⟩) (Kd.R_mono HO104.out (fun k_ hk => (⟨hk, hk.2⟩ : _ ∧ k_ ≠ gb118))) (fun _ hk => hk.2) (.string ((qj t102 t105).f0))) (fun _ hk => hk.2) (.string ((qj t102 t105).f1))) (fun _ hk => hk.1.2))) : P := h
theorem yq38 {P : Prop} (h : P := by rw [hw]; exact (by (with_reducible repeat (first | refine qh ?_ _ | refine qk ?_ | refine qg ?_ _)); refine blk_far ?_ NB101_118.out _; (with_reducible repeat (first | refine qh ?_ _ | refine qk ?_ | refine qg ?_ _)); refine blk_far ?_ NB101_118.out _; (with_reducible repeat (first | refine qh ?_ _ | refine qk ?_ | refine qg ?_ _)); exact BK101.out)) : P := h
theorem yq39 {P : Prop} (h : P := by first | (go_simp; done) | (go_simp; rfl)) : P := h
theorem yq40 {P : Prop} (h : P := by rw [hg]; exact Nat.ne_of_lt (blk_lt (g := gb101) (o := .cells #[.int .i64 a1_0, .string a1_1, .string a1_2, .string a1_3] 157 (0, 0)) yq27)) : P := h
theorem yq41 {P : Prop} (h : P := by rw [hg]; exact Nat.ne_of_gt (blk_lt (g := gb101) (o := .cells #[.int .i64 a1_0, .string a1_1, .string a1_2, .string a1_3] 157 (0, 0)) yq27)) : P := h
theorem yq42 {P : Prop} (h : P := by (with_reducible repeat (first | refine qh ?_ _ | refine qk ?_ | refine qg ?_ _)); refine blk_put (cs := #[.string ((qj t102 t105).f0), .string ((qj t102 t105).f1)]) ?_ 0 _ rfl; (with_reducible repeat (first | refine qh ?_ _ | refine qk ?_ | refine qg ?_ _)); exact BK118.out) : P := h
theorem yq43 {P : Prop} (h : P := by (with_reducible repeat (first | refine qh ?_ _ | refine qk ?_ | refine qg ?_ _)); refine blk_far ?_ NB101_118.out _; (with_reducible repeat (first | refine qh ?_ _ | refine qk ?_ | refine qg ?_ _)); exact BK101.out) : P := h
theorem bkbf138 {w0 W W2 : World} {g : Nat} {o : Obj} (_ : Qz (w0.heap[g]? = some o)) (h : W.heap[g]? = some o) (hb : Below W.heap.size W W2) : Qz (W2.heap[g]? = some o) := Qz.mk (qq h hb)
def impl_done.f (l0 : List (S170)) (a1_0 : Int) (a1_1 : ByteArray) (a1_2 : ByteArray) (a1_3 : ByteArray) : Option ((List (S170)) × Bool) := (impl_File_179.f l0).bind fun t102 => ((impl_find.f t102 a1_1).bind fun bt105 => (if a1_0 = 1 then (if bt105.2 = true then (if 0 ≤ bt105.1 then (if bt105.1 < (t102.length : Int) then (if ((qj t102 bt105.1).f1).size + a1_3.size ≤ 9223372036854775807 then (some ((t102.set (bt105.1 : Int).toNat (⟨(qj t102 bt105.1).f0, ((qj t102 bt105.1).f1) ++ a1_3⟩ : S170)), true)) else (none)) else (none)) else (none)) else ((impl_File_184.f t102 bt105.1 (([(⟨a1_1, (⟨#[]⟩ : ByteArray)⟩ : S170)] : List (S170)))).bind fun t112 => (if 0 ≤ bt105.1 then (if bt105.1 < (t112.length : Int) then (if ((qj t112 bt105.1).f1).size + a1_3.size ≤ 9223372036854775807 then (some ((t112.set (bt105.1 : Int).toNat (⟨(qj t112 bt105.1).f0, ((qj t112 bt105.1).f1) ++ a1_3⟩ : S170)), true)) else (none)) else (none)) else (none)))) else (if bt105.2 = true then (if 0 ≤ bt105.1 then (if bt105.1 < (t102.length : Int) then ((impl_File_185.f t102 bt105.1 (wrap64 (bt105.1 + 1))).bind fun t119 => (if a1_0 = 2 then ((impl_find.f t119 a1_2).bind fun bt122 => (if bt122.2 = true then (if 0 ≤ bt122.1 then (if bt122.1 < (t119.length : Int) then (some ((t119.set (bt122.1 : Int).toNat (⟨a1_2, (qj t102 bt105.1).f1⟩ : S170)), true)) else (none)) else (none)) else ((impl_File_184.f t119 bt122.1 (([(⟨a1_2, (qj t102 bt105.1).f1⟩ : S170)] : List (S170)))).bind fun t128 => (some (t128, true))))) else (some (t119, true)))) else (none)) else (none)) else (some (t102, false)))))
def impl_done.T6 : Bool × List (List Nat × List Nat) := (true, [([], []), ([], []), ([0, 1], [0, 1]), ([2], [2]), ([3], [3]), ([], []), ([5], [5]), ([4, 6], [4, 6]), ([0, 1, 0, 1, 2, 3, 4, 5, 6, 7], [0, 1]), ([8, 0, 1, 2, 3, 4, 5, 6, 7], [8]), ([9, 7, 0, 1, 2, 3, 4, 5, 6, 7], [7, 9])])
def impl_done.B6 : List Nat := [0, 0, 3, 7, 15, 0, 32, 127, 255, 511, 1023]
theorem impl_done.tab6 : rtab .any (opsOf Try.f138 6) = impl_done.T6 := by kernel_rfl
theorem impl_done.bits6 : waitsOk impl_done.T6.2 impl_done.B6 = true := by kernel_rfl
set_option maxHeartbeats 8000000 in
set_option maxRecDepth 100000 in
theorem impl_done.calls (A0 : Option Addr) (c0 : Nat) (l0 : List (S170)) (a1_0 : Int) (a1_1 : ByteArray) (a1_2 : ByteArray) (a1_3 : ByteArray) (r1 : List (S170)) (r2 : Bool) (w : World) (hr0 : Kd.C k170 w A0 l0.length l0) (hc0 : l0.length ≤ c0) (h : impl_done.f l0 a1_0 a1_1 a1_2 a1_3 = some (r1, r2)) :
  Calls Try.prog 138 #[.slice A0 l0.length c0, .agg #[.int .i64 a1_0, .string a1_1, .string a1_2, .string a1_3]] w fun e w' => ∃ v0_ : Value, e = .returned (.tuple #[v0_, .bool r2]) ∧ Kd.R k170 170 w' w.heap.size (fun _ => True) v0_ r1 ∧ Below w.heap.size w w' := by
 have hu157 := Try.underlying157
 have hu170 := Try.underlying170
 have HR0 := Qz.mk hr0
 have HC0 := Qz.mk hc0
 clear hr0 hc0
 have HB := Qz.mk (Below.refl w.heap.size w)
 have H : ((impl_File_179.f l0).bind fun t102 => ((impl_find.f t102 a1_1).bind fun bt105 => (if a1_0 = 1 then (if bt105.2 = true then (if 0 ≤ bt105.1 then (if bt105.1 < (t102.length : Int) then (if ((qj t102 bt105.1).f1).size + a1_3.size ≤ 9223372036854775807 then (some ((t102.set (bt105.1 : Int).toNat (⟨(qj t102 bt105.1).f0, ((qj t102 bt105.1).f1) ++ a1_3⟩ : S170)), true)) else (none)) else (none)) else (none)) else ((impl_File_184.f t102 bt105.1 (([(⟨a1_1, (⟨#[]⟩ : ByteArray)⟩ : S170)] : List (S170)))).bind fun t112 => (if 0 ≤ bt105.1 then (if bt105.1 < (t112.length : Int) then (if ((qj t112 bt105.1).f1).size + a1_3.size ≤ 9223372036854775807 then (some ((t112.set (bt105.1 : Int).toNat (⟨(qj t112 bt105.1).f0, ((qj t112 bt105.1).f1) ++ a1_3⟩ : S170)), true)) else (none)) else (none)) else (none)))) else (if bt105.2 = true then (if 0 ≤ bt105.1 then (if bt105.1 < (t102.length : Int) then ((impl_File_185.f t102 bt105.1 (wrap64 (bt105.1 + 1))).bind fun t119 => (if a1_0 = 2 then ((impl_find.f t119 a1_2).bind fun bt122 => (if bt122.2 = true then (if 0 ≤ bt122.1 then (if bt122.1 < (t119.length : Int) then (some ((t119.set (bt122.1 : Int).toNat (⟨a1_2, (qj t102 bt105.1).f1⟩ : S170)), true)) else (none)) else (none)) else ((impl_File_184.f t119 bt122.1 (([(⟨a1_2, (qj t102 bt105.1).f1⟩ : S170)] : List (S170)))).bind fun t128 => (some (t128, true))))) else (some (t119, true)))) else (none)) else (none)) else (some (t102, false)))))) = some (r1, r2) := h
 clear h
 replace H := Option.bind_eq_some_iff.mp H
 obtain ⟨t102, A30, H⟩ := H
 replace H : ((impl_find.f t102 a1_1).bind fun bt105 => (if a1_0 = 1 then (if bt105.2 = true then (if 0 ≤ bt105.1 then (if bt105.1 < (t102.length : Int) then (if ((qj t102 bt105.1).f1).size + a1_3.size ≤ 9223372036854775807 then (some ((t102.set (bt105.1 : Int).toNat (⟨(qj t102 bt105.1).f0, ((qj t102 bt105.1).f1) ++ a1_3⟩ : S170)), true)) else (none)) else (none)) else (none)) else ((impl_File_184.f t102 bt105.1 (([(⟨a1_1, (⟨#[]⟩ : ByteArray)⟩ : S170)] : List (S170)))).bind fun t112 => (if 0 ≤ bt105.1 then (if bt105.1 < (t112.length : Int) then (if ((qj t112 bt105.1).f1).size + a1_3.size ≤ 9223372036854775807 then (some ((t112.set (bt105.1 : Int).toNat (⟨(qj t112 bt105.1).f0, ((qj t112 bt105.1).f1) ++ a1_3⟩ : S170)), true)) else (none)) else (none)) else (none)))) else (if bt105.2 = true then (if 0 ≤ bt105.1 then (if bt105.1 < (t102.length : Int) then ((impl_File_185.f t102 bt105.1 (wrap64 (bt105.1 + 1))).bind fun t119 => (if a1_0 = 2 then ((impl_find.f t119 a1_2).bind fun bt122 => (if bt122.2 = true then (if 0 ≤ bt122.1 then (if bt122.1 < (t119.length : Int) then (some ((t119.set (bt122.1 : Int).toNat (⟨a1_2, (qj t102 bt105.1).f1⟩ : S170)), true)) else (none)) else (none)) else ((impl_File_184.f t119 bt122.1 (([(⟨a1_2, (qj t102 bt105.1).f1⟩ : S170)] : List (S170)))).bind fun t128 => (some (t128, true))))) else (some (t119, true)))) else (none)) else (none)) else (some (t102, false))))) = some (r1, r2) := H
 have A3 := Qz.mk A30
 clear A30
 replace H := Option.bind_eq_some_iff.mp H
 obtain ⟨⟨t105, t106⟩, A40, H⟩ := H
 replace H : (if a1_0 = 1 then (if t106 = true then (if 0 ≤ t105 then (if t105 < (t102.length : Int) then (if ((qj t102 t105).f1).size + a1_3.size ≤ 9223372036854775807 then (some ((t102.set (t105 : Int).toNat (⟨(qj t102 t105).f0, ((qj t102 t105).f1) ++ a1_3⟩ : S170)), true)) else (none)) else (none)) else (none)) else ((impl_File_184.f t102 t105 (([(⟨a1_1, (⟨#[]⟩ : ByteArray)⟩ : S170)] : List (S170)))).bind fun t112 => (if 0 ≤ t105 then (if t105 < (t112.length : Int) then (if ((qj t112 t105).f1).size + a1_3.size ≤ 9223372036854775807 then (some ((t112.set (t105 : Int).toNat (⟨(qj t112 t105).f0, ((qj t112 t105).f1) ++ a1_3⟩ : S170)), true)) else (none)) else (none)) else (none)))) else (if t106 = true then (if 0 ≤ t105 then (if t105 < (t102.length : Int) then ((impl_File_185.f t102 t105 (wrap64 (t105 + 1))).bind fun t119 => (if a1_0 = 2 then ((impl_find.f t119 a1_2).bind fun bt122 => (if bt122.2 = true then (if 0 ≤ bt122.1 then (if bt122.1 < (t119.length : Int) then (some ((t119.set (bt122.1 : Int).toNat (⟨a1_2, (qj t102 t105).f1⟩ : S170)), true)) else (none)) else (none)) else ((impl_File_184.f t119 bt122.1 (([(⟨a1_2, (qj t102 t105).f1⟩ : S170)] : List (S170)))).bind fun t128 => (some (t128, true))))) else (some (t119, true)))) else (none)) else (none)) else (some (t102, false)))) = some (r1, r2) := H
 have A4 := Qz.mk A40
 clear A40
 by_cases c5 : a1_0 = 1
 ·rw [if_pos c5] at H
  have c5b0 : (a1_0 == 1) = true := beq_iff_eq.mpr c5
  have c5b1 : (a1_0 != 1) = false := bne_eq_false_iff_eq.mpr c5
  clear c5
  by_cases c6 : t106 = true
  ·subst c6
   have H1 : (if 0 ≤ t105 then (if t105 < (t102.length : Int) then (if ((qj t102 t105).f1).size + a1_3.size ≤ 9223372036854775807 then (some ((t102.set (t105 : Int).toNat (⟨(qj t102 t105).f0, ((qj t102 t105).f1) ++ a1_3⟩ : S170)), true)) else (none)) else (none)) else (none)) = some (r1, r2) := by rw [if_pos rfl] at H; exact H
   clear H
   have H := H1
   clear H1
   by_cases c7 : 0 ≤ t105
   ·rw [if_pos c7] at H
    have c7b0 : decide (0 ≤ t105) = true := decide_eq_true c7
    clear c7
    by_cases c8 : t105 < (t102.length : Int)
    ·rw [if_pos c8] at H
     have c8b0 : decide (t105 < (t102.length : Int)) = true := decide_eq_true c8
     clear c8
     by_cases c9 : ((qj t102 t105).f1).size + a1_3.size ≤ 9223372036854775807
     ·rw [if_pos c9] at H
      have c9b0 := eq_true c9
      have c9b1 : decide (((qj t102 t105).f1).size + a1_3.size ≤ 9223372036854775807) = true := decide_eq_true c9
      try have c9b2 : (9223372036854775807 < ((qj t102 t105).f1).size + a1_3.size) = False := eq_false (Nat.not_lt.2 c9)
      obtain ⟨y108, hy108⟩ : ∃ y_ : List (S170), y_ = (t102.set (t105 : Int).toNat (⟨(qj t102 t105).f0, ((qj t102 t105).f1) ++ a1_3⟩ : S170)) := ⟨_, rfl⟩
      replace H : (some (y108, true)) = some (r1, r2) := by first | (rw [hy108]; with_reducible exact H) | (have H2_ := (Option.bind_some _ _).symm.trans H; rw [hy108]; with_reducible exact H2_) | (have H2_ := (Option.bind_some _ _).symm.trans H; with_reducible exact H2_) | with_reducible exact H | (rw [hy108]; exact H) | exact H
      have Ny108 := Qz.mk hy108
      clear hy108
      simp only [Option.some.injEq, Prod.mk.injEq] at H
      obtain ⟨rfl, rfl⟩ := H
      go_enter Try.func138, Try.ntmps138
      try go_wp2_with (first | ((with_reducible refine qt (N := 3) rfl ?_); refine qr ?hg (N := 3) ?hd (cs := #[.int .i64 a1_0, .string a1_1, .string a1_2, .string a1_3]) (t := 157) ?hr ?_; (case hd => rfl); (case hg => rfl); (case hr => exact yq39); intro gb101 hg w11 hbox hb; have BK101 := Qz.mk (hbox); have GW101 := Qz.mk ((by rw [hg]; exact (qo yq30) : w.heap.size ≤ gb101)); have GE101 := GW101; replace HB := Qz.mk (ql yq30 hb); clear hb hbox hg) | ((with_reducible refine qp (f := 179) rfl ?_); refine qc1 (some 13) rfl rfl Try.func179 (by kernel_rfl) rfl #[.slice A0 l0.length c0] rfl yq25 ?_; (with_reducible refine (impl_File_179.calls _ _ l0 t102 _ ?side1 ?side2 A3.out).mono ?_); (case side1 => exact yq35); (case side2 => exact HC0.out); rintro e w12 ⟨v103, rfl, ho0, hb⟩; refine ⟨_, rfl, ?_⟩; have HO104 := Qz.mk (Kd.R_lower ho0 (qo yq26)); replace BK101 := bkbf138 BK101 yq27 hb; replace HB := Qz.mk (ql yq26 hb); (try clear hb); (try clear hk); (try clear ho0); have hcz13_0 := (qd BK101.out 0).trans rfl; have hcz13_1 := (qd BK101.out 1).trans rfl; have hcz13_2 := (qd BK101.out 2).trans rfl; have hcz13_3 := (qd BK101.out 3).trans rfl; have hfz13_0 := qe BK101.out 0; have hfz13_1 := qe BK101.out 1; have hfz13_2 := qe BK101.out 2; have hfz13_3 := qe BK101.out 3; obtain ⟨Ao14, co14, eo14⟩ := Kd.R_slice HO104.out; subst eo14) | ((with_reducible refine qp (f := 183) rfl ?_); refine qc1 (some 18) rfl rfl Try.func183 (by kernel_rfl) rfl #[.slice Ao14 t102.length co14, .string a1_1] rfl yq25 ?_; (with_reducible refine (impl_find.calls _ _ t102 a1_1 t105 true _ ?side1 ?side2 A4.out).mono ?_); (case side1 => exact yq34); (case side2 => exact (Kd.R_reads' HO104.out).2.1); rintro e w15 ⟨rfl, hb⟩; refine ⟨_, rfl, ?_⟩; replace HO104 := Qz.mk (Kd.R_below yq31 hb); replace BK101 := bkbf138 BK101 yq27 hb; replace HB := Qz.mk (ql yq26 hb); (try clear hb); (try clear hk); have hcz16_0 := (qd BK101.out 0).trans rfl; have hcz16_1 := (qd BK101.out 1).trans rfl; have hcz16_2 := (qd BK101.out 2).trans rfl; have hcz16_3 := (qd BK101.out 3).trans rfl; have hfz16_0 := qe BK101.out 0; have hfz16_1 := qe BK101.out 1; have hfz16_2 := qe BK101.out 2; have hfz16_3 := qe BK101.out 3))
      replace HO104 := Qz.mk (Kd.R_drew HO104.out)
      replace BK101 := Qz.mk (qk BK101.out)
      replace HB := Qz.mk (qb HB.out)
      have p107 : 0 ≤ (t105 : Int) := of_decide_eq_true yq29
      have q107 : t105 < (t102.length : Int) := of_decide_eq_true yq29
      obtain ⟨ad107, e107, hx107_0, hx107_1⟩ := at_T170 (Kd.R_reads' HO104.out).2.2 t105 p107 q107
      cases e107
      replace p107 := eq_true p107
      replace q107 := eq_true q107
      have p10 : 0 ≤ (t105 : Int) := of_decide_eq_true yq29
      have q10 : (t105 : Int) < ((t102.length : Int) : Int) := of_decide_eq_true yq29
      obtain ⟨go10, co10, eo10, gb10, gl10, cl10, HG10⟩ := Kd.R_form HO104.out (by omega)
      (first | cases eo10 | (injection eo10 with ea_ en_ ec_; (first | subst ea_ | (injection ea_ with ea_; subst ea_)); subst ec_; clear en_))
      have GB10 := Qz.mk gb10
      have GG10 := Qz.mk HG10
      clear gb10 gl10 HG10
      (first | simp only [add_plain] at hx107_0 | skip)
      (first | simp only [add_plain] at hx107_1 | skip)
      obtain ⟨ce10, hcl10, hM10, hcc10, hfr10⟩ := Kd.R_elem HO104.out z170 (t105 : Int) p10 q10
      obtain rfl := k170_openM hM10
      have hx10_0 : World.cell? _ ⟨go10, (t105 : Int).toNat * 2, none⟩ = some (.string ((qj t102 t105).f0)) := hcc10 0 _ rfl
      have hx10_1 : World.cell? _ ⟨go10, (t105 : Int).toNat * 2 + 1, none⟩ = some (.string ((qj t102 t105).f1)) := hcc10 1 _ rfl
      have hf10_0 : World.frozen? _ ⟨go10, (t105 : Int).toNat * 2, none⟩ = false := hfr10 0
      have hf10_1 : World.frozen? _ ⟨go10, (t105 : Int).toNat * 2 + 1, none⟩ = false := hfr10 1
      clear hcl10 hcc10 hfr10 hM10
      replace p10 := eq_true p10
      replace q10 := eq_true q10
      obtain ⟨ce18, hcl18, hM18, hcc18, hfr18⟩ := Kd.R_elem HO104.out z170 (t105 : Int) (of_decide_eq_true yq29) (by have h_ : (t105 : Int) < ((t102.length : Int) : Int) := of_decide_eq_true yq29; first | exact h_ | (have e_ := (Kd.R_reads' HO104.out).1; omega) | simpa using h_)
      obtain rfl := k170_openM hM18
      have HP18 := (Kd.R_seg HO104.out (t105 : Int) (of_decide_eq_true yq29) (by have h_ : (t105 : Int) < ((t102.length : Int) : Int) := of_decide_eq_true yq29; first | exact h_ | (have e_ := (Kd.R_reads' HO104.out).1; omega) | simpa using h_) (seg := [.string (((qj t102 t105).f1) ++ a1_3)]) (j := 1) hcl18 hcc18 (show 2 ≤ 2 from by decide) (x' := (⟨(qj t102 t105).f0, ((qj t102 t105).f1) ++ a1_3⟩ : S170)) (k170_mkM _ _ _ (⟨(qj t102 t105).f0, ((qj t102 t105).f1) ++ a1_3⟩ : S170) ) (fun _ hk => hk)).1
      rw [← Ny108.out] at HP18
      have HQ18 := Qz.mk HP18
      clear hcl18 hcc18 hfr18 hM18 HP18
      refine start_ (n := 11) (S := fun w' => w'.cell? ⟨gb101, 0, none⟩ = some (.int .i64 a1_0) ∧ w'.cell? ⟨gb101, 1, none⟩ = some (.string a1_1) ∧ w'.cell? ⟨gb101, 2, none⟩ = some (.string a1_2) ∧ w'.cell? ⟨gb101, 3, none⟩ = some (.string a1_3) ∧ w'.cell? ⟨go10, ((t105).toNat * 2), none⟩ = some (.string ((qj t102 t105).f0)) ∧ w'.cell? ⟨go10, ((t105).toNat * 2) + 1, none⟩ = some (.string ((qj t102 t105).f1))) (ds := [10]) bq0 (by kernel_rfl) rfl rfl ⟨(qd BK101.out 0).trans rfl, (qd BK101.out 1).trans rfl, (qd BK101.out 2).trans rfl, (qd BK101.out 3).trans rfl, hx107_0, hx107_1⟩ (fun hHeld => ?_); refine with_tabW impl_done.tab6 impl_done.bits6 (fun HT_ HW_ => ?_)
      generalize w15.drew = w17 at HO104 BK101 HB GG10 HQ18 hf10_0 hf10_1 hx107_0 hx107_1 hx10_0 hx10_1 hHeld ⊢
      refine pure_ (i := 0) (N := some 33) (v := ?_) (a' := ?_) bq3 rfl rfl (qw HT_.out (by kernel_rfl)) (fun _ _ _ h => h) (Or.inl ⟨by rfl, ?_⟩) ?_ ?_
      rotate_left
      ·intro w'
       go_simp
       with_reducible rfl
      rotate_left
      ·simp only [Act.put, sq1, sq2, sq3, i64_w, i32_w]
       rfl
      refine pure_ (i := 1) (N := some 34) (v := ?_) (a' := ?_) bq6 rfl rfl (qw HT_.out (by kernel_rfl)) (fun _ _ _ h => h) (Or.inl ⟨by rfl, ?_⟩) ?_ ?_
      rotate_left
      ·intro w'
       go_simp
       with_reducible rfl
      rotate_left
      ·simp only [Act.put, sq1, sq2, sq3, i64_w, i32_w]
       rfl
      refine pure_ (i := 2) (N := some 35) (v := ?_) (a' := ?_) bq9 rfl rfl (qw HT_.out (by kernel_rfl)) (fun _ _ _ h => h) (Or.inl ⟨by rfl, ?_⟩) ?_ ?_
      rotate_left
      ·intro w'
       go_simp
       with_reducible rfl
      rotate_left
      ·simp only [Act.put, sq1, sq2, sq3, i64_w, i32_w]
       rfl
      refine pure_ (i := 3) (N := some 36) (v := ?_) (a' := ?_) bq15 rfl rfl (qw HT_.out (by kernel_rfl)) (fun _ _ _ h => h) (Or.inl ⟨by rfl, ?_⟩) ?_ ?_
      rotate_left
      ·intro w'
       go_simp
       with_reducible rfl
      rotate_left
      ·simp only [Act.put, sq1, sq2, sq3, i64_w, i32_w]
       rfl
      refine pure_ (i := 5) (N := some 38) (v := ?_) (a' := ?_) bq17 rfl rfl (qw HT_.out (by kernel_rfl)) (fun _ _ _ h => h) (Or.inl ⟨by rfl, ?_⟩) ?_ ?_
      rotate_left
      ·intro w'
       go_simp
       with_reducible rfl
      rotate_left
      ·simp only [Act.put, sq1, sq2, sq3, i64_w, i32_w]
       rfl
      refine take_ (i := 4) (N := some 37) (v := ?_) (a' := ?_) bq19 rfl rfl (take_ofW HT_.out HW_.out (by kernel_rfl)) (fun _ _ _ h => h) (Or.inl ⟨by rfl, ?_⟩) hHeld ?_ ?_
      rotate_left
      ·rintro w' ⟨s0, s1, s2, s3, s4, s5⟩
       go_simp
       with_reducible rfl
      rotate_left
      ·simp only [Act.put, sq1, sq2, sq3, i64_w, i32_w]
       rfl
      refine take_ (i := 6) (N := some 39) (v := ?_) (a' := ?_) bq21 rfl rfl (take_ofW HT_.out HW_.out (by kernel_rfl)) (fun _ _ _ h => h) (Or.inl ⟨by rfl, ?_⟩) hHeld ?_ ?_
      rotate_left
      ·rintro w' ⟨s0, s1, s2, s3, s4, s5⟩
       go_simp
       with_reducible rfl
      rotate_left
      ·simp only [Act.put, sq1, sq2, sq3, i64_w, i32_w]
       rfl
      refine pure_ (i := 7) (N := some 40) (v := ?_) (a' := ?_) bq24 rfl rfl (qw HT_.out (by kernel_rfl)) (fun _ _ _ h => h) (Or.inl ⟨by rfl, ?_⟩) ?_ ?_
      rotate_left
      ·intro w'
       go_simp
       with_reducible rfl
      rotate_left
      ·simp only [Act.put, sq1, sq2, sq3, i64_w, i32_w]
       rfl
      refine pure_ (i := 8) (N := some 41) (v := ?_) (a' := ?_) bq26 rfl rfl (qw HT_.out (by kernel_rfl)) (fun _ _ _ h => h) (Or.inl ⟨by rfl, ?_⟩) ?_ ?_
      rotate_left
      ·intro w'
       go_simp
       with_reducible rfl
      rotate_left
      ·simp only [Act.put, sq1, sq2, sq3, i64_w, i32_w]
       rfl
      refine pure_ (i := 9) (N := some 42) (v := ?_) (a' := ?_) bq28 rfl rfl (qw HT_.out (by kernel_rfl)) (fun _ _ _ h => h) (Or.inl ⟨by rfl, ?_⟩) ?_ ?_
      rotate_left
      ·intro w'
       go_simp
       with_reducible rfl
      rotate_left
      ·simp only [Act.put, sq1, sq2, sq3, i64_w, i32_w]
       rfl
      refine last_ (i := 10) (N := none) bq29 rfl rfl (one_of HT_.out (by kernel_rfl)) (by decide) (fun K hK => ?_)
      refine skip_ (w1 := ?_) (by rfl) rfl ?_ ?_
      rotate_left
      ·go_simp
       rfl
      refine hK.out _ _ ?_
      clear hK K
      refine done_ (done_of HT_.out (by kernel_rfl)) ?_
      try go_wp2
      go_ret2
      exact ⟨_, by first | rfl | (simp [qn, qm] <;> rfl) | (simp [*, qn, qm] <;> rfl), by (with_reducible repeat (first | apply Kd.R_alloc | apply Kd.R_drewN | apply Kd.R_drew)); exact HQ18.out, by repeat (first | (with_reducible first | exact HB.out | apply qc | apply qa | apply qb | refine qf ?_ GB10.out | refine qf ?_ GE101.out) | exact HB.out)⟩
     ·rw [if_neg c9] at H
      exact absurd H (by simp)
    ·rw [if_neg c8] at H
     exact absurd H (by simp)
   ·rw [if_neg c7] at H
    exact absurd H (by simp)
  ·replace c6 := Bool.eq_false_iff.mpr c6
   subst c6
   have H1 : ((impl_File_184.f t102 t105 (([(⟨a1_1, (⟨#[]⟩ : ByteArray)⟩ : S170)] : List (S170)))).bind fun t112 => (if 0 ≤ t105 then (if t105 < (t112.length : Int) then (if ((qj t112 t105).f1).size + a1_3.size ≤ 9223372036854775807 then (some ((t112.set (t105 : Int).toNat (⟨(qj t112 t105).f0, ((qj t112 t105).f1) ++ a1_3⟩ : S170)), true)) else (none)) else (none)) else (none))) = some (r1, r2) := by rw [if_neg (show ¬ (false = true) by decide)] at H; exact H
   clear H
   have H := H1
   clear H1
   obtain ⟨y109, hy109⟩ : ∃ y_ : List (S170), y_ = (([(⟨a1_1, (⟨#[]⟩ : ByteArray)⟩ : S170)] : List (S170))) := ⟨_, rfl⟩
   replace H : ((impl_File_184.f t102 t105 y109).bind fun t112 => (if 0 ≤ t105 then (if t105 < (t112.length : Int) then (if ((qj t112 t105).f1).size + a1_3.size ≤ 9223372036854775807 then (some ((t112.set (t105 : Int).toNat (⟨(qj t112 t105).f0, ((qj t112 t105).f1) ++ a1_3⟩ : S170)), true)) else (none)) else (none)) else (none))) = some (r1, r2) := by first | (rw [hy109]; with_reducible exact H) | (have H2_ := (Option.bind_some _ _).symm.trans H; rw [hy109]; with_reducible exact H2_) | (have H2_ := (Option.bind_some _ _).symm.trans H; with_reducible exact H2_) | with_reducible exact H | (rw [hy109]; exact H) | exact H
   have Ny109 := Qz.mk hy109
   clear hy109
   replace H := Option.bind_eq_some_iff.mp H
   obtain ⟨t112, A190, H⟩ := H
   replace H : (if 0 ≤ t105 then (if t105 < (t112.length : Int) then (if ((qj t112 t105).f1).size + a1_3.size ≤ 9223372036854775807 then (some ((t112.set (t105 : Int).toNat (⟨(qj t112 t105).f0, ((qj t112 t105).f1) ++ a1_3⟩ : S170)), true)) else (none)) else (none)) else (none)) = some (r1, r2) := H
   have A19 := Qz.mk A190
   clear A190
   by_cases c20 : 0 ≤ t105
   ·rw [if_pos c20] at H
    have c20b0 : decide (0 ≤ t105) = true := decide_eq_true c20
    clear c20
    by_cases c21 : t105 < (t112.length : Int)
    ·rw [if_pos c21] at H
     have c21b0 : decide (t105 < (t112.length : Int)) = true := decide_eq_true c21
     clear c21
     by_cases c22 : ((qj t112 t105).f1).size + a1_3.size ≤ 9223372036854775807
     ·rw [if_pos c22] at H
      have c22b0 := eq_true c22
      have c22b1 : decide (((qj t112 t105).f1).size + a1_3.size ≤ 9223372036854775807) = true := decide_eq_true c22
      try have c22b2 : (9223372036854775807 < ((qj t112 t105).f1).size + a1_3.size) = False := eq_false (Nat.not_lt.2 c22)
      obtain ⟨y116, hy116⟩ : ∃ y_ : List (S170), y_ = (t112.set (t105 : Int).toNat (⟨(qj t112 t105).f0, ((qj t112 t105).f1) ++ a1_3⟩ : S170)) := ⟨_, rfl⟩
      replace H : (some (y116, true)) = some (r1, r2) := by first | (rw [hy116]; with_reducible exact H) | (have H2_ := (Option.bind_some _ _).symm.trans H; rw [hy116]; with_reducible exact H2_) | (have H2_ := (Option.bind_some _ _).symm.trans H; with_reducible exact H2_) | with_reducible exact H | (rw [hy116]; exact H) | exact H
      have Ny116 := Qz.mk hy116
      clear hy116
      simp only [Option.some.injEq, Prod.mk.injEq] at H
      obtain ⟨rfl, rfl⟩ := H
      go_enter Try.func138, Try.ntmps138
      try go_wp2_with (first | ((with_reducible refine qt (N := 3) rfl ?_); refine qr ?hg (N := 3) ?hd (cs := #[.int .i64 a1_0, .string a1_1, .string a1_2, .string a1_3]) (t := 157) ?hr ?_; (case hd => rfl); (case hg => rfl); (case hr => exact yq39); intro gb101 hg w24 hbox hb; have BK101 := Qz.mk (hbox); have GW101 := Qz.mk ((by rw [hg]; exact (qo yq30) : w.heap.size ≤ gb101)); have GE101 := GW101; replace HB := Qz.mk (ql yq30 hb); clear hb hbox hg) | ((with_reducible refine qp (f := 179) rfl ?_); refine qc1 (some 13) rfl rfl Try.func179 (by kernel_rfl) rfl #[.slice A0 l0.length c0] rfl yq25 ?_; (with_reducible refine (impl_File_179.calls _ _ l0 t102 _ ?side1 ?side2 A3.out).mono ?_); (case side1 => exact yq35); (case side2 => exact HC0.out); rintro e w25 ⟨v103, rfl, ho0, hb⟩; refine ⟨_, rfl, ?_⟩; have HO104 := Qz.mk (Kd.R_lower ho0 (qo yq26)); replace BK101 := bkbf138 BK101 yq27 hb; replace HB := Qz.mk (ql yq26 hb); (try clear hb); (try clear hk); (try clear ho0); have hcz26_0 := (qd BK101.out 0).trans rfl; have hcz26_1 := (qd BK101.out 1).trans rfl; have hcz26_2 := (qd BK101.out 2).trans rfl; have hcz26_3 := (qd BK101.out 3).trans rfl; have hfz26_0 := qe BK101.out 0; have hfz26_1 := qe BK101.out 1; have hfz26_2 := qe BK101.out 2; have hfz26_3 := qe BK101.out 3; obtain ⟨Ao27, co27, eo27⟩ := Kd.R_slice HO104.out; subst eo27) | ((with_reducible refine qp (f := 183) rfl ?_); refine qc1 (some 18) rfl rfl Try.func183 (by kernel_rfl) rfl #[.slice Ao27 t102.length co27, .string a1_1] rfl yq25 ?_; (with_reducible refine (impl_find.calls _ _ t102 a1_1 t105 false _ ?side1 ?side2 A4.out).mono ?_); (case side1 => exact yq34); (case side2 => exact (Kd.R_reads' HO104.out).2.1); rintro e w28 ⟨rfl, hb⟩; refine ⟨_, rfl, ?_⟩; replace HO104 := Qz.mk (Kd.R_below yq31 hb); replace BK101 := bkbf138 BK101 yq27 hb; replace HB := Qz.mk (ql yq26 hb); (try clear hb); (try clear hk); have hcz29_0 := (qd BK101.out 0).trans rfl; have hcz29_1 := (qd BK101.out 1).trans rfl; have hcz29_2 := (qd BK101.out 2).trans rfl; have hcz29_3 := (qd BK101.out 3).trans rfl; have hfz29_0 := qe BK101.out 0; have hfz29_1 := qe BK101.out 1; have hfz29_2 := qe BK101.out 2; have hfz29_3 := qe BK101.out 3) | ((with_reducible refine qt (N := 31) rfl ?_); refine Kd.R_lit k170 _ 170 ?hg (N := 31) ?hd (xs := ([(⟨a1_1, (⟨#[]⟩ : ByteArray)⟩ : S170)] : List (S170))) (inner := [.string a1_1, .string (⟨#[]⟩ : ByteArray)]) (ok := fun _ => True) (okp := fun _ => True) ?hr ?hp (fun _ hk => hk) trivial (Below.refl _ _) (Nat.le_refl _) (by simp) ?_; (case hd => rfl); (case hg => rfl); (case hr => exact yq39); (case hp => exact (Reps.c2 (show Kd.M k170 _ _ _ (⟨a1_1, (⟨#[]⟩ : ByteArray)⟩ : S170) [.string a1_1, .string (⟨#[]⟩ : ByteArray)] from (k170_mkM _ _ _ (⟨a1_1, (⟨#[]⟩ : ByteArray)⟩ : S170) )) (Reps.none _ _))); intro v110 w30 ho31 hb hg_ hnew_; clear hg_ hnew_; (first | rw [← Ny109.out] at ho31 | (simp only [Int.reduceToNat] at ho31; rw [← Ny109.out] at ho31)); have HO111 := Qz.mk (Kd.R_lower (Kd.R_new' ho31 (Kd.R_lt yq31)) (qo yq26)); replace HO104 := Qz.mk (Kd.R_elder' yq31 (Kd.R_base ho31) hb); replace BK101 := bkbf138 BK101 yq27 hb; replace HB := Qz.mk (ql yq26 hb); clear hb ho31; obtain ⟨Ao32, co32, eo32⟩ := Kd.R_slice HO111.out; subst eo32) | ((with_reducible refine qp (f := 184) rfl ?_); refine qc1 (some 32) rfl rfl Try.func184 (by kernel_rfl) rfl #[.slice Ao27 t102.length co27, .int .i64 t105, .slice Ao32 y109.length co32] rfl yq25 ?_; (with_reducible refine (impl_File_184.calls (fun k_ => some k_ = (.slice Ao27 t102.length co27 : Value).ownBlock) (.slice Ao27 t102.length co27) t102 t105 (fun k_ => some k_ = (.slice Ao32 y109.length co32 : Value).ownBlock) (.slice Ao32 y109.length co32) y109 t112 w _ ?side1 ?side2 ?side3 ?side4 ?side5 A19.out).mono ?_); (case side1 => exact yq26); (case side2 => exact Kd.R_tight rfl HO104.out); (case side3 => exact fun k_ e_ => (HO104.out.1 k_ e_.symm).2); (case side4 => exact Kd.R_tight rfl HO111.out); (case side5 => exact fun k_ e_ => (HO111.out.1 k_ e_.symm).2); rintro e w33 ⟨v113, rfl, ho0, hb, hkp⟩; refine ⟨_, rfl, ?_⟩; have n0_ := Qz.mk (blk_kept yq27 hkp (fun hs_ => Or.elim hs_ (fun e_ => (fun e_ => (Kd.R_ne HO104.out BK101.out (by decide)) e_) e_) (fun e_ => (fun e_ => (Kd.R_ne HO111.out BK101.out (by decide)) e_) e_))); have n1_ := Qz.mk (Kd.R_mono (ok' := fun k_ => True) ho0 (fun k_ hk_ => trivial)); have n2_ := Qz.mk (hb); clear BK101; clear HB; clear HO104; clear HO111; have BK101 := n0_; have HO114 := n1_; have HB := n2_; clear n0_ n1_ n2_; (try clear hb); (try clear hkp); (try clear ho0)))
      replace HO114 := Qz.mk (Kd.R_drew HO114.out)
      replace BK101 := Qz.mk (qk BK101.out)
      replace HB := Qz.mk (qb HB.out)
      obtain ⟨Ao35, co35, eo35⟩ := Kd.R_slice HO114.out
      (first | subst eo35 | (injection eo35 with f1_ f2_ f3_; have f4_ := f1_.symm; have f5_ := f3_.symm; clear f1_ f2_ f3_; subst f4_; subst f5_))
      have p115 : 0 ≤ (t105 : Int) := of_decide_eq_true yq29
      have q115 : t105 < (t112.length : Int) := of_decide_eq_true yq29
      obtain ⟨ad115, e115, hx115_0, hx115_1⟩ := at_T170 (Kd.R_reads' HO114.out).2.2 t105 p115 q115
      cases e115
      replace p115 := eq_true p115
      replace q115 := eq_true q115
      have p23 : 0 ≤ (t105 : Int) := of_decide_eq_true yq29
      have q23 : (t105 : Int) < ((t112.length : Int) : Int) := of_decide_eq_true yq29
      obtain ⟨go23, co23, eo23, gb23, gl23, cl23, HG23⟩ := Kd.R_form HO114.out (by omega)
      (first | cases eo23 | (injection eo23 with ea_ en_ ec_; (first | subst ea_ | (injection ea_ with ea_; subst ea_)); subst ec_; clear en_))
      have GB23 := Qz.mk gb23
      have GG23 := Qz.mk HG23
      clear gb23 gl23 HG23
      (first | simp only [add_plain] at hx115_0 | skip)
      (first | simp only [add_plain] at hx115_1 | skip)
      obtain ⟨ce23, hcl23, hM23, hcc23, hfr23⟩ := Kd.R_elem HO114.out z170 (t105 : Int) p23 q23
      obtain rfl := k170_openM hM23
      have hx23_0 : World.cell? _ ⟨go23, (t105 : Int).toNat * 2, none⟩ = some (.string ((qj t112 t105).f0)) := hcc23 0 _ rfl
      have hx23_1 : World.cell? _ ⟨go23, (t105 : Int).toNat * 2 + 1, none⟩ = some (.string ((qj t112 t105).f1)) := hcc23 1 _ rfl
      have hf23_0 : World.frozen? _ ⟨go23, (t105 : Int).toNat * 2, none⟩ = false := hfr23 0
      have hf23_1 : World.frozen? _ ⟨go23, (t105 : Int).toNat * 2 + 1, none⟩ = false := hfr23 1
      clear hcl23 hcc23 hfr23 hM23
      replace p23 := eq_true p23
      replace q23 := eq_true q23
      obtain ⟨ce36, hcl36, hM36, hcc36, hfr36⟩ := Kd.R_elem HO114.out z170 (t105 : Int) (of_decide_eq_true yq29) (by have h_ : (t105 : Int) < ((t112.length : Int) : Int) := of_decide_eq_true yq29; first | exact h_ | (have e_ := (Kd.R_reads' HO114.out).1; omega) | simpa using h_)
      obtain rfl := k170_openM hM36
      have HP36 := (Kd.R_seg HO114.out (t105 : Int) (of_decide_eq_true yq29) (by have h_ : (t105 : Int) < ((t112.length : Int) : Int) := of_decide_eq_true yq29; first | exact h_ | (have e_ := (Kd.R_reads' HO114.out).1; omega) | simpa using h_) (seg := [.string (((qj t112 t105).f1) ++ a1_3)]) (j := 1) hcl36 hcc36 (show 2 ≤ 2 from by decide) (x' := (⟨(qj t112 t105).f0, ((qj t112 t105).f1) ++ a1_3⟩ : S170)) (k170_mkM _ _ _ (⟨(qj t112 t105).f0, ((qj t112 t105).f1) ++ a1_3⟩ : S170) ) (fun _ hk => hk)).1
      rw [← Ny116.out] at HP36
      have HQ36 := Qz.mk HP36
      clear hcl36 hcc36 hfr36 hM36 HP36
      refine start_ (n := 11) (S := fun w' => w'.cell? ⟨gb101, 0, none⟩ = some (.int .i64 a1_0) ∧ w'.cell? ⟨gb101, 1, none⟩ = some (.string a1_1) ∧ w'.cell? ⟨gb101, 2, none⟩ = some (.string a1_2) ∧ w'.cell? ⟨gb101, 3, none⟩ = some (.string a1_3) ∧ w'.cell? ⟨go23, ((t105).toNat * 2), none⟩ = some (.string ((qj t112 t105).f0)) ∧ w'.cell? ⟨go23, ((t105).toNat * 2) + 1, none⟩ = some (.string ((qj t112 t105).f1))) (ds := [10]) bq0 (by kernel_rfl) rfl rfl ⟨(qd BK101.out 0).trans rfl, (qd BK101.out 1).trans rfl, (qd BK101.out 2).trans rfl, (qd BK101.out 3).trans rfl, hx115_0, hx115_1⟩ (fun hHeld => ?_); refine with_tabW impl_done.tab6 impl_done.bits6 (fun HT_ HW_ => ?_)
      generalize w33.drew = w34 at HO114 BK101 HB GG23 HQ36 hf23_0 hf23_1 hx115_0 hx115_1 hx23_0 hx23_1 hHeld ⊢
      refine pure_ (i := 0) (N := some 33) (v := ?_) (a' := ?_) bq3 rfl rfl (qw HT_.out (by kernel_rfl)) (fun _ _ _ h => h) (Or.inl ⟨by rfl, ?_⟩) ?_ ?_
      rotate_left
      ·intro w'
       go_simp
       with_reducible rfl
      rotate_left
      ·simp only [Act.put, sq1, sq2, sq3, i64_w, i32_w]
       rfl
      refine pure_ (i := 1) (N := some 34) (v := ?_) (a' := ?_) bq6 rfl rfl (qw HT_.out (by kernel_rfl)) (fun _ _ _ h => h) (Or.inl ⟨by rfl, ?_⟩) ?_ ?_
      rotate_left
      ·intro w'
       go_simp
       with_reducible rfl
      rotate_left
      ·simp only [Act.put, sq1, sq2, sq3, i64_w, i32_w]
       rfl
      refine pure_ (i := 2) (N := some 35) (v := ?_) (a' := ?_) bq9 rfl rfl (qw HT_.out (by kernel_rfl)) (fun _ _ _ h => h) (Or.inl ⟨by rfl, ?_⟩) ?_ ?_
      rotate_left
      ·intro w'
       go_simp
       with_reducible rfl
      rotate_left
      ·simp only [Act.put, sq1, sq2, sq3, i64_w, i32_w]
       rfl
      refine pure_ (i := 3) (N := some 36) (v := ?_) (a' := ?_) bq15 rfl rfl (qw HT_.out (by kernel_rfl)) (fun _ _ _ h => h) (Or.inl ⟨by rfl, ?_⟩) ?_ ?_
      rotate_left
      ·intro w'
       go_simp
       with_reducible rfl
      rotate_left
      ·simp only [Act.put, sq1, sq2, sq3, i64_w, i32_w]
       rfl
      refine pure_ (i := 5) (N := some 38) (v := ?_) (a' := ?_) bq17 rfl rfl (qw HT_.out (by kernel_rfl)) (fun _ _ _ h => h) (Or.inl ⟨by rfl, ?_⟩) ?_ ?_
      rotate_left
      ·intro w'
       go_simp
       with_reducible rfl
      rotate_left
      ·simp only [Act.put, sq1, sq2, sq3, i64_w, i32_w]
       rfl
      refine take_ (i := 4) (N := some 37) (v := ?_) (a' := ?_) bq19 rfl rfl (take_ofW HT_.out HW_.out (by kernel_rfl)) (fun _ _ _ h => h) (Or.inl ⟨by rfl, ?_⟩) hHeld ?_ ?_
      rotate_left
      ·rintro w' ⟨s0, s1, s2, s3, s4, s5⟩
       go_simp
       with_reducible rfl
      rotate_left
      ·simp only [Act.put, sq1, sq2, sq3, i64_w, i32_w]
       rfl
      refine take_ (i := 6) (N := some 39) (v := ?_) (a' := ?_) bq21 rfl rfl (take_ofW HT_.out HW_.out (by kernel_rfl)) (fun _ _ _ h => h) (Or.inl ⟨by rfl, ?_⟩) hHeld ?_ ?_
      rotate_left
      ·rintro w' ⟨s0, s1, s2, s3, s4, s5⟩
       go_simp
       with_reducible rfl
      rotate_left
      ·simp only [Act.put, sq1, sq2, sq3, i64_w, i32_w]
       rfl
      refine pure_ (i := 7) (N := some 40) (v := ?_) (a' := ?_) bq24 rfl rfl (qw HT_.out (by kernel_rfl)) (fun _ _ _ h => h) (Or.inl ⟨by rfl, ?_⟩) ?_ ?_
      rotate_left
      ·intro w'
       go_simp
       with_reducible rfl
      rotate_left
      ·simp only [Act.put, sq1, sq2, sq3, i64_w, i32_w]
       rfl
      refine pure_ (i := 8) (N := some 41) (v := ?_) (a' := ?_) bq26 rfl rfl (qw HT_.out (by kernel_rfl)) (fun _ _ _ h => h) (Or.inl ⟨by rfl, ?_⟩) ?_ ?_
      rotate_left
      ·intro w'
       go_simp
       with_reducible rfl
      rotate_left
      ·simp only [Act.put, sq1, sq2, sq3, i64_w, i32_w]
       rfl
      refine pure_ (i := 9) (N := some 42) (v := ?_) (a' := ?_) bq28 rfl rfl (qw HT_.out (by kernel_rfl)) (fun _ _ _ h => h) (Or.inl ⟨by rfl, ?_⟩) ?_ ?_
      rotate_left
      ·intro w'
       go_simp
       with_reducible rfl
      rotate_left
      ·simp only [Act.put, sq1, sq2, sq3, i64_w, i32_w]
       rfl
      refine last_ (i := 10) (N := none) bq29 rfl rfl (one_of HT_.out (by kernel_rfl)) (by decide) (fun K hK => ?_)
      refine skip_ (w1 := ?_) (by rfl) rfl ?_ ?_
      rotate_left
      ·go_simp
       rfl
      refine hK.out _ _ ?_
      clear hK K
      refine done_ (done_of HT_.out (by kernel_rfl)) ?_
      try go_wp2
      go_ret2
      exact ⟨_, by first | rfl | (simp [qn, qm] <;> rfl) | (simp [*, qn, qm] <;> rfl), by (with_reducible repeat (first | apply Kd.R_alloc | apply Kd.R_drewN | apply Kd.R_drew)); exact HQ36.out, by repeat (first | (with_reducible first | exact HB.out | apply qc | apply qa | apply qb | refine qf ?_ GB23.out | refine qf ?_ GE101.out) | exact HB.out)⟩
     ·rw [if_neg c22] at H
      exact absurd H (by simp)
    ·rw [if_neg c21] at H
     exact absurd H (by simp)
   ·rw [if_neg c20] at H
    exact absurd H (by simp)
 ·rw [if_neg c5] at H
  have c5b0 : (a1_0 == 1) = false := beq_eq_false_iff_ne.mpr c5
  have c5b1 : (a1_0 != 1) = true := bne_iff_ne.mpr c5
  by_cases c37 : t106 = true
  ·subst c37
   have H1 : (if 0 ≤ t105 then (if t105 < (t102.length : Int) then ((impl_File_185.f t102 t105 (wrap64 (t105 + 1))).bind fun t119 => (if a1_0 = 2 then ((impl_find.f t119 a1_2).bind fun bt122 => (if bt122.2 = true then (if 0 ≤ bt122.1 then (if bt122.1 < (t119.length : Int) then (some ((t119.set (bt122.1 : Int).toNat (⟨a1_2, (qj t102 t105).f1⟩ : S170)), true)) else (none)) else (none)) else ((impl_File_184.f t119 bt122.1 (([(⟨a1_2, (qj t102 t105).f1⟩ : S170)] : List (S170)))).bind fun t128 => (some (t128, true))))) else (some (t119, true)))) else (none)) else (none)) = some (r1, r2) := by rw [if_pos rfl] at H; exact H
   clear H
   have H := H1
   clear H1
   by_cases c38 : 0 ≤ t105
   ·rw [if_pos c38] at H
    have c38b0 : decide (0 ≤ t105) = true := decide_eq_true c38
    clear c38
    by_cases c39 : t105 < (t102.length : Int)
    ·rw [if_pos c39] at H
     have c39b0 : decide (t105 < (t102.length : Int)) = true := decide_eq_true c39
     clear c39
     replace H := Option.bind_eq_some_iff.mp H
     obtain ⟨t119, A400, H⟩ := H
     replace H : (if a1_0 = 2 then ((impl_find.f t119 a1_2).bind fun bt122 => (if bt122.2 = true then (if 0 ≤ bt122.1 then (if bt122.1 < (t119.length : Int) then (some ((t119.set (bt122.1 : Int).toNat (⟨a1_2, (qj t102 t105).f1⟩ : S170)), true)) else (none)) else (none)) else ((impl_File_184.f t119 bt122.1 (([(⟨a1_2, (qj t102 t105).f1⟩ : S170)] : List (S170)))).bind fun t128 => (some (t128, true))))) else (some (t119, true))) = some (r1, r2) := H
     have A40 := Qz.mk A400
     clear A400
     by_cases c41 : a1_0 = 2
     ·rw [if_pos c41] at H
      have c41b0 : (a1_0 == 2) = true := beq_iff_eq.mpr c41
      have c41b1 : (a1_0 != 2) = false := bne_eq_false_iff_eq.mpr c41
      clear c41
      replace H := Option.bind_eq_some_iff.mp H
      obtain ⟨⟨t122, t123⟩, A420, H⟩ := H
      replace H : (if t123 = true then (if 0 ≤ t122 then (if t122 < (t119.length : Int) then (some ((t119.set (t122 : Int).toNat (⟨a1_2, (qj t102 t105).f1⟩ : S170)), true)) else (none)) else (none)) else ((impl_File_184.f t119 t122 (([(⟨a1_2, (qj t102 t105).f1⟩ : S170)] : List (S170)))).bind fun t128 => (some (t128, true)))) = some (r1, r2) := H
      have A42 := Qz.mk A420
      clear A420
      by_cases c43 : t123 = true
      ·subst c43
       have H1 : (if 0 ≤ t122 then (if t122 < (t119.length : Int) then (some ((t119.set (t122 : Int).toNat (⟨a1_2, (qj t102 t105).f1⟩ : S170)), true)) else (none)) else (none)) = some (r1, r2) := by rw [if_pos rfl] at H; exact H
       clear H
       have H := H1
       clear H1
       by_cases c44 : 0 ≤ t122
       ·rw [if_pos c44] at H
        have c44b0 : decide (0 ≤ t122) = true := decide_eq_true c44
        clear c44
        by_cases c45 : t122 < (t119.length : Int)
        ·rw [if_pos c45] at H
         have c45b0 : decide (t122 < (t119.length : Int)) = true := decide_eq_true c45
         clear c45
         obtain ⟨y124, hy124⟩ : ∃ y_ : List (S170), y_ = (t119.set (t122 : Int).toNat (⟨a1_2, (qj t102 t105).f1⟩ : S170)) := ⟨_, rfl⟩
         replace H : (some (y124, true)) = some (r1, r2) := by first | (rw [hy124]; with_reducible exact H) | (have H2_ := (Option.bind_some _ _).symm.trans H; rw [hy124]; with_reducible exact H2_) | (have H2_ := (Option.bind_some _ _).symm.trans H; with_reducible exact H2_) | with_reducible exact H | (rw [hy124]; exact H) | exact H
         have Ny124 := Qz.mk hy124
         clear hy124
         simp only [Option.some.injEq, Prod.mk.injEq] at H
         obtain ⟨rfl, rfl⟩ := H
         go_enter Try.func138, Try.ntmps138
         go_wp2_with (first | ((with_reducible refine qt (N := 3) rfl ?_); refine qr ?hg (N := 3) ?hd (cs := #[.int .i64 a1_0, .string a1_1, .string a1_2, .string a1_3]) (t := 157) ?hr ?_; (case hd => rfl); (case hg => rfl); (case hr => exact yq39); intro gb101 hg w47 hbox hb; have BK101 := Qz.mk (hbox); have GW101 := Qz.mk ((by rw [hg]; exact (qo yq30) : w.heap.size ≤ gb101)); have GE101 := GW101; replace HB := Qz.mk (ql yq30 hb); clear hb hbox hg) | ((with_reducible refine qp (f := 179) rfl ?_); refine qc1 (some 13) rfl rfl Try.func179 (by kernel_rfl) rfl #[.slice A0 l0.length c0] rfl yq25 ?_; (with_reducible refine (impl_File_179.calls _ _ l0 t102 _ ?side1 ?side2 A3.out).mono ?_); (case side1 => exact yq35); (case side2 => exact HC0.out); rintro e w48 ⟨v103, rfl, ho0, hb⟩; refine ⟨_, rfl, ?_⟩; have HO104 := Qz.mk (Kd.R_lower ho0 (qo yq26)); replace BK101 := bkbf138 BK101 yq27 hb; replace HB := Qz.mk (ql yq26 hb); (try clear hb); (try clear hk); (try clear ho0); have hcz49_0 := (qd BK101.out 0).trans rfl; have hcz49_1 := (qd BK101.out 1).trans rfl; have hcz49_2 := (qd BK101.out 2).trans rfl; have hcz49_3 := (qd BK101.out 3).trans rfl; have hfz49_0 := qe BK101.out 0; have hfz49_1 := qe BK101.out 1; have hfz49_2 := qe BK101.out 2; have hfz49_3 := qe BK101.out 3; obtain ⟨Ao50, co50, eo50⟩ := Kd.R_slice HO104.out; subst eo50) | ((with_reducible refine qp (f := 183) rfl ?_); refine qc1 (some 18) rfl rfl Try.func183 (by kernel_rfl) rfl #[.slice Ao50 t102.length co50, .string a1_1] rfl yq25 ?_; (with_reducible refine (impl_find.calls _ _ t102 a1_1 t105 true _ ?side1 ?side2 A4.out).mono ?_); (case side1 => exact yq34); (case side2 => exact (Kd.R_reads' HO104.out).2.1); rintro e w51 ⟨rfl, hb⟩; refine ⟨_, rfl, ?_⟩; replace HO104 := Qz.mk (Kd.R_below yq31 hb); replace BK101 := bkbf138 BK101 yq27 hb; replace HB := Qz.mk (ql yq26 hb); (try clear hb); (try clear hk); have hcz52_0 := (qd BK101.out 0).trans rfl; have hcz52_1 := (qd BK101.out 1).trans rfl; have hcz52_2 := (qd BK101.out 2).trans rfl; have hcz52_3 := (qd BK101.out 3).trans rfl; have hfz52_0 := qe BK101.out 0; have hfz52_1 := qe BK101.out 1; have hfz52_2 := qe BK101.out 2; have hfz52_3 := qe BK101.out 3; have p117 : 0 ≤ (t105 : Int) := of_decide_eq_true yq29; have q117 : t105 < (t102.length : Int) := of_decide_eq_true yq29; obtain ⟨ad117, e117, hx117_0, hx117_1⟩ := at_T170 (Kd.R_reads' HO104.out).2.2 t105 p117 q117; cases e117; replace p117 := eq_true p117; replace q117 := eq_true q117) | ((with_reducible refine qt (N := 9) rfl ?_); refine qr ?hg (N := 9) ?hd (cs := #[.string (⟨#[]⟩ : ByteArray), .string (⟨#[]⟩ : ByteArray)]) (t := 170) ?hr ?_; (case hd => rfl); (case hg => rfl); (case hr => exact yq39); intro gb118 hg w53 hbox hb; replace HO104 := Qz.mk (Kd.R_below (Kd.R_elderB yq31 gb118 (Nat.le_of_eq hg.symm)) hb); have BK118 := Qz.mk (hbox); have GW118 := Qz.mk ((by rw [hg]; exact (qo yq26) : w.heap.size ≤ gb118)); have GE118 := GW118; replace HB := Qz.mk (ql yq26 hb); have NB101_118 := Qz.mk ((yq40 : gb101 ≠ gb118)); have NB118_101 := Qz.mk ((yq41 : gb118 ≠ gb101)); replace BK101 := bkbf138 BK101 yq27 hb; clear hb hbox hg; have hnb54 := NB118_101.out; have hnc54 := NB101_118.out; have hcz55_0 := (qd BK118.out 0).trans rfl; have hcz55_1 := (qd BK118.out 1).trans rfl; have hfz55_0 := qe BK118.out 0; have hfz55_1 := qe BK118.out 1) | ((with_reducible refine gate_store (t := 170) (p := 9) rfl ?_); refine store_event (t := 170) (p := 9) (v := ?vo_w56) (w1 := ((w53.setCell ⟨gb118, 0, none⟩ (.string ((qj t102 t105).f0))).setCell ⟨gb118, 1, none⟩ (.string ((qj t102 t105).f1)))) ?hg ?ho ?hn ?hr ?_; (case ho => rfl); (case hg => rfl); (case hn => rfl); (case hr => exact yq39); intro w56 hw; have n0_ : Qz (Kd.R k170 170 w56 w.heap.size (fun k_ => k_ ≠ gb118) (.slice (some ad117) t102.length co50) t102) := ⟨yq37⟩; have n1_ : Qz (w56.heap[gb101]? = some (.cells #[.int .i64 a1_0, .string a1_1, .string a1_2, .string a1_3] 157 (0, 0))) := ⟨yq38⟩; have n2_ : Qz (w56.heap[gb118]? = some (.cells #[.string ((qj t102 t105).f0), .string ((qj t102 t105).f1)] 170 (0, 0))) := ⟨yq33⟩; have n3_ : Qz (Below w.heap.size w w56) := ⟨(by rw [hw]; exact yq28)⟩; clear hw; clear HO104; clear BK101; clear BK118; clear HB; have HO104 := n0_; have BK101 := n1_; have BK118 := n2_; have HB := n3_; clear n0_ n1_ n2_ n3_) | ((with_reducible refine qp (f := 185) rfl ?_); refine qc1 (some 55) rfl rfl Try.func185 (by kernel_rfl) rfl #[.slice (some ad117) t102.length co50, .int .i64 t105, .int .i64 (wrap64 (t105 + 1))] rfl yq25 ?_; (with_reducible refine (impl_File_185.calls (fun k_ => some k_ = (.slice (some ad117) t102.length co50 : Value).ownBlock) (.slice (some ad117) t102.length co50) t102 t105 (wrap64 (t105 + 1)) t119 w _ ?side1 ?side2 A40.out).mono ?_); (case side1 => exact yq28); (case side2 => exact Kd.R_tight rfl HO104.out); rintro e w57 ⟨v120, rfl, ho0, hb, hkp⟩; refine ⟨_, rfl, ?_⟩; have n0_ := Qz.mk (blk_kept yq27 hkp (fun hs_ => (fun e_ => (Kd.R_ne HO104.out BK101.out (by decide)) e_) hs_)); have n1_ := Qz.mk (blk_kept yq32 hkp (fun hs_ => (fun e_ => (Kd.R_away HO104.out (fun _ hk => hk)) e_) hs_)); have n2_ := Qz.mk (Kd.R_mono (ok' := fun k_ => k_ ≠ gb118) ho0 (fun k_ hk_ => Or.elim hk_ (fun hs_ => fun e_ => (Kd.R_away HO104.out (fun _ hk => hk)) (by rw [← e_]; exact hs_)) (fun hn_ => (Kd.freshB (g := gb118) (o := .cells #[.string ((qj t102 t105).f0), .string ((qj t102 t105).f1)] 170 (0, 0)) yq32 k_ hn_)))); have n3_ := Qz.mk (hb); clear BK101; clear BK118; clear HB; clear HO104; have BK101 := n0_; have BK118 := n1_; have HO121 := n2_; have HB := n3_; clear n0_ n1_ n2_ n3_; (try clear hb); (try clear hkp); (try clear ho0); have hcz58_0 := (qd BK101.out 0).trans rfl; have hcz58_1 := (qd BK101.out 1).trans rfl; have hcz58_2 := (qd BK101.out 2).trans rfl; have hcz58_3 := (qd BK101.out 3).trans rfl; have hfz58_0 := qe BK101.out 0; have hfz58_1 := qe BK101.out 1; have hfz58_2 := qe BK101.out 2; have hfz58_3 := qe BK101.out 3; have hcz59_0 : w57.cell? ⟨gb118, 0, none⟩ = some (.string ((qj t102 t105).f0)) := (qd BK118.out 0).trans rfl; have hcz59_1 : w57.cell? ⟨gb118, 1, none⟩ = some (.string ((qj t102 t105).f1)) := (qd BK118.out 1).trans rfl; have hfz59_0 := qe BK118.out 0; have hfz59_1 := qe BK118.out 1; obtain ⟨Ao60, co60, eo60⟩ := Kd.R_slice HO121.out; subst eo60) | ((with_reducible refine qp (f := 183) rfl ?_); refine qc1 (some 66) rfl rfl Try.func183 (by kernel_rfl) rfl #[.slice Ao60 t119.length co60, .string a1_2] rfl yq25 ?_; (with_reducible refine (impl_find.calls _ _ t119 a1_2 t122 true _ ?side1 ?side2 A42.out).mono ?_); (case side1 => refine (Kd.R_reads' (e := 170) (base := w.heap.size) (ok := fun k_ => k_ ≠ gb118) (n := t119.length) (c := co60) ?_).2.2; exact yq36); (case side2 => exact (Kd.R_reads' HO121.out).2.1); rintro e w61 ⟨rfl, hb⟩; refine ⟨_, rfl, ?_⟩; replace HO121 := Qz.mk (Kd.R_below yq36 hb); replace BK101 := Qz.mk (qq (g := gb101) (o := .cells #[.int .i64 a1_0, .string a1_1, .string a1_2, .string a1_3] 157 (0, 0)) yq43 hb); replace BK118 := Qz.mk (qq (g := gb118) (o := .cells #[.string a1_2, .string ((qj t102 t105).f1)] 170 (0, 0)) yq42 hb); replace HB := Qz.mk (ql yq28 hb); (try clear hb); (try clear hk); have hcz62_0 := (qd BK118.out 0).trans rfl; have hcz62_1 : w61.cell? ⟨gb118, 1, none⟩ = some (.string ((qj t102 t105).f1)) := (qd BK118.out 1).trans rfl; have hfz62_0 := qe BK118.out 0; have hfz62_1 := qe BK118.out 1; have p46 : 0 ≤ (t122 : Int) := of_decide_eq_true yq29; have q46 : (t122 : Int) < ((t119.length : Int) : Int) := of_decide_eq_true yq29; obtain ⟨go46, co46, eo46, gb46, gl46, cl46, HG46⟩ := Kd.R_form HO121.out (by omega); (first | cases eo46 | (injection eo46 with ea_ en_ ec_; (first | subst ea_ | (injection ea_ with ea_; subst ea_)); subst ec_; clear en_)); have GB46 := Qz.mk gb46; have GG46 := Qz.mk HG46; clear gb46 gl46 HG46; obtain ⟨ce46, hcl46, hM46, hcc46, hfr46⟩ := Kd.R_elem HO121.out z170 (t122 : Int) p46 q46; obtain rfl := k170_openM hM46; have hx46_0 : w61.cell? ⟨go46, (t122 : Int).toNat * 2, none⟩ = some (.string ((qj t119 t122).f0)) := hcc46 0 _ rfl; have hx46_1 : w61.cell? ⟨go46, (t122 : Int).toNat * 2 + 1, none⟩ = some (.string ((qj t119 t122).f1)) := hcc46 1 _ rfl; have hf46_0 : w61.frozen? ⟨go46, (t122 : Int).toNat * 2, none⟩ = false := hfr46 0; have hf46_1 : w61.frozen? ⟨go46, (t122 : Int).toNat * 2 + 1, none⟩ = false := hfr46 1; clear hcl46 hcc46 hfr46 hM46; replace p46 := eq_true p46; replace q46 := eq_true q46; have HX63 := Qz.mk (show Kd.R k170 170 w61 w.heap.size (fun k_ => k_ ≠ gb118) (.slice (some ⟨go46, 0, none⟩) t119.length co60) t119 from (by (with_reducible repeat (first | apply Kd.R_alloc | apply Kd.R_drewN | apply Kd.R_drew)); exact HO121.out)); obtain ⟨ce63, hcl63, hM63, hcc63, hfr63⟩ := Kd.R_elem HX63.out z170 (t122 : Int) (of_decide_eq_true yq29) (by have h_ : (t122 : Int) < ((t119.length : Int) : Int) := of_decide_eq_true yq29; first | exact h_ | (have e_ := (Kd.R_reads' HO121.out).1; omega) | simpa using h_); obtain rfl := k170_openM hM63; have HP63 := Kd.R_seg HX63.out (t122 : Int) (of_decide_eq_true yq29) (by have h_ : (t122 : Int) < ((t119.length : Int) : Int) := of_decide_eq_true yq29; first | exact h_ | (have e_ := (Kd.R_reads' HO121.out).1; omega) | simpa using h_) (seg := [.string a1_2, .string ((qj t102 t105).f1)]) (j := 0) hcl63 hcc63 (show 2 ≤ 2 from by decide) (x' := (⟨a1_2, (qj t102 t105).f1⟩ : S170)) (k170_mkM _ _ _ (⟨a1_2, (qj t102 t105).f1⟩ : S170) ) (fun _ hk => hk); have hx63_0 := hcc63 0 _ rfl; (try simp only [show (k170).sz = 2 from rfl, Nat.mul_one, Nat.add_zero] at hx63_0); have hf63_0 := hfr63 0; (try simp only [show (k170).sz = 2 from rfl, Nat.mul_one, Nat.add_zero] at hf63_0); have hx63_1 := hcc63 1 _ rfl; (try simp only [show (k170).sz = 2 from rfl, Nat.mul_one, Nat.add_zero] at hx63_1); have hf63_1 := hfr63 1; (try simp only [show (k170).sz = 2 from rfl, Nat.mul_one, Nat.add_zero] at hf63_1); clear hcl63 hcc63 hfr63 hM63) | ((with_reducible refine gate_store (t := 170) (p := 73) rfl ?_); refine store_event (t := 170) (p := 73) (v := ?vo_w64) (w1 := ((w61.setCell ⟨go46, (t122 : Int).toNat * 2, none⟩ (.string a1_2)).setCell ⟨go46, (t122 : Int).toNat * 2 + 1, none⟩ (.string ((qj t102 t105).f1)))) ?hg ?ho ?hn ?hr ?_; (case ho => rfl); (case hg => rfl); (case hn => rfl); (case hr => exact yq39); intro w64 hw; have hg : w61.grownBy w64 (some go46) := (by rw [hw]; exact HP63.2); have hp_ : Kd.R k170 170 w64 w.heap.size (fun k_ => k_ ≠ gb118) (.slice (some ⟨go46, 0, none⟩) t119.length co60) y124 := (by rw [hw, Ny124.out]; exact HP63.1); clear HP63; replace BK101 := Qz.mk (blk_grown (g := gb101) (o := .cells #[.int .i64 a1_0, .string a1_1, .string a1_2, .string a1_3] 157 (0, 0)) yq27 hg (Kd.R_ne HO121.out BK101.out (by decide))); replace BK118 := Qz.mk (blk_grown (g := gb118) (o := .cells #[.string a1_2, .string ((qj t102 t105).f1)] 170 (0, 0)) yq32 hg (Kd.R_away HO121.out (fun _ hk => hk))); replace HO121 := Qz.mk (hp_); replace HB := Qz.mk ((by rw [hw]; exact qf (qf (HB.out) GB46.out) GB46.out : Below w.heap.size w w64)); clear hg hw hp_))
         go_ret2
         exact ⟨_, by first | rfl | (simp [qn, qm] <;> rfl) | (simp [*, qn, qm] <;> rfl), by (with_reducible repeat (first | apply Kd.R_alloc | apply Kd.R_drewN | apply Kd.R_drew)); exact Kd.R_mono HO121.out (fun _ hk => trivial), by repeat (first | (with_reducible first | exact HB.out | apply qc | apply qa | apply qb | refine qf ?_ GE101.out | refine qf ?_ GE118.out) | exact HB.out)⟩
        ·rw [if_neg c45] at H
         exact absurd H (by simp)
       ·rw [if_neg c44] at H
        exact absurd H (by simp)
      ·replace c43 := Bool.eq_false_iff.mpr c43
       subst c43
       have H1 : ((impl_File_184.f t119 t122 (([(⟨a1_2, (qj t102 t105).f1⟩ : S170)] : List (S170)))).bind fun t128 => (some (t128, true))) = some (r1, r2) := by rw [if_neg (show ¬ (false = true) by decide)] at H; exact H
       clear H
       have H := H1
       clear H1
       obtain ⟨y125, hy125⟩ : ∃ y_ : List (S170), y_ = (([(⟨a1_2, (qj t102 t105).f1⟩ : S170)] : List (S170))) := ⟨_, rfl⟩
       replace H : ((impl_File_184.f t119 t122 y125).bind fun t128 => (some (t128, true))) = some (r1, r2) := by first | (rw [hy125]; with_reducible exact H) | (have H2_ := (Option.bind_some _ _).symm.trans H; rw [hy125]; with_reducible exact H2_) | (have H2_ := (Option.bind_some _ _).symm.trans H; with_reducible exact H2_) | with_reducible exact H | (rw [hy125]; exact H) | exact H
       have Ny125 := Qz.mk hy125
       clear hy125
       replace H := Option.bind_eq_some_iff.mp H
       obtain ⟨t128, A650, H⟩ := H
       replace H : (some (t128, true)) = some (r1, r2) := H
       have A65 := Qz.mk A650
       clear A650
       simp only [Option.some.injEq, Prod.mk.injEq] at H
       obtain ⟨rfl, rfl⟩ := H
       go_enter Try.func138, Try.ntmps138
       go_wp2_with (first | ((with_reducible refine qt (N := 3) rfl ?_); refine qr ?hg (N := 3) ?hd (cs := #[.int .i64 a1_0, .string a1_1, .string a1_2, .string a1_3]) (t := 157) ?hr ?_; (case hd => rfl); (case hg => rfl); (case hr => exact yq39); intro gb101 hg w66 hbox hb; have BK101 := Qz.mk (hbox); have GW101 := Qz.mk ((by rw [hg]; exact (qo yq30) : w.heap.size ≤ gb101)); have GE101 := GW101; replace HB := Qz.mk (ql yq30 hb); clear hb hbox hg) | ((with_reducible refine qp (f := 179) rfl ?_); refine qc1 (some 13) rfl rfl Try.func179 (by kernel_rfl) rfl #[.slice A0 l0.length c0] rfl yq25 ?_; (with_reducible refine (impl_File_179.calls _ _ l0 t102 _ ?side1 ?side2 A3.out).mono ?_); (case side1 => exact yq35); (case side2 => exact HC0.out); rintro e w67 ⟨v103, rfl, ho0, hb⟩; refine ⟨_, rfl, ?_⟩; have HO104 := Qz.mk (Kd.R_lower ho0 (qo yq26)); replace BK101 := bkbf138 BK101 yq27 hb; replace HB := Qz.mk (ql yq26 hb); (try clear hb); (try clear hk); (try clear ho0); have hcz68_0 := (qd BK101.out 0).trans rfl; have hcz68_1 := (qd BK101.out 1).trans rfl; have hcz68_2 := (qd BK101.out 2).trans rfl; have hcz68_3 := (qd BK101.out 3).trans rfl; have hfz68_0 := qe BK101.out 0; have hfz68_1 := qe BK101.out 1; have hfz68_2 := qe BK101.out 2; have hfz68_3 := qe BK101.out 3; obtain ⟨Ao69, co69, eo69⟩ := Kd.R_slice HO104.out; subst eo69) | ((with_reducible refine qp (f := 183) rfl ?_); refine qc1 (some 18) rfl rfl Try.func183 (by kernel_rfl) rfl #[.slice Ao69 t102.length co69, .string a1_1] rfl yq25 ?_; (with_reducible refine (impl_find.calls _ _ t102 a1_1 t105 true _ ?side1 ?side2 A4.out).mono ?_); (case side1 => exact yq34); (case side2 => exact (Kd.R_reads' HO104.out).2.1); rintro e w70 ⟨rfl, hb⟩; refine ⟨_, rfl, ?_⟩; replace HO104 := Qz.mk (Kd.R_below yq31 hb); replace BK101 := bkbf138 BK101 yq27 hb; replace HB := Qz.mk (ql yq26 hb); (try clear hb); (try clear hk); have hcz71_0 := (qd BK101.out 0).trans rfl; have hcz71_1 := (qd BK101.out 1).trans rfl; have hcz71_2 := (qd BK101.out 2).trans rfl; have hcz71_3 := (qd BK101.out 3).trans rfl; have hfz71_0 := qe BK101.out 0; have hfz71_1 := qe BK101.out 1; have hfz71_2 := qe BK101.out 2; have hfz71_3 := qe BK101.out 3; have p117 : 0 ≤ (t105 : Int) := of_decide_eq_true yq29; have q117 : t105 < (t102.length : Int) := of_decide_eq_true yq29; obtain ⟨ad117, e117, hx117_0, hx117_1⟩ := at_T170 (Kd.R_reads' HO104.out).2.2 t105 p117 q117; cases e117; replace p117 := eq_true p117; replace q117 := eq_true q117) | ((with_reducible refine qt (N := 9) rfl ?_); refine qr ?hg (N := 9) ?hd (cs := #[.string (⟨#[]⟩ : ByteArray), .string (⟨#[]⟩ : ByteArray)]) (t := 170) ?hr ?_; (case hd => rfl); (case hg => rfl); (case hr => exact yq39); intro gb118 hg w72 hbox hb; replace HO104 := Qz.mk (Kd.R_below (Kd.R_elderB yq31 gb118 (Nat.le_of_eq hg.symm)) hb); have BK118 := Qz.mk (hbox); have GW118 := Qz.mk ((by rw [hg]; exact (qo yq26) : w.heap.size ≤ gb118)); have GE118 := GW118; replace HB := Qz.mk (ql yq26 hb); have NB101_118 := Qz.mk ((yq40 : gb101 ≠ gb118)); have NB118_101 := Qz.mk ((yq41 : gb118 ≠ gb101)); replace BK101 := bkbf138 BK101 yq27 hb; clear hb hbox hg; have hnb73 := NB118_101.out; have hnc73 := NB101_118.out; have hcz74_0 := (qd BK118.out 0).trans rfl; have hcz74_1 := (qd BK118.out 1).trans rfl; have hfz74_0 := qe BK118.out 0; have hfz74_1 := qe BK118.out 1) | ((with_reducible refine gate_store (t := 170) (p := 9) rfl ?_); refine store_event (t := 170) (p := 9) (v := ?vo_w75) (w1 := ((w72.setCell ⟨gb118, 0, none⟩ (.string ((qj t102 t105).f0))).setCell ⟨gb118, 1, none⟩ (.string ((qj t102 t105).f1)))) ?hg ?ho ?hn ?hr ?_; (case ho => rfl); (case hg => rfl); (case hn => rfl); (case hr => exact yq39); intro w75 hw; have n0_ : Qz (Kd.R k170 170 w75 w.heap.size (fun k_ => k_ ≠ gb118) (.slice (some ad117) t102.length co69) t102) := ⟨yq37⟩; have n1_ : Qz (w75.heap[gb101]? = some (.cells #[.int .i64 a1_0, .string a1_1, .string a1_2, .string a1_3] 157 (0, 0))) := ⟨yq38⟩; have n2_ : Qz (w75.heap[gb118]? = some (.cells #[.string ((qj t102 t105).f0), .string ((qj t102 t105).f1)] 170 (0, 0))) := ⟨yq33⟩; have n3_ : Qz (Below w.heap.size w w75) := ⟨(by rw [hw]; exact yq28)⟩; clear hw; clear HO104; clear BK101; clear BK118; clear HB; have HO104 := n0_; have BK101 := n1_; have BK118 := n2_; have HB := n3_; clear n0_ n1_ n2_ n3_) | ((with_reducible refine qp (f := 185) rfl ?_); refine qc1 (some 55) rfl rfl Try.func185 (by kernel_rfl) rfl #[.slice (some ad117) t102.length co69, .int .i64 t105, .int .i64 (wrap64 (t105 + 1))] rfl yq25 ?_; (with_reducible refine (impl_File_185.calls (fun k_ => some k_ = (.slice (some ad117) t102.length co69 : Value).ownBlock) (.slice (some ad117) t102.length co69) t102 t105 (wrap64 (t105 + 1)) t119 w _ ?side1 ?side2 A40.out).mono ?_); (case side1 => exact yq28); (case side2 => exact Kd.R_tight rfl HO104.out); rintro e w76 ⟨v120, rfl, ho0, hb, hkp⟩; refine ⟨_, rfl, ?_⟩; have n0_ := Qz.mk (blk_kept yq27 hkp (fun hs_ => (fun e_ => (Kd.R_ne HO104.out BK101.out (by decide)) e_) hs_)); have n1_ := Qz.mk (blk_kept yq32 hkp (fun hs_ => (fun e_ => (Kd.R_away HO104.out (fun _ hk => hk)) e_) hs_)); have n2_ := Qz.mk (Kd.R_mono (ok' := fun k_ => k_ ≠ gb118) ho0 (fun k_ hk_ => Or.elim hk_ (fun hs_ => fun e_ => (Kd.R_away HO104.out (fun _ hk => hk)) (by rw [← e_]; exact hs_)) (fun hn_ => (Kd.freshB (g := gb118) (o := .cells #[.string ((qj t102 t105).f0), .string ((qj t102 t105).f1)] 170 (0, 0)) yq32 k_ hn_)))); have n3_ := Qz.mk (hb); clear BK101; clear BK118; clear HB; clear HO104; have BK101 := n0_; have BK118 := n1_; have HO121 := n2_; have HB := n3_; clear n0_ n1_ n2_ n3_; (try clear hb); (try clear hkp); (try clear ho0); have hcz77_0 := (qd BK101.out 0).trans rfl; have hcz77_1 := (qd BK101.out 1).trans rfl; have hcz77_2 := (qd BK101.out 2).trans rfl; have hcz77_3 := (qd BK101.out 3).trans rfl; have hfz77_0 := qe BK101.out 0; have hfz77_1 := qe BK101.out 1; have hfz77_2 := qe BK101.out 2; have hfz77_3 := qe BK101.out 3; have hcz78_0 : w76.cell? ⟨gb118, 0, none⟩ = some (.string ((qj t102 t105).f0)) := (qd BK118.out 0).trans rfl; have hcz78_1 : w76.cell? ⟨gb118, 1, none⟩ = some (.string ((qj t102 t105).f1)) := (qd BK118.out 1).trans rfl; have hfz78_0 := qe BK118.out 0; have hfz78_1 := qe BK118.out 1; obtain ⟨Ao79, co79, eo79⟩ := Kd.R_slice HO121.out; subst eo79) | ((with_reducible refine qp (f := 183) rfl ?_); refine qc1 (some 66) rfl rfl Try.func183 (by kernel_rfl) rfl #[.slice Ao79 t119.length co79, .string a1_2] rfl yq25 ?_; (with_reducible refine (impl_find.calls _ _ t119 a1_2 t122 false _ ?side1 ?side2 A42.out).mono ?_); (case side1 => refine (Kd.R_reads' (e := 170) (base := w.heap.size) (ok := fun k_ => k_ ≠ gb118) (n := t119.length) (c := co79) ?_).2.2; exact yq36); (case side2 => exact (Kd.R_reads' HO121.out).2.1); rintro e w80 ⟨rfl, hb⟩; refine ⟨_, rfl, ?_⟩; replace HO121 := Qz.mk (Kd.R_below yq36 hb); replace BK101 := Qz.mk (qq (g := gb101) (o := .cells #[.int .i64 a1_0, .string a1_1, .string a1_2, .string a1_3] 157 (0, 0)) yq43 hb); replace BK118 := Qz.mk (qq (g := gb118) (o := .cells #[.string a1_2, .string ((qj t102 t105).f1)] 170 (0, 0)) yq42 hb); replace HB := Qz.mk (ql yq28 hb); (try clear hb); (try clear hk); have hcz81_0 := (qd BK118.out 0).trans rfl; have hcz81_1 : w80.cell? ⟨gb118, 1, none⟩ = some (.string ((qj t102 t105).f1)) := (qd BK118.out 1).trans rfl; have hfz81_0 := qe BK118.out 0; have hfz81_1 := qe BK118.out 1) | ((with_reducible refine qt (N := 77) rfl ?_); refine Kd.R_lit k170 _ 170 ?hg (N := 77) ?hd (xs := ([(⟨a1_2, (qj t102 t105).f1⟩ : S170)] : List (S170))) (inner := [.string a1_2, .string ((qj t102 t105).f1)]) (ok := fun _ => True) (okp := fun _ => True) ?hr ?hp (fun _ hk => hk) trivial (Below.refl _ _) (Nat.le_refl _) (by simp) ?_; (case hd => rfl); (case hg => rfl); (case hr => exact yq39); (case hp => exact (Reps.c2 (show Kd.M k170 _ _ _ (⟨a1_2, (qj t102 t105).f1⟩ : S170) [.string a1_2, .string ((qj t102 t105).f1)] from (k170_mkM _ _ _ (⟨a1_2, (qj t102 t105).f1⟩ : S170) )) (Reps.none _ _))); intro v126 w82 ho83 hb hg_ hnew_; clear hg_ hnew_; (first | rw [← Ny125.out] at ho83 | (simp only [Int.reduceToNat] at ho83; rw [← Ny125.out] at ho83)); have HO127 := Qz.mk (Kd.R_lower (Kd.R_newB (Kd.R_new' ho83 (Kd.R_lt (by (with_reducible repeat (first | apply Kd.R_alloc | apply Kd.R_drewN | apply Kd.R_drew)); exact HO121.out))) (g := gb118) (o := .cells #[.string a1_2, .string ((qj t102 t105).f1)] 170 (0, 0)) yq32) (qo yq28)); replace HO121 := Qz.mk (Kd.R_elder' (by (with_reducible repeat (first | apply Kd.R_alloc | apply Kd.R_drewN | apply Kd.R_drew)); exact HO121.out) (Kd.R_base ho83) hb); replace BK101 := bkbf138 BK101 yq27 hb; replace BK118 := bkbf138 BK118 yq32 hb; replace HB := Qz.mk (ql yq28 hb); clear hb ho83; obtain ⟨Ao84, co84, eo84⟩ := Kd.R_slice HO127.out; subst eo84) | ((with_reducible refine qp (f := 184) rfl ?_); refine qc1 (some 78) rfl rfl Try.func184 (by kernel_rfl) rfl #[.slice Ao79 t119.length co79, .int .i64 t122, .slice Ao84 y125.length co84] rfl yq25 ?_; (with_reducible refine (impl_File_184.calls (fun k_ => some k_ = (.slice Ao79 t119.length co79 : Value).ownBlock) (.slice Ao79 t119.length co79) t119 t122 (fun k_ => some k_ = (.slice Ao84 y125.length co84 : Value).ownBlock) (.slice Ao84 y125.length co84) y125 t128 w _ ?side1 ?side2 ?side3 ?side4 ?side5 A65.out).mono ?_); (case side1 => exact yq28); (case side2 => exact Kd.R_tight rfl HO121.out); (case side3 => exact fun k_ e_ => (HO121.out.1 k_ e_.symm).2); (case side4 => exact Kd.R_tight rfl HO127.out); (case side5 => exact fun k_ e_ => (HO127.out.1 k_ e_.symm).1.2); rintro e w85 ⟨v129, rfl, ho0, hb, hkp⟩; refine ⟨_, rfl, ?_⟩; have n0_ := Qz.mk (blk_kept yq27 hkp (fun hs_ => Or.elim hs_ (fun e_ => (fun e_ => (Kd.R_ne HO121.out BK101.out (by decide)) e_) e_) (fun e_ => (fun e_ => (Kd.R_ne HO127.out BK101.out (by decide)) e_) e_))); have n1_ := Qz.mk (blk_kept yq32 hkp (fun hs_ => Or.elim hs_ (fun e_ => (fun e_ => (Kd.R_away HO121.out (fun _ hk => hk.1)) e_) e_) (fun e_ => (fun e_ => (Kd.R_away HO127.out (fun _ hk => hk.2)) e_) e_))); have n2_ := Qz.mk (Kd.R_mono (ok' := fun k_ => k_ ≠ gb118) ho0 (fun k_ hk_ => Or.elim hk_ (fun hs_ => Or.elim hs_ (fun hs_ => fun e_ => (Kd.R_away HO121.out (fun _ hk => hk.1)) (by rw [← e_]; exact hs_)) (fun hs_ => fun e_ => (Kd.R_away HO127.out (fun _ hk => hk.2)) (by rw [← e_]; exact hs_))) (fun hn_ => (Kd.freshB (g := gb118) (o := .cells #[.string a1_2, .string ((qj t102 t105).f1)] 170 (0, 0)) yq32 k_ hn_)))); have n3_ := Qz.mk (hb); clear BK101; clear BK118; clear HB; clear HO121; clear HO127; have BK101 := n0_; have BK118 := n1_; have HO130 := n2_; have HB := n3_; clear n0_ n1_ n2_ n3_; (try clear hb); (try clear hkp); (try clear ho0)))
       go_ret2
       exact ⟨_, by first | rfl | (simp [qn, qm] <;> rfl) | (simp [*, qn, qm] <;> rfl), by (with_reducible repeat (first | apply Kd.R_alloc | apply Kd.R_drewN | apply Kd.R_drew)); exact Kd.R_mono HO130.out (fun _ hk => trivial), by repeat (first | (with_reducible first | exact HB.out | apply qc | apply qa | apply qb | refine qf ?_ GE101.out | refine qf ?_ GE118.out) | exact HB.out)⟩
     ·rw [if_neg c41] at H
      have c41b0 : (a1_0 == 2) = false := beq_eq_false_iff_ne.mpr c41
      have c41b1 : (a1_0 != 2) = true := bne_iff_ne.mpr c41
      simp only [Option.some.injEq, Prod.mk.injEq] at H
      obtain ⟨rfl, rfl⟩ := H
      go_enter Try.func138, Try.ntmps138
      go_wp2_with (first | ((with_reducible refine qt (N := 3) rfl ?_); refine qr ?hg (N := 3) ?hd (cs := #[.int .i64 a1_0, .string a1_1, .string a1_2, .string a1_3]) (t := 157) ?hr ?_; (case hd => rfl); (case hg => rfl); (case hr => exact yq39); intro gb101 hg w86 hbox hb; have BK101 := Qz.mk (hbox); have GW101 := Qz.mk ((by rw [hg]; exact (qo yq30) : w.heap.size ≤ gb101)); have GE101 := GW101; replace HB := Qz.mk (ql yq30 hb); clear hb hbox hg) | ((with_reducible refine qp (f := 179) rfl ?_); refine qc1 (some 13) rfl rfl Try.func179 (by kernel_rfl) rfl #[.slice A0 l0.length c0] rfl yq25 ?_; (with_reducible refine (impl_File_179.calls _ _ l0 t102 _ ?side1 ?side2 A3.out).mono ?_); (case side1 => exact yq35); (case side2 => exact HC0.out); rintro e w87 ⟨v103, rfl, ho0, hb⟩; refine ⟨_, rfl, ?_⟩; have HO104 := Qz.mk (Kd.R_lower ho0 (qo yq26)); replace BK101 := bkbf138 BK101 yq27 hb; replace HB := Qz.mk (ql yq26 hb); (try clear hb); (try clear hk); (try clear ho0); have hcz88_0 := (qd BK101.out 0).trans rfl; have hcz88_1 := (qd BK101.out 1).trans rfl; have hcz88_2 := (qd BK101.out 2).trans rfl; have hcz88_3 := (qd BK101.out 3).trans rfl; have hfz88_0 := qe BK101.out 0; have hfz88_1 := qe BK101.out 1; have hfz88_2 := qe BK101.out 2; have hfz88_3 := qe BK101.out 3; obtain ⟨Ao89, co89, eo89⟩ := Kd.R_slice HO104.out; subst eo89) | ((with_reducible refine qp (f := 183) rfl ?_); refine qc1 (some 18) rfl rfl Try.func183 (by kernel_rfl) rfl #[.slice Ao89 t102.length co89, .string a1_1] rfl yq25 ?_; (with_reducible refine (impl_find.calls _ _ t102 a1_1 t105 true _ ?side1 ?side2 A4.out).mono ?_); (case side1 => exact yq34); (case side2 => exact (Kd.R_reads' HO104.out).2.1); rintro e w90 ⟨rfl, hb⟩; refine ⟨_, rfl, ?_⟩; replace HO104 := Qz.mk (Kd.R_below yq31 hb); replace BK101 := bkbf138 BK101 yq27 hb; replace HB := Qz.mk (ql yq26 hb); (try clear hb); (try clear hk); have hcz91_0 := (qd BK101.out 0).trans rfl; have hcz91_1 := (qd BK101.out 1).trans rfl; have hcz91_2 := (qd BK101.out 2).trans rfl; have hcz91_3 := (qd BK101.out 3).trans rfl; have hfz91_0 := qe BK101.out 0; have hfz91_1 := qe BK101.out 1; have hfz91_2 := qe BK101.out 2; have hfz91_3 := qe BK101.out 3; have p117 : 0 ≤ (t105 : Int) := of_decide_eq_true yq29; have q117 : t105 < (t102.length : Int) := of_decide_eq_true yq29; obtain ⟨ad117, e117, hx117_0, hx117_1⟩ := at_T170 (Kd.R_reads' HO104.out).2.2 t105 p117 q117; cases e117; replace p117 := eq_true p117; replace q117 := eq_true q117) | ((with_reducible refine qt (N := 9) rfl ?_); refine qr ?hg (N := 9) ?hd (cs := #[.string (⟨#[]⟩ : ByteArray), .string (⟨#[]⟩ : ByteArray)]) (t := 170) ?hr ?_; (case hd => rfl); (case hg => rfl); (case hr => exact yq39); intro gb118 hg w92 hbox hb; replace HO104 := Qz.mk (Kd.R_below (Kd.R_elderB yq31 gb118 (Nat.le_of_eq hg.symm)) hb); have BK118 := Qz.mk (hbox); have GW118 := Qz.mk ((by rw [hg]; exact (qo yq26) : w.heap.size ≤ gb118)); have GE118 := GW118; replace HB := Qz.mk (ql yq26 hb); have NB101_118 := Qz.mk ((yq40 : gb101 ≠ gb118)); have NB118_101 := Qz.mk ((yq41 : gb118 ≠ gb101)); replace BK101 := bkbf138 BK101 yq27 hb; clear hb hbox hg; have hnb93 := NB118_101.out; have hnc93 := NB101_118.out; have hcz94_0 := (qd BK118.out 0).trans rfl; have hcz94_1 := (qd BK118.out 1).trans rfl; have hfz94_0 := qe BK118.out 0; have hfz94_1 := qe BK118.out 1) | ((with_reducible refine gate_store (t := 170) (p := 9) rfl ?_); refine store_event (t := 170) (p := 9) (v := ?vo_w95) (w1 := ((w92.setCell ⟨gb118, 0, none⟩ (.string ((qj t102 t105).f0))).setCell ⟨gb118, 1, none⟩ (.string ((qj t102 t105).f1)))) ?hg ?ho ?hn ?hr ?_; (case ho => rfl); (case hg => rfl); (case hn => rfl); (case hr => exact yq39); intro w95 hw; have n0_ : Qz (Kd.R k170 170 w95 w.heap.size (fun k_ => k_ ≠ gb118) (.slice (some ad117) t102.length co89) t102) := ⟨yq37⟩; have n1_ : Qz (w95.heap[gb101]? = some (.cells #[.int .i64 a1_0, .string a1_1, .string a1_2, .string a1_3] 157 (0, 0))) := ⟨yq38⟩; have n2_ : Qz (w95.heap[gb118]? = some (.cells #[.string ((qj t102 t105).f0), .string ((qj t102 t105).f1)] 170 (0, 0))) := ⟨yq33⟩; have n3_ : Qz (Below w.heap.size w w95) := ⟨(by rw [hw]; exact yq28)⟩; clear hw; clear HO104; clear BK101; clear BK118; clear HB; have HO104 := n0_; have BK101 := n1_; have BK118 := n2_; have HB := n3_; clear n0_ n1_ n2_ n3_) | ((with_reducible refine qp (f := 185) rfl ?_); refine qc1 (some 55) rfl rfl Try.func185 (by kernel_rfl) rfl #[.slice (some ad117) t102.length co89, .int .i64 t105, .int .i64 (wrap64 (t105 + 1))] rfl yq25 ?_; (with_reducible refine (impl_File_185.calls (fun k_ => some k_ = (.slice (some ad117) t102.length co89 : Value).ownBlock) (.slice (some ad117) t102.length co89) t102 t105 (wrap64 (t105 + 1)) t119 w _ ?side1 ?side2 A40.out).mono ?_); (case side1 => exact yq28); (case side2 => exact Kd.R_tight rfl HO104.out); rintro e w96 ⟨v120, rfl, ho0, hb, hkp⟩; refine ⟨_, rfl, ?_⟩; have n0_ := Qz.mk (blk_kept yq27 hkp (fun hs_ => (fun e_ => (Kd.R_ne HO104.out BK101.out (by decide)) e_) hs_)); have n1_ := Qz.mk (blk_kept yq32 hkp (fun hs_ => (fun e_ => (Kd.R_away HO104.out (fun _ hk => hk)) e_) hs_)); have n2_ := Qz.mk (Kd.R_mono (ok' := fun k_ => k_ ≠ gb118) ho0 (fun k_ hk_ => Or.elim hk_ (fun hs_ => fun e_ => (Kd.R_away HO104.out (fun _ hk => hk)) (by rw [← e_]; exact hs_)) (fun hn_ => (Kd.freshB (g := gb118) (o := .cells #[.string ((qj t102 t105).f0), .string ((qj t102 t105).f1)] 170 (0, 0)) yq32 k_ hn_)))); have n3_ := Qz.mk (hb); clear BK101; clear BK118; clear HB; clear HO104; have BK101 := n0_; have BK118 := n1_; have HO121 := n2_; have HB := n3_; clear n0_ n1_ n2_ n3_; (try clear hb); (try clear hkp); (try clear ho0); have hcz97_0 := (qd BK101.out 0).trans rfl; have hcz97_1 := (qd BK101.out 1).trans rfl; have hcz97_2 := (qd BK101.out 2).trans rfl; have hcz97_3 := (qd BK101.out 3).trans rfl; have hfz97_0 := qe BK101.out 0; have hfz97_1 := qe BK101.out 1; have hfz97_2 := qe BK101.out 2; have hfz97_3 := qe BK101.out 3))
      go_ret2
      exact ⟨_, by first | rfl | (simp [qn, qm] <;> rfl) | (simp [*, qn, qm] <;> rfl), by (with_reducible repeat (first | apply Kd.R_alloc | apply Kd.R_drewN | apply Kd.R_drew)); exact Kd.R_mono HO121.out (fun _ hk => trivial), by repeat (first | (with_reducible first | exact HB.out | apply qc | apply qa | apply qb | refine qf ?_ GE101.out | refine qf ?_ GE118.out) | exact HB.out)⟩
    ·rw [if_neg c39] at H
     exact absurd H (by simp)
   ·rw [if_neg c38] at H
    exact absurd H (by simp)
  ·replace c37 := Bool.eq_false_iff.mpr c37
   subst c37
   have H1 : (some (t102, false)) = some (r1, r2) := by rw [if_neg (show ¬ (false = true) by decide)] at H; exact H
   clear H
   have H := H1
   clear H1
   simp only [Option.some.injEq, Prod.mk.injEq] at H
   obtain ⟨rfl, rfl⟩ := H
   go_enter Try.func138, Try.ntmps138
   go_wp2_with (first | ((with_reducible refine qt (N := 3) rfl ?_); refine qr ?hg (N := 3) ?hd (cs := #[.int .i64 a1_0, .string a1_1, .string a1_2, .string a1_3]) (t := 157) ?hr ?_; (case hd => rfl); (case hg => rfl); (case hr => exact yq39); intro gb101 hg w98 hbox hb; have BK101 := Qz.mk (hbox); have GW101 := Qz.mk ((by rw [hg]; exact (qo yq30) : w.heap.size ≤ gb101)); have GE101 := GW101; replace HB := Qz.mk (ql yq30 hb); clear hb hbox hg) | ((with_reducible refine qp (f := 179) rfl ?_); refine qc1 (some 13) rfl rfl Try.func179 (by kernel_rfl) rfl #[.slice A0 l0.length c0] rfl yq25 ?_; (with_reducible refine (impl_File_179.calls _ _ l0 t102 _ ?side1 ?side2 A3.out).mono ?_); (case side1 => exact yq35); (case side2 => exact HC0.out); rintro e w99 ⟨v103, rfl, ho0, hb⟩; refine ⟨_, rfl, ?_⟩; have HO104 := Qz.mk (Kd.R_lower ho0 (qo yq26)); replace BK101 := bkbf138 BK101 yq27 hb; replace HB := Qz.mk (ql yq26 hb); (try clear hb); (try clear hk); (try clear ho0); have hcz100_0 := (qd BK101.out 0).trans rfl; have hcz100_1 := (qd BK101.out 1).trans rfl; have hcz100_2 := (qd BK101.out 2).trans rfl; have hcz100_3 := (qd BK101.out 3).trans rfl; have hfz100_0 := qe BK101.out 0; have hfz100_1 := qe BK101.out 1; have hfz100_2 := qe BK101.out 2; have hfz100_3 := qe BK101.out 3; obtain ⟨Ao101, co101, eo101⟩ := Kd.R_slice HO104.out; subst eo101) | ((with_reducible refine qp (f := 183) rfl ?_); refine qc1 (some 18) rfl rfl Try.func183 (by kernel_rfl) rfl #[.slice Ao101 t102.length co101, .string a1_1] rfl yq25 ?_; (with_reducible refine (impl_find.calls _ _ t102 a1_1 t105 false _ ?side1 ?side2 A4.out).mono ?_); (case side1 => exact yq34); (case side2 => exact (Kd.R_reads' HO104.out).2.1); rintro e w102 ⟨rfl, hb⟩; refine ⟨_, rfl, ?_⟩; replace HO104 := Qz.mk (Kd.R_below yq31 hb); replace BK101 := bkbf138 BK101 yq27 hb; replace HB := Qz.mk (ql yq26 hb); (try clear hb); (try clear hk); have hcz103_0 := (qd BK101.out 0).trans rfl; have hcz103_1 := (qd BK101.out 1).trans rfl; have hcz103_2 := (qd BK101.out 2).trans rfl; have hcz103_3 := (qd BK101.out 3).trans rfl; have hfz103_0 := qe BK101.out 0; have hfz103_1 := qe BK101.out 1; have hfz103_2 := qe BK101.out 2; have hfz103_3 := qe BK101.out 3))
   go_ret2
   exact ⟨_, by first | rfl | (simp [qn, qm] <;> rfl) | (simp [*, qn, qm] <;> rfl), by (with_reducible repeat (first | apply Kd.R_alloc | apply Kd.R_drewN | apply Kd.R_drew)); exact HO104.out, by repeat (first | (with_reducible first | exact HB.out | apply qc | apply qa | apply qb | refine qf ?_ GE101.out) | exact HB.out)⟩
def impl_fit.l0 : Nat → List (S170) → Int → List (S170) → Int → Int → Option (Bool)
 | 0, _, _, _, _, _ => none
 | k + 1, x0, x3, x6, x7, x8 => if x8 < x7 then (if 0 ≤ x8 then (if x8 < (x6.length : Int) then (impl_fit.l0 k x0 (wrap64 (x3 + (((qj x6 x8).f1).size : Int))) x6 x7 (wrap64 (x8 + 1))) else (none)) else (none)) else (if (x0.length : Int) ≤ 60 then (some (decide (x3 ≤ 200000))) else (some false))
def impl_fit.f (k : Nat) (l0 : List (S170)) : Option (Bool) := impl_fit.l0 k l0 0 l0 (l0.length : Int) 0
set_option maxHeartbeats 8000000 in
set_option maxRecDepth 100000 in
theorem impl_fit.calls (k : Nat) (A0 : Option Addr) (c0 : Nat) (l0 : List (S170)) (r : Bool) (w : World) (hr0 : Kd.C k170 w A0 l0.length l0) (hc0 : l0.length ≤ c0) (h : impl_fit.f k l0 = some r) :
  Calls Try.prog 139 #[.slice A0 l0.length c0] w fun e w' => e = .returned (.bool r) ∧ Below w.heap.size w w' := by
 have hu170 := Try.underlying170
 have HR0 := Qz.mk hr0
 have HC0 := Qz.mk hc0
 clear hr0 hc0
 have HB := Qz.mk (Below.refl w.heap.size w)
 have H : (impl_fit.l0 k l0 0 l0 (l0.length : Int) 0) = some r := h
 clear h
 have H' := Qz.mk H
 clear H
 go_enter Try.func139, Try.ntmps139
 go_wp2
 go_loopg [3, 8] k (fun kq v3 v8 w' => ∃ (x3_1 : Int) (x8_1 : Int), v3 = .int .i64 x3_1 ∧ v8 = .int .i64 x8_1 ∧ Qz (impl_fit.l0 kq l0 x3_1 l0 (l0.length : Int) x8_1 = some r) ∧ Qz (kq ≤ k) ∧ Qz (Below w.heap.size w w'))
 case atStart => exact ⟨(0), (0), (by first | rfl | (simp; done) | (simp [*]; done)), (by first | rfl | (simp; done) | (simp [*]; done)), H', ⟨Nat.le_refl _⟩, ⟨by repeat (first | (with_reducible first | exact HB.out | apply qc | apply qa | apply qb) | exact HB.out)⟩⟩
 case round =>
  clear H'
  try clear c1
  obtain ⟨x3_1, x8_1, rfl, rfl, HA, HK1, HB⟩ := hrel
  cases gk with
  | zero => exact absurd HA.out (by simp [impl_fit.l0])
  | succ k1 =>
   have H := HA.out
   clear HA
   simp only [impl_fit.l0] at H
   by_cases c2 : x8_1 < (l0.length : Int)
   ·rw [if_pos c2] at H
    have c2b0 : decide (x8_1 < (l0.length : Int)) = true := decide_eq_true c2
    clear c2
    by_cases c3 : 0 ≤ x8_1
    ·rw [if_pos c3] at H
     have c3b0 : decide (0 ≤ x8_1) = true := decide_eq_true c3
     clear c3
     by_cases c4 : x8_1 < (l0.length : Int)
     ·rw [if_pos c4] at H
      have c4b0 : decide (x8_1 < (l0.length : Int)) = true := decide_eq_true c4
      clear c4
      have H' := Qz.mk H
      clear H
      have p101 : 0 ≤ (x8_1 : Int) := of_decide_eq_true (by first | (with_reducible assumption) | assumption)
      have q101 : x8_1 < (l0.length : Int) := of_decide_eq_true (by first | (with_reducible assumption) | assumption)
      obtain ⟨ad101, e101, hx101_0, hx101_1⟩ := at_T170 HR0.out x8_1 p101 q101
      cases e101
      replace hx101_0 := (HB.out.cell (World.block_lt_of_cell? w _ hx101_0)).trans hx101_0
      replace hx101_1 := (HB.out.cell (World.block_lt_of_cell? w _ hx101_1)).trans hx101_1
      replace p101 := eq_true p101
      replace q101 := eq_true q101
      go_wp2_with (first | ((with_reducible refine qt (N := 5) rfl ?_); refine qr ?hg (N := 5) ?hd (cs := #[.string (⟨#[]⟩ : ByteArray), .string (⟨#[]⟩ : ByteArray)]) (t := 170) ?hr ?_; (case hd => rfl); (case hg => rfl); (case hr => first | (go_simp; done) | (go_simp; rfl)); intro gb102 hg w5 hbox hb; have BK102 := Qz.mk (hbox); have GW102 := Qz.mk ((by rw [hg]; exact (qo (by repeat (first | (with_reducible first | exact HB.out | apply qc | apply qa | apply qb) | exact HB.out))) : w.heap.size ≤ gb102)); have GE102 := GW102; replace HB := Qz.mk (ql (by repeat (first | (with_reducible first | exact HB.out | apply qc | apply qa | apply qb) | exact HB.out)) hb); clear hb hbox hg; have hcz6_0 := (qd BK102.out 0).trans rfl; have hcz6_1 := (qd BK102.out 1).trans rfl; have hfz6_0 := qe BK102.out 0; have hfz6_1 := qe BK102.out 1))
      go_roundg k1
      case measure => have := HK1.out; omega
      case rel => exact ⟨(wrap64 (x3_1 + (((qj l0 x8_1).f1).size : Int))), (wrap64 (x8_1 + 1)), (by first | rfl | (simp; done) | (simp [*]; done)), (by first | rfl | (simp; done) | (simp [*]; done)), H', ⟨by have := HK1.out; omega⟩, ⟨by repeat (first | (with_reducible first | exact HB.out | apply qc | apply qa | apply qb | refine qf ?_ GE102.out) | exact HB.out)⟩⟩
     ·rw [if_neg c4] at H
      exact absurd H (by simp)
    ·rw [if_neg c3] at H
     exact absurd H (by simp)
   ·rw [if_neg c2] at H
    have c2b0 : decide (x8_1 < (l0.length : Int)) = false := decide_eq_false c2
    clear c2
    by_cases c7 : (l0.length : Int) ≤ 60
    ·rw [if_pos c7] at H
     have c7b0 : decide ((l0.length : Int) ≤ 60) = true := decide_eq_true c7
     have c7b1 : decide (l0.length ≤ 60) = true := decide_eq_true (by omega)
     clear c7
     obtain rfl := Option.some.inj H
     go_wp2
     go_ret
     exact ⟨by first | rfl | (simp [qn, qm] <;> rfl) | (simp [*, qn, qm] <;> rfl), by repeat (first | (with_reducible first | exact HB.out | apply qc | apply qa | apply qb) | exact HB.out)⟩
    ·rw [if_neg c7] at H
     have c7b0 : decide ((l0.length : Int) ≤ 60) = false := decide_eq_false c7
     have c7b1 : decide (l0.length ≤ 60) = false := decide_eq_false (by omega)
     clear c7
     obtain rfl := Option.some.inj H
     go_wp2
     go_ret
     exact ⟨by first | rfl | (simp [qn, qm] <;> rfl) | (simp [*, qn, qm] <;> rfl), by repeat (first | (with_reducible first | exact HB.out | apply qc | apply qa | apply qb) | exact HB.out)⟩
end Go.Proofs.Ytidjdkodgddfcaa.P
end

section
namespace Go.Proofs.Ytidjdkodgddfcaa.P
open Go.RowKit Go.Proofs.YtidjdkodgddfcaaW.PrintWords Go.Proofs.YtidjdkodgddfcaaW.PrintLast Go.Proofs.YtidjdkodgddfcaaW.PrintMore
attribute [local go_sem] str_gtr str_leq str_geq qb1 qz max_two min_two qv qu qa1 qy
set_option linter.unusedVariables false
set_option linter.unusedSimpArgs false
def kOk (n : Nat) (keep : List Int) (i : Nat) : Bool := decide (0 ≤ keep.getD i 0 ∧ keep.getD i 0 ≤ (n : Int) - 1) && (i == 0 || decide (keep.getD (i - 1) 0 < keep.getD i 0))
def cutD (n : Nat) (torn : Int) (i : Nat) (d : ByteArray) : ByteArray := if i + 1 = n then d.extract 0 (mn torn (d.size : Int)).toNat else d
def impl_Disk_crash.l0 : Nat → List S157 → List Int → Int → List S170 → Nat → Option (List S170 × List S170 × List S157 × Bool)
 | 0, _, _, _, _, _ => none
 | k + 1, ops, keep, torn, cur, i => if i < keep.length then (if kOk ops.length keep i = true then (impl_done.f cur (qi ops (keep.getD i 0)).f0 (qi ops (keep.getD i 0)).f1 (qi ops (keep.getD i 0)).f2 (cutD keep.length torn i (qi ops (keep.getD i 0)).f3)).bind fun b => impl_Disk_crash.l0 k ops keep torn b.1 (i + 1) else some ([], [], [], false)) else (impl_fit.f k cur).bind fun t => if t = true then (impl_File_179.f cur).bind fun c => some (c, c, [], true) else some ([], [], [], false)
def impl_Disk_crash.f (k : Nat) (l0_0 : List S170) (l0_1 : List S170) (l0_2 : List S157) (l1 : List Int) (a2 : Int) : Option (List S170 × List S170 × List S157 × Bool) := if a2 < 0 then some ([], [], [], false) else impl_Disk_crash.l0 k l0_2 l1 a2 l0_1 0
theorem put3 {w : World} {g t : Nat} {x0 x1 x2 a b c : Value} (h : w.heap[g]? = some (.cells #[x0, x1, x2] t (0, 0))) : (((w.setCell ⟨g, 0, none⟩ a).setCell ⟨g, 1, none⟩ b).setCell ⟨g, 2, none⟩ c).heap[g]? = some (.cells #[a, b, c] t (0, 0)) :=
 blk_put (blk_put (blk_put h 0 a rfl) 1 b rfl) 2 c rfl
theorem below3 {w W : World} {g : Nat} {a b c : Value} (h : Below w.heap.size w W) (hg : w.heap.size ≤ g) : Below w.heap.size w (((W.setCell ⟨g, 0, none⟩ a).setCell ⟨g, 1, none⟩ b).setCell ⟨g, 2, none⟩ c) :=
 qf (qf (qf h hg) hg) hg
theorem R_set3 {e base g t : Nat} {ok : Nat → Prop} {W : World} {v : Value} {xs : List S170} {x0 x1 x2 a b c : Value} (h : Kd.R k170 e W base ok v xs) (hb : W.heap[g]? = some (.cells #[x0, x1, x2] t (0, 0))) (ht : ∀ q, q ∈ e :: (k170).E → q ≠ t) : Kd.R k170 e (((W.setCell ⟨g, 0, none⟩ a).setCell ⟨g, 1, none⟩ b).setCell ⟨g, 2, none⟩ c) base ok v xs :=
 Kd.R_set (Kd.R_set (Kd.R_set h hb ht 0 a) (blk_put hb 0 a rfl) ht 1 b) (blk_put (blk_put hb 0 a rfl) 1 b rfl) ht 2 c
theorem R_ltF {e base : Nat} {ok : Nat → Prop} {W : World} {v : Value} {xs : List S170} (h : Kd.R k170 e W base ok v xs) : ∀ k, v.ownBlock = some k → k < W.heap.size := by
 intro k hk
 obtain ⟨_, inner, hown, _⟩ := h
 rcases hown.2 with ⟨hv, _⟩ | ⟨g', cap', cur, hv, _, hh, _⟩
 ·rw [hv] at hk; simp [Value.ownBlock] at hk
 ·rw [hv] at hk
  have : g' = k := by simpa [Value.ownBlock] using hk
  rw [← this]
  exact blk_lt hh
structure CrB (w : World) (cv : Array Value) (W : World) : Prop where
 hb : Below w.heap.size w W
 hv : W.heap[w.heap.size]? = some (.cells cv 85 (0, 0))
 ho : W.heap[w.heap.size + 1]? = some (.cells #[.slice none 0 0, .slice none 0 0, .slice none 0 0] 85 (0, 0))
theorem CrB.below {w W W' : World} {cv : Array Value} (h : CrB w cv W) (hB : Below W.heap.size W W') : CrB w cv W' := ⟨h.hb.trans (hB.mono h.hb.size), qq h.hv hB, qq h.ho hB⟩
theorem CrB.start (w : World) (cv : Array Value) : CrB w cv ((w.alloc (.cells cv 85)).alloc (.cells #[.slice none 0 0, .slice none 0 0, .slice none 0 0] 85)) := by
 have e1 : (w.alloc (.cells cv 85)).heap.size = w.heap.size + 1 := by simp
 exact ⟨qc ((Below.refl _ w).alloc (Nat.le_refl _) _) _, qg (blk_new _ _) _, by rw [← e1]; exact blk_new _ _⟩
set_option maxHeartbeats 8000000 in
set_option maxRecDepth 100000 in
theorem impl_Disk_crash.calls (k : Nat) (A0_0 : Option Addr) (c0_0 : Nat) (l0_0 : List S170) (A0_1 : Option Addr) (c0_1 : Nat) (l0_1 : List S170) (A0_2 : Option Addr) (c0_2 : Nat) (l0_2 : List S157) (A1 : Option Addr) (c1 : Nat) (l1 : List Int) (a2 : Int) (r1 : List S170) (r2 : List S170) (r3 : List S157) (r4 : Bool) (w : World) (hr0_0 : Kd.C k170 w A0_0 l0_0.length l0_0) (hc0_0 : l0_0.length ≤ c0_0) (hr0_1 : Kd.C k170 w A0_1 l0_1.length l0_1) (hc0_1 : l0_1.length ≤ c0_1) (hr0_2 : Kd.C k157 w A0_2 l0_2.length l0_2) (hc0_2 : l0_2.length ≤ c0_2) (hr1 : Kd.C (Kd.int .i64) w A1 l1.length l1) (hc1 : l1.length ≤ c1) (h : impl_Disk_crash.f k l0_0 l0_1 l0_2 l1 a2 = some (r1, r2, r3, r4)) :
  Calls Try.prog 127 #[.agg #[.slice A0_0 l0_0.length c0_0, .slice A0_1 l0_1.length c0_1, .slice A0_2 l0_2.length c0_2], .slice A1 l1.length c1, .int .i64 a2] w fun e w' => ∃ v0_ v1_ v2_ : Value, e = .returned (.tuple #[.agg #[v0_, v1_, v2_], .bool r4]) ∧ Kd.R k170 170 w' w.heap.size (fun k_ => some k_ ≠ (v1_ : Value).ownBlock) v0_ r1 ∧ Kd.R k170 170 w' w.heap.size (fun k_ => some k_ ≠ (v0_ : Value).ownBlock) v1_ r2 ∧ Kd.R k157 157 w' w.heap.size (fun _ => True) v2_ r3 ∧ Below w.heap.size w w' := by
 have hu85 := Try.underlying85
 have hu157 := Try.underlying157
 have H1 := Qz.mk hr0_1
 have H2 := Qz.mk hr0_2
 have H3 := Qz.mk hr1
 have C1 := Qz.mk hc0_1
 have hlo := Kd.C_max hr0_2
 have hlk := Kd.C_max hr1
 clear hr0_0 hr0_1 hr0_2 hr1 hc0_0 hc0_1 hc0_2 hc1
 have hf : ∀ W' : World, W'.heap[w.heap.size + 1]? = some (.cells #[.slice none 0 0, .slice none 0 0, .slice none 0 0] 85 (0, 0)) → Below w.heap.size w W' → ∀ tmps : Array Value, tmps.getD 6 undef = .pointer (some ⟨w.heap.size + 1, 0, none⟩) → tmps.getD 7 undef = .bool false → (r1, r2, r3, r4) = (([] : List S170), ([] : List S170), ([] : List S157), false) →
   bodyPost Try.prog Try.f127 (fun e w' => ∃ v0_ v1_ v2_ : Value, e = .returned (.tuple #[.agg #[v0_, v1_, v2_], .bool r4]) ∧ Kd.R k170 170 w' w.heap.size (fun k_ => some k_ ≠ (v1_ : Value).ownBlock) v0_ r1 ∧ Kd.R k170 170 w' w.heap.size (fun k_ => some k_ ≠ (v0_ : Value).ownBlock) v1_ r2 ∧ Kd.R k157 157 w' w.heap.size (fun _ => True) v2_ r3 ∧ Below w.heap.size w w') Exit.ret ⟨tmps, []⟩ W' := by
  intro W' hb hB tmps h4 h5 hr
  simp only [Prod.mk.injEq] at hr
  obtain ⟨rfl, rfl, rfl, rfl⟩ := hr
  refine bodyPost_ret (results_ct rfl _ _ (w.heap.size + 1) 85 _ (0, 0) _ h4 hb Try.underlying85 rfl (by kernel_rfl)) rfl ?_
  rw [h5]
  exact ⟨_, _, _, rfl, Kd.R_nil _ _ _ _ _, Kd.R_nil _ _ _ _ _, Kd.R_nil _ _ _ _ _, hB⟩
 have HF := Qz.mk hf
 clear hf
 have HS := Qz.mk (CrB.start w #[.slice A0_0 l0_0.length c0_0, .slice A0_1 l0_1.length c0_1, .slice A0_2 l0_2.length c0_2])
 unfold impl_Disk_crash.f at h
 go_enter Try.func127, Try.ntmps127
 by_cases ct : a2 < 0
 ·have ctb : decide (a2 < 0) = true := decide_eq_true ct
  rw [if_pos ct] at h
  have hh := (Option.some.inj h).symm
  have hq0 := (qd HS.out.ho 0).trans rfl
  have hq1 := (qd HS.out.ho 1).trans rfl
  have hq2 := (qd HS.out.ho 2).trans rfl
  have hf0 := qe HS.out.ho 0
  have hf1 := qe HS.out.ho 1
  have hf2 := qe HS.out.ho 2
  clear h ct
  go_wp2
  exact HF.out _ HS.out.ho HS.out.hb _ rfl rfl hh
 have ctb : decide (a2 < 0) = false := decide_eq_false ct
 rw [if_neg ct] at h
 have HH := Qz.mk h
 clear h
 have hz1 := (qd HS.out.hv 1).trans rfl
 go_wp2
 generalize (w.alloc (.cells #[.slice A0_0 l0_0.length c0_0, .slice A0_1 l0_1.length c0_1, .slice A0_2 l0_2.length c0_2] 85)).alloc (.cells #[.slice none 0 0, .slice none 0 0, .slice none 0 0] 85) = W0 at HS hz1 ⊢
 clear hz1
 go_loopg [8, 19] k (fun kq v8 v19 wr => ∃ (A : Option Addr) (c : Nat) (cur : List S170) (i : Nat), v8 = .slice A cur.length c ∧ v19 = .int .i64 i ∧ Qz (impl_Disk_crash.l0 kq l0_2 l1 a2 cur i = some (r1, r2, r3, r4)) ∧ i ≤ l1.length ∧ Qz (kq ≤ k) ∧ Qz (CrB w #[.slice A0_0 l0_0.length c0_0, .slice A0_1 l0_1.length c0_1, .slice A0_2 l0_2.length c0_2] wr) ∧ Qz (Kd.C k170 wr A cur.length cur) ∧ Qz (cur.length ≤ c))
 case atStart => exact ⟨A0_1, c0_1, l0_1, 0, rfl, rfl, HH, Nat.zero_le _, ⟨Nat.le_refl _⟩, HS, ⟨Kd.C_below H1.out HS.out.hb⟩, C1⟩
 case round =>
  clear HH HS
  obtain ⟨A, c, cur, i, rfl, rfl, HA, hil, HK, HP, HC, HL⟩ := hrel
  cases gk with
  | zero => exact absurd HA.out (by simp [impl_Disk_crash.l0])
  | succ k1 =>
  have H := HA.out
  clear HA
  simp only [impl_Disk_crash.l0] at H
  have hz2 := (qd HP.out.hv 2).trans rfl
  have hq0 := (qd HP.out.ho 0).trans rfl
  have hq1 := (qd HP.out.ho 1).trans rfl
  have hq2 := (qd HP.out.ho 2).trans rfl
  have hf0 := qe HP.out.ho 0
  have hf1 := qe HP.out.ho 1
  have hf2 := qe HP.out.ho 2
  by_cases ci : i < l1.length
  ·rw [if_pos ci] at H
   have cib : decide ((i : Int) < (l1.length : Int)) = true := decide_eq_true (by omega)
   have hw1 : wrap64 ((i : Int) + 1) = ((i + 1 : Nat) : Int) := by unfold wrap64; omega
   have hwn : wrap64 ((l0_2.length : Int) - 1) = (l0_2.length : Int) - 1 := by unfold wrap64; omega
   have hwk : wrap64 ((l1.length : Int) - 1) = (l1.length : Int) - 1 := by unfold wrap64; omega
   obtain ⟨adk, cc, ead, _, hKn, hc0⟩ := Kd.C_get H3.out (0 : Int) (i : Int) (by omega) (by omega)
   obtain rfl : cc = [.int .i64 (l1.getD (i : Int).toNat 0)] := hKn
   have hxi := hc0 0 _ rfl
   cases ead
   rw [show (Kd.int .i64).sz = 1 from rfl, Nat.mul_one, Nat.add_zero, Int.toNat_natCast] at hxi
   replace hxi := (HP.out.hb.cell (World.block_lt_of_cell? w _ hxi)).trans hxi
   clear hc0
   unfold kOk at H
   generalize hkey : l1.getD i 0 = key at hxi H
   clear hkey
   have hwi := within_ev key 0 ((l0_2.length : Int) - 1)
   by_cases hp1 : 0 ≤ key ∧ key ≤ (l0_2.length : Int) - 1
   case neg =>
    rw [decide_eq_false hp1] at hwi H
    rw [Bool.false_and, if_neg (by decide)] at H
    have hh := (Option.some.inj H).symm
    clear H hp1
    have HW := Qz.mk hwi
    clear hwi
    go_wp2_with (first | (go_at_call 76; (with_reducible refine (impl_within.calls key 0 ((l0_2.length : Int) - 1) false _ HW.out).mono ?_); rintro e w' ⟨rfl, ⟨nd, rfl⟩⟩))
    exact HF.out _ (put3 (qh HP.out.ho _)) (below3 (qa HP.out.hb _) (by omega)) _ rfl rfl hh
   rw [decide_eq_true hp1] at hwi H
   rw [Bool.true_and] at H
   have HW := Qz.mk hwi
   clear hwi
   obtain ⟨hk0, hk1⟩ := hp1
   have hi0 : (i == 0 || decide (l1.getD (i - 1) 0 < key)) = true ∨ (i ≠ 0 ∧ key ≤ l1.getD (i - 1) 0) := by
    by_cases z : i = 0
    ·left; simp [z]
    ·rcases Int.lt_or_le (l1.getD (i - 1) 0) key with y | y
     ·left; rw [decide_eq_true y, Bool.or_true]
     ·right; exact ⟨z, y⟩
   have hprev : i ≠ 0 → wrap64 ((i : Int) - 1) = ((i - 1 : Nat) : Int) ∧ wr.cell? (adk.add (i - 1)) = some (.int .i64 (l1.getD (i - 1) 0)) := by
    intro z
    refine ⟨by unfold wrap64; omega, ?_⟩
    obtain ⟨adk2, cc, ead, _, hKn, hc0⟩ := Kd.C_get H3.out (0 : Int) ((i - 1 : Nat) : Int) (by omega) (by omega)
    obtain rfl : cc = [.int .i64 (l1.getD ((i - 1 : Nat) : Int).toNat 0)] := hKn
    have hxj := hc0 0 _ rfl
    cases ead
    rw [show (Kd.int .i64).sz = 1 from rfl, Nat.mul_one, Nat.add_zero, Int.toNat_natCast] at hxj
    exact (HP.out.hb.cell (World.block_lt_of_cell? w _ hxj)).trans hxj
   rcases hi0 with hgood | ⟨z, hbad⟩
   case inr =>
    obtain ⟨hwp, hxp⟩ := hprev z
    rw [if_neg (by rw [decide_eq_false (by omega), Bool.or_false]; simpa using z)] at H
    have hh := (Option.some.inj H).symm
    have ciz : decide ((0 : Int) < (i : Int)) = true := decide_eq_true (by omega)
    have ciz2 : decide (0 < i) = true := decide_eq_true (by omega)
    generalize l1.getD (i - 1) 0 = key2 at hxp hbad
    have hbd : decide (key ≤ key2) = true := decide_eq_true hbad
    obtain ⟨j, hj⟩ : ∃ j : Nat, j = i - 1 := ⟨_, rfl⟩
    have hwi : IntKind.i64.wrap ((i : Int) - 1) = (j : Int) := by rw [IntKind.wrap_i64]; omega
    rw [← hj] at hwp hxp
    have cjb : (j : Int) < (l1.length : Int) := by omega
    clear H hprev hbad hj z
    go_wp2_with (first | (go_at_call 76; (with_reducible refine (impl_within.calls key 0 ((l0_2.length : Int) - 1) true _ HW.out).mono ?_); rintro e w' ⟨rfl, ⟨nd, rfl⟩⟩))
    exact HF.out _ (put3 (qh HP.out.ho _)) (below3 (qa HP.out.hb _) (by omega)) _ rfl rfl hh
   case inl =>
    rw [if_pos hgood] at H
    have hkl : key < (l0_2.length : Int) := by omega
    obtain ⟨ado, eo, o0, o1, o2, o3⟩ := at_T157 H2.out key hk0 hkl
    cases eo
    replace o0 := (HP.out.hb.cell (World.block_lt_of_cell? w _ o0)).trans o0
    replace o1 := (HP.out.hb.cell (World.block_lt_of_cell? w _ o1)).trans o1
    replace o2 := (HP.out.hb.cell (World.block_lt_of_cell? w _ o2)).trans o2
    replace o3 := (HP.out.hb.cell (World.block_lt_of_cell? w _ o3)).trans o3
    generalize qi l0_2 key = o at o0 o1 o2 o3 H
    obtain ⟨⟨nx, fd⟩, A5_, H⟩ := Option.bind_eq_some_iff.mp H
    have A5 := Qz.mk A5_
    have HH := Qz.mk H
    clear A5_ H
    have hlast : (decide (i + 1 = l1.length) = true ∧ (o.f3.size : Int) < a2 ∧ cutD l1.length a2 i o.f3 = o.f3) ∨ (decide (i + 1 = l1.length) = true ∧ ¬ (o.f3.size : Int) < a2 ∧ cutD l1.length a2 i o.f3 = o.f3.extract 0 a2.toNat) ∨ (decide (i + 1 = l1.length) = false ∧ cutD l1.length a2 i o.f3 = o.f3) := by
     unfold cutD mn
     by_cases q : i + 1 = l1.length
     ·by_cases y : (o.f3.size : Int) < a2
      ·exact .inl ⟨decide_eq_true q, y, by rw [if_pos q, if_pos y, Int.toNat_natCast, ByteArray.extract_zero_size]⟩
      ·exact .inr (.inl ⟨decide_eq_true q, y, by rw [if_pos q, if_neg y]⟩)
     ·exact .inr (.inr ⟨decide_eq_false q, if_neg q⟩)
    have hlb : decide ((i : Int) = (l1.length : Int) - 1) = decide (i + 1 = l1.length) := decide_eq_decide.2 (by omega)
    have hlc : ((i : Int) == (l1.length : Int) - 1) = decide (i + 1 = l1.length) := by rw [← hlb]; rfl
    have hpk : (0 ≤ key) = True := eq_true hk0
    have hpl : (key < (l0_2.length : Int)) = True := eq_true hkl
    have hB0 := Below.refl wr.heap.size wr
    have HB0 := Qz.mk hB0
    clear hB0
    by_cases z : i = 0
    case' pos =>
     have ciz : decide ((0 : Int) < (i : Int)) = false := decide_eq_false (by omega)
     have ciz2 : decide (0 < i) = false := decide_eq_false (by omega)
     clear z
    case' neg =>
     obtain ⟨hwp, hxp⟩ := hprev z
     have ciz : decide ((0 : Int) < (i : Int)) = true := decide_eq_true (by omega)
     have ciz2 : decide (0 < i) = true := decide_eq_true (by omega)
     have hbd : decide (key ≤ l1.getD (i - 1) 0) = false := decide_eq_false (fun hle => by rw [decide_eq_false (show ¬ l1.getD (i - 1) 0 < key from Int.not_lt.2 hle), Bool.or_false] at hgood; exact z (by simpa using hgood))
     generalize l1.getD (i - 1) 0 = key2 at hxp hbd
     obtain ⟨j, hj⟩ : ∃ j : Nat, j = i - 1 := ⟨_, rfl⟩
     have hwi : IntKind.i64.wrap ((i : Int) - 1) = (j : Int) := by rw [IntKind.wrap_i64]; omega
     rw [← hj] at hwp hxp
     have cjb : (j : Int) < (l1.length : Int) := by omega
     clear hj z
    all_goals
     clear hprev hgood hq0 hq1 hq2 hf0 hf1 hf2
     rcases hlast with ⟨hl, hy, hcut⟩ | ⟨hl, hy, hcut⟩ | ⟨hl, hcut⟩
     case' inl =>
      have hy1 : decide ((o.f3.size : Int) < a2) = true := decide_eq_true hy
      have hy2 : ((o.f3.size : Int) < a2) = True := eq_true hy
      have hy3 : mn a2 (o.f3.size : Int) = (o.f3.size : Int) := if_pos hy
      clear hy
     case' inr.inl =>
      have hy1 : decide ((o.f3.size : Int) < a2) = false := decide_eq_false hy
      have hy2 : ((o.f3.size : Int) < a2) = False := eq_false hy
      have hy3 : mn a2 (o.f3.size : Int) = a2 := if_neg hy
      have hy4 : (0 ≤ a2) = True := eq_true (by omega)
      have hy5 : (a2 ≤ (o.f3.size : Int)) = True := eq_true (Int.not_lt.1 hy)
      have hy6 : decide (0 ≤ a2) = true := decide_eq_true (by omega)
      have hy7 : decide (a2 ≤ (o.f3.size : Int)) = true := decide_eq_true (Int.not_lt.1 hy)
      clear hy
     all_goals
      rw [hl] at hlb hlc
      rw [hcut] at A5
      clear hl
      go_wp2_with fail
      (with_reducible refine (impl_within.calls key 0 ((l0_2.length : Int) - 1) true wr HW.out).mono ?_)
      rintro e w2 ⟨rfl, hd2⟩
      have hb2 := hd2.below
      clear hd2
      replace o0 := (hb2.cell (World.block_lt_of_cell? _ _ o0)).trans o0
      replace o1 := (hb2.cell (World.block_lt_of_cell? _ _ o1)).trans o1
      replace o2 := (hb2.cell (World.block_lt_of_cell? _ _ o2)).trans o2
      replace o3 := (hb2.cell (World.block_lt_of_cell? _ _ o3)).trans o3
      replace hz2 := (hb2.cell (World.block_lt_of_cell? _ _ hz2)).trans hz2
      (try replace hxp := (hb2.cell (World.block_lt_of_cell? _ _ hxp)).trans hxp)
      have HP2 := Qz.mk (HP.out.below hb2)
      have HC2 := Qz.mk (Kd.C_below HC.out hb2)
      have HB2 := Qz.mk (Below.refl w2.heap.size w2)
      clear hb2 HP HC hxi HW HB0
      go_wp2_with fail
      have hB3 : Below w2.heap.size w2 (w2.alloc (.cells #[.int .i64 o.f0, .string o.f1, .string o.f2, .string (cutD l1.length a2 i o.f3)] 157)) := HB2.out.alloc (Nat.le_refl _) _
      rw [hcut] at hB3
      (with_reducible refine (impl_done.calls A c cur o.f0 o.f1 o.f2 _ nx fd _ (Kd.C_below HC2.out hB3) HL.out A5.out).mono ?_)
      rintro e w5 ⟨v5, rfl, hR5, hB5⟩
      have HP5 := Qz.mk (HP2.out.below (hB3.trans (hB5.mono hB3.size)))
      obtain ⟨A5x, c5x, e5⟩ := Kd.R_slice hR5
      subst e5
      have HC5 := Qz.mk (Kd.R_reads' hR5)
      clear hR5 hB5 hB3 HP2 HC2 HB2 A5 o0 o1 o2 o3 hz2
      go_wp2
      go_roundg k1
      case measure => exact Nat.lt_succ_self _
      case rel => exact ⟨A5x, c5x, nx, i + 1, rfl, by first | rfl | (rw [← hw1]; rfl), HH, by omega, ⟨by have := HK.out; omega⟩, HP5, ⟨HC5.out.2.2⟩, ⟨HC5.out.2.1⟩⟩
  ·rw [if_neg ci] at H
   have cib : decide ((i : Int) < (l1.length : Int)) = false := decide_eq_false (by omega)
   obtain ⟨t, A1_, H⟩ := Option.bind_eq_some_iff.mp H
   have A1 := Qz.mk A1_
   clear A1_
   go_wp2_with fail
   (with_reducible refine (impl_fit.calls k1 A c cur t wr HC.out HL.out A1.out).mono ?_)
   rintro e w3 ⟨rfl, hb3⟩
   have HP3 := Qz.mk (HP.out.below hb3)
   have HC3 := Qz.mk (Kd.C_below HC.out hb3)
   clear hb3 HP HC A1 hz2 hq0 hq1 hq2 hf0 hf1 hf2
   cases t with
   | false =>
    rw [if_neg (by decide)] at H
    have hh := (Option.some.inj H).symm
    clear H
    have hq0 := (qd HP3.out.ho 0).trans rfl
    have hq1 := (qd HP3.out.ho 1).trans rfl
    have hq2 := (qd HP3.out.ho 2).trans rfl
    have hf0 := qe HP3.out.ho 0
    have hf1 := qe HP3.out.ho 1
    have hf2 := qe HP3.out.ho 2
    go_wp2
    exact HF.out _ (put3 HP3.out.ho) (below3 HP3.out.hb (by omega)) _ rfl rfl hh
   | true =>
    rw [if_pos rfl] at H
    obtain ⟨cl, A2_, H⟩ := Option.bind_eq_some_iff.mp H
    have A2 := Qz.mk A2_
    clear A2_
    have hh := Option.some.inj H
    simp only [Prod.mk.injEq] at hh
    obtain ⟨rfl, rfl, rfl, rfl⟩ := hh
    clear H
    go_wp2_with fail
    (with_reducible refine (impl_File_179.calls A c cur cl w3 HC3.out HL.out A2.out).mono ?_)
    rintro e w4 ⟨v4, rfl, hR4, hB4⟩
    have HP4 := Qz.mk (HP3.out.below hB4)
    have HC4 := Qz.mk (Kd.C_below HC3.out hB4)
    have HR4 := Qz.mk (Kd.R_lower hR4 HP3.out.hb.size)
    clear hR4 hB4 HP3 HC3
    go_wp2_with fail
    (with_reducible refine (impl_File_179.calls A c cur cl w4 HC4.out HL.out A2.out).mono ?_)
    rintro e w5 ⟨v5, rfl, hR5, hB5⟩
    have HP5 := Qz.mk (HP4.out.below hB5)
    have hap : ∀ q, v4.ownBlock = some q → v5.ownBlock ≠ some q := fun q h4 h5 => by
     have a1 := R_ltF HR4.out q h4
     have a2 := Kd.R_base hR5 q h5
     omega
    have HR4b := Qz.mk (R_okF (ok := fun k_ => some k_ ≠ v5.ownBlock) (Kd.R_below HR4.out hB5) (fun q hq he => hap q hq he.symm))
    have HR5b := Qz.mk (R_okF (ok := fun k_ => some k_ ≠ v4.ownBlock) (Kd.R_lower hR5 HP4.out.hb.size) (fun q hq he => hap q he.symm hq))
    clear hR5 hB5 HP4 HC4 HR4 hap
    have hq0 := (qd HP5.out.ho 0).trans rfl
    have hq1 := (qd HP5.out.ho 1).trans rfl
    have hq2 := (qd HP5.out.ho 2).trans rfl
    have hf0 := qe HP5.out.ho 0
    have hf1 := qe HP5.out.ho 1
    have hf2 := qe HP5.out.ho 2
    obtain ⟨A4x, c4x, e4⟩ := Kd.R_slice HR4b.out
    subst e4
    obtain ⟨A5x, c5x, e5⟩ := Kd.R_slice HR5b.out
    subst e5
    go_wp2
    refine bodyPost_ret (results_ct rfl _ _ (w.heap.size + 1) 85 _ (0, 0) _ rfl (put3 HP5.out.ho) Try.underlying85 rfl (by kernel_rfl)) rfl ?_
    exact ⟨_, _, _, rfl, R_set3 HR4b.out HP5.out.ho (by decide), R_set3 HR5b.out HP5.out.ho (by decide), Kd.R_nil _ _ _ _ _, below3 HP5.out.hb (by omega)⟩
end Go.Proofs.Ytidjdkodgddfcaa.P
end

section
namespace Go.Proofs.Ytidjdkodgddfcaa.P
open Go.RowKit Go.Proofs.YtidjdkodgddfcaaW.PrintWords Go.Proofs.YtidjdkodgddfcaaW.PrintLast Go.Proofs.YtidjdkodgddfcaaW.PrintMore
attribute [local go_sem] str_gtr str_leq str_geq qb1 qz max_two min_two qv qu qa1 qy
set_option linter.unusedVariables false
set_option linter.unusedSimpArgs false
def cutS (n : Nat) (torn : Int) (i : Nat) (a : Int) (d : ByteArray) : ByteArray := if i + 1 = n ∧ a = 1 ∧ torn < (d.size : Int) then d.extract 0 torn.toNat else d
def spec_Crash.l1 : Nat → List S157 → List Int → Int → List S170 → Nat → Option (List S170 × List S170 × List S157 × Bool)
 | 0, _, _, _, _, _ => none
 | k + 1, ops, keep, torn, cur, i => if i < keep.length then (if 0 ≤ keep.getD i 0 ∧ keep.getD i 0 < (ops.length : Int) then (spec_l6Do.f k cur (qi ops (keep.getD i 0)).f0 (qi ops (keep.getD i 0)).f1 (qi ops (keep.getD i 0)).f2 (cutS keep.length torn i (qi ops (keep.getD i 0)).f0 (qi ops (keep.getD i 0)).f3)).bind fun b => spec_Crash.l1 k ops keep torn b.1 (i + 1) else none) else (spec_l6Files.f k cur).bind fun t => if t = true then (if cur.length < 4398046511104 then some (cur, cur, [], true) else none) else some ([], [], [], false)
def spec_Crash.l0 : Nat → List S157 → List Int → Int → List S170 → Nat → Option (List S170 × List S170 × List S157 × Bool)
 | 0, _, _, _, _, _ => none
 | k + 1, ops, keep, torn, safe, i => if i < keep.length then (if kOk ops.length keep i = true then spec_Crash.l0 k ops keep torn safe (i + 1) else some ([], [], [], false)) else (if safe.length < 4398046511104 then spec_Crash.l1 k ops keep torn safe 0 else none)
def spec_Crash.f (k : Nat) (l0_0 : List S170) (l0_1 : List S170) (l0_2 : List S157) (l1 : List Int) (a2 : Int) : Option (List S170 × List S170 × List S157 × Bool) := (spec_DiskOk.f k l0_0 l0_1 l0_2).bind fun t => if t = true then (if a2 < 0 then some ([], [], [], false) else spec_Crash.l0 k l0_2 l1 a2 l0_1 0) else some ([], [], [], false)
theorem ite_someC {α : Type} {c : Prop} [Decidable c] {a : Option α} {r : α} (h : (if c then a else none) = some r) : c ∧ a = some r := by
 split at h
 ·rename_i hc; exact ⟨hc, h⟩
 ·cases h
theorem R_emptyF (w : World) (base : Nat) (hb : base ≤ w.heap.size) : Kd.R k170 170 (w.alloc (.cells #[] 170)) base (fun _ => True) (.slice (some ⟨w.heap.size, 0, none⟩) 0 0) [] :=
 ⟨fun _ _ => trivial, [], World.ownsRow_made w #[] 0 hb (Nat.zero_le _) (by simp), Reps.none _ _⟩
set_option maxHeartbeats 8000000 in
set_option maxRecDepth 100000 in
theorem spec_Crash.calls (k : Nat) (A0_0 : Option Addr) (c0_0 : Nat) (l0_0 : List S170) (A0_1 : Option Addr) (c0_1 : Nat) (l0_1 : List S170) (A0_2 : Option Addr) (c0_2 : Nat) (l0_2 : List S157) (A1 : Option Addr) (c1 : Nat) (l1 : List Int) (a2 : Int) (r1 : List S170) (r2 : List S170) (r3 : List S157) (r4 : Bool) (w : World) (hr0_0 : Kd.C k170 w A0_0 l0_0.length l0_0) (hc0_0 : l0_0.length ≤ c0_0) (hr0_1 : Kd.C k170 w A0_1 l0_1.length l0_1) (hc0_1 : l0_1.length ≤ c0_1) (hr0_2 : Kd.C k157 w A0_2 l0_2.length l0_2) (hc0_2 : l0_2.length ≤ c0_2) (hr1 : Kd.C (Kd.int .i64) w A1 l1.length l1) (hc1 : l1.length ≤ c1) (h : spec_Crash.f k l0_0 l0_1 l0_2 l1 a2 = some (r1, r2, r3, r4)) :
  Calls Try.prog 54 #[.agg #[.slice A0_0 l0_0.length c0_0, .slice A0_1 l0_1.length c0_1, .slice A0_2 l0_2.length c0_2], .slice A1 l1.length c1, .int .i64 a2] w fun e w' => ∃ v0_ v1_ v2_ : Value, e = .returned (.tuple #[.agg #[v0_, v1_, v2_], .bool r4]) ∧ Kd.R k170 170 w' w.heap.size (fun k_ => some k_ ≠ (v1_ : Value).ownBlock) v0_ r1 ∧ Kd.R k170 170 w' w.heap.size (fun k_ => some k_ ≠ (v0_ : Value).ownBlock) v1_ r2 ∧ Kd.R k157 157 w' w.heap.size (fun _ => True) v2_ r3 ∧ Below w.heap.size w w' := by
 have hu85 := Try.underlying85
 have hu157 := Try.underlying157
 have H1 := Qz.mk hr0_1
 have H2 := Qz.mk hr0_2
 have H3 := Qz.mk hr1
 have C1 := Qz.mk hc0_1
 have H0 := Qz.mk hr0_0
 have C0 := Qz.mk hc0_0
 have C2 := Qz.mk hc0_2
 have hu82 := Try.underlying82
 have mixed : Try.prog.follows .mixedOrders = true := by kernel_rfl
 have hlo := Kd.C_max hr0_2
 have hlk := Kd.C_max hr1
 clear hr0_0 hr0_1 hr0_2 hr1 hc0_0 hc0_1 hc0_2 hc1
 have hf : ∀ W' : World, W'.heap[w.heap.size + 1]? = some (.cells #[.slice none 0 0, .slice none 0 0, .slice none 0 0] 85 (0, 0)) → Below w.heap.size w W' → ∀ tmps : Array Value, tmps.getD 6 undef = .pointer (some ⟨w.heap.size + 1, 0, none⟩) → tmps.getD 7 undef = .bool false → (r1, r2, r3, r4) = (([] : List S170), ([] : List S170), ([] : List S157), false) →
   bodyPost Try.prog Try.f54 (fun e w' => ∃ v0_ v1_ v2_ : Value, e = .returned (.tuple #[.agg #[v0_, v1_, v2_], .bool r4]) ∧ Kd.R k170 170 w' w.heap.size (fun k_ => some k_ ≠ (v1_ : Value).ownBlock) v0_ r1 ∧ Kd.R k170 170 w' w.heap.size (fun k_ => some k_ ≠ (v0_ : Value).ownBlock) v1_ r2 ∧ Kd.R k157 157 w' w.heap.size (fun _ => True) v2_ r3 ∧ Below w.heap.size w w') Exit.ret ⟨tmps, []⟩ W' := by
  intro W' hb hB tmps h4 h5 hr
  simp only [Prod.mk.injEq] at hr
  obtain ⟨rfl, rfl, rfl, rfl⟩ := hr
  refine bodyPost_ret (results_ct rfl _ _ (w.heap.size + 1) 85 _ (0, 0) _ h4 hb Try.underlying85 rfl (by kernel_rfl)) rfl ?_
  rw [h5]
  exact ⟨_, _, _, rfl, Kd.R_nil _ _ _ _ _, Kd.R_nil _ _ _ _ _, Kd.R_nil _ _ _ _ _, hB⟩
 have HF := Qz.mk hf
 clear hf
 have HS := Qz.mk (CrB.start w #[.slice A0_0 l0_0.length c0_0, .slice A0_1 l0_1.length c0_1, .slice A0_2 l0_2.length c0_2])
 unfold spec_Crash.f at h
 obtain ⟨t, A1_, h⟩ := Option.bind_eq_some_iff.mp h
 have A1 := Qz.mk A1_
 have HH := Qz.mk h
 clear A1_ h
 go_enter Try.func54, Try.ntmps54
 have hz0 := (qd HS.out.hv 0).trans rfl
 have hz1 := (qd HS.out.hv 1).trans rfl
 have hz2 := (qd HS.out.hv 2).trans rfl
 go_wp2_with fail
 generalize (w.alloc (.cells #[.slice A0_0 l0_0.length c0_0, .slice A0_1 l0_1.length c0_1, .slice A0_2 l0_2.length c0_2] 85)).alloc (.cells #[.slice none 0 0, .slice none 0 0, .slice none 0 0] 85) = W0 at HS hz0 hz1 hz2 ⊢
 (with_reducible refine (spec_DiskOk.calls k A0_0 c0_0 l0_0 (fun k_ => k_ < W0.heap.size) A0_1 c0_1 l0_1 A0_2 c0_2 l0_2 t W0 (Kd.C_below H0.out HS.out.hb) C0.out (Kd.V_mk C1.out (Kd.C_F k170_heap (Kd.C_below H1.out HS.out.hb))) (Kd.C_below H2.out HS.out.hb) C2.out A1.out).mono ?_)
 rintro e w1 ⟨rfl, hb1⟩
 have HP := Qz.mk (HS.out.below hb1)
 clear hb1 HS hz0 hz1 hz2 A1 H0 C0
 have hq0 := (qd HP.out.ho 0).trans rfl
 have hq1 := (qd HP.out.ho 1).trans rfl
 have hq2 := (qd HP.out.ho 2).trans rfl
 have hf0 := qe HP.out.ho 0
 have hf1 := qe HP.out.ho 1
 have hf2 := qe HP.out.ho 2
 cases t with
 | false =>
  have hh := (Option.some.inj ((if_neg (show ¬ false = true by decide)).symm.trans HH.out)).symm
  go_wp2
  exact HF.out _ (put3 HP.out.ho) (below3 HP.out.hb (by omega)) _ rfl rfl hh
 | true =>
 replace HH := Qz.mk ((if_pos (show true = true from rfl)).symm.trans HH.out)
 by_cases ct : a2 < 0
 ·have ctb : decide (a2 < 0) = true := decide_eq_true ct
  have hh := (Option.some.inj ((if_pos ct).symm.trans HH.out)).symm
  clear ct
  go_wp2
  exact HF.out _ (put3 HP.out.ho) (below3 HP.out.hb (by omega)) _ rfl rfl hh
 have ctb : decide (a2 < 0) = false := decide_eq_false ct
 replace HH := Qz.mk ((if_neg ct).symm.trans HH.out)
 have HT : Qz (0 ≤ a2) := ⟨by omega⟩
 clear ct hq0 hq1 hq2 hf0 hf1 hf2
 go_wp2
 go_loopg [8] k (fun kq v8 wr => ∃ i : Nat, v8 = .int .i64 i ∧ Qz (spec_Crash.l0 kq l0_2 l1 a2 l0_1 i = some (r1, r2, r3, r4)) ∧ i ≤ l1.length ∧ Qz (kq ≤ k) ∧ Qz (CrB w #[.slice A0_0 l0_0.length c0_0, .slice A0_1 l0_1.length c0_1, .slice A0_2 l0_2.length c0_2] wr))
 case atStart => exact ⟨0, rfl, HH, Nat.zero_le _, ⟨Nat.le_refl _⟩, HP⟩
 case round =>
  clear HH HP ctb
  obtain ⟨i, rfl, HA, hil, HK, HP⟩ := hrel
  rename World => wr
  cases gk with
  | zero => exact absurd HA.out (by simp [spec_Crash.l0])
  | succ k1 =>
  have H := HA.out
  clear HA
  simp only [spec_Crash.l0] at H
  have hz2 := (qd HP.out.hv 2).trans rfl
  by_cases ci : i < l1.length
  ·rw [if_pos ci] at H
   have cib : decide ((i : Int) < (l1.length : Int)) = true := decide_eq_true (by omega)
   have cin : decide (i < l1.length) = true := decide_eq_true ci
   have hw1 : wrap64 ((i : Int) + 1) = ((i + 1 : Nat) : Int) := by unfold wrap64; omega
   have hwn : wrap64 ((l0_2.length : Int) - 1) = (l0_2.length : Int) - 1 := by unfold wrap64; omega
   have hwn2 : IntKind.i64.wrap ((l0_2.length : Int) - 1) = (l0_2.length : Int) - 1 := by rw [IntKind.wrap_i64]; omega
   obtain ⟨adk, cc, ead, _, hKn, hc0⟩ := Kd.C_get H3.out (0 : Int) (i : Int) (by omega) (by omega)
   obtain rfl : cc = [.int .i64 (l1.getD (i : Int).toNat 0)] := hKn
   have hxi := hc0 0 _ rfl
   cases ead
   rw [show (Kd.int .i64).sz = 1 from rfl, Nat.mul_one, Nat.add_zero, Int.toNat_natCast] at hxi
   replace hxi := (HP.out.hb.cell (World.block_lt_of_cell? w _ hxi)).trans hxi
   clear hc0
   unfold kOk at H
   generalize hkey : l1.getD i 0 = key at hxi H
   clear hkey
   have hwi := in_ev key 0 ((l0_2.length : Int) - 1)
   have hprev : i ≠ 0 → wrap64 ((i : Int) - 1) = ((i - 1 : Nat) : Int) ∧ wr.cell? (adk.add (i - 1)) = some (.int .i64 (l1.getD (i - 1) 0)) := by
    intro z
    refine ⟨by unfold wrap64; omega, ?_⟩
    obtain ⟨adk2, cc, ead, _, hKn, hc0⟩ := Kd.C_get H3.out (0 : Int) ((i - 1 : Nat) : Int) (by omega) (by omega)
    obtain rfl : cc = [.int .i64 (l1.getD ((i - 1 : Nat) : Int).toNat 0)] := hKn
    have hxj := hc0 0 _ rfl
    cases ead
    rw [show (Kd.int .i64).sz = 1 from rfl, Nat.mul_one, Nat.add_zero, Int.toNat_natCast] at hxj
    exact (HP.out.hb.cell (World.block_lt_of_cell? w _ hxj)).trans hxj
   by_cases hp1 : 0 ≤ key ∧ key ≤ (l0_2.length : Int) - 1
   case neg =>
    rw [decide_eq_false hp1] at hwi H
    rw [Bool.false_and, if_neg (by decide)] at H
    have hh := (Option.some.inj H).symm
    have hm : ∀ n, Calls Try.prog 69 #[.int .i64 key, .int .i64 0, .int .i64 ((l0_2.length : Int) - 1)] (wr.drewN n) fun e w' => e = .returned (.bool false) ∧ ∃ m, w' = wr.drewN m := fun n => Calls.quiet_of ((spec_l1In.calls key 0 ((l0_2.length : Int) - 1) false (wr.drewN n) hwi).mono fun _ _ h => ⟨h.1, by obtain ⟨m, hm⟩ := h.2; exact ⟨m, hm⟩⟩)
    clear H hp1 hwi hprev
    have hq0 := (qd HP.out.ho 0).trans rfl
    have hq1 := (qd HP.out.ho 1).trans rfl
    have hq2 := (qd HP.out.ho 2).trans rfl
    have hf0 := qe HP.out.ho 0
    have hf1 := qe HP.out.ho 1
    have hf2 := qe HP.out.ho 2
    go_wp2
    refine wp_region_quiet_lit (by kernel_rfl) (by kernel_rfl) ?_
    iterate 11 (with_reducible refine qWant ?want_ (fun K hK => ?_); (case want_ => kernel_rfl); go_simp; (first | (with_reducible refine hK _ ?_; clear hK K) | (apply Exists.intro; refine ⟨fun _ => ?_, hK _ ?_⟩; (go_at_call 69; exact hm _); clear hK K)))
    iterate 14 (with_reducible refine qSkip ?skip_ (fun K hK => ?_); (case skip_ => kernel_rfl); go_simp; with_reducible refine hK _ ?_; clear hK K)
    iterate 1 (with_reducible refine qWant ?want_ (fun K hK => ?_); (case want_ => kernel_rfl); go_simp; (first | (with_reducible refine hK _ ?_; clear hK K) | (apply Exists.intro; refine ⟨fun _ => ?_, hK _ ?_⟩; (go_at_call 69; exact hm _); clear hK K)))
    refine wpQuiet_nil ?_
    intro _ hw_
    obtain ⟨nq, hw_⟩ := hw_
    subst hw_
    go_wp2
    exact HF.out _ (put3 (qh HP.out.ho _)) (below3 (qa HP.out.hb _) (by omega)) _ rfl rfl hh
   rw [decide_eq_true hp1] at hwi H
   rw [Bool.true_and] at H
   have hm : ∀ n, Calls Try.prog 69 #[.int .i64 key, .int .i64 0, .int .i64 ((l0_2.length : Int) - 1)] (wr.drewN n) fun e w' => e = .returned (.bool true) ∧ ∃ m, w' = wr.drewN m := fun n => Calls.quiet_of ((spec_l1In.calls key 0 ((l0_2.length : Int) - 1) true (wr.drewN n) hwi).mono fun _ _ h => ⟨h.1, by obtain ⟨m, hm⟩ := h.2; exact ⟨m, hm⟩⟩)
   clear hwi hp1
   by_cases z : i = 0
   case' pos =>
    have ciz : decide ((0 : Int) < (i : Int)) = false := decide_eq_false (by omega)
    have ciz2 : decide (0 < i) = false := decide_eq_false (by omega)
    rw [if_pos (by simp [z])] at H
    have HH := Qz.mk H
    clear z H hprev
    go_wp2
    refine wp_region_quiet_lit (by kernel_rfl) (by kernel_rfl) ?_
    iterate 14 (with_reducible refine qWant ?want_ (fun K hK => ?_); (case want_ => kernel_rfl); go_simp; (first | (with_reducible refine hK _ ?_; clear hK K) | (apply Exists.intro; refine ⟨fun _ => ?_, hK _ ?_⟩; (go_at_call 69; exact hm _); clear hK K)))
    iterate 10 (with_reducible refine qSkip ?skip_ (fun K hK => ?_); (case skip_ => kernel_rfl); go_simp; with_reducible refine hK _ ?_; clear hK K)
    iterate 2 (with_reducible refine qWant ?want_ (fun K hK => ?_); (case want_ => kernel_rfl); go_simp; (first | (with_reducible refine hK _ ?_; clear hK K) | (apply Exists.intro; refine ⟨fun _ => ?_, hK _ ?_⟩; (go_at_call 69; exact hm _); clear hK K)))
    refine wpQuiet_nil ?_
    intro _ hw_
    obtain ⟨nq, hw_⟩ := hw_
    subst hw_
   case' neg =>
    obtain ⟨hwp, hxp⟩ := hprev z
    have ciz : decide ((0 : Int) < (i : Int)) = true := decide_eq_true (by omega)
    have ciz2 : decide (0 < i) = true := decide_eq_true (by omega)
    generalize l1.getD (i - 1) 0 = key2 at hxp H
    obtain ⟨j, hj⟩ : ∃ j : Nat, j = i - 1 := ⟨_, rfl⟩
    have hwi : IntKind.i64.wrap ((i : Int) - 1) = (j : Int) := by rw [IntKind.wrap_i64]; omega
    rw [← hj] at hwp hxp
    have cjb : (j : Int) < (l1.length : Int) := by omega
    by_cases hbad : key ≤ key2
    case pos =>
     have hbd : decide (key ≤ key2) = true := decide_eq_true hbad
     rw [if_neg (by rw [decide_eq_false (show ¬ key2 < key by omega), Bool.or_false]; simpa using z)] at H
     have hh := (Option.some.inj H).symm
     clear H hprev hbad hj z
     have hq0 := (qd HP.out.ho 0).trans rfl
     have hq1 := (qd HP.out.ho 1).trans rfl
     have hq2 := (qd HP.out.ho 2).trans rfl
     have hf0 := qe HP.out.ho 0
     have hf1 := qe HP.out.ho 1
     have hf2 := qe HP.out.ho 2
     go_wp2
     refine wp_region_quiet_lit (by kernel_rfl) (by kernel_rfl) ?_
     iterate 26 (with_reducible refine qWant ?want_ (fun K hK => ?_); (case want_ => kernel_rfl); go_simp; (first | (with_reducible refine hK _ ?_; clear hK K) | (apply Exists.intro; refine ⟨fun _ => ?_, hK _ ?_⟩; (go_at_call 69; exact hm _); clear hK K)))
     refine wpQuiet_nil ?_
     intro _ hw_
     obtain ⟨nq, hw_⟩ := hw_
     subst hw_
     go_wp2
     exact HF.out _ (put3 (qh HP.out.ho _)) (below3 (qa HP.out.hb _) (by omega)) _ rfl rfl hh
    have hbd : decide (key ≤ key2) = false := decide_eq_false hbad
    rw [if_pos (by rw [decide_eq_true (show key2 < key by omega), Bool.or_true])] at H
    have HH := Qz.mk H
    clear H hprev hbad hj z
    go_wp2
    refine wp_region_quiet_lit (by kernel_rfl) (by kernel_rfl) ?_
    iterate 26 (with_reducible refine qWant ?want_ (fun K hK => ?_); (case want_ => kernel_rfl); go_simp; (first | (with_reducible refine hK _ ?_; clear hK K) | (apply Exists.intro; refine ⟨fun _ => ?_, hK _ ?_⟩; (go_at_call 69; exact hm _); clear hK K)))
    refine wpQuiet_nil ?_
    intro _ hw_
    obtain ⟨nq, hw_⟩ := hw_
    subst hw_
   all_goals
    go_wp2
    go_roundg k1
    case measure => exact Nat.lt_succ_self _
    case rel => exact ⟨i + 1, by first | rfl | (rw [← hw1]; rfl), HH, by omega, ⟨by have := HK.out; omega⟩, ⟨HP.out.below (qa (Below.refl _ _) _)⟩⟩
  ·rw [if_neg ci] at H
   have cib : decide ((i : Int) < (l1.length : Int)) = false := decide_eq_false (by omega)
   have cin : decide (i < l1.length) = false := decide_eq_false ci
   have hls := (ite_someC H).1
   have HL : Qz (l0_1.length < 4398046511104) := ⟨hls⟩
   have HH := Qz.mk (ite_someC H).2
   clear H hz2 hls
   have hz1 := fun o => (qd (qg HP.out.hv o) 1).trans rfl
   go_wp2_with (first | ((with_reducible refine gate_builtin (b := .append) (xs := #[.tmp 53, .tmp 55]) rfl ?_); at_builtin; refine Kd.R_append_rows k170 (w0 := wr) wr.heap.size rfl (.tmp 53) (.tmp 55) 82 170 (.agg #[.string ⟨#[]⟩, .string ⟨#[]⟩]) 32 rfl hu82 info170 rfl (by decide) (by omega) (.slice (some ⟨wr.heap.size, 0, none⟩) 0 0) [] l0_1 _ _ _ (fun _ => True) (fun _ => False) rfl rfl ?aO ?aR (fun _ _ h => h) (fun _ h => h.elim) ?aF ?aB ?aS ?aL ?_; (case aO => exact R_emptyF wr _ (Nat.le_refl _)); (case aR => exact Kd.C_below (Kd.C_below H1.out HP.out.hb) ((Below.refl _ wr).alloc (Nat.le_refl _) _)); (case aF => exact fun _ _ => trivial); (case aB => exact (Below.refl _ wr).alloc (Nat.le_refl _) _); (case aS => exact ((Below.refl _ wr).alloc (Nat.le_refl _) _).size); (case aL => have := HL.out; simp only [List.length_nil]; omega); intro v2 W2 ho2 hb2 hg2 hat2; (rw [List.nil_append] at ho2); obtain ⟨Ax, cx, ex⟩ := Kd.R_slice ho2; subst ex; have HM2 := Qz.mk (Kd.R_lower ho2 HP.out.hb.size); have HP2 := Qz.mk (HP.out.below hb2); clear ho2 hb2 hg2 hat2))
   clear HP hz1
   go_loopg [9, 10] k1 (fun kq v9 v10 wr2 => ∃ (A : Option Addr) (c : Nat) (cur : List S170) (i : Nat), v9 = .slice A cur.length c ∧ v10 = .int .i64 i ∧ Qz (spec_Crash.l1 kq l0_2 l1 a2 cur i = some (r1, r2, r3, r4)) ∧ i ≤ l1.length ∧ Qz (kq ≤ k1) ∧ Qz (CrB w #[.slice A0_0 l0_0.length c0_0, .slice A0_1 l0_1.length c0_1, .slice A0_2 l0_2.length c0_2] wr2) ∧ Qz (Kd.R k170 170 wr2 w.heap.size (fun _ => True) (.slice A cur.length c) cur))
   case atStart => exact ⟨Ax, cx, l0_1, 0, rfl, rfl, HH, Nat.zero_le _, ⟨Nat.le_refl _⟩, HP2, HM2⟩
   case round =>
    clear HH HP2 HM2 cib cin ci hil
    rename World => wr3
    obtain ⟨A, c, cur, i, rfl, rfl, HA, hil, HK2, HP, HM⟩ := hrel
    rename World => wr
    cases gk with
    | zero => exact absurd HA.out (by simp [spec_Crash.l1])
    | succ k2 =>
    have H := HA.out
    clear HA
    simp only [spec_Crash.l1] at H
    have hz2 := (qd HP.out.hv 2).trans rfl
    by_cases ci : i < l1.length
    ·rw [if_pos ci] at H
     have cib : decide ((i : Int) < (l1.length : Int)) = true := decide_eq_true (by omega)
     have cin : decide (i < l1.length) = true := decide_eq_true ci
     have hw1 : wrap64 ((i : Int) + 1) = ((i + 1 : Nat) : Int) := by unfold wrap64; omega
     have hwk : wrap64 ((l1.length : Int) - 1) = (l1.length : Int) - 1 := by unfold wrap64; omega
     obtain ⟨adk, cc, ead, _, hKn, hc0⟩ := Kd.C_get H3.out (0 : Int) (i : Int) (by omega) (by omega)
     obtain rfl : cc = [.int .i64 (l1.getD (i : Int).toNat 0)] := hKn
     have hxi := hc0 0 _ rfl
     cases ead
     rw [show (Kd.int .i64).sz = 1 from rfl, Nat.mul_one, Nat.add_zero, Int.toNat_natCast] at hxi
     replace hxi := (HP.out.hb.cell (World.block_lt_of_cell? w _ hxi)).trans hxi
     clear hc0
     generalize hkey : l1.getD i 0 = key at hxi H
     clear hkey
     have hk := (ite_someC H).1
     replace H := (ite_someC H).2
     obtain ⟨ado, eo, o0, o1, o2, o3⟩ := at_T157 H2.out key hk.1 hk.2
     cases eo
     replace o0 := (HP.out.hb.cell (World.block_lt_of_cell? w _ o0)).trans o0
     replace o1 := (HP.out.hb.cell (World.block_lt_of_cell? w _ o1)).trans o1
     replace o2 := (HP.out.hb.cell (World.block_lt_of_cell? w _ o2)).trans o2
     replace o3 := (HP.out.hb.cell (World.block_lt_of_cell? w _ o3)).trans o3
     generalize qi l0_2 key = o at o0 o1 o2 o3 H
     obtain ⟨⟨nx, fd⟩, A5_, H⟩ := Option.bind_eq_some_iff.mp H
     have A5 := Qz.mk A5_
     have HH := Qz.mk H
     clear A5_ H
     have hpk : (0 ≤ key) = True := eq_true hk.1
     have hpl : (key < (l0_2.length : Int)) = True := eq_true hk.2
     clear hk
     have y_hxi := fun o => (((Below.refl wr.heap.size wr).alloc (Nat.le_refl _) o).cell (World.block_lt_of_cell? _ _ hxi)).trans hxi
     have y_o0 := fun o => (((Below.refl wr.heap.size wr).alloc (Nat.le_refl _) o).cell (World.block_lt_of_cell? _ _ o0)).trans o0
     have y_o1 := fun o => (((Below.refl wr.heap.size wr).alloc (Nat.le_refl _) o).cell (World.block_lt_of_cell? _ _ o1)).trans o1
     have y_o2 := fun o => (((Below.refl wr.heap.size wr).alloc (Nat.le_refl _) o).cell (World.block_lt_of_cell? _ _ o2)).trans o2
     have y_o3 := fun o => (((Below.refl wr.heap.size wr).alloc (Nat.le_refl _) o).cell (World.block_lt_of_cell? _ _ o3)).trans o3
     have y_hz2 := fun o => (((Below.refl wr.heap.size wr).alloc (Nat.le_refl _) o).cell (World.block_lt_of_cell? _ _ hz2)).trans hz2
     go_wp2
     go_region
     clear y_hxi y_o0 y_o1 y_o2 y_o3 y_hz2
     have hlb : decide ((i : Int) = (l1.length : Int) - 1) = decide (i + 1 = l1.length) := decide_eq_decide.2 (by omega)
     have hlc : ((i : Int) == (l1.length : Int) - 1) = decide (i + 1 = l1.length) := by rw [← hlb]; rfl
     have h4 : (decide (i + 1 = l1.length) = false ∧ cutS l1.length a2 i o.f0 o.f3 = o.f3) ∨ (decide (i + 1 = l1.length) = true ∧ decide (o.f0 = 1) = false ∧ cutS l1.length a2 i o.f0 o.f3 = o.f3) ∨ (decide (i + 1 = l1.length) = true ∧ decide (o.f0 = 1) = true ∧ ¬ a2 < (o.f3.size : Int) ∧ cutS l1.length a2 i o.f0 o.f3 = o.f3) ∨ (decide (i + 1 = l1.length) = true ∧ decide (o.f0 = 1) = true ∧ a2 < (o.f3.size : Int) ∧ cutS l1.length a2 i o.f0 o.f3 = o.f3.extract 0 a2.toNat) := by
      unfold cutS
      by_cases q : i + 1 = l1.length
      ·by_cases y : o.f0 = 1
       ·by_cases x : a2 < (o.f3.size : Int)
        ·exact .inr (.inr (.inr ⟨decide_eq_true q, decide_eq_true y, x, if_pos ⟨q, y, x⟩⟩))
        ·exact .inr (.inr (.inl ⟨decide_eq_true q, decide_eq_true y, x, if_neg (fun h => x h.2.2)⟩))
       ·exact .inr (.inl ⟨decide_eq_true q, decide_eq_false y, if_neg (fun h => y h.2.1)⟩)
      ·exact .inl ⟨decide_eq_false q, if_neg (fun h => q h.1)⟩
     have hyb : (o.f0 == 1) = decide (o.f0 = 1) := rfl
     rcases h4 with ⟨hl, hcut⟩ | ⟨hl, hy, hcut⟩ | ⟨hl, hy, hx, hcut⟩ | ⟨hl, hy, hx, hcut⟩
     case' inr.inl => rw [hy] at hyb
     case' inr.inr.inl =>
      rw [hy] at hyb
      have hx1 : decide (a2 < (o.f3.size : Int)) = false := decide_eq_false hx
      clear hx
     case' inr.inr.inr =>
      rw [hy] at hyb
      have hx1 : decide (a2 < (o.f3.size : Int)) = true := decide_eq_true hx
      have hx2 : (0 ≤ a2) = True := eq_true HT.out
      have hx3 : (a2 ≤ (o.f3.size : Int)) = True := eq_true (by omega)
      have hx4 : decide (0 ≤ a2) = true := decide_eq_true HT.out
      have hx5 : decide (a2 ≤ (o.f3.size : Int)) = true := decide_eq_true (by omega)
      clear hx
     all_goals
      rw [hl] at hlb hlc
      rw [hcut] at A5
      clear hl o0 o1 o2 o3 hz2 hxi hpk hpl
      go_wp2_with fail
      have hB3 : Below wr.heap.size wr ((wr.alloc (.cells #[.int .i64 o.f0, .string o.f1, .string o.f2, .string (cutS l1.length a2 i o.f0 o.f3)] 157)).drew) := below_drew ((Below.refl _ wr).alloc (Nat.le_refl _) _)
      rw [hcut] at hB3
      (with_reducible refine (spec_l6Do.calls k2 A c cur o.f0 o.f1 o.f2 _ nx fd _ (Kd.C_below (Kd.R_reads' HM.out).2.2 hB3) (Kd.R_reads' HM.out).2.1 A5.out).mono ?_)
      rintro e w5 ⟨v5, rfl, hR5, hB5⟩
      have HP5 := Qz.mk (HP.out.below (hB3.trans (hB5.mono hB3.size)))
      have HM5 := Qz.mk (Kd.R_lower hR5 (Nat.le_trans HP.out.hb.size hB3.size))
      clear hR5 hB5 hB3 A5 HP HM
      obtain ⟨A5x, c5x, e5⟩ := Kd.R_slice HM5.out
      subst e5
      go_wp2
      go_roundg k2
      case measure => exact Nat.lt_succ_self _
      case rel => exact ⟨A5x, c5x, nx, i + 1, rfl, by first | rfl | (rw [← hw1]; rfl), HH, by omega, ⟨by have := HK2.out; omega⟩, HP5, HM5⟩
    ·rw [if_neg ci] at H
     have cib : decide ((i : Int) < (l1.length : Int)) = false := decide_eq_false (by omega)
     have cin : decide (i < l1.length) = false := decide_eq_false ci
     obtain ⟨t, A1_, H⟩ := Option.bind_eq_some_iff.mp H
     have A1 := Qz.mk A1_
     clear A1_ hz2
     go_wp2_with fail
     (with_reducible refine (spec_l6Files.calls k2 A c cur t wr (Kd.R_reads' HM.out).2.2 (Kd.R_reads' HM.out).2.1 A1.out).mono ?_)
     rintro e w3 ⟨rfl, hb3⟩
     have HP3 := Qz.mk (HP.out.below hb3)
     have HM3 := Qz.mk (Kd.R_below HM.out hb3)
     clear hb3 HP HM A1
     cases t with
     | false =>
      rw [if_neg (by decide)] at H
      have hh := (Option.some.inj H).symm
      clear H
      have hq0 := (qd HP3.out.ho 0).trans rfl
      have hq1 := (qd HP3.out.ho 1).trans rfl
      have hq2 := (qd HP3.out.ho 2).trans rfl
      have hf0 := qe HP3.out.ho 0
      have hf1 := qe HP3.out.ho 1
      have hf2 := qe HP3.out.ho 2
      go_wp2
      exact HF.out _ (put3 HP3.out.ho) (below3 HP3.out.hb (by omega)) _ rfl rfl hh
     | true =>
      rw [if_pos rfl] at H
      have hls := (ite_someC H).1
      have HL : Qz (cur.length < 4398046511104) := ⟨hls⟩
      have hh := Option.some.inj (ite_someC H).2
      simp only [Prod.mk.injEq] at hh
      obtain ⟨rfl, rfl, rfl, rfl⟩ := hh
      clear H hls
      have HC3 := Qz.mk (Kd.R_reads' HM3.out)
      go_wp2_with (first | ((with_reducible refine gate_builtin (b := .append) (xs := #[.tmp 104, .tmp 105]) rfl ?_); at_builtin; refine Kd.R_append_rows k170 (w0 := w3) w3.heap.size rfl (.tmp 104) (.tmp 105) 82 170 (.agg #[.string ⟨#[]⟩, .string ⟨#[]⟩]) 32 rfl hu82 info170 rfl (by decide) (by omega) (.slice (some ⟨w3.heap.size, 0, none⟩) 0 0) [] cur _ _ _ (fun _ => True) (fun _ => False) rfl rfl ?aO ?aR (fun _ _ h => h) (fun _ h => h.elim) ?aF ?aB ?aS ?aL ?_; (case aO => exact R_emptyF w3 _ (Nat.le_refl _)); (case aR => exact Kd.C_below HC3.out.2.2 ((Below.refl _ w3).alloc (Nat.le_refl _) _)); (case aF => exact fun _ _ => trivial); (case aB => exact (Below.refl _ w3).alloc (Nat.le_refl _) _); (case aS => exact ((Below.refl _ w3).alloc (Nat.le_refl _) _).size); (case aL => have := HL.out; simp only [List.length_nil]; omega); intro v5 W5 ho5 hb5 hg5 hat5; (rw [List.nil_append] at ho5); have HP5 := Qz.mk (HP3.out.below hb5); have hap : ∀ q, (Value.slice A cur.length c).ownBlock = some q → v5.ownBlock ≠ some q := (fun q h4 h5 => by have a1 := R_ltF HM3.out q h4; have a2 := Kd.R_base ho5 q h5; omega); have HR4b := Qz.mk (R_okF (ok := fun k_ => some k_ ≠ v5.ownBlock) (Kd.R_below HM3.out hb5) (fun q hq he => hap q hq he.symm)); have HR5b := Qz.mk (R_okF (ok := fun k_ => some k_ ≠ (Value.slice A cur.length c).ownBlock) (Kd.R_lower ho5 HP3.out.hb.size) (fun q hq he => hap q he.symm hq)); obtain ⟨A5x, c5x, e5⟩ := Kd.R_slice ho5; subst e5; have hq0 := (qd HP5.out.ho 0).trans rfl; have hq1 := (qd HP5.out.ho 1).trans rfl; have hq2 := (qd HP5.out.ho 2).trans rfl; have hf0 := qe HP5.out.ho 0; have hf1 := qe HP5.out.ho 1; have hf2 := qe HP5.out.ho 2; clear ho5 hb5 hg5 hat5 hap))
      refine bodyPost_ret (results_ct rfl _ _ (w.heap.size + 1) 85 _ (0, 0) _ rfl (put3 HP5.out.ho) Try.underlying85 rfl (by kernel_rfl)) rfl ?_
      exact ⟨_, _, _, rfl, R_set3 HR4b.out HP5.out.ho (by decide), R_set3 HR5b.out HP5.out.ho (by decide), Kd.R_nil _ _ _ _ _, below3 HP5.out.hb (by omega)⟩
theorem yq44 {P : Prop} (h : P := by repeat (first | (with_reducible first | exact HB.out | apply qc | apply qa | apply qb) | exact HB.out)) : P := h
def laws_szFile.f (a0_0 : ByteArray) (a0_1 : ByteArray) (a1 : Int) : Option (Int) := if (wrap64 (a1 - (a0_0.size : Int))) < 0 then (some (-1)) else (if (wrap64 ((wrap64 (a1 - (a0_0.size : Int))) - (a0_1.size : Int))) < 0 then (some (-1)) else (some (wrap64 ((wrap64 (a1 - (a0_0.size : Int))) - (a0_1.size : Int)))))
set_option maxHeartbeats 8000000 in
set_option maxRecDepth 100000 in
theorem laws_szFile.calls (a0_0 : ByteArray) (a0_1 : ByteArray) (a1 : Int) (r : Int) (w : World) (h : laws_szFile.f a0_0 a0_1 a1 = some r) :
  Calls Try.prog 172 #[.agg #[.string a0_0, .string a0_1], .int .i64 a1] w fun e w' => e = .returned (.int .i64 r) ∧ Below w.heap.size w w' := by
 have hu193 := Try.underlying193
 have HB := Qz.mk (Below.refl w.heap.size w)
 have H : (if (wrap64 (a1 - (a0_0.size : Int))) < 0 then (some (-1)) else (if (wrap64 ((wrap64 (a1 - (a0_0.size : Int))) - (a0_1.size : Int))) < 0 then (some (-1)) else (some (wrap64 ((wrap64 (a1 - (a0_0.size : Int))) - (a0_1.size : Int)))))) = some r := h
 clear h
 by_cases c3 : (wrap64 (a1 - (a0_0.size : Int))) < 0
 ·rw [if_pos c3] at H
  have c3b0 : decide ((wrap64 (a1 - (a0_0.size : Int))) < 0) = true := decide_eq_true c3
  clear c3
  obtain rfl := Option.some.inj H
  go_enter Try.func172, Try.ntmps172
  go_wp2_with (first | ((with_reducible refine qt (N := 2) rfl ?_); refine qr ?hg (N := 2) ?hd (cs := #[.string a0_0, .string a0_1]) (t := 193) ?hr ?_; (case hd => rfl); (case hg => rfl); (case hr => first | (go_simp; done) | (go_simp; rfl)); intro gb101 hg w4 hbox hb; have BK101 := Qz.mk (hbox); have GW101 := Qz.mk ((by rw [hg]; exact (qo yq44) : w.heap.size ≤ gb101)); have GE101 := GW101; replace HB := Qz.mk (ql yq44 hb); clear hb hbox hg; have hcz5_0 := (qd BK101.out 0).trans rfl; have hcz5_1 := (qd BK101.out 1).trans rfl; have hfz5_0 := qe BK101.out 0; have hfz5_1 := qe BK101.out 1))
  go_ret
  exact ⟨by first | rfl | (simp [qn, qm] <;> rfl) | (simp [*, qn, qm] <;> rfl), by repeat (first | (with_reducible first | exact HB.out | apply qc | apply qa | apply qb | refine qf ?_ GE101.out) | exact HB.out)⟩
 ·rw [if_neg c3] at H
  have c3b0 : decide ((wrap64 (a1 - (a0_0.size : Int))) < 0) = false := decide_eq_false c3
  clear c3
  by_cases c6 : (wrap64 ((wrap64 (a1 - (a0_0.size : Int))) - (a0_1.size : Int))) < 0
  ·rw [if_pos c6] at H
   have c6b0 : decide ((wrap64 ((wrap64 (a1 - (a0_0.size : Int))) - (a0_1.size : Int))) < 0) = true := decide_eq_true c6
   clear c6
   obtain rfl := Option.some.inj H
   go_enter Try.func172, Try.ntmps172
   go_wp2_with (first | ((with_reducible refine qt (N := 2) rfl ?_); refine qr ?hg (N := 2) ?hd (cs := #[.string a0_0, .string a0_1]) (t := 193) ?hr ?_; (case hd => rfl); (case hg => rfl); (case hr => first | (go_simp; done) | (go_simp; rfl)); intro gb101 hg w7 hbox hb; have BK101 := Qz.mk (hbox); have GW101 := Qz.mk ((by rw [hg]; exact (qo yq44) : w.heap.size ≤ gb101)); have GE101 := GW101; replace HB := Qz.mk (ql yq44 hb); clear hb hbox hg; have hcz8_0 := (qd BK101.out 0).trans rfl; have hcz8_1 := (qd BK101.out 1).trans rfl; have hfz8_0 := qe BK101.out 0; have hfz8_1 := qe BK101.out 1))
   go_ret
   exact ⟨by first | rfl | (simp [qn, qm] <;> rfl) | (simp [*, qn, qm] <;> rfl), by repeat (first | (with_reducible first | exact HB.out | apply qc | apply qa | apply qb | refine qf ?_ GE101.out) | exact HB.out)⟩
  ·rw [if_neg c6] at H
   have c6b0 : decide ((wrap64 ((wrap64 (a1 - (a0_0.size : Int))) - (a0_1.size : Int))) < 0) = false := decide_eq_false c6
   clear c6
   obtain rfl := Option.some.inj H
   go_enter Try.func172, Try.ntmps172
   go_wp2_with (first | ((with_reducible refine qt (N := 2) rfl ?_); refine qr ?hg (N := 2) ?hd (cs := #[.string a0_0, .string a0_1]) (t := 193) ?hr ?_; (case hd => rfl); (case hg => rfl); (case hr => first | (go_simp; done) | (go_simp; rfl)); intro gb101 hg w9 hbox hb; have BK101 := Qz.mk (hbox); have GW101 := Qz.mk ((by rw [hg]; exact (qo yq44) : w.heap.size ≤ gb101)); have GE101 := GW101; replace HB := Qz.mk (ql yq44 hb); clear hb hbox hg; have hcz10_0 := (qd BK101.out 0).trans rfl; have hcz10_1 := (qd BK101.out 1).trans rfl; have hfz10_0 := qe BK101.out 0; have hfz10_1 := qe BK101.out 1))
   go_ret
   exact ⟨by first | rfl | (simp [qn, qm] <;> rfl) | (simp [*, qn, qm] <;> rfl), by repeat (first | (with_reducible first | exact HB.out | apply qc | apply qa | apply qb | refine qf ?_ GE101.out) | exact HB.out)⟩
def laws_szFileS.l0 : Nat → List (S193) → Int → Int → Option (Int)
 | 0, _, _, _ => none
 | k + 1, x0, x1, x5 => if x5 < (x0.length : Int) then (if 0 ≤ x5 then ((laws_szFile.f ((rd_T193 x0 x5).f0) ((rd_T193 x0 x5).f1) x1).bind fun t102 => (if t102 < 0 then (some (-1)) else (laws_szFileS.l0 k x0 t102 (wrap64 (x5 + 1))))) else (none)) else (some x1)
def laws_szFileS.f (k : Nat) (l0 : List (S193)) (a1 : Int) : Option (Int) := if (wrap64 (a1 - (l0.length : Int))) < 0 then (some (-1)) else (laws_szFileS.l0 k l0 (wrap64 (a1 - (l0.length : Int))) 0)
set_option maxHeartbeats 8000000 in
set_option maxRecDepth 100000 in
theorem laws_szFileS.calls (k : Nat) (A0 : Option Addr) (c0 : Nat) (l0 : List (S193)) (a1 : Int) (r : Int) (w : World) (hr0 : Kd.C k193 w A0 l0.length l0) (hc0 : l0.length ≤ c0) (h : laws_szFileS.f k l0 a1 = some r) :
  Calls Try.prog 121 #[.slice A0 l0.length c0, .int .i64 a1] w fun e w' => e = .returned (.int .i64 r) ∧ Below w.heap.size w w' := by
 have hu193 := Try.underlying193
 have HR0 := Qz.mk hr0
 have HC0 := Qz.mk hc0
 clear hr0 hc0
 have HB := Qz.mk (Below.refl w.heap.size w)
 have H : (if (wrap64 (a1 - (l0.length : Int))) < 0 then (some (-1)) else (laws_szFileS.l0 k l0 (wrap64 (a1 - (l0.length : Int))) 0)) = some r := h
 clear h
 by_cases c3 : (wrap64 (a1 - (l0.length : Int))) < 0
 ·rw [if_pos c3] at H
  have c3b0 : decide ((wrap64 (a1 - (l0.length : Int))) < 0) = true := decide_eq_true c3
  clear c3
  obtain rfl := Option.some.inj H
  go_enter Try.func121, Try.ntmps121
  go_wp2
  go_ret
  exact ⟨by first | rfl | (simp [qn, qm] <;> rfl) | (simp [*, qn, qm] <;> rfl), by repeat (first | (with_reducible first | exact HB.out | apply qc | apply qa | apply qb) | exact HB.out)⟩
 ·rw [if_neg c3] at H
  have c3b0 : decide ((wrap64 (a1 - (l0.length : Int))) < 0) = false := decide_eq_false c3
  clear c3
  have H' := Qz.mk H
  clear H
  go_enter Try.func121, Try.ntmps121
  go_wp2
  go_loopg [1, 5] k (fun kq v1 v5 w' => ∃ (x1_1 : Int) (x5_1 : Int), v1 = .int .i64 x1_1 ∧ v5 = .int .i64 x5_1 ∧ Qz (laws_szFileS.l0 kq l0 x1_1 x5_1 = some r) ∧ Qz (kq ≤ k) ∧ Qz (Below w.heap.size w w'))
  case atStart => exact ⟨(wrap64 (a1 - (l0.length : Int))), (0), (by first | rfl | (simp; done) | (simp [*]; done)), (by first | rfl | (simp; done) | (simp [*]; done)), H', ⟨Nat.le_refl _⟩, ⟨by repeat (first | (with_reducible first | exact HB.out | apply qc | apply qa | apply qb) | exact HB.out)⟩⟩
  case round =>
   clear H'
   (try clear c1);(try clear p2);(try clear c3);(try clear c3b0)
   obtain ⟨x1_1, x5_1, rfl, rfl, HA, HK1, HB⟩ := hrel
   cases gk with
   | zero => exact absurd HA.out (by simp [laws_szFileS.l0])
   | succ k1 =>
    have H := HA.out
    clear HA
    simp only [laws_szFileS.l0] at H
    by_cases c4 : x5_1 < (l0.length : Int)
    ·rw [if_pos c4] at H
     have c4b0 : decide (x5_1 < (l0.length : Int)) = true := decide_eq_true c4
     clear c4
     by_cases c5 : 0 ≤ x5_1
     ·rw [if_pos c5] at H
      have c5b0 : decide (0 ≤ x5_1) = true := decide_eq_true c5
      clear c5
      replace H := Option.bind_eq_some_iff.mp H
      obtain ⟨t102, A60, H⟩ := H
      replace H : (if t102 < 0 then (some (-1)) else (laws_szFileS.l0 k1 l0 t102 (wrap64 (x5_1 + 1)))) = some r := H
      have A6 := Qz.mk A60
      clear A60
      by_cases c7 : t102 < 0
      ·rw [if_pos c7] at H
       have c7b0 : decide (t102 < 0) = true := decide_eq_true c7
       clear c7
       obtain rfl := Option.some.inj H
       have p101 : 0 ≤ (x5_1 : Int) := of_decide_eq_true (by first | (with_reducible assumption) | assumption)
       have q101 : x5_1 < (l0.length : Int) := of_decide_eq_true (by first | (with_reducible assumption) | assumption)
       obtain ⟨ad101, e101, hx101_0, hx101_1⟩ := at_T193 HR0.out x5_1 p101 q101
       cases e101
       replace hx101_0 := (HB.out.cell (World.block_lt_of_cell? w _ hx101_0)).trans hx101_0
       replace hx101_1 := (HB.out.cell (World.block_lt_of_cell? w _ hx101_1)).trans hx101_1
       replace p101 := eq_true p101
       replace q101 := eq_true q101
       go_wp2_with (first | ((with_reducible refine qp (f := 172) rfl ?_); refine qc1 (some 23) rfl rfl Try.func172 (by kernel_rfl) rfl #[.agg #[.string ((rd_T193 l0 x5_1).f0), .string ((rd_T193 l0 x5_1).f1)], .int .i64 x1_1] rfl (by (try simp only [List.map_toArray, List.map_cons, List.map_nil]); first | done | rfl) ?_; (with_reducible refine (laws_szFile.calls ((rd_T193 l0 x5_1).f0) ((rd_T193 l0 x5_1).f1) x1_1 t102 _ A6.out).mono ?_); rintro e w8 ⟨rfl, hb⟩; refine ⟨_, rfl, ?_⟩; replace HB := Qz.mk (ql (by repeat (first | (with_reducible first | exact HB.out | apply qc | apply qa | apply qb) | exact HB.out)) hb); (try clear hb)))
       go_ret
       exact ⟨by first | rfl | (simp [qn, qm] <;> rfl) | (simp [*, qn, qm] <;> rfl), by repeat (first | (with_reducible first | exact HB.out | apply qc | apply qa | apply qb) | exact HB.out)⟩
      ·rw [if_neg c7] at H
       have c7b0 : decide (t102 < 0) = false := decide_eq_false c7
       clear c7
       have H' := Qz.mk H
       clear H
       have p101 : 0 ≤ (x5_1 : Int) := of_decide_eq_true (by first | (with_reducible assumption) | assumption)
       have q101 : x5_1 < (l0.length : Int) := of_decide_eq_true (by first | (with_reducible assumption) | assumption)
       obtain ⟨ad101, e101, hx101_0, hx101_1⟩ := at_T193 HR0.out x5_1 p101 q101
       cases e101
       replace hx101_0 := (HB.out.cell (World.block_lt_of_cell? w _ hx101_0)).trans hx101_0
       replace hx101_1 := (HB.out.cell (World.block_lt_of_cell? w _ hx101_1)).trans hx101_1
       replace p101 := eq_true p101
       replace q101 := eq_true q101
       go_wp2_with (first | ((with_reducible refine qp (f := 172) rfl ?_); refine qc1 (some 23) rfl rfl Try.func172 (by kernel_rfl) rfl #[.agg #[.string ((rd_T193 l0 x5_1).f0), .string ((rd_T193 l0 x5_1).f1)], .int .i64 x1_1] rfl (by (try simp only [List.map_toArray, List.map_cons, List.map_nil]); first | done | rfl) ?_; (with_reducible refine (laws_szFile.calls ((rd_T193 l0 x5_1).f0) ((rd_T193 l0 x5_1).f1) x1_1 t102 _ A6.out).mono ?_); rintro e w9 ⟨rfl, hb⟩; refine ⟨_, rfl, ?_⟩; replace HB := Qz.mk (ql (by repeat (first | (with_reducible first | exact HB.out | apply qc | apply qa | apply qb) | exact HB.out)) hb); (try clear hb)))
       go_roundg k1
       case measure => have := HK1.out; omega
       case rel => exact ⟨(t102), (wrap64 (x5_1 + 1)), (by first | rfl | (simp; done) | (simp [*]; done)), (by first | rfl | (simp; done) | (simp [*]; done)), H', ⟨by have := HK1.out; omega⟩, ⟨by repeat (first | (with_reducible first | exact HB.out | apply qc | apply qa | apply qb) | exact HB.out)⟩⟩
     ·rw [if_neg c5] at H
      exact absurd H (by simp)
    ·rw [if_neg c4] at H
     have c4b0 : decide (x5_1 < (l0.length : Int)) = false := decide_eq_false c4
     clear c4
     obtain rfl := Option.some.inj H
     go_wp2
     go_ret
     exact ⟨by first | rfl | (simp [qn, qm] <;> rfl) | (simp [*, qn, qm] <;> rfl), by repeat (first | (with_reducible first | exact HB.out | apply qc | apply qa | apply qb) | exact HB.out)⟩
theorem yq45 {P : Prop} (h : P := by repeat (first | (with_reducible first | exact HB.out | apply qc | apply qa | apply qb) | exact HB.out)) : P := h
def laws_szDOp.f (a0_0 : Int) (a0_1 : ByteArray) (a0_2 : ByteArray) (a0_3 : ByteArray) (a1 : Int) : Option (Int) := if (wrap64 (a1 - (a0_1.size : Int))) < 0 then (some (-1)) else (if (wrap64 ((wrap64 (a1 - (a0_1.size : Int))) - (a0_2.size : Int))) < 0 then (some (-1)) else (if (wrap64 ((wrap64 ((wrap64 (a1 - (a0_1.size : Int))) - (a0_2.size : Int))) - (a0_3.size : Int))) < 0 then (some (-1)) else (some (wrap64 ((wrap64 ((wrap64 (a1 - (a0_1.size : Int))) - (a0_2.size : Int))) - (a0_3.size : Int))))))
set_option maxHeartbeats 8000000 in
set_option maxRecDepth 100000 in
theorem laws_szDOp.calls (a0_0 : Int) (a0_1 : ByteArray) (a0_2 : ByteArray) (a0_3 : ByteArray) (a1 : Int) (r : Int) (w : World) (h : laws_szDOp.f a0_0 a0_1 a0_2 a0_3 a1 = some r) :
  Calls Try.prog 173 #[.agg #[.int .i64 a0_0, .string a0_1, .string a0_2, .string a0_3], .int .i64 a1] w fun e w' => e = .returned (.int .i64 r) ∧ Below w.heap.size w w' := by
 have hu195 := Try.underlying195
 have HB := Qz.mk (Below.refl w.heap.size w)
 have H : (if (wrap64 (a1 - (a0_1.size : Int))) < 0 then (some (-1)) else (if (wrap64 ((wrap64 (a1 - (a0_1.size : Int))) - (a0_2.size : Int))) < 0 then (some (-1)) else (if (wrap64 ((wrap64 ((wrap64 (a1 - (a0_1.size : Int))) - (a0_2.size : Int))) - (a0_3.size : Int))) < 0 then (some (-1)) else (some (wrap64 ((wrap64 ((wrap64 (a1 - (a0_1.size : Int))) - (a0_2.size : Int))) - (a0_3.size : Int))))))) = some r := h
 clear h
 by_cases c3 : (wrap64 (a1 - (a0_1.size : Int))) < 0
 ·rw [if_pos c3] at H
  have c3b0 : decide ((wrap64 (a1 - (a0_1.size : Int))) < 0) = true := decide_eq_true c3
  clear c3
  obtain rfl := Option.some.inj H
  go_enter Try.func173, Try.ntmps173
  go_wp2_with (first | ((with_reducible refine qt (N := 2) rfl ?_); refine qr ?hg (N := 2) ?hd (cs := #[.int .i64 a0_0, .string a0_1, .string a0_2, .string a0_3]) (t := 195) ?hr ?_; (case hd => rfl); (case hg => rfl); (case hr => first | (go_simp; done) | (go_simp; rfl)); intro gb101 hg w4 hbox hb; have BK101 := Qz.mk (hbox); have GW101 := Qz.mk ((by rw [hg]; exact (qo yq45) : w.heap.size ≤ gb101)); have GE101 := GW101; replace HB := Qz.mk (ql yq45 hb); clear hb hbox hg; have hcz5_0 := (qd BK101.out 0).trans rfl; have hcz5_1 := (qd BK101.out 1).trans rfl; have hcz5_2 := (qd BK101.out 2).trans rfl; have hcz5_3 := (qd BK101.out 3).trans rfl; have hfz5_0 := qe BK101.out 0; have hfz5_1 := qe BK101.out 1; have hfz5_2 := qe BK101.out 2; have hfz5_3 := qe BK101.out 3))
  go_ret
  exact ⟨by first | rfl | (simp [qn, qm] <;> rfl) | (simp [*, qn, qm] <;> rfl), by repeat (first | (with_reducible first | exact HB.out | apply qc | apply qa | apply qb | refine qf ?_ GE101.out) | exact HB.out)⟩
 ·rw [if_neg c3] at H
  have c3b0 : decide ((wrap64 (a1 - (a0_1.size : Int))) < 0) = false := decide_eq_false c3
  clear c3
  by_cases c6 : (wrap64 ((wrap64 (a1 - (a0_1.size : Int))) - (a0_2.size : Int))) < 0
  ·rw [if_pos c6] at H
   have c6b0 : decide ((wrap64 ((wrap64 (a1 - (a0_1.size : Int))) - (a0_2.size : Int))) < 0) = true := decide_eq_true c6
   clear c6
   obtain rfl := Option.some.inj H
   go_enter Try.func173, Try.ntmps173
   go_wp2_with (first | ((with_reducible refine qt (N := 2) rfl ?_); refine qr ?hg (N := 2) ?hd (cs := #[.int .i64 a0_0, .string a0_1, .string a0_2, .string a0_3]) (t := 195) ?hr ?_; (case hd => rfl); (case hg => rfl); (case hr => first | (go_simp; done) | (go_simp; rfl)); intro gb101 hg w7 hbox hb; have BK101 := Qz.mk (hbox); have GW101 := Qz.mk ((by rw [hg]; exact (qo yq45) : w.heap.size ≤ gb101)); have GE101 := GW101; replace HB := Qz.mk (ql yq45 hb); clear hb hbox hg; have hcz8_0 := (qd BK101.out 0).trans rfl; have hcz8_1 := (qd BK101.out 1).trans rfl; have hcz8_2 := (qd BK101.out 2).trans rfl; have hcz8_3 := (qd BK101.out 3).trans rfl; have hfz8_0 := qe BK101.out 0; have hfz8_1 := qe BK101.out 1; have hfz8_2 := qe BK101.out 2; have hfz8_3 := qe BK101.out 3))
   go_ret
   exact ⟨by first | rfl | (simp [qn, qm] <;> rfl) | (simp [*, qn, qm] <;> rfl), by repeat (first | (with_reducible first | exact HB.out | apply qc | apply qa | apply qb | refine qf ?_ GE101.out) | exact HB.out)⟩
  ·rw [if_neg c6] at H
   have c6b0 : decide ((wrap64 ((wrap64 (a1 - (a0_1.size : Int))) - (a0_2.size : Int))) < 0) = false := decide_eq_false c6
   clear c6
   by_cases c9 : (wrap64 ((wrap64 ((wrap64 (a1 - (a0_1.size : Int))) - (a0_2.size : Int))) - (a0_3.size : Int))) < 0
   ·rw [if_pos c9] at H
    have c9b0 : decide ((wrap64 ((wrap64 ((wrap64 (a1 - (a0_1.size : Int))) - (a0_2.size : Int))) - (a0_3.size : Int))) < 0) = true := decide_eq_true c9
    clear c9
    obtain rfl := Option.some.inj H
    go_enter Try.func173, Try.ntmps173
    go_wp2_with (first | ((with_reducible refine qt (N := 2) rfl ?_); refine qr ?hg (N := 2) ?hd (cs := #[.int .i64 a0_0, .string a0_1, .string a0_2, .string a0_3]) (t := 195) ?hr ?_; (case hd => rfl); (case hg => rfl); (case hr => first | (go_simp; done) | (go_simp; rfl)); intro gb101 hg w10 hbox hb; have BK101 := Qz.mk (hbox); have GW101 := Qz.mk ((by rw [hg]; exact (qo yq45) : w.heap.size ≤ gb101)); have GE101 := GW101; replace HB := Qz.mk (ql yq45 hb); clear hb hbox hg; have hcz11_0 := (qd BK101.out 0).trans rfl; have hcz11_1 := (qd BK101.out 1).trans rfl; have hcz11_2 := (qd BK101.out 2).trans rfl; have hcz11_3 := (qd BK101.out 3).trans rfl; have hfz11_0 := qe BK101.out 0; have hfz11_1 := qe BK101.out 1; have hfz11_2 := qe BK101.out 2; have hfz11_3 := qe BK101.out 3))
    go_ret
    exact ⟨by first | rfl | (simp [qn, qm] <;> rfl) | (simp [*, qn, qm] <;> rfl), by repeat (first | (with_reducible first | exact HB.out | apply qc | apply qa | apply qb | refine qf ?_ GE101.out) | exact HB.out)⟩
   ·rw [if_neg c9] at H
    have c9b0 : decide ((wrap64 ((wrap64 ((wrap64 (a1 - (a0_1.size : Int))) - (a0_2.size : Int))) - (a0_3.size : Int))) < 0) = false := decide_eq_false c9
    clear c9
    obtain rfl := Option.some.inj H
    go_enter Try.func173, Try.ntmps173
    go_wp2_with (first | ((with_reducible refine qt (N := 2) rfl ?_); refine qr ?hg (N := 2) ?hd (cs := #[.int .i64 a0_0, .string a0_1, .string a0_2, .string a0_3]) (t := 195) ?hr ?_; (case hd => rfl); (case hg => rfl); (case hr => first | (go_simp; done) | (go_simp; rfl)); intro gb101 hg w12 hbox hb; have BK101 := Qz.mk (hbox); have GW101 := Qz.mk ((by rw [hg]; exact (qo yq45) : w.heap.size ≤ gb101)); have GE101 := GW101; replace HB := Qz.mk (ql yq45 hb); clear hb hbox hg; have hcz13_0 := (qd BK101.out 0).trans rfl; have hcz13_1 := (qd BK101.out 1).trans rfl; have hcz13_2 := (qd BK101.out 2).trans rfl; have hcz13_3 := (qd BK101.out 3).trans rfl; have hfz13_0 := qe BK101.out 0; have hfz13_1 := qe BK101.out 1; have hfz13_2 := qe BK101.out 2; have hfz13_3 := qe BK101.out 3))
    go_ret
    exact ⟨by first | rfl | (simp [qn, qm] <;> rfl) | (simp [*, qn, qm] <;> rfl), by repeat (first | (with_reducible first | exact HB.out | apply qc | apply qa | apply qb | refine qf ?_ GE101.out) | exact HB.out)⟩
def laws_szDOpS.l0 : Nat → List (S195) → Int → Int → Option (Int)
 | 0, _, _, _ => none
 | k + 1, x0, x1, x5 => if x5 < (x0.length : Int) then (if 0 ≤ x5 then ((laws_szDOp.f ((rd_T195 x0 x5).f0) ((rd_T195 x0 x5).f1) ((rd_T195 x0 x5).f2) ((rd_T195 x0 x5).f3) x1).bind fun t102 => (if t102 < 0 then (some (-1)) else (laws_szDOpS.l0 k x0 t102 (wrap64 (x5 + 1))))) else (none)) else (some x1)
def laws_szDOpS.f (k : Nat) (l0 : List (S195)) (a1 : Int) : Option (Int) := if (wrap64 (a1 - (l0.length : Int))) < 0 then (some (-1)) else (laws_szDOpS.l0 k l0 (wrap64 (a1 - (l0.length : Int))) 0)
set_option maxHeartbeats 8000000 in
set_option maxRecDepth 100000 in
theorem laws_szDOpS.calls (k : Nat) (A0 : Option Addr) (c0 : Nat) (l0 : List (S195)) (a1 : Int) (r : Int) (w : World) (hr0 : Kd.C k195 w A0 l0.length l0) (hc0 : l0.length ≤ c0) (h : laws_szDOpS.f k l0 a1 = some r) :
  Calls Try.prog 122 #[.slice A0 l0.length c0, .int .i64 a1] w fun e w' => e = .returned (.int .i64 r) ∧ Below w.heap.size w w' := by
 have hu195 := Try.underlying195
 have HR0 := Qz.mk hr0
 have HC0 := Qz.mk hc0
 clear hr0 hc0
 have HB := Qz.mk (Below.refl w.heap.size w)
 have H : (if (wrap64 (a1 - (l0.length : Int))) < 0 then (some (-1)) else (laws_szDOpS.l0 k l0 (wrap64 (a1 - (l0.length : Int))) 0)) = some r := h
 clear h
 by_cases c3 : (wrap64 (a1 - (l0.length : Int))) < 0
 ·rw [if_pos c3] at H
  have c3b0 : decide ((wrap64 (a1 - (l0.length : Int))) < 0) = true := decide_eq_true c3
  clear c3
  obtain rfl := Option.some.inj H
  go_enter Try.func122, Try.ntmps122
  go_wp2
  go_ret
  exact ⟨by first | rfl | (simp [qn, qm] <;> rfl) | (simp [*, qn, qm] <;> rfl), by repeat (first | (with_reducible first | exact HB.out | apply qc | apply qa | apply qb) | exact HB.out)⟩
 ·rw [if_neg c3] at H
  have c3b0 : decide ((wrap64 (a1 - (l0.length : Int))) < 0) = false := decide_eq_false c3
  clear c3
  have H' := Qz.mk H
  clear H
  go_enter Try.func122, Try.ntmps122
  go_wp2
  go_loopg [1, 5] k (fun kq v1 v5 w' => ∃ (x1_1 : Int) (x5_1 : Int), v1 = .int .i64 x1_1 ∧ v5 = .int .i64 x5_1 ∧ Qz (laws_szDOpS.l0 kq l0 x1_1 x5_1 = some r) ∧ Qz (kq ≤ k) ∧ Qz (Below w.heap.size w w'))
  case atStart => exact ⟨(wrap64 (a1 - (l0.length : Int))), (0), (by first | rfl | (simp; done) | (simp [*]; done)), (by first | rfl | (simp; done) | (simp [*]; done)), H', ⟨Nat.le_refl _⟩, ⟨by repeat (first | (with_reducible first | exact HB.out | apply qc | apply qa | apply qb) | exact HB.out)⟩⟩
  case round =>
   clear H'
   (try clear c1);(try clear p2);(try clear c3);(try clear c3b0)
   obtain ⟨x1_1, x5_1, rfl, rfl, HA, HK1, HB⟩ := hrel
   cases gk with
   | zero => exact absurd HA.out (by simp [laws_szDOpS.l0])
   | succ k1 =>
    have H := HA.out
    clear HA
    simp only [laws_szDOpS.l0] at H
    by_cases c4 : x5_1 < (l0.length : Int)
    ·rw [if_pos c4] at H
     have c4b0 : decide (x5_1 < (l0.length : Int)) = true := decide_eq_true c4
     clear c4
     by_cases c5 : 0 ≤ x5_1
     ·rw [if_pos c5] at H
      have c5b0 : decide (0 ≤ x5_1) = true := decide_eq_true c5
      clear c5
      replace H := Option.bind_eq_some_iff.mp H
      obtain ⟨t102, A60, H⟩ := H
      replace H : (if t102 < 0 then (some (-1)) else (laws_szDOpS.l0 k1 l0 t102 (wrap64 (x5_1 + 1)))) = some r := H
      have A6 := Qz.mk A60
      clear A60
      by_cases c7 : t102 < 0
      ·rw [if_pos c7] at H
       have c7b0 : decide (t102 < 0) = true := decide_eq_true c7
       clear c7
       obtain rfl := Option.some.inj H
       have p101 : 0 ≤ (x5_1 : Int) := of_decide_eq_true (by first | (with_reducible assumption) | assumption)
       have q101 : x5_1 < (l0.length : Int) := of_decide_eq_true (by first | (with_reducible assumption) | assumption)
       obtain ⟨ad101, e101, hx101_0, hx101_1, hx101_2, hx101_3⟩ := at_T195 HR0.out x5_1 p101 q101
       cases e101
       replace hx101_0 := (HB.out.cell (World.block_lt_of_cell? w _ hx101_0)).trans hx101_0
       replace hx101_1 := (HB.out.cell (World.block_lt_of_cell? w _ hx101_1)).trans hx101_1
       replace hx101_2 := (HB.out.cell (World.block_lt_of_cell? w _ hx101_2)).trans hx101_2
       replace hx101_3 := (HB.out.cell (World.block_lt_of_cell? w _ hx101_3)).trans hx101_3
       replace p101 := eq_true p101
       replace q101 := eq_true q101
       go_wp2_with (first | ((with_reducible refine qp (f := 173) rfl ?_); refine qc1 (some 23) rfl rfl Try.func173 (by kernel_rfl) rfl #[.agg #[.int .i64 ((rd_T195 l0 x5_1).f0), .string ((rd_T195 l0 x5_1).f1), .string ((rd_T195 l0 x5_1).f2), .string ((rd_T195 l0 x5_1).f3)], .int .i64 x1_1] rfl (by (try simp only [List.map_toArray, List.map_cons, List.map_nil]); first | done | rfl) ?_; (with_reducible refine (laws_szDOp.calls ((rd_T195 l0 x5_1).f0) ((rd_T195 l0 x5_1).f1) ((rd_T195 l0 x5_1).f2) ((rd_T195 l0 x5_1).f3) x1_1 t102 _ A6.out).mono ?_); rintro e w8 ⟨rfl, hb⟩; refine ⟨_, rfl, ?_⟩; replace HB := Qz.mk (ql (by repeat (first | (with_reducible first | exact HB.out | apply qc | apply qa | apply qb) | exact HB.out)) hb); (try clear hb)))
       go_ret
       exact ⟨by first | rfl | (simp [qn, qm] <;> rfl) | (simp [*, qn, qm] <;> rfl), by repeat (first | (with_reducible first | exact HB.out | apply qc | apply qa | apply qb) | exact HB.out)⟩
      ·rw [if_neg c7] at H
       have c7b0 : decide (t102 < 0) = false := decide_eq_false c7
       clear c7
       have H' := Qz.mk H
       clear H
       have p101 : 0 ≤ (x5_1 : Int) := of_decide_eq_true (by first | (with_reducible assumption) | assumption)
       have q101 : x5_1 < (l0.length : Int) := of_decide_eq_true (by first | (with_reducible assumption) | assumption)
       obtain ⟨ad101, e101, hx101_0, hx101_1, hx101_2, hx101_3⟩ := at_T195 HR0.out x5_1 p101 q101
       cases e101
       replace hx101_0 := (HB.out.cell (World.block_lt_of_cell? w _ hx101_0)).trans hx101_0
       replace hx101_1 := (HB.out.cell (World.block_lt_of_cell? w _ hx101_1)).trans hx101_1
       replace hx101_2 := (HB.out.cell (World.block_lt_of_cell? w _ hx101_2)).trans hx101_2
       replace hx101_3 := (HB.out.cell (World.block_lt_of_cell? w _ hx101_3)).trans hx101_3
       replace p101 := eq_true p101
       replace q101 := eq_true q101
       go_wp2_with (first | ((with_reducible refine qp (f := 173) rfl ?_); refine qc1 (some 23) rfl rfl Try.func173 (by kernel_rfl) rfl #[.agg #[.int .i64 ((rd_T195 l0 x5_1).f0), .string ((rd_T195 l0 x5_1).f1), .string ((rd_T195 l0 x5_1).f2), .string ((rd_T195 l0 x5_1).f3)], .int .i64 x1_1] rfl (by (try simp only [List.map_toArray, List.map_cons, List.map_nil]); first | done | rfl) ?_; (with_reducible refine (laws_szDOp.calls ((rd_T195 l0 x5_1).f0) ((rd_T195 l0 x5_1).f1) ((rd_T195 l0 x5_1).f2) ((rd_T195 l0 x5_1).f3) x1_1 t102 _ A6.out).mono ?_); rintro e w9 ⟨rfl, hb⟩; refine ⟨_, rfl, ?_⟩; replace HB := Qz.mk (ql (by repeat (first | (with_reducible first | exact HB.out | apply qc | apply qa | apply qb) | exact HB.out)) hb); (try clear hb)))
       go_roundg k1
       case measure => have := HK1.out; omega
       case rel => exact ⟨(t102), (wrap64 (x5_1 + 1)), (by first | rfl | (simp; done) | (simp [*]; done)), (by first | rfl | (simp; done) | (simp [*]; done)), H', ⟨by have := HK1.out; omega⟩, ⟨by repeat (first | (with_reducible first | exact HB.out | apply qc | apply qa | apply qb) | exact HB.out)⟩⟩
     ·rw [if_neg c5] at H
      exact absurd H (by simp)
    ·rw [if_neg c4] at H
     have c4b0 : decide (x5_1 < (l0.length : Int)) = false := decide_eq_false c4
     clear c4
     obtain rfl := Option.some.inj H
     go_wp2
     go_ret
     exact ⟨by first | rfl | (simp [qn, qm] <;> rfl) | (simp [*, qn, qm] <;> rfl), by repeat (first | (with_reducible first | exact HB.out | apply qc | apply qa | apply qb) | exact HB.out)⟩
theorem yq46 {P : Prop} (h : P := by (try simp only [List.map_toArray, List.map_cons, List.map_nil]); first | done | rfl | (simp only [List.length_drop, List.length_take]; rfl) | (rw [IntWalk.u64_in _ (by omega)] <;> rfl)) : P := h
theorem yq47 {P : Prop} (h : P := by repeat (first | (with_reducible first | exact HB.out | apply qc | apply qa | apply qb | refine qf ?_ GE101.out) | exact HB.out)) : P := h
theorem yq48 {P : Prop} (h : P := by (with_reducible repeat (first | refine qh ?_ _ | refine qk ?_ | refine qg ?_ _)); exact BK101.out) : P := h
theorem yq49 {P : Prop} (h : P := by repeat (first | (with_reducible first | exact HB.out | apply qc | apply qa | apply qb) | exact HB.out)) : P := h
theorem yq50 {P : Prop} (h : P := by repeat (first | exact (Kd.C_below HR0_0.out HB.out) | (with_reducible refine Kd.C_alloc ?_ _) | (with_reducible refine Kd.C_drewN ?_ _) | (with_reducible refine Kd.C_drew ?_))) : P := h
theorem yq51 {P : Prop} (h : P := by repeat (first | exact (Kd.C_below HR0_1.out HB.out) | (with_reducible refine Kd.C_alloc ?_ _) | (with_reducible refine Kd.C_drewN ?_ _) | (with_reducible refine Kd.C_drew ?_))) : P := h
theorem bkbf53 {w0 W W2 : World} {g : Nat} {o : Obj} (_ : Qz (w0.heap[g]? = some o)) (h : W.heap[g]? = some o) (hb : Below W.heap.size W W2) : Qz (W2.heap[g]? = some o) := Qz.mk (qq h hb)
def laws_szDisk.f (k : Nat) (l0_0 : List (S193)) (l0_1 : List (S193)) (l0_2 : List (S195)) (a1 : Int) : Option (Int) := (laws_szFileS.f k l0_0 a1).bind fun t102 => (if t102 < 0 then (some (-1)) else ((laws_szFileS.f k l0_1 t102).bind fun t103 => (if t103 < 0 then (some (-1)) else ((laws_szDOpS.f k l0_2 t103).bind fun t104 => (if t104 < 0 then (some (-1)) else (some t104))))))
set_option maxHeartbeats 8000000 in
set_option maxRecDepth 100000 in
theorem laws_szDisk.calls (k : Nat) (A0_0 : Option Addr) (c0_0 : Nat) (l0_0 : List (S193)) (A0_1 : Option Addr) (c0_1 : Nat) (l0_1 : List (S193)) (A0_2 : Option Addr) (c0_2 : Nat) (l0_2 : List (S195)) (a1 : Int) (r : Int) (w : World) (hr0_0 : Kd.C k193 w A0_0 l0_0.length l0_0) (hc0_0 : l0_0.length ≤ c0_0) (hr0_1 : Kd.C k193 w A0_1 l0_1.length l0_1) (hc0_1 : l0_1.length ≤ c0_1) (hr0_2 : Kd.C k195 w A0_2 l0_2.length l0_2) (hc0_2 : l0_2.length ≤ c0_2) (h : laws_szDisk.f k l0_0 l0_1 l0_2 a1 = some r) :
  Calls Try.prog 53 #[.agg #[.slice A0_0 l0_0.length c0_0, .slice A0_1 l0_1.length c0_1, .slice A0_2 l0_2.length c0_2], .int .i64 a1] w fun e w' => e = .returned (.int .i64 r) ∧ Below w.heap.size w w' := by
 have hu79 := Try.underlying79
 have HR0_0 := Qz.mk hr0_0
 have HC0_0 := Qz.mk hc0_0
 clear hr0_0 hc0_0
 have HR0_1 := Qz.mk hr0_1
 have HC0_1 := Qz.mk hc0_1
 clear hr0_1 hc0_1
 have HR0_2 := Qz.mk hr0_2
 have HC0_2 := Qz.mk hc0_2
 clear hr0_2 hc0_2
 have HB := Qz.mk (Below.refl w.heap.size w)
 have H : ((laws_szFileS.f k l0_0 a1).bind fun t102 => (if t102 < 0 then (some (-1)) else ((laws_szFileS.f k l0_1 t102).bind fun t103 => (if t103 < 0 then (some (-1)) else ((laws_szDOpS.f k l0_2 t103).bind fun t104 => (if t104 < 0 then (some (-1)) else (some t104))))))) = some r := h
 clear h
 replace H := Option.bind_eq_some_iff.mp H
 obtain ⟨t102, A30, H⟩ := H
 replace H : (if t102 < 0 then (some (-1)) else ((laws_szFileS.f k l0_1 t102).bind fun t103 => (if t103 < 0 then (some (-1)) else ((laws_szDOpS.f k l0_2 t103).bind fun t104 => (if t104 < 0 then (some (-1)) else (some t104)))))) = some r := H
 have A3 := Qz.mk A30
 clear A30
 by_cases c4 : t102 < 0
 ·rw [if_pos c4] at H
  have c4b0 : decide (t102 < 0) = true := decide_eq_true c4
  clear c4
  obtain rfl := Option.some.inj H
  go_enter Try.func53, Try.ntmps53
  go_wp2_with (first | ((with_reducible refine qt (N := 2) rfl ?_); refine qr ?hg (N := 2) ?hd (cs := #[.slice A0_0 l0_0.length c0_0, .slice A0_1 l0_1.length c0_1, .slice A0_2 l0_2.length c0_2]) (t := 79) ?hr ?_; (case hd => rfl); (case hg => rfl); (case hr => first | (go_simp; done) | (go_simp; rfl)); intro gb101 hg w5 hbox hb; have BK101 := Qz.mk (hbox); have GW101 := Qz.mk ((by rw [hg]; exact (qo yq49) : w.heap.size ≤ gb101)); have GE101 := GW101; replace HB := Qz.mk (ql yq49 hb); clear hb hbox hg; have hcz6_0 := (qd BK101.out 0).trans rfl; have hcz6_1 := (qd BK101.out 1).trans rfl; have hcz6_2 := (qd BK101.out 2).trans rfl; have hfz6_0 := qe BK101.out 0; have hfz6_1 := qe BK101.out 1; have hfz6_2 := qe BK101.out 2) | ((with_reducible refine qp (f := 121) rfl ?_); refine qc1 (some 8) rfl rfl Try.func121 (by kernel_rfl) rfl #[.slice A0_0 l0_0.length c0_0, .int .i64 a1] rfl yq46 ?_; (with_reducible refine (laws_szFileS.calls k _ _ l0_0 a1 t102 _ ?side1 ?side2 A3.out).mono ?_); (case side1 => exact yq50); (case side2 => exact HC0_0.out); rintro e w7 ⟨rfl, hb⟩; refine ⟨_, rfl, ?_⟩; replace BK101 := bkbf53 BK101 yq48 hb; replace HB := Qz.mk (ql yq47 hb); (try clear hb)))
  go_ret
  exact ⟨by first | rfl | (simp [qn, qm] <;> rfl) | (simp [*, qn, qm] <;> rfl), by repeat (first | (with_reducible first | exact HB.out | apply qc | apply qa | apply qb | refine qf ?_ GE101.out) | exact HB.out)⟩
 ·rw [if_neg c4] at H
  have c4b0 : decide (t102 < 0) = false := decide_eq_false c4
  clear c4
  replace H := Option.bind_eq_some_iff.mp H
  obtain ⟨t103, A80, H⟩ := H
  replace H : (if t103 < 0 then (some (-1)) else ((laws_szDOpS.f k l0_2 t103).bind fun t104 => (if t104 < 0 then (some (-1)) else (some t104)))) = some r := H
  have A8 := Qz.mk A80
  clear A80
  by_cases c9 : t103 < 0
  ·rw [if_pos c9] at H
   have c9b0 : decide (t103 < 0) = true := decide_eq_true c9
   clear c9
   obtain rfl := Option.some.inj H
   go_enter Try.func53, Try.ntmps53
   go_wp2_with (first | ((with_reducible refine qt (N := 2) rfl ?_); refine qr ?hg (N := 2) ?hd (cs := #[.slice A0_0 l0_0.length c0_0, .slice A0_1 l0_1.length c0_1, .slice A0_2 l0_2.length c0_2]) (t := 79) ?hr ?_; (case hd => rfl); (case hg => rfl); (case hr => first | (go_simp; done) | (go_simp; rfl)); intro gb101 hg w10 hbox hb; have BK101 := Qz.mk (hbox); have GW101 := Qz.mk ((by rw [hg]; exact (qo yq49) : w.heap.size ≤ gb101)); have GE101 := GW101; replace HB := Qz.mk (ql yq49 hb); clear hb hbox hg; have hcz11_0 := (qd BK101.out 0).trans rfl; have hcz11_1 := (qd BK101.out 1).trans rfl; have hcz11_2 := (qd BK101.out 2).trans rfl; have hfz11_0 := qe BK101.out 0; have hfz11_1 := qe BK101.out 1; have hfz11_2 := qe BK101.out 2) | ((with_reducible refine qp (f := 121) rfl ?_); refine qc1 (some 8) rfl rfl Try.func121 (by kernel_rfl) rfl #[.slice A0_0 l0_0.length c0_0, .int .i64 a1] rfl yq46 ?_; (with_reducible refine (laws_szFileS.calls k _ _ l0_0 a1 t102 _ ?side1 ?side2 A3.out).mono ?_); (case side1 => exact yq50); (case side2 => exact HC0_0.out); rintro e w12 ⟨rfl, hb⟩; refine ⟨_, rfl, ?_⟩; replace BK101 := bkbf53 BK101 yq48 hb; replace HB := Qz.mk (ql yq47 hb); (try clear hb); have hcz13_0 := (qd BK101.out 0).trans rfl; have hcz13_1 := (qd BK101.out 1).trans rfl; have hcz13_2 := (qd BK101.out 2).trans rfl; have hfz13_0 := qe BK101.out 0; have hfz13_1 := qe BK101.out 1; have hfz13_2 := qe BK101.out 2) | ((with_reducible refine qp (f := 121) rfl ?_); refine qc1 (some 14) rfl rfl Try.func121 (by kernel_rfl) rfl #[.slice A0_1 l0_1.length c0_1, .int .i64 t102] rfl yq46 ?_; (with_reducible refine (laws_szFileS.calls k _ _ l0_1 t102 t103 _ ?side1 ?side2 A8.out).mono ?_); (case side1 => exact yq51); (case side2 => exact HC0_1.out); rintro e w14 ⟨rfl, hb⟩; refine ⟨_, rfl, ?_⟩; replace BK101 := bkbf53 BK101 yq48 hb; replace HB := Qz.mk (ql yq47 hb); (try clear hb)))
   go_ret
   exact ⟨by first | rfl | (simp [qn, qm] <;> rfl) | (simp [*, qn, qm] <;> rfl), by repeat (first | (with_reducible first | exact HB.out | apply qc | apply qa | apply qb | refine qf ?_ GE101.out) | exact HB.out)⟩
  ·rw [if_neg c9] at H
   have c9b0 : decide (t103 < 0) = false := decide_eq_false c9
   clear c9
   replace H := Option.bind_eq_some_iff.mp H
   obtain ⟨t104, A150, H⟩ := H
   replace H : (if t104 < 0 then (some (-1)) else (some t104)) = some r := H
   have A15 := Qz.mk A150
   clear A150
   by_cases c16 : t104 < 0
   ·rw [if_pos c16] at H
    have c16b0 : decide (t104 < 0) = true := decide_eq_true c16
    clear c16
    obtain rfl := Option.some.inj H
    go_enter Try.func53, Try.ntmps53
    go_wp2_with (first | ((with_reducible refine qt (N := 2) rfl ?_); refine qr ?hg (N := 2) ?hd (cs := #[.slice A0_0 l0_0.length c0_0, .slice A0_1 l0_1.length c0_1, .slice A0_2 l0_2.length c0_2]) (t := 79) ?hr ?_; (case hd => rfl); (case hg => rfl); (case hr => first | (go_simp; done) | (go_simp; rfl)); intro gb101 hg w17 hbox hb; have BK101 := Qz.mk (hbox); have GW101 := Qz.mk ((by rw [hg]; exact (qo yq49) : w.heap.size ≤ gb101)); have GE101 := GW101; replace HB := Qz.mk (ql yq49 hb); clear hb hbox hg; have hcz18_0 := (qd BK101.out 0).trans rfl; have hcz18_1 := (qd BK101.out 1).trans rfl; have hcz18_2 := (qd BK101.out 2).trans rfl; have hfz18_0 := qe BK101.out 0; have hfz18_1 := qe BK101.out 1; have hfz18_2 := qe BK101.out 2) | ((with_reducible refine qp (f := 121) rfl ?_); refine qc1 (some 8) rfl rfl Try.func121 (by kernel_rfl) rfl #[.slice A0_0 l0_0.length c0_0, .int .i64 a1] rfl yq46 ?_; (with_reducible refine (laws_szFileS.calls k _ _ l0_0 a1 t102 _ ?side1 ?side2 A3.out).mono ?_); (case side1 => exact yq50); (case side2 => exact HC0_0.out); rintro e w19 ⟨rfl, hb⟩; refine ⟨_, rfl, ?_⟩; replace BK101 := bkbf53 BK101 yq48 hb; replace HB := Qz.mk (ql yq47 hb); (try clear hb); have hcz20_0 := (qd BK101.out 0).trans rfl; have hcz20_1 := (qd BK101.out 1).trans rfl; have hcz20_2 := (qd BK101.out 2).trans rfl; have hfz20_0 := qe BK101.out 0; have hfz20_1 := qe BK101.out 1; have hfz20_2 := qe BK101.out 2) | ((with_reducible refine qp (f := 121) rfl ?_); refine qc1 (some 14) rfl rfl Try.func121 (by kernel_rfl) rfl #[.slice A0_1 l0_1.length c0_1, .int .i64 t102] rfl yq46 ?_; (with_reducible refine (laws_szFileS.calls k _ _ l0_1 t102 t103 _ ?side1 ?side2 A8.out).mono ?_); (case side1 => exact yq51); (case side2 => exact HC0_1.out); rintro e w21 ⟨rfl, hb⟩; refine ⟨_, rfl, ?_⟩; replace BK101 := bkbf53 BK101 yq48 hb; replace HB := Qz.mk (ql yq47 hb); (try clear hb); have hcz22_0 := (qd BK101.out 0).trans rfl; have hcz22_1 := (qd BK101.out 1).trans rfl; have hcz22_2 := (qd BK101.out 2).trans rfl; have hfz22_0 := qe BK101.out 0; have hfz22_1 := qe BK101.out 1; have hfz22_2 := qe BK101.out 2) | ((with_reducible refine qp (f := 122) rfl ?_); refine qc1 (some 20) rfl rfl Try.func122 (by kernel_rfl) rfl #[.slice A0_2 l0_2.length c0_2, .int .i64 t103] rfl yq46 ?_; (with_reducible refine (laws_szDOpS.calls k _ _ l0_2 t103 t104 _ ?side1 ?side2 A15.out).mono ?_); (case side1 => repeat (first | exact (Kd.C_below HR0_2.out HB.out) | (with_reducible refine Kd.C_alloc ?_ _) | (with_reducible refine Kd.C_drewN ?_ _) | (with_reducible refine Kd.C_drew ?_))); (case side2 => exact HC0_2.out); rintro e w23 ⟨rfl, hb⟩; refine ⟨_, rfl, ?_⟩; replace BK101 := bkbf53 BK101 yq48 hb; replace HB := Qz.mk (ql yq47 hb); (try clear hb)))
    go_ret
    exact ⟨by first | rfl | (simp [qn, qm] <;> rfl) | (simp [*, qn, qm] <;> rfl), by repeat (first | (with_reducible first | exact HB.out | apply qc | apply qa | apply qb | refine qf ?_ GE101.out) | exact HB.out)⟩
   ·rw [if_neg c16] at H
    have c16b0 : decide (t104 < 0) = false := decide_eq_false c16
    clear c16
    obtain rfl := Option.some.inj H
    go_enter Try.func53, Try.ntmps53
    go_wp2_with (first | ((with_reducible refine qt (N := 2) rfl ?_); refine qr ?hg (N := 2) ?hd (cs := #[.slice A0_0 l0_0.length c0_0, .slice A0_1 l0_1.length c0_1, .slice A0_2 l0_2.length c0_2]) (t := 79) ?hr ?_; (case hd => rfl); (case hg => rfl); (case hr => first | (go_simp; done) | (go_simp; rfl)); intro gb101 hg w24 hbox hb; have BK101 := Qz.mk (hbox); have GW101 := Qz.mk ((by rw [hg]; exact (qo yq49) : w.heap.size ≤ gb101)); have GE101 := GW101; replace HB := Qz.mk (ql yq49 hb); clear hb hbox hg; have hcz25_0 := (qd BK101.out 0).trans rfl; have hcz25_1 := (qd BK101.out 1).trans rfl; have hcz25_2 := (qd BK101.out 2).trans rfl; have hfz25_0 := qe BK101.out 0; have hfz25_1 := qe BK101.out 1; have hfz25_2 := qe BK101.out 2) | ((with_reducible refine qp (f := 121) rfl ?_); refine qc1 (some 8) rfl rfl Try.func121 (by kernel_rfl) rfl #[.slice A0_0 l0_0.length c0_0, .int .i64 a1] rfl yq46 ?_; (with_reducible refine (laws_szFileS.calls k _ _ l0_0 a1 t102 _ ?side1 ?side2 A3.out).mono ?_); (case side1 => exact yq50); (case side2 => exact HC0_0.out); rintro e w26 ⟨rfl, hb⟩; refine ⟨_, rfl, ?_⟩; replace BK101 := bkbf53 BK101 yq48 hb; replace HB := Qz.mk (ql yq47 hb); (try clear hb); have hcz27_0 := (qd BK101.out 0).trans rfl; have hcz27_1 := (qd BK101.out 1).trans rfl; have hcz27_2 := (qd BK101.out 2).trans rfl; have hfz27_0 := qe BK101.out 0; have hfz27_1 := qe BK101.out 1; have hfz27_2 := qe BK101.out 2) | ((with_reducible refine qp (f := 121) rfl ?_); refine qc1 (some 14) rfl rfl Try.func121 (by kernel_rfl) rfl #[.slice A0_1 l0_1.length c0_1, .int .i64 t102] rfl yq46 ?_; (with_reducible refine (laws_szFileS.calls k _ _ l0_1 t102 t103 _ ?side1 ?side2 A8.out).mono ?_); (case side1 => exact yq51); (case side2 => exact HC0_1.out); rintro e w28 ⟨rfl, hb⟩; refine ⟨_, rfl, ?_⟩; replace BK101 := bkbf53 BK101 yq48 hb; replace HB := Qz.mk (ql yq47 hb); (try clear hb); have hcz29_0 := (qd BK101.out 0).trans rfl; have hcz29_1 := (qd BK101.out 1).trans rfl; have hcz29_2 := (qd BK101.out 2).trans rfl; have hfz29_0 := qe BK101.out 0; have hfz29_1 := qe BK101.out 1; have hfz29_2 := qe BK101.out 2) | ((with_reducible refine qp (f := 122) rfl ?_); refine qc1 (some 20) rfl rfl Try.func122 (by kernel_rfl) rfl #[.slice A0_2 l0_2.length c0_2, .int .i64 t103] rfl yq46 ?_; (with_reducible refine (laws_szDOpS.calls k _ _ l0_2 t103 t104 _ ?side1 ?side2 A15.out).mono ?_); (case side1 => repeat (first | exact (Kd.C_below HR0_2.out HB.out) | (with_reducible refine Kd.C_alloc ?_ _) | (with_reducible refine Kd.C_drewN ?_ _) | (with_reducible refine Kd.C_drew ?_))); (case side2 => exact HC0_2.out); rintro e w30 ⟨rfl, hb⟩; refine ⟨_, rfl, ?_⟩; replace BK101 := bkbf53 BK101 yq48 hb; replace HB := Qz.mk (ql yq47 hb); (try clear hb)))
    go_ret
    exact ⟨by first | rfl | (simp [qn, qm] <;> rfl) | (simp [*, qn, qm] <;> rfl), by repeat (first | (with_reducible first | exact HB.out | apply qc | apply qa | apply qb | refine qf ?_ GE101.out) | exact HB.out)⟩
theorem yq52 {P : Prop} (h : P := by (with_reducible repeat (first | refine qh ?_ _ | refine qk ?_ | refine qg ?_ _)); exact BK101.out) : P := h
def laws_toFile.f (a0_0 : ByteArray) (a0_1 : ByteArray) : Option (ByteArray × ByteArray) := some (a0_0, a0_1)
set_option maxHeartbeats 8000000 in
set_option maxRecDepth 100000 in
theorem laws_toFile.calls (a0_0 : ByteArray) (a0_1 : ByteArray) (r1 : ByteArray) (r2 : ByteArray) (w : World) (h : laws_toFile.f a0_0 a0_1 = some (r1, r2)) :
  Calls Try.prog 177 #[.agg #[.string a0_0, .string a0_1]] w fun e w' => e = .returned (.agg #[.string r1, .string r2]) ∧ Below w.heap.size w w' := by
 have hu193 := Try.underlying193
 have hu170 := Try.underlying170
 have HB := Qz.mk (Below.refl w.heap.size w)
 have H : (some (a0_0, a0_1)) = some (r1, r2) := h
 clear h
 simp only [Option.some.injEq, Prod.mk.injEq] at H
 obtain ⟨rfl, rfl⟩ := H
 go_enter Try.func177, Try.ntmps177
 go_wp2_with (first | ((with_reducible refine qt (N := 1) rfl ?_); refine qr ?hg (N := 1) ?hd (cs := #[.string a0_0, .string a0_1]) (t := 193) ?hr ?_; (case hd => rfl); (case hg => rfl); (case hr => first | (go_simp; done) | (go_simp; rfl)); intro gb101 hg w2 hbox hb; have BK101 := Qz.mk (hbox); have GW101 := Qz.mk ((by rw [hg]; exact (qo (by repeat (first | (with_reducible first | exact HB.out | apply qc | apply qa | apply qb) | exact HB.out))) : w.heap.size ≤ gb101)); have GE101 := GW101; replace HB := Qz.mk (ql (by repeat (first | (with_reducible first | exact HB.out | apply qc | apply qa | apply qb) | exact HB.out)) hb); clear hb hbox hg) | ((with_reducible refine qt (N := 2) rfl ?_); refine qr ?hg (N := 2) ?hd (cs := #[.string (⟨#[]⟩ : ByteArray), .string (⟨#[]⟩ : ByteArray)]) (t := 170) ?hr ?_; (case hd => rfl); (case hg => rfl); (case hr => first | (go_simp; done) | (go_simp; rfl)); intro gb102 hg w3 hbox hb; have BK102 := Qz.mk (hbox); have GW102 := Qz.mk ((by rw [hg]; exact (qo (by repeat (first | (with_reducible first | exact HB.out | apply qc | apply qa | apply qb | refine qf ?_ GE101.out) | exact HB.out))) : w.heap.size ≤ gb102)); have GE102 := GW102; replace HB := Qz.mk (ql (by repeat (first | (with_reducible first | exact HB.out | apply qc | apply qa | apply qb | refine qf ?_ GE101.out) | exact HB.out)) hb); have NB101_102 := Qz.mk ((by rw [hg]; exact Nat.ne_of_lt (blk_lt (g := gb101) (o := .cells #[.string a0_0, .string a0_1] 193 (0, 0)) yq52) : gb101 ≠ gb102)); have NB102_101 := Qz.mk ((by rw [hg]; exact Nat.ne_of_gt (blk_lt (g := gb101) (o := .cells #[.string a0_0, .string a0_1] 193 (0, 0)) yq52) : gb102 ≠ gb101)); replace BK101 := Qz.mk (qq (g := gb101) (o := .cells #[.string a0_0, .string a0_1] 193 (0, 0)) yq52 hb); clear hb hbox hg) | ((with_reducible refine qt (N := 3) rfl ?_); refine qr ?hg (N := 3) ?hd (cs := #[.string (⟨#[]⟩ : ByteArray), .string (⟨#[]⟩ : ByteArray)]) (t := 170) ?hr ?_; (case hd => rfl); (case hg => rfl); (case hr => first | (go_simp; done) | (go_simp; rfl)); intro gb103 hg w4 hbox hb; have BK103 := Qz.mk (hbox); have GW103 := Qz.mk ((by rw [hg]; exact (qo (by repeat (first | (with_reducible first | exact HB.out | apply qc | apply qa | apply qb | refine qf ?_ GE101.out | refine qf ?_ GE102.out) | exact HB.out))) : w.heap.size ≤ gb103)); have GE103 := GW103; replace HB := Qz.mk (ql (by repeat (first | (with_reducible first | exact HB.out | apply qc | apply qa | apply qb | refine qf ?_ GE101.out | refine qf ?_ GE102.out) | exact HB.out)) hb); have NB101_103 := Qz.mk ((by rw [hg]; exact Nat.ne_of_lt (blk_lt (g := gb101) (o := .cells #[.string a0_0, .string a0_1] 193 (0, 0)) yq52) : gb101 ≠ gb103)); have NB103_101 := Qz.mk ((by rw [hg]; exact Nat.ne_of_gt (blk_lt (g := gb101) (o := .cells #[.string a0_0, .string a0_1] 193 (0, 0)) yq52) : gb103 ≠ gb101)); replace BK101 := Qz.mk (qq (g := gb101) (o := .cells #[.string a0_0, .string a0_1] 193 (0, 0)) yq52 hb); have NB102_103 := Qz.mk ((by rw [hg]; exact Nat.ne_of_lt (blk_lt (g := gb102) (o := .cells #[.string (⟨#[]⟩ : ByteArray), .string (⟨#[]⟩ : ByteArray)] 170 (0, 0)) (by (with_reducible repeat (first | refine qh ?_ _ | refine qk ?_ | refine qg ?_ _)); exact BK102.out)) : gb102 ≠ gb103)); have NB103_102 := Qz.mk ((by rw [hg]; exact Nat.ne_of_gt (blk_lt (g := gb102) (o := .cells #[.string (⟨#[]⟩ : ByteArray), .string (⟨#[]⟩ : ByteArray)] 170 (0, 0)) (by (with_reducible repeat (first | refine qh ?_ _ | refine qk ?_ | refine qg ?_ _)); exact BK102.out)) : gb103 ≠ gb102)); replace BK102 := Qz.mk (qq (g := gb102) (o := .cells #[.string (⟨#[]⟩ : ByteArray), .string (⟨#[]⟩ : ByteArray)] 170 (0, 0)) (by (with_reducible repeat (first | refine qh ?_ _ | refine qk ?_ | refine qg ?_ _)); exact BK102.out) hb); clear hb hbox hg; have hnb5 := NB101_102.out; have hnc5 := NB102_101.out; have hnb6 := NB101_103.out; have hnc6 := NB103_101.out; have hcz7_0 := (qd BK101.out 0).trans rfl; have hcz7_1 := (qd BK101.out 1).trans rfl; have hfz7_0 := qe BK101.out 0; have hfz7_1 := qe BK101.out 1; have hnb8 := NB103_102.out; have hnc8 := NB102_103.out; have hcz9_0 := (qd BK103.out 0).trans rfl; have hcz9_1 := (qd BK103.out 1).trans rfl; have hfz9_0 := qe BK103.out 0; have hfz9_1 := qe BK103.out 1; have hcz10_0 := (qd BK102.out 0).trans rfl; have hcz10_1 := (qd BK102.out 1).trans rfl; have hfz10_0 := qe BK102.out 0; have hfz10_1 := qe BK102.out 1))
 refine bodyPost_ret (results_cell_row rfl _ _ gb102 170 #[.string a0_0, .string a0_1] (0, 0) _ rfl (by (with_reducible repeat (first | refine qh ?_ _ | refine qk ?_ | refine qg ?_ _)); refine blk_put (cs := #[.string a0_0, .string (⟨#[]⟩ : ByteArray)]) ?_ 1 _ rfl; (with_reducible repeat (first | refine qh ?_ _ | refine qk ?_ | refine qg ?_ _)); refine blk_put (cs := #[.string (⟨#[]⟩ : ByteArray), .string (⟨#[]⟩ : ByteArray)]) ?_ 0 _ rfl; (with_reducible repeat (first | refine qh ?_ _ | refine qk ?_ | refine qg ?_ _)); refine blk_far ?_ NB102_103.out _; (with_reducible repeat (first | refine qh ?_ _ | refine qk ?_ | refine qg ?_ _)); refine blk_far ?_ NB102_103.out _; (with_reducible repeat (first | refine qh ?_ _ | refine qk ?_ | refine qg ?_ _)); exact BK102.out) Try.underlying170 rfl (by kernel_rfl)) rfl ?_
 exact ⟨by first | rfl | (simp [qn, qm] <;> rfl) | (simp [*, qn, qm] <;> rfl), by repeat (first | (with_reducible first | exact HB.out | apply qc | apply qa | apply qb | refine qf ?_ GE101.out | refine qf ?_ GE102.out | refine qf ?_ GE103.out) | exact HB.out)⟩
theorem yq53 {P : Prop} (h : P := by first | (with_reducible assumption) | assumption) : P := h
def laws_toFileS.l0 : Nat → List (S193) → List (S170) → Int → Option ((List (S170)))
 | 0, _, _, _ => none
 | k + 1, x0, x3, x4 => if x4 < (x0.length : Int) then (if 0 ≤ x4 then ((laws_toFile.f ((rd_T193 x0 x4).f0) ((rd_T193 x0 x4).f1)).bind fun bt105 => (if x4 < (x3.length : Int) then (laws_toFileS.l0 k x0 (x3.set (x4 : Int).toNat (⟨bt105.1, bt105.2⟩ : S170)) (wrap64 (x4 + 1))) else (none))) else (none)) else (some x3)
def laws_toFileS.f (k : Nat) (l0 : List (S193)) : Option ((List (S170))) := if 0 ≤ (l0.length : Int) then (if ((l0.length : Int) : Int).toNat ≤ 8796093022208 then (laws_toFileS.l0 k l0 (List.replicate ((l0.length : Int) : Int).toNat z170) 0) else (none)) else (none)
set_option maxHeartbeats 8000000 in
set_option maxRecDepth 100000 in
theorem laws_toFileS.calls (k : Nat) (A0 : Option Addr) (c0 : Nat) (l0 : List (S193)) (r : List (S170)) (w : World) (hr0 : Kd.C k193 w A0 l0.length l0) (hc0 : l0.length ≤ c0) (h : laws_toFileS.f k l0 = some r) :
  Calls Try.prog 125 #[.slice A0 l0.length c0] w fun e w' => ∃ v0_ : Value, e = .returned (v0_) ∧ Kd.R k170 170 w' w.heap.size (fun _ => True) v0_ r ∧ Below w.heap.size w w' := by
 have hu193 := Try.underlying193
 have hu170 := Try.underlying170
 have HR0 := Qz.mk hr0
 have HC0 := Qz.mk hc0
 clear hr0 hc0
 have HB := Qz.mk (Below.refl w.heap.size w)
 have H : (if 0 ≤ (l0.length : Int) then (if ((l0.length : Int) : Int).toNat ≤ 8796093022208 then (laws_toFileS.l0 k l0 (List.replicate ((l0.length : Int) : Int).toNat z170) 0) else (none)) else (none)) = some r := h
 clear h
 by_cases c2 : 0 ≤ (l0.length : Int)
 ·rw [if_pos c2] at H
  have c2b0 := eq_true c2
  have c2b1 : decide (0 ≤ (l0.length : Int)) = true := decide_eq_true c2
  clear c2
  by_cases c3 : ((l0.length : Int) : Int).toNat ≤ 8796093022208
  ·rw [if_pos c3] at H
   have c3b0 := eq_true c3
   have c3b1 : decide (((l0.length : Int) : Int).toNat ≤ 8796093022208) = true := decide_eq_true c3
   clear c3
   obtain ⟨y101, hy101⟩ : ∃ y_ : List (S170), y_ = (List.replicate ((l0.length : Int) : Int).toNat z170) := ⟨_, rfl⟩
   replace H : (laws_toFileS.l0 k l0 y101 0) = some r := by first | (rw [hy101]; with_reducible exact H) | (have H2_ := (Option.bind_some _ _).symm.trans H; rw [hy101]; with_reducible exact H2_) | (have H2_ := (Option.bind_some _ _).symm.trans H; with_reducible exact H2_) | with_reducible exact H | (rw [hy101]; exact H) | exact H
   have Ny101 := Qz.mk hy101
   clear hy101
   have H' := Qz.mk H
   clear H
   go_enter Try.func125, Try.ntmps125
   go_wp2_with (first | ((with_reducible refine qt (N := 7) rfl ?_); refine Kd.R_make k170 _ 170 rfl (N := 7) rfl 82 _ _ rfl (l0.length : Int) rfl rfl Try.underlying82 (.agg #[(.string ⟨#[]⟩), (.string ⟨#[]⟩)]) 32 info170 rfl (by decide) (by omega) z170 (ok := fun _ => True) (okp := fun _ => True) (k170_mkM _ _ _ z170 ) (fun _ hk => hk) trivial (of_decide_eq_true yq53) (Nat.le_trans (Nat.mul_le_mul_right _ (of_decide_eq_true yq53 : (l0.length : Int).toNat ≤ 8796093022208)) (by omega)) (Below.refl _ _) (Nat.le_refl _) ?_; intro v102 w4 ho5 hb hg_ hnew_; clear hg_ hnew_; (first | rw [← Ny101.out] at ho5 | (simp only [Int.reduceToNat] at ho5; rw [← Ny101.out] at ho5)); have HO103 := Qz.mk (Kd.R_lower ho5 (qo (by repeat (first | (with_reducible first | exact HB.out | apply qc | apply qa | apply qb) | exact HB.out)))); replace HB := Qz.mk (ql (by repeat (first | (with_reducible first | exact HB.out | apply qc | apply qa | apply qb) | exact HB.out)) hb); clear hb ho5))
   go_loopg [4] k (fun kq v4 w' => ∃ (x3_1 : List (S170)) (x4_1 : Int), v4 = .int .i64 x4_1 ∧ Qz (laws_toFileS.l0 kq l0 x3_1 x4_1 = some r) ∧ Qz (kq ≤ k) ∧ Qz (Kd.R k170 170 w' w.heap.size (fun _ => True) v102 x3_1) ∧ Qz (Below w.heap.size w w'))
   case atStart => exact ⟨(y101), (0), (by first | rfl | (simp; done) | (simp [*]; done)), H', ⟨Nat.le_refl _⟩, ⟨by (with_reducible repeat (first | apply Kd.R_alloc | apply Kd.R_drewN | apply Kd.R_drew)); exact HO103.out⟩, ⟨by repeat (first | (with_reducible first | exact HB.out | apply qc | apply qa | apply qb) | exact HB.out)⟩⟩
   case round =>
    clear H'
    (try clear c1);(try clear c2);(try clear c2b0);(try clear c2b1);(try clear p2);(try clear c3);(try clear c3b0);(try clear c3b1)
    obtain ⟨x3_1, x4_1, rfl, HA, HK1, HO_3, HB⟩ := hrel
    cases gk with
    | zero => exact absurd HA.out (by simp [laws_toFileS.l0])
    | succ k1 =>
     have H := HA.out
     clear HA
     simp only [laws_toFileS.l0] at H
     by_cases c6 : x4_1 < (l0.length : Int)
     ·rw [if_pos c6] at H
      have c6b0 : decide (x4_1 < (l0.length : Int)) = true := decide_eq_true c6
      clear c6
      by_cases c7 : 0 ≤ x4_1
      ·rw [if_pos c7] at H
       have c7b0 : decide (0 ≤ x4_1) = true := decide_eq_true c7
       clear c7
       replace H := Option.bind_eq_some_iff.mp H
       obtain ⟨⟨t105, t106⟩, A80, H⟩ := H
       replace H : (if x4_1 < (x3_1.length : Int) then (laws_toFileS.l0 k1 l0 (x3_1.set (x4_1 : Int).toNat (⟨t105, t106⟩ : S170)) (wrap64 (x4_1 + 1))) else (none)) = some r := H
       have A8 := Qz.mk A80
       clear A80
       by_cases c9 : x4_1 < (x3_1.length : Int)
       ·rw [if_pos c9] at H
        have c9b0 : decide (x4_1 < (x3_1.length : Int)) = true := decide_eq_true c9
        clear c9
        obtain ⟨y107, hy107⟩ : ∃ y_ : List (S170), y_ = (x3_1.set (x4_1 : Int).toNat (⟨t105, t106⟩ : S170)) := ⟨_, rfl⟩
        replace H : (laws_toFileS.l0 k1 l0 y107 (wrap64 (x4_1 + 1))) = some r := by first | (rw [hy107]; with_reducible exact H) | (have H2_ := (Option.bind_some _ _).symm.trans H; rw [hy107]; with_reducible exact H2_) | (have H2_ := (Option.bind_some _ _).symm.trans H; with_reducible exact H2_) | with_reducible exact H | (rw [hy107]; exact H) | exact H
        have Ny107 := Qz.mk hy107
        clear hy107
        have H' := Qz.mk H
        clear H
        have p104 : 0 ≤ (x4_1 : Int) := of_decide_eq_true yq53
        have q104 : x4_1 < (l0.length : Int) := of_decide_eq_true yq53
        obtain ⟨ad104, e104, hx104_0, hx104_1⟩ := at_T193 HR0.out x4_1 p104 q104
        cases e104
        replace hx104_0 := (HB.out.cell (World.block_lt_of_cell? w _ hx104_0)).trans hx104_0
        replace hx104_1 := (HB.out.cell (World.block_lt_of_cell? w _ hx104_1)).trans hx104_1
        replace p104 := eq_true p104
        replace q104 := eq_true q104
        go_wp2_with (first | ((with_reducible refine qp (f := 177) rfl ?_); refine qc1 (some 20) rfl rfl Try.func177 (by kernel_rfl) rfl #[.agg #[.string ((rd_T193 l0 x4_1).f0), .string ((rd_T193 l0 x4_1).f1)]] rfl (by (try simp only [List.map_toArray, List.map_cons, List.map_nil]); first | done | rfl) ?_; (with_reducible refine (laws_toFile.calls ((rd_T193 l0 x4_1).f0) ((rd_T193 l0 x4_1).f1) t105 t106 _ A8.out).mono ?_); rintro e w11 ⟨rfl, hb⟩; refine ⟨_, rfl, ?_⟩; replace HO_3 := Qz.mk (Kd.R_below (by (with_reducible repeat (first | apply Kd.R_alloc | apply Kd.R_drewN | apply Kd.R_drew)); exact HO_3.out) hb); replace HB := Qz.mk (ql (by repeat (first | (with_reducible first | exact HB.out | apply qc | apply qa | apply qb) | exact HB.out)) hb); (try clear hb); (try clear hk); have p10 : 0 ≤ (x4_1 : Int) := of_decide_eq_true yq53; have q10 : (x4_1 : Int) < ((x3_1.length : Int) : Int) := of_decide_eq_true yq53; obtain ⟨go10, co10, eo10, gb10, gl10, cl10, HG10⟩ := Kd.R_form HO_3.out (by omega); (first | cases eo10 | (injection eo10 with ea_ en_ ec_; (first | subst ea_ | (injection ea_ with ea_; subst ea_)); subst ec_; clear en_)); have GB10 := Qz.mk gb10; have GG10 := Qz.mk HG10; clear gb10 gl10 HG10; obtain ⟨ce10, hcl10, hM10, hcc10, hfr10⟩ := Kd.R_elem HO_3.out z170 (x4_1 : Int) p10 q10; obtain rfl := k170_openM hM10; have hx10_0 : w11.cell? ⟨go10, (x4_1 : Int).toNat * 2, none⟩ = some (.string ((qj x3_1 x4_1).f0)) := hcc10 0 _ rfl; have hx10_1 : w11.cell? ⟨go10, (x4_1 : Int).toNat * 2 + 1, none⟩ = some (.string ((qj x3_1 x4_1).f1)) := hcc10 1 _ rfl; have hf10_0 : w11.frozen? ⟨go10, (x4_1 : Int).toNat * 2, none⟩ = false := hfr10 0; have hf10_1 : w11.frozen? ⟨go10, (x4_1 : Int).toNat * 2 + 1, none⟩ = false := hfr10 1; clear hcl10 hcc10 hfr10 hM10; replace p10 := eq_true p10; replace q10 := eq_true q10; have HX12 := Qz.mk (show Kd.R k170 170 w11 w.heap.size (fun _ => True) (.slice (some ⟨go10, 0, none⟩) x3_1.length co10) x3_1 from (by (with_reducible repeat (first | apply Kd.R_alloc | apply Kd.R_drewN | apply Kd.R_drew)); exact HO_3.out)); obtain ⟨ce12, hcl12, hM12, hcc12, hfr12⟩ := Kd.R_elem HX12.out z170 (x4_1 : Int) (of_decide_eq_true yq53) (by have h_ : (x4_1 : Int) < ((x3_1.length : Int) : Int) := of_decide_eq_true yq53; first | exact h_ | (have e_ := (Kd.R_reads' HO_3.out).1; omega) | simpa using h_); obtain rfl := k170_openM hM12; have HP12 := Kd.R_seg HX12.out (x4_1 : Int) (of_decide_eq_true yq53) (by have h_ : (x4_1 : Int) < ((x3_1.length : Int) : Int) := of_decide_eq_true yq53; first | exact h_ | (have e_ := (Kd.R_reads' HO_3.out).1; omega) | simpa using h_) (seg := [.string t105, .string t106]) (j := 0) hcl12 hcc12 (show 2 ≤ 2 from by decide) (x' := (⟨t105, t106⟩ : S170)) (k170_mkM _ _ _ (⟨t105, t106⟩ : S170) ) (fun _ hk => hk); have hx12_0 := hcc12 0 _ rfl; (try simp only [show (k170).sz = 2 from rfl, Nat.mul_one, Nat.add_zero] at hx12_0); have hf12_0 := hfr12 0; (try simp only [show (k170).sz = 2 from rfl, Nat.mul_one, Nat.add_zero] at hf12_0); have hx12_1 := hcc12 1 _ rfl; (try simp only [show (k170).sz = 2 from rfl, Nat.mul_one, Nat.add_zero] at hx12_1); have hf12_1 := hfr12 1; (try simp only [show (k170).sz = 2 from rfl, Nat.mul_one, Nat.add_zero] at hf12_1); clear hcl12 hcc12 hfr12 hM12) | ((with_reducible refine gate_store (t := 170) (p := 21) rfl ?_); refine store_event (t := 170) (p := 21) (v := ?vo_w13) (w1 := ((w11.setCell ⟨go10, (x4_1 : Int).toNat * 2, none⟩ (.string t105)).setCell ⟨go10, (x4_1 : Int).toNat * 2 + 1, none⟩ (.string t106))) ?hg ?ho ?hn ?hr ?_; (case ho => rfl); (case hg => rfl); (case hn => rfl); (case hr => first | (go_simp; done) | (go_simp; rfl)); intro w13 hw; have hg : w11.grownBy w13 (some go10) := (by rw [hw]; exact HP12.2); have hp_ : Kd.R k170 170 w13 w.heap.size (fun _ => True) (.slice (some ⟨go10, 0, none⟩) x3_1.length co10) y107 := (by rw [hw, Ny107.out]; exact HP12.1); clear HP12; replace HO_3 := Qz.mk (hp_); replace HB := Qz.mk ((by rw [hw]; exact qf (qf (HB.out) GB10.out) GB10.out : Below w.heap.size w w13)); clear hg hw hp_))
        go_roundg k1
        case measure => have := HK1.out; omega
        case rel => exact ⟨(y107), (wrap64 (x4_1 + 1)), (by first | rfl | (simp; done) | (simp [*]; done)), H', ⟨by have := HK1.out; omega⟩, ⟨by (with_reducible repeat (first | apply Kd.R_alloc | apply Kd.R_drewN | apply Kd.R_drew)); exact HO_3.out⟩, ⟨by repeat (first | (with_reducible first | exact HB.out | apply qc | apply qa | apply qb) | exact HB.out)⟩⟩
       ·rw [if_neg c9] at H
        exact absurd H (by simp)
      ·rw [if_neg c7] at H
       exact absurd H (by simp)
     ·rw [if_neg c6] at H
      have c6b0 : decide (x4_1 < (l0.length : Int)) = false := decide_eq_false c6
      clear c6
      obtain rfl := Option.some.inj H
      go_wp2
      go_ret
      exact ⟨_, by first | rfl | (simp [qn, qm] <;> rfl) | (simp [*, qn, qm] <;> rfl), by (with_reducible repeat (first | apply Kd.R_alloc | apply Kd.R_drewN | apply Kd.R_drew)); exact HO_3.out, by repeat (first | (with_reducible first | exact HB.out | apply qc | apply qa | apply qb) | exact HB.out)⟩
  ·rw [if_neg c3] at H
   exact absurd H (by simp)
 ·rw [if_neg c2] at H
  exact absurd H (by simp)
theorem yq54 {P : Prop} (h : P := by (with_reducible repeat (first | refine qh ?_ _ | refine qk ?_ | refine qg ?_ _)); exact BK101.out) : P := h
def laws_toDOp.f (a0_0 : Int) (a0_1 : ByteArray) (a0_2 : ByteArray) (a0_3 : ByteArray) : Option (Int × ByteArray × ByteArray × ByteArray) := some (a0_0, a0_1, a0_2, a0_3)
set_option maxHeartbeats 8000000 in
set_option maxRecDepth 100000 in
theorem laws_toDOp.calls (a0_0 : Int) (a0_1 : ByteArray) (a0_2 : ByteArray) (a0_3 : ByteArray) (r1 : Int) (r2 : ByteArray) (r3 : ByteArray) (r4 : ByteArray) (w : World) (h : laws_toDOp.f a0_0 a0_1 a0_2 a0_3 = some (r1, r2, r3, r4)) :
  Calls Try.prog 178 #[.agg #[.int .i64 a0_0, .string a0_1, .string a0_2, .string a0_3]] w fun e w' => e = .returned (.agg #[.int .i64 r1, .string r2, .string r3, .string r4]) ∧ Below w.heap.size w w' := by
 have hu195 := Try.underlying195
 have hu157 := Try.underlying157
 have HB := Qz.mk (Below.refl w.heap.size w)
 have H : (some (a0_0, a0_1, a0_2, a0_3)) = some (r1, r2, r3, r4) := h
 clear h
 simp only [Option.some.injEq, Prod.mk.injEq] at H
 obtain ⟨rfl, rfl, rfl, rfl⟩ := H
 go_enter Try.func178, Try.ntmps178
 go_wp2_with (first | ((with_reducible refine qt (N := 1) rfl ?_); refine qr ?hg (N := 1) ?hd (cs := #[.int .i64 a0_0, .string a0_1, .string a0_2, .string a0_3]) (t := 195) ?hr ?_; (case hd => rfl); (case hg => rfl); (case hr => first | (go_simp; done) | (go_simp; rfl)); intro gb101 hg w2 hbox hb; have BK101 := Qz.mk (hbox); have GW101 := Qz.mk ((by rw [hg]; exact (qo (by repeat (first | (with_reducible first | exact HB.out | apply qc | apply qa | apply qb) | exact HB.out))) : w.heap.size ≤ gb101)); have GE101 := GW101; replace HB := Qz.mk (ql (by repeat (first | (with_reducible first | exact HB.out | apply qc | apply qa | apply qb) | exact HB.out)) hb); clear hb hbox hg) | ((with_reducible refine qt (N := 2) rfl ?_); refine qr ?hg (N := 2) ?hd (cs := #[.int .i64 0, .string (⟨#[]⟩ : ByteArray), .string (⟨#[]⟩ : ByteArray), .string (⟨#[]⟩ : ByteArray)]) (t := 157) ?hr ?_; (case hd => rfl); (case hg => rfl); (case hr => first | (go_simp; done) | (go_simp; rfl)); intro gb102 hg w3 hbox hb; have BK102 := Qz.mk (hbox); have GW102 := Qz.mk ((by rw [hg]; exact (qo (by repeat (first | (with_reducible first | exact HB.out | apply qc | apply qa | apply qb | refine qf ?_ GE101.out) | exact HB.out))) : w.heap.size ≤ gb102)); have GE102 := GW102; replace HB := Qz.mk (ql (by repeat (first | (with_reducible first | exact HB.out | apply qc | apply qa | apply qb | refine qf ?_ GE101.out) | exact HB.out)) hb); have NB101_102 := Qz.mk ((by rw [hg]; exact Nat.ne_of_lt (blk_lt (g := gb101) (o := .cells #[.int .i64 a0_0, .string a0_1, .string a0_2, .string a0_3] 195 (0, 0)) yq54) : gb101 ≠ gb102)); have NB102_101 := Qz.mk ((by rw [hg]; exact Nat.ne_of_gt (blk_lt (g := gb101) (o := .cells #[.int .i64 a0_0, .string a0_1, .string a0_2, .string a0_3] 195 (0, 0)) yq54) : gb102 ≠ gb101)); replace BK101 := Qz.mk (qq (g := gb101) (o := .cells #[.int .i64 a0_0, .string a0_1, .string a0_2, .string a0_3] 195 (0, 0)) yq54 hb); clear hb hbox hg) | ((with_reducible refine qt (N := 3) rfl ?_); refine qr ?hg (N := 3) ?hd (cs := #[.int .i64 0, .string (⟨#[]⟩ : ByteArray), .string (⟨#[]⟩ : ByteArray), .string (⟨#[]⟩ : ByteArray)]) (t := 157) ?hr ?_; (case hd => rfl); (case hg => rfl); (case hr => first | (go_simp; done) | (go_simp; rfl)); intro gb103 hg w4 hbox hb; have BK103 := Qz.mk (hbox); have GW103 := Qz.mk ((by rw [hg]; exact (qo (by repeat (first | (with_reducible first | exact HB.out | apply qc | apply qa | apply qb | refine qf ?_ GE101.out | refine qf ?_ GE102.out) | exact HB.out))) : w.heap.size ≤ gb103)); have GE103 := GW103; replace HB := Qz.mk (ql (by repeat (first | (with_reducible first | exact HB.out | apply qc | apply qa | apply qb | refine qf ?_ GE101.out | refine qf ?_ GE102.out) | exact HB.out)) hb); have NB101_103 := Qz.mk ((by rw [hg]; exact Nat.ne_of_lt (blk_lt (g := gb101) (o := .cells #[.int .i64 a0_0, .string a0_1, .string a0_2, .string a0_3] 195 (0, 0)) yq54) : gb101 ≠ gb103)); have NB103_101 := Qz.mk ((by rw [hg]; exact Nat.ne_of_gt (blk_lt (g := gb101) (o := .cells #[.int .i64 a0_0, .string a0_1, .string a0_2, .string a0_3] 195 (0, 0)) yq54) : gb103 ≠ gb101)); replace BK101 := Qz.mk (qq (g := gb101) (o := .cells #[.int .i64 a0_0, .string a0_1, .string a0_2, .string a0_3] 195 (0, 0)) yq54 hb); have NB102_103 := Qz.mk ((by rw [hg]; exact Nat.ne_of_lt (blk_lt (g := gb102) (o := .cells #[.int .i64 0, .string (⟨#[]⟩ : ByteArray), .string (⟨#[]⟩ : ByteArray), .string (⟨#[]⟩ : ByteArray)] 157 (0, 0)) (by (with_reducible repeat (first | refine qh ?_ _ | refine qk ?_ | refine qg ?_ _)); exact BK102.out)) : gb102 ≠ gb103)); have NB103_102 := Qz.mk ((by rw [hg]; exact Nat.ne_of_gt (blk_lt (g := gb102) (o := .cells #[.int .i64 0, .string (⟨#[]⟩ : ByteArray), .string (⟨#[]⟩ : ByteArray), .string (⟨#[]⟩ : ByteArray)] 157 (0, 0)) (by (with_reducible repeat (first | refine qh ?_ _ | refine qk ?_ | refine qg ?_ _)); exact BK102.out)) : gb103 ≠ gb102)); replace BK102 := Qz.mk (qq (g := gb102) (o := .cells #[.int .i64 0, .string (⟨#[]⟩ : ByteArray), .string (⟨#[]⟩ : ByteArray), .string (⟨#[]⟩ : ByteArray)] 157 (0, 0)) (by (with_reducible repeat (first | refine qh ?_ _ | refine qk ?_ | refine qg ?_ _)); exact BK102.out) hb); clear hb hbox hg; have hnb5 := NB101_102.out; have hnc5 := NB102_101.out; have hnb6 := NB101_103.out; have hnc6 := NB103_101.out; have hcz7_0 := (qd BK101.out 0).trans rfl; have hcz7_1 := (qd BK101.out 1).trans rfl; have hcz7_2 := (qd BK101.out 2).trans rfl; have hcz7_3 := (qd BK101.out 3).trans rfl; have hfz7_0 := qe BK101.out 0; have hfz7_1 := qe BK101.out 1; have hfz7_2 := qe BK101.out 2; have hfz7_3 := qe BK101.out 3; have hnb8 := NB103_102.out; have hnc8 := NB102_103.out; have hcz9_0 := (qd BK103.out 0).trans rfl; have hcz9_1 := (qd BK103.out 1).trans rfl; have hcz9_2 := (qd BK103.out 2).trans rfl; have hcz9_3 := (qd BK103.out 3).trans rfl; have hfz9_0 := qe BK103.out 0; have hfz9_1 := qe BK103.out 1; have hfz9_2 := qe BK103.out 2; have hfz9_3 := qe BK103.out 3; have hcz10_0 := (qd BK102.out 0).trans rfl; have hcz10_1 := (qd BK102.out 1).trans rfl; have hcz10_2 := (qd BK102.out 2).trans rfl; have hcz10_3 := (qd BK102.out 3).trans rfl; have hfz10_0 := qe BK102.out 0; have hfz10_1 := qe BK102.out 1; have hfz10_2 := qe BK102.out 2; have hfz10_3 := qe BK102.out 3))
 refine bodyPost_ret (results_cell_row rfl _ _ gb102 157 #[.int .i64 a0_0, .string a0_1, .string a0_2, .string a0_3] (0, 0) _ rfl (by (with_reducible repeat (first | refine qh ?_ _ | refine qk ?_ | refine qg ?_ _)); refine blk_put (cs := #[.int .i64 a0_0, .string a0_1, .string a0_2, .string (⟨#[]⟩ : ByteArray)]) ?_ 3 _ rfl; (with_reducible repeat (first | refine qh ?_ _ | refine qk ?_ | refine qg ?_ _)); refine blk_put (cs := #[.int .i64 a0_0, .string a0_1, .string (⟨#[]⟩ : ByteArray), .string (⟨#[]⟩ : ByteArray)]) ?_ 2 _ rfl; (with_reducible repeat (first | refine qh ?_ _ | refine qk ?_ | refine qg ?_ _)); refine blk_put (cs := #[.int .i64 a0_0, .string (⟨#[]⟩ : ByteArray), .string (⟨#[]⟩ : ByteArray), .string (⟨#[]⟩ : ByteArray)]) ?_ 1 _ rfl; (with_reducible repeat (first | refine qh ?_ _ | refine qk ?_ | refine qg ?_ _)); refine blk_put (cs := #[.int .i64 0, .string (⟨#[]⟩ : ByteArray), .string (⟨#[]⟩ : ByteArray), .string (⟨#[]⟩ : ByteArray)]) ?_ 0 _ rfl; (with_reducible repeat (first | refine qh ?_ _ | refine qk ?_ | refine qg ?_ _)); refine blk_far ?_ NB102_103.out _; (with_reducible repeat (first | refine qh ?_ _ | refine qk ?_ | refine qg ?_ _)); refine blk_far ?_ NB102_103.out _; (with_reducible repeat (first | refine qh ?_ _ | refine qk ?_ | refine qg ?_ _)); refine blk_far ?_ NB102_103.out _; (with_reducible repeat (first | refine qh ?_ _ | refine qk ?_ | refine qg ?_ _)); refine blk_far ?_ NB102_103.out _; (with_reducible repeat (first | refine qh ?_ _ | refine qk ?_ | refine qg ?_ _)); exact BK102.out) Try.underlying157 rfl (by kernel_rfl)) rfl ?_
 exact ⟨by first | rfl | (simp [qn, qm] <;> rfl) | (simp [*, qn, qm] <;> rfl), by repeat (first | (with_reducible first | exact HB.out | apply qc | apply qa | apply qb | refine qf ?_ GE101.out | refine qf ?_ GE102.out | refine qf ?_ GE103.out) | exact HB.out)⟩
theorem yq55 {P : Prop} (h : P := by first | (with_reducible assumption) | assumption) : P := h
def laws_toDOpS.l0 : Nat → List (S195) → List (S157) → Int → Option ((List (S157)))
 | 0, _, _, _ => none
 | k + 1, x0, x3, x4 => if x4 < (x0.length : Int) then (if 0 ≤ x4 then ((laws_toDOp.f ((rd_T195 x0 x4).f0) ((rd_T195 x0 x4).f1) ((rd_T195 x0 x4).f2) ((rd_T195 x0 x4).f3)).bind fun bt105 => (if x4 < (x3.length : Int) then (laws_toDOpS.l0 k x0 (x3.set (x4 : Int).toNat (⟨bt105.1, bt105.2.1, bt105.2.2.1, bt105.2.2.2⟩ : S157)) (wrap64 (x4 + 1))) else (none))) else (none)) else (some x3)
def laws_toDOpS.f (k : Nat) (l0 : List (S195)) : Option ((List (S157))) := if 0 ≤ (l0.length : Int) then (if ((l0.length : Int) : Int).toNat ≤ 5026338869833 then (laws_toDOpS.l0 k l0 (List.replicate ((l0.length : Int) : Int).toNat z157) 0) else (none)) else (none)
set_option maxHeartbeats 8000000 in
set_option maxRecDepth 100000 in
theorem laws_toDOpS.calls (k : Nat) (A0 : Option Addr) (c0 : Nat) (l0 : List (S195)) (r : List (S157)) (w : World) (hr0 : Kd.C k195 w A0 l0.length l0) (hc0 : l0.length ≤ c0) (h : laws_toDOpS.f k l0 = some r) :
  Calls Try.prog 126 #[.slice A0 l0.length c0] w fun e w' => ∃ v0_ : Value, e = .returned (v0_) ∧ Kd.R k157 157 w' w.heap.size (fun _ => True) v0_ r ∧ Below w.heap.size w w' := by
 have hu195 := Try.underlying195
 have hu157 := Try.underlying157
 have HR0 := Qz.mk hr0
 have HC0 := Qz.mk hc0
 clear hr0 hc0
 have HB := Qz.mk (Below.refl w.heap.size w)
 have H : (if 0 ≤ (l0.length : Int) then (if ((l0.length : Int) : Int).toNat ≤ 5026338869833 then (laws_toDOpS.l0 k l0 (List.replicate ((l0.length : Int) : Int).toNat z157) 0) else (none)) else (none)) = some r := h
 clear h
 by_cases c2 : 0 ≤ (l0.length : Int)
 ·rw [if_pos c2] at H
  have c2b0 := eq_true c2
  have c2b1 : decide (0 ≤ (l0.length : Int)) = true := decide_eq_true c2
  clear c2
  by_cases c3 : ((l0.length : Int) : Int).toNat ≤ 5026338869833
  ·rw [if_pos c3] at H
   have c3b0 := eq_true c3
   have c3b1 : decide (((l0.length : Int) : Int).toNat ≤ 5026338869833) = true := decide_eq_true c3
   clear c3
   obtain ⟨y101, hy101⟩ : ∃ y_ : List (S157), y_ = (List.replicate ((l0.length : Int) : Int).toNat z157) := ⟨_, rfl⟩
   replace H : (laws_toDOpS.l0 k l0 y101 0) = some r := by first | (rw [hy101]; with_reducible exact H) | (have H2_ := (Option.bind_some _ _).symm.trans H; rw [hy101]; with_reducible exact H2_) | (have H2_ := (Option.bind_some _ _).symm.trans H; with_reducible exact H2_) | with_reducible exact H | (rw [hy101]; exact H) | exact H
   have Ny101 := Qz.mk hy101
   clear hy101
   have H' := Qz.mk H
   clear H
   go_enter Try.func126, Try.ntmps126
   go_wp2_with (first | ((with_reducible refine qt (N := 7) rfl ?_); refine Kd.R_make k157 _ 157 rfl (N := 7) rfl 83 _ _ rfl (l0.length : Int) rfl rfl Try.underlying83 (.agg #[(.int .i64 0), (.string ⟨#[]⟩), (.string ⟨#[]⟩), (.string ⟨#[]⟩)]) 56 info157 rfl (by decide) (by omega) z157 (ok := fun _ => True) (okp := fun _ => True) (k157_mkM _ _ _ z157 ) (fun _ hk => hk) trivial (of_decide_eq_true yq55) (Nat.le_trans (Nat.mul_le_mul_right _ (of_decide_eq_true yq55 : (l0.length : Int).toNat ≤ 5026338869833)) (by omega)) (Below.refl _ _) (Nat.le_refl _) ?_; intro v102 w4 ho5 hb hg_ hnew_; clear hg_ hnew_; (first | rw [← Ny101.out] at ho5 | (simp only [Int.reduceToNat] at ho5; rw [← Ny101.out] at ho5)); have HO103 := Qz.mk (Kd.R_lower ho5 (qo (by repeat (first | (with_reducible first | exact HB.out | apply qc | apply qa | apply qb) | exact HB.out)))); replace HB := Qz.mk (ql (by repeat (first | (with_reducible first | exact HB.out | apply qc | apply qa | apply qb) | exact HB.out)) hb); clear hb ho5))
   go_loopg [4] k (fun kq v4 w' => ∃ (x3_1 : List (S157)) (x4_1 : Int), v4 = .int .i64 x4_1 ∧ Qz (laws_toDOpS.l0 kq l0 x3_1 x4_1 = some r) ∧ Qz (kq ≤ k) ∧ Qz (Kd.R k157 157 w' w.heap.size (fun _ => True) v102 x3_1) ∧ Qz (Below w.heap.size w w'))
   case atStart => exact ⟨(y101), (0), (by first | rfl | (simp; done) | (simp [*]; done)), H', ⟨Nat.le_refl _⟩, ⟨by (with_reducible repeat (first | apply Kd.R_alloc | apply Kd.R_drewN | apply Kd.R_drew)); exact HO103.out⟩, ⟨by repeat (first | (with_reducible first | exact HB.out | apply qc | apply qa | apply qb) | exact HB.out)⟩⟩
   case round =>
    clear H'
    (try clear c1);(try clear c2);(try clear c2b0);(try clear c2b1);(try clear p2);(try clear c3);(try clear c3b0);(try clear c3b1)
    obtain ⟨x3_1, x4_1, rfl, HA, HK1, HO_3, HB⟩ := hrel
    cases gk with
    | zero => exact absurd HA.out (by simp [laws_toDOpS.l0])
    | succ k1 =>
     have H := HA.out
     clear HA
     simp only [laws_toDOpS.l0] at H
     by_cases c6 : x4_1 < (l0.length : Int)
     ·rw [if_pos c6] at H
      have c6b0 : decide (x4_1 < (l0.length : Int)) = true := decide_eq_true c6
      clear c6
      by_cases c7 : 0 ≤ x4_1
      ·rw [if_pos c7] at H
       have c7b0 : decide (0 ≤ x4_1) = true := decide_eq_true c7
       clear c7
       replace H := Option.bind_eq_some_iff.mp H
       obtain ⟨⟨t105, t106, t107, t108⟩, A80, H⟩ := H
       replace H : (if x4_1 < (x3_1.length : Int) then (laws_toDOpS.l0 k1 l0 (x3_1.set (x4_1 : Int).toNat (⟨t105, t106, t107, t108⟩ : S157)) (wrap64 (x4_1 + 1))) else (none)) = some r := H
       have A8 := Qz.mk A80
       clear A80
       by_cases c9 : x4_1 < (x3_1.length : Int)
       ·rw [if_pos c9] at H
        have c9b0 : decide (x4_1 < (x3_1.length : Int)) = true := decide_eq_true c9
        clear c9
        obtain ⟨y109, hy109⟩ : ∃ y_ : List (S157), y_ = (x3_1.set (x4_1 : Int).toNat (⟨t105, t106, t107, t108⟩ : S157)) := ⟨_, rfl⟩
        replace H : (laws_toDOpS.l0 k1 l0 y109 (wrap64 (x4_1 + 1))) = some r := by first | (rw [hy109]; with_reducible exact H) | (have H2_ := (Option.bind_some _ _).symm.trans H; rw [hy109]; with_reducible exact H2_) | (have H2_ := (Option.bind_some _ _).symm.trans H; with_reducible exact H2_) | with_reducible exact H | (rw [hy109]; exact H) | exact H
        have Ny109 := Qz.mk hy109
        clear hy109
        have H' := Qz.mk H
        clear H
        have p104 : 0 ≤ (x4_1 : Int) := of_decide_eq_true yq55
        have q104 : x4_1 < (l0.length : Int) := of_decide_eq_true yq55
        obtain ⟨ad104, e104, hx104_0, hx104_1, hx104_2, hx104_3⟩ := at_T195 HR0.out x4_1 p104 q104
        cases e104
        replace hx104_0 := (HB.out.cell (World.block_lt_of_cell? w _ hx104_0)).trans hx104_0
        replace hx104_1 := (HB.out.cell (World.block_lt_of_cell? w _ hx104_1)).trans hx104_1
        replace hx104_2 := (HB.out.cell (World.block_lt_of_cell? w _ hx104_2)).trans hx104_2
        replace hx104_3 := (HB.out.cell (World.block_lt_of_cell? w _ hx104_3)).trans hx104_3
        replace p104 := eq_true p104
        replace q104 := eq_true q104
        go_wp2_with (first | ((with_reducible refine qp (f := 178) rfl ?_); refine qc1 (some 20) rfl rfl Try.func178 (by kernel_rfl) rfl #[.agg #[.int .i64 ((rd_T195 l0 x4_1).f0), .string ((rd_T195 l0 x4_1).f1), .string ((rd_T195 l0 x4_1).f2), .string ((rd_T195 l0 x4_1).f3)]] rfl (by (try simp only [List.map_toArray, List.map_cons, List.map_nil]); first | done | rfl) ?_; (with_reducible refine (laws_toDOp.calls ((rd_T195 l0 x4_1).f0) ((rd_T195 l0 x4_1).f1) ((rd_T195 l0 x4_1).f2) ((rd_T195 l0 x4_1).f3) t105 t106 t107 t108 _ A8.out).mono ?_); rintro e w11 ⟨rfl, hb⟩; refine ⟨_, rfl, ?_⟩; replace HO_3 := Qz.mk (Kd.R_below (by (with_reducible repeat (first | apply Kd.R_alloc | apply Kd.R_drewN | apply Kd.R_drew)); exact HO_3.out) hb); replace HB := Qz.mk (ql (by repeat (first | (with_reducible first | exact HB.out | apply qc | apply qa | apply qb) | exact HB.out)) hb); (try clear hb); (try clear hk); have p10 : 0 ≤ (x4_1 : Int) := of_decide_eq_true yq55; have q10 : (x4_1 : Int) < ((x3_1.length : Int) : Int) := of_decide_eq_true yq55; obtain ⟨go10, co10, eo10, gb10, gl10, cl10, HG10⟩ := Kd.R_form HO_3.out (by omega); (first | cases eo10 | (injection eo10 with ea_ en_ ec_; (first | subst ea_ | (injection ea_ with ea_; subst ea_)); subst ec_; clear en_)); have GB10 := Qz.mk gb10; have GG10 := Qz.mk HG10; clear gb10 gl10 HG10; obtain ⟨ce10, hcl10, hM10, hcc10, hfr10⟩ := Kd.R_elem HO_3.out z157 (x4_1 : Int) p10 q10; obtain rfl := k157_openM hM10; have hx10_0 : w11.cell? ⟨go10, (x4_1 : Int).toNat * 4, none⟩ = some (.int .i64 ((qi x3_1 x4_1).f0)) := hcc10 0 _ rfl; have hx10_1 : w11.cell? ⟨go10, (x4_1 : Int).toNat * 4 + 1, none⟩ = some (.string ((qi x3_1 x4_1).f1)) := hcc10 1 _ rfl; have hx10_2 : w11.cell? ⟨go10, (x4_1 : Int).toNat * 4 + 2, none⟩ = some (.string ((qi x3_1 x4_1).f2)) := hcc10 2 _ rfl; have hx10_3 : w11.cell? ⟨go10, (x4_1 : Int).toNat * 4 + 3, none⟩ = some (.string ((qi x3_1 x4_1).f3)) := hcc10 3 _ rfl; have hf10_0 : w11.frozen? ⟨go10, (x4_1 : Int).toNat * 4, none⟩ = false := hfr10 0; have hf10_1 : w11.frozen? ⟨go10, (x4_1 : Int).toNat * 4 + 1, none⟩ = false := hfr10 1; have hf10_2 : w11.frozen? ⟨go10, (x4_1 : Int).toNat * 4 + 2, none⟩ = false := hfr10 2; have hf10_3 : w11.frozen? ⟨go10, (x4_1 : Int).toNat * 4 + 3, none⟩ = false := hfr10 3; clear hcl10 hcc10 hfr10 hM10; replace p10 := eq_true p10; replace q10 := eq_true q10; have HX12 := Qz.mk (show Kd.R k157 157 w11 w.heap.size (fun _ => True) (.slice (some ⟨go10, 0, none⟩) x3_1.length co10) x3_1 from (by (with_reducible repeat (first | apply Kd.R_alloc | apply Kd.R_drewN | apply Kd.R_drew)); exact HO_3.out)); obtain ⟨ce12, hcl12, hM12, hcc12, hfr12⟩ := Kd.R_elem HX12.out z157 (x4_1 : Int) (of_decide_eq_true yq55) (by have h_ : (x4_1 : Int) < ((x3_1.length : Int) : Int) := of_decide_eq_true yq55; first | exact h_ | (have e_ := (Kd.R_reads' HO_3.out).1; omega) | simpa using h_); obtain rfl := k157_openM hM12; have HP12 := Kd.R_seg HX12.out (x4_1 : Int) (of_decide_eq_true yq55) (by have h_ : (x4_1 : Int) < ((x3_1.length : Int) : Int) := of_decide_eq_true yq55; first | exact h_ | (have e_ := (Kd.R_reads' HO_3.out).1; omega) | simpa using h_) (seg := [.int .i64 t105, .string t106, .string t107, .string t108]) (j := 0) hcl12 hcc12 (show 4 ≤ 4 from by decide) (x' := (⟨t105, t106, t107, t108⟩ : S157)) (k157_mkM _ _ _ (⟨t105, t106, t107, t108⟩ : S157) ) (fun _ hk => hk); have hx12_0 := hcc12 0 _ rfl; (try simp only [show (k157).sz = 4 from rfl, Nat.mul_one, Nat.add_zero] at hx12_0); have hf12_0 := hfr12 0; (try simp only [show (k157).sz = 4 from rfl, Nat.mul_one, Nat.add_zero] at hf12_0); have hx12_1 := hcc12 1 _ rfl; (try simp only [show (k157).sz = 4 from rfl, Nat.mul_one, Nat.add_zero] at hx12_1); have hf12_1 := hfr12 1; (try simp only [show (k157).sz = 4 from rfl, Nat.mul_one, Nat.add_zero] at hf12_1); have hx12_2 := hcc12 2 _ rfl; (try simp only [show (k157).sz = 4 from rfl, Nat.mul_one, Nat.add_zero] at hx12_2); have hf12_2 := hfr12 2; (try simp only [show (k157).sz = 4 from rfl, Nat.mul_one, Nat.add_zero] at hf12_2); have hx12_3 := hcc12 3 _ rfl; (try simp only [show (k157).sz = 4 from rfl, Nat.mul_one, Nat.add_zero] at hx12_3); have hf12_3 := hfr12 3; (try simp only [show (k157).sz = 4 from rfl, Nat.mul_one, Nat.add_zero] at hf12_3); clear hcl12 hcc12 hfr12 hM12) | ((with_reducible refine gate_store (t := 157) (p := 21) rfl ?_); refine store_event (t := 157) (p := 21) (v := ?vo_w13) (w1 := ((((w11.setCell ⟨go10, (x4_1 : Int).toNat * 4, none⟩ (.int .i64 t105)).setCell ⟨go10, (x4_1 : Int).toNat * 4 + 1, none⟩ (.string t106)).setCell ⟨go10, (x4_1 : Int).toNat * 4 + 2, none⟩ (.string t107)).setCell ⟨go10, (x4_1 : Int).toNat * 4 + 3, none⟩ (.string t108))) ?hg ?ho ?hn ?hr ?_; (case ho => rfl); (case hg => rfl); (case hn => rfl); (case hr => first | (go_simp; done) | (go_simp; rfl)); intro w13 hw; have hg : w11.grownBy w13 (some go10) := (by rw [hw]; exact HP12.2); have hp_ : Kd.R k157 157 w13 w.heap.size (fun _ => True) (.slice (some ⟨go10, 0, none⟩) x3_1.length co10) y109 := (by rw [hw, Ny109.out]; exact HP12.1); clear HP12; replace HO_3 := Qz.mk (hp_); replace HB := Qz.mk ((by rw [hw]; exact qf (qf (qf (qf (HB.out) GB10.out) GB10.out) GB10.out) GB10.out : Below w.heap.size w w13)); clear hg hw hp_))
        go_roundg k1
        case measure => have := HK1.out; omega
        case rel => exact ⟨(y109), (wrap64 (x4_1 + 1)), (by first | rfl | (simp; done) | (simp [*]; done)), H', ⟨by have := HK1.out; omega⟩, ⟨by (with_reducible repeat (first | apply Kd.R_alloc | apply Kd.R_drewN | apply Kd.R_drew)); exact HO_3.out⟩, ⟨by repeat (first | (with_reducible first | exact HB.out | apply qc | apply qa | apply qb) | exact HB.out)⟩⟩
       ·rw [if_neg c9] at H
        exact absurd H (by simp)
      ·rw [if_neg c7] at H
       exact absurd H (by simp)
     ·rw [if_neg c6] at H
      have c6b0 : decide (x4_1 < (l0.length : Int)) = false := decide_eq_false c6
      clear c6
      obtain rfl := Option.some.inj H
      go_wp2
      go_ret
      exact ⟨_, by first | rfl | (simp [qn, qm] <;> rfl) | (simp [*, qn, qm] <;> rfl), by (with_reducible repeat (first | apply Kd.R_alloc | apply Kd.R_drewN | apply Kd.R_drew)); exact HO_3.out, by repeat (first | (with_reducible first | exact HB.out | apply qc | apply qa | apply qb) | exact HB.out)⟩
  ·rw [if_neg c3] at H
   exact absurd H (by simp)
 ·rw [if_neg c2] at H
  exact absurd H (by simp)
theorem yq56 {P : Prop} (h : P := by repeat (first | (with_reducible first | exact HB.out | apply qc | apply qa | apply qb | refine qf ?_ GE101.out | refine qf ?_ GE102.out | refine qf ?_ GE103.out) | exact HB.out)) : P := h
theorem yq57 {P : Prop} (h : P := by (with_reducible repeat (first | refine qh ?_ _ | refine qk ?_ | refine qg ?_ _)); exact BK101.out) : P := h
theorem yq58 {P : Prop} (h : P := by (try simp only [List.map_toArray, List.map_cons, List.map_nil]); first | done | rfl | (simp only [List.length_drop, List.length_take]; rfl) | (rw [IntWalk.u64_in _ (by omega)] <;> rfl)) : P := h
theorem yq59 {P : Prop} (h : P := by (with_reducible repeat (first | refine qh ?_ _ | refine qk ?_ | refine qg ?_ _)); exact BK102.out) : P := h
theorem yq60 {P : Prop} (h : P := by (with_reducible repeat (first | apply Kd.R_alloc | apply Kd.R_drewN | apply Kd.R_drew)); exact (Kd.R_mono (Kd.R_far (p := ⟨gb103, 0, none⟩) (Kd.R_types HO106.out BK103.out (by decide)) (fun _ hk => hk.2) (.slice Ao12 t104.length co12)) (fun _ h_ => h_.1))) : P := h
theorem yq61 {P : Prop} (h : P := by (with_reducible repeat (first | refine qh ?_ _ | refine qk ?_ | refine qg ?_ _)); refine blk_far ?_ NB102_103.out _; (with_reducible repeat (first | refine qh ?_ _ | refine qk ?_ | refine qg ?_ _)); exact BK102.out) : P := h
theorem yq62 {P : Prop} (h : P := by (with_reducible repeat (first | refine qh ?_ _ | refine qk ?_ | refine qg ?_ _)); refine blk_far ?_ NB101_103.out _; (with_reducible repeat (first | refine qh ?_ _ | refine qk ?_ | refine qg ?_ _)); exact BK101.out) : P := h
def laws_toDisk.f (k : Nat) (l0_0 : List (S193)) (l0_1 : List (S193)) (l0_2 : List (S195)) : Option ((List (S170)) × (List (S170)) × (List (S157))) := (laws_toFileS.f k l0_0).bind fun t104 => ((laws_toFileS.f k l0_1).bind fun t107 => ((laws_toDOpS.f k l0_2).bind fun t110 => (some (t104, t107, t110))))
set_option maxHeartbeats 8000000 in
set_option maxRecDepth 100000 in
theorem laws_toDisk.calls (k : Nat) (A0_0 : Option Addr) (c0_0 : Nat) (l0_0 : List (S193)) (A0_1 : Option Addr) (c0_1 : Nat) (l0_1 : List (S193)) (A0_2 : Option Addr) (c0_2 : Nat) (l0_2 : List (S195)) (r1 : List (S170)) (r2 : List (S170)) (r3 : List (S157)) (w : World) (hr0_0 : Kd.C k193 w A0_0 l0_0.length l0_0) (hc0_0 : l0_0.length ≤ c0_0) (hr0_1 : Kd.C k193 w A0_1 l0_1.length l0_1) (hc0_1 : l0_1.length ≤ c0_1) (hr0_2 : Kd.C k195 w A0_2 l0_2.length l0_2) (hc0_2 : l0_2.length ≤ c0_2) (h : laws_toDisk.f k l0_0 l0_1 l0_2 = some (r1, r2, r3)) :
  Calls Try.prog 55 #[.agg #[.slice A0_0 l0_0.length c0_0, .slice A0_1 l0_1.length c0_1, .slice A0_2 l0_2.length c0_2]] w fun e w' => ∃ v0_ v1_ v2_ : Value, e = .returned (.agg #[v0_, v1_, v2_]) ∧ Kd.R k170 170 w' w.heap.size (fun k_ => some k_ ≠ (v1_ : Value).ownBlock) v0_ r1 ∧ Kd.R k170 170 w' w.heap.size (fun k_ => some k_ ≠ (v0_ : Value).ownBlock) v1_ r2 ∧ Kd.R k157 157 w' w.heap.size (fun _ => True) v2_ r3 ∧ Below w.heap.size w w' := by
 have hu79 := Try.underlying79
 have hu85 := Try.underlying85
 have HR0_0 := Qz.mk hr0_0
 have HC0_0 := Qz.mk hc0_0
 clear hr0_0 hc0_0
 have HR0_1 := Qz.mk hr0_1
 have HC0_1 := Qz.mk hc0_1
 clear hr0_1 hc0_1
 have HR0_2 := Qz.mk hr0_2
 have HC0_2 := Qz.mk hc0_2
 clear hr0_2 hc0_2
 have HB := Qz.mk (Below.refl w.heap.size w)
 have H : ((laws_toFileS.f k l0_0).bind fun t104 => ((laws_toFileS.f k l0_1).bind fun t107 => ((laws_toDOpS.f k l0_2).bind fun t110 => (some (t104, t107, t110))))) = some (r1, r2, r3) := h
 clear h
 replace H := Option.bind_eq_some_iff.mp H
 obtain ⟨t104, A20, H⟩ := H
 replace H : ((laws_toFileS.f k l0_1).bind fun t107 => ((laws_toDOpS.f k l0_2).bind fun t110 => (some (t104, t107, t110)))) = some (r1, r2, r3) := H
 have A2 := Qz.mk A20
 clear A20
 replace H := Option.bind_eq_some_iff.mp H
 obtain ⟨t107, A30, H⟩ := H
 replace H : ((laws_toDOpS.f k l0_2).bind fun t110 => (some (t104, t107, t110))) = some (r1, r2, r3) := H
 have A3 := Qz.mk A30
 clear A30
 replace H := Option.bind_eq_some_iff.mp H
 obtain ⟨t110, A40, H⟩ := H
 replace H : (some (t104, t107, t110)) = some (r1, r2, r3) := H
 have A4 := Qz.mk A40
 clear A40
 simp only [Option.some.injEq, Prod.mk.injEq] at H
 obtain ⟨rfl, rfl, rfl⟩ := H
 go_enter Try.func55, Try.ntmps55
 go_wp2_with (first | ((with_reducible refine qt (N := 1) rfl ?_); refine qr ?hg (N := 1) ?hd (cs := #[.slice A0_0 l0_0.length c0_0, .slice A0_1 l0_1.length c0_1, .slice A0_2 l0_2.length c0_2]) (t := 79) ?hr ?_; (case hd => rfl); (case hg => rfl); (case hr => first | (go_simp; done) | (go_simp; rfl)); intro gb101 hg w5 hbox hb; have BK101 := Qz.mk (hbox); have GW101 := Qz.mk ((by rw [hg]; exact (qo (by repeat (first | (with_reducible first | exact HB.out | apply qc | apply qa | apply qb) | exact HB.out))) : w.heap.size ≤ gb101)); have GE101 := GW101; replace HB := Qz.mk (ql (by repeat (first | (with_reducible first | exact HB.out | apply qc | apply qa | apply qb) | exact HB.out)) hb); clear hb hbox hg) | ((with_reducible refine qt (N := 2) rfl ?_); refine qr ?hg (N := 2) ?hd (cs := #[.slice none 0 0, .slice none 0 0, .slice none 0 0]) (t := 85) ?hr ?_; (case hd => rfl); (case hg => rfl); (case hr => first | (go_simp; done) | (go_simp; rfl)); intro gb102 hg w6 hbox hb; have BK102 := Qz.mk (hbox); have GW102 := Qz.mk ((by rw [hg]; exact (qo (by repeat (first | (with_reducible first | exact HB.out | apply qc | apply qa | apply qb | refine qf ?_ GE101.out) | exact HB.out))) : w.heap.size ≤ gb102)); have GE102 := GW102; replace HB := Qz.mk (ql (by repeat (first | (with_reducible first | exact HB.out | apply qc | apply qa | apply qb | refine qf ?_ GE101.out) | exact HB.out)) hb); have NB101_102 := Qz.mk ((by rw [hg]; exact Nat.ne_of_lt (blk_lt (g := gb101) (o := .cells #[.slice A0_0 l0_0.length c0_0, .slice A0_1 l0_1.length c0_1, .slice A0_2 l0_2.length c0_2] 79 (0, 0)) yq57) : gb101 ≠ gb102)); have NB102_101 := Qz.mk ((by rw [hg]; exact Nat.ne_of_gt (blk_lt (g := gb101) (o := .cells #[.slice A0_0 l0_0.length c0_0, .slice A0_1 l0_1.length c0_1, .slice A0_2 l0_2.length c0_2] 79 (0, 0)) yq57) : gb102 ≠ gb101)); replace BK101 := Qz.mk (qq (g := gb101) (o := .cells #[.slice A0_0 l0_0.length c0_0, .slice A0_1 l0_1.length c0_1, .slice A0_2 l0_2.length c0_2] 79 (0, 0)) yq57 hb); clear hb hbox hg) | ((with_reducible refine qt (N := 3) rfl ?_); refine qr ?hg (N := 3) ?hd (cs := #[.slice none 0 0, .slice none 0 0, .slice none 0 0]) (t := 85) ?hr ?_; (case hd => rfl); (case hg => rfl); (case hr => first | (go_simp; done) | (go_simp; rfl)); intro gb103 hg w7 hbox hb; have BK103 := Qz.mk (hbox); have GW103 := Qz.mk ((by rw [hg]; exact (qo (by repeat (first | (with_reducible first | exact HB.out | apply qc | apply qa | apply qb | refine qf ?_ GE101.out | refine qf ?_ GE102.out) | exact HB.out))) : w.heap.size ≤ gb103)); have GE103 := GW103; replace HB := Qz.mk (ql (by repeat (first | (with_reducible first | exact HB.out | apply qc | apply qa | apply qb | refine qf ?_ GE101.out | refine qf ?_ GE102.out) | exact HB.out)) hb); have NB101_103 := Qz.mk ((by rw [hg]; exact Nat.ne_of_lt (blk_lt (g := gb101) (o := .cells #[.slice A0_0 l0_0.length c0_0, .slice A0_1 l0_1.length c0_1, .slice A0_2 l0_2.length c0_2] 79 (0, 0)) yq57) : gb101 ≠ gb103)); have NB103_101 := Qz.mk ((by rw [hg]; exact Nat.ne_of_gt (blk_lt (g := gb101) (o := .cells #[.slice A0_0 l0_0.length c0_0, .slice A0_1 l0_1.length c0_1, .slice A0_2 l0_2.length c0_2] 79 (0, 0)) yq57) : gb103 ≠ gb101)); replace BK101 := Qz.mk (qq (g := gb101) (o := .cells #[.slice A0_0 l0_0.length c0_0, .slice A0_1 l0_1.length c0_1, .slice A0_2 l0_2.length c0_2] 79 (0, 0)) yq57 hb); have NB102_103 := Qz.mk ((by rw [hg]; exact Nat.ne_of_lt (blk_lt (g := gb102) (o := .cells #[.slice none 0 0, .slice none 0 0, .slice none 0 0] 85 (0, 0)) yq59) : gb102 ≠ gb103)); have NB103_102 := Qz.mk ((by rw [hg]; exact Nat.ne_of_gt (blk_lt (g := gb102) (o := .cells #[.slice none 0 0, .slice none 0 0, .slice none 0 0] 85 (0, 0)) yq59) : gb103 ≠ gb102)); replace BK102 := Qz.mk (qq (g := gb102) (o := .cells #[.slice none 0 0, .slice none 0 0, .slice none 0 0] 85 (0, 0)) yq59 hb); clear hb hbox hg; have hnb8 := NB101_102.out; have hnc8 := NB102_101.out; have hnb9 := NB101_103.out; have hnc9 := NB103_101.out; have hcz10_0 := (qd BK101.out 0).trans rfl; have hcz10_1 := (qd BK101.out 1).trans rfl; have hcz10_2 := (qd BK101.out 2).trans rfl; have hfz10_0 := qe BK101.out 0; have hfz10_1 := qe BK101.out 1; have hfz10_2 := qe BK101.out 2) | ((with_reducible refine qp (f := 125) rfl ?_); refine qc1 (some 6) rfl rfl Try.func125 (by kernel_rfl) rfl #[.slice A0_0 l0_0.length c0_0] rfl yq58 ?_; (with_reducible refine (laws_toFileS.calls k _ _ l0_0 t104 _ ?side1 ?side2 A2.out).mono ?_); (case side1 => repeat (first | exact (Kd.C_below HR0_0.out HB.out) | (with_reducible refine Kd.C_alloc ?_ _) | (with_reducible refine Kd.C_drewN ?_ _) | (with_reducible refine Kd.C_drew ?_))); (case side2 => exact HC0_0.out); rintro e w11 ⟨v105, rfl, ho0, hb⟩; refine ⟨_, rfl, ?_⟩; have HO106 := Qz.mk (Kd.R_lower ho0 (qo yq56)); replace BK101 := Qz.mk (qq (g := gb101) (o := .cells #[.slice A0_0 l0_0.length c0_0, .slice A0_1 l0_1.length c0_1, .slice A0_2 l0_2.length c0_2] 79 (0, 0)) yq57 hb); replace BK102 := Qz.mk (qq (g := gb102) (o := .cells #[.slice none 0 0, .slice none 0 0, .slice none 0 0] 85 (0, 0)) yq59 hb); replace BK103 := Qz.mk (qq (g := gb103) (o := .cells #[.slice none 0 0, .slice none 0 0, .slice none 0 0] 85 (0, 0)) (by (with_reducible repeat (first | refine qh ?_ _ | refine qk ?_ | refine qg ?_ _)); exact BK103.out) hb); replace HB := Qz.mk (ql yq56 hb); (try clear hb); (try clear hk); (try clear ho0); obtain ⟨Ao12, co12, eo12⟩ := Kd.R_slice HO106.out; subst eo12; have hnb13 := NB103_102.out; have hnc13 := NB102_103.out; have hcz14_0 := (qd BK103.out 0).trans rfl; have hcz14_1 := (qd BK103.out 1).trans rfl; have hcz14_2 := (qd BK103.out 2).trans rfl; have hfz14_0 := qe BK103.out 0; have hfz14_1 := qe BK103.out 1; have hfz14_2 := qe BK103.out 2; have hcz15_0 := (qd BK101.out 0).trans rfl; have hcz15_1 := (qd BK101.out 1).trans rfl; have hcz15_2 := (qd BK101.out 2).trans rfl; have hfz15_0 := qe BK101.out 0; have hfz15_1 := qe BK101.out 1; have hfz15_2 := qe BK101.out 2) | ((with_reducible refine qp (f := 125) rfl ?_); refine qc1 (some 10) rfl rfl Try.func125 (by kernel_rfl) rfl #[.slice A0_1 l0_1.length c0_1] rfl yq58 ?_; (with_reducible refine (laws_toFileS.calls k _ _ l0_1 t107 _ ?side1 ?side2 A3.out).mono ?_); (case side1 => exact Kd.C_below HR0_1.out yq56); (case side2 => exact HC0_1.out); rintro e w16 ⟨v108, rfl, ho0, hb⟩; refine ⟨_, rfl, ?_⟩; have HO109 := Qz.mk (Kd.R_lower (Kd.R_new' ho0 (Kd.R_lt yq60)) (qo yq56)); replace HO106 := Qz.mk (Kd.R_elder' yq60 (Kd.R_base ho0) hb); replace BK101 := Qz.mk (qq (g := gb101) (o := .cells #[.slice A0_0 l0_0.length c0_0, .slice A0_1 l0_1.length c0_1, .slice A0_2 l0_2.length c0_2] 79 (0, 0)) yq62 hb); replace BK102 := Qz.mk (qq (g := gb102) (o := .cells #[.slice none 0 0, .slice none 0 0, .slice none 0 0] 85 (0, 0)) yq61 hb); replace BK103 := Qz.mk (qq (g := gb103) (o := .cells #[.slice Ao12 t104.length co12, .slice none 0 0, .slice none 0 0] 85 (0, 0)) (by (with_reducible repeat (first | refine qh ?_ _ | refine qk ?_ | refine qg ?_ _)); refine blk_put (cs := #[.slice none 0 0, .slice none 0 0, .slice none 0 0]) ?_ 0 _ rfl; (with_reducible repeat (first | refine qh ?_ _ | refine qk ?_ | refine qg ?_ _)); exact BK103.out) hb); replace HB := Qz.mk (ql yq56 hb); (try clear hb); (try clear hk); (try clear ho0); obtain ⟨Ao17, co17, eo17⟩ := Kd.R_slice HO109.out; subst eo17; have hcz18_0 := (qd BK103.out 0).trans rfl; have hcz18_1 := (qd BK103.out 1).trans rfl; have hcz18_2 := (qd BK103.out 2).trans rfl; have hfz18_0 := qe BK103.out 0; have hfz18_1 := qe BK103.out 1; have hfz18_2 := qe BK103.out 2; have hcz19_0 := (qd BK101.out 0).trans rfl; have hcz19_1 := (qd BK101.out 1).trans rfl; have hcz19_2 := (qd BK101.out 2).trans rfl; have hfz19_0 := qe BK101.out 0; have hfz19_1 := qe BK101.out 1; have hfz19_2 := qe BK101.out 2) | ((with_reducible refine qp (f := 126) rfl ?_); refine qc1 (some 14) rfl rfl Try.func126 (by kernel_rfl) rfl #[.slice A0_2 l0_2.length c0_2] rfl yq58 ?_; (with_reducible refine (laws_toDOpS.calls k _ _ l0_2 t110 _ ?side1 ?side2 A4.out).mono ?_); (case side1 => exact Kd.C_below HR0_2.out yq56); (case side2 => exact HC0_2.out); rintro e w20 ⟨v111, rfl, ho0, hb⟩; refine ⟨_, rfl, ?_⟩; replace HO106 := Qz.mk (Kd.R_below (by (with_reducible repeat (first | apply Kd.R_alloc | apply Kd.R_drewN | apply Kd.R_drew)); exact (Kd.R_mono (Kd.R_far (p := ⟨gb103, 1, none⟩) (Kd.R_types HO106.out BK103.out (by decide)) (fun _ hk => hk.2) (.slice Ao17 t107.length co17)) (fun _ h_ => h_.1))) hb); replace HO109 := Qz.mk (Kd.R_below (by (with_reducible repeat (first | apply Kd.R_alloc | apply Kd.R_drewN | apply Kd.R_drew)); exact (Kd.R_mono (Kd.R_far (p := ⟨gb103, 1, none⟩) (Kd.R_types HO109.out BK103.out (by decide)) (fun _ hk => hk.2) (.slice Ao17 t107.length co17)) (fun _ h_ => h_.1))) hb); have HO112 := Qz.mk (Kd.R_lower ho0 (qo yq56)); replace BK101 := Qz.mk (qq (g := gb101) (o := .cells #[.slice A0_0 l0_0.length c0_0, .slice A0_1 l0_1.length c0_1, .slice A0_2 l0_2.length c0_2] 79 (0, 0)) yq62 hb); replace BK102 := Qz.mk (qq (g := gb102) (o := .cells #[.slice none 0 0, .slice none 0 0, .slice none 0 0] 85 (0, 0)) yq61 hb); replace BK103 := Qz.mk (qq (g := gb103) (o := .cells #[.slice Ao12 t104.length co12, .slice Ao17 t107.length co17, .slice none 0 0] 85 (0, 0)) (by (with_reducible repeat (first | refine qh ?_ _ | refine qk ?_ | refine qg ?_ _)); refine blk_put (cs := #[.slice Ao12 t104.length co12, .slice none 0 0, .slice none 0 0]) ?_ 1 _ rfl; (with_reducible repeat (first | refine qh ?_ _ | refine qk ?_ | refine qg ?_ _)); exact BK103.out) hb); replace HB := Qz.mk (ql yq56 hb); (try clear hb); (try clear hk); (try clear ho0); obtain ⟨Ao21, co21, eo21⟩ := Kd.R_slice HO112.out; subst eo21; have hcz22_0 := (qd BK103.out 0).trans rfl; have hcz22_1 := (qd BK103.out 1).trans rfl; have hcz22_2 := (qd BK103.out 2).trans rfl; have hfz22_0 := qe BK103.out 0; have hfz22_1 := qe BK103.out 1; have hfz22_2 := qe BK103.out 2; have hcz23_0 := (qd BK102.out 0).trans rfl; have hcz23_1 := (qd BK102.out 1).trans rfl; have hcz23_2 := (qd BK102.out 2).trans rfl; have hfz23_0 := qe BK102.out 0; have hfz23_1 := qe BK102.out 1; have hfz23_2 := qe BK102.out 2))
 refine bodyPost_ret (results_cell_row rfl _ _ gb102 85 #[.slice Ao12 t104.length co12, .slice Ao17 t107.length co17, .slice Ao21 t110.length co21] (0, 0) _ rfl (by (with_reducible repeat (first | refine qh ?_ _ | refine qk ?_ | refine qg ?_ _)); refine blk_put (cs := #[.slice Ao12 t104.length co12, .slice Ao17 t107.length co17, .slice none 0 0]) ?_ 2 _ rfl; (with_reducible repeat (first | refine qh ?_ _ | refine qk ?_ | refine qg ?_ _)); refine blk_put (cs := #[.slice Ao12 t104.length co12, .slice none 0 0, .slice none 0 0]) ?_ 1 _ rfl; (with_reducible repeat (first | refine qh ?_ _ | refine qk ?_ | refine qg ?_ _)); refine blk_put (cs := #[.slice none 0 0, .slice none 0 0, .slice none 0 0]) ?_ 0 _ rfl; (with_reducible repeat (first | refine qh ?_ _ | refine qk ?_ | refine qg ?_ _)); refine blk_far ?_ NB102_103.out _; (with_reducible repeat (first | refine qh ?_ _ | refine qk ?_ | refine qg ?_ _)); exact BK102.out) Try.underlying85 rfl (by kernel_rfl)) rfl ?_
 exact ⟨_, _, _, by first | rfl | (simp [qn, qm] <;> rfl) | (simp [*, qn, qm] <;> rfl), by (with_reducible repeat (first | apply Kd.R_alloc | apply Kd.R_drewN | apply Kd.R_drew)); exact Kd.R_mono (Kd.R_far (p := ⟨gb102, 2, none⟩) (Kd.R_far (p := ⟨gb102, 1, none⟩) (Kd.R_far (p := ⟨gb102, 0, none⟩) (Kd.R_far (p := ⟨gb103, 2, none⟩) (Kd.R_types (Kd.R_types HO106.out BK103.out (by decide)) BK102.out (by decide)) (fun _ hk => hk.1.2) (.slice Ao21 t110.length co21)) (fun _ hk => hk.2) (.slice Ao12 t104.length co12)) (fun _ hk => hk.2) (.slice Ao17 t107.length co17)) (fun _ hk => hk.2) (.slice Ao21 t110.length co21)) (fun _ hk => hk.1.1.2), by (with_reducible repeat (first | apply Kd.R_alloc | apply Kd.R_drewN | apply Kd.R_drew)); exact Kd.R_mono (Kd.R_far (p := ⟨gb102, 2, none⟩) (Kd.R_far (p := ⟨gb102, 1, none⟩) (Kd.R_far (p := ⟨gb102, 0, none⟩) (Kd.R_far (p := ⟨gb103, 2, none⟩) (Kd.R_types (Kd.R_types HO109.out BK103.out (by decide)) BK102.out (by decide)) (fun _ hk => hk.1.2) (.slice Ao21 t110.length co21)) (fun _ hk => hk.2) (.slice Ao12 t104.length co12)) (fun _ hk => hk.2) (.slice Ao17 t107.length co17)) (fun _ hk => hk.2) (.slice Ao21 t110.length co21)) (fun _ hk => hk.1.1.2), by (with_reducible repeat (first | apply Kd.R_alloc | apply Kd.R_drewN | apply Kd.R_drew)); exact Kd.R_mono (Kd.R_far (p := ⟨gb102, 2, none⟩) (Kd.R_far (p := ⟨gb102, 1, none⟩) (Kd.R_far (p := ⟨gb102, 0, none⟩) (Kd.R_far (p := ⟨gb103, 2, none⟩) (Kd.R_types (Kd.R_types HO112.out BK103.out (by decide)) BK102.out (by decide)) (fun _ hk => hk.1.2) (.slice Ao21 t110.length co21)) (fun _ hk => hk.2) (.slice Ao12 t104.length co12)) (fun _ hk => hk.2) (.slice Ao17 t107.length co17)) (fun _ hk => hk.2) (.slice Ao21 t110.length co21)) (fun _ hk => trivial), by repeat (first | (with_reducible first | exact HB.out | apply qc | apply qa | apply qb | refine qf ?_ GE101.out | refine qf ?_ GE102.out | refine qf ?_ GE103.out) | exact HB.out)⟩
theorem yq63 {P : Prop} (h : P := by first | (with_reducible assumption) | assumption) : P := h
def laws_toInt64S.l0 : Nat → List Int → List Int → Int → Option (List Int)
 | 0, _, _, _ => none
 | k + 1, x0, x3, x4 => if x4 < (x0.length : Int) then (if 0 ≤ x4 then (if x4 < (x3.length : Int) then (laws_toInt64S.l0 k x0 (x3.set (x4 : Int).toNat (rd x0 x4)) (wrap64 (x4 + 1))) else (none)) else (none)) else (some x3)
def laws_toInt64S.f (k : Nat) (l0 : List Int) : Option (List Int) := if 0 ≤ (l0.length : Int) then (if ((l0.length : Int) : Int).toNat ≤ 35184372088832 then (laws_toInt64S.l0 k l0 (List.replicate ((l0.length : Int) : Int).toNat 0) 0) else (none)) else (none)
set_option maxHeartbeats 8000000 in
set_option maxRecDepth 100000 in
theorem laws_toInt64S.calls (k : Nat) (A0 : Option Addr) (c0 : Nat) (l0 : List Int) (r : List Int) (w : World) (hr0 : Kd.C (Kd.int .i64) w A0 l0.length l0) (hc0 : l0.length ≤ c0) (h : laws_toInt64S.f k l0 = some r) :
  Calls Try.prog 56 #[.slice A0 l0.length c0] w fun e w' => ∃ v0_ : Value, e = .returned (v0_) ∧ Kd.R (Kd.int .i64) 2 w' w.heap.size (fun _ => True) v0_ r ∧ Below w.heap.size w w' := by
 have HR0 := Qz.mk hr0
 have HC0 := Qz.mk hc0
 clear hr0 hc0
 have HB := Qz.mk (Below.refl w.heap.size w)
 have H : (if 0 ≤ (l0.length : Int) then (if ((l0.length : Int) : Int).toNat ≤ 35184372088832 then (laws_toInt64S.l0 k l0 (List.replicate ((l0.length : Int) : Int).toNat 0) 0) else (none)) else (none)) = some r := h
 clear h
 by_cases c2 : 0 ≤ (l0.length : Int)
 ·rw [if_pos c2] at H
  have c2b0 := eq_true c2
  have c2b1 : decide (0 ≤ (l0.length : Int)) = true := decide_eq_true c2
  clear c2
  by_cases c3 : ((l0.length : Int) : Int).toNat ≤ 35184372088832
  ·rw [if_pos c3] at H
   have c3b0 := eq_true c3
   have c3b1 : decide (((l0.length : Int) : Int).toNat ≤ 35184372088832) = true := decide_eq_true c3
   clear c3
   obtain ⟨y101, hy101⟩ : ∃ y_ : List Int, y_ = (List.replicate ((l0.length : Int) : Int).toNat 0) := ⟨_, rfl⟩
   replace H : (laws_toInt64S.l0 k l0 y101 0) = some r := by first | (rw [hy101]; with_reducible exact H) | (have H2_ := (Option.bind_some _ _).symm.trans H; rw [hy101]; with_reducible exact H2_) | (have H2_ := (Option.bind_some _ _).symm.trans H; with_reducible exact H2_) | with_reducible exact H | (rw [hy101]; exact H) | exact H
   have Ny101 := Qz.mk hy101
   clear hy101
   have H' := Qz.mk H
   clear H
   go_enter Try.func56, Try.ntmps56
   go_wp2_with (first | ((with_reducible refine qt (N := 7) rfl ?_); refine Kd.R_make (Kd.int .i64) _ 2 rfl (N := 7) rfl 80 _ _ rfl (l0.length : Int) rfl rfl Try.underlying80 (.int .i64 0) 8 info2 rfl (by decide) (by omega) 0 (ok := fun _ => True) (okp := fun _ => True) rfl (fun _ hk => hk) trivial (of_decide_eq_true yq63) (Nat.le_trans (Nat.mul_le_mul_right _ (of_decide_eq_true yq63 : (l0.length : Int).toNat ≤ 35184372088832)) (by omega)) (Below.refl _ _) (Nat.le_refl _) ?_; intro v102 w4 ho5 hb hg_ hnew_; clear hg_ hnew_; (first | rw [← Ny101.out] at ho5 | (simp only [Int.reduceToNat] at ho5; rw [← Ny101.out] at ho5)); have HO103 := Qz.mk (Kd.R_lower ho5 (qo (by repeat (first | (with_reducible first | exact HB.out | apply qc | apply qa | apply qb) | exact HB.out)))); replace HB := Qz.mk (ql (by repeat (first | (with_reducible first | exact HB.out | apply qc | apply qa | apply qb) | exact HB.out)) hb); clear hb ho5))
   go_loopg [4] k (fun kq v4 w' => ∃ (x3_1 : List Int) (x4_1 : Int), v4 = .int .i64 x4_1 ∧ Qz (laws_toInt64S.l0 kq l0 x3_1 x4_1 = some r) ∧ Qz (kq ≤ k) ∧ Qz (Kd.R (Kd.int .i64) 2 w' w.heap.size (fun _ => True) v102 x3_1) ∧ Qz (Below w.heap.size w w'))
   case atStart => exact ⟨(y101), (0), (by first | rfl | (simp; done) | (simp [*]; done)), H', ⟨Nat.le_refl _⟩, ⟨by (with_reducible repeat (first | apply Kd.R_alloc | apply Kd.R_drewN | apply Kd.R_drew)); exact HO103.out⟩, ⟨by repeat (first | (with_reducible first | exact HB.out | apply qc | apply qa | apply qb) | exact HB.out)⟩⟩
   case round =>
    clear H'
    (try clear c2);(try clear c2b0);(try clear c2b1);(try clear p2);(try clear c3);(try clear c3b0);(try clear c3b1);(try clear c5)
    obtain ⟨x3_1, x4_1, rfl, HA, HK1, HO_3, HB⟩ := hrel
    cases gk with
    | zero => exact absurd HA.out (by simp [laws_toInt64S.l0])
    | succ k1 =>
     have H := HA.out
     clear HA
     simp only [laws_toInt64S.l0] at H
     by_cases c6 : x4_1 < (l0.length : Int)
     ·rw [if_pos c6] at H
      have c6b0 : decide (x4_1 < (l0.length : Int)) = true := decide_eq_true c6
      clear c6
      by_cases c7 : 0 ≤ x4_1
      ·rw [if_pos c7] at H
       have c7b0 : decide (0 ≤ x4_1) = true := decide_eq_true c7
       clear c7
       by_cases c8 : x4_1 < (x3_1.length : Int)
       ·rw [if_pos c8] at H
        have c8b0 : decide (x4_1 < (x3_1.length : Int)) = true := decide_eq_true c8
        clear c8
        obtain ⟨y105, hy105⟩ : ∃ y_ : List Int, y_ = (x3_1.set (x4_1 : Int).toNat (rd l0 x4_1)) := ⟨_, rfl⟩
        replace H : (laws_toInt64S.l0 k1 l0 y105 (wrap64 (x4_1 + 1))) = some r := by first | (rw [hy105]; with_reducible exact H) | (have H2_ := (Option.bind_some _ _).symm.trans H; rw [hy105]; with_reducible exact H2_) | (have H2_ := (Option.bind_some _ _).symm.trans H; with_reducible exact H2_) | with_reducible exact H | (rw [hy105]; exact H) | exact H
        have Ny105 := Qz.mk hy105
        clear hy105
        have H' := Qz.mk H
        clear H
        have p104 : 0 ≤ (x4_1 : Int) := of_decide_eq_true yq63
        have q104 : x4_1 < (l0.length : Int) := of_decide_eq_true yq63
        obtain ⟨ad104, e104, hx104_0⟩ := Kd.at_int HR0.out x4_1 p104 q104
        cases e104
        replace hx104_0 := (HB.out.cell (World.block_lt_of_cell? w _ hx104_0)).trans hx104_0
        replace p104 := eq_true p104
        replace q104 := eq_true q104
        have p9 : 0 ≤ (x4_1 : Int) := of_decide_eq_true yq63
        have q9 : (x4_1 : Int) < ((x3_1.length : Int) : Int) := of_decide_eq_true yq63
        obtain ⟨go9, co9, eo9, gb9, gl9, cl9, HG9⟩ := Kd.R_form HO_3.out (by omega)
        (first | cases eo9 | (injection eo9 with ea_ en_ ec_; (first | subst ea_ | (injection ea_ with ea_; subst ea_)); subst ec_; clear en_))
        have GB9 := Qz.mk gb9
        have GG9 := Qz.mk HG9
        clear gb9 gl9 HG9
        obtain ⟨hx9_0, hf9_0⟩ := Kd.R_celln 0 HO_3.out (x4_1 : Int) p9 q9
        replace p9 := eq_true p9
        replace q9 := eq_true q9
        have HP10 := Kd.R_putg HO_3.out (x4_1 : Int) (rd l0 x4_1)
        go_wp2_with (first | ((with_reducible refine gate_store (t := 2) (p := 20) rfl ?_); refine store_event (t := 2) (p := 20) (v := ?vo_w11) (w1 := (wr.setCell ⟨go9, (x4_1 : Int).toNat, none⟩ (.int .i64 (rd l0 x4_1)))) ?hg ?ho ?hn ?hr ?_; (case ho => rfl); (case hg => rfl); (case hn => rfl); (case hr => first | (go_simp; done) | (go_simp; rfl)); intro w11 hw; have hg : wr.grownBy w11 (some go9) := (by rw [hw]; exact HP10.2); have hp_ : Kd.R (Kd.int .i64) 2 w11 w.heap.size (fun _ => True) (.slice (some ⟨go9, 0, none⟩) x3_1.length co9) y105 := (by rw [hw, Ny105.out]; exact HP10.1); clear HP10; replace HO_3 := Qz.mk (hp_); replace HB := Qz.mk ((by rw [hw]; exact qf (HB.out) GB9.out : Below w.heap.size w w11)); clear hg hw hp_))
        go_roundg k1
        case measure => have := HK1.out; omega
        case rel => exact ⟨(y105), (wrap64 (x4_1 + 1)), (by first | rfl | (simp; done) | (simp [*]; done)), H', ⟨by have := HK1.out; omega⟩, ⟨by (with_reducible repeat (first | apply Kd.R_alloc | apply Kd.R_drewN | apply Kd.R_drew)); exact HO_3.out⟩, ⟨by repeat (first | (with_reducible first | exact HB.out | apply qc | apply qa | apply qb) | exact HB.out)⟩⟩
       ·rw [if_neg c8] at H
        exact absurd H (by simp)
      ·rw [if_neg c7] at H
       exact absurd H (by simp)
     ·rw [if_neg c6] at H
      have c6b0 : decide (x4_1 < (l0.length : Int)) = false := decide_eq_false c6
      clear c6
      obtain rfl := Option.some.inj H
      go_wp2
      go_ret
      exact ⟨_, by first | rfl | (simp [qn, qm] <;> rfl) | (simp [*, qn, qm] <;> rfl), by (with_reducible repeat (first | apply Kd.R_alloc | apply Kd.R_drewN | apply Kd.R_drew)); exact HO_3.out, by repeat (first | (with_reducible first | exact HB.out | apply qc | apply qa | apply qb) | exact HB.out)⟩
  ·rw [if_neg c3] at H
   exact absurd H (by simp)
 ·rw [if_neg c2] at H
  exact absurd H (by simp)
end Go.Proofs.Ytidjdkodgddfcaa.P
end
