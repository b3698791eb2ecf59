/- Proved: the law FnExactDiskOk of the given program returns true for every input of its Go types and leaves each argument as it was; no condition. (Part 8 of 13.) -/
import Derived.Test.YtidjdkodgddfcaaCFnExactDiskOk4
import Derived.Test.YtidjdkodgddfcaaCFnExactDiskOk5
import Derived.Deep.RegionWith
import Derived.Deep.RegionHeld3
import Derived.Deep.QuietTactic
import Derived.BigQuiet
import Derived.Test.YtidjdkodgddfcaaCFnExactDiskOk6
section
namespace Go.Proofs.Ytidjdkodgddfcaa.P
open Go.RowKit Go.Proofs.YtidjdkodgddfcaaW.PrintWords Go.Proofs.YtidjdkodgddfcaaW.PrintLast Go.Proofs.YtidjdkodgddfcaaW.PrintMore
attribute [local go_sem] str_gtr str_leq str_geq max2_int min2_int max_two min_two max_three min_three max_four min_four
set_option linter.unusedVariables false
set_option linter.unusedSimpArgs false
theorem findIdx_at {α : Type} (p : α → Bool) (d : α) : ∀ (l : List α) (i : Nat), i ≤ l.length → (∀ t, t < i → p (l.getD t d) = false) → (i < l.length → p (l.getD i d) = true) → l.findIdx p = i
  | [], i, hi, _, _ => by
    have : i = 0 := by simpa using hi
    subst this
    rfl
  | x :: xs, 0, _, _, h => by
    have h0 : p x = true := by simpa using h (by simp)
    rw [List.findIdx_cons, h0]
    rfl
  | x :: xs, i + 1, hi, hn, h => by
    have h0 : p x = false := by simpa using hn 0 (Nat.succ_pos _)
    rw [List.findIdx_cons, h0]
    rw [findIdx_at p d xs i (by simpa using hi) (fun t ht => by simpa using hn (t + 1) (by omega)) (fun hl => by simpa using h (by simpa using hl))]
    rfl
set_option maxHeartbeats 4000000 in
theorem bsearch_Entry.calls (g : Nat) (c : S64 → Int) (y : S64) (A : Option Addr) (cap : Nat) (l : List S64) (w : World) (hr : Kd.C k64 w A l.length l) (hl : l.length < 4611686018427387904)
    (eg : ∀ args w, (callFunc g args).run Try.prog w = .ok (.enter g args) w)
    (hp : ∀ (x : S64) (W : World), Below w.heap.size w W → Calls Try.prog g #[.agg #[.string x.f0.f0, .int .i64 x.f0.f1, .int .i64 x.f0.f2, .string x.f1], .agg #[.string y.f0.f0, .int .i64 y.f0.f1, .int .i64 y.f0.f2, .string y.f1]] W fun e w' => e = .returned (.int .i64 (c x)) ∧ Below W.heap.size W w')
    (mono : ∀ i j, i ≤ j → j < l.length → c (l.getD j z64) < 0 → c (l.getD i z64) < 0) :
    Calls Try.prog 96 #[.slice A l.length cap, .agg #[.string y.f0.f0, .int .i64 y.f0.f1, .int .i64 y.f0.f2, .string y.f1], .func (.func g) #[] #[]] w fun e w' => e = .returned (.tuple #[.int .i64 ((l.findIdx fun x => decide (0 ≤ c x) : Nat) : Int), .bool (decide ((l.findIdx fun x => decide (0 ≤ c x)) < l.length) && decide (c (l.getD (l.findIdx fun x => decide (0 ≤ c x)) z64) = 0))]) ∧ Below w.heap.size w w' := by
  have hbx : Below w.heap.size w (w.alloc (.cells #[.string y.f0.f0, .int .i64 y.f0.f1, .int .i64 y.f0.f2, .string y.f1] 64)) := (Below.refl _ w).alloc (Nat.le_refl _) _
  have HBX := Aside0.mk hbx
  have HR := Aside0.mk (Kd.C_below hr hbx)
  have HP := Aside0.mk hp
  have M := Aside0.mk mono
  clear hbx hp
  clear hr mono
  generalize hcnt : (l.findIdx fun x => decide (0 ≤ c x)) = cnt
  have CN := Aside0.mk hcnt
  clear hcnt
  generalize hfin : (decide (cnt < l.length) && decide (c (l.getD cnt z64) = 0)) = fin
  have FIN := Aside0.mk hfin
  clear hfin
  go_enter Try.func96, Try.ntmps96
  go_wp2
  go_loopg [9, 10] l.length (fun kx s9 s10 wr => ∃ lo hi : Nat, s9 = .int .i64 lo ∧ s10 = .int .i64 hi ∧ lo ≤ hi ∧ hi ≤ l.length ∧ hi - lo ≤ kx ∧ Aside0 (Below (w.alloc (.cells #[.string y.f0.f0, .int .i64 y.f0.f1, .int .i64 y.f0.f2, .string y.f1] 64)).heap.size (w.alloc (.cells #[.string y.f0.f0, .int .i64 y.f0.f1, .int .i64 y.f0.f2, .string y.f1] 64)) wr) ∧
    Aside0 ((∀ t, t < lo → c (l.getD t z64) < 0) ∧ (∀ t, hi ≤ t → t < l.length → 0 ≤ c (l.getD t z64))))
  case atStart => exact ⟨0, l.length, rfl, rfl, Nat.zero_le _, Nat.le_refl _, by omega, ⟨Below.refl _ _⟩, ⟨fun t ht => absurd ht (Nat.not_lt_zero _), fun t h1 h2 => by omega⟩⟩
  case round =>
    obtain ⟨lo, hi, rfl, rfl, hlh, hin, hg, BW, I⟩ := hrel
    have HBW := Aside0.mk (HBX.out.trans (BW.out.mono (by simp)))
    have hy0 : wr.cell? ⟨w.heap.size, 0, none⟩ = some (.string y.f0.f0) := (BW.out.cell (p := ⟨w.heap.size, 0, none⟩) (by simp)).trans (by simp)
    have hy1 : wr.cell? ⟨w.heap.size, 1, none⟩ = some (.int .i64 y.f0.f1) := (BW.out.cell (p := ⟨w.heap.size, 1, none⟩) (by simp)).trans (by simp)
    have hy2 : wr.cell? ⟨w.heap.size, 2, none⟩ = some (.int .i64 y.f0.f2) := (BW.out.cell (p := ⟨w.heap.size, 2, none⟩) (by simp)).trans (by simp)
    have hy3 : wr.cell? ⟨w.heap.size, 3, none⟩ = some (.string y.f1) := (BW.out.cell (p := ⟨w.heap.size, 3, none⟩) (by simp)).trans (by simp)
    by_cases hlt : lo < hi
    · obtain ⟨ad, e, h0, h1, h2, h3⟩ := at_T64 HR.out ((((lo + hi) / 2 : Nat)) : Int) (by omega) (by omega)
      cases e
      replace h0 := (BW.out.cell (World.block_lt_of_cell? _ _ h0)).trans h0
      replace h1 := (BW.out.cell (World.block_lt_of_cell? _ _ h1)).trans h1
      replace h2 := (BW.out.cell (World.block_lt_of_cell? _ _ h2)).trans h2
      replace h3 := (BW.out.cell (World.block_lt_of_cell? _ _ h3)).trans h3
      rw [Int.toNat_natCast] at h0 h1 h2 h3
      have hcall := HP.out (rd_T64 l ((((lo + hi) / 2 : Nat)) : Int)) wr (HBX.out.trans (BW.out.mono (by simp)))
      have HX : Aside0 (rd_T64 l ((((lo + hi) / 2 : Nat)) : Int) = l.getD ((lo + hi) / 2) z64) := ⟨by unfold rd_T64; rw [Int.toNat_natCast]⟩
      generalize rd_T64 l ((((lo + hi) / 2 : Nat)) : Int) = x at h0 h1 h2 h3 hcall HX
      by_cases hyx : c x < 0
      · go_wp2_with fail
        go_region_with ((with_reducible refine (HP.out x _ ?hW).mono ?_); (case hW => (repeat (first | exact HBW.out | apply below_drew1 | apply pw_below_drewN))); rintro e w' ⟨rfl, hb'⟩)
        all_goals
          have HB2 := Aside0.mk ((below_drew1 BW.out).trans (hb'.mono BW.out.size))
          clear hb' hy0 hy1 hy2 hy3 h0 h1 h2 h3
          go_wp2
          go_roundg (hi - ((lo + hi) / 2 + 1))
          case measure => omega
          case rel =>
            exact ⟨(lo + hi) / 2 + 1, hi, by first | rfl | go_num, rfl, by omega, hin, Nat.le_refl _, HB2, ⟨fun t ht => M.out t ((lo + hi) / 2) (by omega) (by omega) (by rw [← HX.out]; exact hyx), I.out.2⟩⟩
      · go_wp2_with fail
        go_region_with ((with_reducible refine (HP.out x _ ?hW).mono ?_); (case hW => (repeat (first | exact HBW.out | apply below_drew1 | apply pw_below_drewN))); rintro e w' ⟨rfl, hb'⟩)
        all_goals
          have HB2 := Aside0.mk ((below_drew1 BW.out).trans (hb'.mono BW.out.size))
          clear hb' hy0 hy1 hy2 hy3 h0 h1 h2 h3
          go_wp2
          go_roundg ((lo + hi) / 2 - lo)
          case measure => omega
          case rel =>
            refine ⟨lo, (lo + hi) / 2, rfl, by first | rfl | go_num, by omega, by omega, Nat.le_refl _, HB2, ⟨I.out.1, fun t ht htn => Int.not_lt.1 fun h => ?_⟩⟩
            have := M.out ((lo + hi) / 2) t ht htn h
            rw [← HX.out] at this
            first | exact hyx this | omega
    · obtain rfl : hi = lo := by omega
      have ecnt : cnt = hi := by
        rw [← CN.out]
        exact findIdx_at _ z64 l hi hin (fun t ht => decide_eq_false (by have := I.out.1 t ht; omega)) (fun h => decide_eq_true (I.out.2 hi (Nat.le_refl _) h))
      subst ecnt
      by_cases hn : cnt < l.length
      · obtain ⟨ad, e, h0, h1, h2, h3⟩ := at_T64 HR.out (cnt : Int) (by omega) (by omega)
        cases e
        replace h0 := (BW.out.cell (World.block_lt_of_cell? _ _ h0)).trans h0
        replace h1 := (BW.out.cell (World.block_lt_of_cell? _ _ h1)).trans h1
        replace h2 := (BW.out.cell (World.block_lt_of_cell? _ _ h2)).trans h2
        replace h3 := (BW.out.cell (World.block_lt_of_cell? _ _ h3)).trans h3
        rw [Int.toNat_natCast] at h0 h1 h2 h3
        have hcall := HP.out (rd_T64 l (cnt : Int)) wr (HBX.out.trans (BW.out.mono (by simp)))
        have HX : Aside0 (rd_T64 l (cnt : Int) = l.getD cnt z64) := ⟨by unfold rd_T64; rw [Int.toNat_natCast]⟩
        generalize rd_T64 l (cnt : Int) = x at h0 h1 h2 h3 hcall HX
        go_wp2_with fail
        go_region_held3 (fun w' => w'.cell? ⟨w.heap.size, 0, none⟩ = some (.string y.f0.f0) ∧ w'.cell? ⟨w.heap.size, 1, none⟩ = some (.int .i64 y.f0.f1) ∧ w'.cell? ⟨w.heap.size, 2, none⟩ = some (.int .i64 y.f0.f2) ∧ w'.cell? ⟨w.heap.size, 3, none⟩ = some (.string y.f1) ∧ w'.cell? (ad.add (cnt * 4)) = some (.string x.f0.f0) ∧ w'.cell? ⟨(ad.add (cnt * 4)).block, (ad.add (cnt * 4)).off + 1, none⟩ = some (.int .i64 x.f0.f1) ∧ w'.cell? ⟨(ad.add (cnt * 4)).block, (ad.add (cnt * 4)).off + 2, none⟩ = some (.int .i64 x.f0.f2) ∧ w'.cell? ⟨(ad.add (cnt * 4)).block, (ad.add (cnt * 4)).off + 3, none⟩ = some (.string x.f1) ∧ Aside0 (Below (w.alloc (.cells #[.string y.f0.f0, .int .i64 y.f0.f1, .int .i64 y.f0.f2, .string y.f1] 64)).heap.size (w.alloc (.cells #[.string y.f0.f0, .int .i64 y.f0.f1, .int .i64 y.f0.f2, .string y.f1] 64)) w')) (first | exact ⟨ky0, ky1, ky2, ky3, kx0, kx1, kx2, kx3, KB⟩ | exact ⟨hy0, hy1, hy2, hy3, h0, h1, h2, h3, ⟨below_drew1 BW.out⟩⟩) (first | ((with_reducible refine (HP.out x _ ?hW).mono ?_); (case hW => exact HBX.out.trans (Below.mono (below_drew1 BW.out) (by simp))); rintro e w' ⟨rfl, hb'⟩; have ky0 := (hb'.cell (World.block_lt_of_cell? _ _ hy0)).trans hy0; have ky1 := (hb'.cell (World.block_lt_of_cell? _ _ hy1)).trans hy1; have ky2 := (hb'.cell (World.block_lt_of_cell? _ _ hy2)).trans hy2; have ky3 := (hb'.cell (World.block_lt_of_cell? _ _ hy3)).trans hy3; have kx0 := (hb'.cell (World.block_lt_of_cell? _ _ h0)).trans h0; have kx1 := (hb'.cell (World.block_lt_of_cell? _ _ h1)).trans h1; have kx2 := (hb'.cell (World.block_lt_of_cell? _ _ h2)).trans h2; have kx3 := (hb'.cell (World.block_lt_of_cell? _ _ h3)).trans h3; have KB := Aside0.mk ((below_drew1 BW.out).trans (hb'.mono BW.out.size))))
        all_goals
          go_wp2
          go_ret2
          exact ⟨by rw [← FIN.out, ← HX.out]; simp [hn]; try rfl, HBX.out.trans (KB.out.mono (by simp))⟩
      · go_wp2_with fail
        go_quiet (fail)
        go_wp2
        go_ret2
        exact ⟨by rw [← FIN.out]; simp [hn], HBX.out.trans (Below.mono (by repeat (first | exact BW.out | apply pw_below_drewN | apply below_drew1)) (by simp))⟩
end Go.Proofs.Ytidjdkodgddfcaa.P
end

section
namespace Go.Proofs.Ytidjdkodgddfcaa.P
open Go.RowKit Go.Proofs.YtidjdkodgddfcaaW.PrintWords Go.Proofs.YtidjdkodgddfcaaW.PrintLast Go.Proofs.YtidjdkodgddfcaaW.PrintMore
attribute [local go_sem] str_gtr str_leq str_geq max2_int min2_int max_two min_two max_three min_three max_four min_four
set_option linter.unusedVariables false
set_option linter.unusedSimpArgs false
set_option maxHeartbeats 4000000 in
theorem bsearch_File.calls (g : Nat) (c : S170 → Int) (y : ByteArray) (A : Option Addr) (cap : Nat) (l : List S170) (w : World) (hr : Kd.C k170 w A l.length l) (hl : l.length < 4611686018427387904)
    (eg : ∀ args w, (callFunc g args).run Try.prog w = .ok (.enter g args) w)
    (hp : ∀ (x : S170) (W : World), Below w.heap.size w W → Calls Try.prog g #[.agg #[.string x.f0, .string x.f1], .string y] W fun e w' => e = .returned (.int .i64 (c x)) ∧ Below W.heap.size W w')
    (mono : ∀ i j, i ≤ j → j < l.length → c (l.getD j z170) < 0 → c (l.getD i z170) < 0) :
    Calls Try.prog 193 #[.slice A l.length cap, .string y, .func (.func g) #[] #[]] w fun e w' => e = .returned (.tuple #[.int .i64 ((l.findIdx fun x => decide (0 ≤ c x) : Nat) : Int), .bool (decide ((l.findIdx fun x => decide (0 ≤ c x)) < l.length) && decide (c (l.getD (l.findIdx fun x => decide (0 ≤ c x)) z170) = 0))]) ∧ Below w.heap.size w w' := by
  have HR := Aside0.mk hr
  have HP := Aside0.mk hp
  have M := Aside0.mk mono
  clear hr mono hp
  generalize hcnt : (l.findIdx fun x => decide (0 ≤ c x)) = cnt
  have CN := Aside0.mk hcnt
  clear hcnt
  generalize hfin : (decide (cnt < l.length) && decide (c (l.getD cnt z170) = 0)) = fin
  have FIN := Aside0.mk hfin
  clear hfin
  go_enter Try.func193, Try.ntmps193
  go_wp2
  go_loopg [9, 10] l.length (fun kx s9 s10 wr => ∃ lo hi : Nat, s9 = .int .i64 lo ∧ s10 = .int .i64 hi ∧ lo ≤ hi ∧ hi ≤ l.length ∧ hi - lo ≤ kx ∧ Aside0 (Below w.heap.size w wr) ∧
    Aside0 ((∀ t, t < lo → c (l.getD t z170) < 0) ∧ (∀ t, hi ≤ t → t < l.length → 0 ≤ c (l.getD t z170))))
  case atStart => exact ⟨0, l.length, rfl, rfl, Nat.zero_le _, Nat.le_refl _, by omega, ⟨Below.refl _ _⟩, ⟨fun t ht => absurd ht (Nat.not_lt_zero _), fun t h1 h2 => by omega⟩⟩
  case round =>
    obtain ⟨lo, hi, rfl, rfl, hlh, hin, hg, BW, I⟩ := hrel
    by_cases hlt : lo < hi
    · obtain ⟨ad, e, h0, h1⟩ := at_T170 HR.out ((((lo + hi) / 2 : Nat)) : Int) (by omega) (by omega)
      cases e
      replace h0 := (BW.out.cell (World.block_lt_of_cell? _ _ h0)).trans h0
      replace h1 := (BW.out.cell (World.block_lt_of_cell? _ _ h1)).trans h1
      rw [Int.toNat_natCast] at h0 h1
      have hcall := HP.out (rd_T170 l ((((lo + hi) / 2 : Nat)) : Int)) wr BW.out
      have HX : Aside0 (rd_T170 l ((((lo + hi) / 2 : Nat)) : Int) = l.getD ((lo + hi) / 2) z170) := ⟨by unfold rd_T170; rw [Int.toNat_natCast]⟩
      generalize rd_T170 l ((((lo + hi) / 2 : Nat)) : Int) = x at h0 h1 hcall HX
      by_cases hyx : c x < 0
      · go_wp2_with fail
        (with_reducible refine hcall.mono ?_)
        rintro e w' ⟨rfl, hb'⟩
        all_goals
          have HB2 := Aside0.mk (BW.out.trans (hb'.mono BW.out.size))
          clear hb' h0 h1
          go_wp2
          go_roundg (hi - ((lo + hi) / 2 + 1))
          case measure => omega
          case rel =>
            exact ⟨(lo + hi) / 2 + 1, hi, by first | rfl | go_num, rfl, by omega, hin, Nat.le_refl _, HB2, ⟨fun t ht => M.out t ((lo + hi) / 2) (by omega) (by omega) (by rw [← HX.out]; exact hyx), I.out.2⟩⟩
      · go_wp2_with fail
        (with_reducible refine hcall.mono ?_)
        rintro e w' ⟨rfl, hb'⟩
        all_goals
          have HB2 := Aside0.mk (BW.out.trans (hb'.mono BW.out.size))
          clear hb' h0 h1
          go_wp2
          go_roundg ((lo + hi) / 2 - lo)
          case measure => omega
          case rel =>
            refine ⟨lo, (lo + hi) / 2, rfl, by first | rfl | go_num, by omega, by omega, Nat.le_refl _, HB2, ⟨I.out.1, fun t ht htn => Int.not_lt.1 fun h => ?_⟩⟩
            have := M.out ((lo + hi) / 2) t ht htn h
            rw [← HX.out] at this
            first | exact hyx this | omega
    · obtain rfl : hi = lo := by omega
      have ecnt : cnt = hi := by
        rw [← CN.out]
        exact findIdx_at _ z170 l hi hin (fun t ht => decide_eq_false (by have := I.out.1 t ht; omega)) (fun h => decide_eq_true (I.out.2 hi (Nat.le_refl _) h))
      subst ecnt
      by_cases hn : cnt < l.length
      · obtain ⟨ad, e, h0, h1⟩ := at_T170 HR.out (cnt : Int) (by omega) (by omega)
        cases e
        replace h0 := (BW.out.cell (World.block_lt_of_cell? _ _ h0)).trans h0
        replace h1 := (BW.out.cell (World.block_lt_of_cell? _ _ h1)).trans h1
        rw [Int.toNat_natCast] at h0 h1
        have hcall := HP.out (rd_T170 l (cnt : Int)) wr BW.out
        have HX : Aside0 (rd_T170 l (cnt : Int) = l.getD cnt z170) := ⟨by unfold rd_T170; rw [Int.toNat_natCast]⟩
        generalize rd_T170 l (cnt : Int) = x at h0 h1 hcall HX
        go_wp2_with fail
        (with_reducible refine hcall.mono ?_)
        rintro e w' ⟨rfl, hb'⟩
        have KB := Aside0.mk (BW.out.trans (hb'.mono BW.out.size))
        all_goals
          go_wp2
          go_ret2
          exact ⟨by rw [← FIN.out, ← HX.out]; simp [hn]; try rfl, KB.out⟩
      · go_wp2
        go_ret2
        exact ⟨by rw [← FIN.out]; simp [hn], BW.out⟩
def upF (l : List S170) : Bool := (List.range l.length).all fun i => i == 0 || tless (l.getD (i - 1) z170).f0 (l.getD i z170).f0
def ccmp (a b : ByteArray) : Int := if tless a b = true then -1 else if tless b a = true then 1 else 0
theorem ccmp_neg {a b : ByteArray} : ccmp a b < 0 ↔ tless a b = true := by
  unfold ccmp
  split
  · simp [*]
  · split <;> simp [*]
theorem tless_trans {a b c : ByteArray} (h : tless a b = true) (h2 : tless b c = true) : tless a c = true := bl_trans h h2
theorem upF_lt {l : List S170} (h : upF l = true) : ∀ (d i : Nat), i + d + 1 < l.length → tless (l.getD i z170).f0 (l.getD (i + d + 1) z170).f0 = true := by
  have one : ∀ i, i + 1 < l.length → tless (l.getD i z170).f0 (l.getD (i + 1) z170).f0 = true := by
    intro i hi
    unfold upF at h
    rw [List.all_eq_true] at h
    have := h (i + 1) (List.mem_range.2 hi)
    simpa using this
  intro d
  induction d with
  | zero => intro i hi; exact one i hi
  | succ d ih => intro i hi; exact tless_trans (ih i (by omega)) (one (i + d + 1) (by omega))
theorem upF_mono {l : List S170} (h : upF l = true) (y : ByteArray) (i j : Nat) (hij : i ≤ j) (hj : j < l.length) (hc : ccmp (l.getD j z170).f0 y < 0) : ccmp (l.getD i z170).f0 y < 0 := by
  rcases Nat.lt_or_ge i j with hlt | hge
  · have h1 := upF_lt h (j - i - 1) i (by omega)
    rw [show i + (j - i - 1) + 1 = j from by omega] at h1
    exact ccmp_neg.2 (tless_trans h1 (ccmp_neg.1 hc))
  · rw [show i = j from by omega]
    exact hc
def fpos (l : List S170) (y : ByteArray) : Nat := l.findIdx fun x => decide (0 ≤ ccmp x.f0 y)
def impl_find.f (l0 : List S170) (a1 : ByteArray) : Option (Int × Bool) :=
  if l0.length < 4611686018427387904 ∧ upF l0 = true then some ((fpos l0 a1 : Int), decide (fpos l0 a1 < l0.length) && decide (ccmp (l0.getD (fpos l0 a1) z170).f0 a1 = 0)) else none
set_option maxHeartbeats 4000000 in
theorem impl_find.calls (A0 : Option Addr) (c0 : Nat) (l0 : List S170) (a1 : ByteArray) (r0 : Int) (r1 : Bool) (w : World) (hr0 : Kd.C k170 w A0 l0.length l0) (hc0 : l0.length ≤ c0) (h : impl_find.f l0 a1 = some (r0, r1)) :
    Calls Try.prog 183 #[.slice A0 l0.length c0, .string a1] w fun e w' => e = .returned (.tuple #[.int .i64 r0, .bool r1]) ∧ Below w.heap.size w w' := by
  unfold impl_find.f at h
  split at h
  · rename_i hq
    injection h with h
    injection h with h0 h1
    have hcall := bsearch_File.calls 194 (fun x => ccmp x.f0 a1) a1 A0 c0 l0 w hr0 hq.1 (fun args w => by kernel_rfl) (fun x W hb => impl_find_1.calls x.f0 x.f1 a1 _ W (by unfold impl_find_1.f; rw [compareS_ev]; rfl)) (upF_mono hq.2 a1)
    rw [show (l0.findIdx fun x => decide (0 ≤ ccmp x.f0 a1)) = fpos l0 a1 from rfl, h0, h1] at hcall
    clear h0 h1 hq hr0
    go_enter Try.func183, Try.ntmps183
    go_wp2_with fail
    (with_reducible refine hcall.mono ?_)
    rintro e w' ⟨rfl, hb'⟩
    go_wp2
    go_ret2
    exact ⟨rfl, hb'⟩
  · cases h
end Go.Proofs.Ytidjdkodgddfcaa.P
end
