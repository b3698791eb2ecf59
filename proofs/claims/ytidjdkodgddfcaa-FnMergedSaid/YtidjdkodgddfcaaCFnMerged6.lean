/- Proved: the law FnMerged of the given program returns true for every input of its Go types and leaves each argument as it was; no condition. (Part 7 of 16.) -/
import Derived.Test.YtidjdkodgddfcaaCFnMerged4
import Derived.Deep.RegionWith
import Derived.Deep.RegionHeld3
import Derived.Deep.QuietTactic
import Derived.BigQuiet
import Derived.Test.YtidjdkodgddfcaaCFnMerged5
section
namespace Go.Proofs.Ytidjdkodgddfcaa.P
open Go.RowKit Go.Proofs.YtidjdkodgddfcaaW.PrintWords Go.Proofs.YtidjdkodgddfcaaW.PrintLast Go.Proofs.YtidjdkodgddfcaaW.PrintMore
attribute [local go_sem] str_gtr str_leq str_geq qd1 qb1 max_two min_two qy qx qc1 qa1
set_option linter.unusedVariables false
set_option linter.unusedSimpArgs false
theorem findIdx_at {α : Type} (p : α → Bool) (d : α) : ∀ (l : List α) (i : Nat), i ≤ l.length → (∀ t, t < i → p (l.getD t d) = false) → (i < l.length → p (l.getD i d) = true) → l.findIdx p = i
  | [], i, hi, _, _ => by
    have : i = 0 := by simpa using hi
    subst this
    rfl
  | x :: xs, 0, _, _, h => by
    have h0 : p x = true := by simpa using h (by simp)
    rw [List.findIdx_cons, h0]
    rfl
  | x :: xs, i + 1, hi, hn, h => by
    have h0 : p x = false := by simpa using hn 0 (Nat.succ_pos _)
    rw [List.findIdx_cons, h0]
    rw [findIdx_at p d xs i (by simpa using hi) (fun t ht => by simpa using hn (t + 1) (by omega)) (fun hl => by simpa using h (by simpa using hl))]
    rfl
set_option maxHeartbeats 4000000 in
theorem bsearch_Entry.calls (g : Nat) (c : S64 → Int) (y : S64) (A : Option Addr) (cap : Nat) (l : List S64) (w : World) (hr : Kd.C k64 w A l.length l) (hl : l.length < 4611686018427387904)
    (eg : ∀ args w, (callFunc g args).run Try.prog w = .ok (.enter g args) w)
    (hp : ∀ (x : S64) (W : World), Below w.heap.size w W → Calls Try.prog g #[.agg #[.string x.f0.f0, .int .i64 x.f0.f1, .int .i64 x.f0.f2, .string x.f1], .agg #[.string y.f0.f0, .int .i64 y.f0.f1, .int .i64 y.f0.f2, .string y.f1]] W fun e w' => e = .returned (.int .i64 (c x)) ∧ Below W.heap.size W w')
    (mono : ∀ i j, i ≤ j → j < l.length → c (l.getD j z64) < 0 → c (l.getD i z64) < 0) :
    Calls Try.prog 96 #[.slice A l.length cap, .agg #[.string y.f0.f0, .int .i64 y.f0.f1, .int .i64 y.f0.f2, .string y.f1], .func (.func g) #[] #[]] w fun e w' => e = .returned (.tuple #[.int .i64 ((l.findIdx fun x => decide (0 ≤ c x) : Nat) : Int), .bool (decide ((l.findIdx fun x => decide (0 ≤ c x)) < l.length) && decide (c (l.getD (l.findIdx fun x => decide (0 ≤ c x)) z64) = 0))]) ∧ Below w.heap.size w w' := by
  have hbx : Below w.heap.size w (w.alloc (.cells #[.string y.f0.f0, .int .i64 y.f0.f1, .int .i64 y.f0.f2, .string y.f1] 64)) := (Below.refl _ w).alloc (Nat.le_refl _) _
  have HBX := Qz.mk hbx
  have HR := Qz.mk (Kd.C_below hr hbx)
  have HP := Qz.mk hp
  have M := Qz.mk mono
  clear hbx hp
  clear hr mono
  generalize hcnt : (l.findIdx fun x => decide (0 ≤ c x)) = cnt
  have CN := Qz.mk hcnt
  clear hcnt
  generalize hfin : (decide (cnt < l.length) && decide (c (l.getD cnt z64) = 0)) = fin
  have FIN := Qz.mk hfin
  clear hfin
  go_enter Try.func96, Try.ntmps96
  go_wp2
  go_loopg [9, 10] l.length (fun kx s9 s10 wr => ∃ lo hi : Nat, s9 = .int .i64 lo ∧ s10 = .int .i64 hi ∧ lo ≤ hi ∧ hi ≤ l.length ∧ hi - lo ≤ kx ∧ Qz (Below (w.alloc (.cells #[.string y.f0.f0, .int .i64 y.f0.f1, .int .i64 y.f0.f2, .string y.f1] 64)).heap.size (w.alloc (.cells #[.string y.f0.f0, .int .i64 y.f0.f1, .int .i64 y.f0.f2, .string y.f1] 64)) wr) ∧
    Qz ((∀ t, t < lo → c (l.getD t z64) < 0) ∧ (∀ t, hi ≤ t → t < l.length → 0 ≤ c (l.getD t z64))))
  case atStart => exact ⟨0, l.length, rfl, rfl, Nat.zero_le _, Nat.le_refl _, by omega, ⟨Below.refl _ _⟩, ⟨fun t ht => absurd ht (Nat.not_lt_zero _), fun t h1 h2 => by omega⟩⟩
  case round =>
    obtain ⟨lo, hi, rfl, rfl, hlh, hin, hg, BW, I⟩ := hrel
    have HBW := Qz.mk (HBX.out.trans (BW.out.mono (by simp)))
    have hy0 : wr.cell? ⟨w.heap.size, 0, none⟩ = some (.string y.f0.f0) := (BW.out.cell (p := ⟨w.heap.size, 0, none⟩) (by simp)).trans (by simp)
    have hy1 : wr.cell? ⟨w.heap.size, 1, none⟩ = some (.int .i64 y.f0.f1) := (BW.out.cell (p := ⟨w.heap.size, 1, none⟩) (by simp)).trans (by simp)
    have hy2 : wr.cell? ⟨w.heap.size, 2, none⟩ = some (.int .i64 y.f0.f2) := (BW.out.cell (p := ⟨w.heap.size, 2, none⟩) (by simp)).trans (by simp)
    have hy3 : wr.cell? ⟨w.heap.size, 3, none⟩ = some (.string y.f1) := (BW.out.cell (p := ⟨w.heap.size, 3, none⟩) (by simp)).trans (by simp)
    by_cases hlt : lo < hi
    · obtain ⟨ad, e, h0, h1, h2, h3⟩ := at_T64 HR.out ((((lo + hi) / 2 : Nat)) : Int) (by omega) (by omega)
      cases e
      replace h0 := (BW.out.cell (World.block_lt_of_cell? _ _ h0)).trans h0
      replace h1 := (BW.out.cell (World.block_lt_of_cell? _ _ h1)).trans h1
      replace h2 := (BW.out.cell (World.block_lt_of_cell? _ _ h2)).trans h2
      replace h3 := (BW.out.cell (World.block_lt_of_cell? _ _ h3)).trans h3
      rw [Int.toNat_natCast] at h0 h1 h2 h3
      have hcall := HP.out (qd l ((((lo + hi) / 2 : Nat)) : Int)) wr (HBX.out.trans (BW.out.mono (by simp)))
      have HX : Qz (qd l ((((lo + hi) / 2 : Nat)) : Int) = l.getD ((lo + hi) / 2) z64) := ⟨by unfold qd; rw [Int.toNat_natCast]⟩
      generalize qd l ((((lo + hi) / 2 : Nat)) : Int) = x at h0 h1 h2 h3 hcall HX
      by_cases hyx : c x < 0
      · go_wp2_with fail
        go_region_with ((with_reducible refine (HP.out x _ ?hW).mono ?_); (case hW => (repeat (first | exact HBW.out | apply qb | apply qa))); rintro e w' ⟨rfl, hb'⟩)
        all_goals
          have HB2 := Qz.mk ((qb BW.out).trans (hb'.mono BW.out.size))
          clear hb' hy0 hy1 hy2 hy3 h0 h1 h2 h3
          go_wp2
          go_roundg (hi - ((lo + hi) / 2 + 1))
          case measure => omega
          case rel =>
            exact ⟨(lo + hi) / 2 + 1, hi, by first | rfl | go_num, rfl, by omega, hin, Nat.le_refl _, HB2, ⟨fun t ht => M.out t ((lo + hi) / 2) (by omega) (by omega) (by rw [← HX.out]; exact hyx), I.out.2⟩⟩
      · go_wp2_with fail
        go_region_with ((with_reducible refine (HP.out x _ ?hW).mono ?_); (case hW => (repeat (first | exact HBW.out | apply qb | apply qa))); rintro e w' ⟨rfl, hb'⟩)
        all_goals
          have HB2 := Qz.mk ((qb BW.out).trans (hb'.mono BW.out.size))
          clear hb' hy0 hy1 hy2 hy3 h0 h1 h2 h3
          go_wp2
          go_roundg ((lo + hi) / 2 - lo)
          case measure => omega
          case rel =>
            refine ⟨lo, (lo + hi) / 2, rfl, by first | rfl | go_num, by omega, by omega, Nat.le_refl _, HB2, ⟨I.out.1, fun t ht htn => Int.not_lt.1 fun h => ?_⟩⟩
            have := M.out ((lo + hi) / 2) t ht htn h
            rw [← HX.out] at this
            first | exact hyx this | omega
    · obtain rfl : hi = lo := by omega
      have ecnt : cnt = hi := by
        rw [← CN.out]
        exact findIdx_at _ z64 l hi hin (fun t ht => decide_eq_false (by have := I.out.1 t ht; omega)) (fun h => decide_eq_true (I.out.2 hi (Nat.le_refl _) h))
      subst ecnt
      by_cases hn : cnt < l.length
      · obtain ⟨ad, e, h0, h1, h2, h3⟩ := at_T64 HR.out (cnt : Int) (by omega) (by omega)
        cases e
        replace h0 := (BW.out.cell (World.block_lt_of_cell? _ _ h0)).trans h0
        replace h1 := (BW.out.cell (World.block_lt_of_cell? _ _ h1)).trans h1
        replace h2 := (BW.out.cell (World.block_lt_of_cell? _ _ h2)).trans h2
        replace h3 := (BW.out.cell (World.block_lt_of_cell? _ _ h3)).trans h3
        rw [Int.toNat_natCast] at h0 h1 h2 h3
        have hcall := HP.out (qd l (cnt : Int)) wr (HBX.out.trans (BW.out.mono (by simp)))
        have HX : Qz (qd l (cnt : Int) = l.getD cnt z64) := ⟨by unfold qd; rw [Int.toNat_natCast]⟩
        generalize qd l (cnt : Int) = x at h0 h1 h2 h3 hcall HX
        go_wp2_with fail
        go_region_held3 (fun w' => w'.cell? ⟨w.heap.size, 0, none⟩ = some (.string y.f0.f0) ∧ w'.cell? ⟨w.heap.size, 1, none⟩ = some (.int .i64 y.f0.f1) ∧ w'.cell? ⟨w.heap.size, 2, none⟩ = some (.int .i64 y.f0.f2) ∧ w'.cell? ⟨w.heap.size, 3, none⟩ = some (.string y.f1) ∧ w'.cell? (ad.add (cnt * 4)) = some (.string x.f0.f0) ∧ w'.cell? ⟨(ad.add (cnt * 4)).block, (ad.add (cnt * 4)).off + 1, none⟩ = some (.int .i64 x.f0.f1) ∧ w'.cell? ⟨(ad.add (cnt * 4)).block, (ad.add (cnt * 4)).off + 2, none⟩ = some (.int .i64 x.f0.f2) ∧ w'.cell? ⟨(ad.add (cnt * 4)).block, (ad.add (cnt * 4)).off + 3, none⟩ = some (.string x.f1) ∧ Qz (Below (w.alloc (.cells #[.string y.f0.f0, .int .i64 y.f0.f1, .int .i64 y.f0.f2, .string y.f1] 64)).heap.size (w.alloc (.cells #[.string y.f0.f0, .int .i64 y.f0.f1, .int .i64 y.f0.f2, .string y.f1] 64)) w')) (first | exact ⟨ky0, ky1, ky2, ky3, kx0, kx1, kx2, kx3, KB⟩ | exact ⟨hy0, hy1, hy2, hy3, h0, h1, h2, h3, ⟨qb BW.out⟩⟩) (first | ((with_reducible refine (HP.out x _ ?hW).mono ?_); (case hW => exact HBX.out.trans (Below.mono (qb BW.out) (by simp))); rintro e w' ⟨rfl, hb'⟩; have ky0 := (hb'.cell (World.block_lt_of_cell? _ _ hy0)).trans hy0; have ky1 := (hb'.cell (World.block_lt_of_cell? _ _ hy1)).trans hy1; have ky2 := (hb'.cell (World.block_lt_of_cell? _ _ hy2)).trans hy2; have ky3 := (hb'.cell (World.block_lt_of_cell? _ _ hy3)).trans hy3; have kx0 := (hb'.cell (World.block_lt_of_cell? _ _ h0)).trans h0; have kx1 := (hb'.cell (World.block_lt_of_cell? _ _ h1)).trans h1; have kx2 := (hb'.cell (World.block_lt_of_cell? _ _ h2)).trans h2; have kx3 := (hb'.cell (World.block_lt_of_cell? _ _ h3)).trans h3; have KB := Qz.mk ((qb BW.out).trans (hb'.mono BW.out.size))))
        all_goals
          go_wp2
          go_ret2
          exact ⟨by rw [← FIN.out, ← HX.out]; simp [hn]; try rfl, HBX.out.trans (KB.out.mono (by simp))⟩
      · go_wp2_with fail
        go_quiet (fail)
        go_wp2
        go_ret2
        exact ⟨by rw [← FIN.out]; simp [hn], HBX.out.trans (Below.mono (by repeat (first | exact BW.out | apply qa | apply qb)) (by simp))⟩
end Go.Proofs.Ytidjdkodgddfcaa.P
end

section
namespace Go.Proofs.Ytidjdkodgddfcaa.P
open Go.RowKit Go.Proofs.YtidjdkodgddfcaaW.PrintWords Go.Proofs.YtidjdkodgddfcaaW.PrintLast Go.Proofs.YtidjdkodgddfcaaW.PrintMore
attribute [local go_sem] str_gtr str_leq str_geq qd1 qb1 max_two min_two qy qx qc1 qa1
set_option linter.unusedVariables false
set_option linter.unusedSimpArgs false
def upB (l : List S64) : Bool := (List.range l.length).all fun i => i == 0 || decide (ecmp (l.getD (i - 1) z64) (l.getD i z64) < 0)
theorem upB_of {l : List S64} (h : rowFrom l 0) : upB l = true := by
  unfold upB
  rw [List.all_eq_true]
  intro i hi
  rw [List.mem_range] at hi
  by_cases c : i = 0
  · simp [c]
  · have := (h i (Nat.zero_le _) hi).2 (by omega)
    rw [getD_at l i _ hi, getD_at l (i - 1) _ (by omega)]
    simp [this]
theorem up_lt {l : List S64} (h : upB l = true) : ∀ (d i : Nat), i + d + 1 < l.length → ecmp (l.getD i z64) (l.getD (i + d + 1) z64) < 0 := by
  have one : ∀ i, i + 1 < l.length → ecmp (l.getD i z64) (l.getD (i + 1) z64) < 0 := by
    intro i hi
    unfold upB at h
    rw [List.all_eq_true] at h
    have := h (i + 1) (List.mem_range.2 hi)
    simpa using this
  intro d
  induction d with
  | zero => intro i hi; exact one i hi
  | succ d ih => intro i hi; exact kcmp_trans (ih i (by omega)) (one (i + d + 1) (by omega))
theorem up_mono {l : List S64} (h : upB l = true) (y : S64) (i j : Nat) (hij : i ≤ j) (hj : j < l.length) (hc : ecmp (l.getD j z64) y < 0) : ecmp (l.getD i z64) y < 0 := by
  rcases Nat.lt_or_ge i j with hlt | hge
  · have h1 := up_lt h (j - i - 1) i (by omega)
    rw [show i + (j - i - 1) + 1 = j from by omega] at h1
    exact kcmp_trans h1 hc
  · rw [show i = j from by omega]
    exact hc
def bsearch_cmpEntries.f (l0 : List S64) (u : ByteArray) (q d : Int) (v : ByteArray) : Option (Int × Bool) :=
  if l0.length ≤ 400 ∧ upB l0 = true then some (((bsc l0 ⟨⟨u, q, d⟩, v⟩ : Nat) : Int), decide (bsc l0 ⟨⟨u, q, d⟩, v⟩ < l0.length) && decide (ecmp (l0.getD (bsc l0 ⟨⟨u, q, d⟩, v⟩) z64) ⟨⟨u, q, d⟩, v⟩ = 0)) else none
theorem bsearch_cmpEntries.calls (A0 : Option Addr) (c0 : Nat) (l0 : List S64) (u : ByteArray) (q d : Int) (v : ByteArray) (r0 : Int) (r1 : Bool) (w : World) (hr0 : Kd.C k64 w A0 l0.length l0) (hc0 : l0.length ≤ c0) (h : bsearch_cmpEntries.f l0 u q d v = some (r0, r1)) :
    Calls Try.prog 96 #[.slice A0 l0.length c0, .agg #[.string u, .int .i64 q, .int .i64 d, .string v], .func (.func 97) #[] #[]] w fun e w' => e = .returned (.tuple #[.int .i64 r0, .bool r1]) ∧ Below w.heap.size w w' := by
  unfold bsearch_cmpEntries.f at h
  split at h
  · rename_i hrow
    injection h with h
    injection h with h0 h1
    subst h0; subst h1
    refine bsearch_Entry.calls 97 (fun x => ecmp x ⟨⟨u, q, d⟩, v⟩) ⟨⟨u, q, d⟩, v⟩ A0 c0 l0 w hr0 (by have := hrow.1; omega) (fun args w => by kernel_rfl) (fun x W hb => ?_) (up_mono hrow.2 _)
    obtain ⟨k, hk⟩ := Ev.rounds (cmpKeys_ev x.f0.f0 x.f0.f1 x.f0.f2 u q d)
    exact impl_cmpEntries.calls k x.f0.f0 x.f0.f1 x.f0.f2 x.f1 u q d v _ W (by unfold impl_cmpEntries.f; rw [hk]; rfl)
  · cases h
theorem bsearch_ev {l : List S64} (h : isRow l) (y : S64) : bsearch_cmpEntries.f l y.f0.f0 y.f0.f1 y.f0.f2 y.f1 = some (((bsc l y : Nat) : Int), decide (bsc l y < l.length) && decide (ecmp (l.getD (bsc l y) z64) y = 0)) := if_pos ⟨h.1, upB_of h.2⟩
theorem yq25 {P : Prop} (h : P := by repeat (first | (with_reducible first | exact HB.out | apply qc | apply qa | apply qb | refine qe ?_ GE101.out) | exact HB.out)) : P := h
theorem yq26 {P : Prop} (h : P := by (try simp only [List.map_toArray, List.map_cons, List.map_nil]); first | done | rfl | (simp only [List.length_drop, List.length_take]; rfl) | (rw [IntWalk.u64_in _ (by omega)] <;> rfl)) : P := h
theorem yq27 {P : Prop} (h : P := by repeat (first | exact (Kd.C_below HR0.out HB.out) | (with_reducible refine Kd.C_alloc ?_ _) | (with_reducible refine Kd.C_drewN ?_ _) | (with_reducible refine Kd.C_drew ?_))) : P := h
theorem yq28 {P : Prop} (h : P := by repeat (first | (with_reducible first | exact HB.out | apply qc | apply qa | apply qb) | exact HB.out)) : P := h
theorem yq29 {P : Prop} (h : P := by (with_reducible repeat (first | refine qh ?_ _ | refine qj ?_ | refine qi ?_ _)); exact BK101.out) : P := h
def impl_SeekEntry.f (k : Nat) (l0 : List (S64)) (a1_0 : ByteArray) (a1_1 : Int) (a1_2 : Int) : Option (Int) := (impl_EntriesOk.f k l0).bind fun t102 => (if t102 = true then ((impl_KeyOk.f a1_0 a1_1 a1_2).bind fun t103 => (if t103 = true then ((bsearch_cmpEntries.f l0 a1_0 a1_1 a1_2 (⟨#[]⟩ : ByteArray)).bind fun bt104 => (some bt104.1)) else (some (-1)))) else (some (-1)))
set_option maxHeartbeats 8000000 in
set_option maxRecDepth 100000 in
theorem impl_SeekEntry.calls (k : Nat) (A0 : Option Addr) (c0 : Nat) (l0 : List (S64)) (a1_0 : ByteArray) (a1_1 : Int) (a1_2 : Int) (r : Int) (w : World) (hr0 : Kd.C k64 w A0 l0.length l0) (hc0 : l0.length ≤ c0) (h : impl_SeekEntry.f k l0 a1_0 a1_1 a1_2 = some r) :
  Calls Try.prog 34 #[.slice A0 l0.length c0, .agg #[.string a1_0, .int .i64 a1_1, .int .i64 a1_2]] w fun e w' => e = .returned (.int .i64 r) ∧ Below w.heap.size w w' := by
 have hu35 := Try.underlying35
 have hu64 := Try.underlying64
 have HR0 := Qz.mk hr0
 have HC0 := Qz.mk hc0
 clear hr0 hc0
 have HB := Qz.mk (Below.refl w.heap.size w)
 have H : ((impl_EntriesOk.f k l0).bind fun t102 => (if t102 = true then ((impl_KeyOk.f a1_0 a1_1 a1_2).bind fun t103 => (if t103 = true then ((bsearch_cmpEntries.f l0 a1_0 a1_1 a1_2 (⟨#[]⟩ : ByteArray)).bind fun bt104 => (some bt104.1)) else (some (-1)))) else (some (-1)))) = some r := h
 clear h
 replace H := Option.bind_eq_some_iff.mp H
 obtain ⟨t102, A30, H⟩ := H
 replace H : (if t102 = true then ((impl_KeyOk.f a1_0 a1_1 a1_2).bind fun t103 => (if t103 = true then ((bsearch_cmpEntries.f l0 a1_0 a1_1 a1_2 (⟨#[]⟩ : ByteArray)).bind fun bt104 => (some bt104.1)) else (some (-1)))) else (some (-1))) = some r := H
 have A3 := Qz.mk A30
 clear A30
 by_cases c4 : t102 = true
 ·subst c4
  have H1 : ((impl_KeyOk.f a1_0 a1_1 a1_2).bind fun t103 => (if t103 = true then ((bsearch_cmpEntries.f l0 a1_0 a1_1 a1_2 (⟨#[]⟩ : ByteArray)).bind fun bt104 => (some bt104.1)) else (some (-1)))) = some r := by rw [if_pos rfl] at H; exact H
  clear H
  have H := H1
  clear H1
  replace H := Option.bind_eq_some_iff.mp H
  obtain ⟨t103, A50, H⟩ := H
  replace H : (if t103 = true then ((bsearch_cmpEntries.f l0 a1_0 a1_1 a1_2 (⟨#[]⟩ : ByteArray)).bind fun bt104 => (some bt104.1)) else (some (-1))) = some r := H
  have A5 := Qz.mk A50
  clear A50
  by_cases c6 : t103 = true
  ·subst c6
   have H1 : ((bsearch_cmpEntries.f l0 a1_0 a1_1 a1_2 (⟨#[]⟩ : ByteArray)).bind fun bt104 => (some bt104.1)) = some r := by rw [if_pos rfl] at H; exact H
   clear H
   have H := H1
   clear H1
   replace H := Option.bind_eq_some_iff.mp H
   obtain ⟨⟨t104, t105⟩, A70, H⟩ := H
   replace H : (some t104) = some r := H
   have A7 := Qz.mk A70
   clear A70
   obtain rfl := Option.some.inj H
   go_enter Try.func34, Try.ntmps34
   go_wp2_with (first | ((with_reducible refine qz (N := 3) rfl ?_); refine qh1 ?hg (N := 3) ?hd (cs := #[.string a1_0, .int .i64 a1_1, .int .i64 a1_2]) (t := 35) ?hr ?_; (case hd => rfl); (case hg => rfl); (case hr => first | (go_simp; done) | (go_simp; rfl)); intro gb101 hg w8 hbox hb; have BK101 := Qz.mk (hbox); have GW101 := Qz.mk ((by rw [hg]; exact (qu yq28) : w.heap.size ≤ gb101)); have GE101 := GW101; replace HB := Qz.mk (qm yq28 hb); clear hb hbox hg) | ((with_reducible refine qr (f := 43) rfl ?_); refine qe1 (some 8) rfl rfl Try.func43 (by kernel_rfl) rfl #[.slice A0 l0.length c0] rfl yq26 ?_; (with_reducible refine (impl_EntriesOk.calls k _ _ l0 true _ ?side1 ?side2 A3.out).mono ?_); (case side1 => exact yq27); (case side2 => exact HC0.out); rintro e w9 ⟨rfl, hb⟩; refine ⟨_, rfl, ?_⟩; replace BK101 := Qz.mk (qf1 (g := gb101) (o := .cells #[.string a1_0, .int .i64 a1_1, .int .i64 a1_2] 35 (0, 0)) yq29 hb); replace HB := Qz.mk (qm yq25 hb); (try clear hb); have hcz10_0 : w9.cell? ⟨gb101, 0, none⟩ = some (.string a1_0) := (qf BK101.out 0).trans rfl; have hcz10_1 : w9.cell? ⟨gb101, 1, none⟩ = some (.int .i64 a1_1) := (qf BK101.out 1).trans rfl; have hcz10_2 : w9.cell? ⟨gb101, 2, none⟩ = some (.int .i64 a1_2) := (qf BK101.out 2).trans rfl; have hfz10_0 := qg BK101.out 0; have hfz10_1 := qg BK101.out 1; have hfz10_2 := qg BK101.out 2) | (go_at_call 33; (with_reducible refine (impl_KeyOk.calls a1_0 a1_1 a1_2 true _ A5.out).mono ?_); rintro e w11 ⟨rfl, hb⟩; replace BK101 := Qz.mk (qf1 (g := gb101) (o := .cells #[.string a1_0, .int .i64 a1_1, .int .i64 a1_2] 35 (0, 0)) yq29 hb); replace HB := Qz.mk (qm yq25 hb); (try clear hb); have hcz12_0 : w11.cell? ⟨gb101, 0, none⟩ = some (.string a1_0) := (qf BK101.out 0).trans rfl; have hcz12_1 : w11.cell? ⟨gb101, 1, none⟩ = some (.int .i64 a1_1) := (qf BK101.out 1).trans rfl; have hcz12_2 : w11.cell? ⟨gb101, 2, none⟩ = some (.int .i64 a1_2) := (qf BK101.out 2).trans rfl; have hfz12_0 := qg BK101.out 0; have hfz12_1 := qg BK101.out 1; have hfz12_2 := qg BK101.out 2) | ((with_reducible refine qr (f := 96) rfl ?_); refine qe1 (some 19) rfl rfl Try.func96 (by kernel_rfl) rfl #[.slice A0 l0.length c0, .agg #[.string a1_0, .int .i64 a1_1, .int .i64 a1_2, .string (⟨#[]⟩ : ByteArray)], .func (.func 97) #[] #[]] rfl yq26 ?_; (with_reducible refine (bsearch_cmpEntries.calls _ _ l0 a1_0 a1_1 a1_2 (⟨#[]⟩ : ByteArray)  t104 t105 _ ?side1 ?side2 A7.out).mono ?_); (case side1 => exact yq27); (case side2 => exact HC0.out); rintro e w13 ⟨rfl, hb⟩; refine ⟨_, rfl, ?_⟩; replace BK101 := Qz.mk (qf1 (g := gb101) (o := .cells #[.string a1_0, .int .i64 a1_1, .int .i64 a1_2] 35 (0, 0)) yq29 hb); replace HB := Qz.mk (qm yq25 hb); (try clear hb)))
   go_ret
   exact ⟨by first | rfl | (simp [qq, qo] <;> rfl) | (simp [*, qq, qo] <;> rfl), by repeat (first | (with_reducible first | exact HB.out | apply qc | apply qa | apply qb | refine qe ?_ GE101.out) | exact HB.out)⟩
  ·replace c6 := Bool.eq_false_iff.mpr c6
   subst c6
   have H1 : (some (-1)) = some r := by rw [if_neg (show ¬ (false = true) by decide)] at H; exact H
   clear H
   have H := H1
   clear H1
   obtain rfl := Option.some.inj H
   go_enter Try.func34, Try.ntmps34
   go_wp2_with (first | ((with_reducible refine qz (N := 3) rfl ?_); refine qh1 ?hg (N := 3) ?hd (cs := #[.string a1_0, .int .i64 a1_1, .int .i64 a1_2]) (t := 35) ?hr ?_; (case hd => rfl); (case hg => rfl); (case hr => first | (go_simp; done) | (go_simp; rfl)); intro gb101 hg w14 hbox hb; have BK101 := Qz.mk (hbox); have GW101 := Qz.mk ((by rw [hg]; exact (qu yq28) : w.heap.size ≤ gb101)); have GE101 := GW101; replace HB := Qz.mk (qm yq28 hb); clear hb hbox hg) | ((with_reducible refine qr (f := 43) rfl ?_); refine qe1 (some 8) rfl rfl Try.func43 (by kernel_rfl) rfl #[.slice A0 l0.length c0] rfl yq26 ?_; (with_reducible refine (impl_EntriesOk.calls k _ _ l0 true _ ?side1 ?side2 A3.out).mono ?_); (case side1 => exact yq27); (case side2 => exact HC0.out); rintro e w15 ⟨rfl, hb⟩; refine ⟨_, rfl, ?_⟩; replace BK101 := Qz.mk (qf1 (g := gb101) (o := .cells #[.string a1_0, .int .i64 a1_1, .int .i64 a1_2] 35 (0, 0)) yq29 hb); replace HB := Qz.mk (qm yq25 hb); (try clear hb); have hcz16_0 : w15.cell? ⟨gb101, 0, none⟩ = some (.string a1_0) := (qf BK101.out 0).trans rfl; have hcz16_1 : w15.cell? ⟨gb101, 1, none⟩ = some (.int .i64 a1_1) := (qf BK101.out 1).trans rfl; have hcz16_2 : w15.cell? ⟨gb101, 2, none⟩ = some (.int .i64 a1_2) := (qf BK101.out 2).trans rfl; have hfz16_0 := qg BK101.out 0; have hfz16_1 := qg BK101.out 1; have hfz16_2 := qg BK101.out 2) | (go_at_call 33; (with_reducible refine (impl_KeyOk.calls a1_0 a1_1 a1_2 false _ A5.out).mono ?_); rintro e w17 ⟨rfl, hb⟩; replace BK101 := Qz.mk (qf1 (g := gb101) (o := .cells #[.string a1_0, .int .i64 a1_1, .int .i64 a1_2] 35 (0, 0)) yq29 hb); replace HB := Qz.mk (qm yq25 hb); (try clear hb)))
   go_ret
   exact ⟨by first | rfl | (simp [qq, qo] <;> rfl) | (simp [*, qq, qo] <;> rfl), by repeat (first | (with_reducible first | exact HB.out | apply qc | apply qa | apply qb | refine qe ?_ GE101.out) | exact HB.out)⟩
 ·replace c4 := Bool.eq_false_iff.mpr c4
  subst c4
  have H1 : (some (-1)) = some r := by rw [if_neg (show ¬ (false = true) by decide)] at H; exact H
  clear H
  have H := H1
  clear H1
  obtain rfl := Option.some.inj H
  go_enter Try.func34, Try.ntmps34
  go_wp2_with (first | ((with_reducible refine qz (N := 3) rfl ?_); refine qh1 ?hg (N := 3) ?hd (cs := #[.string a1_0, .int .i64 a1_1, .int .i64 a1_2]) (t := 35) ?hr ?_; (case hd => rfl); (case hg => rfl); (case hr => first | (go_simp; done) | (go_simp; rfl)); intro gb101 hg w18 hbox hb; have BK101 := Qz.mk (hbox); have GW101 := Qz.mk ((by rw [hg]; exact (qu yq28) : w.heap.size ≤ gb101)); have GE101 := GW101; replace HB := Qz.mk (qm yq28 hb); clear hb hbox hg) | ((with_reducible refine qr (f := 43) rfl ?_); refine qe1 (some 8) rfl rfl Try.func43 (by kernel_rfl) rfl #[.slice A0 l0.length c0] rfl yq26 ?_; (with_reducible refine (impl_EntriesOk.calls k _ _ l0 false _ ?side1 ?side2 A3.out).mono ?_); (case side1 => exact yq27); (case side2 => exact HC0.out); rintro e w19 ⟨rfl, hb⟩; refine ⟨_, rfl, ?_⟩; replace BK101 := Qz.mk (qf1 (g := gb101) (o := .cells #[.string a1_0, .int .i64 a1_1, .int .i64 a1_2] 35 (0, 0)) yq29 hb); replace HB := Qz.mk (qm yq25 hb); (try clear hb)))
  go_ret
  exact ⟨by first | rfl | (simp [qq, qo] <;> rfl) | (simp [*, qq, qo] <;> rfl), by repeat (first | (with_reducible first | exact HB.out | apply qc | apply qa | apply qb | refine qe ?_ GE101.out) | exact HB.out)⟩
theorem yq30 {P : Prop} (h : P := by repeat (first | (with_reducible first | exact HB.out | apply qc | apply qa | apply qb | refine qe ?_ GE101.out) | exact HB.out)) : P := h
theorem yq31 {P : Prop} (h : P := by (with_reducible repeat (first | refine qh ?_ _ | refine qj ?_ | refine qi ?_ _)); exact BK101.out) : P := h
theorem yq32 {P : Prop} (h : P := by first | rfl | (simp; done) | (simp [*]; done)) : P := h
theorem yq33 {P : Prop} (h : P := by (with_reducible repeat (first | apply Kd.R_alloc | apply Kd.R_drewN | apply Kd.R_drew)); exact HO_5.out) : P := h
theorem yq34 {P : Prop} (h : P := by first | (with_reducible assumption) | assumption) : P := h
mutual
def spec_l8Put.l0 : Nat → List (S64) → List (S64) → Bool → Int → ByteArray → Int → Int → ByteArray → Option ((List (S64)))
 | 0, _, _, _, _, _, _, _, _ => none
 | k + 1, x0, x5, x6, x7, x102000, x102001, x102002, x102003 => if x7 < (x0.length : Int) then (if 0 ≤ x7 then ((spec_KeyCmp.f k ((qd x0 x7).f0.f0) ((qd x0 x7).f0.f1) ((qd x0 x7).f0.f2) x102000 x102001 x102002).bind fun t109 => (if x6 = true then (spec_l8Put.j1 k x0 x5 x6 x7 t109 false x102000 x102001 x102002 x102003) else (spec_l8Put.j1 k x0 x5 x6 x7 t109 (decide (t109 ≥ 0)) x102000 x102001 x102002 x102003))) else (none)) else (if x6 = true then (some x5) else (if x5.length < 2932031007402 then (some (x5 ++ [(⟨(⟨x102000, x102001, x102002⟩ : S35), x102003⟩ : S64)])) else (none)))
def spec_l8Put.j1 : Nat → List (S64) → List (S64) → Bool → Int → Int → Bool → ByteArray → Int → Int → ByteArray → Option ((List (S64)))
 | 0, _, _, _, _, _, _, _, _, _, _ => none
 | k + 1, x0, x5, x6, x7, x8, x29, x102000, x102001, x102002, x102003 => if x29 = true then (if x5.length < 2932031007402 then ((some (x5 ++ [(⟨(⟨x102000, x102001, x102002⟩ : S35), x102003⟩ : S64)] : List (S64))).bind fun y110 => (if x8 = 0 then (spec_l8Put.l0 k x0 y110 true (wrap64 (x7 + 1)) x102000 x102001 x102002 x102003) else (if 0 ≤ x7 then (if x7 < (x0.length : Int) then (if y110.length < 2932031007402 then (spec_l8Put.l0 k x0 (y110 ++ [(⟨(⟨(qd x0 x7).f0.f0, (qd x0 x7).f0.f1, (qd x0 x7).f0.f2⟩ : S35), (qd x0 x7).f1⟩ : S64)]) true (wrap64 (x7 + 1)) x102000 x102001 x102002 x102003) else (none)) else (none)) else (none)))) else (none)) else (if x8 = 0 then (spec_l8Put.l0 k x0 x5 x6 (wrap64 (x7 + 1)) x102000 x102001 x102002 x102003) else (if 0 ≤ x7 then (if x7 < (x0.length : Int) then (if x5.length < 2932031007402 then (spec_l8Put.l0 k x0 (x5 ++ [(⟨(⟨(qd x0 x7).f0.f0, (qd x0 x7).f0.f1, (qd x0 x7).f0.f2⟩ : S35), (qd x0 x7).f1⟩ : S64)]) x6 (wrap64 (x7 + 1)) x102000 x102001 x102002 x102003) else (none)) else (none)) else (none)))
end
def spec_l8Put.f (k : Nat) (l0 : List (S64)) (a1_0 : ByteArray) (a1_1 : Int) (a1_2 : Int) (a1_3 : ByteArray) : Option ((List (S64))) := spec_l8Put.l0 k l0 (([] : List (S64))) false 0 a1_0 a1_1 a1_2 a1_3
def spec_l8Put.T6 : Bool × List (List Nat × List Nat) := (true, [([], []), ([], []), ([0, 1], [0, 1]), ([2], [2]), ([3], [3]), ([], []), ([5], [5]), ([4, 6], [4, 6]), ([7, 7, 0, 1, 2, 3, 4, 5, 6, 7], [7])])
def spec_l8Put.B6 : List Nat := [0, 0, 3, 7, 15, 0, 32, 127, 255]
theorem spec_l8Put.tab6 : rtab .any (opsOf Try.f159 6) = spec_l8Put.T6 := by kernel_rfl
theorem spec_l8Put.bits6 : waitsOk spec_l8Put.T6.2 spec_l8Put.B6 = true := by kernel_rfl
set_option maxHeartbeats 8000000 in
set_option maxRecDepth 100000 in
theorem spec_l8Put.calls (k : Nat) (A0 : Option Addr) (c0 : Nat) (l0 : List (S64)) (a1_0 : ByteArray) (a1_1 : Int) (a1_2 : Int) (a1_3 : ByteArray) (r : List (S64)) (w : World) (hr0 : Kd.C k64 w A0 l0.length l0) (hc0 : l0.length ≤ c0) (h : spec_l8Put.f k l0 a1_0 a1_1 a1_2 a1_3 = some r) :
  Calls Try.prog 159 #[.slice A0 l0.length c0, .agg #[.string a1_0, .int .i64 a1_1, .int .i64 a1_2, .string a1_3]] w fun e w' => ∃ v0_ : Value, e = .returned (v0_) ∧ Kd.R k64 64 w' w.heap.size (fun _ => True) v0_ r ∧ Below w.heap.size w w' := by
 have hu64 := Try.underlying64
 have hu35 := Try.underlying35
 have HR0 := Qz.mk hr0
 have HC0 := Qz.mk hc0
 clear hr0 hc0
 have HB := Qz.mk (Below.refl w.heap.size w)
 have H : (spec_l8Put.l0 k l0 (([] : List (S64))) false 0 a1_0 a1_1 a1_2 a1_3) = some r := h
 clear h
 obtain ⟨y102, hy102⟩ : ∃ y_ : List (S64), y_ = (([] : List (S64))) := ⟨_, rfl⟩
 replace H : (spec_l8Put.l0 k l0 y102 false 0 a1_0 a1_1 a1_2 a1_3) = some r := by first | (rw [hy102]; with_reducible exact H) | (have H2_ := (Option.bind_some _ _).symm.trans H; rw [hy102]; with_reducible exact H2_) | (have H2_ := (Option.bind_some _ _).symm.trans H; with_reducible exact H2_) | with_reducible exact H | (rw [hy102]; exact H) | exact H
 have Ny102 := Qz.mk hy102
 clear hy102
 have H' := Qz.mk H
 clear H
 go_enter Try.func159, Try.ntmps159
 go_wp2_with (first | ((with_reducible refine qz (N := 3) rfl ?_); refine qh1 ?hg (N := 3) ?hd (cs := #[.string a1_0, .int .i64 a1_1, .int .i64 a1_2, .string a1_3]) (t := 64) ?hr ?_; (case hd => rfl); (case hg => rfl); (case hr => first | (go_simp; done) | (go_simp; rfl)); intro gb101 hg w3 hbox hb; have BK101 := Qz.mk (hbox); have GW101 := Qz.mk ((by rw [hg]; exact (qu (by repeat (first | (with_reducible first | exact HB.out | apply qc | apply qa | apply qb) | exact HB.out))) : w.heap.size ≤ gb101)); have GE101 := GW101; replace HB := Qz.mk (qm (by repeat (first | (with_reducible first | exact HB.out | apply qc | apply qa | apply qb) | exact HB.out)) hb); clear hb hbox hg) | ((with_reducible refine qz (N := 9) rfl ?_); refine Kd.R_lit k64 _ 64 ?hg (N := 9) ?hd (xs := ([] : List (S64))) (inner := []) (ok := fun _ => True) (okp := fun _ => True) ?hr ?hp (fun _ hk => hk) trivial (Below.refl _ _) (Nat.le_refl _) (by simp) ?_; (case hd => rfl); (case hg => rfl); (case hr => first | (go_simp; done) | (go_simp; rfl)); (case hp => exact (Reps.none _ _)); intro v103 w4 ho5 hb hg_ hnew_; clear hg_ hnew_; (first | rw [← Ny102.out] at ho5 | (simp only [Int.reduceToNat] at ho5; rw [← Ny102.out] at ho5)); have HO104 := Qz.mk (Kd.R_lower (Kd.R_newB ho5 (g := gb101) (o := .cells #[.string a1_0, .int .i64 a1_1, .int .i64 a1_2, .string a1_3] 64 (0, 0)) yq31) (qu yq30)); replace BK101 := Qz.mk (qf1 (g := gb101) (o := .cells #[.string a1_0, .int .i64 a1_1, .int .i64 a1_2, .string a1_3] 64 (0, 0)) yq31 hb); replace HB := Qz.mk (qm yq30 hb); clear hb ho5))
 go_loopg [5, 6, 7] k (fun kq v5 v6 v7 w' => ∃ (x5_1 : List (S64)) (x6_1 : Bool) (x7_1 : Int), v6 = .bool x6_1 ∧ v7 = .int .i64 x7_1 ∧ Qz (spec_l8Put.l0 kq l0 x5_1 x6_1 x7_1 a1_0 a1_1 a1_2 a1_3 = some r) ∧ Qz (kq ≤ k) ∧ Qz (Kd.R k64 64 w' w.heap.size (fun k_ => k_ ≠ gb101) v5 x5_1) ∧ Qz (w'.heap[gb101]? = some (.cells #[.string a1_0, .int .i64 a1_1, .int .i64 a1_2, .string a1_3] 64 (0, 0))) ∧ Qz (Below w.heap.size w w'))
 case atStart => exact ⟨(y102), (false), (0), yq32, yq32, H', ⟨Nat.le_refl _⟩, ⟨by (with_reducible repeat (first | apply Kd.R_alloc | apply Kd.R_drewN | apply Kd.R_drew)); exact Kd.R_mono HO104.out (fun _ hk => hk.2)⟩, ⟨by (with_reducible repeat (first | refine qh ?_ _ | refine qj ?_ | refine qi ?_ _)); exact BK101.out⟩, ⟨by repeat (first | (with_reducible first | exact HB.out | apply qc | apply qa | apply qb | refine qe ?_ GE101.out) | exact HB.out)⟩⟩
 case round =>
  clear H'
  try clear c1
  try clear p2
  obtain ⟨x5_1, x6_1, x7_1, rfl, rfl, HA, HK1, HO_5, BK101, HB⟩ := hrel
  cases gk with
  | zero => exact absurd HA.out (by simp [spec_l8Put.l0])
  | succ k1 =>
   have H := HA.out
   clear HA
   simp only [spec_l8Put.l0] at H
   by_cases c6 : x7_1 < (l0.length : Int)
   ·rw [if_pos c6] at H
    have c6b0 : decide (x7_1 < (l0.length : Int)) = true := decide_eq_true c6
    clear c6
    by_cases c7 : 0 ≤ x7_1
    ·rw [if_pos c7] at H
     have c7b0 : decide (0 ≤ x7_1) = true := decide_eq_true c7
     clear c7
     replace H := Option.bind_eq_some_iff.mp H
     obtain ⟨t109, A80, H⟩ := H
     replace H : (if x6_1 = true then (spec_l8Put.j1 k1 l0 x5_1 x6_1 x7_1 t109 false a1_0 a1_1 a1_2 a1_3) else (spec_l8Put.j1 k1 l0 x5_1 x6_1 x7_1 t109 (decide (t109 ≥ 0)) a1_0 a1_1 a1_2 a1_3)) = some r := H
     have A8 := Qz.mk A80
     clear A80
     have HC9 := Qz.mk H
     clear H
     try go_wp2
     replace HO_5 := Qz.mk (Kd.R_drew HO_5.out)
     replace BK101 := Qz.mk (qj BK101.out)
     replace HB := Qz.mk (qb HB.out)
     have p108 : 0 ≤ (x7_1 : Int) := of_decide_eq_true yq34
     have q108 : x7_1 < (l0.length : Int) := of_decide_eq_true yq34
     obtain ⟨ad108, e108, hx108_0, hx108_1, hx108_2, hx108_3⟩ := at_T64 HR0.out x7_1 p108 q108
     have hw108_3 := hx108_3
     have hw108_2 := hx108_2
     have hw108_1 := hx108_1
     have hw108_0 := hx108_0
     cases e108
     replace hx108_0 := (HB.out.cell (World.block_lt_of_cell? w _ hx108_0)).trans hx108_0
     replace hx108_1 := (HB.out.cell (World.block_lt_of_cell? w _ hx108_1)).trans hx108_1
     replace hx108_2 := (HB.out.cell (World.block_lt_of_cell? w _ hx108_2)).trans hx108_2
     replace hx108_3 := (HB.out.cell (World.block_lt_of_cell? w _ hx108_3)).trans hx108_3
     replace p108 := eq_true p108
     replace q108 := eq_true q108
     refine start_ (n := 9) (S := fun w' => w'.cell? ⟨gb101, 0, none⟩ = some (.string a1_0) ∧ w'.cell? ⟨gb101, 1, none⟩ = some (.int .i64 a1_1) ∧ w'.cell? ⟨gb101, 2, none⟩ = some (.int .i64 a1_2) ∧ w'.cell? ⟨gb101, 3, none⟩ = some (.string a1_3) ∧ w'.cell? (ad108.add ((x7_1).toNat * 4)) = some (.string ((qd l0 x7_1).f0.f0)) ∧ w'.cell? ⟨(ad108.add ((x7_1).toNat * 4)).block, (ad108.add ((x7_1).toNat * 4)).off + 1, none⟩ = some (.int .i64 ((qd l0 x7_1).f0.f1)) ∧ w'.cell? ⟨(ad108.add ((x7_1).toNat * 4)).block, (ad108.add ((x7_1).toNat * 4)).off + 2, none⟩ = some (.int .i64 ((qd l0 x7_1).f0.f2)) ∧ w'.cell? ⟨(ad108.add ((x7_1).toNat * 4)).block, (ad108.add ((x7_1).toNat * 4)).off + 3, none⟩ = some (.string ((qd l0 x7_1).f1))) (ds := []) #[false, false, false, false, false, false, false, false, false] (by kernel_rfl) rfl rfl ⟨(qf BK101.out 0).trans rfl, (qf BK101.out 1).trans rfl, (qf BK101.out 2).trans rfl, (qf BK101.out 3).trans rfl, ((HB.out.cell (World.block_lt_of_cell? w _ hw108_0)).trans hw108_0), ((HB.out.cell (World.block_lt_of_cell? w _ hw108_1)).trans hw108_1), ((HB.out.cell (World.block_lt_of_cell? w _ hw108_2)).trans hw108_2), ((HB.out.cell (World.block_lt_of_cell? w _ hw108_3)).trans hw108_3)⟩ (fun hHeld => ?_); refine with_tabW spec_l8Put.tab6 spec_l8Put.bits6 (fun HT_ HW_ => ?_)
     generalize wr.drew = w10 at HO_5 BK101 HB hx108_0 hx108_1 hx108_2 hx108_3 hHeld ⊢
     refine pure_ (i := 0) (N := some 16) (v := ?_) (a' := ?_) #[true, false, false, false, false, false, false, false, false] rfl rfl (qt HT_.out (by kernel_rfl)) (fun _ _ _ h => h) (Or.inl ⟨by rfl, ?_⟩) ?_ ?_
     rotate_left
     ·intro w'
      go_simp
      with_reducible rfl
     rotate_left
     ·simp only [Act.put, sq1, sq2, sq3, i64_w, i32_w]
      rfl
     refine pure_ (i := 1) (N := some 17) (v := ?_) (a' := ?_) #[true, true, false, false, false, false, false, false, false] rfl rfl (qt HT_.out (by kernel_rfl)) (fun _ _ _ h => h) (Or.inl ⟨by rfl, ?_⟩) ?_ ?_
     rotate_left
     ·intro w'
      go_simp
      with_reducible rfl
     rotate_left
     ·simp only [Act.put, sq1, sq2, sq3, i64_w, i32_w]
      rfl
     refine pure_ (i := 2) (N := some 18) (v := ?_) (a' := ?_) #[true, true, true, false, false, false, false, false, false] rfl rfl (qt HT_.out (by kernel_rfl)) (fun _ _ _ h => h) (Or.inl ⟨by rfl, ?_⟩) ?_ ?_
     rotate_left
     ·intro w'
      go_simp
      with_reducible rfl
     rotate_left
     ·simp only [Act.put, sq1, sq2, sq3, i64_w, i32_w]
      rfl
     refine pure_ (i := 3) (N := some 19) (v := ?_) (a' := ?_) #[true, true, true, true, false, false, false, false, false] rfl rfl (qt HT_.out (by kernel_rfl)) (fun _ _ _ h => h) (Or.inl ⟨by rfl, ?_⟩) ?_ ?_
     rotate_left
     ·intro w'
      go_simp
      with_reducible rfl
     rotate_left
     ·simp only [Act.put, sq1, sq2, sq3, i64_w, i32_w]
      rfl
     refine pure_ (i := 5) (N := some 21) (v := ?_) (a' := ?_) #[true, true, true, true, false, true, false, false, false] rfl rfl (qt HT_.out (by kernel_rfl)) (fun _ _ _ h => h) (Or.inl ⟨by rfl, ?_⟩) ?_ ?_
     rotate_left
     ·intro w'
      go_simp
      with_reducible rfl
     rotate_left
     ·simp only [Act.put, sq1, sq2, sq3, i64_w, i32_w]
      rfl
     refine take_ (i := 4) (N := some 20) (v := ?_) (a' := ?_) #[true, true, true, true, true, true, false, false, false] rfl rfl (take_ofW HT_.out HW_.out (by kernel_rfl)) (fun _ _ _ h => h) (Or.inl ⟨by rfl, ?_⟩) hHeld ?_ ?_
     rotate_left
     ·rintro w' ⟨s0, s1, s2, s3, s4, s5, s6, s7⟩
      go_simp
      with_reducible rfl
     rotate_left
     ·simp only [Act.put, sq1, sq2, sq3, i64_w, i32_w]
      rfl
     refine take_ (i := 6) (N := some 22) (v := ?_) (a' := ?_) #[true, true, true, true, true, true, true, false, false] rfl rfl (take_ofW HT_.out HW_.out (by kernel_rfl)) (fun _ _ _ h => h) (Or.inl ⟨by rfl, ?_⟩) hHeld ?_ ?_
     rotate_left
     ·rintro w' ⟨s0, s1, s2, s3, s4, s5, s6, s7⟩
      go_simp
      with_reducible rfl
     rotate_left
     ·simp only [Act.put, sq1, sq2, sq3, i64_w, i32_w]
      rfl
     refine one_ (i := 7) (N := some 23) #[true, true, true, true, true, true, true, true, false] rfl rfl (one_of HT_.out (by kernel_rfl)) (by decide) (fun K hK => ?_)
     refine goes_ Try.func144 (by kernel_rfl) rfl #[.agg #[.string ((qd l0 x7_1).f0.f0), .int .i64 ((qd l0 x7_1).f0.f1), .int .i64 ((qd l0 x7_1).f0.f2)], .agg #[.string a1_0, .int .i64 a1_1, .int .i64 a1_2]] (by rfl) rfl rfl (by (try simp only [List.map_toArray, List.map_cons, List.map_nil]); first | done | rfl) ?_
     with_reducible refine (spec_KeyCmp.calls k1 ((qd l0 x7_1).f0.f0) ((qd l0 x7_1).f0.f1) ((qd l0 x7_1).f0.f2) a1_0 a1_1 a1_2 t109 _ A8.out).mono ?_
     rintro e w11 ⟨rfl, hb⟩
     refine ⟨_, rfl, ?_⟩
     replace HO_5 := Qz.mk (Kd.R_below yq33 hb)
     replace BK101 := Qz.mk (qf1 (g := gb101) (o := .cells #[.string a1_0, .int .i64 a1_1, .int .i64 a1_2, .string a1_3] 64 (0, 0)) yq31 hb)
     replace HB := Qz.mk (qm yq30 hb)
     (try clear hb)
     (try clear hk)
     refine hK.out _ _ ⟨(qf BK101.out 0).trans rfl, (qf BK101.out 1).trans rfl, (qf BK101.out 2).trans rfl, (qf BK101.out 3).trans rfl, ((HB.out.cell (World.block_lt_of_cell? w _ hw108_0)).trans hw108_0), ((HB.out.cell (World.block_lt_of_cell? w _ hw108_1)).trans hw108_1), ((HB.out.cell (World.block_lt_of_cell? w _ hw108_2)).trans hw108_2), ((HB.out.cell (World.block_lt_of_cell? w _ hw108_3)).trans hw108_3)⟩ (fun hHeld => ?_)
     clear hK K
     refine norm_ (a' := ?_) ?_ ?_
     rotate_left
     ·show Act.put _ (some 23) _ = _
      simp only [Act.put, sq1, sq2, sq3, i64_w, i32_w]
      rfl
     refine pure_ (i := 8) (N := some 8) (v := ?_) (a' := ?_) #[true, true, true, true, true, true, true, true, true] rfl rfl (qt HT_.out (by kernel_rfl)) (fun _ _ _ h => h) (Or.inl ⟨by rfl, ?_⟩) ?_ ?_
     rotate_left
     ·intro w'
      go_simp
      with_reducible rfl
     rotate_left
     ·simp only [Act.put, sq1, sq2, sq3, i64_w, i32_w]
      rfl
     refine done_ (done_of HT_.out (by kernel_rfl)) ?_
     go_upto_region 7 with (fail)
     go_cut [29] (fun v29 wc => ∃ (kq : Nat) (x29_8 : Bool), v29 = .bool x29_8 ∧ Qz (spec_l8Put.j1 kq l0 x5_1 x6_1 x7_1 t109 x29_8 a1_0 a1_1 a1_2 a1_3 = some r) ∧ Qz (kq ≤ k1) ∧ Qz (Kd.R k64 64 wc w.heap.size (fun k_ => k_ ≠ gb101) u5 x5_1) ∧ Qz (wc.heap[gb101]? = some (.cells #[.string a1_0, .int .i64 a1_1, .int .i64 a1_2, .string a1_3] 64 (0, 0))) ∧ Qz (Below w.heap.size w wc))
     case first =>
      have H := HC9.out
      clear HC9
      by_cases c12 : x6_1 = true
      ·subst c12
       have H1 : (spec_l8Put.j1 k1 l0 x5_1 true x7_1 t109 false a1_0 a1_1 a1_2 a1_3) = some r := by rw [if_pos rfl] at H; exact H
       clear H
       have H := H1
       clear H1
       have H' := Qz.mk H
       clear H
       go_wp2
       go_meet
       case rel => exact ⟨_, (false), yq32, H', ⟨by have := HK1.out; first | omega | exact Nat.le_refl _⟩, ⟨by (with_reducible repeat (first | apply Kd.R_alloc | apply Kd.R_drewN | apply Kd.R_drew)); exact HO_5.out⟩, ⟨by (with_reducible repeat (first | refine qh ?_ _ | refine qj ?_ | refine qi ?_ _)); exact BK101.out⟩, ⟨by repeat (first | (with_reducible first | exact HB.out | apply qc | apply qa | apply qb | refine qe ?_ GE101.out) | exact HB.out)⟩⟩
      ·replace c12 := Bool.eq_false_iff.mpr c12
       subst c12
       have H1 : (spec_l8Put.j1 k1 l0 x5_1 false x7_1 t109 (decide (t109 ≥ 0)) a1_0 a1_1 a1_2 a1_3) = some r := by rw [if_neg (show ¬ (false = true) by decide)] at H; exact H
       clear H
       have H := H1
       clear H1
       have H' := Qz.mk H
       clear H
       go_wp2
       go_meet
       case rel => exact ⟨_, (decide (t109 ≥ 0)), yq32, H', ⟨by have := HK1.out; first | omega | exact Nat.le_refl _⟩, ⟨by (with_reducible repeat (first | apply Kd.R_alloc | apply Kd.R_drewN | apply Kd.R_drew)); exact HO_5.out⟩, ⟨by (with_reducible repeat (first | refine qh ?_ _ | refine qj ?_ | refine qi ?_ _)); exact BK101.out⟩, ⟨by repeat (first | (with_reducible first | exact HB.out | apply qc | apply qa | apply qb | refine qe ?_ GE101.out) | exact HB.out)⟩⟩
     case rest =>
      clear HC9
      try clear c1
      try clear p1
      try clear q1
      try clear hx1
      try clear p2
      try clear c6
      try clear c6b0
      try clear c7
      try clear c7b0
      try clear p10
      try clear q10
      try clear hx10
      try clear c12
      try clear hx108_0
      try clear hx108_1
      try clear hx108_2
      try clear hx108_3
      try clear p108
      try clear p2
      try clear q108
      obtain ⟨kq, x29_8, rfl, HA, HJ8, HO_5, BK101, HB⟩ := hcut
      cases kq with
      | zero => exact absurd HA.out (by simp [spec_l8Put.j1])
      | succ kj8 =>
       have H := HA.out
       clear HA
       simp only [spec_l8Put.j1] at H
       by_cases c13 : x29_8 = true
       ·subst c13
        have H1 : (if x5_1.length < 2932031007402 then ((some (x5_1 ++ [(⟨(⟨a1_0, a1_1, a1_2⟩ : S35), a1_3⟩ : S64)] : List (S64))).bind fun y110 => (if t109 = 0 then (spec_l8Put.l0 kj8 l0 y110 true (wrap64 (x7_1 + 1)) a1_0 a1_1 a1_2 a1_3) else (if 0 ≤ x7_1 then (if x7_1 < (l0.length : Int) then (if y110.length < 2932031007402 then (spec_l8Put.l0 kj8 l0 (y110 ++ [(⟨(⟨(qd l0 x7_1).f0.f0, (qd l0 x7_1).f0.f1, (qd l0 x7_1).f0.f2⟩ : S35), (qd l0 x7_1).f1⟩ : S64)]) true (wrap64 (x7_1 + 1)) a1_0 a1_1 a1_2 a1_3) else (none)) else (none)) else (none)))) else (none)) = some r := by rw [if_pos rfl] at H; exact H
        clear H
        have H := H1
        clear H1
        by_cases c14 : x5_1.length < 2932031007402
        ·rw [if_pos c14] at H
         have LMc14 := Qz.mk c14
         clear c14
         obtain ⟨y110, hy110⟩ : ∃ y_ : List (S64), y_ = (x5_1 ++ [(⟨(⟨a1_0, a1_1, a1_2⟩ : S35), a1_3⟩ : S64)]) := ⟨_, rfl⟩
         replace H : (if t109 = 0 then (spec_l8Put.l0 kj8 l0 y110 true (wrap64 (x7_1 + 1)) a1_0 a1_1 a1_2 a1_3) else (if 0 ≤ x7_1 then (if x7_1 < (l0.length : Int) then (if y110.length < 2932031007402 then (spec_l8Put.l0 kj8 l0 (y110 ++ [(⟨(⟨(qd l0 x7_1).f0.f0, (qd l0 x7_1).f0.f1, (qd l0 x7_1).f0.f2⟩ : S35), (qd l0 x7_1).f1⟩ : S64)]) true (wrap64 (x7_1 + 1)) a1_0 a1_1 a1_2 a1_3) else (none)) else (none)) else (none))) = some r := by first | (rw [hy110]; with_reducible exact H) | (have H2_ := (Option.bind_some _ _).symm.trans H; rw [hy110]; with_reducible exact H2_) | (have H2_ := (Option.bind_some _ _).symm.trans H; with_reducible exact H2_) | with_reducible exact H | (rw [hy110]; exact H) | exact H
         have Ny110 := Qz.mk hy110
         clear hy110
         by_cases c15 : t109 = 0
         ·rw [if_pos c15] at H
          have c15b0 : (t109 == 0) = true := beq_iff_eq.mpr c15
          have c15b1 : (t109 != 0) = false := bne_eq_false_iff_eq.mpr c15
          clear c15
          have H' := Qz.mk H
          clear H
          have hcz16_0 : wc.cell? ⟨gb101, 0, none⟩ = some (.string a1_0) := (qf BK101.out 0).trans rfl
          have hcz16_1 : wc.cell? ⟨gb101, 1, none⟩ = some (.int .i64 a1_1) := (qf BK101.out 1).trans rfl
          have hcz16_2 : wc.cell? ⟨gb101, 2, none⟩ = some (.int .i64 a1_2) := (qf BK101.out 2).trans rfl
          have hcz16_3 : wc.cell? ⟨gb101, 3, none⟩ = some (.string a1_3) := (qf BK101.out 3).trans rfl
          have hfz16_0 := qg BK101.out 0
          have hfz16_1 := qg BK101.out 1
          have hfz16_2 := qg BK101.out 2
          have hfz16_3 := qg BK101.out 3
          go_wp2_with (first | ((with_reducible refine gate_builtin (b := .append) (xs := #[.tmp 30, .tmp 32]) rfl ?_); at_builtin; refine Kd.R_append k64 (w0 := w) w.heap.size rfl (.tmp 30) (.tmp 32) 26 64 (.agg #[(.string ⟨#[]⟩), (.int .i64 0), (.int .i64 0), (.string ⟨#[]⟩)]) 48 rfl Try.underlying26 info64 rfl (by decide) (by omega) u5 x5_1 (⟨(⟨a1_0, a1_1, a1_2⟩ : S35), a1_3⟩ : S64) [.string a1_0, .int .i64 a1_1, .int .i64 a1_2, .string a1_3] (fun k_ => k_ ≠ gb101) (fun _ => False) rfl rfl ?aP (fun _ hk => hk.elim) ?aF ?aO ?aB ?aS ?aL ?_; (case aP => exact k64_mkM _ _ _ (⟨(⟨a1_0, a1_1, a1_2⟩ : S35), a1_3⟩ : S64)); (case aB => exact yq30); (case aF => exact (fun k_ hk => Kd.freshB (g := gb101) (o := .cells #[.string a1_0, .int .i64 a1_1, .int .i64 a1_2, .string a1_3] 64 (0, 0)) yq31 k_ hk)); (case aO => exact yq33); (case aS => exact (qu yq30)); (case aL => have := LMc14.out; omega); intro v111 w17 ho hb hg hat; rw [← Ny110.out] at ho; have n0_ := Qz.mk (blk_grown (g := gb101) (o := .cells #[.string a1_0, .int .i64 a1_1, .int .i64 a1_2, .string a1_3] 64 (0, 0)) yq31 hg (Kd.R_away HO_5.out (fun _ hk => hk))); have n1_ := Qz.mk (hb); have n2_ := Qz.mk (ho); clear BK101; clear HB; clear HO_5; have BK101 := n0_; have HB := n1_; have HO112 := n2_; clear n0_ n1_ n2_; clear ho hb hg hat))
          go_roundg kj8
          case measure => have := HK1.out; have := HJ8.out; omega
          case rel => exact ⟨(y110), (true), (wrap64 (x7_1 + 1)), yq32, yq32, H', ⟨by have := HK1.out; have := HJ8.out; omega⟩, ⟨by (with_reducible repeat (first | apply Kd.R_alloc | apply Kd.R_drewN | apply Kd.R_drew)); exact HO112.out⟩, ⟨by (with_reducible repeat (first | refine qh ?_ _ | refine qj ?_ | refine qi ?_ _)); exact BK101.out⟩, ⟨by repeat (first | (with_reducible first | exact HB.out | apply qc | apply qa | apply qb | refine qe ?_ GE101.out) | exact HB.out)⟩⟩
         ·rw [if_neg c15] at H
          have c15b0 : (t109 == 0) = false := beq_eq_false_iff_ne.mpr c15
          have c15b1 : (t109 != 0) = true := bne_iff_ne.mpr c15
          by_cases c18 : 0 ≤ x7_1
          ·rw [if_pos c18] at H
           have c18b0 : decide (0 ≤ x7_1) = true := decide_eq_true c18
           clear c18
           by_cases c19 : x7_1 < (l0.length : Int)
           ·rw [if_pos c19] at H
            have c19b0 : decide (x7_1 < (l0.length : Int)) = true := decide_eq_true c19
            clear c19
            by_cases c20 : y110.length < 2932031007402
            ·rw [if_pos c20] at H
             have LMc20 := Qz.mk c20
             clear c20
             obtain ⟨y114, hy114⟩ : ∃ y_ : List (S64), y_ = (y110 ++ [(⟨(⟨(qd l0 x7_1).f0.f0, (qd l0 x7_1).f0.f1, (qd l0 x7_1).f0.f2⟩ : S35), (qd l0 x7_1).f1⟩ : S64)]) := ⟨_, rfl⟩
             replace H : (spec_l8Put.l0 kj8 l0 y114 true (wrap64 (x7_1 + 1)) a1_0 a1_1 a1_2 a1_3) = some r := by first | (rw [hy114]; with_reducible exact H) | (have H2_ := (Option.bind_some _ _).symm.trans H; rw [hy114]; with_reducible exact H2_) | (have H2_ := (Option.bind_some _ _).symm.trans H; with_reducible exact H2_) | with_reducible exact H | (rw [hy114]; exact H) | exact H
             have Ny114 := Qz.mk hy114
             clear hy114
             have H' := Qz.mk H
             clear H
             have hcz21_0 : wc.cell? ⟨gb101, 0, none⟩ = some (.string a1_0) := (qf BK101.out 0).trans rfl
             have hcz21_1 : wc.cell? ⟨gb101, 1, none⟩ = some (.int .i64 a1_1) := (qf BK101.out 1).trans rfl
             have hcz21_2 : wc.cell? ⟨gb101, 2, none⟩ = some (.int .i64 a1_2) := (qf BK101.out 2).trans rfl
             have hcz21_3 : wc.cell? ⟨gb101, 3, none⟩ = some (.string a1_3) := (qf BK101.out 3).trans rfl
             have hfz21_0 := qg BK101.out 0
             have hfz21_1 := qg BK101.out 1
             have hfz21_2 := qg BK101.out 2
             have hfz21_3 := qg BK101.out 3
             go_wp2_with (first | ((with_reducible refine gate_builtin (b := .append) (xs := #[.tmp 30, .tmp 32]) rfl ?_); at_builtin; refine Kd.R_append k64 (w0 := w) w.heap.size rfl (.tmp 30) (.tmp 32) 26 64 (.agg #[(.string ⟨#[]⟩), (.int .i64 0), (.int .i64 0), (.string ⟨#[]⟩)]) 48 rfl Try.underlying26 info64 rfl (by decide) (by omega) u5 x5_1 (⟨(⟨a1_0, a1_1, a1_2⟩ : S35), a1_3⟩ : S64) [.string a1_0, .int .i64 a1_1, .int .i64 a1_2, .string a1_3] (fun k_ => k_ ≠ gb101) (fun _ => False) rfl rfl ?aP (fun _ hk => hk.elim) ?aF ?aO ?aB ?aS ?aL ?_; (case aP => exact k64_mkM _ _ _ (⟨(⟨a1_0, a1_1, a1_2⟩ : S35), a1_3⟩ : S64)); (case aB => exact yq30); (case aF => exact (fun k_ hk => Kd.freshB (g := gb101) (o := .cells #[.string a1_0, .int .i64 a1_1, .int .i64 a1_2, .string a1_3] 64 (0, 0)) yq31 k_ hk)); (case aO => exact yq33); (case aS => exact (qu yq30)); (case aL => have := LMc14.out; omega); intro v111 w22 ho hb hg hat; rw [← Ny110.out] at ho; have n0_ := Qz.mk (blk_grown (g := gb101) (o := .cells #[.string a1_0, .int .i64 a1_1, .int .i64 a1_2, .string a1_3] 64 (0, 0)) yq31 hg (Kd.R_away HO_5.out (fun _ hk => hk))); have n1_ := Qz.mk (hb); have n2_ := Qz.mk (ho); clear BK101; clear HB; clear HO_5; have BK101 := n0_; have HB := n1_; have HO112 := n2_; clear n0_ n1_ n2_; clear ho hb hg hat; have p113 : 0 ≤ (x7_1 : Int) := of_decide_eq_true yq34; have q113 : x7_1 < (l0.length : Int) := of_decide_eq_true yq34; obtain ⟨ad113, e113, hx113_0, hx113_1, hx113_2, hx113_3⟩ := at_T64 HR0.out x7_1 p113 q113; obtain rfl : ad108 = ad113 := (by injection e113); replace hx113_0 := (HB.out.cell (World.block_lt_of_cell? w _ hx113_0)).trans hx113_0; replace hx113_1 := (HB.out.cell (World.block_lt_of_cell? w _ hx113_1)).trans hx113_1; replace hx113_2 := (HB.out.cell (World.block_lt_of_cell? w _ hx113_2)).trans hx113_2; replace hx113_3 := (HB.out.cell (World.block_lt_of_cell? w _ hx113_3)).trans hx113_3; replace p113 := eq_true p113; replace q113 := eq_true q113) | ((with_reducible refine gate_builtin (b := .append) (xs := #[.tmp 36, .tmp 41]) rfl ?_); at_builtin; refine Kd.R_append k64 (w0 := w) w.heap.size rfl (.tmp 36) (.tmp 41) 26 64 (.agg #[(.string ⟨#[]⟩), (.int .i64 0), (.int .i64 0), (.string ⟨#[]⟩)]) 48 rfl Try.underlying26 info64 rfl (by decide) (by omega) v111 y110 (⟨(⟨(qd l0 x7_1).f0.f0, (qd l0 x7_1).f0.f1, (qd l0 x7_1).f0.f2⟩ : S35), (qd l0 x7_1).f1⟩ : S64) [.string ((qd l0 x7_1).f0.f0), .int .i64 ((qd l0 x7_1).f0.f1), .int .i64 ((qd l0 x7_1).f0.f2), .string ((qd l0 x7_1).f1)] (fun k_ => k_ ≠ gb101) (fun _ => False) rfl rfl ?aP (fun _ hk => hk.elim) ?aF ?aO ?aB ?aS ?aL ?_; (case aP => exact k64_mkM _ _ _ (⟨(⟨(qd l0 x7_1).f0.f0, (qd l0 x7_1).f0.f1, (qd l0 x7_1).f0.f2⟩ : S35), (qd l0 x7_1).f1⟩ : S64)); (case aB => exact yq30); (case aF => exact (fun k_ hk => Kd.freshB (g := gb101) (o := .cells #[.string a1_0, .int .i64 a1_1, .int .i64 a1_2, .string a1_3] 64 (0, 0)) yq31 k_ hk)); (case aO => exact (by (with_reducible repeat (first | apply Kd.R_alloc | apply Kd.R_drewN | apply Kd.R_drew)); exact HO112.out)); (case aS => exact (qu yq30)); (case aL => have := LMc20.out; omega); intro v115 w23 ho hb hg hat; rw [← Ny114.out] at ho; have n0_ := Qz.mk (blk_grown (g := gb101) (o := .cells #[.string a1_0, .int .i64 a1_1, .int .i64 a1_2, .string a1_3] 64 (0, 0)) yq31 hg (Kd.R_away HO112.out (fun _ hk => hk))); have n1_ := Qz.mk (hb); have n2_ := Qz.mk (ho); clear BK101; clear HB; clear HO112; have BK101 := n0_; have HB := n1_; have HO116 := n2_; clear n0_ n1_ n2_; clear ho hb hg hat))
             go_roundg kj8
             case measure => have := HK1.out; have := HJ8.out; omega
             case rel => exact ⟨(y114), (true), (wrap64 (x7_1 + 1)), yq32, yq32, H', ⟨by have := HK1.out; have := HJ8.out; omega⟩, ⟨by (with_reducible repeat (first | apply Kd.R_alloc | apply Kd.R_drewN | apply Kd.R_drew)); exact HO116.out⟩, ⟨by (with_reducible repeat (first | refine qh ?_ _ | refine qj ?_ | refine qi ?_ _)); exact BK101.out⟩, ⟨by repeat (first | (with_reducible first | exact HB.out | apply qc | apply qa | apply qb | refine qe ?_ GE101.out) | exact HB.out)⟩⟩
            ·rw [if_neg c20] at H
             exact absurd H (by simp)
           ·rw [if_neg c19] at H
            exact absurd H (by simp)
          ·rw [if_neg c18] at H
           exact absurd H (by simp)
        ·rw [if_neg c14] at H
         exact absurd H (by simp)
       ·replace c13 := Bool.eq_false_iff.mpr c13
        subst c13
        have H1 : (if t109 = 0 then (spec_l8Put.l0 kj8 l0 x5_1 x6_1 (wrap64 (x7_1 + 1)) a1_0 a1_1 a1_2 a1_3) else (if 0 ≤ x7_1 then (if x7_1 < (l0.length : Int) then (if x5_1.length < 2932031007402 then (spec_l8Put.l0 kj8 l0 (x5_1 ++ [(⟨(⟨(qd l0 x7_1).f0.f0, (qd l0 x7_1).f0.f1, (qd l0 x7_1).f0.f2⟩ : S35), (qd l0 x7_1).f1⟩ : S64)]) x6_1 (wrap64 (x7_1 + 1)) a1_0 a1_1 a1_2 a1_3) else (none)) else (none)) else (none))) = some r := by rw [if_neg (show ¬ (false = true) by decide)] at H; exact H
        clear H
        have H := H1
        clear H1
        by_cases c24 : t109 = 0
        ·rw [if_pos c24] at H
         have c24b0 : (t109 == 0) = true := beq_iff_eq.mpr c24
         have c24b1 : (t109 != 0) = false := bne_eq_false_iff_eq.mpr c24
         clear c24
         have H' := Qz.mk H
         clear H
         go_wp2
         go_roundg kj8
         case measure => have := HK1.out; have := HJ8.out; omega
         case rel => exact ⟨(x5_1), (x6_1), (wrap64 (x7_1 + 1)), yq32, yq32, H', ⟨by have := HK1.out; have := HJ8.out; omega⟩, ⟨by (with_reducible repeat (first | apply Kd.R_alloc | apply Kd.R_drewN | apply Kd.R_drew)); exact HO_5.out⟩, ⟨by (with_reducible repeat (first | refine qh ?_ _ | refine qj ?_ | refine qi ?_ _)); exact BK101.out⟩, ⟨by repeat (first | (with_reducible first | exact HB.out | apply qc | apply qa | apply qb | refine qe ?_ GE101.out) | exact HB.out)⟩⟩
        ·rw [if_neg c24] at H
         have c24b0 : (t109 == 0) = false := beq_eq_false_iff_ne.mpr c24
         have c24b1 : (t109 != 0) = true := bne_iff_ne.mpr c24
         by_cases c25 : 0 ≤ x7_1
         ·rw [if_pos c25] at H
          have c25b0 : decide (0 ≤ x7_1) = true := decide_eq_true c25
          clear c25
          by_cases c26 : x7_1 < (l0.length : Int)
          ·rw [if_pos c26] at H
           have c26b0 : decide (x7_1 < (l0.length : Int)) = true := decide_eq_true c26
           clear c26
           by_cases c27 : x5_1.length < 2932031007402
           ·rw [if_pos c27] at H
            have LMc27 := Qz.mk c27
            clear c27
            obtain ⟨y118, hy118⟩ : ∃ y_ : List (S64), y_ = (x5_1 ++ [(⟨(⟨(qd l0 x7_1).f0.f0, (qd l0 x7_1).f0.f1, (qd l0 x7_1).f0.f2⟩ : S35), (qd l0 x7_1).f1⟩ : S64)]) := ⟨_, rfl⟩
            replace H : (spec_l8Put.l0 kj8 l0 y118 x6_1 (wrap64 (x7_1 + 1)) a1_0 a1_1 a1_2 a1_3) = some r := by first | (rw [hy118]; with_reducible exact H) | (have H2_ := (Option.bind_some _ _).symm.trans H; rw [hy118]; with_reducible exact H2_) | (have H2_ := (Option.bind_some _ _).symm.trans H; with_reducible exact H2_) | with_reducible exact H | (rw [hy118]; exact H) | exact H
            have Ny118 := Qz.mk hy118
            clear hy118
            have H' := Qz.mk H
            clear H
            have p117 : 0 ≤ (x7_1 : Int) := of_decide_eq_true yq34
            have q117 : x7_1 < (l0.length : Int) := of_decide_eq_true yq34
            obtain ⟨ad117, e117, hx117_0, hx117_1, hx117_2, hx117_3⟩ := at_T64 HR0.out x7_1 p117 q117
            obtain rfl : ad108 = ad117 := (by injection e117)
            replace hx117_0 := (HB.out.cell (World.block_lt_of_cell? w _ hx117_0)).trans hx117_0
            replace hx117_1 := (HB.out.cell (World.block_lt_of_cell? w _ hx117_1)).trans hx117_1
            replace hx117_2 := (HB.out.cell (World.block_lt_of_cell? w _ hx117_2)).trans hx117_2
            replace hx117_3 := (HB.out.cell (World.block_lt_of_cell? w _ hx117_3)).trans hx117_3
            replace p117 := eq_true p117
            replace q117 := eq_true q117
            go_wp2_with (first | ((with_reducible refine gate_builtin (b := .append) (xs := #[.tmp 36, .tmp 41]) rfl ?_); at_builtin; refine Kd.R_append k64 (w0 := w) w.heap.size rfl (.tmp 36) (.tmp 41) 26 64 (.agg #[(.string ⟨#[]⟩), (.int .i64 0), (.int .i64 0), (.string ⟨#[]⟩)]) 48 rfl Try.underlying26 info64 rfl (by decide) (by omega) u5 x5_1 (⟨(⟨(qd l0 x7_1).f0.f0, (qd l0 x7_1).f0.f1, (qd l0 x7_1).f0.f2⟩ : S35), (qd l0 x7_1).f1⟩ : S64) [.string ((qd l0 x7_1).f0.f0), .int .i64 ((qd l0 x7_1).f0.f1), .int .i64 ((qd l0 x7_1).f0.f2), .string ((qd l0 x7_1).f1)] (fun k_ => k_ ≠ gb101) (fun _ => False) rfl rfl ?aP (fun _ hk => hk.elim) ?aF ?aO ?aB ?aS ?aL ?_; (case aP => exact k64_mkM _ _ _ (⟨(⟨(qd l0 x7_1).f0.f0, (qd l0 x7_1).f0.f1, (qd l0 x7_1).f0.f2⟩ : S35), (qd l0 x7_1).f1⟩ : S64)); (case aB => exact yq30); (case aF => exact (fun k_ hk => Kd.freshB (g := gb101) (o := .cells #[.string a1_0, .int .i64 a1_1, .int .i64 a1_2, .string a1_3] 64 (0, 0)) yq31 k_ hk)); (case aO => exact yq33); (case aS => exact (qu yq30)); (case aL => have := LMc27.out; omega); intro v119 w28 ho hb hg hat; rw [← Ny118.out] at ho; have n0_ := Qz.mk (blk_grown (g := gb101) (o := .cells #[.string a1_0, .int .i64 a1_1, .int .i64 a1_2, .string a1_3] 64 (0, 0)) yq31 hg (Kd.R_away HO_5.out (fun _ hk => hk))); have n1_ := Qz.mk (hb); have n2_ := Qz.mk (ho); clear BK101; clear HB; clear HO_5; have BK101 := n0_; have HB := n1_; have HO120 := n2_; clear n0_ n1_ n2_; clear ho hb hg hat))
            go_roundg kj8
            case measure => have := HK1.out; have := HJ8.out; omega
            case rel => exact ⟨(y118), (x6_1), (wrap64 (x7_1 + 1)), yq32, yq32, H', ⟨by have := HK1.out; have := HJ8.out; omega⟩, ⟨by (with_reducible repeat (first | apply Kd.R_alloc | apply Kd.R_drewN | apply Kd.R_drew)); exact HO120.out⟩, ⟨by (with_reducible repeat (first | refine qh ?_ _ | refine qj ?_ | refine qi ?_ _)); exact BK101.out⟩, ⟨by repeat (first | (with_reducible first | exact HB.out | apply qc | apply qa | apply qb | refine qe ?_ GE101.out) | exact HB.out)⟩⟩
           ·rw [if_neg c27] at H
            exact absurd H (by simp)
          ·rw [if_neg c26] at H
           exact absurd H (by simp)
         ·rw [if_neg c25] at H
          exact absurd H (by simp)
    ·rw [if_neg c7] at H
     exact absurd H (by simp)
   ·rw [if_neg c6] at H
    have c6b0 : decide (x7_1 < (l0.length : Int)) = false := decide_eq_false c6
    clear c6
    by_cases c29 : x6_1 = true
    ·subst c29
     have H1 : (some x5_1) = some r := by rw [if_pos rfl] at H; exact H
     clear H
     have H := H1
     clear H1
     obtain rfl := Option.some.inj H
     go_wp2
     go_ret
     exact ⟨_, by first | rfl | (simp [qq, qo] <;> rfl) | (simp [*, qq, qo] <;> rfl), by (with_reducible repeat (first | apply Kd.R_alloc | apply Kd.R_drewN | apply Kd.R_drew)); exact Kd.R_mono HO_5.out (fun _ hk => trivial), by repeat (first | (with_reducible first | exact HB.out | apply qc | apply qa | apply qb | refine qe ?_ GE101.out) | exact HB.out)⟩
    ·replace c29 := Bool.eq_false_iff.mpr c29
     subst c29
     have H1 : (if x5_1.length < 2932031007402 then (some (x5_1 ++ [(⟨(⟨a1_0, a1_1, a1_2⟩ : S35), a1_3⟩ : S64)])) else (none)) = some r := by rw [if_neg (show ¬ (false = true) by decide)] at H; exact H
     clear H
     have H := H1
     clear H1
     by_cases c30 : x5_1.length < 2932031007402
     ·rw [if_pos c30] at H
      have LMc30 := Qz.mk c30
      clear c30
      obtain ⟨y105, hy105⟩ : ∃ y_ : List (S64), y_ = (x5_1 ++ [(⟨(⟨a1_0, a1_1, a1_2⟩ : S35), a1_3⟩ : S64)]) := ⟨_, rfl⟩
      replace H : (some y105) = some r := by first | (rw [hy105]; with_reducible exact H) | (have H2_ := (Option.bind_some _ _).symm.trans H; rw [hy105]; with_reducible exact H2_) | (have H2_ := (Option.bind_some _ _).symm.trans H; with_reducible exact H2_) | with_reducible exact H | (rw [hy105]; exact H) | exact H
      have Ny105 := Qz.mk hy105
      clear hy105
      obtain rfl := Option.some.inj H
      have hcz31_0 : wr.cell? ⟨gb101, 0, none⟩ = some (.string a1_0) := (qf BK101.out 0).trans rfl
      have hcz31_1 : wr.cell? ⟨gb101, 1, none⟩ = some (.int .i64 a1_1) := (qf BK101.out 1).trans rfl
      have hcz31_2 : wr.cell? ⟨gb101, 2, none⟩ = some (.int .i64 a1_2) := (qf BK101.out 2).trans rfl
      have hcz31_3 : wr.cell? ⟨gb101, 3, none⟩ = some (.string a1_3) := (qf BK101.out 3).trans rfl
      have hfz31_0 := qg BK101.out 0
      have hfz31_1 := qg BK101.out 1
      have hfz31_2 := qg BK101.out 2
      have hfz31_3 := qg BK101.out 3
      go_wp2_with (first | ((with_reducible refine gate_builtin (b := .append) (xs := #[.tmp 45, .tmp 47]) rfl ?_); at_builtin; refine Kd.R_append k64 (w0 := w) w.heap.size rfl (.tmp 45) (.tmp 47) 26 64 (.agg #[(.string ⟨#[]⟩), (.int .i64 0), (.int .i64 0), (.string ⟨#[]⟩)]) 48 rfl Try.underlying26 info64 rfl (by decide) (by omega) u5 x5_1 (⟨(⟨a1_0, a1_1, a1_2⟩ : S35), a1_3⟩ : S64) [.string a1_0, .int .i64 a1_1, .int .i64 a1_2, .string a1_3] (fun k_ => k_ ≠ gb101) (fun _ => False) rfl rfl ?aP (fun _ hk => hk.elim) ?aF ?aO ?aB ?aS ?aL ?_; (case aP => exact k64_mkM _ _ _ (⟨(⟨a1_0, a1_1, a1_2⟩ : S35), a1_3⟩ : S64)); (case aB => exact yq30); (case aF => exact (fun k_ hk => Kd.freshB (g := gb101) (o := .cells #[.string a1_0, .int .i64 a1_1, .int .i64 a1_2, .string a1_3] 64 (0, 0)) yq31 k_ hk)); (case aO => exact yq33); (case aS => exact (qu yq30)); (case aL => have := LMc30.out; omega); intro v106 w32 ho hb hg hat; rw [← Ny105.out] at ho; have n0_ := Qz.mk (blk_grown (g := gb101) (o := .cells #[.string a1_0, .int .i64 a1_1, .int .i64 a1_2, .string a1_3] 64 (0, 0)) yq31 hg (Kd.R_away HO_5.out (fun _ hk => hk))); have n1_ := Qz.mk (hb); have n2_ := Qz.mk (ho); clear BK101; clear HB; clear HO_5; have BK101 := n0_; have HB := n1_; have HO107 := n2_; clear n0_ n1_ n2_; clear ho hb hg hat))
      go_ret
      exact ⟨_, by first | rfl | (simp [qq, qo] <;> rfl) | (simp [*, qq, qo] <;> rfl), by (with_reducible repeat (first | apply Kd.R_alloc | apply Kd.R_drewN | apply Kd.R_drew)); exact Kd.R_mono HO107.out (fun _ hk => trivial), by repeat (first | (with_reducible first | exact HB.out | apply qc | apply qa | apply qb | refine qe ?_ GE101.out) | exact HB.out)⟩
     ·rw [if_neg c30] at H
      exact absurd H (by simp)
theorem yq35 {P : Prop} (h : P := by first | (with_reducible assumption) | assumption) : P := h
theorem yq36 {P : Prop} (h : P := by repeat (first | (with_reducible first | exact HB.out | apply qc | apply qa | apply qb) | exact HB.out)) : P := h
mutual
def spec_l13Merge.l0 : Nat → List (S62) → List (S64) → Int → Option ((List (S64)))
 | 0, _, _, _ => none
 | k + 1, x0, x3, x4 => if x4 ≥ 0 then (spec_l13Merge.l1 k x0 x3 x4 0) else (some x3)
def spec_l13Merge.l1 : Nat → List (S62) → List (S64) → Int → Int → Option ((List (S64)))
 | 0, _, _, _, _ => none
 | k + 1, x0, x3, x4, x5 => if 0 ≤ x4 then (if x4 < (x0.length : Int) then (if x5 < (((qv x0 x4).f0).length : Int) then (if 0 ≤ x5 then ((spec_l8Put.f k x3 ((qd ((qv x0 x4).f0) x5).f0.f0) ((qd ((qv x0 x4).f0) x5).f0.f1) ((qd ((qv x0 x4).f0) x5).f0.f2) ((qd ((qv x0 x4).f0) x5).f1)).bind fun t107 => (spec_l13Merge.l1 k x0 t107 x4 (wrap64 (x5 + 1)))) else (none)) else (spec_l13Merge.l0 k x0 x3 (wrap64 (x4 - 1)))) else (none)) else (none)
end
def spec_l13Merge.f (k : Nat) (l0 : List (S62)) : Option ((List (S64))) := spec_l13Merge.l0 k l0 (([] : List (S64))) (wrap64 ((l0.length : Int) - 1))
set_option maxHeartbeats 8000000 in
set_option maxRecDepth 100000 in
theorem spec_l13Merge.calls (k : Nat) (A0 : Option Addr) (c0 : Nat) (l0 : List (S62)) (r : List (S64)) (w : World) (hr0 : Kd.C k62 w A0 l0.length l0) (hc0 : l0.length ≤ c0) (h : spec_l13Merge.f k l0 = some r) :
  Calls Try.prog 100 #[.slice A0 l0.length c0] w fun e w' => ∃ v0_ : Value, e = .returned (v0_) ∧ Kd.R k64 64 w' w.heap.size (fun _ => True) v0_ r ∧ Below w.heap.size w w' := by
 have hu64 := Try.underlying64
 have HR0 := Qz.mk hr0
 have HC0 := Qz.mk hc0
 clear hr0 hc0
 have HB := Qz.mk (Below.refl w.heap.size w)
 have H : (spec_l13Merge.l0 k l0 (([] : List (S64))) (wrap64 ((l0.length : Int) - 1))) = some r := h
 clear h
 obtain ⟨y101, hy101⟩ : ∃ y_ : List (S64), y_ = (([] : List (S64))) := ⟨_, rfl⟩
 replace H : (spec_l13Merge.l0 k l0 y101 (wrap64 ((l0.length : Int) - 1))) = some r := by first | (rw [hy101]; with_reducible exact H) | (have H2_ := (Option.bind_some _ _).symm.trans H; rw [hy101]; with_reducible exact H2_) | (have H2_ := (Option.bind_some _ _).symm.trans H; with_reducible exact H2_) | with_reducible exact H | (rw [hy101]; exact H) | exact H
 have Ny101 := Qz.mk hy101
 clear hy101
 have H' := Qz.mk H
 clear H
 go_enter Try.func100, Try.ntmps100
 go_wp2_with (first | ((with_reducible refine qz (N := 6) rfl ?_); refine Kd.R_lit k64 _ 64 ?hg (N := 6) ?hd (xs := ([] : List (S64))) (inner := []) (ok := fun _ => True) (okp := fun _ => True) ?hr ?hp (fun _ hk => hk) trivial (Below.refl _ _) (Nat.le_refl _) (by simp) ?_; (case hd => rfl); (case hg => rfl); (case hr => first | (go_simp; done) | (go_simp; rfl)); (case hp => exact (Reps.none _ _)); intro v102 w2 ho3 hb hg_ hnew_; clear hg_ hnew_; (first | rw [← Ny101.out] at ho3 | (simp only [Int.reduceToNat] at ho3; rw [← Ny101.out] at ho3)); have HO103 := Qz.mk (Kd.R_lower ho3 (qu yq36)); replace HB := Qz.mk (qm yq36 hb); clear hb ho3))
 go_loopg [3, 4] k (fun kq v3 v4 w' => ∃ (x3_1 : List (S64)) (x4_1 : Int), v4 = .int .i64 x4_1 ∧ Qz (spec_l13Merge.l0 kq l0 x3_1 x4_1 = some r) ∧ Qz (kq ≤ k) ∧ Qz (Kd.R k64 64 w' w.heap.size (fun _ => True) v3 x3_1) ∧ Qz (Below w.heap.size w w'))
 case atStart => exact ⟨(y101), (wrap64 ((l0.length : Int) - 1)), (by first | rfl | (simp; done) | (simp [*]; done)), H', ⟨Nat.le_refl _⟩, ⟨by (with_reducible repeat (first | apply Kd.R_alloc | apply Kd.R_drewN | apply Kd.R_drew)); exact HO103.out⟩, ⟨by repeat (first | (with_reducible first | exact HB.out | apply qc | apply qa | apply qb) | exact HB.out)⟩⟩
 case round =>
  clear H'
  try clear c1
  try clear p2
  obtain ⟨x3_1, x4_1, rfl, HA, HK1, HO_3, HB⟩ := hrel
  cases gk with
  | zero => exact absurd HA.out (by simp [spec_l13Merge.l0])
  | succ k1 =>
   have H := HA.out
   clear HA
   simp only [spec_l13Merge.l0] at H
   by_cases c4 : x4_1 ≥ 0
   ·rw [if_pos c4] at H
    have c4b0 : decide (0 ≤ x4_1) = true := decide_eq_true c4
    clear c4
    have H' := Qz.mk H
    clear H
    go_wp2
    go_loopg [3, 5] k1 (fun kq v3 v5 w' => ∃ (x3_2 : List (S64)) (x5_2 : Int), v5 = .int .i64 x5_2 ∧ Qz (spec_l13Merge.l1 kq l0 x3_2 x4_1 x5_2 = some r) ∧ Qz (kq ≤ k1) ∧ Qz (Kd.R k64 64 w' w.heap.size (fun _ => True) v3 x3_2) ∧ Qz (Below w.heap.size w w'))
    case atStart => exact ⟨(x3_1), (0), (by first | rfl | (simp; done) | (simp [*]; done)), H', ⟨Nat.le_refl _⟩, ⟨by (with_reducible repeat (first | apply Kd.R_alloc | apply Kd.R_drewN | apply Kd.R_drew)); exact HO_3.out⟩, ⟨by repeat (first | (with_reducible first | exact HB.out | apply qc | apply qa | apply qb) | exact HB.out)⟩⟩
    case round =>
     clear H'
     try clear c1
     try clear p2
     try clear c4
     try clear c4b0
     try clear p2
     obtain ⟨x3_2, x5_2, rfl, HA, HK2, HO_3, HB⟩ := hrel
     cases gk with
     | zero => exact absurd HA.out (by simp [spec_l13Merge.l1])
     | succ k2 =>
      have H := HA.out
      clear HA
      simp only [spec_l13Merge.l1] at H
      by_cases c5 : 0 ≤ x4_1
      ·rw [if_pos c5] at H
       have c5b0 : decide (0 ≤ x4_1) = true := decide_eq_true c5
       clear c5
       by_cases c6 : x4_1 < (l0.length : Int)
       ·rw [if_pos c6] at H
        have c6b0 : decide (x4_1 < (l0.length : Int)) = true := decide_eq_true c6
        clear c6
        by_cases c7 : x5_2 < (((qv l0 x4_1).f0).length : Int)
        ·rw [if_pos c7] at H
         have c7b0 : decide (x5_2 < (((qv l0 x4_1).f0).length : Int)) = true := decide_eq_true c7
         clear c7
         by_cases c8 : 0 ≤ x5_2
         ·rw [if_pos c8] at H
          have c8b0 : decide (0 ≤ x5_2) = true := decide_eq_true c8
          clear c8
          replace H := Option.bind_eq_some_iff.mp H
          obtain ⟨t107, A90, H⟩ := H
          replace H : (spec_l13Merge.l1 k2 l0 t107 x4_1 (wrap64 (x5_2 + 1))) = some r := H
          have A9 := Qz.mk A90
          clear A90
          have H' := Qz.mk H
          clear H
          have p104 : 0 ≤ (x4_1 : Int) := of_decide_eq_true yq35
          have q104 : x4_1 < (l0.length : Int) := of_decide_eq_true yq35
          obtain ⟨ad104, A104_0, c104_0, e104, hx104_0, hl104_0, hi104_0⟩ := at_T62 HR0.out x4_1 p104 q104
          cases e104
          replace hx104_0 := (HB.out.cell (World.block_lt_of_cell? w _ hx104_0)).trans hx104_0
          have HR104_0 := Qz.mk hi104_0
          have HC104_0 := Qz.mk hl104_0
          clear hi104_0 hl104_0
          replace p104 := eq_true p104
          replace q104 := eq_true q104
          have p105 : 0 ≤ (x4_1 : Int) := of_decide_eq_true yq35
          have q105 : x4_1 < (l0.length : Int) := of_decide_eq_true yq35
          obtain ⟨ad105, A105_0, c105_0, e105, hx105_0, hl105_0, hi105_0⟩ := at_T62 HR0.out x4_1 p105 q105
          obtain rfl : ad104 = ad105 := (by injection e105)
          replace hx105_0 := (HB.out.cell (World.block_lt_of_cell? w _ hx105_0)).trans hx105_0
          have HR105_0 := Qz.mk hi105_0
          have HC105_0 := Qz.mk hl105_0
          clear hi105_0 hl105_0
          replace p105 := eq_true p105
          replace q105 := eq_true q105
          have ea_ := Option.some.inj (hx104_0.symm.trans hx105_0)
          injection ea_ with ea_ en_ ec_
          subst ea_
          subst ec_
          clear en_
          have p106 : 0 ≤ (x5_2 : Int) := of_decide_eq_true yq35
          have q106 : x5_2 < (((qv l0 x4_1).f0).length : Int) := of_decide_eq_true yq35
          obtain ⟨ad106, e106, hx106_0, hx106_1, hx106_2, hx106_3⟩ := at_T64 HR105_0.out x5_2 p106 q106
          cases e106
          replace hx106_0 := (HB.out.cell (World.block_lt_of_cell? w _ hx106_0)).trans hx106_0
          replace hx106_1 := (HB.out.cell (World.block_lt_of_cell? w _ hx106_1)).trans hx106_1
          replace hx106_2 := (HB.out.cell (World.block_lt_of_cell? w _ hx106_2)).trans hx106_2
          replace hx106_3 := (HB.out.cell (World.block_lt_of_cell? w _ hx106_3)).trans hx106_3
          replace p106 := eq_true p106
          replace q106 := eq_true q106
          obtain ⟨Ao10, co10, eo10⟩ := Kd.R_slice HO_3.out
          subst eo10
          go_wp2_with (first | ((with_reducible refine qr (f := 159) rfl ?_); refine qe1 (some 33) rfl rfl Try.func159 (by kernel_rfl) rfl #[.slice Ao10 x3_2.length co10, .agg #[.string ((qd ((qv l0 x4_1).f0) x5_2).f0.f0), .int .i64 ((qd ((qv l0 x4_1).f0) x5_2).f0.f1), .int .i64 ((qd ((qv l0 x4_1).f0) x5_2).f0.f2), .string ((qd ((qv l0 x4_1).f0) x5_2).f1)]] rfl (by (try simp only [List.map_toArray, List.map_cons, List.map_nil]); first | done | rfl | (simp only [List.length_drop, List.length_take]; rfl) | (rw [IntWalk.u64_in _ (by omega)] <;> rfl)) ?_; (with_reducible refine (spec_l8Put.calls k2 _ _ x3_2 ((qd ((qv l0 x4_1).f0) x5_2).f0.f0) ((qd ((qv l0 x4_1).f0) x5_2).f0.f1) ((qd ((qv l0 x4_1).f0) x5_2).f0.f2) ((qd ((qv l0 x4_1).f0) x5_2).f1) t107 _ ?side1 ?side2 A9.out).mono ?_); (case side1 => repeat (first | exact (Kd.R_reads' HO_3.out).2.2 | (with_reducible refine Kd.C_alloc ?_ _) | (with_reducible refine Kd.C_drewN ?_ _) | (with_reducible refine Kd.C_drew ?_))); (case side2 => exact (Kd.R_reads' HO_3.out).2.1); rintro e w11 ⟨v108, rfl, ho0, hb⟩; refine ⟨_, rfl, ?_⟩; have HO109 := Qz.mk (Kd.R_lower (Kd.R_new' ho0 (Kd.R_lt (by (with_reducible repeat (first | apply Kd.R_alloc | apply Kd.R_drewN | apply Kd.R_drew)); exact HO_3.out))) (qu yq36)); replace HO_3 := Qz.mk (Kd.R_elder' (by (with_reducible repeat (first | apply Kd.R_alloc | apply Kd.R_drewN | apply Kd.R_drew)); exact HO_3.out) (Kd.R_base ho0) hb); replace HB := Qz.mk (qm yq36 hb); (try clear hb); (try clear hk); (try clear ho0)))
          go_roundg k2
          case measure => have := HK1.out; have := HK2.out; omega
          case rel => exact ⟨(t107), (wrap64 (x5_2 + 1)), (by first | rfl | (simp; done) | (simp [*]; done)), H', ⟨by have := HK1.out; have := HK2.out; omega⟩, ⟨by (with_reducible repeat (first | apply Kd.R_alloc | apply Kd.R_drewN | apply Kd.R_drew)); exact Kd.R_mono HO109.out (fun _ hk => trivial)⟩, ⟨by repeat (first | (with_reducible first | exact HB.out | apply qc | apply qa | apply qb) | exact HB.out)⟩⟩
         ·rw [if_neg c8] at H
          exact absurd H (by simp)
        ·rw [if_neg c7] at H
         have c7b0 : decide (x5_2 < (((qv l0 x4_1).f0).length : Int)) = false := decide_eq_false c7
         clear c7
         have H' := Qz.mk H
         clear H
         have p104 : 0 ≤ (x4_1 : Int) := of_decide_eq_true yq35
         have q104 : x4_1 < (l0.length : Int) := of_decide_eq_true yq35
         obtain ⟨ad104, A104_0, c104_0, e104, hx104_0, hl104_0, hi104_0⟩ := at_T62 HR0.out x4_1 p104 q104
         cases e104
         replace hx104_0 := (HB.out.cell (World.block_lt_of_cell? w _ hx104_0)).trans hx104_0
         have HR104_0 := Qz.mk hi104_0
         have HC104_0 := Qz.mk hl104_0
         clear hi104_0 hl104_0
         replace p104 := eq_true p104
         replace q104 := eq_true q104
         go_wp2
         go_roundg k2
         case measure => have := HK1.out; have := HK2.out; omega
         case rel => exact ⟨(x3_2), (wrap64 (x4_1 - 1)), (by first | rfl | (simp; done) | (simp [*]; done)), H', ⟨by have := HK1.out; have := HK2.out; omega⟩, ⟨by (with_reducible repeat (first | apply Kd.R_alloc | apply Kd.R_drewN | apply Kd.R_drew)); exact HO_3.out⟩, ⟨by repeat (first | (with_reducible first | exact HB.out | apply qc | apply qa | apply qb) | exact HB.out)⟩⟩
       ·rw [if_neg c6] at H
        exact absurd H (by simp)
      ·rw [if_neg c5] at H
       exact absurd H (by simp)
   ·rw [if_neg c4] at H
    have c4b0 : decide (0 ≤ x4_1) = false := decide_eq_false c4
    clear c4
    obtain rfl := Option.some.inj H
    go_wp2
    go_ret
    exact ⟨_, by first | rfl | (simp [qq, qo] <;> rfl) | (simp [*, qq, qo] <;> rfl), by (with_reducible repeat (first | apply Kd.R_alloc | apply Kd.R_drewN | apply Kd.R_drew)); exact HO_3.out, by repeat (first | (with_reducible first | exact HB.out | apply qc | apply qa | apply qb) | exact HB.out)⟩
theorem yq37 {P : Prop} (h : P := by first | (with_reducible assumption) | assumption) : P := h
def spec_RunsOk.l0 : Nat → List (S62) → Int → Int → Option (Bool)
 | 0, _, _, _ => none
 | k + 1, x0, x3, x4 => if x4 < (x0.length : Int) then (if 0 ≤ x4 then ((spec_EntriesOk.f k ((qv x0 x4).f0)).bind fun t102 => (if t102 = true then (spec_RunsOk.l0 k x0 (wrap64 (x3 + (((qv x0 x4).f0).length : Int))) (wrap64 (x4 + 1))) else (some false))) else (none)) else (some (decide (x3 ≤ 400)))
def spec_RunsOk.f (k : Nat) (l0 : List (S62)) : Option (Bool) := if (l0.length : Int) > 20 then (some false) else (spec_RunsOk.l0 k l0 0 0)
set_option maxHeartbeats 8000000 in
set_option maxRecDepth 100000 in
theorem spec_RunsOk.calls (k : Nat) (A0 : Option Addr) (c0 : Nat) (l0 : List (S62)) (r : Bool) (w : World) (hr0 : Kd.C k62 w A0 l0.length l0) (hc0 : l0.length ≤ c0) (h : spec_RunsOk.f k l0 = some r) :
  Calls Try.prog 99 #[.slice A0 l0.length c0] w fun e w' => e = .returned (.bool r) ∧ Below w.heap.size w w' := by
 have HR0 := Qz.mk hr0
 have HC0 := Qz.mk hc0
 clear hr0 hc0
 have HB := Qz.mk (Below.refl w.heap.size w)
 have H : (if (l0.length : Int) > 20 then (some false) else (spec_RunsOk.l0 k l0 0 0)) = some r := h
 clear h
 by_cases c2 : (l0.length : Int) > 20
 ·rw [if_pos c2] at H
  have c2b0 : decide (20 < (l0.length : Int)) = true := decide_eq_true c2
  have c2b1 : decide (20 < l0.length) = true := decide_eq_true (by omega)
  clear c2
  obtain rfl := Option.some.inj H
  go_enter Try.func99, Try.ntmps99
  go_wp2
  go_ret
  exact ⟨by first | rfl | (simp [qq, qo] <;> rfl) | (simp [*, qq, qo] <;> rfl), by repeat (first | (with_reducible first | exact HB.out | apply qc | apply qa | apply qb) | exact HB.out)⟩
 ·rw [if_neg c2] at H
  have c2b0 : decide (20 < (l0.length : Int)) = false := decide_eq_false c2
  have c2b1 : decide (20 < l0.length) = false := decide_eq_false (by omega)
  clear c2
  have H' := Qz.mk H
  clear H
  go_enter Try.func99, Try.ntmps99
  go_wp2
  go_loopg [3, 4] k (fun kq v3 v4 w' => ∃ (x3_1 : Int) (x4_1 : Int), v3 = .int .i64 x3_1 ∧ v4 = .int .i64 x4_1 ∧ Qz (spec_RunsOk.l0 kq l0 x3_1 x4_1 = some r) ∧ Qz (kq ≤ k) ∧ Qz (Below w.heap.size w w'))
  case atStart => exact ⟨(0), (0), (by first | rfl | (simp; done) | (simp [*]; done)), (by first | rfl | (simp; done) | (simp [*]; done)), H', ⟨Nat.le_refl _⟩, ⟨by repeat (first | (with_reducible first | exact HB.out | apply qc | apply qa | apply qb) | exact HB.out)⟩⟩
  case round =>
   clear H'
   try clear c2
   try clear c2b0
   try clear c2b1
   try clear p2
   obtain ⟨x3_1, x4_1, rfl, rfl, HA, HK1, HB⟩ := hrel
   cases gk with
   | zero => exact absurd HA.out (by simp [spec_RunsOk.l0])
   | succ k1 =>
    have H := HA.out
    clear HA
    simp only [spec_RunsOk.l0] at H
    by_cases c3 : x4_1 < (l0.length : Int)
    ·rw [if_pos c3] at H
     have c3b0 : decide (x4_1 < (l0.length : Int)) = true := decide_eq_true c3
     clear c3
     by_cases c4 : 0 ≤ x4_1
     ·rw [if_pos c4] at H
      have c4b0 : decide (0 ≤ x4_1) = true := decide_eq_true c4
      clear c4
      replace H := Option.bind_eq_some_iff.mp H
      obtain ⟨t102, A50, H⟩ := H
      replace H : (if t102 = true then (spec_RunsOk.l0 k1 l0 (wrap64 (x3_1 + (((qv l0 x4_1).f0).length : Int))) (wrap64 (x4_1 + 1))) else (some false)) = some r := H
      have A5 := Qz.mk A50
      clear A50
      by_cases c6 : t102 = true
      ·subst c6
       have H1 : (spec_RunsOk.l0 k1 l0 (wrap64 (x3_1 + (((qv l0 x4_1).f0).length : Int))) (wrap64 (x4_1 + 1))) = some r := by rw [if_pos rfl] at H; exact H
       clear H
       have H := H1
       clear H1
       have H' := Qz.mk H
       clear H
       have p101 : 0 ≤ (x4_1 : Int) := of_decide_eq_true yq37
       have q101 : x4_1 < (l0.length : Int) := of_decide_eq_true yq37
       obtain ⟨ad101, A101_0, c101_0, e101, hx101_0, hl101_0, hi101_0⟩ := at_T62 HR0.out x4_1 p101 q101
       cases e101
       replace hx101_0 := (HB.out.cell (World.block_lt_of_cell? w _ hx101_0)).trans hx101_0
       have HR101_0 := Qz.mk hi101_0
       have HC101_0 := Qz.mk hl101_0
       clear hi101_0 hl101_0
       replace p101 := eq_true p101
       replace q101 := eq_true q101
       go_wp2_with (first | ((with_reducible refine qr (f := 68) rfl ?_); refine qe1 (some 19) rfl rfl Try.func68 (by kernel_rfl) rfl #[.slice A101_0 ((qv l0 x4_1).f0).length c101_0] rfl (by (try simp only [List.map_toArray, List.map_cons, List.map_nil]); first | done | rfl | (simp only [List.length_drop, List.length_take]; rfl) | (rw [IntWalk.u64_in _ (by omega)] <;> rfl)) ?_; (with_reducible refine (spec_EntriesOk.calls k1 _ _ ((qv l0 x4_1).f0) true _ ?side1 ?side2 A5.out).mono ?_); (case side1 => repeat (first | exact (Kd.C_below HR101_0.out HB.out) | (with_reducible refine Kd.C_alloc ?_ _) | (with_reducible refine Kd.C_drewN ?_ _) | (with_reducible refine Kd.C_drew ?_))); (case side2 => exact HC101_0.out); rintro e w7 ⟨rfl, hb⟩; refine ⟨_, rfl, ?_⟩; replace HB := Qz.mk (qm (by repeat (first | (with_reducible first | exact HB.out | apply qc | apply qa | apply qb) | exact HB.out)) hb); (try clear hb); have p103 : 0 ≤ (x4_1 : Int) := of_decide_eq_true yq37; have q103 : x4_1 < (l0.length : Int) := of_decide_eq_true yq37; obtain ⟨ad103, A103_0, c103_0, e103, hx103_0, hl103_0, hi103_0⟩ := at_T62 HR0.out x4_1 p103 q103; obtain rfl : ad101 = ad103 := (by injection e103); replace hx103_0 := (HB.out.cell (World.block_lt_of_cell? w _ hx103_0)).trans hx103_0; have HR103_0 := Qz.mk hi103_0; have HC103_0 := Qz.mk hl103_0; clear hi103_0 hl103_0; replace p103 := eq_true p103; replace q103 := eq_true q103))
       go_roundg k1
       case measure => have := HK1.out; omega
       case rel => exact ⟨(wrap64 (x3_1 + (((qv l0 x4_1).f0).length : Int))), (wrap64 (x4_1 + 1)), (by first | rfl | (simp; done) | (simp [*]; done)), (by first | rfl | (simp; done) | (simp [*]; done)), H', ⟨by have := HK1.out; omega⟩, ⟨by repeat (first | (with_reducible first | exact HB.out | apply qc | apply qa | apply qb) | exact HB.out)⟩⟩
      ·replace c6 := Bool.eq_false_iff.mpr c6
       subst c6
       have H1 : (some false) = some r := by rw [if_neg (show ¬ (false = true) by decide)] at H; exact H
       clear H
       have H := H1
       clear H1
       obtain rfl := Option.some.inj H
       have p101 : 0 ≤ (x4_1 : Int) := of_decide_eq_true yq37
       have q101 : x4_1 < (l0.length : Int) := of_decide_eq_true yq37
       obtain ⟨ad101, A101_0, c101_0, e101, hx101_0, hl101_0, hi101_0⟩ := at_T62 HR0.out x4_1 p101 q101
       cases e101
       replace hx101_0 := (HB.out.cell (World.block_lt_of_cell? w _ hx101_0)).trans hx101_0
       have HR101_0 := Qz.mk hi101_0
       have HC101_0 := Qz.mk hl101_0
       clear hi101_0 hl101_0
       replace p101 := eq_true p101
       replace q101 := eq_true q101
       go_wp2_with (first | ((with_reducible refine qr (f := 68) rfl ?_); refine qe1 (some 19) rfl rfl Try.func68 (by kernel_rfl) rfl #[.slice A101_0 ((qv l0 x4_1).f0).length c101_0] rfl (by (try simp only [List.map_toArray, List.map_cons, List.map_nil]); first | done | rfl | (simp only [List.length_drop, List.length_take]; rfl) | (rw [IntWalk.u64_in _ (by omega)] <;> rfl)) ?_; (with_reducible refine (spec_EntriesOk.calls k1 _ _ ((qv l0 x4_1).f0) false _ ?side1 ?side2 A5.out).mono ?_); (case side1 => repeat (first | exact (Kd.C_below HR101_0.out HB.out) | (with_reducible refine Kd.C_alloc ?_ _) | (with_reducible refine Kd.C_drewN ?_ _) | (with_reducible refine Kd.C_drew ?_))); (case side2 => exact HC101_0.out); rintro e w8 ⟨rfl, hb⟩; refine ⟨_, rfl, ?_⟩; replace HB := Qz.mk (qm (by repeat (first | (with_reducible first | exact HB.out | apply qc | apply qa | apply qb) | exact HB.out)) hb); (try clear hb)))
       go_ret
       exact ⟨by first | rfl | (simp [qq, qo] <;> rfl) | (simp [*, qq, qo] <;> rfl), by repeat (first | (with_reducible first | exact HB.out | apply qc | apply qa | apply qb) | exact HB.out)⟩
     ·rw [if_neg c4] at H
      exact absurd H (by simp)
    ·rw [if_neg c3] at H
     have c3b0 : decide (x4_1 < (l0.length : Int)) = false := decide_eq_false c3
     clear c3
     obtain rfl := Option.some.inj H
     go_wp2
     go_ret
     exact ⟨by first | rfl | (simp [qq, qo] <;> rfl) | (simp [*, qq, qo] <;> rfl), by repeat (first | (with_reducible first | exact HB.out | apply qc | apply qa | apply qb) | exact HB.out)⟩
theorem yq38 {P : Prop} (h : P := by (try simp only [List.map_toArray, List.map_cons, List.map_nil]); first | done | rfl | (simp only [List.length_drop, List.length_take]; rfl) | (rw [IntWalk.u64_in _ (by omega)] <;> rfl)) : P := h
theorem yq39 {P : Prop} (h : P := by repeat (first | (with_reducible first | exact HB.out | apply qc | apply qa | apply qb) | exact HB.out)) : P := h
def spec_MergeRuns.f (k : Nat) (l0 : List (S62)) : Option ((List (S64)) × Bool) := (spec_RunsOk.f k l0).bind fun t101 => (if t101 = true then ((spec_l13Merge.f k l0).bind fun t102 => (some (t102, true))) else (some (([] : List (S64)), false)))
set_option maxHeartbeats 8000000 in
set_option maxRecDepth 100000 in
theorem spec_MergeRuns.calls (k : Nat) (A0 : Option Addr) (c0 : Nat) (l0 : List (S62)) (r1 : List (S64)) (r2 : Bool) (w : World) (hr0 : Kd.C k62 w A0 l0.length l0) (hc0 : l0.length ≤ c0) (h : spec_MergeRuns.f k l0 = some (r1, r2)) :
  Calls Try.prog 36 #[.slice A0 l0.length c0] w fun e w' => ∃ v0_ : Value, e = .returned (.tuple #[v0_, .bool r2]) ∧ Kd.R k64 64 w' w.heap.size (fun _ => True) v0_ r1 ∧ Below w.heap.size w w' := by
 have HR0 := Qz.mk hr0
 have HC0 := Qz.mk hc0
 clear hr0 hc0
 have HB := Qz.mk (Below.refl w.heap.size w)
 have H : ((spec_RunsOk.f k l0).bind fun t101 => (if t101 = true then ((spec_l13Merge.f k l0).bind fun t102 => (some (t102, true))) else (some (([] : List (S64)), false)))) = some (r1, r2) := h
 clear h
 replace H := Option.bind_eq_some_iff.mp H
 obtain ⟨t101, A20, H⟩ := H
 replace H : (if t101 = true then ((spec_l13Merge.f k l0).bind fun t102 => (some (t102, true))) else (some (([] : List (S64)), false))) = some (r1, r2) := H
 have A2 := Qz.mk A20
 clear A20
 by_cases c3 : t101 = true
 ·subst c3
  have H1 : ((spec_l13Merge.f k l0).bind fun t102 => (some (t102, true))) = some (r1, r2) := by rw [if_pos rfl] at H; exact H
  clear H
  have H := H1
  clear H1
  replace H := Option.bind_eq_some_iff.mp H
  obtain ⟨t102, A40, H⟩ := H
  replace H : (some (t102, true)) = some (r1, r2) := H
  have A4 := Qz.mk A40
  clear A40
  simp only [Option.some.injEq, Prod.mk.injEq] at H
  obtain ⟨rfl, rfl⟩ := H
  go_enter Try.func36, Try.ntmps36
  go_wp2_with (first | ((with_reducible refine qr (f := 99) rfl ?_); refine qe1 (some 5) rfl rfl Try.func99 (by kernel_rfl) rfl #[.slice A0 l0.length c0] rfl yq38 ?_; (with_reducible refine (spec_RunsOk.calls k _ _ l0 true _ ?side1 ?side2 A2.out).mono ?_); (case side1 => repeat (first | exact HR0.out | (with_reducible refine Kd.C_alloc ?_ _) | (with_reducible refine Kd.C_drewN ?_ _) | (with_reducible refine Kd.C_drew ?_))); (case side2 => exact HC0.out); rintro e w5 ⟨rfl, hb⟩; refine ⟨_, rfl, ?_⟩; replace HB := Qz.mk (qm yq39 hb); (try clear hb)) | ((with_reducible refine qr (f := 100) rfl ?_); refine qe1 (some 8) rfl rfl Try.func100 (by kernel_rfl) rfl #[.slice A0 l0.length c0] rfl yq38 ?_; (with_reducible refine (spec_l13Merge.calls k _ _ l0 t102 _ ?side1 ?side2 A4.out).mono ?_); (case side1 => repeat (first | exact (Kd.C_below HR0.out HB.out) | (with_reducible refine Kd.C_alloc ?_ _) | (with_reducible refine Kd.C_drewN ?_ _) | (with_reducible refine Kd.C_drew ?_))); (case side2 => exact HC0.out); rintro e w6 ⟨v103, rfl, ho0, hb⟩; refine ⟨_, rfl, ?_⟩; have HO104 := Qz.mk (Kd.R_lower ho0 (qu yq39)); replace HB := Qz.mk (qm yq39 hb); (try clear hb); (try clear ho0)))
  go_ret2
  exact ⟨_, by first | rfl | (simp [qq, qo] <;> rfl) | (simp [*, qq, qo] <;> rfl), by (with_reducible repeat (first | apply Kd.R_alloc | apply Kd.R_drewN | apply Kd.R_drew)); exact HO104.out, by repeat (first | (with_reducible first | exact HB.out | apply qc | apply qa | apply qb) | exact HB.out)⟩
 ·replace c3 := Bool.eq_false_iff.mpr c3
  subst c3
  have H1 : (some (([] : List (S64)), false)) = some (r1, r2) := by rw [if_neg (show ¬ (false = true) by decide)] at H; exact H
  clear H
  have H := H1
  clear H1
  simp only [Option.some.injEq, Prod.mk.injEq] at H
  obtain ⟨rfl, rfl⟩ := H
  go_enter Try.func36, Try.ntmps36
  go_wp2_with (first | ((with_reducible refine qr (f := 99) rfl ?_); refine qe1 (some 5) rfl rfl Try.func99 (by kernel_rfl) rfl #[.slice A0 l0.length c0] rfl yq38 ?_; (with_reducible refine (spec_RunsOk.calls k _ _ l0 false _ ?side1 ?side2 A2.out).mono ?_); (case side1 => repeat (first | exact HR0.out | (with_reducible refine Kd.C_alloc ?_ _) | (with_reducible refine Kd.C_drewN ?_ _) | (with_reducible refine Kd.C_drew ?_))); (case side2 => exact HC0.out); rintro e w7 ⟨rfl, hb⟩; refine ⟨_, rfl, ?_⟩; replace HB := Qz.mk (qm yq39 hb); (try clear hb)))
  go_ret2
  exact ⟨_, by first | rfl | (simp [qq, qo] <;> rfl) | (simp [*, qq, qo] <;> rfl), by first | exact Kd.R_nil _ _ _ _ _ | exact Kd.N_nil _ _ _ _ _ | exact Kd.V_nil _ _ _ _ _ | exact Kd.Q_nil _ _ _ _ _ | exact Kd.S_nil _ _ _ _ _, by repeat (first | (with_reducible first | exact HB.out | apply qc | apply qa | apply qb) | exact HB.out)⟩
end Go.Proofs.Ytidjdkodgddfcaa.P
end
