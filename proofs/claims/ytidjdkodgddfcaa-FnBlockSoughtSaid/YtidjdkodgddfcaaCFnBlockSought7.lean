/- Proved: the law FnBlockSought of the given program returns true for every input of its Go types and leaves each argument as it was; no condition. (Part 8 of 12.) -/
import Derived.Test.YtidjdkodgddfcaaCFnBlockSought4
import Derived.Test.YtidjdkodgddfcaaCFnBlockSought6
import Derived.Deep.RegionWith
import Derived.Deep.RegionHeld3
import Derived.Deep.QuietTactic
import Derived.BigQuiet
import Derived.Test.YtidjdkodgddfcaaCFnBlockSought5
section
namespace Go.Proofs.Ytidjdkodgddfcaa.P
open Go.RowKit Go.Proofs.YtidjdkodgddfcaaW.PrintWords Go.Proofs.YtidjdkodgddfcaaW.PrintLast Go.Proofs.YtidjdkodgddfcaaW.PrintMore
attribute [local go_sem] qh1 qg1 qi1 qf1 qd1 qk1 qj1 qy qx qe1 qc1
set_option linter.unusedVariables false
set_option linter.unusedSimpArgs false
theorem findIdx_at {α : Type} (p : α → Bool) (d : α) : ∀ (l : List α) (i : Nat), i ≤ l.length → (∀ t, t < i → p (l.getD t d) = false) → (i < l.length → p (l.getD i d) = true) → l.findIdx p = i
  | [], i, hi, _, _ => by
    have : i = 0 := by simpa using hi
    subst this
    rfl
  | x :: xs, 0, _, _, h => by
    have h0 : p x = true := by simpa using h (by simp)
    rw [List.findIdx_cons, h0]
    rfl
  | x :: xs, i + 1, hi, hn, h => by
    have h0 : p x = false := by simpa using hn 0 (Nat.succ_pos _)
    rw [List.findIdx_cons, h0]
    rw [findIdx_at p d xs i (by simpa using hi) (fun t ht => by simpa using hn (t + 1) (by omega)) (fun hl => by simpa using h (by simpa using hl))]
    rfl
set_option maxHeartbeats 4000000 in
theorem bsearch_Entry.calls (g : Nat) (c : S64 → Int) (y : S64) (A : Option Addr) (cap : Nat) (l : List S64) (w : World) (hr : Kd.C k64 w A l.length l) (hl : l.length < 4611686018427387904)
    (eg : ∀ args w, (callFunc g args).run Try.prog w = .ok (.enter g args) w)
    (hp : ∀ (x : S64) (W : World), Below w.heap.size w W → Calls Try.prog g #[.agg #[.string x.f0.f0, .int .i64 x.f0.f1, .int .i64 x.f0.f2, .string x.f1], .agg #[.string y.f0.f0, .int .i64 y.f0.f1, .int .i64 y.f0.f2, .string y.f1]] W fun e w' => e = .returned (.int .i64 (c x)) ∧ Below W.heap.size W w')
    (mono : ∀ i j, i ≤ j → j < l.length → c (l.getD j z64) < 0 → c (l.getD i z64) < 0) :
    Calls Try.prog 96 #[.slice A l.length cap, .agg #[.string y.f0.f0, .int .i64 y.f0.f1, .int .i64 y.f0.f2, .string y.f1], .func (.func g) #[] #[]] w fun e w' => e = .returned (.tuple #[.int .i64 ((l.findIdx fun x => decide (0 ≤ c x) : Nat) : Int), .bool (decide ((l.findIdx fun x => decide (0 ≤ c x)) < l.length) && decide (c (l.getD (l.findIdx fun x => decide (0 ≤ c x)) z64) = 0))]) ∧ Below w.heap.size w w' := by
  have hbx : Below w.heap.size w (w.alloc (.cells #[.string y.f0.f0, .int .i64 y.f0.f1, .int .i64 y.f0.f2, .string y.f1] 64)) := (Below.refl _ w).alloc (Nat.le_refl _) _
  have HBX := Qz.mk hbx
  have HR := Qz.mk (Kd.C_below hr hbx)
  have HP := Qz.mk hp
  have M := Qz.mk mono
  clear hbx hp
  clear hr mono
  generalize hcnt : (l.findIdx fun x => decide (0 ≤ c x)) = cnt
  have CN := Qz.mk hcnt
  clear hcnt
  generalize hfin : (decide (cnt < l.length) && decide (c (l.getD cnt z64) = 0)) = fin
  have FIN := Qz.mk hfin
  clear hfin
  go_enter Try.func96, Try.ntmps96
  go_wp2
  go_loopg [9, 10] l.length (fun kx s9 s10 wr => ∃ lo hi : Nat, s9 = .int .i64 lo ∧ s10 = .int .i64 hi ∧ lo ≤ hi ∧ hi ≤ l.length ∧ hi - lo ≤ kx ∧ Qz (Below (w.alloc (.cells #[.string y.f0.f0, .int .i64 y.f0.f1, .int .i64 y.f0.f2, .string y.f1] 64)).heap.size (w.alloc (.cells #[.string y.f0.f0, .int .i64 y.f0.f1, .int .i64 y.f0.f2, .string y.f1] 64)) wr) ∧
    Qz ((∀ t, t < lo → c (l.getD t z64) < 0) ∧ (∀ t, hi ≤ t → t < l.length → 0 ≤ c (l.getD t z64))))
  case atStart => exact ⟨0, l.length, rfl, rfl, Nat.zero_le _, Nat.le_refl _, by omega, ⟨Below.refl _ _⟩, ⟨fun t ht => absurd ht (Nat.not_lt_zero _), fun t h1 h2 => by omega⟩⟩
  case round =>
    obtain ⟨lo, hi, rfl, rfl, hlh, hin, hg, BW, I⟩ := hrel
    have HBW := Qz.mk (HBX.out.trans (BW.out.mono (by simp)))
    have hy0 : wr.cell? ⟨w.heap.size, 0, none⟩ = some (.string y.f0.f0) := (BW.out.cell (p := ⟨w.heap.size, 0, none⟩) (by simp)).trans (by simp)
    have hy1 : wr.cell? ⟨w.heap.size, 1, none⟩ = some (.int .i64 y.f0.f1) := (BW.out.cell (p := ⟨w.heap.size, 1, none⟩) (by simp)).trans (by simp)
    have hy2 : wr.cell? ⟨w.heap.size, 2, none⟩ = some (.int .i64 y.f0.f2) := (BW.out.cell (p := ⟨w.heap.size, 2, none⟩) (by simp)).trans (by simp)
    have hy3 : wr.cell? ⟨w.heap.size, 3, none⟩ = some (.string y.f1) := (BW.out.cell (p := ⟨w.heap.size, 3, none⟩) (by simp)).trans (by simp)
    by_cases hlt : lo < hi
    · obtain ⟨ad, e, h0, h1, h2, h3⟩ := at_T64 HR.out ((((lo + hi) / 2 : Nat)) : Int) (by omega) (by omega)
      cases e
      replace h0 := (BW.out.cell (World.block_lt_of_cell? _ _ h0)).trans h0
      replace h1 := (BW.out.cell (World.block_lt_of_cell? _ _ h1)).trans h1
      replace h2 := (BW.out.cell (World.block_lt_of_cell? _ _ h2)).trans h2
      replace h3 := (BW.out.cell (World.block_lt_of_cell? _ _ h3)).trans h3
      rw [Int.toNat_natCast] at h0 h1 h2 h3
      have hcall := HP.out (qk l ((((lo + hi) / 2 : Nat)) : Int)) wr (HBX.out.trans (BW.out.mono (by simp)))
      have HX : Qz (qk l ((((lo + hi) / 2 : Nat)) : Int) = l.getD ((lo + hi) / 2) z64) := ⟨by unfold qk; rw [Int.toNat_natCast]⟩
      generalize qk l ((((lo + hi) / 2 : Nat)) : Int) = x at h0 h1 h2 h3 hcall HX
      by_cases hyx : c x < 0
      · go_wp2_with fail
        go_region_with ((with_reducible refine (HP.out x _ ?hW).mono ?_); (case hW => (repeat (first | exact HBW.out | apply qb | apply qa))); rintro e w' ⟨rfl, hb'⟩)
        all_goals
          have HB2 := Qz.mk ((qb BW.out).trans (hb'.mono BW.out.size))
          clear hb' hy0 hy1 hy2 hy3 h0 h1 h2 h3
          go_wp2
          go_roundg (hi - ((lo + hi) / 2 + 1))
          case measure => omega
          case rel =>
            exact ⟨(lo + hi) / 2 + 1, hi, by first | rfl | go_num, rfl, by omega, hin, Nat.le_refl _, HB2, ⟨fun t ht => M.out t ((lo + hi) / 2) (by omega) (by omega) (by rw [← HX.out]; exact hyx), I.out.2⟩⟩
      · go_wp2_with fail
        go_region_with ((with_reducible refine (HP.out x _ ?hW).mono ?_); (case hW => (repeat (first | exact HBW.out | apply qb | apply qa))); rintro e w' ⟨rfl, hb'⟩)
        all_goals
          have HB2 := Qz.mk ((qb BW.out).trans (hb'.mono BW.out.size))
          clear hb' hy0 hy1 hy2 hy3 h0 h1 h2 h3
          go_wp2
          go_roundg ((lo + hi) / 2 - lo)
          case measure => omega
          case rel =>
            refine ⟨lo, (lo + hi) / 2, rfl, by first | rfl | go_num, by omega, by omega, Nat.le_refl _, HB2, ⟨I.out.1, fun t ht htn => Int.not_lt.1 fun h => ?_⟩⟩
            have := M.out ((lo + hi) / 2) t ht htn h
            rw [← HX.out] at this
            first | exact hyx this | omega
    · obtain rfl : hi = lo := by omega
      have ecnt : cnt = hi := by
        rw [← CN.out]
        exact findIdx_at _ z64 l hi hin (fun t ht => decide_eq_false (by have := I.out.1 t ht; omega)) (fun h => decide_eq_true (I.out.2 hi (Nat.le_refl _) h))
      subst ecnt
      by_cases hn : cnt < l.length
      · obtain ⟨ad, e, h0, h1, h2, h3⟩ := at_T64 HR.out (cnt : Int) (by omega) (by omega)
        cases e
        replace h0 := (BW.out.cell (World.block_lt_of_cell? _ _ h0)).trans h0
        replace h1 := (BW.out.cell (World.block_lt_of_cell? _ _ h1)).trans h1
        replace h2 := (BW.out.cell (World.block_lt_of_cell? _ _ h2)).trans h2
        replace h3 := (BW.out.cell (World.block_lt_of_cell? _ _ h3)).trans h3
        rw [Int.toNat_natCast] at h0 h1 h2 h3
        have hcall := HP.out (qk l (cnt : Int)) wr (HBX.out.trans (BW.out.mono (by simp)))
        have HX : Qz (qk l (cnt : Int) = l.getD cnt z64) := ⟨by unfold qk; rw [Int.toNat_natCast]⟩
        generalize qk l (cnt : Int) = x at h0 h1 h2 h3 hcall HX
        go_wp2_with fail
        go_region_held3 (fun w' => w'.cell? ⟨w.heap.size, 0, none⟩ = some (.string y.f0.f0) ∧ w'.cell? ⟨w.heap.size, 1, none⟩ = some (.int .i64 y.f0.f1) ∧ w'.cell? ⟨w.heap.size, 2, none⟩ = some (.int .i64 y.f0.f2) ∧ w'.cell? ⟨w.heap.size, 3, none⟩ = some (.string y.f1) ∧ w'.cell? (ad.add (cnt * 4)) = some (.string x.f0.f0) ∧ w'.cell? ⟨(ad.add (cnt * 4)).block, (ad.add (cnt * 4)).off + 1, none⟩ = some (.int .i64 x.f0.f1) ∧ w'.cell? ⟨(ad.add (cnt * 4)).block, (ad.add (cnt * 4)).off + 2, none⟩ = some (.int .i64 x.f0.f2) ∧ w'.cell? ⟨(ad.add (cnt * 4)).block, (ad.add (cnt * 4)).off + 3, none⟩ = some (.string x.f1) ∧ Qz (Below (w.alloc (.cells #[.string y.f0.f0, .int .i64 y.f0.f1, .int .i64 y.f0.f2, .string y.f1] 64)).heap.size (w.alloc (.cells #[.string y.f0.f0, .int .i64 y.f0.f1, .int .i64 y.f0.f2, .string y.f1] 64)) w')) (first | exact ⟨ky0, ky1, ky2, ky3, kx0, kx1, kx2, kx3, KB⟩ | exact ⟨hy0, hy1, hy2, hy3, h0, h1, h2, h3, ⟨qb BW.out⟩⟩) (first | ((with_reducible refine (HP.out x _ ?hW).mono ?_); (case hW => exact HBX.out.trans (Below.mono (qb BW.out) (by simp))); rintro e w' ⟨rfl, hb'⟩; have ky0 := (hb'.cell (World.block_lt_of_cell? _ _ hy0)).trans hy0; have ky1 := (hb'.cell (World.block_lt_of_cell? _ _ hy1)).trans hy1; have ky2 := (hb'.cell (World.block_lt_of_cell? _ _ hy2)).trans hy2; have ky3 := (hb'.cell (World.block_lt_of_cell? _ _ hy3)).trans hy3; have kx0 := (hb'.cell (World.block_lt_of_cell? _ _ h0)).trans h0; have kx1 := (hb'.cell (World.block_lt_of_cell? _ _ h1)).trans h1; have kx2 := (hb'.cell (World.block_lt_of_cell? _ _ h2)).trans h2; have kx3 := (hb'.cell (World.block_lt_of_cell? _ _ h3)).trans h3; have KB := Qz.mk ((qb BW.out).trans (hb'.mono BW.out.size))))
        all_goals
          go_wp2
          go_ret2
          exact ⟨by rw [← FIN.out, ← HX.out]; simp [hn]; try rfl, HBX.out.trans (KB.out.mono (by simp))⟩
      · go_wp2_with fail
        go_quiet (fail)
        go_wp2
        go_ret2
        exact ⟨by rw [← FIN.out]; simp [hn], HBX.out.trans (Below.mono (by repeat (first | exact BW.out | apply qa | apply qb)) (by simp))⟩
end Go.Proofs.Ytidjdkodgddfcaa.P
end

section
namespace Go.Proofs.Ytidjdkodgddfcaa.P
open Go.RowKit Go.Proofs.YtidjdkodgddfcaaW.PrintWords Go.Proofs.YtidjdkodgddfcaaW.PrintLast Go.Proofs.YtidjdkodgddfcaaW.PrintMore
attribute [local go_sem] qh1 qg1 qi1 qf1 qd1 qk1 qj1 qy qx qe1 qc1
set_option linter.unusedVariables false
set_option linter.unusedSimpArgs false
def upB (l : List S64) : Bool := (List.range l.length).all fun i => i == 0 || decide (ecmp (l.getD (i - 1) z64) (l.getD i z64) < 0)
theorem upB_of {l : List S64} (h : rowFrom l 0) : upB l = true := by
  unfold upB
  rw [List.all_eq_true]
  intro i hi
  rw [List.mem_range] at hi
  by_cases c : i = 0
  · simp [c]
  · have := (h i (Nat.zero_le _) hi).2 (by omega)
    rw [getD_at l i _ hi, getD_at l (i - 1) _ (by omega)]
    simp [this]
theorem up_lt {l : List S64} (h : upB l = true) : ∀ (d i : Nat), i + d + 1 < l.length → ecmp (l.getD i z64) (l.getD (i + d + 1) z64) < 0 := by
  have one : ∀ i, i + 1 < l.length → ecmp (l.getD i z64) (l.getD (i + 1) z64) < 0 := by
    intro i hi
    unfold upB at h
    rw [List.all_eq_true] at h
    have := h (i + 1) (List.mem_range.2 hi)
    simpa using this
  intro d
  induction d with
  | zero => intro i hi; exact one i hi
  | succ d ih => intro i hi; exact kcmp_trans (ih i (by omega)) (one (i + d + 1) (by omega))
theorem up_mono {l : List S64} (h : upB l = true) (y : S64) (i j : Nat) (hij : i ≤ j) (hj : j < l.length) (hc : ecmp (l.getD j z64) y < 0) : ecmp (l.getD i z64) y < 0 := by
  rcases Nat.lt_or_ge i j with hlt | hge
  · have h1 := up_lt h (j - i - 1) i (by omega)
    rw [show i + (j - i - 1) + 1 = j from by omega] at h1
    exact kcmp_trans h1 hc
  · rw [show i = j from by omega]
    exact hc
def bsearch_cmpEntries.f (l0 : List S64) (u : ByteArray) (q d : Int) (v : ByteArray) : Option (Int × Bool) :=
  if l0.length ≤ 400 ∧ upB l0 = true then some (((bsc l0 ⟨⟨u, q, d⟩, v⟩ : Nat) : Int), decide (bsc l0 ⟨⟨u, q, d⟩, v⟩ < l0.length) && decide (ecmp (l0.getD (bsc l0 ⟨⟨u, q, d⟩, v⟩) z64) ⟨⟨u, q, d⟩, v⟩ = 0)) else none
theorem bsearch_cmpEntries.calls (A0 : Option Addr) (c0 : Nat) (l0 : List S64) (u : ByteArray) (q d : Int) (v : ByteArray) (r0 : Int) (r1 : Bool) (w : World) (hr0 : Kd.C k64 w A0 l0.length l0) (hc0 : l0.length ≤ c0) (h : bsearch_cmpEntries.f l0 u q d v = some (r0, r1)) :
    Calls Try.prog 96 #[.slice A0 l0.length c0, .agg #[.string u, .int .i64 q, .int .i64 d, .string v], .func (.func 97) #[] #[]] w fun e w' => e = .returned (.tuple #[.int .i64 r0, .bool r1]) ∧ Below w.heap.size w w' := by
  unfold bsearch_cmpEntries.f at h
  split at h
  · rename_i hrow
    injection h with h
    injection h with h0 h1
    subst h0; subst h1
    refine bsearch_Entry.calls 97 (fun x => ecmp x ⟨⟨u, q, d⟩, v⟩) ⟨⟨u, q, d⟩, v⟩ A0 c0 l0 w hr0 (by have := hrow.1; omega) (fun args w => by kernel_rfl) (fun x W hb => ?_) (up_mono hrow.2 _)
    obtain ⟨k, hk⟩ := Ev.rounds (cmpKeys_ev x.f0.f0 x.f0.f1 x.f0.f2 u q d)
    exact impl_cmpEntries.calls k x.f0.f0 x.f0.f1 x.f0.f2 x.f1 u q d v _ W (by unfold impl_cmpEntries.f; rw [hk]; rfl)
  · cases h
theorem bsearch_ev {l : List S64} (h : isRow l) (y : S64) : bsearch_cmpEntries.f l y.f0.f0 y.f0.f1 y.f0.f2 y.f1 = some (((bsc l y : Nat) : Int), decide (bsc l y < l.length) && decide (ecmp (l.getD (bsc l y) z64) y = 0)) := if_pos ⟨h.1, upB_of h.2⟩
theorem yq88 {P : Prop} (h : P := by repeat (first | (with_reducible first | exact HB.out | apply qc | apply qa | apply qb | refine qd ?_ GE101.out) | exact HB.out)) : P := h
theorem yq89 {P : Prop} (h : P := by (try simp only [List.map_toArray, List.map_cons, List.map_nil]); first | done | rfl | (simp only [List.length_drop, List.length_take]; rfl) | (rw [IntWalk.u64_in _ (by omega)] <;> rfl)) : P := h
theorem yq90 {P : Prop} (h : P := by repeat (first | exact (Kd.C_below HR0.out HB.out) | (with_reducible refine Kd.C_alloc ?_ _) | (with_reducible refine Kd.C_drewN ?_ _) | (with_reducible refine Kd.C_drew ?_))) : P := h
theorem yq91 {P : Prop} (h : P := by repeat (first | (with_reducible first | exact HB.out | apply qc | apply qa | apply qb) | exact HB.out)) : P := h
theorem yq92 {P : Prop} (h : P := by (with_reducible repeat (first | refine qg ?_ _ | refine qi ?_ | refine qh ?_ _)); exact BK101.out) : P := h
def impl_SeekEntry.f (k : Nat) (l0 : List (S64)) (a1_0 : ByteArray) (a1_1 : Int) (a1_2 : Int) : Option (Int) := (impl_EntriesOk.f k l0).bind fun t102 => (if t102 = true then ((impl_KeyOk.f a1_0 a1_1 a1_2).bind fun t103 => (if t103 = true then ((bsearch_cmpEntries.f l0 a1_0 a1_1 a1_2 (⟨#[]⟩ : ByteArray)).bind fun bt104 => (some bt104.1)) else (some (-1)))) else (some (-1)))
set_option maxHeartbeats 8000000 in
set_option maxRecDepth 100000 in
theorem impl_SeekEntry.calls (k : Nat) (A0 : Option Addr) (c0 : Nat) (l0 : List (S64)) (a1_0 : ByteArray) (a1_1 : Int) (a1_2 : Int) (r : Int) (w : World) (hr0 : Kd.C k64 w A0 l0.length l0) (hc0 : l0.length ≤ c0) (h : impl_SeekEntry.f k l0 a1_0 a1_1 a1_2 = some r) :
  Calls Try.prog 34 #[.slice A0 l0.length c0, .agg #[.string a1_0, .int .i64 a1_1, .int .i64 a1_2]] w fun e w' => e = .returned (.int .i64 r) ∧ Below w.heap.size w w' := by
 have hu35 := Try.underlying35
 have hu64 := Try.underlying64
 have HR0 := Qz.mk hr0
 have HC0 := Qz.mk hc0
 clear hr0 hc0
 have HB := Qz.mk (Below.refl w.heap.size w)
 have H : ((impl_EntriesOk.f k l0).bind fun t102 => (if t102 = true then ((impl_KeyOk.f a1_0 a1_1 a1_2).bind fun t103 => (if t103 = true then ((bsearch_cmpEntries.f l0 a1_0 a1_1 a1_2 (⟨#[]⟩ : ByteArray)).bind fun bt104 => (some bt104.1)) else (some (-1)))) else (some (-1)))) = some r := h
 clear h
 replace H := Option.bind_eq_some_iff.mp H
 obtain ⟨t102, A30, H⟩ := H
 replace H : (if t102 = true then ((impl_KeyOk.f a1_0 a1_1 a1_2).bind fun t103 => (if t103 = true then ((bsearch_cmpEntries.f l0 a1_0 a1_1 a1_2 (⟨#[]⟩ : ByteArray)).bind fun bt104 => (some bt104.1)) else (some (-1)))) else (some (-1))) = some r := H
 have A3 := Qz.mk A30
 clear A30
 by_cases c4 : t102 = true
 ·subst c4
  have H1 : ((impl_KeyOk.f a1_0 a1_1 a1_2).bind fun t103 => (if t103 = true then ((bsearch_cmpEntries.f l0 a1_0 a1_1 a1_2 (⟨#[]⟩ : ByteArray)).bind fun bt104 => (some bt104.1)) else (some (-1)))) = some r := by rw [if_pos rfl] at H; exact H
  clear H
  have H := H1
  clear H1
  replace H := Option.bind_eq_some_iff.mp H
  obtain ⟨t103, A50, H⟩ := H
  replace H : (if t103 = true then ((bsearch_cmpEntries.f l0 a1_0 a1_1 a1_2 (⟨#[]⟩ : ByteArray)).bind fun bt104 => (some bt104.1)) else (some (-1))) = some r := H
  have A5 := Qz.mk A50
  clear A50
  by_cases c6 : t103 = true
  ·subst c6
   have H1 : ((bsearch_cmpEntries.f l0 a1_0 a1_1 a1_2 (⟨#[]⟩ : ByteArray)).bind fun bt104 => (some bt104.1)) = some r := by rw [if_pos rfl] at H; exact H
   clear H
   have H := H1
   clear H1
   replace H := Option.bind_eq_some_iff.mp H
   obtain ⟨⟨t104, t105⟩, A70, H⟩ := H
   replace H : (some t104) = some r := H
   have A7 := Qz.mk A70
   clear A70
   obtain rfl := Option.some.inj H
   go_enter Try.func34, Try.ntmps34
   go_wp2_with (first | ((with_reducible refine qb1 (N := 3) rfl ?_); refine qz ?hg (N := 3) ?hd (cs := #[.string a1_0, .int .i64 a1_1, .int .i64 a1_2]) (t := 35) ?hr ?_; (case hd => rfl); (case hg => rfl); (case hr => first | (go_simp; done) | (go_simp; rfl)); intro gb101 hg w8 hbox hb; have BK101 := Qz.mk (hbox); have GW101 := Qz.mk ((by rw [hg]; exact (qv yq91) : w.heap.size ≤ gb101)); have GE101 := GW101; replace HB := Qz.mk (ql yq91 hb); clear hb hbox hg) | ((with_reducible refine qj (f := 43) rfl ?_); refine qt (some 8) rfl rfl Try.func43 (by kernel_rfl) rfl #[.slice A0 l0.length c0] rfl yq89 ?_; (with_reducible refine (impl_EntriesOk.calls k _ _ l0 true _ ?side1 ?side2 A3.out).mono ?_); (case side1 => exact yq90); (case side2 => exact HC0.out); rintro e w9 ⟨rfl, hb⟩; refine ⟨_, rfl, ?_⟩; replace BK101 := Qz.mk (qu (g := gb101) (o := .cells #[.string a1_0, .int .i64 a1_1, .int .i64 a1_2] 35 (0, 0)) yq92 hb); replace HB := Qz.mk (ql yq88 hb); (try clear hb); have hcz10_0 : w9.cell? ⟨gb101, 0, none⟩ = some (.string a1_0) := (qf BK101.out 0).trans rfl; have hcz10_1 : w9.cell? ⟨gb101, 1, none⟩ = some (.int .i64 a1_1) := (qf BK101.out 1).trans rfl; have hcz10_2 : w9.cell? ⟨gb101, 2, none⟩ = some (.int .i64 a1_2) := (qf BK101.out 2).trans rfl; have hfz10_0 := qe BK101.out 0; have hfz10_1 := qe BK101.out 1; have hfz10_2 := qe BK101.out 2) | (go_at_call 33; (with_reducible refine (impl_KeyOk.calls a1_0 a1_1 a1_2 true _ A5.out).mono ?_); rintro e w11 ⟨rfl, hb⟩; replace BK101 := Qz.mk (qu (g := gb101) (o := .cells #[.string a1_0, .int .i64 a1_1, .int .i64 a1_2] 35 (0, 0)) yq92 hb); replace HB := Qz.mk (ql yq88 hb); (try clear hb); have hcz12_0 : w11.cell? ⟨gb101, 0, none⟩ = some (.string a1_0) := (qf BK101.out 0).trans rfl; have hcz12_1 : w11.cell? ⟨gb101, 1, none⟩ = some (.int .i64 a1_1) := (qf BK101.out 1).trans rfl; have hcz12_2 : w11.cell? ⟨gb101, 2, none⟩ = some (.int .i64 a1_2) := (qf BK101.out 2).trans rfl; have hfz12_0 := qe BK101.out 0; have hfz12_1 := qe BK101.out 1; have hfz12_2 := qe BK101.out 2) | ((with_reducible refine qj (f := 96) rfl ?_); refine qt (some 19) rfl rfl Try.func96 (by kernel_rfl) rfl #[.slice A0 l0.length c0, .agg #[.string a1_0, .int .i64 a1_1, .int .i64 a1_2, .string (⟨#[]⟩ : ByteArray)], .func (.func 97) #[] #[]] rfl yq89 ?_; (with_reducible refine (bsearch_cmpEntries.calls _ _ l0 a1_0 a1_1 a1_2 (⟨#[]⟩ : ByteArray)  t104 t105 _ ?side1 ?side2 A7.out).mono ?_); (case side1 => exact yq90); (case side2 => exact HC0.out); rintro e w13 ⟨rfl, hb⟩; refine ⟨_, rfl, ?_⟩; replace BK101 := Qz.mk (qu (g := gb101) (o := .cells #[.string a1_0, .int .i64 a1_1, .int .i64 a1_2] 35 (0, 0)) yq92 hb); replace HB := Qz.mk (ql yq88 hb); (try clear hb)))
   go_ret
   exact ⟨by first | rfl | (simp [qn, qm] <;> rfl) | (simp [*, qn, qm] <;> rfl), by repeat (first | (with_reducible first | exact HB.out | apply qc | apply qa | apply qb | refine qd ?_ GE101.out) | exact HB.out)⟩
  ·replace c6 := Bool.eq_false_iff.mpr c6
   subst c6
   have H1 : (some (-1)) = some r := by rw [if_neg (show ¬ (false = true) by decide)] at H; exact H
   clear H
   have H := H1
   clear H1
   obtain rfl := Option.some.inj H
   go_enter Try.func34, Try.ntmps34
   go_wp2_with (first | ((with_reducible refine qb1 (N := 3) rfl ?_); refine qz ?hg (N := 3) ?hd (cs := #[.string a1_0, .int .i64 a1_1, .int .i64 a1_2]) (t := 35) ?hr ?_; (case hd => rfl); (case hg => rfl); (case hr => first | (go_simp; done) | (go_simp; rfl)); intro gb101 hg w14 hbox hb; have BK101 := Qz.mk (hbox); have GW101 := Qz.mk ((by rw [hg]; exact (qv yq91) : w.heap.size ≤ gb101)); have GE101 := GW101; replace HB := Qz.mk (ql yq91 hb); clear hb hbox hg) | ((with_reducible refine qj (f := 43) rfl ?_); refine qt (some 8) rfl rfl Try.func43 (by kernel_rfl) rfl #[.slice A0 l0.length c0] rfl yq89 ?_; (with_reducible refine (impl_EntriesOk.calls k _ _ l0 true _ ?side1 ?side2 A3.out).mono ?_); (case side1 => exact yq90); (case side2 => exact HC0.out); rintro e w15 ⟨rfl, hb⟩; refine ⟨_, rfl, ?_⟩; replace BK101 := Qz.mk (qu (g := gb101) (o := .cells #[.string a1_0, .int .i64 a1_1, .int .i64 a1_2] 35 (0, 0)) yq92 hb); replace HB := Qz.mk (ql yq88 hb); (try clear hb); have hcz16_0 : w15.cell? ⟨gb101, 0, none⟩ = some (.string a1_0) := (qf BK101.out 0).trans rfl; have hcz16_1 : w15.cell? ⟨gb101, 1, none⟩ = some (.int .i64 a1_1) := (qf BK101.out 1).trans rfl; have hcz16_2 : w15.cell? ⟨gb101, 2, none⟩ = some (.int .i64 a1_2) := (qf BK101.out 2).trans rfl; have hfz16_0 := qe BK101.out 0; have hfz16_1 := qe BK101.out 1; have hfz16_2 := qe BK101.out 2) | (go_at_call 33; (with_reducible refine (impl_KeyOk.calls a1_0 a1_1 a1_2 false _ A5.out).mono ?_); rintro e w17 ⟨rfl, hb⟩; replace BK101 := Qz.mk (qu (g := gb101) (o := .cells #[.string a1_0, .int .i64 a1_1, .int .i64 a1_2] 35 (0, 0)) yq92 hb); replace HB := Qz.mk (ql yq88 hb); (try clear hb)))
   go_ret
   exact ⟨by first | rfl | (simp [qn, qm] <;> rfl) | (simp [*, qn, qm] <;> rfl), by repeat (first | (with_reducible first | exact HB.out | apply qc | apply qa | apply qb | refine qd ?_ GE101.out) | exact HB.out)⟩
 ·replace c4 := Bool.eq_false_iff.mpr c4
  subst c4
  have H1 : (some (-1)) = some r := by rw [if_neg (show ¬ (false = true) by decide)] at H; exact H
  clear H
  have H := H1
  clear H1
  obtain rfl := Option.some.inj H
  go_enter Try.func34, Try.ntmps34
  go_wp2_with (first | ((with_reducible refine qb1 (N := 3) rfl ?_); refine qz ?hg (N := 3) ?hd (cs := #[.string a1_0, .int .i64 a1_1, .int .i64 a1_2]) (t := 35) ?hr ?_; (case hd => rfl); (case hg => rfl); (case hr => first | (go_simp; done) | (go_simp; rfl)); intro gb101 hg w18 hbox hb; have BK101 := Qz.mk (hbox); have GW101 := Qz.mk ((by rw [hg]; exact (qv yq91) : w.heap.size ≤ gb101)); have GE101 := GW101; replace HB := Qz.mk (ql yq91 hb); clear hb hbox hg) | ((with_reducible refine qj (f := 43) rfl ?_); refine qt (some 8) rfl rfl Try.func43 (by kernel_rfl) rfl #[.slice A0 l0.length c0] rfl yq89 ?_; (with_reducible refine (impl_EntriesOk.calls k _ _ l0 false _ ?side1 ?side2 A3.out).mono ?_); (case side1 => exact yq90); (case side2 => exact HC0.out); rintro e w19 ⟨rfl, hb⟩; refine ⟨_, rfl, ?_⟩; replace BK101 := Qz.mk (qu (g := gb101) (o := .cells #[.string a1_0, .int .i64 a1_1, .int .i64 a1_2] 35 (0, 0)) yq92 hb); replace HB := Qz.mk (ql yq88 hb); (try clear hb)))
  go_ret
  exact ⟨by first | rfl | (simp [qn, qm] <;> rfl) | (simp [*, qn, qm] <;> rfl), by repeat (first | (with_reducible first | exact HB.out | apply qc | apply qa | apply qb | refine qd ?_ GE101.out) | exact HB.out)⟩
theorem yq93 {P : Prop} (h : P := by repeat (first | (with_reducible first | exact HB.out | apply qc | apply qa | apply qb | refine qd ?_ GE101.out) | exact HB.out)) : P := h
theorem yq94 {P : Prop} (h : P := by repeat (first | (with_reducible first | exact HB.out | apply qc | apply qa | apply qb) | exact HB.out)) : P := h
theorem yq95 {P : Prop} (h : P := by (with_reducible repeat (first | refine qg ?_ _ | refine qi ?_ | refine qh ?_ _)); exact BK101.out) : P := h
def impl_BlockSeek.f (k : Nat) (a0 : ByteArray) (a1_0 : ByteArray) (a1_1 : Int) (a1_2 : Int) : Option (Int × Bool) := (impl_ReadBlock.f k a0).bind fun bt102 => (if bt102.2 = true then ((impl_KeyOk.f a1_0 a1_1 a1_2).bind fun t106 => (if t106 = true then ((impl_SeekEntry.f k bt102.1 a1_0 a1_1 a1_2).bind fun t107 => (some (t107, true))) else (some (0, false)))) else (some (0, false)))
set_option maxHeartbeats 8000000 in
set_option maxRecDepth 100000 in
theorem impl_BlockSeek.calls (k : Nat) (a0 : ByteArray) (a1_0 : ByteArray) (a1_1 : Int) (a1_2 : Int) (r1 : Int) (r2 : Bool) (w : World) (h : impl_BlockSeek.f k a0 a1_0 a1_1 a1_2 = some (r1, r2)) :
  Calls Try.prog 23 #[.string a0, .agg #[.string a1_0, .int .i64 a1_1, .int .i64 a1_2]] w fun e w' => e = .returned (.tuple #[.int .i64 r1, .bool r2]) ∧ Below w.heap.size w w' := by
 have hu35 := Try.underlying35
 have HB := Qz.mk (Below.refl w.heap.size w)
 have H : ((impl_ReadBlock.f k a0).bind fun bt102 => (if bt102.2 = true then ((impl_KeyOk.f a1_0 a1_1 a1_2).bind fun t106 => (if t106 = true then ((impl_SeekEntry.f k bt102.1 a1_0 a1_1 a1_2).bind fun t107 => (some (t107, true))) else (some (0, false)))) else (some (0, false)))) = some (r1, r2) := h
 clear h
 replace H := Option.bind_eq_some_iff.mp H
 obtain ⟨⟨t102, t103⟩, A30, H⟩ := H
 replace H : (if t103 = true then ((impl_KeyOk.f a1_0 a1_1 a1_2).bind fun t106 => (if t106 = true then ((impl_SeekEntry.f k t102 a1_0 a1_1 a1_2).bind fun t107 => (some (t107, true))) else (some (0, false)))) else (some (0, false))) = some (r1, r2) := H
 have A3 := Qz.mk A30
 clear A30
 by_cases c4 : t103 = true
 ·subst c4
  have H1 : ((impl_KeyOk.f a1_0 a1_1 a1_2).bind fun t106 => (if t106 = true then ((impl_SeekEntry.f k t102 a1_0 a1_1 a1_2).bind fun t107 => (some (t107, true))) else (some (0, false)))) = some (r1, r2) := by rw [if_pos rfl] at H; exact H
  clear H
  have H := H1
  clear H1
  replace H := Option.bind_eq_some_iff.mp H
  obtain ⟨t106, A50, H⟩ := H
  replace H : (if t106 = true then ((impl_SeekEntry.f k t102 a1_0 a1_1 a1_2).bind fun t107 => (some (t107, true))) else (some (0, false))) = some (r1, r2) := H
  have A5 := Qz.mk A50
  clear A50
  by_cases c6 : t106 = true
  ·subst c6
   have H1 : ((impl_SeekEntry.f k t102 a1_0 a1_1 a1_2).bind fun t107 => (some (t107, true))) = some (r1, r2) := by rw [if_pos rfl] at H; exact H
   clear H
   have H := H1
   clear H1
   replace H := Option.bind_eq_some_iff.mp H
   obtain ⟨t107, A70, H⟩ := H
   replace H : (some (t107, true)) = some (r1, r2) := H
   have A7 := Qz.mk A70
   clear A70
   simp only [Option.some.injEq, Prod.mk.injEq] at H
   obtain ⟨rfl, rfl⟩ := H
   go_enter Try.func23, Try.ntmps23
   go_wp2_with (first | ((with_reducible refine qb1 (N := 3) rfl ?_); refine qz ?hg (N := 3) ?hd (cs := #[.string a1_0, .int .i64 a1_1, .int .i64 a1_2]) (t := 35) ?hr ?_; (case hd => rfl); (case hg => rfl); (case hr => first | (go_simp; done) | (go_simp; rfl)); intro gb101 hg w8 hbox hb; have BK101 := Qz.mk (hbox); have GW101 := Qz.mk ((by rw [hg]; exact (qv yq94) : w.heap.size ≤ gb101)); have GE101 := GW101; replace HB := Qz.mk (ql yq94 hb); clear hb hbox hg) | ((with_reducible refine qj (f := 25) rfl ?_); refine qt (some 10) rfl rfl Try.func25 (by kernel_rfl) rfl #[.string a0] rfl (by (try simp only [List.map_toArray, List.map_cons, List.map_nil]); first | done | rfl) ?_; (with_reducible refine (impl_ReadBlock.calls k a0 t102 true _ A3.out).mono ?_); rintro e w9 ⟨v104, rfl, ho0, hb⟩; refine ⟨_, rfl, ?_⟩; have HO105 := Qz.mk (Kd.R_lower ho0 (qv yq93)); replace BK101 := Qz.mk (qu (g := gb101) (o := .cells #[.string a1_0, .int .i64 a1_1, .int .i64 a1_2] 35 (0, 0)) yq95 hb); replace HB := Qz.mk (ql yq93 hb); (try clear hb); (try clear ho0); have hcz10_0 : w9.cell? ⟨gb101, 0, none⟩ = some (.string a1_0) := (qf BK101.out 0).trans rfl; have hcz10_1 : w9.cell? ⟨gb101, 1, none⟩ = some (.int .i64 a1_1) := (qf BK101.out 1).trans rfl; have hcz10_2 : w9.cell? ⟨gb101, 2, none⟩ = some (.int .i64 a1_2) := (qf BK101.out 2).trans rfl; have hfz10_0 := qe BK101.out 0; have hfz10_1 := qe BK101.out 1; have hfz10_2 := qe BK101.out 2) | (go_at_call 33; (with_reducible refine (impl_KeyOk.calls a1_0 a1_1 a1_2 true _ A5.out).mono ?_); rintro e w11 ⟨rfl, hb⟩; replace HO105 := Qz.mk (Kd.R_below (by (with_reducible repeat (first | apply Kd.R_alloc | apply Kd.R_drewN | apply Kd.R_drew)); exact HO105.out) hb); replace BK101 := Qz.mk (qu (g := gb101) (o := .cells #[.string a1_0, .int .i64 a1_1, .int .i64 a1_2] 35 (0, 0)) yq95 hb); replace HB := Qz.mk (ql yq93 hb); (try clear hb); have hcz12_0 : w11.cell? ⟨gb101, 0, none⟩ = some (.string a1_0) := (qf BK101.out 0).trans rfl; have hcz12_1 : w11.cell? ⟨gb101, 1, none⟩ = some (.int .i64 a1_1) := (qf BK101.out 1).trans rfl; have hcz12_2 : w11.cell? ⟨gb101, 2, none⟩ = some (.int .i64 a1_2) := (qf BK101.out 2).trans rfl; have hfz12_0 := qe BK101.out 0; have hfz12_1 := qe BK101.out 1; have hfz12_2 := qe BK101.out 2; obtain ⟨Ao13, co13, eo13⟩ := Kd.R_slice HO105.out; subst eo13) | ((with_reducible refine qj (f := 34) rfl ?_); refine qt (some 22) rfl rfl Try.func34 (by kernel_rfl) rfl #[.slice Ao13 t102.length co13, .agg #[.string a1_0, .int .i64 a1_1, .int .i64 a1_2]] rfl (by (try simp only [List.map_toArray, List.map_cons, List.map_nil]); first | done | rfl | (simp only [List.length_drop, List.length_take]; rfl) | (rw [IntWalk.u64_in _ (by omega)] <;> rfl)) ?_; (with_reducible refine (impl_SeekEntry.calls k _ _ t102 a1_0 a1_1 a1_2 t107 _ ?side1 ?side2 A7.out).mono ?_); (case side1 => repeat (first | exact (Kd.R_reads' HO105.out).2.2 | (with_reducible refine Kd.C_alloc ?_ _) | (with_reducible refine Kd.C_drewN ?_ _) | (with_reducible refine Kd.C_drew ?_))); (case side2 => exact (Kd.R_reads' HO105.out).2.1); rintro e w14 ⟨rfl, hb⟩; refine ⟨_, rfl, ?_⟩; replace HO105 := Qz.mk (Kd.R_below (by (with_reducible repeat (first | apply Kd.R_alloc | apply Kd.R_drewN | apply Kd.R_drew)); exact HO105.out) hb); replace BK101 := Qz.mk (qu (g := gb101) (o := .cells #[.string a1_0, .int .i64 a1_1, .int .i64 a1_2] 35 (0, 0)) yq95 hb); replace HB := Qz.mk (ql yq93 hb); (try clear hb)))
   go_ret2
   exact ⟨by first | rfl | (simp [qn, qm] <;> rfl) | (simp [*, qn, qm] <;> rfl), by repeat (first | (with_reducible first | exact HB.out | apply qc | apply qa | apply qb | refine qd ?_ GE101.out) | exact HB.out)⟩
  ·replace c6 := Bool.eq_false_iff.mpr c6
   subst c6
   have H1 : (some (0, false)) = some (r1, r2) := by rw [if_neg (show ¬ (false = true) by decide)] at H; exact H
   clear H
   have H := H1
   clear H1
   simp only [Option.some.injEq, Prod.mk.injEq] at H
   obtain ⟨rfl, rfl⟩ := H
   go_enter Try.func23, Try.ntmps23
   go_wp2_with (first | ((with_reducible refine qb1 (N := 3) rfl ?_); refine qz ?hg (N := 3) ?hd (cs := #[.string a1_0, .int .i64 a1_1, .int .i64 a1_2]) (t := 35) ?hr ?_; (case hd => rfl); (case hg => rfl); (case hr => first | (go_simp; done) | (go_simp; rfl)); intro gb101 hg w15 hbox hb; have BK101 := Qz.mk (hbox); have GW101 := Qz.mk ((by rw [hg]; exact (qv yq94) : w.heap.size ≤ gb101)); have GE101 := GW101; replace HB := Qz.mk (ql yq94 hb); clear hb hbox hg) | ((with_reducible refine qj (f := 25) rfl ?_); refine qt (some 10) rfl rfl Try.func25 (by kernel_rfl) rfl #[.string a0] rfl (by (try simp only [List.map_toArray, List.map_cons, List.map_nil]); first | done | rfl) ?_; (with_reducible refine (impl_ReadBlock.calls k a0 t102 true _ A3.out).mono ?_); rintro e w16 ⟨v104, rfl, ho0, hb⟩; refine ⟨_, rfl, ?_⟩; have HO105 := Qz.mk (Kd.R_lower ho0 (qv yq93)); replace BK101 := Qz.mk (qu (g := gb101) (o := .cells #[.string a1_0, .int .i64 a1_1, .int .i64 a1_2] 35 (0, 0)) yq95 hb); replace HB := Qz.mk (ql yq93 hb); (try clear hb); (try clear ho0); have hcz17_0 : w16.cell? ⟨gb101, 0, none⟩ = some (.string a1_0) := (qf BK101.out 0).trans rfl; have hcz17_1 : w16.cell? ⟨gb101, 1, none⟩ = some (.int .i64 a1_1) := (qf BK101.out 1).trans rfl; have hcz17_2 : w16.cell? ⟨gb101, 2, none⟩ = some (.int .i64 a1_2) := (qf BK101.out 2).trans rfl; have hfz17_0 := qe BK101.out 0; have hfz17_1 := qe BK101.out 1; have hfz17_2 := qe BK101.out 2) | (go_at_call 33; (with_reducible refine (impl_KeyOk.calls a1_0 a1_1 a1_2 false _ A5.out).mono ?_); rintro e w18 ⟨rfl, hb⟩; replace HO105 := Qz.mk (Kd.R_below (by (with_reducible repeat (first | apply Kd.R_alloc | apply Kd.R_drewN | apply Kd.R_drew)); exact HO105.out) hb); replace BK101 := Qz.mk (qu (g := gb101) (o := .cells #[.string a1_0, .int .i64 a1_1, .int .i64 a1_2] 35 (0, 0)) yq95 hb); replace HB := Qz.mk (ql yq93 hb); (try clear hb)))
   go_ret2
   exact ⟨by first | rfl | (simp [qn, qm] <;> rfl) | (simp [*, qn, qm] <;> rfl), by repeat (first | (with_reducible first | exact HB.out | apply qc | apply qa | apply qb | refine qd ?_ GE101.out) | exact HB.out)⟩
 ·replace c4 := Bool.eq_false_iff.mpr c4
  subst c4
  have H1 : (some (0, false)) = some (r1, r2) := by rw [if_neg (show ¬ (false = true) by decide)] at H; exact H
  clear H
  have H := H1
  clear H1
  simp only [Option.some.injEq, Prod.mk.injEq] at H
  obtain ⟨rfl, rfl⟩ := H
  go_enter Try.func23, Try.ntmps23
  go_wp2_with (first | ((with_reducible refine qb1 (N := 3) rfl ?_); refine qz ?hg (N := 3) ?hd (cs := #[.string a1_0, .int .i64 a1_1, .int .i64 a1_2]) (t := 35) ?hr ?_; (case hd => rfl); (case hg => rfl); (case hr => first | (go_simp; done) | (go_simp; rfl)); intro gb101 hg w19 hbox hb; have BK101 := Qz.mk (hbox); have GW101 := Qz.mk ((by rw [hg]; exact (qv yq94) : w.heap.size ≤ gb101)); have GE101 := GW101; replace HB := Qz.mk (ql yq94 hb); clear hb hbox hg) | ((with_reducible refine qj (f := 25) rfl ?_); refine qt (some 10) rfl rfl Try.func25 (by kernel_rfl) rfl #[.string a0] rfl (by (try simp only [List.map_toArray, List.map_cons, List.map_nil]); first | done | rfl) ?_; (with_reducible refine (impl_ReadBlock.calls k a0 t102 false _ A3.out).mono ?_); rintro e w20 ⟨v104, rfl, ho0, hb⟩; refine ⟨_, rfl, ?_⟩; have HO105 := Qz.mk (Kd.R_lower ho0 (qv yq93)); replace BK101 := Qz.mk (qu (g := gb101) (o := .cells #[.string a1_0, .int .i64 a1_1, .int .i64 a1_2] 35 (0, 0)) yq95 hb); replace HB := Qz.mk (ql yq93 hb); (try clear hb); (try clear ho0)))
  go_ret2
  exact ⟨by first | rfl | (simp [qn, qm] <;> rfl) | (simp [*, qn, qm] <;> rfl), by repeat (first | (with_reducible first | exact HB.out | apply qc | apply qa | apply qb | refine qd ?_ GE101.out) | exact HB.out)⟩
def laws_big.f (l0 : List Int) : Option (Bool) := some (decide ((l0.length : Int) > 1048576))
set_option maxHeartbeats 8000000 in
set_option maxRecDepth 100000 in
theorem laws_big.calls (A0 : Option Addr) (c0 : Nat) (l0 : List Int) (r : Bool) (w : World) (hr0 : Kd.C (Kd.int .u8) w A0 l0.length l0) (hc0 : l0.length ≤ c0) (h : laws_big.f l0 = some r) :
  Calls Try.prog 28 #[.slice A0 l0.length c0] w fun e w' => e = .returned (.bool r) ∧ Drawn0 w w' := by
 have HR0 := Qz.mk hr0
 have HC0 := Qz.mk hc0
 clear hr0 hc0
 have H : (some (decide ((l0.length : Int) > 1048576))) = some r := h
 clear h
 obtain rfl := Option.some.inj H
 go_enter Try.func28, Try.ntmps28
 go_wp2
 go_ret
 exact ⟨by first | rfl | (simp; done) | (simp [*]; done), by repeat (first | exact Drawn0.refl _ | apply Drawn0.step)⟩
def IsS178 (w0 W : World) (g : Nat) (f0 : List Int) (f1 : Int) : Prop := ∃ A0 c0, W.heap[g]? = some (.cells #[.slice A0 f0.length c0, .int .i64 f1] 178 (0, 0)) ∧ w0.heap.size ≤ g ∧ Kd.C (Kd.int .u8) w0 A0 f0.length f0
theorem IsS178.grown {w0 W : World} {g : Nat} {f0 : List Int} {f1 : Int} {W1 : World} {row : Option Nat} (h : IsS178 w0 W g f0 f1) (hw : W.grownBy W1 row) (hne : some g ≠ row) : IsS178 w0 W1 g f0 f1 := by
 obtain ⟨A0, c0, hb, hg, hr0⟩ := h
 exact ⟨A0, c0, blk_grown hb hw hne, hg, hr0⟩
theorem IsS178.kept {w0 W : World} {g : Nat} {f0 : List Int} {f1 : Int} {W1 : World} {S : Nat → Prop} (h : IsS178 w0 W g f0 f1) (hk : Kept W W1 S) (hne : ¬ S g) : IsS178 w0 W1 g f0 f1 := by
 obtain ⟨A0, c0, hb, hg, hr0⟩ := h
 exact ⟨A0, c0, blk_kept hb hk hne, hg, hr0⟩
theorem IsS178.below {w0 W : World} {g : Nat} {f0 : List Int} {f1 : Int} {W1 : World} (h : IsS178 w0 W g f0 f1) (hw : Below W.heap.size W W1) : IsS178 w0 W1 g f0 f1 := h.grown (grown_of_below hw none) (by simp)
theorem IsS178.alloc {w0 W : World} {g : Nat} {f0 : List Int} {f1 : Int} (h : IsS178 w0 W g f0 f1) (o : Obj) : IsS178 w0 (W.alloc o) g f0 f1 := h.below (qc (Below.refl _ _) o)
theorem IsS178.drewN {w0 W : World} {g : Nat} {f0 : List Int} {f1 : Int} (h : IsS178 w0 W g f0 f1) (m : Nat) : IsS178 w0 (W.drewN m) g f0 f1 := h
theorem IsS178.drew {w0 W : World} {g : Nat} {f0 : List Int} {f1 : Int} (h : IsS178 w0 W g f0 f1) : IsS178 w0 W.drew g f0 f1 := h
theorem IsS178.at_ {w0 W : World} {g : Nat} {f0 : List Int} {f1 : Int} {w' : World} {m : Nat} (hq : W.drewN m = w') (h : IsS178 w0 W g f0 f1) : IsS178 w0 w' g f0 f1 := by subst hq; exact IsS178.drewN h m
theorem IsS178.apart {w0 W : World} {g : Nat} {f0 : List Int} {f1 : Int} {α : Type} {d : Kd α} {e : Nat} {base : Nat} {ok : Nat → Prop} {v : Value} {xs : List α} (h : IsS178 w0 W g f0 f1) (ho : d.R e W base ok v xs) (ht : ∀ q, q ∈ e :: d.E → q ≠ 178) : d.R e W base (fun k => ok k ∧ k ≠ g) v xs := by
 obtain ⟨A0, c0, hb, hg, hr0⟩ := h
 exact Kd.R_types ho hb ht
theorem IsS178.own_ne {w0 W : World} {g : Nat} {f0 : List Int} {f1 : Int} {α : Type} {d : Kd α} {e : Nat} {base : Nat} {ok : Nat → Prop} {v : Value} {xs : List α} (h : IsS178 w0 W g f0 f1) (ho : d.R e W base ok v xs) (ht : e ≠ 178) : some g ≠ v.ownBlock := by
 obtain ⟨A0, c0, hb, hg, hr0⟩ := h
 exact Kd.R_ne ho hb ht
theorem IsS178.lt {w0 W : World} {g : Nat} {f0 : List Int} {f1 : Int} (h : IsS178 w0 W g f0 f1) : g < W.heap.size := by
 obtain ⟨A0, c0, hb, hg, hr0⟩ := h
 exact blk_lt hb
theorem IsS178.ge {w0 W : World} {g : Nat} {f0 : List Int} {f1 : Int} (h : IsS178 w0 W g f0 f1) : w0.heap.size ≤ g := by
 obtain ⟨A0, c0, hb, hg, hr0⟩ := h
 exact hg
theorem IsS178.ne_blk {w0 W : World} {g : Nat} {f0 : List Int} {f1 : Int} {a : Nat} {cs : Array Value} {t : TypeId} {fr : Nat × Nat} (h : IsS178 w0 W g f0 f1) (hb2 : W.heap[a]? = some (.cells cs t fr)) (ht : t ≠ 178) : g ≠ a := by
 obtain ⟨A0, c0, hb, hg, hr0⟩ := h
 rintro rfl
 rw [hb] at hb2
 injection hb2 with hb2
 injection hb2 with _ ht2
 exact ht ht2.symm
theorem IsS178.far {w0 W : World} {g : Nat} {f0 : List Int} {f1 : Int} {p : Addr} (h : IsS178 w0 W g f0 f1) (hne : g ≠ p.block) (u : Value) : IsS178 w0 (W.setCell p u) g f0 f1 := by
 obtain ⟨A0, c0, hb, hg, hr0⟩ := h
 exact ⟨A0, c0, blk_far hb hne u, hg, hr0⟩
theorem cellS178_0 {W : World} {g : Nat} {A0 : Option Addr} {c0 : Nat} {f0 : List Int} {f1 : Int} (h : W.heap[g]? = some (.cells #[.slice A0 f0.length c0, .int .i64 f1] 178 (0, 0))) : W.cell? ⟨g, 0, none⟩ = some (.slice A0 f0.length c0) := (qf h 0).trans rfl
theorem cellS178_1 {W : World} {g : Nat} {A0 : Option Addr} {c0 : Nat} {f0 : List Int} {f1 : Int} (h : W.heap[g]? = some (.cells #[.slice A0 f0.length c0, .int .i64 f1] 178 (0, 0))) : W.cell? ⟨g, 1, none⟩ = some (.int .i64 f1) := (qf h 1).trans rfl
theorem IsS178.set_1 {w0 W : World} {g : Nat} {f0 : List Int} {f1 : Int} (h : IsS178 w0 W g f0 f1) (x : Int) : IsS178 w0 (W.setCell ⟨g, 1, none⟩ (.int .i64 x)) g f0 x := by
 obtain ⟨A0, c0, hb, hg, hr0⟩ := h
 exact ⟨A0, c0, by simpa using blk_set hb 1 (.int .i64 x), hg, hr0⟩
def spec_l1Open.f (l0 : List Int) : Option (List Int × Int) := some (l0, 0)
set_option maxHeartbeats 8000000 in
set_option maxRecDepth 100000 in
theorem spec_l1Open.calls (A0 : Option Addr) (c0 : Nat) (l0 : List Int) (r1 : List Int) (r2 : Int) (w0 w : World) (hB : Below w0.heap.size w0 w) (hr0 : Kd.C (Kd.int .u8) w0 A0 l0.length l0) (hc0 : l0.length ≤ c0) (h : spec_l1Open.f l0 = some (r1, r2)) :
  Calls Try.prog 90 #[.slice A0 l0.length c0] w fun e w' => ∃ g_ : Nat, e = .returned (.pointer (some ⟨g_, 0, none⟩)) ∧ IsS178 w0 w' g_ r1 r2 ∧ Below w0.heap.size w0 w' ∧ Below w.heap.size w w' := by
 have hu178 := Try.underlying178
 have HR0 := Qz.mk hr0
 have HC0 := Qz.mk hc0
 clear hr0 hc0
 have HBW := Qz.mk (Below.refl w.heap.size w)
 have HW0 := Qz.mk hB.size
 have HB := Qz.mk hB
 clear hB
 have H : (some (l0, 0)) = some (r1, r2) := h
 clear h
 simp only [Option.some.injEq, Prod.mk.injEq] at H
 obtain ⟨rfl, rfl⟩ := H
 go_enter Try.func90, Try.ntmps90
 go_wp2_with (first | ((with_reducible refine qb1 (N := 5) rfl ?_); refine qz ?hg (N := 5) ?hd (cs := #[.slice A0 l0.length c0, .int .i64 0]) (t := 178) ?hr ?_; (case hd => rfl); (case hg => rfl); (case hr => first | (go_simp; done) | (go_simp; rfl)); intro gb101 hg w2 hbox hb; replace HB := Qz.mk (ql (by repeat (first | (with_reducible first | exact HB.out | apply qc | apply qa | apply qb) | exact HB.out)) hb); have BK101 := Qz.mk (hbox); have GW101 := Qz.mk ((by rw [hg]; exact (qv (by repeat (first | (with_reducible first | exact HBW.out | apply qc | apply qa | apply qb) | exact HBW.out))) : w.heap.size ≤ gb101)); have GE101 := Qz.mk ((Nat.le_trans HW0.out (by rw [hg]; exact (qv (by repeat (first | (with_reducible first | exact HBW.out | apply qc | apply qa | apply qb) | exact HBW.out))) : w.heap.size ≤ gb101) : w0.heap.size ≤ gb101)); replace HBW := Qz.mk (ql HBW.out hb); clear hb hbox hg))
 go_ret
 exact ⟨_, rfl, (show IsS178 w0 _ gb101 l0 0 from ⟨_, _, by (with_reducible repeat (first | refine qg ?_ _ | refine qi ?_ | refine qh ?_ _)); exact BK101.out, GE101.out, HR0.out⟩), by repeat (first | (with_reducible first | exact HB.out | apply qc | apply qa | apply qb | refine qd ?_ GE101.out) | exact HB.out), by repeat (first | (with_reducible first | exact HBW.out | apply qc | apply qa | apply qb | refine qd ?_ GW101.out) | exact HBW.out)⟩
def spec_l1Rd_next.f (s0_0 : List Int) (s0_1 : Int) : Option (Int × Int) := if s0_1 ≥ (s0_0.length : Int) then (some (0, s0_1)) else (if 0 ≤ (wrap64 ((wrap64 (s0_1 + 1)) - 1)) then (if (wrap64 ((wrap64 (s0_1 + 1)) - 1)) < (s0_0.length : Int) then (some (wrap64 (rd s0_0 (wrap64 ((wrap64 (s0_1 + 1)) - 1))), wrap64 (s0_1 + 1))) else (none)) else (none))
set_option maxHeartbeats 8000000 in
set_option maxRecDepth 100000 in
theorem spec_l1Rd_next.calls (g : Nat) (s0_0 : List Int) (s0_1 : Int) (r1 : Int) (r2 : Int) (w0 w : World) (hI : IsS178 w0 w g s0_0 s0_1) (hB : Below w0.heap.size w0 w) (h : spec_l1Rd_next.f s0_0 s0_1 = some (r1, r2)) :
  Calls Try.prog 171 #[.pointer (some ⟨g, 0, none⟩)] w fun e w' => e = .returned (.int .i64 r1) ∧ IsS178 w0 w' g s0_0 r2 ∧ Below w0.heap.size w0 w' ∧ KeepBut w w' g none := by
 have HI0 := Qz.mk hI
 have HK := Qz.mk (KeepBut.refl w g none)
 have HL := Qz.mk hB.size
 clear hI
 have HW0 := Qz.mk hB.size
 have HB := Qz.mk hB
 clear hB
 have H : (if s0_1 ≥ (s0_0.length : Int) then (some (0, s0_1)) else (if 0 ≤ (wrap64 ((wrap64 (s0_1 + 1)) - 1)) then (if (wrap64 ((wrap64 (s0_1 + 1)) - 1)) < (s0_0.length : Int) then (some (wrap64 (rd s0_0 (wrap64 ((wrap64 (s0_1 + 1)) - 1))), wrap64 (s0_1 + 1))) else (none)) else (none))) = some (r1, r2) := h
 clear h
 by_cases c2 : s0_1 ≥ (s0_0.length : Int)
 ·rw [if_pos c2] at H
  have c2b0 : decide ((s0_0.length : Int) ≤ s0_1) = true := decide_eq_true c2
  clear c2
  simp only [Option.some.injEq, Prod.mk.injEq] at H
  obtain ⟨rfl, rfl⟩ := H
  obtain ⟨ASz3_0, cSz3_0, HGz3, hgz3, HSz3_0⟩ := HI0.out
  have hcz3_0 := cellS178_0 HGz3
  have hcz3_1 := cellS178_1 HGz3
  have hfz3_1 := qe HGz3 1
  clear HGz3 hgz3
  go_enter Try.func171, Try.ntmps171
  go_wp2
  repeat (go_quiet (fail); try go_wp2)
  go_ret
  exact ⟨by first | rfl | (simp [qn, qm] <;> rfl) | (simp [*, qn, qm] <;> rfl), by repeat (first | (with_reducible first | exact HI0.out | apply IsS178.alloc | apply IsS178.drewN | apply IsS178.drew | apply IsS178.set_1) | exact HI0.out), by repeat (first | (with_reducible first | exact HB.out | apply qc | apply qa | apply qb | refine qd ?_ (IsS178.ge HI0.out)) | exact HB.out), by repeat (first | (with_reducible first | exact HK.out | apply KeepBut.set_ | apply qo | apply qq | apply qp) | exact HK.out)⟩
 ·rw [if_neg c2] at H
  have c2b0 : decide ((s0_0.length : Int) ≤ s0_1) = false := decide_eq_false c2
  clear c2
  obtain ⟨ji4, hji4⟩ : ∃ j_ : Int, (wrap64 ((wrap64 (s0_1 + 1)) - 1)) = j_ := ⟨_, rfl⟩
  replace H : (if 0 ≤ (ji4) then (if (ji4) < (s0_0.length : Int) then (some (wrap64 (rd s0_0 (ji4)), wrap64 (s0_1 + 1))) else (none)) else (none)) = some (r1, r2) := by first | (rw [hji4] at H; exact H) | (simp only [hji4] at H ⊢; exact H)
  have hji4w : (IntKind.i64.wrap ((wrap64 (s0_1 + 1)) - 1)) = ji4 := (i64_w _).trans hji4
  by_cases c5 : 0 ≤ (ji4)
  ·rw [if_pos c5] at H
   have c5b0 : decide (0 ≤ (ji4)) = true := decide_eq_true c5
   clear c5
   by_cases c6 : (ji4) < (s0_0.length : Int)
   ·rw [if_pos c6] at H
    have c6b0 : decide ((ji4) < (s0_0.length : Int)) = true := decide_eq_true c6
    clear c6
    simp only [Option.some.injEq, Prod.mk.injEq] at H
    obtain ⟨rfl, rfl⟩ := H
    obtain ⟨ASz7_0, cSz7_0, HGz7, hgz7, HSz7_0⟩ := HI0.out
    have hcz7_0 := cellS178_0 HGz7
    have hcz7_1 := cellS178_1 HGz7
    have hfz7_1 := qe HGz7 1
    clear HGz7 hgz7
    have p101 : 0 ≤ ((ji4) : Int) := of_decide_eq_true (by first | (with_reducible assumption) | assumption)
    have q101 : (ji4) < (s0_0.length : Int) := of_decide_eq_true (by first | (with_reducible assumption) | assumption)
    obtain ⟨ad101, e101, hx101_0⟩ := Kd.at_int HSz7_0 (ji4) p101 q101
    cases e101
    have hn101_0 : ad101.block ≠ g := Nat.ne_of_lt (Nat.lt_of_lt_of_le (by have := World.block_lt_of_cell? _ _ hx101_0; first | rwa [add_block] at this | exact this) (IsS178.ge HI0.out))
    replace hx101_0 := pw_cell_below HB.out hx101_0
    replace hx101_0 := (cell_far (p := ⟨g, 1, none⟩) (by first | (rw [add_block]; exact hn101_0) | (show (Addr.add _ _).block ≠ _; rw [add_block]; exact hn101_0) | exact hn101_0) (.int .i64 (wrap64 (s0_1 + 1)))).trans hx101_0
    (try have hy101_0 := fun (n_ : Nat) => (show (((w.drewN n_).setCell ⟨g, 1, none⟩ (.int .i64 (wrap64 (s0_1 + 1))))).cell? _ = some _ from hx101_0))
    clear hn101_0
    replace p101 := eq_true p101
    replace q101 := eq_true q101
    go_enter Try.func171, Try.ntmps171
    go_wp2
    repeat (go_quiet (fail); try go_wp2)
    go_ret
    exact ⟨by first | rfl | (simp [qn, qm] <;> rfl) | (simp only [← hji4]; first | rfl | (simp [qn, qm] <;> rfl)) | (simp [*, qn, qm] <;> rfl), by repeat (first | (with_reducible first | exact HI0.out | apply IsS178.alloc | apply IsS178.drewN | apply IsS178.drew | apply IsS178.set_1) | exact HI0.out), by repeat (first | (with_reducible first | exact HB.out | apply qc | apply qa | apply qb | refine qd ?_ (IsS178.ge HI0.out)) | exact HB.out), by repeat (first | (with_reducible first | exact HK.out | apply KeepBut.set_ | apply qo | apply qq | apply qp) | exact HK.out)⟩
   ·rw [if_neg c6] at H
    exact absurd H (by simp)
  ·rw [if_neg c5] at H
   exact absurd H (by simp)
theorem yq96 {P : Prop} (h : P := by repeat (first | (with_reducible first | exact HI0.out | apply IsS178.alloc | apply IsS178.drewN | apply IsS178.drew | apply IsS178.set_1) | exact HI0.out)) : P := h
theorem yq97 {P : Prop} (h : P := by repeat (first | (with_reducible first | exact HB.out | apply qc | apply qa | apply qb | refine qd ?_ (IsS178.ge HI0.out)) | exact HB.out)) : P := h
theorem yq98 {P : Prop} (h : P := by repeat (first | (with_reducible first | exact HK.out | apply KeepBut.set_ | apply qo | apply qq | apply qp) | exact HK.out)) : P := h
def spec_l1Rd_below.f (s0_0 : List Int) (s0_1 : Int) (a1 : Int) : Option (Int × Int) := if a1 ≤ 1 then (some (0, s0_1)) else (if a1 ≤ 256 then ((spec_l1Rd_next.f s0_0 s0_1).bind fun bt101 => (if a1 = 0 then (none) else (some (Int.tmod bt101.1 a1, bt101.2)))) else ((spec_l1Rd_next.f s0_0 s0_1).bind fun bt103 => ((spec_l1Rd_next.f s0_0 bt103.2).bind fun bt105 => (if a1 = 0 then (none) else (some (Int.tmod (wrap64 ((wrap64 (bt103.1 * 256)) + bt105.1)) a1, bt105.2))))))
set_option maxHeartbeats 8000000 in
set_option maxRecDepth 100000 in
theorem spec_l1Rd_below.calls (g : Nat) (s0_0 : List Int) (s0_1 : Int) (a1 : Int) (r1 : Int) (r2 : Int) (w0 w : World) (hI : IsS178 w0 w g s0_0 s0_1) (hB : Below w0.heap.size w0 w) (h : spec_l1Rd_below.f s0_0 s0_1 a1 = some (r1, r2)) :
  Calls Try.prog 119 #[.pointer (some ⟨g, 0, none⟩), .int .i64 a1] w fun e w' => e = .returned (.int .i64 r1) ∧ IsS178 w0 w' g s0_0 r2 ∧ Below w0.heap.size w0 w' ∧ KeepBut w w' g none := by
 have HI0 := Qz.mk hI
 have HK := Qz.mk (KeepBut.refl w g none)
 have HL := Qz.mk hB.size
 clear hI
 have HW0 := Qz.mk hB.size
 have HB := Qz.mk hB
 clear hB
 have H : (if a1 ≤ 1 then (some (0, s0_1)) else (if a1 ≤ 256 then ((spec_l1Rd_next.f s0_0 s0_1).bind fun bt101 => (if a1 = 0 then (none) else (some (Int.tmod bt101.1 a1, bt101.2)))) else ((spec_l1Rd_next.f s0_0 s0_1).bind fun bt103 => ((spec_l1Rd_next.f s0_0 bt103.2).bind fun bt105 => (if a1 = 0 then (none) else (some (Int.tmod (wrap64 ((wrap64 (bt103.1 * 256)) + bt105.1)) a1, bt105.2))))))) = some (r1, r2) := h
 clear h
 by_cases c3 : a1 ≤ 1
 ·rw [if_pos c3] at H
  have c3b0 : decide (a1 ≤ 1) = true := decide_eq_true c3
  clear c3
  simp only [Option.some.injEq, Prod.mk.injEq] at H
  obtain ⟨rfl, rfl⟩ := H
  go_enter Try.func119, Try.ntmps119
  go_wp2
  go_ret
  exact ⟨by first | rfl | (simp [qn, qm] <;> rfl) | (simp [*, qn, qm] <;> rfl), by repeat (first | (with_reducible first | exact HI0.out | apply IsS178.alloc | apply IsS178.drewN | apply IsS178.drew | apply IsS178.set_1) | exact HI0.out), by repeat (first | (with_reducible first | exact HB.out | apply qc | apply qa | apply qb | refine qd ?_ (IsS178.ge HI0.out)) | exact HB.out), by repeat (first | (with_reducible first | exact HK.out | apply KeepBut.set_ | apply qo | apply qq | apply qp) | exact HK.out)⟩
 ·rw [if_neg c3] at H
  have c3b0 : decide (a1 ≤ 1) = false := decide_eq_false c3
  clear c3
  by_cases c4 : a1 ≤ 256
  ·rw [if_pos c4] at H
   have c4b0 : decide (a1 ≤ 256) = true := decide_eq_true c4
   clear c4
   replace H := Option.bind_eq_some_iff.mp H
   obtain ⟨⟨t101, t102⟩, A50, H⟩ := H
   replace H : (if a1 = 0 then (none) else (some (Int.tmod t101 a1, t102))) = some (r1, r2) := H
   have A5 := Qz.mk A50
   clear A50
   by_cases c6 : a1 = 0
   ·rw [if_pos c6] at H
    exact absurd H (by simp)
   ·rw [if_neg c6] at H
    have c6b0 : (a1 == 0) = false := beq_eq_false_iff_ne.mpr c6
    have c6b1 : (a1 != 0) = true := bne_iff_ne.mpr c6
    simp only [Option.some.injEq, Prod.mk.injEq] at H
    obtain ⟨rfl, rfl⟩ := H
    go_enter Try.func119, Try.ntmps119
    go_wp2_with (first | ((with_reducible refine qj (f := 171) rfl ?_); refine qt (some 11) rfl rfl Try.func171 (by kernel_rfl) rfl #[.pointer (some ⟨g, 0, none⟩)] rfl (by (try simp only [List.map_toArray, List.map_cons, List.map_nil]); first | done | rfl) ?_; (with_reducible refine (spec_l1Rd_next.calls g s0_0 s0_1 t101 t102 w0 _ ?side1 ?side2 A5.out).mono ?_); (case side1 => exact yq96); (case side2 => exact yq97); rintro e w7 ⟨rfl, hi, hb, hk⟩; refine ⟨_, rfl, ?_⟩; replace HK := Qz.mk (KeepBut.trans yq98 hk (.inl rfl)); replace HB := Qz.mk (hb); replace HI0 := Qz.mk (hi); (try clear hb); (try clear hk); (try clear hi)))
    go_ret
    exact ⟨by first | rfl | (simp [qn, qm] <;> rfl) | (simp [*, qn, qm] <;> rfl), by repeat (first | (with_reducible first | exact HI0.out | apply IsS178.alloc | apply IsS178.drewN | apply IsS178.drew | apply IsS178.set_1) | exact HI0.out), by repeat (first | (with_reducible first | exact HB.out | apply qc | apply qa | apply qb | refine qd ?_ (IsS178.ge HI0.out)) | exact HB.out), by repeat (first | (with_reducible first | exact HK.out | apply KeepBut.set_ | apply qo | apply qq | apply qp) | exact HK.out)⟩
  ·rw [if_neg c4] at H
   have c4b0 : decide (a1 ≤ 256) = false := decide_eq_false c4
   clear c4
   replace H := Option.bind_eq_some_iff.mp H
   obtain ⟨⟨t103, t104⟩, A80, H⟩ := H
   replace H : ((spec_l1Rd_next.f s0_0 t104).bind fun bt105 => (if a1 = 0 then (none) else (some (Int.tmod (wrap64 ((wrap64 (t103 * 256)) + bt105.1)) a1, bt105.2)))) = some (r1, r2) := H
   have A8 := Qz.mk A80
   clear A80
   replace H := Option.bind_eq_some_iff.mp H
   obtain ⟨⟨t105, t106⟩, A90, H⟩ := H
   replace H : (if a1 = 0 then (none) else (some (Int.tmod (wrap64 ((wrap64 (t103 * 256)) + t105)) a1, t106))) = some (r1, r2) := H
   have A9 := Qz.mk A90
   clear A90
   by_cases c10 : a1 = 0
   ·rw [if_pos c10] at H
    exact absurd H (by simp)
   ·rw [if_neg c10] at H
    have c10b0 : (a1 == 0) = false := beq_eq_false_iff_ne.mpr c10
    have c10b1 : (a1 != 0) = true := bne_iff_ne.mpr c10
    simp only [Option.some.injEq, Prod.mk.injEq] at H
    obtain ⟨rfl, rfl⟩ := H
    go_enter Try.func119, Try.ntmps119
    go_wp2_with (first | ((with_reducible refine qj (f := 171) rfl ?_); refine qt (some 15) rfl rfl Try.func171 (by kernel_rfl) rfl #[.pointer (some ⟨g, 0, none⟩)] rfl (by (try simp only [List.map_toArray, List.map_cons, List.map_nil]); first | done | rfl) ?_; (with_reducible refine (spec_l1Rd_next.calls g s0_0 s0_1 t103 t104 w0 _ ?side1 ?side2 A8.out).mono ?_); (case side1 => exact yq96); (case side2 => exact yq97); rintro e w11 ⟨rfl, hi, hb, hk⟩; refine ⟨_, rfl, ?_⟩; replace HK := Qz.mk (KeepBut.trans yq98 hk (.inl rfl)); replace HB := Qz.mk (hb); replace HI0 := Qz.mk (hi); (try clear hb); (try clear hk); (try clear hi)) | ((with_reducible refine qj (f := 171) rfl ?_); refine qt (some 19) rfl rfl Try.func171 (by kernel_rfl) rfl #[.pointer (some ⟨g, 0, none⟩)] rfl (by (try simp only [List.map_toArray, List.map_cons, List.map_nil]); first | done | rfl) ?_; (with_reducible refine (spec_l1Rd_next.calls g s0_0 t104 t105 t106 w0 _ ?side1 ?side2 A9.out).mono ?_); (case side1 => exact yq96); (case side2 => exact yq97); rintro e w12 ⟨rfl, hi, hb, hk⟩; refine ⟨_, rfl, ?_⟩; replace HK := Qz.mk (KeepBut.trans yq98 hk (.inl rfl)); replace HB := Qz.mk (hb); replace HI0 := Qz.mk (hi); (try clear hb); (try clear hk); (try clear hi)))
    go_ret
    exact ⟨by first | rfl | (simp [qn, qm] <;> rfl) | (simp [*, qn, qm] <;> rfl), by repeat (first | (with_reducible first | exact HI0.out | apply IsS178.alloc | apply IsS178.drewN | apply IsS178.drew | apply IsS178.set_1) | exact HI0.out), by repeat (first | (with_reducible first | exact HB.out | apply qc | apply qa | apply qb | refine qd ?_ (IsS178.ge HI0.out)) | exact HB.out), by repeat (first | (with_reducible first | exact HK.out | apply KeepBut.set_ | apply qo | apply qq | apply qp) | exact HK.out)⟩
theorem yq99 {P : Prop} (h : P := by repeat (first | (with_reducible first | exact HK.out | apply KeepBut.set_ | apply qo | apply qq | apply qp) | exact HK.out)) : P := h
theorem yq100 {P : Prop} (h : P := by repeat (first | (with_reducible first | exact HI0.out | apply IsS178.alloc | apply IsS178.drewN | apply IsS178.drew | apply IsS178.set_1) | exact HI0.out)) : P := h
theorem yq101 {P : Prop} (h : P := by repeat (first | (with_reducible first | exact HB.out | apply qc | apply qa | apply qb | refine qd ?_ (IsS178.ge HI0.out)) | exact HB.out)) : P := h
def spec_l1Rd_bytes.l0 : Nat → List Int → Int → List Int → Int → Option (ByteArray × Int)
 | 0, _, _, _, _ => none
 | k + 1, x5, x6, x1000, x1001 => if x6 > 0 then ((spec_l1Rd_below.f x1000 x1001 256).bind fun bt106 => (if x5.length < 140737488355328 then (spec_l1Rd_bytes.l0 k (x5 ++ [(bt106.1) % 256]) (wrap64 (x6 - 1)) x1000 bt106.2) else (none))) else (some (strOfNums x5, x1001))
def spec_l1Rd_bytes.f (k : Nat) (s0_0 : List Int) (s0_1 : Int) (a1 : Int) : Option (ByteArray × Int) := (spec_l1Rd_below.f s0_0 s0_1 (wrap64 (a1 + 1))).bind fun bt104 => (spec_l1Rd_bytes.l0 k (([] : List Int)) bt104.1 s0_0 bt104.2)
set_option maxHeartbeats 8000000 in
set_option maxRecDepth 100000 in
theorem spec_l1Rd_bytes.calls (k : Nat) (g : Nat) (s0_0 : List Int) (s0_1 : Int) (a1 : Int) (r1 : ByteArray) (r2 : Int) (w0 w : World) (hI : IsS178 w0 w g s0_0 s0_1) (hB : Below w0.heap.size w0 w) (h : spec_l1Rd_bytes.f k s0_0 s0_1 a1 = some (r1, r2)) :
  Calls Try.prog 120 #[.pointer (some ⟨g, 0, none⟩), .int .i64 a1] w fun e w' => e = .returned (.string r1) ∧ IsS178 w0 w' g s0_0 r2 ∧ Below w0.heap.size w0 w' ∧ KeepBut w w' g none := by
 have HI0 := Qz.mk hI
 have HK := Qz.mk (KeepBut.refl w g none)
 have HL := Qz.mk hB.size
 clear hI
 have HW0 := Qz.mk hB.size
 have HB := Qz.mk hB
 clear hB
 have H : ((spec_l1Rd_below.f s0_0 s0_1 (wrap64 (a1 + 1))).bind fun bt104 => (spec_l1Rd_bytes.l0 k (([] : List Int)) bt104.1 s0_0 bt104.2)) = some (r1, r2) := h
 clear h
 obtain ⟨y101, hy101⟩ : ∃ y_ : List Int, y_ = (([] : List Int)) := ⟨_, rfl⟩
 replace H : ((spec_l1Rd_below.f s0_0 s0_1 (wrap64 (a1 + 1))).bind fun bt104 => (spec_l1Rd_bytes.l0 k y101 bt104.1 s0_0 bt104.2)) = some (r1, r2) := by first | (rw [hy101]; with_reducible exact H) | (have H2_ := (Option.bind_some _ _).symm.trans H; rw [hy101]; with_reducible exact H2_) | (have H2_ := (Option.bind_some _ _).symm.trans H; with_reducible exact H2_) | with_reducible exact H | (rw [hy101]; exact H) | exact H
 have Ny101 := Qz.mk hy101
 clear hy101
 replace H := Option.bind_eq_some_iff.mp H
 obtain ⟨⟨t104, t105⟩, A30, H⟩ := H
 replace H : (spec_l1Rd_bytes.l0 k y101 t104 s0_0 t105) = some (r1, r2) := H
 have A3 := Qz.mk A30
 clear A30
 have H' := Qz.mk H
 clear H
 go_enter Try.func120, Try.ntmps120
 go_wp2_with (first | ((with_reducible refine qb1 (N := 7) rfl ?_); refine Kd.R_lit (Kd.int .u8) _ 5 ?hg (N := 7) ?hd (xs := ([] : List Int)) (inner := []) (ok := fun _ => True) (okp := fun _ => True) ?hr ?hp (fun _ hk => hk) trivial (Below.refl _ _) (Nat.le_refl _) (by simp) ?_; (case hd => rfl); (case hg => rfl); (case hr => first | (go_simp; done) | (go_simp; rfl)); (case hp => exact (Reps.none _ _)); intro v102 w4 ho5 hb hg_ hnew_; clear hg_ hnew_; (first | rw [← Ny101.out] at ho5 | (simp only [Int.reduceToNat] at ho5; rw [← Ny101.out] at ho5)); have HO103 := Qz.mk (Kd.R_lower ho5 (ql1 (w := w) (g := g) (row := none) yq99)); replace HK := Qz.mk (KeepBut.trans yq99 (KeepBut.of_below hb g none) (.inl rfl)); replace HB := Qz.mk (ql yq101 hb); replace HI0 := Qz.mk (IsS178.below yq100 hb); clear hb ho5) | ((with_reducible refine qj (f := 119) rfl ?_); refine qt (some 11) rfl rfl Try.func119 (by kernel_rfl) rfl #[.pointer (some ⟨g, 0, none⟩), .int .i64 (wrap64 (a1 + 1))] rfl (by (try simp only [List.map_toArray, List.map_cons, List.map_nil]); first | done | rfl | (simp only [List.length_drop, List.length_take]; rfl) | (rw [IntWalk.u64_in _ (by omega)] <;> rfl)) ?_; (with_reducible refine (spec_l1Rd_below.calls g s0_0 s0_1 (wrap64 (a1 + 1)) t104 t105 w0 _ ?side1 ?side2 A3.out).mono ?_); (case side1 => exact yq100); (case side2 => exact yq101); rintro e w6 ⟨rfl, hi, hb, hk⟩; refine ⟨_, rfl, ?_⟩; replace HO103 := Qz.mk (Kd.R_mono (Kd.R_keep (IsS178.apart (show IsS178 w0 _ g s0_0 s0_1 from by repeat (first | (with_reducible first | exact HI0.out | apply IsS178.alloc | apply IsS178.drewN | apply IsS178.drew | apply IsS178.set_1) | exact HI0.out)) (by (with_reducible repeat (first | apply Kd.R_alloc | apply Kd.R_drewN | apply Kd.R_drew)); exact HO103.out) (by decide)) hk (fun _ h => h.2)) (fun _ h => h.1)); replace HK := Qz.mk (KeepBut.trans yq99 hk (.inl rfl)); replace HB := Qz.mk (hb); replace HI0 := Qz.mk (hi); (try clear hb); (try clear hk); (try clear hi)))
 go_loopg [5, 6] k (fun kq v5 v6 w' => ∃ (x5_1 : List Int) (x6_1 : Int) (x1001_1 : Int), v6 = .int .i64 x6_1 ∧ Qz (spec_l1Rd_bytes.l0 kq x5_1 x6_1 s0_0 x1001_1 = some (r1, r2)) ∧ Qz (kq ≤ k) ∧ Qz (Kd.R (Kd.int .u8) 5 w' w.heap.size (fun _ => True) v5 x5_1) ∧ Qz (IsS178 w0 w' g s0_0 x1001_1) ∧ Qz (KeepBut w w' g none) ∧ Qz (Below w0.heap.size w0 w'))
 case atStart => exact ⟨(y101), (t104), (t105), (by first | rfl | (simp; done) | (simp [*]; done)), H', ⟨Nat.le_refl _⟩, ⟨by (with_reducible repeat (first | apply Kd.R_alloc | apply Kd.R_drewN | apply Kd.R_drew)); exact HO103.out⟩, ⟨by repeat (first | (with_reducible first | exact HI0.out | apply IsS178.alloc | apply IsS178.drewN | apply IsS178.drew | apply IsS178.set_1) | exact HI0.out)⟩, ⟨by repeat (first | (with_reducible first | exact HK.out | apply KeepBut.set_ | apply qo | apply qq | apply qp) | exact HK.out)⟩, ⟨by repeat (first | (with_reducible first | exact HB.out | apply qc | apply qa | apply qb | refine qd ?_ (IsS178.ge HI0.out)) | exact HB.out)⟩⟩
 case round =>
  clear H'
  try clear c1
  try clear p2
  try clear p6
  obtain ⟨x5_1, x6_1, x1001_1, rfl, HA, HK1, HO_5, HI0, HK, HB⟩ := hrel
  cases gk with
  | zero => exact absurd HA.out (by simp [spec_l1Rd_bytes.l0])
  | succ k1 =>
   have H := HA.out
   clear HA
   simp only [spec_l1Rd_bytes.l0] at H
   by_cases c7 : x6_1 > 0
   ·rw [if_pos c7] at H
    have c7b0 : decide (0 < x6_1) = true := decide_eq_true c7
    clear c7
    replace H := Option.bind_eq_some_iff.mp H
    obtain ⟨⟨t106, t107⟩, A80, H⟩ := H
    replace H : (if x5_1.length < 140737488355328 then (spec_l1Rd_bytes.l0 k1 (x5_1 ++ [(t106) % 256]) (wrap64 (x6_1 - 1)) s0_0 t107) else (none)) = some (r1, r2) := H
    have A8 := Qz.mk A80
    clear A80
    by_cases c9 : x5_1.length < 140737488355328
    ·rw [if_pos c9] at H
     have LMc9 := Qz.mk c9
     clear c9
     obtain ⟨y108, hy108⟩ : ∃ y_ : List Int, y_ = (x5_1 ++ [(t106) % 256]) := ⟨_, rfl⟩
     replace H : (spec_l1Rd_bytes.l0 k1 y108 (wrap64 (x6_1 - 1)) s0_0 t107) = some (r1, r2) := by first | (rw [hy108]; with_reducible exact H) | (have H2_ := (Option.bind_some _ _).symm.trans H; rw [hy108]; with_reducible exact H2_) | (have H2_ := (Option.bind_some _ _).symm.trans H; with_reducible exact H2_) | with_reducible exact H | (rw [hy108]; exact H) | exact H
     have Ny108 := Qz.mk hy108
     clear hy108
     have H' := Qz.mk H
     clear H
     go_wp2_with (first | ((with_reducible refine qj (f := 119) rfl ?_); refine qt (some 18) rfl rfl Try.func119 (by kernel_rfl) rfl #[.pointer (some ⟨g, 0, none⟩), .int .i64 256] rfl (by (try simp only [List.map_toArray, List.map_cons, List.map_nil]); first | done | rfl) ?_; (with_reducible refine (spec_l1Rd_below.calls g s0_0 x1001_1 256 t106 t107 w0 _ ?side1 ?side2 A8.out).mono ?_); (case side1 => exact yq100); (case side2 => exact yq101); rintro e w10 ⟨rfl, hi, hb, hk⟩; refine ⟨_, rfl, ?_⟩; replace HO_5 := Qz.mk (Kd.R_mono (Kd.R_keep (IsS178.apart (show IsS178 w0 _ g s0_0 x1001_1 from by repeat (first | (with_reducible first | exact HI0.out | apply IsS178.alloc | apply IsS178.drewN | apply IsS178.drew | apply IsS178.set_1) | exact HI0.out)) (by (with_reducible repeat (first | apply Kd.R_alloc | apply Kd.R_drewN | apply Kd.R_drew)); exact HO_5.out) (by decide)) hk (fun _ h => h.2)) (fun _ h => h.1)); replace HK := Qz.mk (KeepBut.trans yq99 hk (.inl rfl)); replace HB := Qz.mk (hb); replace HI0 := Qz.mk (hi); (try clear hb); (try clear hk); (try clear hi)) | ((with_reducible refine gate_builtin (b := .append) (xs := #[.tmp 16, .tmp 20]) rfl ?_); at_builtin; refine Kd.R_append (Kd.int .u8) w.heap.size rfl (.tmp 16) (.tmp 20) 42 5 (.int .u8 0) 1 rfl Try.underlying42 info5 rfl (by decide) (by omega) u5 x5_1 ((t106) % 256) [.int .u8 ((t106) % 256)] (fun _ => True) (fun _ => False) rfl rfl ?aP (fun _ hk => hk.elim) ?aF ?aO (Below.refl _ _) ?aS ?aL ?_; (case aP => exact rfl); (case aF => exact (fun _ _ => trivial)); (case aO => exact (by (with_reducible repeat (first | apply Kd.R_alloc | apply Kd.R_drewN | apply Kd.R_drew)); exact HO_5.out)); (case aS => exact (ql1 (w := w) (g := g) (row := none) yq99)); (case aL => have := LMc9.out; omega); intro v109 w11 ho hb hg hat; rw [← Ny108.out] at ho; have n0_ := Qz.mk (IsS178.grown yq100 hg (IsS178.own_ne HI0.out HO_5.out (by decide))); have n1_ := Qz.mk (below_weaken yq101 HL.out hb); have n2_ := Qz.mk (KeepBut.trans yq99 (KeepBut.of_grown hg g) (Kd.R_base2 HO_5.out)); have n3_ := Qz.mk (ho); clear HI0; clear HB; clear HK; clear HO_5; have HI0 := n0_; have HB := n1_; have HK := n2_; have HO110 := n3_; clear n0_ n1_ n2_ n3_; clear ho hb hg hat))
     go_roundg k1
     case measure => have := HK1.out; omega
     case rel => exact ⟨(y108), (wrap64 (x6_1 - 1)), (t107), (by first | rfl | (simp; done) | (simp [*]; done)), H', ⟨by have := HK1.out; omega⟩, ⟨by (with_reducible repeat (first | apply Kd.R_alloc | apply Kd.R_drewN | apply Kd.R_drew)); exact HO110.out⟩, ⟨by repeat (first | (with_reducible first | exact HI0.out | apply IsS178.alloc | apply IsS178.drewN | apply IsS178.drew | apply IsS178.set_1) | exact HI0.out)⟩, ⟨by repeat (first | (with_reducible first | exact HK.out | apply KeepBut.set_ | apply qo | apply qq | apply qp) | exact HK.out)⟩, ⟨by repeat (first | (with_reducible first | exact HB.out | apply qc | apply qa | apply qb | refine qd ?_ (IsS178.ge HI0.out)) | exact HB.out)⟩⟩
    ·rw [if_neg c9] at H
     exact absurd H (by simp)
   ·rw [if_neg c7] at H
    have c7b0 : decide (0 < x6_1) = false := decide_eq_false c7
    clear c7
    simp only [Option.some.injEq, Prod.mk.injEq] at H
    obtain ⟨rfl, rfl⟩ := H
    have hcv12 := own_string (P := Try.prog) Try.underlying42 Try.underlying5 Try.underlying9 (Kd.own_of_R HO_5.out)
    go_wp2
    go_ret
    exact ⟨by first | rfl | (simp [qn, qm] <;> rfl) | (simp [*, qn, qm] <;> rfl), by repeat (first | (with_reducible first | exact HI0.out | apply IsS178.alloc | apply IsS178.drewN | apply IsS178.drew | apply IsS178.set_1) | exact HI0.out), by repeat (first | (with_reducible first | exact HB.out | apply qc | apply qa | apply qb | refine qd ?_ (IsS178.ge HI0.out)) | exact HB.out), by repeat (first | (with_reducible first | exact HK.out | apply KeepBut.set_ | apply qo | apply qq | apply qp) | exact HK.out)⟩
def spec_l1Rd_once.f (s0_0 : List Int) (s0_1 : Int) (a1 : Int) : Option (Bool × Int) := (spec_l1Rd_below.f s0_0 s0_1 a1).bind fun bt101 => (some ((bt101.1 == (wrap64 (a1 - 1))), bt101.2))
set_option maxHeartbeats 8000000 in
set_option maxRecDepth 100000 in
theorem spec_l1Rd_once.calls (g : Nat) (s0_0 : List Int) (s0_1 : Int) (a1 : Int) (r1 : Bool) (r2 : Int) (w0 w : World) (hI : IsS178 w0 w g s0_0 s0_1) (hB : Below w0.heap.size w0 w) (h : spec_l1Rd_once.f s0_0 s0_1 a1 = some (r1, r2)) :
  Calls Try.prog 156 #[.pointer (some ⟨g, 0, none⟩), .int .i64 a1] w fun e w' => e = .returned (.bool r1) ∧ IsS178 w0 w' g s0_0 r2 ∧ Below w0.heap.size w0 w' ∧ KeepBut w w' g none := by
 have HI0 := Qz.mk hI
 have HK := Qz.mk (KeepBut.refl w g none)
 have HL := Qz.mk hB.size
 clear hI
 have HW0 := Qz.mk hB.size
 have HB := Qz.mk hB
 clear hB
 have H : ((spec_l1Rd_below.f s0_0 s0_1 a1).bind fun bt101 => (some ((bt101.1 == (wrap64 (a1 - 1))), bt101.2))) = some (r1, r2) := h
 clear h
 replace H := Option.bind_eq_some_iff.mp H
 obtain ⟨⟨t101, t102⟩, A30, H⟩ := H
 replace H : (some ((t101 == (wrap64 (a1 - 1))), t102)) = some (r1, r2) := H
 have A3 := Qz.mk A30
 clear A30
 simp only [Option.some.injEq, Prod.mk.injEq] at H
 obtain ⟨rfl, rfl⟩ := H
 go_enter Try.func156, Try.ntmps156
 go_wp2_with (first | ((with_reducible refine qj (f := 119) rfl ?_); refine qt (some 7) rfl rfl Try.func119 (by kernel_rfl) rfl #[.pointer (some ⟨g, 0, none⟩), .int .i64 a1] rfl (by (try simp only [List.map_toArray, List.map_cons, List.map_nil]); first | done | rfl) ?_; (with_reducible refine (spec_l1Rd_below.calls g s0_0 s0_1 a1 t101 t102 w0 _ ?side1 ?side2 A3.out).mono ?_); (case side1 => repeat (first | (with_reducible first | exact HI0.out | apply IsS178.alloc | apply IsS178.drewN | apply IsS178.drew | apply IsS178.set_1) | exact HI0.out)); (case side2 => repeat (first | (with_reducible first | exact HB.out | apply qc | apply qa | apply qb | refine qd ?_ (IsS178.ge HI0.out)) | exact HB.out)); rintro e w4 ⟨rfl, hi, hb, hk⟩; refine ⟨_, rfl, ?_⟩; replace HK := Qz.mk (KeepBut.trans (by repeat (first | (with_reducible first | exact HK.out | apply KeepBut.set_ | apply qo | apply qq | apply qp) | exact HK.out)) hk (.inl rfl)); replace HB := Qz.mk (hb); replace HI0 := Qz.mk (hi); (try clear hb); (try clear hk); (try clear hi)))
 go_ret
 exact ⟨by first | rfl | (simp [qn, qm] <;> rfl) | (simp [*, qn, qm] <;> rfl), by repeat (first | (with_reducible first | exact HI0.out | apply IsS178.alloc | apply IsS178.drewN | apply IsS178.drew | apply IsS178.set_1) | exact HI0.out), by repeat (first | (with_reducible first | exact HB.out | apply qc | apply qa | apply qb | refine qd ?_ (IsS178.ge HI0.out)) | exact HB.out), by repeat (first | (with_reducible first | exact HK.out | apply KeepBut.set_ | apply qo | apply qq | apply qp) | exact HK.out)⟩
theorem yq102 {P : Prop} (h : P := by repeat (first | (with_reducible first | exact HK.out | apply KeepBut.set_ | apply qo | apply qq | apply qp) | exact HK.out)) : P := h
def spec_l1Rd_value.f (s0_0 : List Int) (s0_1 : Int) : Option (ByteArray × Int) := (some (([(⟨#[]⟩ : ByteArray), (⟨#[49]⟩ : ByteArray), (⟨#[50]⟩ : ByteArray), (⟨#[118, 97, 108, 117, 101]⟩ : ByteArray), (⟨#[118, 118]⟩ : ByteArray)] : List ByteArray) : List ByteArray)).bind fun y101 => ((spec_l1Rd_below.f s0_0 s0_1 5).bind fun bt104 => (if 0 ≤ bt104.1 then (if bt104.1 < (y101.length : Int) then (some (rdOf ByteArray.empty y101 bt104.1, bt104.2)) else (none)) else (none)))
set_option maxHeartbeats 8000000 in
set_option maxRecDepth 100000 in
theorem spec_l1Rd_value.calls (g : Nat) (s0_0 : List Int) (s0_1 : Int) (r1 : ByteArray) (r2 : Int) (w0 w : World) (hI : IsS178 w0 w g s0_0 s0_1) (hB : Below w0.heap.size w0 w) (h : spec_l1Rd_value.f s0_0 s0_1 = some (r1, r2)) :
  Calls Try.prog 187 #[.pointer (some ⟨g, 0, none⟩)] w fun e w' => e = .returned (.string r1) ∧ IsS178 w0 w' g s0_0 r2 ∧ Below w0.heap.size w0 w' ∧ KeepBut w w' g none := by
 have HI0 := Qz.mk hI
 have HK := Qz.mk (KeepBut.refl w g none)
 have HL := Qz.mk hB.size
 clear hI
 have HW0 := Qz.mk hB.size
 have HB := Qz.mk hB
 clear hB
 have H : ((some (([(⟨#[]⟩ : ByteArray), (⟨#[49]⟩ : ByteArray), (⟨#[50]⟩ : ByteArray), (⟨#[118, 97, 108, 117, 101]⟩ : ByteArray), (⟨#[118, 118]⟩ : ByteArray)] : List ByteArray) : List ByteArray)).bind fun y101 => ((spec_l1Rd_below.f s0_0 s0_1 5).bind fun bt104 => (if 0 ≤ bt104.1 then (if bt104.1 < (y101.length : Int) then (some (rdOf ByteArray.empty y101 bt104.1, bt104.2)) else (none)) else (none)))) = some (r1, r2) := h
 clear h
 obtain ⟨y101, hy101⟩ : ∃ y_ : List ByteArray, y_ = (([(⟨#[]⟩ : ByteArray), (⟨#[49]⟩ : ByteArray), (⟨#[50]⟩ : ByteArray), (⟨#[118, 97, 108, 117, 101]⟩ : ByteArray), (⟨#[118, 118]⟩ : ByteArray)] : List ByteArray)) := ⟨_, rfl⟩
 replace H : ((spec_l1Rd_below.f s0_0 s0_1 5).bind fun bt104 => (if 0 ≤ bt104.1 then (if bt104.1 < (y101.length : Int) then (some (rdOf ByteArray.empty y101 bt104.1, bt104.2)) else (none)) else (none))) = some (r1, r2) := by first | (rw [hy101]; with_reducible exact H) | (have H2_ := (Option.bind_some _ _).symm.trans H; rw [hy101]; with_reducible exact H2_) | (have H2_ := (Option.bind_some _ _).symm.trans H; with_reducible exact H2_) | with_reducible exact H | (rw [hy101]; exact H) | exact H
 have Ny101 := Qz.mk hy101
 clear hy101
 replace H := Option.bind_eq_some_iff.mp H
 obtain ⟨⟨t104, t105⟩, A20, H⟩ := H
 replace H : (if 0 ≤ t104 then (if t104 < (y101.length : Int) then (some (rdOf ByteArray.empty y101 t104, t105)) else (none)) else (none)) = some (r1, r2) := H
 have A2 := Qz.mk A20
 clear A20
 by_cases c3 : 0 ≤ t104
 ·rw [if_pos c3] at H
  have c3b0 : decide (0 ≤ t104) = true := decide_eq_true c3
  clear c3
  by_cases c4 : t104 < (y101.length : Int)
  ·rw [if_pos c4] at H
   have c4b0 : decide (t104 < (y101.length : Int)) = true := decide_eq_true c4
   clear c4
   simp only [Option.some.injEq, Prod.mk.injEq] at H
   obtain ⟨rfl, rfl⟩ := H
   go_enter Try.func187, Try.ntmps187
   go_wp2_with (first | ((with_reducible refine qb1 (N := 3) rfl ?_); refine Kd.R_lit Kd.string _ 9 ?hg (N := 3) ?hd (xs := ([(⟨#[]⟩ : ByteArray), (⟨#[49]⟩ : ByteArray), (⟨#[50]⟩ : ByteArray), (⟨#[118, 97, 108, 117, 101]⟩ : ByteArray), (⟨#[118, 118]⟩ : ByteArray)] : List ByteArray)) (inner := [.string (⟨#[]⟩ : ByteArray), .string (⟨#[49]⟩ : ByteArray), .string (⟨#[50]⟩ : ByteArray), .string (⟨#[118, 97, 108, 117, 101]⟩ : ByteArray), .string (⟨#[118, 118]⟩ : ByteArray)]) (ok := fun _ => True) (okp := fun _ => True) ?hr ?hp (fun _ hk => hk) trivial (Below.refl _ _) (Nat.le_refl _) (by simp) ?_; (case hd => rfl); (case hg => rfl); (case hr => first | (go_simp; done) | (go_simp; rfl)); (case hp => exact (Reps.one (show Kd.M Kd.string _ _ _ (⟨#[]⟩ : ByteArray) [.string (⟨#[]⟩ : ByteArray)] from rfl) (Reps.one (show Kd.M Kd.string _ _ _ (⟨#[49]⟩ : ByteArray) [.string (⟨#[49]⟩ : ByteArray)] from rfl) (Reps.one (show Kd.M Kd.string _ _ _ (⟨#[50]⟩ : ByteArray) [.string (⟨#[50]⟩ : ByteArray)] from rfl) (Reps.one (show Kd.M Kd.string _ _ _ (⟨#[118, 97, 108, 117, 101]⟩ : ByteArray) [.string (⟨#[118, 97, 108, 117, 101]⟩ : ByteArray)] from rfl) (Reps.one (show Kd.M Kd.string _ _ _ (⟨#[118, 118]⟩ : ByteArray) [.string (⟨#[118, 118]⟩ : ByteArray)] from rfl) (Reps.none _ _))))))); intro v102 w5 ho6 hb hg_ hnew_; clear hg_ hnew_; (first | rw [← Ny101.out] at ho6 | (simp only [Int.reduceToNat] at ho6; rw [← Ny101.out] at ho6)); have HO103 := Qz.mk (Kd.R_lower ho6 (ql1 (w := w) (g := g) (row := none) yq102)); replace HK := Qz.mk (KeepBut.trans yq102 (KeepBut.of_below hb g none) (.inl rfl)); replace HB := Qz.mk (ql (by repeat (first | (with_reducible first | exact HB.out | apply qc | apply qa | apply qb | refine qd ?_ (IsS178.ge HI0.out)) | exact HB.out)) hb); replace HI0 := Qz.mk (IsS178.below (by repeat (first | (with_reducible first | exact HI0.out | apply IsS178.alloc | apply IsS178.drewN | apply IsS178.drew | apply IsS178.set_1) | exact HI0.out)) hb); clear hb ho6) | ((with_reducible refine qj (f := 119) rfl ?_); refine qt (some 5) rfl rfl Try.func119 (by kernel_rfl) rfl #[.pointer (some ⟨g, 0, none⟩), .int .i64 5] rfl (by (try simp only [List.map_toArray, List.map_cons, List.map_nil]); first | done | rfl) ?_; (with_reducible refine (spec_l1Rd_below.calls g s0_0 s0_1 5 t104 t105 w0 _ ?side1 ?side2 A2.out).mono ?_); (case side1 => repeat (first | (with_reducible first | exact HI0.out | apply IsS178.alloc | apply IsS178.drewN | apply IsS178.drew | apply IsS178.set_1) | exact HI0.out)); (case side2 => repeat (first | (with_reducible first | exact HB.out | apply qc | apply qa | apply qb | refine qd ?_ (IsS178.ge HI0.out)) | exact HB.out)); rintro e w7 ⟨rfl, hi, hb, hk⟩; refine ⟨_, rfl, ?_⟩; replace HO103 := Qz.mk (Kd.R_mono (Kd.R_keep (IsS178.apart (show IsS178 w0 _ g s0_0 s0_1 from by repeat (first | (with_reducible first | exact HI0.out | apply IsS178.alloc | apply IsS178.drewN | apply IsS178.drew | apply IsS178.set_1) | exact HI0.out)) (by (with_reducible repeat (first | apply Kd.R_alloc | apply Kd.R_drewN | apply Kd.R_drew)); exact HO103.out) (by decide)) hk (fun _ h => h.2)) (fun _ h => h.1)); replace HK := Qz.mk (KeepBut.trans yq102 hk (.inl rfl)); replace HB := Qz.mk (hb); replace HI0 := Qz.mk (hi); (try clear hb); (try clear hk); (try clear hi); obtain ⟨Ao8, co8, eo8⟩ := Kd.R_slice HO103.out; subst eo8; have p106 : 0 ≤ (t104 : Int) := of_decide_eq_true (by first | (with_reducible assumption) | assumption); have q106 : t104 < (y101.length : Int) := of_decide_eq_true (by first | (with_reducible assumption) | assumption); obtain ⟨ad106, e106, hx106_0⟩ := Kd.at_string (Kd.R_reads' HO103.out).2.2 t104 p106 q106; cases e106; replace p106 := eq_true p106; replace q106 := eq_true q106))
   go_ret
   exact ⟨by first | rfl | (simp [qn, qm] <;> rfl) | (simp [*, qn, qm] <;> rfl), by repeat (first | (with_reducible first | exact HI0.out | apply IsS178.alloc | apply IsS178.drewN | apply IsS178.drew | apply IsS178.set_1) | exact HI0.out), by repeat (first | (with_reducible first | exact HB.out | apply qc | apply qa | apply qb | refine qd ?_ (IsS178.ge HI0.out)) | exact HB.out), by repeat (first | (with_reducible first | exact HK.out | apply KeepBut.set_ | apply qo | apply qq | apply qp) | exact HK.out)⟩
  ·rw [if_neg c4] at H
   exact absurd H (by simp)
 ·rw [if_neg c3] at H
  exact absurd H (by simp)
def spec_l1Rd_word.l0 : Nat → Int → Int → List Int → Int → Option (Int × Int)
 | 0, _, _, _, _ => none
 | k + 1, x3, x4, x1000, x1001 => if x4 < 8 then ((spec_l1Rd_next.f x1000 x1001).bind fun bt101 => (spec_l1Rd_word.l0 k (Go.bits .or .u64 (IntKind.u64.wrap (x3 * 256)) (IntKind.u64.wrap (bt101.1))) (wrap64 (x4 + 1)) x1000 bt101.2)) else (some (x3, x1001))
def spec_l1Rd_word.f (k : Nat) (s0_0 : List Int) (s0_1 : Int) : Option (Int × Int) := spec_l1Rd_word.l0 k 0 0 s0_0 s0_1
set_option maxHeartbeats 8000000 in
set_option maxRecDepth 100000 in
theorem spec_l1Rd_word.calls (k : Nat) (g : Nat) (s0_0 : List Int) (s0_1 : Int) (r1 : Int) (r2 : Int) (w0 w : World) (hI : IsS178 w0 w g s0_0 s0_1) (hB : Below w0.heap.size w0 w) (h : spec_l1Rd_word.f k s0_0 s0_1 = some (r1, r2)) :
  Calls Try.prog 188 #[.pointer (some ⟨g, 0, none⟩)] w fun e w' => e = .returned (.int .u64 r1) ∧ IsS178 w0 w' g s0_0 r2 ∧ Below w0.heap.size w0 w' ∧ KeepBut w w' g none := by
 have HI0 := Qz.mk hI
 have HK := Qz.mk (KeepBut.refl w g none)
 have HL := Qz.mk hB.size
 clear hI
 have HW0 := Qz.mk hB.size
 have HB := Qz.mk hB
 clear hB
 have H : (spec_l1Rd_word.l0 k 0 0 s0_0 s0_1) = some (r1, r2) := h
 clear h
 have H' := Qz.mk H
 clear H
 go_enter Try.func188, Try.ntmps188
 go_wp2
 go_loopg [3, 4] k (fun kq v3 v4 w' => ∃ (x3_1 : Int) (x4_1 : Int) (x1001_1 : Int), v3 = .int .u64 x3_1 ∧ v4 = .int .i64 x4_1 ∧ Qz (spec_l1Rd_word.l0 kq x3_1 x4_1 s0_0 x1001_1 = some (r1, r2)) ∧ Qz (kq ≤ k) ∧ Qz (IsS178 w0 w' g s0_0 x1001_1) ∧ Qz (KeepBut w w' g none) ∧ Qz (Below w0.heap.size w0 w'))
 case atStart => exact ⟨(0), (0), (s0_1), (by first | rfl | (simp; done) | (simp [*]; done)), (by first | rfl | (simp; done) | (simp [*]; done)), H', ⟨Nat.le_refl _⟩, ⟨by repeat (first | (with_reducible first | exact HI0.out | apply IsS178.alloc | apply IsS178.drewN | apply IsS178.drew | apply IsS178.set_1) | exact HI0.out)⟩, ⟨by repeat (first | (with_reducible first | exact HK.out | apply KeepBut.set_ | apply qo | apply qq | apply qp) | exact HK.out)⟩, ⟨by repeat (first | (with_reducible first | exact HB.out | apply qc | apply qa | apply qb | refine qd ?_ (IsS178.ge HI0.out)) | exact HB.out)⟩⟩
 case round =>
  clear H'
  try clear c1
  obtain ⟨x3_1, x4_1, x1001_1, rfl, rfl, HA, HK1, HI0, HK, HB⟩ := hrel
  cases gk with
  | zero => exact absurd HA.out (by simp [spec_l1Rd_word.l0])
  | succ k1 =>
   have H := HA.out
   clear HA
   simp only [spec_l1Rd_word.l0] at H
   by_cases c2 : x4_1 < 8
   ·rw [if_pos c2] at H
    have c2b0 : decide (x4_1 < 8) = true := decide_eq_true c2
    clear c2
    replace H := Option.bind_eq_some_iff.mp H
    obtain ⟨⟨t101, t102⟩, A30, H⟩ := H
    replace H : (spec_l1Rd_word.l0 k1 (Go.bits .or .u64 (IntKind.u64.wrap (x3_1 * 256)) (IntKind.u64.wrap (t101))) (wrap64 (x4_1 + 1)) s0_0 t102) = some (r1, r2) := H
    have A3 := Qz.mk A30
    clear A30
    have H' := Qz.mk H
    clear H
    go_wp2_with (first | ((with_reducible refine qj (f := 171) rfl ?_); refine qt (some 12) rfl rfl Try.func171 (by kernel_rfl) rfl #[.pointer (some ⟨g, 0, none⟩)] rfl (by (try simp only [List.map_toArray, List.map_cons, List.map_nil]); first | done | rfl) ?_; (with_reducible refine (spec_l1Rd_next.calls g s0_0 x1001_1 t101 t102 w0 _ ?side1 ?side2 A3.out).mono ?_); (case side1 => repeat (first | (with_reducible first | exact HI0.out | apply IsS178.alloc | apply IsS178.drewN | apply IsS178.drew | apply IsS178.set_1) | exact HI0.out)); (case side2 => repeat (first | (with_reducible first | exact HB.out | apply qc | apply qa | apply qb | refine qd ?_ (IsS178.ge HI0.out)) | exact HB.out)); rintro e w4 ⟨rfl, hi, hb, hk⟩; refine ⟨_, rfl, ?_⟩; replace HK := Qz.mk (KeepBut.trans (by repeat (first | (with_reducible first | exact HK.out | apply KeepBut.set_ | apply qo | apply qq | apply qp) | exact HK.out)) hk (.inl rfl)); replace HB := Qz.mk (hb); replace HI0 := Qz.mk (hi); (try clear hb); (try clear hk); (try clear hi)))
    go_roundg k1
    case measure => have := HK1.out; omega
    case rel => exact ⟨(Go.bits .or .u64 (IntKind.u64.wrap (x3_1 * 256)) (IntKind.u64.wrap (t101))), (wrap64 (x4_1 + 1)), (t102), (by first | rfl | (simp; done) | (simp [*]; done)), (by first | rfl | (simp; done) | (simp [*]; done)), H', ⟨by have := HK1.out; omega⟩, ⟨by repeat (first | (with_reducible first | exact HI0.out | apply IsS178.alloc | apply IsS178.drewN | apply IsS178.drew | apply IsS178.set_1) | exact HI0.out)⟩, ⟨by repeat (first | (with_reducible first | exact HK.out | apply KeepBut.set_ | apply qo | apply qq | apply qp) | exact HK.out)⟩, ⟨by repeat (first | (with_reducible first | exact HB.out | apply qc | apply qa | apply qb | refine qd ?_ (IsS178.ge HI0.out)) | exact HB.out)⟩⟩
   ·rw [if_neg c2] at H
    have c2b0 : decide (x4_1 < 8) = false := decide_eq_false c2
    clear c2
    simp only [Option.some.injEq, Prod.mk.injEq] at H
    obtain ⟨rfl, rfl⟩ := H
    go_wp2
    go_ret
    exact ⟨by first | rfl | (simp [qn, qm] <;> rfl) | (simp [*, qn, qm] <;> rfl), by repeat (first | (with_reducible first | exact HI0.out | apply IsS178.alloc | apply IsS178.drewN | apply IsS178.drew | apply IsS178.set_1) | exact HI0.out), by repeat (first | (with_reducible first | exact HB.out | apply qc | apply qa | apply qb | refine qd ?_ (IsS178.ge HI0.out)) | exact HB.out), by repeat (first | (with_reducible first | exact HK.out | apply KeepBut.set_ | apply qo | apply qq | apply qp) | exact HK.out)⟩
theorem yq103 {P : Prop} (h : P := by repeat (first | (with_reducible first | exact HI0.out | apply IsS178.alloc | apply IsS178.drewN | apply IsS178.drew | apply IsS178.set_1) | exact HI0.out)) : P := h
theorem yq104 {P : Prop} (h : P := by repeat (first | (with_reducible first | exact HB.out | apply qc | apply qa | apply qb | refine qd ?_ (IsS178.ge HI0.out)) | exact HB.out)) : P := h
theorem yq105 {P : Prop} (h : P := by repeat (first | (with_reducible first | exact HK.out | apply KeepBut.set_ | apply qo | apply qq | apply qp) | exact HK.out)) : P := h
theorem yq106 {P : Prop} (h : P := by (try simp only [List.map_toArray, List.map_cons, List.map_nil]); first | done | rfl) : P := h
def spec_l1Rd_near.f (k : Nat) (s0_0 : List Int) (s0_1 : Int) (a1 : Int) (a2 : Int) : Option (Int × Int) := (spec_l1Rd_below.f s0_0 s0_1 8).bind fun bt101 => (if bt101.1 = 0 then (some (a1, bt101.2)) else (if bt101.1 = 1 then (some (a2, bt101.2)) else (if a2 < a1 then (some (a1, bt101.2)) else ((spec_l1Rd_word.f k s0_0 bt101.2).bind fun bt103 => (if (IntKind.u64.wrap (wrap64 ((wrap64 (a2 - a1)) + 1))) = 0 then (none) else (some (wrap64 (a1 + (wrap64 (Int.tmod (bt103.1 / 2) (IntKind.u64.wrap (wrap64 ((wrap64 (a2 - a1)) + 1)))))), bt103.2)))))))
set_option maxHeartbeats 8000000 in
set_option maxRecDepth 100000 in
theorem spec_l1Rd_near.calls (k : Nat) (g : Nat) (s0_0 : List Int) (s0_1 : Int) (a1 : Int) (a2 : Int) (r1 : Int) (r2 : Int) (w0 w : World) (hI : IsS178 w0 w g s0_0 s0_1) (hB : Below w0.heap.size w0 w) (h : spec_l1Rd_near.f k s0_0 s0_1 a1 a2 = some (r1, r2)) :
  Calls Try.prog 157 #[.pointer (some ⟨g, 0, none⟩), .int .i64 a1, .int .i64 a2] w fun e w' => e = .returned (.int .i64 r1) ∧ IsS178 w0 w' g s0_0 r2 ∧ Below w0.heap.size w0 w' ∧ KeepBut w w' g none := by
 have HI0 := Qz.mk hI
 have HK := Qz.mk (KeepBut.refl w g none)
 have HL := Qz.mk hB.size
 clear hI
 have HW0 := Qz.mk hB.size
 have HB := Qz.mk hB
 clear hB
 have H : ((spec_l1Rd_below.f s0_0 s0_1 8).bind fun bt101 => (if bt101.1 = 0 then (some (a1, bt101.2)) else (if bt101.1 = 1 then (some (a2, bt101.2)) else (if a2 < a1 then (some (a1, bt101.2)) else ((spec_l1Rd_word.f k s0_0 bt101.2).bind fun bt103 => (if (IntKind.u64.wrap (wrap64 ((wrap64 (a2 - a1)) + 1))) = 0 then (none) else (some (wrap64 (a1 + (wrap64 (Int.tmod (bt103.1 / 2) (IntKind.u64.wrap (wrap64 ((wrap64 (a2 - a1)) + 1)))))), bt103.2)))))))) = some (r1, r2) := h
 clear h
 replace H := Option.bind_eq_some_iff.mp H
 obtain ⟨⟨t101, t102⟩, A40, H⟩ := H
 replace H : (if t101 = 0 then (some (a1, t102)) else (if t101 = 1 then (some (a2, t102)) else (if a2 < a1 then (some (a1, t102)) else ((spec_l1Rd_word.f k s0_0 t102).bind fun bt103 => (if (IntKind.u64.wrap (wrap64 ((wrap64 (a2 - a1)) + 1))) = 0 then (none) else (some (wrap64 (a1 + (wrap64 (Int.tmod (bt103.1 / 2) (IntKind.u64.wrap (wrap64 ((wrap64 (a2 - a1)) + 1)))))), bt103.2))))))) = some (r1, r2) := H
 have A4 := Qz.mk A40
 clear A40
 by_cases c5 : t101 = 0
 ·rw [if_pos c5] at H
  have c5b0 : (t101 == 0) = true := beq_iff_eq.mpr c5
  have c5b1 : (t101 != 0) = false := bne_eq_false_iff_eq.mpr c5
  clear c5
  simp only [Option.some.injEq, Prod.mk.injEq] at H
  obtain ⟨rfl, rfl⟩ := H
  go_enter Try.func157, Try.ntmps157
  go_wp2_with (first | ((with_reducible refine qj (f := 119) rfl ?_); refine qt (some 8) rfl rfl Try.func119 (by kernel_rfl) rfl #[.pointer (some ⟨g, 0, none⟩), .int .i64 8] rfl yq106 ?_; (with_reducible refine (spec_l1Rd_below.calls g s0_0 s0_1 8 t101 t102 w0 _ ?side1 ?side2 A4.out).mono ?_); (case side1 => exact yq103); (case side2 => exact yq104); rintro e w6 ⟨rfl, hi, hb, hk⟩; refine ⟨_, rfl, ?_⟩; replace HK := Qz.mk (KeepBut.trans yq105 hk (.inl rfl)); replace HB := Qz.mk (hb); replace HI0 := Qz.mk (hi); (try clear hb); (try clear hk); (try clear hi)))
  go_ret
  exact ⟨by first | rfl | (simp [qn, qm] <;> rfl) | (simp [*, qn, qm] <;> rfl), by repeat (first | (with_reducible first | exact HI0.out | apply IsS178.alloc | apply IsS178.drewN | apply IsS178.drew | apply IsS178.set_1) | exact HI0.out), by repeat (first | (with_reducible first | exact HB.out | apply qc | apply qa | apply qb | refine qd ?_ (IsS178.ge HI0.out)) | exact HB.out), by repeat (first | (with_reducible first | exact HK.out | apply KeepBut.set_ | apply qo | apply qq | apply qp) | exact HK.out)⟩
 ·rw [if_neg c5] at H
  have c5b0 : (t101 == 0) = false := beq_eq_false_iff_ne.mpr c5
  have c5b1 : (t101 != 0) = true := bne_iff_ne.mpr c5
  by_cases c7 : t101 = 1
  ·rw [if_pos c7] at H
   have c7b0 : (t101 == 1) = true := beq_iff_eq.mpr c7
   have c7b1 : (t101 != 1) = false := bne_eq_false_iff_eq.mpr c7
   clear c7
   simp only [Option.some.injEq, Prod.mk.injEq] at H
   obtain ⟨rfl, rfl⟩ := H
   go_enter Try.func157, Try.ntmps157
   go_wp2_with (first | ((with_reducible refine qj (f := 119) rfl ?_); refine qt (some 8) rfl rfl Try.func119 (by kernel_rfl) rfl #[.pointer (some ⟨g, 0, none⟩), .int .i64 8] rfl yq106 ?_; (with_reducible refine (spec_l1Rd_below.calls g s0_0 s0_1 8 t101 t102 w0 _ ?side1 ?side2 A4.out).mono ?_); (case side1 => exact yq103); (case side2 => exact yq104); rintro e w8 ⟨rfl, hi, hb, hk⟩; refine ⟨_, rfl, ?_⟩; replace HK := Qz.mk (KeepBut.trans yq105 hk (.inl rfl)); replace HB := Qz.mk (hb); replace HI0 := Qz.mk (hi); (try clear hb); (try clear hk); (try clear hi)))
   go_ret
   exact ⟨by first | rfl | (simp [qn, qm] <;> rfl) | (simp [*, qn, qm] <;> rfl), by repeat (first | (with_reducible first | exact HI0.out | apply IsS178.alloc | apply IsS178.drewN | apply IsS178.drew | apply IsS178.set_1) | exact HI0.out), by repeat (first | (with_reducible first | exact HB.out | apply qc | apply qa | apply qb | refine qd ?_ (IsS178.ge HI0.out)) | exact HB.out), by repeat (first | (with_reducible first | exact HK.out | apply KeepBut.set_ | apply qo | apply qq | apply qp) | exact HK.out)⟩
  ·rw [if_neg c7] at H
   have c7b0 : (t101 == 1) = false := beq_eq_false_iff_ne.mpr c7
   have c7b1 : (t101 != 1) = true := bne_iff_ne.mpr c7
   by_cases c9 : a2 < a1
   ·rw [if_pos c9] at H
    have c9b0 : decide (a2 < a1) = true := decide_eq_true c9
    clear c9
    simp only [Option.some.injEq, Prod.mk.injEq] at H
    obtain ⟨rfl, rfl⟩ := H
    go_enter Try.func157, Try.ntmps157
    go_wp2_with (first | ((with_reducible refine qj (f := 119) rfl ?_); refine qt (some 8) rfl rfl Try.func119 (by kernel_rfl) rfl #[.pointer (some ⟨g, 0, none⟩), .int .i64 8] rfl yq106 ?_; (with_reducible refine (spec_l1Rd_below.calls g s0_0 s0_1 8 t101 t102 w0 _ ?side1 ?side2 A4.out).mono ?_); (case side1 => exact yq103); (case side2 => exact yq104); rintro e w10 ⟨rfl, hi, hb, hk⟩; refine ⟨_, rfl, ?_⟩; replace HK := Qz.mk (KeepBut.trans yq105 hk (.inl rfl)); replace HB := Qz.mk (hb); replace HI0 := Qz.mk (hi); (try clear hb); (try clear hk); (try clear hi)))
    go_ret
    exact ⟨by first | rfl | (simp [qn, qm] <;> rfl) | (simp [*, qn, qm] <;> rfl), by repeat (first | (with_reducible first | exact HI0.out | apply IsS178.alloc | apply IsS178.drewN | apply IsS178.drew | apply IsS178.set_1) | exact HI0.out), by repeat (first | (with_reducible first | exact HB.out | apply qc | apply qa | apply qb | refine qd ?_ (IsS178.ge HI0.out)) | exact HB.out), by repeat (first | (with_reducible first | exact HK.out | apply KeepBut.set_ | apply qo | apply qq | apply qp) | exact HK.out)⟩
   ·rw [if_neg c9] at H
    have c9b0 : decide (a2 < a1) = false := decide_eq_false c9
    clear c9
    replace H := Option.bind_eq_some_iff.mp H
    obtain ⟨⟨t103, t104⟩, A110, H⟩ := H
    replace H : (if (IntKind.u64.wrap (wrap64 ((wrap64 (a2 - a1)) + 1))) = 0 then (none) else (some (wrap64 (a1 + (wrap64 (Int.tmod (t103 / 2) (IntKind.u64.wrap (wrap64 ((wrap64 (a2 - a1)) + 1)))))), t104))) = some (r1, r2) := H
    have A11 := Qz.mk A110
    clear A110
    by_cases c12 : (IntKind.u64.wrap (wrap64 ((wrap64 (a2 - a1)) + 1))) = 0
    ·rw [if_pos c12] at H
     exact absurd H (by simp)
    ·rw [if_neg c12] at H
     have c12b0 : ((IntKind.u64.wrap (wrap64 ((wrap64 (a2 - a1)) + 1))) == 0) = false := beq_eq_false_iff_ne.mpr c12
     have c12b1 : ((IntKind.u64.wrap (wrap64 ((wrap64 (a2 - a1)) + 1))) != 0) = true := bne_iff_ne.mpr c12
     simp only [Option.some.injEq, Prod.mk.injEq] at H
     obtain ⟨rfl, rfl⟩ := H
     go_enter Try.func157, Try.ntmps157
     go_wp2_with (first | ((with_reducible refine qj (f := 119) rfl ?_); refine qt (some 8) rfl rfl Try.func119 (by kernel_rfl) rfl #[.pointer (some ⟨g, 0, none⟩), .int .i64 8] rfl yq106 ?_; (with_reducible refine (spec_l1Rd_below.calls g s0_0 s0_1 8 t101 t102 w0 _ ?side1 ?side2 A4.out).mono ?_); (case side1 => exact yq103); (case side2 => exact yq104); rintro e w13 ⟨rfl, hi, hb, hk⟩; refine ⟨_, rfl, ?_⟩; replace HK := Qz.mk (KeepBut.trans yq105 hk (.inl rfl)); replace HB := Qz.mk (hb); replace HI0 := Qz.mk (hi); (try clear hb); (try clear hk); (try clear hi)) | ((with_reducible refine qj (f := 188) rfl ?_); refine qt (some 21) rfl rfl Try.func188 (by kernel_rfl) rfl #[.pointer (some ⟨g, 0, none⟩)] rfl yq106 ?_; (with_reducible refine (spec_l1Rd_word.calls k g s0_0 t102 t103 t104 w0 _ ?side1 ?side2 A11.out).mono ?_); (case side1 => exact yq103); (case side2 => exact yq104); rintro e w14 ⟨rfl, hi, hb, hk⟩; refine ⟨_, rfl, ?_⟩; replace HK := Qz.mk (KeepBut.trans yq105 hk (.inl rfl)); replace HB := Qz.mk (hb); replace HI0 := Qz.mk (hi); (try clear hb); (try clear hk); (try clear hi)))
     go_ret
     exact ⟨by first | rfl | (simp [qn, qm] <;> rfl) | (simp [*, qn, qm] <;> rfl), by repeat (first | (with_reducible first | exact HI0.out | apply IsS178.alloc | apply IsS178.drewN | apply IsS178.drew | apply IsS178.set_1) | exact HI0.out), by repeat (first | (with_reducible first | exact HB.out | apply qc | apply qa | apply qb | refine qd ?_ (IsS178.ge HI0.out)) | exact HB.out), by repeat (first | (with_reducible first | exact HK.out | apply KeepBut.set_ | apply qo | apply qq | apply qp) | exact HK.out)⟩
theorem yq107 {P : Prop} (h : P := by repeat (first | (with_reducible first | exact HK.out | apply KeepBut.set_ | apply qo | apply qq | apply qp) | exact HK.out)) : P := h
def spec_l1Rd_user.f (s0_0 : List Int) (s0_1 : Int) : Option (ByteArray × Int) := (some (([(⟨#[97]⟩ : ByteArray), (⟨#[98]⟩ : ByteArray), (⟨#[97, 98]⟩ : ByteArray), (⟨#[97, 98, 99]⟩ : ByteArray), (⟨#[97, 98, 100]⟩ : ByteArray), (⟨#[107, 101, 121]⟩ : ByteArray), (⟨#[107, 101, 121, 49]⟩ : ByteArray), (⟨#[107, 101, 121, 50]⟩ : ByteArray), (⟨#[122, 122]⟩ : ByteArray), (⟨#[97, 0]⟩ : ByteArray)] : List ByteArray) : List ByteArray)).bind fun y101 => ((spec_l1Rd_below.f s0_0 s0_1 10).bind fun bt104 => (if 0 ≤ bt104.1 then (if bt104.1 < (y101.length : Int) then (some (rdOf ByteArray.empty y101 bt104.1, bt104.2)) else (none)) else (none)))
set_option maxHeartbeats 8000000 in
set_option maxRecDepth 100000 in
theorem spec_l1Rd_user.calls (g : Nat) (s0_0 : List Int) (s0_1 : Int) (r1 : ByteArray) (r2 : Int) (w0 w : World) (hI : IsS178 w0 w g s0_0 s0_1) (hB : Below w0.heap.size w0 w) (h : spec_l1Rd_user.f s0_0 s0_1 = some (r1, r2)) :
  Calls Try.prog 158 #[.pointer (some ⟨g, 0, none⟩)] w fun e w' => e = .returned (.string r1) ∧ IsS178 w0 w' g s0_0 r2 ∧ Below w0.heap.size w0 w' ∧ KeepBut w w' g none := by
 have HI0 := Qz.mk hI
 have HK := Qz.mk (KeepBut.refl w g none)
 have HL := Qz.mk hB.size
 clear hI
 have HW0 := Qz.mk hB.size
 have HB := Qz.mk hB
 clear hB
 have H : ((some (([(⟨#[97]⟩ : ByteArray), (⟨#[98]⟩ : ByteArray), (⟨#[97, 98]⟩ : ByteArray), (⟨#[97, 98, 99]⟩ : ByteArray), (⟨#[97, 98, 100]⟩ : ByteArray), (⟨#[107, 101, 121]⟩ : ByteArray), (⟨#[107, 101, 121, 49]⟩ : ByteArray), (⟨#[107, 101, 121, 50]⟩ : ByteArray), (⟨#[122, 122]⟩ : ByteArray), (⟨#[97, 0]⟩ : ByteArray)] : List ByteArray) : List ByteArray)).bind fun y101 => ((spec_l1Rd_below.f s0_0 s0_1 10).bind fun bt104 => (if 0 ≤ bt104.1 then (if bt104.1 < (y101.length : Int) then (some (rdOf ByteArray.empty y101 bt104.1, bt104.2)) else (none)) else (none)))) = some (r1, r2) := h
 clear h
 obtain ⟨y101, hy101⟩ : ∃ y_ : List ByteArray, y_ = (([(⟨#[97]⟩ : ByteArray), (⟨#[98]⟩ : ByteArray), (⟨#[97, 98]⟩ : ByteArray), (⟨#[97, 98, 99]⟩ : ByteArray), (⟨#[97, 98, 100]⟩ : ByteArray), (⟨#[107, 101, 121]⟩ : ByteArray), (⟨#[107, 101, 121, 49]⟩ : ByteArray), (⟨#[107, 101, 121, 50]⟩ : ByteArray), (⟨#[122, 122]⟩ : ByteArray), (⟨#[97, 0]⟩ : ByteArray)] : List ByteArray)) := ⟨_, rfl⟩
 replace H : ((spec_l1Rd_below.f s0_0 s0_1 10).bind fun bt104 => (if 0 ≤ bt104.1 then (if bt104.1 < (y101.length : Int) then (some (rdOf ByteArray.empty y101 bt104.1, bt104.2)) else (none)) else (none))) = some (r1, r2) := by first | (rw [hy101]; with_reducible exact H) | (have H2_ := (Option.bind_some _ _).symm.trans H; rw [hy101]; with_reducible exact H2_) | (have H2_ := (Option.bind_some _ _).symm.trans H; with_reducible exact H2_) | with_reducible exact H | (rw [hy101]; exact H) | exact H
 have Ny101 := Qz.mk hy101
 clear hy101
 replace H := Option.bind_eq_some_iff.mp H
 obtain ⟨⟨t104, t105⟩, A20, H⟩ := H
 replace H : (if 0 ≤ t104 then (if t104 < (y101.length : Int) then (some (rdOf ByteArray.empty y101 t104, t105)) else (none)) else (none)) = some (r1, r2) := H
 have A2 := Qz.mk A20
 clear A20
 by_cases c3 : 0 ≤ t104
 ·rw [if_pos c3] at H
  have c3b0 : decide (0 ≤ t104) = true := decide_eq_true c3
  clear c3
  by_cases c4 : t104 < (y101.length : Int)
  ·rw [if_pos c4] at H
   have c4b0 : decide (t104 < (y101.length : Int)) = true := decide_eq_true c4
   clear c4
   simp only [Option.some.injEq, Prod.mk.injEq] at H
   obtain ⟨rfl, rfl⟩ := H
   go_enter Try.func158, Try.ntmps158
   go_wp2_with (first | ((with_reducible refine qb1 (N := 3) rfl ?_); refine Kd.R_lit Kd.string _ 9 ?hg (N := 3) ?hd (xs := ([(⟨#[97]⟩ : ByteArray), (⟨#[98]⟩ : ByteArray), (⟨#[97, 98]⟩ : ByteArray), (⟨#[97, 98, 99]⟩ : ByteArray), (⟨#[97, 98, 100]⟩ : ByteArray), (⟨#[107, 101, 121]⟩ : ByteArray), (⟨#[107, 101, 121, 49]⟩ : ByteArray), (⟨#[107, 101, 121, 50]⟩ : ByteArray), (⟨#[122, 122]⟩ : ByteArray), (⟨#[97, 0]⟩ : ByteArray)] : List ByteArray)) (inner := [.string (⟨#[97]⟩ : ByteArray), .string (⟨#[98]⟩ : ByteArray), .string (⟨#[97, 98]⟩ : ByteArray), .string (⟨#[97, 98, 99]⟩ : ByteArray), .string (⟨#[97, 98, 100]⟩ : ByteArray), .string (⟨#[107, 101, 121]⟩ : ByteArray), .string (⟨#[107, 101, 121, 49]⟩ : ByteArray), .string (⟨#[107, 101, 121, 50]⟩ : ByteArray), .string (⟨#[122, 122]⟩ : ByteArray), .string (⟨#[97, 0]⟩ : ByteArray)]) (ok := fun _ => True) (okp := fun _ => True) ?hr ?hp (fun _ hk => hk) trivial (Below.refl _ _) (Nat.le_refl _) (by simp) ?_; (case hd => rfl); (case hg => rfl); (case hr => first | (go_simp; done) | (go_simp; rfl)); (case hp => exact (Reps.one (show Kd.M Kd.string _ _ _ (⟨#[97]⟩ : ByteArray) [.string (⟨#[97]⟩ : ByteArray)] from rfl) (Reps.one (show Kd.M Kd.string _ _ _ (⟨#[98]⟩ : ByteArray) [.string (⟨#[98]⟩ : ByteArray)] from rfl) (Reps.one (show Kd.M Kd.string _ _ _ (⟨#[97, 98]⟩ : ByteArray) [.string (⟨#[97, 98]⟩ : ByteArray)] from rfl) (Reps.one (show Kd.M Kd.string _ _ _ (⟨#[97, 98, 99]⟩ : ByteArray) [.string (⟨#[97, 98, 99]⟩ : ByteArray)] from rfl) (Reps.one (show Kd.M Kd.string _ _ _ (⟨#[97, 98, 100]⟩ : ByteArray) [.string (⟨#[97, 98, 100]⟩ : ByteArray)] from rfl) (Reps.one (show Kd.M Kd.string _ _ _ (⟨#[107, 101, 121]⟩ : ByteArray) [.string (⟨#[107, 101, 121]⟩ : ByteArray)] from rfl) (Reps.one (show Kd.M Kd.string _ _ _ (⟨#[107, 101, 121, 49]⟩ : ByteArray) [.string (⟨#[107, 101, 121, 49]⟩ : ByteArray)] from rfl) (Reps.one (show Kd.M Kd.string _ _ _ (⟨#[107, 101, 121, 50]⟩ : ByteArray) [.string (⟨#[107, 101, 121, 50]⟩ : ByteArray)] from rfl) (Reps.one (show Kd.M Kd.string _ _ _ (⟨#[122, 122]⟩ : ByteArray) [.string (⟨#[122, 122]⟩ : ByteArray)] from rfl) (Reps.one (show Kd.M Kd.string _ _ _ (⟨#[97, 0]⟩ : ByteArray) [.string (⟨#[97, 0]⟩ : ByteArray)] from rfl) (Reps.none _ _)))))))))))); intro v102 w5 ho6 hb hg_ hnew_; clear hg_ hnew_; (first | rw [← Ny101.out] at ho6 | (simp only [Int.reduceToNat] at ho6; rw [← Ny101.out] at ho6)); have HO103 := Qz.mk (Kd.R_lower ho6 (ql1 (w := w) (g := g) (row := none) yq107)); replace HK := Qz.mk (KeepBut.trans yq107 (KeepBut.of_below hb g none) (.inl rfl)); replace HB := Qz.mk (ql (by repeat (first | (with_reducible first | exact HB.out | apply qc | apply qa | apply qb | refine qd ?_ (IsS178.ge HI0.out)) | exact HB.out)) hb); replace HI0 := Qz.mk (IsS178.below (by repeat (first | (with_reducible first | exact HI0.out | apply IsS178.alloc | apply IsS178.drewN | apply IsS178.drew | apply IsS178.set_1) | exact HI0.out)) hb); clear hb ho6) | ((with_reducible refine qj (f := 119) rfl ?_); refine qt (some 5) rfl rfl Try.func119 (by kernel_rfl) rfl #[.pointer (some ⟨g, 0, none⟩), .int .i64 10] rfl (by (try simp only [List.map_toArray, List.map_cons, List.map_nil]); first | done | rfl) ?_; (with_reducible refine (spec_l1Rd_below.calls g s0_0 s0_1 10 t104 t105 w0 _ ?side1 ?side2 A2.out).mono ?_); (case side1 => repeat (first | (with_reducible first | exact HI0.out | apply IsS178.alloc | apply IsS178.drewN | apply IsS178.drew | apply IsS178.set_1) | exact HI0.out)); (case side2 => repeat (first | (with_reducible first | exact HB.out | apply qc | apply qa | apply qb | refine qd ?_ (IsS178.ge HI0.out)) | exact HB.out)); rintro e w7 ⟨rfl, hi, hb, hk⟩; refine ⟨_, rfl, ?_⟩; replace HO103 := Qz.mk (Kd.R_mono (Kd.R_keep (IsS178.apart (show IsS178 w0 _ g s0_0 s0_1 from by repeat (first | (with_reducible first | exact HI0.out | apply IsS178.alloc | apply IsS178.drewN | apply IsS178.drew | apply IsS178.set_1) | exact HI0.out)) (by (with_reducible repeat (first | apply Kd.R_alloc | apply Kd.R_drewN | apply Kd.R_drew)); exact HO103.out) (by decide)) hk (fun _ h => h.2)) (fun _ h => h.1)); replace HK := Qz.mk (KeepBut.trans yq107 hk (.inl rfl)); replace HB := Qz.mk (hb); replace HI0 := Qz.mk (hi); (try clear hb); (try clear hk); (try clear hi); obtain ⟨Ao8, co8, eo8⟩ := Kd.R_slice HO103.out; subst eo8; have p106 : 0 ≤ (t104 : Int) := of_decide_eq_true (by first | (with_reducible assumption) | assumption); have q106 : t104 < (y101.length : Int) := of_decide_eq_true (by first | (with_reducible assumption) | assumption); obtain ⟨ad106, e106, hx106_0⟩ := Kd.at_string (Kd.R_reads' HO103.out).2.2 t104 p106 q106; cases e106; replace p106 := eq_true p106; replace q106 := eq_true q106))
   go_ret
   exact ⟨by first | rfl | (simp [qn, qm] <;> rfl) | (simp [*, qn, qm] <;> rfl), by repeat (first | (with_reducible first | exact HI0.out | apply IsS178.alloc | apply IsS178.drewN | apply IsS178.drew | apply IsS178.set_1) | exact HI0.out), by repeat (first | (with_reducible first | exact HB.out | apply qc | apply qa | apply qb | refine qd ?_ (IsS178.ge HI0.out)) | exact HB.out), by repeat (first | (with_reducible first | exact HK.out | apply KeepBut.set_ | apply qo | apply qq | apply qp) | exact HK.out)⟩
  ·rw [if_neg c4] at H
   exact absurd H (by simp)
 ·rw [if_neg c3] at H
  exact absurd H (by simp)
theorem yq108 {P : Prop} (h : P := by repeat (first | (with_reducible first | exact HI0.out | apply IsS178.alloc | apply IsS178.drewN | apply IsS178.drew | apply IsS178.set_1) | exact HI0.out)) : P := h
theorem yq109 {P : Prop} (h : P := by repeat (first | (with_reducible first | exact HK.out | apply KeepBut.set_ | apply qo | apply qq | apply qp) | exact HK.out)) : P := h
theorem yq110 {P : Prop} (h : P := by repeat (first | (with_reducible first | exact HB.out | apply qc | apply qa | apply qb | refine qd ?_ (IsS178.ge HI0.out)) | exact HB.out)) : P := h
theorem yq111 {P : Prop} (h : P := by (try simp only [List.map_toArray, List.map_cons, List.map_nil]); first | done | rfl) : P := h
def spec_l1Rd_off.f (k : Nat) (s0_0 : List Int) (s0_1 : Int) (a1 : Int) (a2 : Int) : Option (Int × Int) := (spec_l1Rd_once.f s0_0 s0_1 24).bind fun bt101 => (if bt101.1 = true then ((some (([wrap64 (a1 - 1), wrap64 (a2 + 1), (-9223372036854775808), 9223372036854775807] : List Int) : List Int)).bind fun y103 => ((spec_l1Rd_below.f s0_0 bt101.2 4).bind fun bt106 => (if 0 ≤ bt106.1 then (if bt106.1 < (y103.length : Int) then (some (rd y103 bt106.1, bt106.2)) else (none)) else (none)))) else ((spec_l1Rd_near.f k s0_0 bt101.2 a1 a2).bind fun bt109 => (some (bt109.1, bt109.2))))
set_option maxHeartbeats 8000000 in
set_option maxRecDepth 100000 in
theorem spec_l1Rd_off.calls (k : Nat) (g : Nat) (s0_0 : List Int) (s0_1 : Int) (a1 : Int) (a2 : Int) (r1 : Int) (r2 : Int) (w0 w : World) (hI : IsS178 w0 w g s0_0 s0_1) (hB : Below w0.heap.size w0 w) (h : spec_l1Rd_off.f k s0_0 s0_1 a1 a2 = some (r1, r2)) :
  Calls Try.prog 92 #[.pointer (some ⟨g, 0, none⟩), .int .i64 a1, .int .i64 a2] w fun e w' => e = .returned (.int .i64 r1) ∧ IsS178 w0 w' g s0_0 r2 ∧ Below w0.heap.size w0 w' ∧ KeepBut w w' g none := by
 have HI0 := Qz.mk hI
 have HK := Qz.mk (KeepBut.refl w g none)
 have HL := Qz.mk hB.size
 clear hI
 have HW0 := Qz.mk hB.size
 have HB := Qz.mk hB
 clear hB
 have H : ((spec_l1Rd_once.f s0_0 s0_1 24).bind fun bt101 => (if bt101.1 = true then ((some (([wrap64 (a1 - 1), wrap64 (a2 + 1), (-9223372036854775808), 9223372036854775807] : List Int) : List Int)).bind fun y103 => ((spec_l1Rd_below.f s0_0 bt101.2 4).bind fun bt106 => (if 0 ≤ bt106.1 then (if bt106.1 < (y103.length : Int) then (some (rd y103 bt106.1, bt106.2)) else (none)) else (none)))) else ((spec_l1Rd_near.f k s0_0 bt101.2 a1 a2).bind fun bt109 => (some (bt109.1, bt109.2))))) = some (r1, r2) := h
 clear h
 replace H := Option.bind_eq_some_iff.mp H
 obtain ⟨⟨t101, t102⟩, A40, H⟩ := H
 replace H : (if t101 = true then ((some (([wrap64 (a1 - 1), wrap64 (a2 + 1), (-9223372036854775808), 9223372036854775807] : List Int) : List Int)).bind fun y103 => ((spec_l1Rd_below.f s0_0 t102 4).bind fun bt106 => (if 0 ≤ bt106.1 then (if bt106.1 < (y103.length : Int) then (some (rd y103 bt106.1, bt106.2)) else (none)) else (none)))) else ((spec_l1Rd_near.f k s0_0 t102 a1 a2).bind fun bt109 => (some (bt109.1, bt109.2)))) = some (r1, r2) := H
 have A4 := Qz.mk A40
 clear A40
 by_cases c5 : t101 = true
 ·subst c5
  have H1 : ((some (([wrap64 (a1 - 1), wrap64 (a2 + 1), (-9223372036854775808), 9223372036854775807] : List Int) : List Int)).bind fun y103 => ((spec_l1Rd_below.f s0_0 t102 4).bind fun bt106 => (if 0 ≤ bt106.1 then (if bt106.1 < (y103.length : Int) then (some (rd y103 bt106.1, bt106.2)) else (none)) else (none)))) = some (r1, r2) := by rw [if_pos rfl] at H; exact H
  clear H
  have H := H1
  clear H1
  obtain ⟨y103, hy103⟩ : ∃ y_ : List Int, y_ = (([wrap64 (a1 - 1), wrap64 (a2 + 1), (-9223372036854775808), 9223372036854775807] : List Int)) := ⟨_, rfl⟩
  replace H : ((spec_l1Rd_below.f s0_0 t102 4).bind fun bt106 => (if 0 ≤ bt106.1 then (if bt106.1 < (y103.length : Int) then (some (rd y103 bt106.1, bt106.2)) else (none)) else (none))) = some (r1, r2) := by first | (rw [hy103]; with_reducible exact H) | (have H2_ := (Option.bind_some _ _).symm.trans H; rw [hy103]; with_reducible exact H2_) | (have H2_ := (Option.bind_some _ _).symm.trans H; with_reducible exact H2_) | with_reducible exact H | (rw [hy103]; exact H) | exact H
  have Ny103 := Qz.mk hy103
  clear hy103
  replace H := Option.bind_eq_some_iff.mp H
  obtain ⟨⟨t106, t107⟩, A60, H⟩ := H
  replace H : (if 0 ≤ t106 then (if t106 < (y103.length : Int) then (some (rd y103 t106, t107)) else (none)) else (none)) = some (r1, r2) := H
  have A6 := Qz.mk A60
  clear A60
  by_cases c7 : 0 ≤ t106
  ·rw [if_pos c7] at H
   have c7b0 : decide (0 ≤ t106) = true := decide_eq_true c7
   clear c7
   by_cases c8 : t106 < (y103.length : Int)
   ·rw [if_pos c8] at H
    have c8b0 : decide (t106 < (y103.length : Int)) = true := decide_eq_true c8
    clear c8
    simp only [Option.some.injEq, Prod.mk.injEq] at H
    obtain ⟨rfl, rfl⟩ := H
    go_enter Try.func92, Try.ntmps92
    go_wp2_with (first | ((with_reducible refine qj (f := 156) rfl ?_); refine qt (some 8) rfl rfl Try.func156 (by kernel_rfl) rfl #[.pointer (some ⟨g, 0, none⟩), .int .i64 24] rfl yq111 ?_; (with_reducible refine (spec_l1Rd_once.calls g s0_0 s0_1 24 true t102 w0 _ ?side1 ?side2 A4.out).mono ?_); (case side1 => exact yq108); (case side2 => exact yq110); rintro e w9 ⟨rfl, hi, hb, hk⟩; refine ⟨_, rfl, ?_⟩; replace HK := Qz.mk (KeepBut.trans yq109 hk (.inl rfl)); replace HB := Qz.mk (hb); replace HI0 := Qz.mk (hi); (try clear hb); (try clear hk); (try clear hi)) | ((with_reducible refine qb1 (N := 13) rfl ?_); refine Kd.R_lit (Kd.int .i64) _ 2 ?hg (N := 13) ?hd (xs := ([wrap64 (a1 - 1), wrap64 (a2 + 1), (-9223372036854775808), 9223372036854775807] : List Int)) (inner := [.int .i64 (wrap64 (a1 - 1)), .int .i64 (wrap64 (a2 + 1)), .int .i64 (-9223372036854775808), .int .i64 9223372036854775807]) (ok := fun _ => True) (okp := fun _ => True) ?hr ?hp (fun _ hk => hk) trivial (Below.refl _ _) (Nat.le_refl _) (by simp) ?_; (case hd => rfl); (case hg => rfl); (case hr => first | (go_simp; done) | (go_simp; rfl)); (case hp => exact (Reps.one (show Kd.M (Kd.int .i64) _ _ _ (wrap64 (a1 - 1)) [.int .i64 (wrap64 (a1 - 1))] from rfl) (Reps.one (show Kd.M (Kd.int .i64) _ _ _ (wrap64 (a2 + 1)) [.int .i64 (wrap64 (a2 + 1))] from rfl) (Reps.one (show Kd.M (Kd.int .i64) _ _ _ (-9223372036854775808) [.int .i64 (-9223372036854775808)] from rfl) (Reps.one (show Kd.M (Kd.int .i64) _ _ _ 9223372036854775807 [.int .i64 9223372036854775807] from rfl) (Reps.none _ _)))))); intro v104 w10 ho11 hb hg_ hnew_; clear hg_ hnew_; (first | rw [← Ny103.out] at ho11 | (simp only [Int.reduceToNat] at ho11; rw [← Ny103.out] at ho11)); have HO105 := Qz.mk (Kd.R_lower ho11 (ql1 (w := w) (g := g) (row := none) yq109)); replace HK := Qz.mk (KeepBut.trans yq109 (KeepBut.of_below hb g none) (.inl rfl)); replace HB := Qz.mk (ql yq110 hb); replace HI0 := Qz.mk (IsS178.below yq108 hb); clear hb ho11) | ((with_reducible refine qj (f := 119) rfl ?_); refine qt (some 15) rfl rfl Try.func119 (by kernel_rfl) rfl #[.pointer (some ⟨g, 0, none⟩), .int .i64 4] rfl yq111 ?_; (with_reducible refine (spec_l1Rd_below.calls g s0_0 t102 4 t106 t107 w0 _ ?side1 ?side2 A6.out).mono ?_); (case side1 => exact yq108); (case side2 => exact yq110); rintro e w12 ⟨rfl, hi, hb, hk⟩; refine ⟨_, rfl, ?_⟩; replace HO105 := Qz.mk (Kd.R_mono (Kd.R_keep (IsS178.apart (show IsS178 w0 _ g s0_0 t102 from by repeat (first | (with_reducible first | exact HI0.out | apply IsS178.alloc | apply IsS178.drewN | apply IsS178.drew | apply IsS178.set_1) | exact HI0.out)) (by (with_reducible repeat (first | apply Kd.R_alloc | apply Kd.R_drewN | apply Kd.R_drew)); exact HO105.out) (by decide)) hk (fun _ h => h.2)) (fun _ h => h.1)); replace HK := Qz.mk (KeepBut.trans yq109 hk (.inl rfl)); replace HB := Qz.mk (hb); replace HI0 := Qz.mk (hi); (try clear hb); (try clear hk); (try clear hi); obtain ⟨Ao13, co13, eo13⟩ := Kd.R_slice HO105.out; subst eo13; have p108 : 0 ≤ (t106 : Int) := of_decide_eq_true (by first | (with_reducible assumption) | assumption); have q108 : t106 < (y103.length : Int) := of_decide_eq_true (by first | (with_reducible assumption) | assumption); obtain ⟨ad108, e108, hx108_0⟩ := Kd.at_int (Kd.R_reads' HO105.out).2.2 t106 p108 q108; cases e108; replace p108 := eq_true p108; replace q108 := eq_true q108))
    go_ret
    exact ⟨by first | rfl | (simp [qn, qm] <;> rfl) | (simp [*, qn, qm] <;> rfl), by repeat (first | (with_reducible first | exact HI0.out | apply IsS178.alloc | apply IsS178.drewN | apply IsS178.drew | apply IsS178.set_1) | exact HI0.out), by repeat (first | (with_reducible first | exact HB.out | apply qc | apply qa | apply qb | refine qd ?_ (IsS178.ge HI0.out)) | exact HB.out), by repeat (first | (with_reducible first | exact HK.out | apply KeepBut.set_ | apply qo | apply qq | apply qp) | exact HK.out)⟩
   ·rw [if_neg c8] at H
    exact absurd H (by simp)
  ·rw [if_neg c7] at H
   exact absurd H (by simp)
 ·replace c5 := Bool.eq_false_iff.mpr c5
  subst c5
  have H1 : ((spec_l1Rd_near.f k s0_0 t102 a1 a2).bind fun bt109 => (some (bt109.1, bt109.2))) = some (r1, r2) := by rw [if_neg (show ¬ (false = true) by decide)] at H; exact H
  clear H
  have H := H1
  clear H1
  replace H := Option.bind_eq_some_iff.mp H
  obtain ⟨⟨t109, t110⟩, A140, H⟩ := H
  replace H : (some (t109, t110)) = some (r1, r2) := H
  have A14 := Qz.mk A140
  clear A140
  simp only [Option.some.injEq, Prod.mk.injEq] at H
  obtain ⟨rfl, rfl⟩ := H
  go_enter Try.func92, Try.ntmps92
  go_wp2_with (first | ((with_reducible refine qj (f := 156) rfl ?_); refine qt (some 8) rfl rfl Try.func156 (by kernel_rfl) rfl #[.pointer (some ⟨g, 0, none⟩), .int .i64 24] rfl yq111 ?_; (with_reducible refine (spec_l1Rd_once.calls g s0_0 s0_1 24 false t102 w0 _ ?side1 ?side2 A4.out).mono ?_); (case side1 => exact yq108); (case side2 => exact yq110); rintro e w15 ⟨rfl, hi, hb, hk⟩; refine ⟨_, rfl, ?_⟩; replace HK := Qz.mk (KeepBut.trans yq109 hk (.inl rfl)); replace HB := Qz.mk (hb); replace HI0 := Qz.mk (hi); (try clear hb); (try clear hk); (try clear hi)) | ((with_reducible refine qj (f := 157) rfl ?_); refine qt (some 21) rfl rfl Try.func157 (by kernel_rfl) rfl #[.pointer (some ⟨g, 0, none⟩), .int .i64 a1, .int .i64 a2] rfl yq111 ?_; (with_reducible refine (spec_l1Rd_near.calls k g s0_0 t102 a1 a2 t109 t110 w0 _ ?side1 ?side2 A14.out).mono ?_); (case side1 => exact yq108); (case side2 => exact yq110); rintro e w16 ⟨rfl, hi, hb, hk⟩; refine ⟨_, rfl, ?_⟩; replace HK := Qz.mk (KeepBut.trans yq109 hk (.inl rfl)); replace HB := Qz.mk (hb); replace HI0 := Qz.mk (hi); (try clear hb); (try clear hk); (try clear hi)))
  go_ret
  exact ⟨by first | rfl | (simp [qn, qm] <;> rfl) | (simp [*, qn, qm] <;> rfl), by repeat (first | (with_reducible first | exact HI0.out | apply IsS178.alloc | apply IsS178.drewN | apply IsS178.drew | apply IsS178.set_1) | exact HI0.out), by repeat (first | (with_reducible first | exact HB.out | apply qc | apply qa | apply qb | refine qd ?_ (IsS178.ge HI0.out)) | exact HB.out), by repeat (first | (with_reducible first | exact HK.out | apply KeepBut.set_ | apply qo | apply qq | apply qp) | exact HK.out)⟩
theorem yq112 {P : Prop} (h : P := by repeat (first | (with_reducible first | exact HK.out | apply KeepBut.set_ | apply qo | apply qq | apply qp | refine qa1 ?_ GW101.out _) | exact HK.out)) : P := h
theorem yq113 {P : Prop} (h : P := by repeat (first | (with_reducible first | exact HI0.out | apply IsS178.alloc | apply IsS178.drewN | apply IsS178.drew | apply IsS178.set_1 | apply (fun h_ => IsS178.far h_ NB0_101.out _)) | exact HI0.out)) : P := h
theorem yq114 {P : Prop} (h : P := by (with_reducible repeat (first | refine qg ?_ _ | refine qi ?_ | refine qh ?_ _)); exact BK101.out) : P := h
theorem yq115 {P : Prop} (h : P := by repeat (first | (with_reducible first | exact HB.out | apply qc | apply qa | apply qb | refine qd ?_ (IsS178.ge HI0.out) | refine qd ?_ GE101.out) | exact HB.out)) : P := h
theorem yq116 {P : Prop} (h : P := by (with_reducible repeat (first | refine qg ?_ _ | refine qi ?_ | refine qh ?_ _)); refine qw (cs := #[.string t102, .int .i64 t104, .int .i64 0]) ?_ 2 _ rfl; (with_reducible repeat (first | refine qg ?_ _ | refine qi ?_ | refine qh ?_ _)); refine qw (cs := #[.string t102, .int .i64 0, .int .i64 0]) ?_ 1 _ rfl; (with_reducible repeat (first | refine qg ?_ _ | refine qi ?_ | refine qh ?_ _)); refine qw (cs := #[.string (⟨#[]⟩ : ByteArray), .int .i64 0, .int .i64 0]) ?_ 0 _ rfl; (with_reducible repeat (first | refine qg ?_ _ | refine qi ?_ | refine qh ?_ _)); exact BK108.out) : P := h
theorem yq117 {P : Prop} (h : P := by repeat (first | (with_reducible first | exact HI0.out | apply IsS178.alloc | apply IsS178.drewN | apply IsS178.drew | apply IsS178.set_1 | apply (fun h_ => IsS178.far h_ NB0_101.out _) | apply (fun h_ => IsS178.far h_ NB0_108.out _)) | exact HI0.out)) : P := h
theorem yq118 {P : Prop} (h : P := by (try simp only [List.map_toArray, List.map_cons, List.map_nil]); first | done | rfl) : P := h
theorem yq119 {P : Prop} (h : P := by (with_reducible repeat (first | refine qg ?_ _ | refine qi ?_ | refine qh ?_ _)); refine blk_far ?_ NB101_108.out _; (with_reducible repeat (first | refine qg ?_ _ | refine qi ?_ | refine qh ?_ _)); refine blk_far ?_ NB101_108.out _; (with_reducible repeat (first | refine qg ?_ _ | refine qi ?_ | refine qh ?_ _)); refine blk_far ?_ NB101_108.out _; (with_reducible repeat (first | refine qg ?_ _ | refine qi ?_ | refine qh ?_ _)); exact BK101.out) : P := h
theorem yq120 {P : Prop} (h : P := by repeat (first | (with_reducible first | exact HK.out | apply KeepBut.set_ | apply qo | apply qq | apply qp) | exact HK.out)) : P := h
theorem yq121 {P : Prop} (h : P := by repeat (first | (with_reducible first | exact HB.out | apply qc | apply qa | apply qb | refine qd ?_ (IsS178.ge HI0.out) | refine qd ?_ GE101.out | refine qd ?_ GE108.out) | exact HB.out)) : P := h
theorem yq122 {P : Prop} (h : P := by repeat (first | (with_reducible first | exact HK.out | apply KeepBut.set_ | apply qo | apply qq | apply qp | refine qa1 ?_ GW101.out _ | refine qa1 ?_ GW108.out _) | exact HK.out)) : P := h
theorem yq123 {P : Prop} (h : P := by repeat (first | (with_reducible first | exact HI0.out | apply IsS178.alloc | apply IsS178.drewN | apply IsS178.drew | apply IsS178.set_1) | exact HI0.out)) : P := h
theorem yq124 {P : Prop} (h : P := by repeat (first | (with_reducible first | exact HB.out | apply qc | apply qa | apply qb | refine qd ?_ (IsS178.ge HI0.out)) | exact HB.out)) : P := h
theorem yq125 {P : Prop} (h : P := by rw [hg]; exact Nat.ne_of_lt (blk_lt (g := gb101) (o := .cells #[.string (⟨#[]⟩ : ByteArray), .int .i64 0, .int .i64 0] 35 (0, 0)) yq114)) : P := h
theorem yq126 {P : Prop} (h : P := by rw [hg]; exact Nat.ne_of_gt (blk_lt (g := gb101) (o := .cells #[.string (⟨#[]⟩ : ByteArray), .int .i64 0, .int .i64 0] 35 (0, 0)) yq114)) : P := h
theorem yq127 {P : Prop} (h : P := by rw [hg]; exact (ql1 (w := w) (g := g) (row := none) yq120)) : P := h
theorem yq128 {P : Prop} (h : P := by rw [hg]; exact (ql1 (w := w) (g := g) (row := none) yq112)) : P := h
theorem yq129 {P : Prop} (h : P := by first | (go_simp; done) | (go_simp; rfl)) : P := h
def spec_l1Rd_key.f (k : Nat) (s0_0 : List Int) (s0_1 : Int) : Option (ByteArray × Int × Int × Int) := (spec_l1Rd_user.f s0_0 s0_1).bind fun bt102 => ((spec_l1Rd_near.f k s0_0 bt102.2 0 12).bind fun bt104 => ((spec_l1Rd_below.f s0_0 bt104.2 2).bind fun bt106 => ((spec_l1Rd_below.f s0_0 bt106.2 24).bind fun bt109 => (if bt109.1 = 0 then ((spec_l1Rd_off.f k s0_0 bt109.2 0 1000000000000).bind fun bt111 => (some (bt102.1, bt111.1, bt106.1, bt111.2))) else (if bt109.1 = 1 then ((spec_l1Rd_off.f k s0_0 bt109.2 0 1).bind fun bt113 => (some (bt102.1, bt104.1, bt113.1, bt113.2))) else (if bt109.1 = 2 then ((spec_l1Rd_bytes.f k s0_0 bt109.2 45).bind fun bt115 => (some (bt115.1, bt104.1, bt106.1, bt115.2))) else (some (bt102.1, bt104.1, bt106.1, bt109.2))))))))
set_option maxHeartbeats 8000000 in
set_option maxRecDepth 100000 in
theorem spec_l1Rd_key.calls (k : Nat) (g : Nat) (s0_0 : List Int) (s0_1 : Int) (r1 : ByteArray) (r2 : Int) (r3 : Int) (r4 : Int) (w0 w : World) (hI : IsS178 w0 w g s0_0 s0_1) (hB : Below w0.heap.size w0 w) (h : spec_l1Rd_key.f k s0_0 s0_1 = some (r1, r2, r3, r4)) :
  Calls Try.prog 94 #[.pointer (some ⟨g, 0, none⟩)] w fun e w' => e = .returned (.agg #[.string r1, .int .i64 r2, .int .i64 r3]) ∧ IsS178 w0 w' g s0_0 r4 ∧ Below w0.heap.size w0 w' ∧ KeepBut w w' g none := by
 have hu35 := Try.underlying35
 have HI0 := Qz.mk hI
 have HK := Qz.mk (KeepBut.refl w g none)
 have HL := Qz.mk hB.size
 clear hI
 have HW0 := Qz.mk hB.size
 have HB := Qz.mk hB
 clear hB
 have H : ((spec_l1Rd_user.f s0_0 s0_1).bind fun bt102 => ((spec_l1Rd_near.f k s0_0 bt102.2 0 12).bind fun bt104 => ((spec_l1Rd_below.f s0_0 bt104.2 2).bind fun bt106 => ((spec_l1Rd_below.f s0_0 bt106.2 24).bind fun bt109 => (if bt109.1 = 0 then ((spec_l1Rd_off.f k s0_0 bt109.2 0 1000000000000).bind fun bt111 => (some (bt102.1, bt111.1, bt106.1, bt111.2))) else (if bt109.1 = 1 then ((spec_l1Rd_off.f k s0_0 bt109.2 0 1).bind fun bt113 => (some (bt102.1, bt104.1, bt113.1, bt113.2))) else (if bt109.1 = 2 then ((spec_l1Rd_bytes.f k s0_0 bt109.2 45).bind fun bt115 => (some (bt115.1, bt104.1, bt106.1, bt115.2))) else (some (bt102.1, bt104.1, bt106.1, bt109.2))))))))) = some (r1, r2, r3, r4) := h
 clear h
 replace H := Option.bind_eq_some_iff.mp H
 obtain ⟨⟨t102, t103⟩, A20, H⟩ := H
 replace H : ((spec_l1Rd_near.f k s0_0 t103 0 12).bind fun bt104 => ((spec_l1Rd_below.f s0_0 bt104.2 2).bind fun bt106 => ((spec_l1Rd_below.f s0_0 bt106.2 24).bind fun bt109 => (if bt109.1 = 0 then ((spec_l1Rd_off.f k s0_0 bt109.2 0 1000000000000).bind fun bt111 => (some (t102, bt111.1, bt106.1, bt111.2))) else (if bt109.1 = 1 then ((spec_l1Rd_off.f k s0_0 bt109.2 0 1).bind fun bt113 => (some (t102, bt104.1, bt113.1, bt113.2))) else (if bt109.1 = 2 then ((spec_l1Rd_bytes.f k s0_0 bt109.2 45).bind fun bt115 => (some (bt115.1, bt104.1, bt106.1, bt115.2))) else (some (t102, bt104.1, bt106.1, bt109.2)))))))) = some (r1, r2, r3, r4) := H
 have A2 := Qz.mk A20
 clear A20
 replace H := Option.bind_eq_some_iff.mp H
 obtain ⟨⟨t104, t105⟩, A30, H⟩ := H
 replace H : ((spec_l1Rd_below.f s0_0 t105 2).bind fun bt106 => ((spec_l1Rd_below.f s0_0 bt106.2 24).bind fun bt109 => (if bt109.1 = 0 then ((spec_l1Rd_off.f k s0_0 bt109.2 0 1000000000000).bind fun bt111 => (some (t102, bt111.1, bt106.1, bt111.2))) else (if bt109.1 = 1 then ((spec_l1Rd_off.f k s0_0 bt109.2 0 1).bind fun bt113 => (some (t102, t104, bt113.1, bt113.2))) else (if bt109.1 = 2 then ((spec_l1Rd_bytes.f k s0_0 bt109.2 45).bind fun bt115 => (some (bt115.1, t104, bt106.1, bt115.2))) else (some (t102, t104, bt106.1, bt109.2))))))) = some (r1, r2, r3, r4) := H
 have A3 := Qz.mk A30
 clear A30
 replace H := Option.bind_eq_some_iff.mp H
 obtain ⟨⟨t106, t107⟩, A40, H⟩ := H
 replace H : ((spec_l1Rd_below.f s0_0 t107 24).bind fun bt109 => (if bt109.1 = 0 then ((spec_l1Rd_off.f k s0_0 bt109.2 0 1000000000000).bind fun bt111 => (some (t102, bt111.1, t106, bt111.2))) else (if bt109.1 = 1 then ((spec_l1Rd_off.f k s0_0 bt109.2 0 1).bind fun bt113 => (some (t102, t104, bt113.1, bt113.2))) else (if bt109.1 = 2 then ((spec_l1Rd_bytes.f k s0_0 bt109.2 45).bind fun bt115 => (some (bt115.1, t104, t106, bt115.2))) else (some (t102, t104, t106, bt109.2)))))) = some (r1, r2, r3, r4) := H
 have A4 := Qz.mk A40
 clear A40
 replace H := Option.bind_eq_some_iff.mp H
 obtain ⟨⟨t109, t110⟩, A50, H⟩ := H
 replace H : (if t109 = 0 then ((spec_l1Rd_off.f k s0_0 t110 0 1000000000000).bind fun bt111 => (some (t102, bt111.1, t106, bt111.2))) else (if t109 = 1 then ((spec_l1Rd_off.f k s0_0 t110 0 1).bind fun bt113 => (some (t102, t104, bt113.1, bt113.2))) else (if t109 = 2 then ((spec_l1Rd_bytes.f k s0_0 t110 45).bind fun bt115 => (some (bt115.1, t104, t106, bt115.2))) else (some (t102, t104, t106, t110))))) = some (r1, r2, r3, r4) := H
 have A5 := Qz.mk A50
 clear A50
 by_cases c6 : t109 = 0
 ·rw [if_pos c6] at H
  have c6b0 : (t109 == 0) = true := beq_iff_eq.mpr c6
  have c6b1 : (t109 != 0) = false := bne_eq_false_iff_eq.mpr c6
  clear c6
  replace H := Option.bind_eq_some_iff.mp H
  obtain ⟨⟨t111, t112⟩, A70, H⟩ := H
  replace H : (some (t102, t111, t106, t112)) = some (r1, r2, r3, r4) := H
  have A7 := Qz.mk A70
  clear A70
  simp only [Option.some.injEq, Prod.mk.injEq] at H
  obtain ⟨rfl, rfl, rfl, rfl⟩ := H
  go_enter Try.func94, Try.ntmps94
  go_wp2_with (first | ((with_reducible refine qb1 (N := 2) rfl ?_); refine qz ?hg (N := 2) ?hd (cs := #[.string (⟨#[]⟩ : ByteArray), .int .i64 0, .int .i64 0]) (t := 35) ?hr ?_; (case hd => rfl); (case hg => rfl); (case hr => exact yq129); intro gb101 hg w8 hbox hb; replace HB := Qz.mk (ql yq124 hb); have BK101 := Qz.mk (hbox); have GW101 := Qz.mk ((yq127 : w.heap.size ≤ gb101)); have GE101 := Qz.mk ((Nat.le_trans HW0.out (yq127 : w.heap.size ≤ gb101) : w0.heap.size ≤ gb101)); replace HK := Qz.mk (KeepBut.trans yq120 (KeepBut.of_below hb g none) (.inl rfl)); have NB0_101 := Qz.mk ((by rw [hg]; exact Nat.ne_of_lt (IsS178.lt (show IsS178 w0 _ g s0_0 s0_1 from by repeat (first | (with_reducible first | exact HI0.out | apply IsS178.alloc | apply IsS178.drewN | apply IsS178.drew | apply IsS178.set_1) | exact HI0.out))) : g ≠ gb101)); have NB101_0 := Qz.mk ((by rw [hg]; exact Nat.ne_of_gt (IsS178.lt (show IsS178 w0 _ g s0_0 s0_1 from by repeat (first | (with_reducible first | exact HI0.out | apply IsS178.alloc | apply IsS178.drewN | apply IsS178.drew | apply IsS178.set_1) | exact HI0.out))) : gb101 ≠ g)); replace HI0 := Qz.mk (IsS178.below yq123 hb); clear hb hbox hg) | ((with_reducible refine qj (f := 158) rfl ?_); refine qt (some 5) rfl rfl Try.func158 (by kernel_rfl) rfl #[.pointer (some ⟨g, 0, none⟩)] rfl yq118 ?_; (with_reducible refine (spec_l1Rd_user.calls g s0_0 s0_1 t102 t103 w0 _ ?side1 ?side2 A2.out).mono ?_); (case side1 => exact yq113); (case side2 => exact yq115); rintro e w9 ⟨rfl, hi, hb, hk⟩; refine ⟨_, rfl, ?_⟩; replace BK101 := Qz.mk (KeepBut.blk hk (g' := gb101) (o := .cells #[.string (⟨#[]⟩ : ByteArray), .int .i64 0, .int .i64 0] 35 (0, 0)) yq114 NB101_0.out (by simp)); replace HK := Qz.mk (KeepBut.trans yq112 hk (.inl rfl)); replace HB := Qz.mk (hb); replace HI0 := Qz.mk (hi); (try clear hb); (try clear hk); (try clear hi)) | ((with_reducible refine qj (f := 157) rfl ?_); refine qt (some 7) rfl rfl Try.func157 (by kernel_rfl) rfl #[.pointer (some ⟨g, 0, none⟩), .int .i64 0, .int .i64 12] rfl yq118 ?_; (with_reducible refine (spec_l1Rd_near.calls k g s0_0 t103 0 12 t104 t105 w0 _ ?side1 ?side2 A3.out).mono ?_); (case side1 => exact yq113); (case side2 => exact yq115); rintro e w10 ⟨rfl, hi, hb, hk⟩; refine ⟨_, rfl, ?_⟩; replace BK101 := Qz.mk (KeepBut.blk hk (g' := gb101) (o := .cells #[.string (⟨#[]⟩ : ByteArray), .int .i64 0, .int .i64 0] 35 (0, 0)) yq114 NB101_0.out (by simp)); replace HK := Qz.mk (KeepBut.trans yq112 hk (.inl rfl)); replace HB := Qz.mk (hb); replace HI0 := Qz.mk (hi); (try clear hb); (try clear hk); (try clear hi)) | ((with_reducible refine qj (f := 119) rfl ?_); refine qt (some 9) rfl rfl Try.func119 (by kernel_rfl) rfl #[.pointer (some ⟨g, 0, none⟩), .int .i64 2] rfl yq118 ?_; (with_reducible refine (spec_l1Rd_below.calls g s0_0 t105 2 t106 t107 w0 _ ?side1 ?side2 A4.out).mono ?_); (case side1 => exact yq113); (case side2 => exact yq115); rintro e w11 ⟨rfl, hi, hb, hk⟩; refine ⟨_, rfl, ?_⟩; replace BK101 := Qz.mk (KeepBut.blk hk (g' := gb101) (o := .cells #[.string (⟨#[]⟩ : ByteArray), .int .i64 0, .int .i64 0] 35 (0, 0)) yq114 NB101_0.out (by simp)); replace HK := Qz.mk (KeepBut.trans yq112 hk (.inl rfl)); replace HB := Qz.mk (hb); replace HI0 := Qz.mk (hi); (try clear hb); (try clear hk); (try clear hi)) | ((with_reducible refine qb1 (N := 3) rfl ?_); refine qz ?hg (N := 3) ?hd (cs := #[.string (⟨#[]⟩ : ByteArray), .int .i64 0, .int .i64 0]) (t := 35) ?hr ?_; (case hd => rfl); (case hg => rfl); (case hr => exact yq129); intro gb108 hg w12 hbox hb; replace HB := Qz.mk (ql yq115 hb); have BK108 := Qz.mk (hbox); have GW108 := Qz.mk ((yq128 : w.heap.size ≤ gb108)); have GE108 := Qz.mk ((Nat.le_trans HW0.out (yq128 : w.heap.size ≤ gb108) : w0.heap.size ≤ gb108)); replace HK := Qz.mk (KeepBut.trans yq112 (KeepBut.of_below hb g none) (.inl rfl)); have NB101_108 := Qz.mk ((yq125 : gb101 ≠ gb108)); have NB108_101 := Qz.mk ((yq126 : gb108 ≠ gb101)); replace BK101 := Qz.mk (qu (g := gb101) (o := .cells #[.string (⟨#[]⟩ : ByteArray), .int .i64 0, .int .i64 0] 35 (0, 0)) yq114 hb); have NB0_108 := Qz.mk ((by rw [hg]; exact Nat.ne_of_lt (IsS178.lt (show IsS178 w0 _ g s0_0 t107 from by repeat (first | (with_reducible first | exact HI0.out | apply IsS178.alloc | apply IsS178.drewN | apply IsS178.drew | apply IsS178.set_1 | apply (fun h_ => IsS178.far h_ NB0_101.out _)) | exact HI0.out))) : g ≠ gb108)); have NB108_0 := Qz.mk ((by rw [hg]; exact Nat.ne_of_gt (IsS178.lt (show IsS178 w0 _ g s0_0 t107 from by repeat (first | (with_reducible first | exact HI0.out | apply IsS178.alloc | apply IsS178.drewN | apply IsS178.drew | apply IsS178.set_1 | apply (fun h_ => IsS178.far h_ NB0_101.out _)) | exact HI0.out))) : gb108 ≠ g)); replace HI0 := Qz.mk (IsS178.below yq113 hb); clear hb hbox hg; have hnb13 := NB108_101.out; have hnc13 := NB101_108.out; have hnb14 := NB108_0.out; have hnc14 := NB0_108.out; have hcz15_0 : w12.cell? ⟨gb108, 0, none⟩ = some (.string (⟨#[]⟩ : ByteArray)) := (qf BK108.out 0).trans rfl; have hcz15_1 : w12.cell? ⟨gb108, 1, none⟩ = some (.int .i64 0) := (qf BK108.out 1).trans rfl; have hcz15_2 : w12.cell? ⟨gb108, 2, none⟩ = some (.int .i64 0) := (qf BK108.out 2).trans rfl; have hfz15_0 := qe BK108.out 0; have hfz15_1 := qe BK108.out 1; have hfz15_2 := qe BK108.out 2) | ((with_reducible refine qj (f := 119) rfl ?_); refine qt (some 12) rfl rfl Try.func119 (by kernel_rfl) rfl #[.pointer (some ⟨g, 0, none⟩), .int .i64 24] rfl yq118 ?_; (with_reducible refine (spec_l1Rd_below.calls g s0_0 t107 24 t109 t110 w0 _ ?side1 ?side2 A5.out).mono ?_); (case side1 => exact yq117); (case side2 => exact yq121); rintro e w16 ⟨rfl, hi, hb, hk⟩; refine ⟨_, rfl, ?_⟩; replace BK101 := Qz.mk (KeepBut.blk hk (g' := gb101) (o := .cells #[.string (⟨#[]⟩ : ByteArray), .int .i64 0, .int .i64 0] 35 (0, 0)) yq119 NB101_0.out (by simp)); replace BK108 := Qz.mk (KeepBut.blk hk (g' := gb108) (o := .cells #[.string t102, .int .i64 t104, .int .i64 t106] 35 (0, 0)) yq116 NB108_0.out (by simp)); replace HK := Qz.mk (KeepBut.trans yq122 hk (.inl rfl)); replace HB := Qz.mk (hb); replace HI0 := Qz.mk (hi); (try clear hb); (try clear hk); (try clear hi)) | ((with_reducible refine qj (f := 92) rfl ?_); refine qt (some 16) rfl rfl Try.func92 (by kernel_rfl) rfl #[.pointer (some ⟨g, 0, none⟩), .int .i64 0, .int .i64 1000000000000] rfl yq118 ?_; (with_reducible refine (spec_l1Rd_off.calls k g s0_0 t110 0 1000000000000 t111 t112 w0 _ ?side1 ?side2 A7.out).mono ?_); (case side1 => exact yq117); (case side2 => exact yq121); rintro e w17 ⟨rfl, hi, hb, hk⟩; refine ⟨_, rfl, ?_⟩; replace BK101 := Qz.mk (KeepBut.blk hk (g' := gb101) (o := .cells #[.string (⟨#[]⟩ : ByteArray), .int .i64 0, .int .i64 0] 35 (0, 0)) yq114 NB101_0.out (by simp)); replace BK108 := Qz.mk (KeepBut.blk hk (g' := gb108) (o := .cells #[.string t102, .int .i64 t104, .int .i64 t106] 35 (0, 0)) (by (with_reducible repeat (first | refine qg ?_ _ | refine qi ?_ | refine qh ?_ _)); exact BK108.out) NB108_0.out (by simp)); replace HK := Qz.mk (KeepBut.trans yq122 hk (.inl rfl)); replace HB := Qz.mk (hb); replace HI0 := Qz.mk (hi); (try clear hb); (try clear hk); (try clear hi); have hcz18_0 : w17.cell? ⟨gb108, 0, none⟩ = some (.string t102) := (qf BK108.out 0).trans rfl; have hcz18_1 : w17.cell? ⟨gb108, 1, none⟩ = some (.int .i64 t104) := (qf BK108.out 1).trans rfl; have hcz18_2 : w17.cell? ⟨gb108, 2, none⟩ = some (.int .i64 t106) := (qf BK108.out 2).trans rfl; have hfz18_0 := qe BK108.out 0; have hfz18_1 := qe BK108.out 1; have hfz18_2 := qe BK108.out 2; have hnb19 := NB101_0.out; have hnc19 := NB0_101.out; have hcz20_0 : w17.cell? ⟨gb101, 0, none⟩ = some (.string (⟨#[]⟩ : ByteArray)) := (qf BK101.out 0).trans rfl; have hcz20_1 : w17.cell? ⟨gb101, 1, none⟩ = some (.int .i64 0) := (qf BK101.out 1).trans rfl; have hcz20_2 : w17.cell? ⟨gb101, 2, none⟩ = some (.int .i64 0) := (qf BK101.out 2).trans rfl; have hfz20_0 := qe BK101.out 0; have hfz20_1 := qe BK101.out 1; have hfz20_2 := qe BK101.out 2))
  refine bodyPost_ret (results_cell_row rfl _ _ gb101 35 #[.string t102, .int .i64 t111, .int .i64 t106] (0, 0) _ rfl (by (with_reducible repeat (first | refine qg ?_ _ | refine qi ?_ | refine qh ?_ _)); refine qw (cs := #[.string t102, .int .i64 t111, .int .i64 0]) ?_ 2 _ rfl; (with_reducible repeat (first | refine qg ?_ _ | refine qi ?_ | refine qh ?_ _)); refine qw (cs := #[.string t102, .int .i64 0, .int .i64 0]) ?_ 1 _ rfl; (with_reducible repeat (first | refine qg ?_ _ | refine qi ?_ | refine qh ?_ _)); refine qw (cs := #[.string (⟨#[]⟩ : ByteArray), .int .i64 0, .int .i64 0]) ?_ 0 _ rfl; (with_reducible repeat (first | refine qg ?_ _ | refine qi ?_ | refine qh ?_ _)); refine blk_far ?_ NB101_108.out _; (with_reducible repeat (first | refine qg ?_ _ | refine qi ?_ | refine qh ?_ _)); exact BK101.out) Try.underlying35 rfl (by kernel_rfl)) rfl ?_
  exact ⟨by first | rfl | (simp [qn, qm] <;> rfl) | (simp [*, qn, qm] <;> rfl), by repeat (first | (with_reducible first | exact HI0.out | apply IsS178.alloc | apply IsS178.drewN | apply IsS178.drew | apply IsS178.set_1 | apply (fun h_ => IsS178.far h_ NB0_101.out _) | apply (fun h_ => IsS178.far h_ NB0_108.out _)) | exact HI0.out), by repeat (first | (with_reducible first | exact HB.out | apply qc | apply qa | apply qb | refine qd ?_ (IsS178.ge HI0.out) | refine qd ?_ GE101.out | refine qd ?_ GE108.out) | exact HB.out), by repeat (first | (with_reducible first | exact HK.out | apply KeepBut.set_ | apply qo | apply qq | apply qp | refine qa1 ?_ GW101.out _ | refine qa1 ?_ GW108.out _) | exact HK.out)⟩
 ·rw [if_neg c6] at H
  have c6b0 : (t109 == 0) = false := beq_eq_false_iff_ne.mpr c6
  have c6b1 : (t109 != 0) = true := bne_iff_ne.mpr c6
  by_cases c21 : t109 = 1
  ·rw [if_pos c21] at H
   have c21b0 : (t109 == 1) = true := beq_iff_eq.mpr c21
   have c21b1 : (t109 != 1) = false := bne_eq_false_iff_eq.mpr c21
   clear c21
   replace H := Option.bind_eq_some_iff.mp H
   obtain ⟨⟨t113, t114⟩, A220, H⟩ := H
   replace H : (some (t102, t104, t113, t114)) = some (r1, r2, r3, r4) := H
   have A22 := Qz.mk A220
   clear A220
   simp only [Option.some.injEq, Prod.mk.injEq] at H
   obtain ⟨rfl, rfl, rfl, rfl⟩ := H
   go_enter Try.func94, Try.ntmps94
   go_wp2_with (first | ((with_reducible refine qb1 (N := 2) rfl ?_); refine qz ?hg (N := 2) ?hd (cs := #[.string (⟨#[]⟩ : ByteArray), .int .i64 0, .int .i64 0]) (t := 35) ?hr ?_; (case hd => rfl); (case hg => rfl); (case hr => exact yq129); intro gb101 hg w23 hbox hb; replace HB := Qz.mk (ql yq124 hb); have BK101 := Qz.mk (hbox); have GW101 := Qz.mk ((yq127 : w.heap.size ≤ gb101)); have GE101 := Qz.mk ((Nat.le_trans HW0.out (yq127 : w.heap.size ≤ gb101) : w0.heap.size ≤ gb101)); replace HK := Qz.mk (KeepBut.trans yq120 (KeepBut.of_below hb g none) (.inl rfl)); have NB0_101 := Qz.mk ((by rw [hg]; exact Nat.ne_of_lt (IsS178.lt (show IsS178 w0 _ g s0_0 s0_1 from by repeat (first | (with_reducible first | exact HI0.out | apply IsS178.alloc | apply IsS178.drewN | apply IsS178.drew | apply IsS178.set_1) | exact HI0.out))) : g ≠ gb101)); have NB101_0 := Qz.mk ((by rw [hg]; exact Nat.ne_of_gt (IsS178.lt (show IsS178 w0 _ g s0_0 s0_1 from by repeat (first | (with_reducible first | exact HI0.out | apply IsS178.alloc | apply IsS178.drewN | apply IsS178.drew | apply IsS178.set_1) | exact HI0.out))) : gb101 ≠ g)); replace HI0 := Qz.mk (IsS178.below yq123 hb); clear hb hbox hg) | ((with_reducible refine qj (f := 158) rfl ?_); refine qt (some 5) rfl rfl Try.func158 (by kernel_rfl) rfl #[.pointer (some ⟨g, 0, none⟩)] rfl yq118 ?_; (with_reducible refine (spec_l1Rd_user.calls g s0_0 s0_1 t102 t103 w0 _ ?side1 ?side2 A2.out).mono ?_); (case side1 => exact yq113); (case side2 => exact yq115); rintro e w24 ⟨rfl, hi, hb, hk⟩; refine ⟨_, rfl, ?_⟩; replace BK101 := Qz.mk (KeepBut.blk hk (g' := gb101) (o := .cells #[.string (⟨#[]⟩ : ByteArray), .int .i64 0, .int .i64 0] 35 (0, 0)) yq114 NB101_0.out (by simp)); replace HK := Qz.mk (KeepBut.trans yq112 hk (.inl rfl)); replace HB := Qz.mk (hb); replace HI0 := Qz.mk (hi); (try clear hb); (try clear hk); (try clear hi)) | ((with_reducible refine qj (f := 157) rfl ?_); refine qt (some 7) rfl rfl Try.func157 (by kernel_rfl) rfl #[.pointer (some ⟨g, 0, none⟩), .int .i64 0, .int .i64 12] rfl yq118 ?_; (with_reducible refine (spec_l1Rd_near.calls k g s0_0 t103 0 12 t104 t105 w0 _ ?side1 ?side2 A3.out).mono ?_); (case side1 => exact yq113); (case side2 => exact yq115); rintro e w25 ⟨rfl, hi, hb, hk⟩; refine ⟨_, rfl, ?_⟩; replace BK101 := Qz.mk (KeepBut.blk hk (g' := gb101) (o := .cells #[.string (⟨#[]⟩ : ByteArray), .int .i64 0, .int .i64 0] 35 (0, 0)) yq114 NB101_0.out (by simp)); replace HK := Qz.mk (KeepBut.trans yq112 hk (.inl rfl)); replace HB := Qz.mk (hb); replace HI0 := Qz.mk (hi); (try clear hb); (try clear hk); (try clear hi)) | ((with_reducible refine qj (f := 119) rfl ?_); refine qt (some 9) rfl rfl Try.func119 (by kernel_rfl) rfl #[.pointer (some ⟨g, 0, none⟩), .int .i64 2] rfl yq118 ?_; (with_reducible refine (spec_l1Rd_below.calls g s0_0 t105 2 t106 t107 w0 _ ?side1 ?side2 A4.out).mono ?_); (case side1 => exact yq113); (case side2 => exact yq115); rintro e w26 ⟨rfl, hi, hb, hk⟩; refine ⟨_, rfl, ?_⟩; replace BK101 := Qz.mk (KeepBut.blk hk (g' := gb101) (o := .cells #[.string (⟨#[]⟩ : ByteArray), .int .i64 0, .int .i64 0] 35 (0, 0)) yq114 NB101_0.out (by simp)); replace HK := Qz.mk (KeepBut.trans yq112 hk (.inl rfl)); replace HB := Qz.mk (hb); replace HI0 := Qz.mk (hi); (try clear hb); (try clear hk); (try clear hi)) | ((with_reducible refine qb1 (N := 3) rfl ?_); refine qz ?hg (N := 3) ?hd (cs := #[.string (⟨#[]⟩ : ByteArray), .int .i64 0, .int .i64 0]) (t := 35) ?hr ?_; (case hd => rfl); (case hg => rfl); (case hr => exact yq129); intro gb108 hg w27 hbox hb; replace HB := Qz.mk (ql yq115 hb); have BK108 := Qz.mk (hbox); have GW108 := Qz.mk ((yq128 : w.heap.size ≤ gb108)); have GE108 := Qz.mk ((Nat.le_trans HW0.out (yq128 : w.heap.size ≤ gb108) : w0.heap.size ≤ gb108)); replace HK := Qz.mk (KeepBut.trans yq112 (KeepBut.of_below hb g none) (.inl rfl)); have NB101_108 := Qz.mk ((yq125 : gb101 ≠ gb108)); have NB108_101 := Qz.mk ((yq126 : gb108 ≠ gb101)); replace BK101 := Qz.mk (qu (g := gb101) (o := .cells #[.string (⟨#[]⟩ : ByteArray), .int .i64 0, .int .i64 0] 35 (0, 0)) yq114 hb); have NB0_108 := Qz.mk ((by rw [hg]; exact Nat.ne_of_lt (IsS178.lt (show IsS178 w0 _ g s0_0 t107 from by repeat (first | (with_reducible first | exact HI0.out | apply IsS178.alloc | apply IsS178.drewN | apply IsS178.drew | apply IsS178.set_1 | apply (fun h_ => IsS178.far h_ NB0_101.out _)) | exact HI0.out))) : g ≠ gb108)); have NB108_0 := Qz.mk ((by rw [hg]; exact Nat.ne_of_gt (IsS178.lt (show IsS178 w0 _ g s0_0 t107 from by repeat (first | (with_reducible first | exact HI0.out | apply IsS178.alloc | apply IsS178.drewN | apply IsS178.drew | apply IsS178.set_1 | apply (fun h_ => IsS178.far h_ NB0_101.out _)) | exact HI0.out))) : gb108 ≠ g)); replace HI0 := Qz.mk (IsS178.below yq113 hb); clear hb hbox hg; have hnb28 := NB108_101.out; have hnc28 := NB101_108.out; have hnb29 := NB108_0.out; have hnc29 := NB0_108.out; have hcz30_0 : w27.cell? ⟨gb108, 0, none⟩ = some (.string (⟨#[]⟩ : ByteArray)) := (qf BK108.out 0).trans rfl; have hcz30_1 : w27.cell? ⟨gb108, 1, none⟩ = some (.int .i64 0) := (qf BK108.out 1).trans rfl; have hcz30_2 : w27.cell? ⟨gb108, 2, none⟩ = some (.int .i64 0) := (qf BK108.out 2).trans rfl; have hfz30_0 := qe BK108.out 0; have hfz30_1 := qe BK108.out 1; have hfz30_2 := qe BK108.out 2) | ((with_reducible refine qj (f := 119) rfl ?_); refine qt (some 12) rfl rfl Try.func119 (by kernel_rfl) rfl #[.pointer (some ⟨g, 0, none⟩), .int .i64 24] rfl yq118 ?_; (with_reducible refine (spec_l1Rd_below.calls g s0_0 t107 24 t109 t110 w0 _ ?side1 ?side2 A5.out).mono ?_); (case side1 => exact yq117); (case side2 => exact yq121); rintro e w31 ⟨rfl, hi, hb, hk⟩; refine ⟨_, rfl, ?_⟩; replace BK101 := Qz.mk (KeepBut.blk hk (g' := gb101) (o := .cells #[.string (⟨#[]⟩ : ByteArray), .int .i64 0, .int .i64 0] 35 (0, 0)) yq119 NB101_0.out (by simp)); replace BK108 := Qz.mk (KeepBut.blk hk (g' := gb108) (o := .cells #[.string t102, .int .i64 t104, .int .i64 t106] 35 (0, 0)) yq116 NB108_0.out (by simp)); replace HK := Qz.mk (KeepBut.trans yq122 hk (.inl rfl)); replace HB := Qz.mk (hb); replace HI0 := Qz.mk (hi); (try clear hb); (try clear hk); (try clear hi)) | ((with_reducible refine qj (f := 92) rfl ?_); refine qt (some 21) rfl rfl Try.func92 (by kernel_rfl) rfl #[.pointer (some ⟨g, 0, none⟩), .int .i64 0, .int .i64 1] rfl yq118 ?_; (with_reducible refine (spec_l1Rd_off.calls k g s0_0 t110 0 1 t113 t114 w0 _ ?side1 ?side2 A22.out).mono ?_); (case side1 => exact yq117); (case side2 => exact yq121); rintro e w32 ⟨rfl, hi, hb, hk⟩; refine ⟨_, rfl, ?_⟩; replace BK101 := Qz.mk (KeepBut.blk hk (g' := gb101) (o := .cells #[.string (⟨#[]⟩ : ByteArray), .int .i64 0, .int .i64 0] 35 (0, 0)) yq114 NB101_0.out (by simp)); replace BK108 := Qz.mk (KeepBut.blk hk (g' := gb108) (o := .cells #[.string t102, .int .i64 t104, .int .i64 t106] 35 (0, 0)) (by (with_reducible repeat (first | refine qg ?_ _ | refine qi ?_ | refine qh ?_ _)); exact BK108.out) NB108_0.out (by simp)); replace HK := Qz.mk (KeepBut.trans yq122 hk (.inl rfl)); replace HB := Qz.mk (hb); replace HI0 := Qz.mk (hi); (try clear hb); (try clear hk); (try clear hi); have hcz33_0 : w32.cell? ⟨gb108, 0, none⟩ = some (.string t102) := (qf BK108.out 0).trans rfl; have hcz33_1 : w32.cell? ⟨gb108, 1, none⟩ = some (.int .i64 t104) := (qf BK108.out 1).trans rfl; have hcz33_2 : w32.cell? ⟨gb108, 2, none⟩ = some (.int .i64 t106) := (qf BK108.out 2).trans rfl; have hfz33_0 := qe BK108.out 0; have hfz33_1 := qe BK108.out 1; have hfz33_2 := qe BK108.out 2; have hnb34 := NB101_0.out; have hnc34 := NB0_101.out; have hcz35_0 : w32.cell? ⟨gb101, 0, none⟩ = some (.string (⟨#[]⟩ : ByteArray)) := (qf BK101.out 0).trans rfl; have hcz35_1 : w32.cell? ⟨gb101, 1, none⟩ = some (.int .i64 0) := (qf BK101.out 1).trans rfl; have hcz35_2 : w32.cell? ⟨gb101, 2, none⟩ = some (.int .i64 0) := (qf BK101.out 2).trans rfl; have hfz35_0 := qe BK101.out 0; have hfz35_1 := qe BK101.out 1; have hfz35_2 := qe BK101.out 2))
   refine bodyPost_ret (results_cell_row rfl _ _ gb101 35 #[.string t102, .int .i64 t104, .int .i64 t113] (0, 0) _ rfl (by (with_reducible repeat (first | refine qg ?_ _ | refine qi ?_ | refine qh ?_ _)); refine qw (cs := #[.string t102, .int .i64 t104, .int .i64 0]) ?_ 2 _ rfl; (with_reducible repeat (first | refine qg ?_ _ | refine qi ?_ | refine qh ?_ _)); refine qw (cs := #[.string t102, .int .i64 0, .int .i64 0]) ?_ 1 _ rfl; (with_reducible repeat (first | refine qg ?_ _ | refine qi ?_ | refine qh ?_ _)); refine qw (cs := #[.string (⟨#[]⟩ : ByteArray), .int .i64 0, .int .i64 0]) ?_ 0 _ rfl; (with_reducible repeat (first | refine qg ?_ _ | refine qi ?_ | refine qh ?_ _)); refine blk_far ?_ NB101_108.out _; (with_reducible repeat (first | refine qg ?_ _ | refine qi ?_ | refine qh ?_ _)); exact BK101.out) Try.underlying35 rfl (by kernel_rfl)) rfl ?_
   exact ⟨by first | rfl | (simp [qn, qm] <;> rfl) | (simp [*, qn, qm] <;> rfl), by repeat (first | (with_reducible first | exact HI0.out | apply IsS178.alloc | apply IsS178.drewN | apply IsS178.drew | apply IsS178.set_1 | apply (fun h_ => IsS178.far h_ NB0_101.out _) | apply (fun h_ => IsS178.far h_ NB0_108.out _)) | exact HI0.out), by repeat (first | (with_reducible first | exact HB.out | apply qc | apply qa | apply qb | refine qd ?_ (IsS178.ge HI0.out) | refine qd ?_ GE101.out | refine qd ?_ GE108.out) | exact HB.out), by repeat (first | (with_reducible first | exact HK.out | apply KeepBut.set_ | apply qo | apply qq | apply qp | refine qa1 ?_ GW101.out _ | refine qa1 ?_ GW108.out _) | exact HK.out)⟩
  ·rw [if_neg c21] at H
   have c21b0 : (t109 == 1) = false := beq_eq_false_iff_ne.mpr c21
   have c21b1 : (t109 != 1) = true := bne_iff_ne.mpr c21
   by_cases c36 : t109 = 2
   ·rw [if_pos c36] at H
    have c36b0 : (t109 == 2) = true := beq_iff_eq.mpr c36
    have c36b1 : (t109 != 2) = false := bne_eq_false_iff_eq.mpr c36
    clear c36
    replace H := Option.bind_eq_some_iff.mp H
    obtain ⟨⟨t115, t116⟩, A370, H⟩ := H
    replace H : (some (t115, t104, t106, t116)) = some (r1, r2, r3, r4) := H
    have A37 := Qz.mk A370
    clear A370
    simp only [Option.some.injEq, Prod.mk.injEq] at H
    obtain ⟨rfl, rfl, rfl, rfl⟩ := H
    go_enter Try.func94, Try.ntmps94
    go_wp2_with (first | ((with_reducible refine qb1 (N := 2) rfl ?_); refine qz ?hg (N := 2) ?hd (cs := #[.string (⟨#[]⟩ : ByteArray), .int .i64 0, .int .i64 0]) (t := 35) ?hr ?_; (case hd => rfl); (case hg => rfl); (case hr => exact yq129); intro gb101 hg w38 hbox hb; replace HB := Qz.mk (ql yq124 hb); have BK101 := Qz.mk (hbox); have GW101 := Qz.mk ((yq127 : w.heap.size ≤ gb101)); have GE101 := Qz.mk ((Nat.le_trans HW0.out (yq127 : w.heap.size ≤ gb101) : w0.heap.size ≤ gb101)); replace HK := Qz.mk (KeepBut.trans yq120 (KeepBut.of_below hb g none) (.inl rfl)); have NB0_101 := Qz.mk ((by rw [hg]; exact Nat.ne_of_lt (IsS178.lt (show IsS178 w0 _ g s0_0 s0_1 from by repeat (first | (with_reducible first | exact HI0.out | apply IsS178.alloc | apply IsS178.drewN | apply IsS178.drew | apply IsS178.set_1) | exact HI0.out))) : g ≠ gb101)); have NB101_0 := Qz.mk ((by rw [hg]; exact Nat.ne_of_gt (IsS178.lt (show IsS178 w0 _ g s0_0 s0_1 from by repeat (first | (with_reducible first | exact HI0.out | apply IsS178.alloc | apply IsS178.drewN | apply IsS178.drew | apply IsS178.set_1) | exact HI0.out))) : gb101 ≠ g)); replace HI0 := Qz.mk (IsS178.below yq123 hb); clear hb hbox hg) | ((with_reducible refine qj (f := 158) rfl ?_); refine qt (some 5) rfl rfl Try.func158 (by kernel_rfl) rfl #[.pointer (some ⟨g, 0, none⟩)] rfl yq118 ?_; (with_reducible refine (spec_l1Rd_user.calls g s0_0 s0_1 t102 t103 w0 _ ?side1 ?side2 A2.out).mono ?_); (case side1 => exact yq113); (case side2 => exact yq115); rintro e w39 ⟨rfl, hi, hb, hk⟩; refine ⟨_, rfl, ?_⟩; replace BK101 := Qz.mk (KeepBut.blk hk (g' := gb101) (o := .cells #[.string (⟨#[]⟩ : ByteArray), .int .i64 0, .int .i64 0] 35 (0, 0)) yq114 NB101_0.out (by simp)); replace HK := Qz.mk (KeepBut.trans yq112 hk (.inl rfl)); replace HB := Qz.mk (hb); replace HI0 := Qz.mk (hi); (try clear hb); (try clear hk); (try clear hi)) | ((with_reducible refine qj (f := 157) rfl ?_); refine qt (some 7) rfl rfl Try.func157 (by kernel_rfl) rfl #[.pointer (some ⟨g, 0, none⟩), .int .i64 0, .int .i64 12] rfl yq118 ?_; (with_reducible refine (spec_l1Rd_near.calls k g s0_0 t103 0 12 t104 t105 w0 _ ?side1 ?side2 A3.out).mono ?_); (case side1 => exact yq113); (case side2 => exact yq115); rintro e w40 ⟨rfl, hi, hb, hk⟩; refine ⟨_, rfl, ?_⟩; replace BK101 := Qz.mk (KeepBut.blk hk (g' := gb101) (o := .cells #[.string (⟨#[]⟩ : ByteArray), .int .i64 0, .int .i64 0] 35 (0, 0)) yq114 NB101_0.out (by simp)); replace HK := Qz.mk (KeepBut.trans yq112 hk (.inl rfl)); replace HB := Qz.mk (hb); replace HI0 := Qz.mk (hi); (try clear hb); (try clear hk); (try clear hi)) | ((with_reducible refine qj (f := 119) rfl ?_); refine qt (some 9) rfl rfl Try.func119 (by kernel_rfl) rfl #[.pointer (some ⟨g, 0, none⟩), .int .i64 2] rfl yq118 ?_; (with_reducible refine (spec_l1Rd_below.calls g s0_0 t105 2 t106 t107 w0 _ ?side1 ?side2 A4.out).mono ?_); (case side1 => exact yq113); (case side2 => exact yq115); rintro e w41 ⟨rfl, hi, hb, hk⟩; refine ⟨_, rfl, ?_⟩; replace BK101 := Qz.mk (KeepBut.blk hk (g' := gb101) (o := .cells #[.string (⟨#[]⟩ : ByteArray), .int .i64 0, .int .i64 0] 35 (0, 0)) yq114 NB101_0.out (by simp)); replace HK := Qz.mk (KeepBut.trans yq112 hk (.inl rfl)); replace HB := Qz.mk (hb); replace HI0 := Qz.mk (hi); (try clear hb); (try clear hk); (try clear hi)) | ((with_reducible refine qb1 (N := 3) rfl ?_); refine qz ?hg (N := 3) ?hd (cs := #[.string (⟨#[]⟩ : ByteArray), .int .i64 0, .int .i64 0]) (t := 35) ?hr ?_; (case hd => rfl); (case hg => rfl); (case hr => exact yq129); intro gb108 hg w42 hbox hb; replace HB := Qz.mk (ql yq115 hb); have BK108 := Qz.mk (hbox); have GW108 := Qz.mk ((yq128 : w.heap.size ≤ gb108)); have GE108 := Qz.mk ((Nat.le_trans HW0.out (yq128 : w.heap.size ≤ gb108) : w0.heap.size ≤ gb108)); replace HK := Qz.mk (KeepBut.trans yq112 (KeepBut.of_below hb g none) (.inl rfl)); have NB101_108 := Qz.mk ((yq125 : gb101 ≠ gb108)); have NB108_101 := Qz.mk ((yq126 : gb108 ≠ gb101)); replace BK101 := Qz.mk (qu (g := gb101) (o := .cells #[.string (⟨#[]⟩ : ByteArray), .int .i64 0, .int .i64 0] 35 (0, 0)) yq114 hb); have NB0_108 := Qz.mk ((by rw [hg]; exact Nat.ne_of_lt (IsS178.lt (show IsS178 w0 _ g s0_0 t107 from by repeat (first | (with_reducible first | exact HI0.out | apply IsS178.alloc | apply IsS178.drewN | apply IsS178.drew | apply IsS178.set_1 | apply (fun h_ => IsS178.far h_ NB0_101.out _)) | exact HI0.out))) : g ≠ gb108)); have NB108_0 := Qz.mk ((by rw [hg]; exact Nat.ne_of_gt (IsS178.lt (show IsS178 w0 _ g s0_0 t107 from by repeat (first | (with_reducible first | exact HI0.out | apply IsS178.alloc | apply IsS178.drewN | apply IsS178.drew | apply IsS178.set_1 | apply (fun h_ => IsS178.far h_ NB0_101.out _)) | exact HI0.out))) : gb108 ≠ g)); replace HI0 := Qz.mk (IsS178.below yq113 hb); clear hb hbox hg; have hnb43 := NB108_101.out; have hnc43 := NB101_108.out; have hnb44 := NB108_0.out; have hnc44 := NB0_108.out; have hcz45_0 : w42.cell? ⟨gb108, 0, none⟩ = some (.string (⟨#[]⟩ : ByteArray)) := (qf BK108.out 0).trans rfl; have hcz45_1 : w42.cell? ⟨gb108, 1, none⟩ = some (.int .i64 0) := (qf BK108.out 1).trans rfl; have hcz45_2 : w42.cell? ⟨gb108, 2, none⟩ = some (.int .i64 0) := (qf BK108.out 2).trans rfl; have hfz45_0 := qe BK108.out 0; have hfz45_1 := qe BK108.out 1; have hfz45_2 := qe BK108.out 2) | ((with_reducible refine qj (f := 119) rfl ?_); refine qt (some 12) rfl rfl Try.func119 (by kernel_rfl) rfl #[.pointer (some ⟨g, 0, none⟩), .int .i64 24] rfl yq118 ?_; (with_reducible refine (spec_l1Rd_below.calls g s0_0 t107 24 t109 t110 w0 _ ?side1 ?side2 A5.out).mono ?_); (case side1 => exact yq117); (case side2 => exact yq121); rintro e w46 ⟨rfl, hi, hb, hk⟩; refine ⟨_, rfl, ?_⟩; replace BK101 := Qz.mk (KeepBut.blk hk (g' := gb101) (o := .cells #[.string (⟨#[]⟩ : ByteArray), .int .i64 0, .int .i64 0] 35 (0, 0)) yq119 NB101_0.out (by simp)); replace BK108 := Qz.mk (KeepBut.blk hk (g' := gb108) (o := .cells #[.string t102, .int .i64 t104, .int .i64 t106] 35 (0, 0)) yq116 NB108_0.out (by simp)); replace HK := Qz.mk (KeepBut.trans yq122 hk (.inl rfl)); replace HB := Qz.mk (hb); replace HI0 := Qz.mk (hi); (try clear hb); (try clear hk); (try clear hi)) | ((with_reducible refine qj (f := 120) rfl ?_); refine qt (some 26) rfl rfl Try.func120 (by kernel_rfl) rfl #[.pointer (some ⟨g, 0, none⟩), .int .i64 45] rfl yq118 ?_; (with_reducible refine (spec_l1Rd_bytes.calls k g s0_0 t110 45 t115 t116 w0 _ ?side1 ?side2 A37.out).mono ?_); (case side1 => exact yq117); (case side2 => exact yq121); rintro e w47 ⟨rfl, hi, hb, hk⟩; refine ⟨_, rfl, ?_⟩; replace BK101 := Qz.mk (KeepBut.blk hk (g' := gb101) (o := .cells #[.string (⟨#[]⟩ : ByteArray), .int .i64 0, .int .i64 0] 35 (0, 0)) yq114 NB101_0.out (by simp)); replace BK108 := Qz.mk (KeepBut.blk hk (g' := gb108) (o := .cells #[.string t102, .int .i64 t104, .int .i64 t106] 35 (0, 0)) (by (with_reducible repeat (first | refine qg ?_ _ | refine qi ?_ | refine qh ?_ _)); exact BK108.out) NB108_0.out (by simp)); replace HK := Qz.mk (KeepBut.trans yq122 hk (.inl rfl)); replace HB := Qz.mk (hb); replace HI0 := Qz.mk (hi); (try clear hb); (try clear hk); (try clear hi); have hcz48_0 : w47.cell? ⟨gb108, 0, none⟩ = some (.string t102) := (qf BK108.out 0).trans rfl; have hcz48_1 : w47.cell? ⟨gb108, 1, none⟩ = some (.int .i64 t104) := (qf BK108.out 1).trans rfl; have hcz48_2 : w47.cell? ⟨gb108, 2, none⟩ = some (.int .i64 t106) := (qf BK108.out 2).trans rfl; have hfz48_0 := qe BK108.out 0; have hfz48_1 := qe BK108.out 1; have hfz48_2 := qe BK108.out 2; have hnb49 := NB101_0.out; have hnc49 := NB0_101.out; have hcz50_0 : w47.cell? ⟨gb101, 0, none⟩ = some (.string (⟨#[]⟩ : ByteArray)) := (qf BK101.out 0).trans rfl; have hcz50_1 : w47.cell? ⟨gb101, 1, none⟩ = some (.int .i64 0) := (qf BK101.out 1).trans rfl; have hcz50_2 : w47.cell? ⟨gb101, 2, none⟩ = some (.int .i64 0) := (qf BK101.out 2).trans rfl; have hfz50_0 := qe BK101.out 0; have hfz50_1 := qe BK101.out 1; have hfz50_2 := qe BK101.out 2))
    refine bodyPost_ret (results_cell_row rfl _ _ gb101 35 #[.string t115, .int .i64 t104, .int .i64 t106] (0, 0) _ rfl (by (with_reducible repeat (first | refine qg ?_ _ | refine qi ?_ | refine qh ?_ _)); refine qw (cs := #[.string t115, .int .i64 t104, .int .i64 0]) ?_ 2 _ rfl; (with_reducible repeat (first | refine qg ?_ _ | refine qi ?_ | refine qh ?_ _)); refine qw (cs := #[.string t115, .int .i64 0, .int .i64 0]) ?_ 1 _ rfl; (with_reducible repeat (first | refine qg ?_ _ | refine qi ?_ | refine qh ?_ _)); refine qw (cs := #[.string (⟨#[]⟩ : ByteArray), .int .i64 0, .int .i64 0]) ?_ 0 _ rfl; (with_reducible repeat (first | refine qg ?_ _ | refine qi ?_ | refine qh ?_ _)); refine blk_far ?_ NB101_108.out _; (with_reducible repeat (first | refine qg ?_ _ | refine qi ?_ | refine qh ?_ _)); exact BK101.out) Try.underlying35 rfl (by kernel_rfl)) rfl ?_
    exact ⟨by first | rfl | (simp [qn, qm] <;> rfl) | (simp [*, qn, qm] <;> rfl), by repeat (first | (with_reducible first | exact HI0.out | apply IsS178.alloc | apply IsS178.drewN | apply IsS178.drew | apply IsS178.set_1 | apply (fun h_ => IsS178.far h_ NB0_101.out _) | apply (fun h_ => IsS178.far h_ NB0_108.out _)) | exact HI0.out), by repeat (first | (with_reducible first | exact HB.out | apply qc | apply qa | apply qb | refine qd ?_ (IsS178.ge HI0.out) | refine qd ?_ GE101.out | refine qd ?_ GE108.out) | exact HB.out), by repeat (first | (with_reducible first | exact HK.out | apply KeepBut.set_ | apply qo | apply qq | apply qp | refine qa1 ?_ GW101.out _ | refine qa1 ?_ GW108.out _) | exact HK.out)⟩
   ·rw [if_neg c36] at H
    have c36b0 : (t109 == 2) = false := beq_eq_false_iff_ne.mpr c36
    have c36b1 : (t109 != 2) = true := bne_iff_ne.mpr c36
    simp only [Option.some.injEq, Prod.mk.injEq] at H
    obtain ⟨rfl, rfl, rfl, rfl⟩ := H
    go_enter Try.func94, Try.ntmps94
    go_wp2_with (first | ((with_reducible refine qb1 (N := 2) rfl ?_); refine qz ?hg (N := 2) ?hd (cs := #[.string (⟨#[]⟩ : ByteArray), .int .i64 0, .int .i64 0]) (t := 35) ?hr ?_; (case hd => rfl); (case hg => rfl); (case hr => exact yq129); intro gb101 hg w51 hbox hb; replace HB := Qz.mk (ql yq124 hb); have BK101 := Qz.mk (hbox); have GW101 := Qz.mk ((yq127 : w.heap.size ≤ gb101)); have GE101 := Qz.mk ((Nat.le_trans HW0.out (yq127 : w.heap.size ≤ gb101) : w0.heap.size ≤ gb101)); replace HK := Qz.mk (KeepBut.trans yq120 (KeepBut.of_below hb g none) (.inl rfl)); have NB0_101 := Qz.mk ((by rw [hg]; exact Nat.ne_of_lt (IsS178.lt (show IsS178 w0 _ g s0_0 s0_1 from by repeat (first | (with_reducible first | exact HI0.out | apply IsS178.alloc | apply IsS178.drewN | apply IsS178.drew | apply IsS178.set_1) | exact HI0.out))) : g ≠ gb101)); have NB101_0 := Qz.mk ((by rw [hg]; exact Nat.ne_of_gt (IsS178.lt (show IsS178 w0 _ g s0_0 s0_1 from by repeat (first | (with_reducible first | exact HI0.out | apply IsS178.alloc | apply IsS178.drewN | apply IsS178.drew | apply IsS178.set_1) | exact HI0.out))) : gb101 ≠ g)); replace HI0 := Qz.mk (IsS178.below yq123 hb); clear hb hbox hg) | ((with_reducible refine qj (f := 158) rfl ?_); refine qt (some 5) rfl rfl Try.func158 (by kernel_rfl) rfl #[.pointer (some ⟨g, 0, none⟩)] rfl yq118 ?_; (with_reducible refine (spec_l1Rd_user.calls g s0_0 s0_1 t102 t103 w0 _ ?side1 ?side2 A2.out).mono ?_); (case side1 => exact yq113); (case side2 => exact yq115); rintro e w52 ⟨rfl, hi, hb, hk⟩; refine ⟨_, rfl, ?_⟩; replace BK101 := Qz.mk (KeepBut.blk hk (g' := gb101) (o := .cells #[.string (⟨#[]⟩ : ByteArray), .int .i64 0, .int .i64 0] 35 (0, 0)) yq114 NB101_0.out (by simp)); replace HK := Qz.mk (KeepBut.trans yq112 hk (.inl rfl)); replace HB := Qz.mk (hb); replace HI0 := Qz.mk (hi); (try clear hb); (try clear hk); (try clear hi)) | ((with_reducible refine qj (f := 157) rfl ?_); refine qt (some 7) rfl rfl Try.func157 (by kernel_rfl) rfl #[.pointer (some ⟨g, 0, none⟩), .int .i64 0, .int .i64 12] rfl yq118 ?_; (with_reducible refine (spec_l1Rd_near.calls k g s0_0 t103 0 12 t104 t105 w0 _ ?side1 ?side2 A3.out).mono ?_); (case side1 => exact yq113); (case side2 => exact yq115); rintro e w53 ⟨rfl, hi, hb, hk⟩; refine ⟨_, rfl, ?_⟩; replace BK101 := Qz.mk (KeepBut.blk hk (g' := gb101) (o := .cells #[.string (⟨#[]⟩ : ByteArray), .int .i64 0, .int .i64 0] 35 (0, 0)) yq114 NB101_0.out (by simp)); replace HK := Qz.mk (KeepBut.trans yq112 hk (.inl rfl)); replace HB := Qz.mk (hb); replace HI0 := Qz.mk (hi); (try clear hb); (try clear hk); (try clear hi)) | ((with_reducible refine qj (f := 119) rfl ?_); refine qt (some 9) rfl rfl Try.func119 (by kernel_rfl) rfl #[.pointer (some ⟨g, 0, none⟩), .int .i64 2] rfl yq118 ?_; (with_reducible refine (spec_l1Rd_below.calls g s0_0 t105 2 t106 t107 w0 _ ?side1 ?side2 A4.out).mono ?_); (case side1 => exact yq113); (case side2 => exact yq115); rintro e w54 ⟨rfl, hi, hb, hk⟩; refine ⟨_, rfl, ?_⟩; replace BK101 := Qz.mk (KeepBut.blk hk (g' := gb101) (o := .cells #[.string (⟨#[]⟩ : ByteArray), .int .i64 0, .int .i64 0] 35 (0, 0)) yq114 NB101_0.out (by simp)); replace HK := Qz.mk (KeepBut.trans yq112 hk (.inl rfl)); replace HB := Qz.mk (hb); replace HI0 := Qz.mk (hi); (try clear hb); (try clear hk); (try clear hi)) | ((with_reducible refine qb1 (N := 3) rfl ?_); refine qz ?hg (N := 3) ?hd (cs := #[.string (⟨#[]⟩ : ByteArray), .int .i64 0, .int .i64 0]) (t := 35) ?hr ?_; (case hd => rfl); (case hg => rfl); (case hr => exact yq129); intro gb108 hg w55 hbox hb; replace HB := Qz.mk (ql yq115 hb); have BK108 := Qz.mk (hbox); have GW108 := Qz.mk ((yq128 : w.heap.size ≤ gb108)); have GE108 := Qz.mk ((Nat.le_trans HW0.out (yq128 : w.heap.size ≤ gb108) : w0.heap.size ≤ gb108)); replace HK := Qz.mk (KeepBut.trans yq112 (KeepBut.of_below hb g none) (.inl rfl)); have NB101_108 := Qz.mk ((yq125 : gb101 ≠ gb108)); have NB108_101 := Qz.mk ((yq126 : gb108 ≠ gb101)); replace BK101 := Qz.mk (qu (g := gb101) (o := .cells #[.string (⟨#[]⟩ : ByteArray), .int .i64 0, .int .i64 0] 35 (0, 0)) yq114 hb); have NB0_108 := Qz.mk ((by rw [hg]; exact Nat.ne_of_lt (IsS178.lt (show IsS178 w0 _ g s0_0 t107 from by repeat (first | (with_reducible first | exact HI0.out | apply IsS178.alloc | apply IsS178.drewN | apply IsS178.drew | apply IsS178.set_1 | apply (fun h_ => IsS178.far h_ NB0_101.out _)) | exact HI0.out))) : g ≠ gb108)); have NB108_0 := Qz.mk ((by rw [hg]; exact Nat.ne_of_gt (IsS178.lt (show IsS178 w0 _ g s0_0 t107 from by repeat (first | (with_reducible first | exact HI0.out | apply IsS178.alloc | apply IsS178.drewN | apply IsS178.drew | apply IsS178.set_1 | apply (fun h_ => IsS178.far h_ NB0_101.out _)) | exact HI0.out))) : gb108 ≠ g)); replace HI0 := Qz.mk (IsS178.below yq113 hb); clear hb hbox hg; have hnb56 := NB108_101.out; have hnc56 := NB101_108.out; have hnb57 := NB108_0.out; have hnc57 := NB0_108.out; have hcz58_0 : w55.cell? ⟨gb108, 0, none⟩ = some (.string (⟨#[]⟩ : ByteArray)) := (qf BK108.out 0).trans rfl; have hcz58_1 : w55.cell? ⟨gb108, 1, none⟩ = some (.int .i64 0) := (qf BK108.out 1).trans rfl; have hcz58_2 : w55.cell? ⟨gb108, 2, none⟩ = some (.int .i64 0) := (qf BK108.out 2).trans rfl; have hfz58_0 := qe BK108.out 0; have hfz58_1 := qe BK108.out 1; have hfz58_2 := qe BK108.out 2) | ((with_reducible refine qj (f := 119) rfl ?_); refine qt (some 12) rfl rfl Try.func119 (by kernel_rfl) rfl #[.pointer (some ⟨g, 0, none⟩), .int .i64 24] rfl yq118 ?_; (with_reducible refine (spec_l1Rd_below.calls g s0_0 t107 24 t109 t110 w0 _ ?side1 ?side2 A5.out).mono ?_); (case side1 => exact yq117); (case side2 => exact yq121); rintro e w59 ⟨rfl, hi, hb, hk⟩; refine ⟨_, rfl, ?_⟩; replace BK101 := Qz.mk (KeepBut.blk hk (g' := gb101) (o := .cells #[.string (⟨#[]⟩ : ByteArray), .int .i64 0, .int .i64 0] 35 (0, 0)) yq119 NB101_0.out (by simp)); replace BK108 := Qz.mk (KeepBut.blk hk (g' := gb108) (o := .cells #[.string t102, .int .i64 t104, .int .i64 t106] 35 (0, 0)) yq116 NB108_0.out (by simp)); replace HK := Qz.mk (KeepBut.trans yq122 hk (.inl rfl)); replace HB := Qz.mk (hb); replace HI0 := Qz.mk (hi); (try clear hb); (try clear hk); (try clear hi); have hcz60_0 : w59.cell? ⟨gb108, 0, none⟩ = some (.string t102) := (qf BK108.out 0).trans rfl; have hcz60_1 : w59.cell? ⟨gb108, 1, none⟩ = some (.int .i64 t104) := (qf BK108.out 1).trans rfl; have hcz60_2 : w59.cell? ⟨gb108, 2, none⟩ = some (.int .i64 t106) := (qf BK108.out 2).trans rfl; have hfz60_0 := qe BK108.out 0; have hfz60_1 := qe BK108.out 1; have hfz60_2 := qe BK108.out 2; have hnb61 := NB101_0.out; have hnc61 := NB0_101.out; have hcz62_0 : w59.cell? ⟨gb101, 0, none⟩ = some (.string (⟨#[]⟩ : ByteArray)) := (qf BK101.out 0).trans rfl; have hcz62_1 : w59.cell? ⟨gb101, 1, none⟩ = some (.int .i64 0) := (qf BK101.out 1).trans rfl; have hcz62_2 : w59.cell? ⟨gb101, 2, none⟩ = some (.int .i64 0) := (qf BK101.out 2).trans rfl; have hfz62_0 := qe BK101.out 0; have hfz62_1 := qe BK101.out 1; have hfz62_2 := qe BK101.out 2))
    refine bodyPost_ret (results_cell_row rfl _ _ gb101 35 #[.string t102, .int .i64 t104, .int .i64 t106] (0, 0) _ rfl (by (with_reducible repeat (first | refine qg ?_ _ | refine qi ?_ | refine qh ?_ _)); refine qw (cs := #[.string t102, .int .i64 t104, .int .i64 0]) ?_ 2 _ rfl; (with_reducible repeat (first | refine qg ?_ _ | refine qi ?_ | refine qh ?_ _)); refine qw (cs := #[.string t102, .int .i64 0, .int .i64 0]) ?_ 1 _ rfl; (with_reducible repeat (first | refine qg ?_ _ | refine qi ?_ | refine qh ?_ _)); refine qw (cs := #[.string (⟨#[]⟩ : ByteArray), .int .i64 0, .int .i64 0]) ?_ 0 _ rfl; (with_reducible repeat (first | refine qg ?_ _ | refine qi ?_ | refine qh ?_ _)); exact BK101.out) Try.underlying35 rfl (by kernel_rfl)) rfl ?_
    exact ⟨by first | rfl | (simp [qn, qm] <;> rfl) | (simp [*, qn, qm] <;> rfl), by repeat (first | (with_reducible first | exact HI0.out | apply IsS178.alloc | apply IsS178.drewN | apply IsS178.drew | apply IsS178.set_1 | apply (fun h_ => IsS178.far h_ NB0_101.out _) | apply (fun h_ => IsS178.far h_ NB0_108.out _)) | exact HI0.out), by repeat (first | (with_reducible first | exact HB.out | apply qc | apply qa | apply qb | refine qd ?_ (IsS178.ge HI0.out) | refine qd ?_ GE101.out | refine qd ?_ GE108.out) | exact HB.out), by repeat (first | (with_reducible first | exact HK.out | apply KeepBut.set_ | apply qo | apply qq | apply qp | refine qa1 ?_ GW101.out _ | refine qa1 ?_ GW108.out _) | exact HK.out)⟩
theorem yq130 {P : Prop} (h : P := by repeat (first | (with_reducible first | exact HK.out | apply KeepBut.set_ | apply qo | apply qq | apply qp | refine qa1 ?_ GW101.out _) | exact HK.out)) : P := h
theorem yq131 {P : Prop} (h : P := by repeat (first | (with_reducible first | exact HI0.out | apply IsS178.alloc | apply IsS178.drewN | apply IsS178.drew | apply IsS178.set_1 | apply (fun h_ => IsS178.far h_ NB0_101.out _)) | exact HI0.out)) : P := h
theorem yq132 {P : Prop} (h : P := by (with_reducible repeat (first | refine qg ?_ _ | refine qi ?_ | refine qh ?_ _)); exact BK101.out) : P := h
theorem yq133 {P : Prop} (h : P := by repeat (first | (with_reducible first | exact HB.out | apply qc | apply qa | apply qb | refine qd ?_ (IsS178.ge HI0.out) | refine qd ?_ GE101.out) | exact HB.out)) : P := h
theorem yq134 {P : Prop} (h : P := by repeat (first | (with_reducible first | exact HK.out | apply KeepBut.set_ | apply qo | apply qq | apply qp) | exact HK.out)) : P := h
theorem yq135 {P : Prop} (h : P := by (with_reducible repeat (first | refine qg ?_ _ | refine qi ?_ | refine qh ?_ _)); refine qw (cs := #[.string t102, .int .i64 t103, .int .i64 t104, .string (⟨#[]⟩ : ByteArray)]) ?_ 3 _ rfl; (with_reducible repeat (first | refine qg ?_ _ | refine qi ?_ | refine qh ?_ _)); refine qw (cs := #[.string t102, .int .i64 t103, .int .i64 0, .string (⟨#[]⟩ : ByteArray)]) ?_ 2 _ rfl; (with_reducible repeat (first | refine qg ?_ _ | refine qi ?_ | refine qh ?_ _)); refine qw (cs := #[.string t102, .int .i64 0, .int .i64 0, .string (⟨#[]⟩ : ByteArray)]) ?_ 1 _ rfl; (with_reducible repeat (first | refine qg ?_ _ | refine qi ?_ | refine qh ?_ _)); refine qw (cs := #[.string (⟨#[]⟩ : ByteArray), .int .i64 0, .int .i64 0, .string (⟨#[]⟩ : ByteArray)]) ?_ 0 _ rfl; (with_reducible repeat (first | refine qg ?_ _ | refine qi ?_ | refine qh ?_ _)); exact BK108.out) : P := h
theorem yq136 {P : Prop} (h : P := by (with_reducible repeat (first | refine qg ?_ _ | refine qi ?_ | refine qh ?_ _)); refine blk_far ?_ NB101_108.out _; (with_reducible repeat (first | refine qg ?_ _ | refine qi ?_ | refine qh ?_ _)); refine blk_far ?_ NB101_108.out _; (with_reducible repeat (first | refine qg ?_ _ | refine qi ?_ | refine qh ?_ _)); refine blk_far ?_ NB101_108.out _; (with_reducible repeat (first | refine qg ?_ _ | refine qi ?_ | refine qh ?_ _)); refine blk_far ?_ NB101_108.out _; (with_reducible repeat (first | refine qg ?_ _ | refine qi ?_ | refine qh ?_ _)); exact BK101.out) : P := h
theorem yq137 {P : Prop} (h : P := by (try simp only [List.map_toArray, List.map_cons, List.map_nil]); first | done | rfl) : P := h
theorem yq138 {P : Prop} (h : P := by rw [hg]; exact Nat.ne_of_lt (blk_lt (g := gb101) (o := .cells #[.string (⟨#[]⟩ : ByteArray), .int .i64 0, .int .i64 0, .string (⟨#[]⟩ : ByteArray)] 64 (0, 0)) yq132)) : P := h
theorem yq139 {P : Prop} (h : P := by rw [hg]; exact Nat.ne_of_gt (blk_lt (g := gb101) (o := .cells #[.string (⟨#[]⟩ : ByteArray), .int .i64 0, .int .i64 0, .string (⟨#[]⟩ : ByteArray)] 64 (0, 0)) yq132)) : P := h
theorem yq140 {P : Prop} (h : P := by repeat (first | (with_reducible first | exact HI0.out | apply IsS178.alloc | apply IsS178.drewN | apply IsS178.drew | apply IsS178.set_1) | exact HI0.out)) : P := h
theorem yq141 {P : Prop} (h : P := by rw [hg]; exact (ql1 (w := w) (g := g) (row := none) yq134)) : P := h
theorem yq142 {P : Prop} (h : P := by rw [hg]; exact (ql1 (w := w) (g := g) (row := none) yq130)) : P := h
theorem yq143 {P : Prop} (h : P := by repeat (first | (with_reducible first | exact HB.out | apply qc | apply qa | apply qb | refine qd ?_ (IsS178.ge HI0.out)) | exact HB.out)) : P := h
theorem yq144 {P : Prop} (h : P := by repeat (first | (with_reducible first | exact HI0.out | apply IsS178.alloc | apply IsS178.drewN | apply IsS178.drew | apply IsS178.set_1 | apply (fun h_ => IsS178.far h_ NB0_101.out _) | apply (fun h_ => IsS178.far h_ NB0_108.out _)) | exact HI0.out)) : P := h
def spec_l1Rd_entry.f (k : Nat) (s0_0 : List Int) (s0_1 : Int) : Option (ByteArray × Int × Int × ByteArray × Int) := (spec_l1Rd_key.f k s0_0 s0_1).bind fun bt102 => ((spec_l1Rd_value.f s0_0 bt102.2.2.2).bind fun bt106 => (if bt102.2.2.1 = 0 then ((spec_l1Rd_once.f s0_0 bt106.2 12).bind fun bt109 => (if bt109.1 = true then (some (bt102.1, bt102.2.1, bt102.2.2.1, bt106.1, bt109.2)) else (some (bt102.1, bt102.2.1, bt102.2.2.1, (⟨#[]⟩ : ByteArray), bt109.2)))) else (some (bt102.1, bt102.2.1, bt102.2.2.1, bt106.1, bt106.2))))
set_option maxHeartbeats 8000000 in
set_option maxRecDepth 100000 in
theorem spec_l1Rd_entry.calls (k : Nat) (g : Nat) (s0_0 : List Int) (s0_1 : Int) (r1 : ByteArray) (r2 : Int) (r3 : Int) (r4 : ByteArray) (r5 : Int) (w0 w : World) (hI : IsS178 w0 w g s0_0 s0_1) (hB : Below w0.heap.size w0 w) (h : spec_l1Rd_entry.f k s0_0 s0_1 = some (r1, r2, r3, r4, r5)) :
  Calls Try.prog 155 #[.pointer (some ⟨g, 0, none⟩)] w fun e w' => e = .returned (.agg #[.string r1, .int .i64 r2, .int .i64 r3, .string r4]) ∧ IsS178 w0 w' g s0_0 r5 ∧ Below w0.heap.size w0 w' ∧ KeepBut w w' g none := by
 have hu64 := Try.underlying64
 have HI0 := Qz.mk hI
 have HK := Qz.mk (KeepBut.refl w g none)
 have HL := Qz.mk hB.size
 clear hI
 have HW0 := Qz.mk hB.size
 have HB := Qz.mk hB
 clear hB
 have H : ((spec_l1Rd_key.f k s0_0 s0_1).bind fun bt102 => ((spec_l1Rd_value.f s0_0 bt102.2.2.2).bind fun bt106 => (if bt102.2.2.1 = 0 then ((spec_l1Rd_once.f s0_0 bt106.2 12).bind fun bt109 => (if bt109.1 = true then (some (bt102.1, bt102.2.1, bt102.2.2.1, bt106.1, bt109.2)) else (some (bt102.1, bt102.2.1, bt102.2.2.1, (⟨#[]⟩ : ByteArray), bt109.2)))) else (some (bt102.1, bt102.2.1, bt102.2.2.1, bt106.1, bt106.2))))) = some (r1, r2, r3, r4, r5) := h
 clear h
 replace H := Option.bind_eq_some_iff.mp H
 obtain ⟨⟨t102, t103, t104, t105⟩, A20, H⟩ := H
 replace H : ((spec_l1Rd_value.f s0_0 t105).bind fun bt106 => (if t104 = 0 then ((spec_l1Rd_once.f s0_0 bt106.2 12).bind fun bt109 => (if bt109.1 = true then (some (t102, t103, t104, bt106.1, bt109.2)) else (some (t102, t103, t104, (⟨#[]⟩ : ByteArray), bt109.2)))) else (some (t102, t103, t104, bt106.1, bt106.2)))) = some (r1, r2, r3, r4, r5) := H
 have A2 := Qz.mk A20
 clear A20
 replace H := Option.bind_eq_some_iff.mp H
 obtain ⟨⟨t106, t107⟩, A30, H⟩ := H
 replace H : (if t104 = 0 then ((spec_l1Rd_once.f s0_0 t107 12).bind fun bt109 => (if bt109.1 = true then (some (t102, t103, t104, t106, bt109.2)) else (some (t102, t103, t104, (⟨#[]⟩ : ByteArray), bt109.2)))) else (some (t102, t103, t104, t106, t107))) = some (r1, r2, r3, r4, r5) := H
 have A3 := Qz.mk A30
 clear A30
 by_cases c4 : t104 = 0
 ·rw [if_pos c4] at H
  have c4b0 : (t104 == 0) = true := beq_iff_eq.mpr c4
  have c4b1 : (t104 != 0) = false := bne_eq_false_iff_eq.mpr c4
  clear c4
  replace H := Option.bind_eq_some_iff.mp H
  obtain ⟨⟨t109, t110⟩, A50, H⟩ := H
  replace H : (if t109 = true then (some (t102, t103, t104, t106, t110)) else (some (t102, t103, t104, (⟨#[]⟩ : ByteArray), t110))) = some (r1, r2, r3, r4, r5) := H
  have A5 := Qz.mk A50
  clear A50
  by_cases c6 : t109 = true
  ·subst c6
   have H1 : (some (t102, t103, t104, t106, t110)) = some (r1, r2, r3, r4, r5) := by rw [if_pos rfl] at H; exact H
   clear H
   have H := H1
   clear H1
   simp only [Option.some.injEq, Prod.mk.injEq] at H
   obtain ⟨rfl, rfl, rfl, rfl, rfl⟩ := H
   go_enter Try.func155, Try.ntmps155
   go_wp2_with (first | ((with_reducible refine qb1 (N := 2) rfl ?_); refine qz ?hg (N := 2) ?hd (cs := #[.string (⟨#[]⟩ : ByteArray), .int .i64 0, .int .i64 0, .string (⟨#[]⟩ : ByteArray)]) (t := 64) ?hr ?_; (case hd => rfl); (case hg => rfl); (case hr => first | (go_simp; done) | (go_simp; rfl)); intro gb101 hg w7 hbox hb; replace HB := Qz.mk (ql yq143 hb); have BK101 := Qz.mk (hbox); have GW101 := Qz.mk ((yq141 : w.heap.size ≤ gb101)); have GE101 := Qz.mk ((Nat.le_trans HW0.out (yq141 : w.heap.size ≤ gb101) : w0.heap.size ≤ gb101)); replace HK := Qz.mk (KeepBut.trans yq134 (KeepBut.of_below hb g none) (.inl rfl)); have NB0_101 := Qz.mk ((by rw [hg]; exact Nat.ne_of_lt (IsS178.lt (show IsS178 w0 _ g s0_0 s0_1 from by repeat (first | (with_reducible first | exact HI0.out | apply IsS178.alloc | apply IsS178.drewN | apply IsS178.drew | apply IsS178.set_1) | exact HI0.out))) : g ≠ gb101)); have NB101_0 := Qz.mk ((by rw [hg]; exact Nat.ne_of_gt (IsS178.lt (show IsS178 w0 _ g s0_0 s0_1 from by repeat (first | (with_reducible first | exact HI0.out | apply IsS178.alloc | apply IsS178.drewN | apply IsS178.drew | apply IsS178.set_1) | exact HI0.out))) : gb101 ≠ g)); replace HI0 := Qz.mk (IsS178.below yq140 hb); clear hb hbox hg) | ((with_reducible refine qj (f := 94) rfl ?_); refine qt (some 5) rfl rfl Try.func94 (by kernel_rfl) rfl #[.pointer (some ⟨g, 0, none⟩)] rfl yq137 ?_; (with_reducible refine (spec_l1Rd_key.calls k g s0_0 s0_1 t102 t103 t104 t105 w0 _ ?side1 ?side2 A2.out).mono ?_); (case side1 => exact yq131); (case side2 => exact yq133); rintro e w8 ⟨rfl, hi, hb, hk⟩; refine ⟨_, rfl, ?_⟩; replace BK101 := Qz.mk (KeepBut.blk hk (g' := gb101) (o := .cells #[.string (⟨#[]⟩ : ByteArray), .int .i64 0, .int .i64 0, .string (⟨#[]⟩ : ByteArray)] 64 (0, 0)) yq132 NB101_0.out (by simp)); replace HK := Qz.mk (KeepBut.trans yq130 hk (.inl rfl)); replace HB := Qz.mk (hb); replace HI0 := Qz.mk (hi); (try clear hb); (try clear hk); (try clear hi)) | ((with_reducible refine qj (f := 187) rfl ?_); refine qt (some 7) rfl rfl Try.func187 (by kernel_rfl) rfl #[.pointer (some ⟨g, 0, none⟩)] rfl yq137 ?_; (with_reducible refine (spec_l1Rd_value.calls g s0_0 t105 t106 t107 w0 _ ?side1 ?side2 A3.out).mono ?_); (case side1 => exact yq131); (case side2 => exact yq133); rintro e w9 ⟨rfl, hi, hb, hk⟩; refine ⟨_, rfl, ?_⟩; replace BK101 := Qz.mk (KeepBut.blk hk (g' := gb101) (o := .cells #[.string (⟨#[]⟩ : ByteArray), .int .i64 0, .int .i64 0, .string (⟨#[]⟩ : ByteArray)] 64 (0, 0)) yq132 NB101_0.out (by simp)); replace HK := Qz.mk (KeepBut.trans yq130 hk (.inl rfl)); replace HB := Qz.mk (hb); replace HI0 := Qz.mk (hi); (try clear hb); (try clear hk); (try clear hi)) | ((with_reducible refine qb1 (N := 3) rfl ?_); refine qz ?hg (N := 3) ?hd (cs := #[.string (⟨#[]⟩ : ByteArray), .int .i64 0, .int .i64 0, .string (⟨#[]⟩ : ByteArray)]) (t := 64) ?hr ?_; (case hd => rfl); (case hg => rfl); (case hr => first | (go_simp; done) | (go_simp; rfl)); intro gb108 hg w10 hbox hb; replace HB := Qz.mk (ql yq133 hb); have BK108 := Qz.mk (hbox); have GW108 := Qz.mk ((yq142 : w.heap.size ≤ gb108)); have GE108 := Qz.mk ((Nat.le_trans HW0.out (yq142 : w.heap.size ≤ gb108) : w0.heap.size ≤ gb108)); replace HK := Qz.mk (KeepBut.trans yq130 (KeepBut.of_below hb g none) (.inl rfl)); have NB101_108 := Qz.mk ((yq138 : gb101 ≠ gb108)); have NB108_101 := Qz.mk ((yq139 : gb108 ≠ gb101)); replace BK101 := Qz.mk (qu (g := gb101) (o := .cells #[.string (⟨#[]⟩ : ByteArray), .int .i64 0, .int .i64 0, .string (⟨#[]⟩ : ByteArray)] 64 (0, 0)) yq132 hb); have NB0_108 := Qz.mk ((by rw [hg]; exact Nat.ne_of_lt (IsS178.lt (show IsS178 w0 _ g s0_0 t107 from by repeat (first | (with_reducible first | exact HI0.out | apply IsS178.alloc | apply IsS178.drewN | apply IsS178.drew | apply IsS178.set_1 | apply (fun h_ => IsS178.far h_ NB0_101.out _)) | exact HI0.out))) : g ≠ gb108)); have NB108_0 := Qz.mk ((by rw [hg]; exact Nat.ne_of_gt (IsS178.lt (show IsS178 w0 _ g s0_0 t107 from by repeat (first | (with_reducible first | exact HI0.out | apply IsS178.alloc | apply IsS178.drewN | apply IsS178.drew | apply IsS178.set_1 | apply (fun h_ => IsS178.far h_ NB0_101.out _)) | exact HI0.out))) : gb108 ≠ g)); replace HI0 := Qz.mk (IsS178.below yq131 hb); clear hb hbox hg; have hnb11 := NB108_101.out; have hnc11 := NB101_108.out; have hnb12 := NB108_0.out; have hnc12 := NB0_108.out; have hcz13_0 : w10.cell? ⟨gb108, 0, none⟩ = some (.string (⟨#[]⟩ : ByteArray)) := (qf BK108.out 0).trans rfl; have hcz13_1 : w10.cell? ⟨gb108, 1, none⟩ = some (.int .i64 0) := (qf BK108.out 1).trans rfl; have hcz13_2 : w10.cell? ⟨gb108, 2, none⟩ = some (.int .i64 0) := (qf BK108.out 2).trans rfl; have hcz13_3 : w10.cell? ⟨gb108, 3, none⟩ = some (.string (⟨#[]⟩ : ByteArray)) := (qf BK108.out 3).trans rfl; have hfz13_0 := qe BK108.out 0; have hfz13_1 := qe BK108.out 1; have hfz13_2 := qe BK108.out 2; have hfz13_3 := qe BK108.out 3) | (go_at_call 156; (with_reducible refine (spec_l1Rd_once.calls g s0_0 t107 12 true t110 w0 _ ?side1 ?side2 A5.out).mono ?_); (case side1 => exact yq144); (case side2 => repeat (first | (with_reducible first | exact HB.out | apply qc | apply qa | apply qb | refine qd ?_ (IsS178.ge HI0.out) | refine qd ?_ GE101.out | refine qd ?_ GE108.out) | exact HB.out)); rintro e w14 ⟨rfl, hi, hb, hk⟩; replace BK101 := Qz.mk (KeepBut.blk hk (g' := gb101) (o := .cells #[.string (⟨#[]⟩ : ByteArray), .int .i64 0, .int .i64 0, .string (⟨#[]⟩ : ByteArray)] 64 (0, 0)) yq136 NB101_0.out (by simp)); replace BK108 := Qz.mk (KeepBut.blk hk (g' := gb108) (o := .cells #[.string t102, .int .i64 t103, .int .i64 t104, .string t106] 64 (0, 0)) yq135 NB108_0.out (by simp)); replace HK := Qz.mk (KeepBut.trans (by repeat (first | (with_reducible first | exact HK.out | apply KeepBut.set_ | apply qo | apply qq | apply qp | refine qa1 ?_ GW101.out _ | refine qa1 ?_ GW108.out _) | exact HK.out)) hk (.inl rfl)); replace HB := Qz.mk (hb); replace HI0 := Qz.mk (hi); (try clear hb); (try clear hk); (try clear hi); have hcz15_0 : w14.cell? ⟨gb108, 0, none⟩ = some (.string t102) := (qf BK108.out 0).trans rfl; have hcz15_1 : w14.cell? ⟨gb108, 1, none⟩ = some (.int .i64 t103) := (qf BK108.out 1).trans rfl; have hcz15_2 : w14.cell? ⟨gb108, 2, none⟩ = some (.int .i64 t104) := (qf BK108.out 2).trans rfl; have hcz15_3 : w14.cell? ⟨gb108, 3, none⟩ = some (.string t106) := (qf BK108.out 3).trans rfl; have hfz15_0 := qe BK108.out 0; have hfz15_1 := qe BK108.out 1; have hfz15_2 := qe BK108.out 2; have hfz15_3 := qe BK108.out 3; have hnb16 := NB101_0.out; have hnc16 := NB0_101.out; have hcz17_0 : w14.cell? ⟨gb101, 0, none⟩ = some (.string (⟨#[]⟩ : ByteArray)) := (qf BK101.out 0).trans rfl; have hcz17_1 : w14.cell? ⟨gb101, 1, none⟩ = some (.int .i64 0) := (qf BK101.out 1).trans rfl; have hcz17_2 : w14.cell? ⟨gb101, 2, none⟩ = some (.int .i64 0) := (qf BK101.out 2).trans rfl; have hcz17_3 : w14.cell? ⟨gb101, 3, none⟩ = some (.string (⟨#[]⟩ : ByteArray)) := (qf BK101.out 3).trans rfl; have hfz17_0 := qe BK101.out 0; have hfz17_1 := qe BK101.out 1; have hfz17_2 := qe BK101.out 2; have hfz17_3 := qe BK101.out 3))
   refine bodyPost_ret (results_cell_row rfl _ _ gb101 64 #[.string t102, .int .i64 t103, .int .i64 t104, .string t106] (0, 0) _ rfl (by (with_reducible repeat (first | refine qg ?_ _ | refine qi ?_ | refine qh ?_ _)); refine qw (cs := #[.string t102, .int .i64 t103, .int .i64 t104, .string (⟨#[]⟩ : ByteArray)]) ?_ 3 _ rfl; (with_reducible repeat (first | refine qg ?_ _ | refine qi ?_ | refine qh ?_ _)); refine qw (cs := #[.string t102, .int .i64 t103, .int .i64 0, .string (⟨#[]⟩ : ByteArray)]) ?_ 2 _ rfl; (with_reducible repeat (first | refine qg ?_ _ | refine qi ?_ | refine qh ?_ _)); refine qw (cs := #[.string t102, .int .i64 0, .int .i64 0, .string (⟨#[]⟩ : ByteArray)]) ?_ 1 _ rfl; (with_reducible repeat (first | refine qg ?_ _ | refine qi ?_ | refine qh ?_ _)); refine qw (cs := #[.string (⟨#[]⟩ : ByteArray), .int .i64 0, .int .i64 0, .string (⟨#[]⟩ : ByteArray)]) ?_ 0 _ rfl; (with_reducible repeat (first | refine qg ?_ _ | refine qi ?_ | refine qh ?_ _)); exact BK101.out) Try.underlying64 rfl (by kernel_rfl)) rfl ?_
   exact ⟨by first | rfl | (simp [qn, qm] <;> rfl) | (simp [*, qn, qm] <;> rfl), by repeat (first | (with_reducible first | exact HI0.out | apply IsS178.alloc | apply IsS178.drewN | apply IsS178.drew | apply IsS178.set_1 | apply (fun h_ => IsS178.far h_ NB0_101.out _) | apply (fun h_ => IsS178.far h_ NB0_108.out _)) | exact HI0.out), by repeat (first | (with_reducible first | exact HB.out | apply qc | apply qa | apply qb | refine qd ?_ (IsS178.ge HI0.out) | refine qd ?_ GE101.out | refine qd ?_ GE108.out) | exact HB.out), by repeat (first | (with_reducible first | exact HK.out | apply KeepBut.set_ | apply qo | apply qq | apply qp | refine qa1 ?_ GW101.out _ | refine qa1 ?_ GW108.out _) | exact HK.out)⟩
  ·replace c6 := Bool.eq_false_iff.mpr c6
   subst c6
   have H1 : (some (t102, t103, t104, (⟨#[]⟩ : ByteArray), t110)) = some (r1, r2, r3, r4, r5) := by rw [if_neg (show ¬ (false = true) by decide)] at H; exact H
   clear H
   have H := H1
   clear H1
   simp only [Option.some.injEq, Prod.mk.injEq] at H
   obtain ⟨rfl, rfl, rfl, rfl, rfl⟩ := H
   go_enter Try.func155, Try.ntmps155
   go_wp2_with (first | ((with_reducible refine qb1 (N := 2) rfl ?_); refine qz ?hg (N := 2) ?hd (cs := #[.string (⟨#[]⟩ : ByteArray), .int .i64 0, .int .i64 0, .string (⟨#[]⟩ : ByteArray)]) (t := 64) ?hr ?_; (case hd => rfl); (case hg => rfl); (case hr => first | (go_simp; done) | (go_simp; rfl)); intro gb101 hg w18 hbox hb; replace HB := Qz.mk (ql yq143 hb); have BK101 := Qz.mk (hbox); have GW101 := Qz.mk ((yq141 : w.heap.size ≤ gb101)); have GE101 := Qz.mk ((Nat.le_trans HW0.out (yq141 : w.heap.size ≤ gb101) : w0.heap.size ≤ gb101)); replace HK := Qz.mk (KeepBut.trans yq134 (KeepBut.of_below hb g none) (.inl rfl)); have NB0_101 := Qz.mk ((by rw [hg]; exact Nat.ne_of_lt (IsS178.lt (show IsS178 w0 _ g s0_0 s0_1 from by repeat (first | (with_reducible first | exact HI0.out | apply IsS178.alloc | apply IsS178.drewN | apply IsS178.drew | apply IsS178.set_1) | exact HI0.out))) : g ≠ gb101)); have NB101_0 := Qz.mk ((by rw [hg]; exact Nat.ne_of_gt (IsS178.lt (show IsS178 w0 _ g s0_0 s0_1 from by repeat (first | (with_reducible first | exact HI0.out | apply IsS178.alloc | apply IsS178.drewN | apply IsS178.drew | apply IsS178.set_1) | exact HI0.out))) : gb101 ≠ g)); replace HI0 := Qz.mk (IsS178.below yq140 hb); clear hb hbox hg) | ((with_reducible refine qj (f := 94) rfl ?_); refine qt (some 5) rfl rfl Try.func94 (by kernel_rfl) rfl #[.pointer (some ⟨g, 0, none⟩)] rfl yq137 ?_; (with_reducible refine (spec_l1Rd_key.calls k g s0_0 s0_1 t102 t103 t104 t105 w0 _ ?side1 ?side2 A2.out).mono ?_); (case side1 => exact yq131); (case side2 => exact yq133); rintro e w19 ⟨rfl, hi, hb, hk⟩; refine ⟨_, rfl, ?_⟩; replace BK101 := Qz.mk (KeepBut.blk hk (g' := gb101) (o := .cells #[.string (⟨#[]⟩ : ByteArray), .int .i64 0, .int .i64 0, .string (⟨#[]⟩ : ByteArray)] 64 (0, 0)) yq132 NB101_0.out (by simp)); replace HK := Qz.mk (KeepBut.trans yq130 hk (.inl rfl)); replace HB := Qz.mk (hb); replace HI0 := Qz.mk (hi); (try clear hb); (try clear hk); (try clear hi)) | ((with_reducible refine qj (f := 187) rfl ?_); refine qt (some 7) rfl rfl Try.func187 (by kernel_rfl) rfl #[.pointer (some ⟨g, 0, none⟩)] rfl yq137 ?_; (with_reducible refine (spec_l1Rd_value.calls g s0_0 t105 t106 t107 w0 _ ?side1 ?side2 A3.out).mono ?_); (case side1 => exact yq131); (case side2 => exact yq133); rintro e w20 ⟨rfl, hi, hb, hk⟩; refine ⟨_, rfl, ?_⟩; replace BK101 := Qz.mk (KeepBut.blk hk (g' := gb101) (o := .cells #[.string (⟨#[]⟩ : ByteArray), .int .i64 0, .int .i64 0, .string (⟨#[]⟩ : ByteArray)] 64 (0, 0)) yq132 NB101_0.out (by simp)); replace HK := Qz.mk (KeepBut.trans yq130 hk (.inl rfl)); replace HB := Qz.mk (hb); replace HI0 := Qz.mk (hi); (try clear hb); (try clear hk); (try clear hi)) | ((with_reducible refine qb1 (N := 3) rfl ?_); refine qz ?hg (N := 3) ?hd (cs := #[.string (⟨#[]⟩ : ByteArray), .int .i64 0, .int .i64 0, .string (⟨#[]⟩ : ByteArray)]) (t := 64) ?hr ?_; (case hd => rfl); (case hg => rfl); (case hr => first | (go_simp; done) | (go_simp; rfl)); intro gb108 hg w21 hbox hb; replace HB := Qz.mk (ql yq133 hb); have BK108 := Qz.mk (hbox); have GW108 := Qz.mk ((yq142 : w.heap.size ≤ gb108)); have GE108 := Qz.mk ((Nat.le_trans HW0.out (yq142 : w.heap.size ≤ gb108) : w0.heap.size ≤ gb108)); replace HK := Qz.mk (KeepBut.trans yq130 (KeepBut.of_below hb g none) (.inl rfl)); have NB101_108 := Qz.mk ((yq138 : gb101 ≠ gb108)); have NB108_101 := Qz.mk ((yq139 : gb108 ≠ gb101)); replace BK101 := Qz.mk (qu (g := gb101) (o := .cells #[.string (⟨#[]⟩ : ByteArray), .int .i64 0, .int .i64 0, .string (⟨#[]⟩ : ByteArray)] 64 (0, 0)) yq132 hb); have NB0_108 := Qz.mk ((by rw [hg]; exact Nat.ne_of_lt (IsS178.lt (show IsS178 w0 _ g s0_0 t107 from by repeat (first | (with_reducible first | exact HI0.out | apply IsS178.alloc | apply IsS178.drewN | apply IsS178.drew | apply IsS178.set_1 | apply (fun h_ => IsS178.far h_ NB0_101.out _)) | exact HI0.out))) : g ≠ gb108)); have NB108_0 := Qz.mk ((by rw [hg]; exact Nat.ne_of_gt (IsS178.lt (show IsS178 w0 _ g s0_0 t107 from by repeat (first | (with_reducible first | exact HI0.out | apply IsS178.alloc | apply IsS178.drewN | apply IsS178.drew | apply IsS178.set_1 | apply (fun h_ => IsS178.far h_ NB0_101.out _)) | exact HI0.out))) : gb108 ≠ g)); replace HI0 := Qz.mk (IsS178.below yq131 hb); clear hb hbox hg; have hnb22 := NB108_101.out; have hnc22 := NB101_108.out; have hnb23 := NB108_0.out; have hnc23 := NB0_108.out; have hcz24_0 : w21.cell? ⟨gb108, 0, none⟩ = some (.string (⟨#[]⟩ : ByteArray)) := (qf BK108.out 0).trans rfl; have hcz24_1 : w21.cell? ⟨gb108, 1, none⟩ = some (.int .i64 0) := (qf BK108.out 1).trans rfl; have hcz24_2 : w21.cell? ⟨gb108, 2, none⟩ = some (.int .i64 0) := (qf BK108.out 2).trans rfl; have hcz24_3 : w21.cell? ⟨gb108, 3, none⟩ = some (.string (⟨#[]⟩ : ByteArray)) := (qf BK108.out 3).trans rfl; have hfz24_0 := qe BK108.out 0; have hfz24_1 := qe BK108.out 1; have hfz24_2 := qe BK108.out 2; have hfz24_3 := qe BK108.out 3) | (go_at_call 156; (with_reducible refine (spec_l1Rd_once.calls g s0_0 t107 12 false t110 w0 _ ?side1 ?side2 A5.out).mono ?_); (case side1 => exact yq144); (case side2 => repeat (first | (with_reducible first | exact HB.out | apply qc | apply qa | apply qb | refine qd ?_ (IsS178.ge HI0.out) | refine qd ?_ GE101.out | refine qd ?_ GE108.out) | exact HB.out)); rintro e w25 ⟨rfl, hi, hb, hk⟩; replace BK101 := Qz.mk (KeepBut.blk hk (g' := gb101) (o := .cells #[.string (⟨#[]⟩ : ByteArray), .int .i64 0, .int .i64 0, .string (⟨#[]⟩ : ByteArray)] 64 (0, 0)) yq136 NB101_0.out (by simp)); replace BK108 := Qz.mk (KeepBut.blk hk (g' := gb108) (o := .cells #[.string t102, .int .i64 t103, .int .i64 t104, .string t106] 64 (0, 0)) yq135 NB108_0.out (by simp)); replace HK := Qz.mk (KeepBut.trans (by repeat (first | (with_reducible first | exact HK.out | apply KeepBut.set_ | apply qo | apply qq | apply qp | refine qa1 ?_ GW101.out _ | refine qa1 ?_ GW108.out _) | exact HK.out)) hk (.inl rfl)); replace HB := Qz.mk (hb); replace HI0 := Qz.mk (hi); (try clear hb); (try clear hk); (try clear hi); have hcz26_0 : w25.cell? ⟨gb108, 0, none⟩ = some (.string t102) := (qf BK108.out 0).trans rfl; have hcz26_1 : w25.cell? ⟨gb108, 1, none⟩ = some (.int .i64 t103) := (qf BK108.out 1).trans rfl; have hcz26_2 : w25.cell? ⟨gb108, 2, none⟩ = some (.int .i64 t104) := (qf BK108.out 2).trans rfl; have hcz26_3 : w25.cell? ⟨gb108, 3, none⟩ = some (.string t106) := (qf BK108.out 3).trans rfl; have hfz26_0 := qe BK108.out 0; have hfz26_1 := qe BK108.out 1; have hfz26_2 := qe BK108.out 2; have hfz26_3 := qe BK108.out 3; have hnb27 := NB101_0.out; have hnc27 := NB0_101.out; have hcz28_0 : w25.cell? ⟨gb101, 0, none⟩ = some (.string (⟨#[]⟩ : ByteArray)) := (qf BK101.out 0).trans rfl; have hcz28_1 : w25.cell? ⟨gb101, 1, none⟩ = some (.int .i64 0) := (qf BK101.out 1).trans rfl; have hcz28_2 : w25.cell? ⟨gb101, 2, none⟩ = some (.int .i64 0) := (qf BK101.out 2).trans rfl; have hcz28_3 : w25.cell? ⟨gb101, 3, none⟩ = some (.string (⟨#[]⟩ : ByteArray)) := (qf BK101.out 3).trans rfl; have hfz28_0 := qe BK101.out 0; have hfz28_1 := qe BK101.out 1; have hfz28_2 := qe BK101.out 2; have hfz28_3 := qe BK101.out 3))
   refine bodyPost_ret (results_cell_row rfl _ _ gb101 64 #[.string t102, .int .i64 t103, .int .i64 t104, .string (⟨#[]⟩ : ByteArray)] (0, 0) _ rfl (by (with_reducible repeat (first | refine qg ?_ _ | refine qi ?_ | refine qh ?_ _)); refine qw (cs := #[.string t102, .int .i64 t103, .int .i64 t104, .string (⟨#[]⟩ : ByteArray)]) ?_ 3 _ rfl; (with_reducible repeat (first | refine qg ?_ _ | refine qi ?_ | refine qh ?_ _)); refine qw (cs := #[.string t102, .int .i64 t103, .int .i64 0, .string (⟨#[]⟩ : ByteArray)]) ?_ 2 _ rfl; (with_reducible repeat (first | refine qg ?_ _ | refine qi ?_ | refine qh ?_ _)); refine qw (cs := #[.string t102, .int .i64 0, .int .i64 0, .string (⟨#[]⟩ : ByteArray)]) ?_ 1 _ rfl; (with_reducible repeat (first | refine qg ?_ _ | refine qi ?_ | refine qh ?_ _)); refine qw (cs := #[.string (⟨#[]⟩ : ByteArray), .int .i64 0, .int .i64 0, .string (⟨#[]⟩ : ByteArray)]) ?_ 0 _ rfl; (with_reducible repeat (first | refine qg ?_ _ | refine qi ?_ | refine qh ?_ _)); refine blk_far ?_ NB101_108.out _; (with_reducible repeat (first | refine qg ?_ _ | refine qi ?_ | refine qh ?_ _)); exact BK101.out) Try.underlying64 rfl (by kernel_rfl)) rfl ?_
   exact ⟨by first | rfl | (simp [qn, qm] <;> rfl) | (simp [*, qn, qm] <;> rfl), by repeat (first | (with_reducible first | exact HI0.out | apply IsS178.alloc | apply IsS178.drewN | apply IsS178.drew | apply IsS178.set_1 | apply (fun h_ => IsS178.far h_ NB0_101.out _) | apply (fun h_ => IsS178.far h_ NB0_108.out _)) | exact HI0.out), by repeat (first | (with_reducible first | exact HB.out | apply qc | apply qa | apply qb | refine qd ?_ (IsS178.ge HI0.out) | refine qd ?_ GE101.out | refine qd ?_ GE108.out) | exact HB.out), by repeat (first | (with_reducible first | exact HK.out | apply KeepBut.set_ | apply qo | apply qq | apply qp | refine qa1 ?_ GW101.out _ | refine qa1 ?_ GW108.out _) | exact HK.out)⟩
 ·rw [if_neg c4] at H
  have c4b0 : (t104 == 0) = false := beq_eq_false_iff_ne.mpr c4
  have c4b1 : (t104 != 0) = true := bne_iff_ne.mpr c4
  simp only [Option.some.injEq, Prod.mk.injEq] at H
  obtain ⟨rfl, rfl, rfl, rfl, rfl⟩ := H
  go_enter Try.func155, Try.ntmps155
  go_wp2_with (first | ((with_reducible refine qb1 (N := 2) rfl ?_); refine qz ?hg (N := 2) ?hd (cs := #[.string (⟨#[]⟩ : ByteArray), .int .i64 0, .int .i64 0, .string (⟨#[]⟩ : ByteArray)]) (t := 64) ?hr ?_; (case hd => rfl); (case hg => rfl); (case hr => first | (go_simp; done) | (go_simp; rfl)); intro gb101 hg w29 hbox hb; replace HB := Qz.mk (ql yq143 hb); have BK101 := Qz.mk (hbox); have GW101 := Qz.mk ((yq141 : w.heap.size ≤ gb101)); have GE101 := Qz.mk ((Nat.le_trans HW0.out (yq141 : w.heap.size ≤ gb101) : w0.heap.size ≤ gb101)); replace HK := Qz.mk (KeepBut.trans yq134 (KeepBut.of_below hb g none) (.inl rfl)); have NB0_101 := Qz.mk ((by rw [hg]; exact Nat.ne_of_lt (IsS178.lt (show IsS178 w0 _ g s0_0 s0_1 from by repeat (first | (with_reducible first | exact HI0.out | apply IsS178.alloc | apply IsS178.drewN | apply IsS178.drew | apply IsS178.set_1) | exact HI0.out))) : g ≠ gb101)); have NB101_0 := Qz.mk ((by rw [hg]; exact Nat.ne_of_gt (IsS178.lt (show IsS178 w0 _ g s0_0 s0_1 from by repeat (first | (with_reducible first | exact HI0.out | apply IsS178.alloc | apply IsS178.drewN | apply IsS178.drew | apply IsS178.set_1) | exact HI0.out))) : gb101 ≠ g)); replace HI0 := Qz.mk (IsS178.below yq140 hb); clear hb hbox hg) | ((with_reducible refine qj (f := 94) rfl ?_); refine qt (some 5) rfl rfl Try.func94 (by kernel_rfl) rfl #[.pointer (some ⟨g, 0, none⟩)] rfl yq137 ?_; (with_reducible refine (spec_l1Rd_key.calls k g s0_0 s0_1 t102 t103 t104 t105 w0 _ ?side1 ?side2 A2.out).mono ?_); (case side1 => exact yq131); (case side2 => exact yq133); rintro e w30 ⟨rfl, hi, hb, hk⟩; refine ⟨_, rfl, ?_⟩; replace BK101 := Qz.mk (KeepBut.blk hk (g' := gb101) (o := .cells #[.string (⟨#[]⟩ : ByteArray), .int .i64 0, .int .i64 0, .string (⟨#[]⟩ : ByteArray)] 64 (0, 0)) yq132 NB101_0.out (by simp)); replace HK := Qz.mk (KeepBut.trans yq130 hk (.inl rfl)); replace HB := Qz.mk (hb); replace HI0 := Qz.mk (hi); (try clear hb); (try clear hk); (try clear hi)) | ((with_reducible refine qj (f := 187) rfl ?_); refine qt (some 7) rfl rfl Try.func187 (by kernel_rfl) rfl #[.pointer (some ⟨g, 0, none⟩)] rfl yq137 ?_; (with_reducible refine (spec_l1Rd_value.calls g s0_0 t105 t106 t107 w0 _ ?side1 ?side2 A3.out).mono ?_); (case side1 => exact yq131); (case side2 => exact yq133); rintro e w31 ⟨rfl, hi, hb, hk⟩; refine ⟨_, rfl, ?_⟩; replace BK101 := Qz.mk (KeepBut.blk hk (g' := gb101) (o := .cells #[.string (⟨#[]⟩ : ByteArray), .int .i64 0, .int .i64 0, .string (⟨#[]⟩ : ByteArray)] 64 (0, 0)) yq132 NB101_0.out (by simp)); replace HK := Qz.mk (KeepBut.trans yq130 hk (.inl rfl)); replace HB := Qz.mk (hb); replace HI0 := Qz.mk (hi); (try clear hb); (try clear hk); (try clear hi)) | ((with_reducible refine qb1 (N := 3) rfl ?_); refine qz ?hg (N := 3) ?hd (cs := #[.string (⟨#[]⟩ : ByteArray), .int .i64 0, .int .i64 0, .string (⟨#[]⟩ : ByteArray)]) (t := 64) ?hr ?_; (case hd => rfl); (case hg => rfl); (case hr => first | (go_simp; done) | (go_simp; rfl)); intro gb108 hg w32 hbox hb; replace HB := Qz.mk (ql yq133 hb); have BK108 := Qz.mk (hbox); have GW108 := Qz.mk ((yq142 : w.heap.size ≤ gb108)); have GE108 := Qz.mk ((Nat.le_trans HW0.out (yq142 : w.heap.size ≤ gb108) : w0.heap.size ≤ gb108)); replace HK := Qz.mk (KeepBut.trans yq130 (KeepBut.of_below hb g none) (.inl rfl)); have NB101_108 := Qz.mk ((yq138 : gb101 ≠ gb108)); have NB108_101 := Qz.mk ((yq139 : gb108 ≠ gb101)); replace BK101 := Qz.mk (qu (g := gb101) (o := .cells #[.string (⟨#[]⟩ : ByteArray), .int .i64 0, .int .i64 0, .string (⟨#[]⟩ : ByteArray)] 64 (0, 0)) yq132 hb); have NB0_108 := Qz.mk ((by rw [hg]; exact Nat.ne_of_lt (IsS178.lt (show IsS178 w0 _ g s0_0 t107 from by repeat (first | (with_reducible first | exact HI0.out | apply IsS178.alloc | apply IsS178.drewN | apply IsS178.drew | apply IsS178.set_1 | apply (fun h_ => IsS178.far h_ NB0_101.out _)) | exact HI0.out))) : g ≠ gb108)); have NB108_0 := Qz.mk ((by rw [hg]; exact Nat.ne_of_gt (IsS178.lt (show IsS178 w0 _ g s0_0 t107 from by repeat (first | (with_reducible first | exact HI0.out | apply IsS178.alloc | apply IsS178.drewN | apply IsS178.drew | apply IsS178.set_1 | apply (fun h_ => IsS178.far h_ NB0_101.out _)) | exact HI0.out))) : gb108 ≠ g)); replace HI0 := Qz.mk (IsS178.below yq131 hb); clear hb hbox hg; have hnb33 := NB108_101.out; have hnc33 := NB101_108.out; have hnb34 := NB108_0.out; have hnc34 := NB0_108.out; have hcz35_0 : w32.cell? ⟨gb108, 0, none⟩ = some (.string (⟨#[]⟩ : ByteArray)) := (qf BK108.out 0).trans rfl; have hcz35_1 : w32.cell? ⟨gb108, 1, none⟩ = some (.int .i64 0) := (qf BK108.out 1).trans rfl; have hcz35_2 : w32.cell? ⟨gb108, 2, none⟩ = some (.int .i64 0) := (qf BK108.out 2).trans rfl; have hcz35_3 : w32.cell? ⟨gb108, 3, none⟩ = some (.string (⟨#[]⟩ : ByteArray)) := (qf BK108.out 3).trans rfl; have hfz35_0 := qe BK108.out 0; have hfz35_1 := qe BK108.out 1; have hfz35_2 := qe BK108.out 2; have hfz35_3 := qe BK108.out 3; have hnb36 := NB101_0.out; have hnc36 := NB0_101.out; have hcz37_0 : w32.cell? ⟨gb101, 0, none⟩ = some (.string (⟨#[]⟩ : ByteArray)) := (qf BK101.out 0).trans rfl; have hcz37_1 : w32.cell? ⟨gb101, 1, none⟩ = some (.int .i64 0) := (qf BK101.out 1).trans rfl; have hcz37_2 : w32.cell? ⟨gb101, 2, none⟩ = some (.int .i64 0) := (qf BK101.out 2).trans rfl; have hcz37_3 : w32.cell? ⟨gb101, 3, none⟩ = some (.string (⟨#[]⟩ : ByteArray)) := (qf BK101.out 3).trans rfl; have hfz37_0 := qe BK101.out 0; have hfz37_1 := qe BK101.out 1; have hfz37_2 := qe BK101.out 2; have hfz37_3 := qe BK101.out 3))
  refine bodyPost_ret (results_cell_row rfl _ _ gb101 64 #[.string t102, .int .i64 t103, .int .i64 t104, .string t106] (0, 0) _ rfl (by (with_reducible repeat (first | refine qg ?_ _ | refine qi ?_ | refine qh ?_ _)); refine qw (cs := #[.string t102, .int .i64 t103, .int .i64 t104, .string (⟨#[]⟩ : ByteArray)]) ?_ 3 _ rfl; (with_reducible repeat (first | refine qg ?_ _ | refine qi ?_ | refine qh ?_ _)); refine qw (cs := #[.string t102, .int .i64 t103, .int .i64 0, .string (⟨#[]⟩ : ByteArray)]) ?_ 2 _ rfl; (with_reducible repeat (first | refine qg ?_ _ | refine qi ?_ | refine qh ?_ _)); refine qw (cs := #[.string t102, .int .i64 0, .int .i64 0, .string (⟨#[]⟩ : ByteArray)]) ?_ 1 _ rfl; (with_reducible repeat (first | refine qg ?_ _ | refine qi ?_ | refine qh ?_ _)); refine qw (cs := #[.string (⟨#[]⟩ : ByteArray), .int .i64 0, .int .i64 0, .string (⟨#[]⟩ : ByteArray)]) ?_ 0 _ rfl; (with_reducible repeat (first | refine qg ?_ _ | refine qi ?_ | refine qh ?_ _)); refine blk_far ?_ NB101_108.out _; (with_reducible repeat (first | refine qg ?_ _ | refine qi ?_ | refine qh ?_ _)); refine blk_far ?_ NB101_108.out _; (with_reducible repeat (first | refine qg ?_ _ | refine qi ?_ | refine qh ?_ _)); refine blk_far ?_ NB101_108.out _; (with_reducible repeat (first | refine qg ?_ _ | refine qi ?_ | refine qh ?_ _)); refine blk_far ?_ NB101_108.out _; (with_reducible repeat (first | refine qg ?_ _ | refine qi ?_ | refine qh ?_ _)); exact BK101.out) Try.underlying64 rfl (by kernel_rfl)) rfl ?_
  exact ⟨by first | rfl | (simp [qn, qm] <;> rfl) | (simp [*, qn, qm] <;> rfl), by repeat (first | (with_reducible first | exact HI0.out | apply IsS178.alloc | apply IsS178.drewN | apply IsS178.drew | apply IsS178.set_1 | apply (fun h_ => IsS178.far h_ NB0_101.out _) | apply (fun h_ => IsS178.far h_ NB0_108.out _)) | exact HI0.out), by repeat (first | (with_reducible first | exact HB.out | apply qc | apply qa | apply qb | refine qd ?_ (IsS178.ge HI0.out) | refine qd ?_ GE101.out | refine qd ?_ GE108.out) | exact HB.out), by repeat (first | (with_reducible first | exact HK.out | apply KeepBut.set_ | apply qo | apply qq | apply qp | refine qa1 ?_ GW101.out _ | refine qa1 ?_ GW108.out _) | exact HK.out)⟩
end Go.Proofs.Ytidjdkodgddfcaa.P
end
