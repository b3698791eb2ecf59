/- Proved: the law FnFilters of the given program returns true for every input of its Go types and leaves each argument as it was; no condition. (Part 7 of 10.) -/
import Derived.Test.YtedgdnkbojjbmaaCFnFilters4
import Derived.Test.YtedgdnkbojjbmaaCFnFilters5
import Derived.Laws.BytesArg
import Derived.Lib.ConvBytes
section
namespace Go.Proofs.Ytedgdnkbojjbmaa.P
open Go.RowKit Go.Proofs.YtedgdnkbojjbmaaW.PrintWords Go.Proofs.YtedgdnkbojjbmaaW.PrintLast Go.Proofs.YtedgdnkbojjbmaaW.PrintMore
attribute [local go_sem] str_gtr str_leq str_geq max2_int min2_int max_two min_two max_three min_three max_four min_four
set_option linter.unusedVariables false
set_option linter.unusedSimpArgs false
def ribEqs (k : Nat) (seed m : Int) : List ByteArray → Option (List (Nat × Nat × Nat))
  | [] => some []
  | u :: us => (impl_equationOf.f k u seed m).bind fun e => if (0 ≤ e.1 ∧ 0 ≤ e.2.1 ∧ 0 ≤ e.2.2) ∧ e.1.toNat ≤ m.toNat - 16 ∧ e.2.1.toNat < 2 ^ 16 ∧ e.2.1.toNat % 2 = 1 ∧ e.2.2.toNat < 128 then (ribEqs k seed m us).bind fun es => some ((e.1.toNat, e.2.1.toNat, e.2.2.toNat) :: es) else none
theorem ribEqs_at {k : Nat} {seed : Int} {n : Nat} : ∀ {us : List ByteArray} {es : List (Nat × Nat × Nat)}, ribEqs k seed (n : Int) us = some es → Pure.EqAt k us seed n es
  | [], es, h => by
    rw [ribEqs] at h
    rw [← Option.some.inj h]
    exact ⟨rfl, fun j hj => absurd hj (Nat.not_lt_zero _)⟩
  | u :: us, es, h => by
    rw [ribEqs] at h
    obtain ⟨⟨p, r, s⟩, h1, h⟩ := Option.bind_eq_some_iff.mp h
    split at h
    case isFalse => cases h
    rename_i hc
    obtain ⟨⟨c0, c1, c2⟩, c3, c4, c5, c6⟩ := hc
    obtain ⟨es', h2, h⟩ := Option.bind_eq_some_iff.mp h
    obtain ⟨i1, i2⟩ := ribEqs_at h2
    rw [← Option.some.inj h]
    refine ⟨by rw [List.length_cons, List.length_cons, i1], fun j hj hj2 => ?_⟩
    cases j with
    | zero =>
      refine ⟨?_, c3, c4, c5, c6⟩
      show impl_equationOf.f k u seed (n : Int) = some (((p.toNat : Nat) : Int), ((r.toNat : Nat) : Int), ((s.toNat : Nat) : Int))
      rw [Int.toNat_of_nonneg c0, Int.toNat_of_nonneg c1, Int.toNat_of_nonneg c2]
      exact h1
    | succ j => exact i2 j (Nat.lt_of_succ_lt_succ hj) (Nat.lt_of_succ_lt_succ hj2)
def impl_RibbonOf.f (k : Nat) (us : List ByteArray) (seed : Int) : Option (Int × Int × Int × ByteArray × Bool) :=
  (impl_UsersOk.f k us).bind fun a => if a = true then (impl_within.f seed 0 3).bind fun b => if b = true then (if us.length ≤ 400 then (ribEqs k seed (Pure.ribN us : Int) us).bind fun es => (Pure.elimL (2 * Pure.ribN us + 2) es (Pure.zerosN (Pure.ribN us)) (Pure.zerosN (Pure.ribN us))).bind fun t => some (Pure.ribE seed (Pure.ribN us) t) else none) else some (0, 0, 0, ⟨#[]⟩, false) else some (0, 0, 0, ⟨#[]⟩, false)
def RowQ (W : World) (g : Nat) (n : Nat) (rows sums : List Nat) : Prop := ∃ cells : Array Value, W.heap[g]? = some (.cells cells 148 (0, 0)) ∧ cells.size = n * 3 ∧ ∀ j : Nat, j < n → (∃ pl : Int, cells[j * 3]? = some (.int .i64 pl)) ∧ cells[j * 3 + 1]? = some (.int .u64 ((rows.getD j 0 : Nat) : Int)) ∧ cells[j * 3 + 2]? = some (.int .u8 ((sums.getD j 0 : Nat) : Int))
section
variable {W W1 : World} {g n : Nat} {rows sums : List Nat}
theorem RowQ.lt (h : RowQ W g n rows sums) : g < W.heap.size := by
  obtain ⟨c, hc, _⟩ := h
  exact (Array.getElem?_eq_some_iff.1 hc).1
theorem RowQ.cells (h : RowQ W g n rows sums) (j : Nat) (hj : j < n) : ∃ pl : Int, W.cell? ⟨g, j * 3, none⟩ = some (.int .i64 pl) ∧ W.cell? ⟨g, j * 3 + 1, none⟩ = some (.int .u64 ((rows.getD j 0 : Nat) : Int)) ∧ W.cell? ⟨g, j * 3 + 2, none⟩ = some (.int .u8 ((sums.getD j 0 : Nat) : Int)) := by
  obtain ⟨c, hc, hs, hx⟩ := h
  obtain ⟨⟨pl, h0⟩, h1, h2⟩ := hx j hj
  exact ⟨pl, (cell_of_row W g _ c _ _ hc).trans h0, (cell_of_row W g _ c _ _ hc).trans h1, (cell_of_row W g _ c _ _ hc).trans h2⟩
theorem RowQ.frozen (h : RowQ W g n rows sums) (j : Nat) : W.frozen? ⟨g, j, none⟩ = false := by
  obtain ⟨c, hc, _⟩ := h
  exact blk_frozen hc j
theorem RowQ.block (h : RowQ W g n rows sums) (he : W1.heap[g]? = W.heap[g]?) : RowQ W1 g n rows sums := by
  obtain ⟨c, hc, hl, hx⟩ := h
  exact ⟨c, he.trans hc, hl, hx⟩
theorem RowQ.below (h : RowQ W g n rows sums) (hb : Below W.heap.size W W1) : RowQ W1 g n rows sums := h.block (hb.block g h.lt)
theorem RowQ.far (h : RowQ W g n rows sums) {b : Nat} (hne : g ≠ b) (j : Nat) (u : Value) : RowQ (W.setCell ⟨b, j, none⟩ u) g n rows sums := by
  obtain ⟨c, hc, hl, hx⟩ := h
  exact ⟨c, blk_far hc hne u, hl, hx⟩
theorem RowQ.put (h : RowQ W g n rows sums) (hr : rows.length = n) (hs : sums.length = n) (p : Nat) (hp : p < n) (pl : Int) (r s : Nat) : RowQ (((W.setCell ⟨g, p * 3, none⟩ (.int .i64 pl)).setCell ⟨g, p * 3 + 1, none⟩ (.int .u64 (r : Int))).setCell ⟨g, p * 3 + 2, none⟩ (.int .u8 (s : Int))) g n (rows.set p r) (sums.set p s) := by
  obtain ⟨c, hc, hl, hx⟩ := h
  refine ⟨((c.setIfInBounds (p * 3) (.int .i64 pl)).setIfInBounds (p * 3 + 1) (.int .u64 (r : Int))).setIfInBounds (p * 3 + 2) (.int .u8 (s : Int)), blk_put (blk_put (blk_put hc (p * 3) _ rfl) (p * 3 + 1) _ rfl) (p * 3 + 2) _ rfl, by simpa using hl, fun j hj => ?_⟩
  rw [Pure.getD_set rows p j r (by omega), Pure.getD_set sums p j s (by omega)]
  by_cases e : p = j
  · subst e
    rw [if_pos rfl, if_pos rfl]
    refine ⟨⟨pl, ?_⟩, ?_, ?_⟩
    · rw [Array.getElem?_setIfInBounds_ne (by omega), Array.getElem?_setIfInBounds_ne (by omega), Array.getElem?_setIfInBounds_self_of_lt (by omega)]
    · rw [Array.getElem?_setIfInBounds_ne (by omega), Array.getElem?_setIfInBounds_self_of_lt (by simp; omega)]
    · rw [Array.getElem?_setIfInBounds_self_of_lt (by simp; omega)]
  · rw [if_neg e, if_neg e]
    obtain ⟨⟨q, h0⟩, h1, h2⟩ := hx j hj
    refine ⟨⟨q, ?_⟩, ?_, ?_⟩
    · rw [Array.getElem?_setIfInBounds_ne (by omega), Array.getElem?_setIfInBounds_ne (by omega), Array.getElem?_setIfInBounds_ne (by omega)]
      exact h0
    · rw [Array.getElem?_setIfInBounds_ne (by omega), Array.getElem?_setIfInBounds_ne (by omega), Array.getElem?_setIfInBounds_ne (by omega)]
      exact h1
    · rw [Array.getElem?_setIfInBounds_ne (by omega), Array.getElem?_setIfInBounds_ne (by omega), Array.getElem?_setIfInBounds_ne (by omega)]
      exact h2
theorem RowQ.new (W : World) (n : Nat) : RowQ (W.alloc (.cells (madeCells #[.int .i64 0, .int .u64 0, .int .u8 0] (n * 3)) 148)) W.heap.size n (Pure.zerosN n) (Pure.zerosN n) := by
  refine ⟨_, blk_new W _, size_madeCells _ _, fun j hj => ?_⟩
  rw [Pure.zerosN_get]
  have h3 : ∀ i, i < n * 3 → (madeCells #[Value.int .i64 0, .int .u64 0, .int .u8 0] (n * 3))[i]? = some (#[Value.int .i64 0, .int .u64 0, .int .u8 0][i % 3]!) := fun i hi => by
    unfold madeCells
    rw [Array.getElem?_map, Array.getElem?_range, if_pos hi]
    rfl
  refine ⟨⟨0, ?_⟩, ?_, ?_⟩
  · rw [h3 _ (by omega), show j * 3 % 3 = 0 from by omega]
    rfl
  · rw [h3 _ (by omega), show (j * 3 + 1) % 3 = 1 from by omega]
    rfl
  · rw [h3 _ (by omega), show (j * 3 + 2) % 3 = 2 from by omega]
    rfl
end
def RowX (W : World) (h : Nat) (bits : List Nat) : Prop := W.heap[h]? = some (.cells (nums .u8 (Pure.castL bits)).toArray 5 (0, 0))
section
variable {W W1 : World} {h n : Nat} {bits : List Nat}
theorem RowX.new (W : World) (n : Nat) : RowX (W.alloc (.cells (madeCells #[.int .u8 0] n) 5)) W.heap.size (Pure.zerosN n) := by
  unfold RowX
  rw [blk_new W _, Pure.zerosN_cast]
  have hl : madeCells #[Value.int .u8 0] n = (nums .u8 (List.replicate n 0)).toArray := by
    apply Array.ext
    · simp [nums, madeCells]
    · intro i h1 h2
      simp [nums, madeCells, Nat.mod_one]
  rw [hl]
theorem RowX.cell (hx : RowX W h bits) (j : Nat) (hj : j < bits.length) : W.cell? ⟨h, j, none⟩ = some (.int .u8 ((bits.getD j 0 : Nat) : Int)) := by
  refine (cell_of_row W h j _ _ _ hx).trans ?_
  simp [nums, Pure.castL, List.getElem?_eq_getElem hj, List.getD_eq_getElem?_getD]
theorem RowX.put (hx : RowX W h bits) (j y : Nat) : RowX (W.setCell ⟨h, j, none⟩ (.int .u8 (y : Int))) h (bits.set j y) := by
  have := blk_put hx j (.int .u8 (y : Int)) rfl
  unfold RowX
  rw [this, ← Pure.castL_set]
  simp [nums, List.map_set]
theorem RowX.reads (hx : RowX W h bits) (hl : bits.length ≤ 9223372036854775807) : Kd.C (Kd.int .u8) W (some ⟨h, 0, none⟩) (Pure.castL bits).length (Pure.castL bits) := by
  refine ⟨rfl, by rw [Pure.castL_len]; exact hl, fun _ => ⟨⟨h, 0, none⟩, rfl, fun j p hj => ⟨[.int .u8 p], rfl, rfl, fun i u hi => ?_⟩⟩⟩
  have hjl : j < bits.length := by
    rcases Nat.lt_or_ge j (Pure.castL bits).length with h1 | h1
    · rwa [Pure.castL_len] at h1
    · rw [List.getElem?_eq_none h1] at hj
      cases hj
  cases i with
  | zero =>
    obtain rfl : Value.int .u8 p = u := Option.some.inj hi
    have e0 : p = ((bits.getD j 0 : Nat) : Int) := by
      rw [← Pure.castL_rd, getD_rd, List.getD_eq_getElem?_getD, hj]
      rfl
    have e1 : j * (Kd.int .u8).sz + 0 = j := Nat.mul_one j
    have e2 : (⟨h, 0, none⟩ : Addr).add j = ⟨h, j, none⟩ := by
      have : (⟨h, 0, none⟩ : Addr).add j = ⟨h, 0 + j, none⟩ := by unfold Addr.add; split <;> simp_all
      rw [this, Nat.zero_add]
    rw [e1, e2, e0]
    exact hx.cell j hjl
  | succ i => cases hi
theorem RowX.str (hx : RowX W h bits) (cap : Nat) : (convert 51 9 (.slice (some ⟨h, 0, none⟩) bits.length cap)).run Try.prog W = .ok (.string (strOfNums (Pure.castL bits))) W :=
  run_convert_bytes_arg (P := Try.prog) W _ _ Try.underlying51 Try.underlying5 h 0 _ cap (Pure.castL bits) (Pure.castL_len bits) (fun i hi => by
    rw [Nat.zero_add, hx.cell i hi, ← Pure.castL_rd, getD_rd]) _ Try.underlying9
end
theorem RowX.ne {W : World} {h b t : Nat} {bits : List Nat} {cs : Array Value} (hx : RowX W h bits) (hb : W.heap[b]? = some (.cells cs t (0, 0))) (ht : t ≠ 5) : b ≠ h := by
  intro e
  subst e
  unfold RowX at hx
  rw [hb] at hx
  exact ht (by injection hx with hx; injection hx)
theorem RowX.neQ {W : World} {g h n : Nat} {bits rows sums : List Nat} (hx : RowX W h bits) (hb : RowQ W g n rows sums) : g ≠ h := by
  obtain ⟨c, hc, _⟩ := hb
  exact hx.ne hc (by decide)
structure RibL (w W : World) (b4 b10 g n : Nat) (rows sums : List Nat) (p r s : Nat) : Prop where
  R : RowQ W g n rows sums
  E4 : W.heap[b4]? = some (.cells #[.int .i64 0, .int .i64 0, .int .i64 0, .string (⟨#[]⟩ : ByteArray)] 46 (0, 0))
  E10 : W.heap[b10]? = some (.cells #[.int .i64 (p : Int), .int .u64 (r : Int), .int .u8 (s : Int)] 148 (0, 0))
  B : Below w.heap.size w W
  n4 : b4 ≠ b10
  ng : g ≠ b10
  n4g : b4 ≠ g
  h10 : w.heap.size ≤ b10
  hg : w.heap.size ≤ g
section
variable {w W : World} {b4 b10 g n : Nat} {rows sums : List Nat} {p r s : Nat}
theorem RibL.c0 (h : RibL w W b4 b10 g n rows sums p r s) : W.cell? ⟨b10, 0, none⟩ = some (.int .i64 (p : Int)) := (blk_cell h.E10 0).trans rfl
theorem RibL.c1 (h : RibL w W b4 b10 g n rows sums p r s) : W.cell? ⟨b10, 1, none⟩ = some (.int .u64 (r : Int)) := (blk_cell h.E10 1).trans rfl
theorem RibL.c2 (h : RibL w W b4 b10 g n rows sums p r s) : W.cell? ⟨b10, 2, none⟩ = some (.int .u8 (s : Int)) := (blk_cell h.E10 2).trans rfl
theorem RibL.fr (h : RibL w W b4 b10 g n rows sums p r s) (j : Nat) : W.frozen? ⟨b10, j, none⟩ = false := blk_frozen h.E10 j
theorem RibL.setP (h : RibL w W b4 b10 g n rows sums p r s) (q : Nat) : RibL w (W.setCell ⟨b10, 0, none⟩ (.int .i64 (q : Int))) b4 b10 g n rows sums q r s :=
  ⟨h.R.far h.ng _ _, blk_far h.E4 h.n4 _, blk_put h.E10 0 _ rfl, below_set h.B h.h10, h.n4, h.ng, h.n4g, h.h10, h.hg⟩
theorem RibL.setR (h : RibL w W b4 b10 g n rows sums p r s) (q : Nat) : RibL w (W.setCell ⟨b10, 1, none⟩ (.int .u64 (q : Int))) b4 b10 g n rows sums p q s :=
  ⟨h.R.far h.ng _ _, blk_far h.E4 h.n4 _, blk_put h.E10 1 _ rfl, below_set h.B h.h10, h.n4, h.ng, h.n4g, h.h10, h.hg⟩
theorem RibL.setS (h : RibL w W b4 b10 g n rows sums p r s) (q : Nat) : RibL w (W.setCell ⟨b10, 2, none⟩ (.int .u8 (q : Int))) b4 b10 g n rows sums p r q :=
  ⟨h.R.far h.ng _ _, blk_far h.E4 h.n4 _, blk_put h.E10 2 _ rfl, below_set h.B h.h10, h.n4, h.ng, h.n4g, h.h10, h.hg⟩
theorem RibL.drew (h : RibL w W b4 b10 g n rows sums p r s) (m : Nat) : RibL w (W.drewN m) b4 b10 g n rows sums p r s :=
  ⟨h.R.block (by first | rfl | simp), blk_drewN h.E4 m, blk_drewN h.E10 m, pw_below_drewN h.B m, h.n4, h.ng, h.n4g, h.h10, h.hg⟩
theorem RibL.drew1 (h : RibL w W b4 b10 g n rows sums p r s) : RibL w W.drew b4 b10 g n rows sums p r s :=
  ⟨h.R.block rfl, blk_drew h.E4, blk_drew h.E10, below_drew1 h.B, h.n4, h.ng, h.n4g, h.h10, h.hg⟩
theorem RibL.keep (h : RibL w W b4 b10 g n rows sums p r s) (hI : Pure.InvK n rows sums) (hp : p < n) : RibL w (((W.setCell ⟨g, p * 3, none⟩ (.int .i64 (p : Int))).setCell ⟨g, p * 3 + 1, none⟩ (.int .u64 (r : Int))).setCell ⟨g, p * 3 + 2, none⟩ (.int .u8 (s : Int))) b4 b10 g n (rows.set p r) (sums.set p s) p r s :=
  ⟨h.R.put hI.hl hI.ls p hp _ r s, blk_far (blk_far (blk_far h.E4 h.n4g _) h.n4g _) h.n4g _, blk_far (blk_far (blk_far h.E10 h.ng.symm _) h.ng.symm _) h.ng.symm _, below_set (below_set (below_set h.B h.hg) h.hg) h.hg, h.n4, h.ng, h.n4g, h.h10, h.hg⟩
theorem RibL.new {W0 : World} {x0 x1 x2 : Value} (hR : RowQ W0 g n rows sums) (hE : W0.heap[b4]? = some (.cells #[.int .i64 0, .int .i64 0, .int .i64 0, .string (⟨#[]⟩ : ByteArray)] 46 (0, 0))) (hB : Below w.heap.size w W0) (hb : Below W0.heap.size W0 W) (hbox : W.heap[b10]? = some (.cells #[x0, x1, x2] 148 (0, 0))) (hg : b10 = W0.heap.size) (n4g : b4 ≠ g) (hgg : w.heap.size ≤ g) (p r s : Nat) :
    RibL w (((W.setCell ⟨b10, 0, none⟩ (.int .i64 (p : Int))).setCell ⟨b10, 1, none⟩ (.int .u64 (r : Int))).setCell ⟨b10, 2, none⟩ (.int .u8 (s : Int))) b4 b10 g n rows sums p r s := by
  have ng : g ≠ b10 := by rw [hg]; exact Nat.ne_of_lt hR.lt
  have n4 : b4 ≠ b10 := by rw [hg]; exact Nat.ne_of_lt (blk_lt hE)
  have h10 : w.heap.size ≤ b10 := by rw [hg]; exact below_size hB
  exact ⟨(((hR.below hb).far ng _ _).far ng _ _).far ng _ _, blk_far (blk_far (blk_far (blk_below hE hb) n4 _) n4 _) n4 _, blk_put (blk_put (blk_put hbox 0 _ rfl) 1 _ rfl) 2 _ rfl, below_set (below_set (below_set (below_step hB hb) h10) h10) h10, n4, ng, n4g, h10, hgg⟩
end
theorem rib_put4 {W : World} {b t : Nat} {x0 x1 x2 x3 u0 u1 u2 u3 : Value} (h : W.heap[b]? = some (.cells #[x0, x1, x2, x3] t (0, 0))) : ((((W.setCell ⟨b, 0, none⟩ u0).setCell ⟨b, 1, none⟩ u1).setCell ⟨b, 2, none⟩ u2).setCell ⟨b, 3, none⟩ u3).heap[b]? = some (.cells #[u0, u1, u2, u3] t (0, 0)) := blk_put (blk_put (blk_put (blk_put h 0 u0 rfl) 1 u1 rfl) 2 u2 rfl) 3 u3 rfl
theorem rib_bel4 {W w : World} {b : Nat} {u0 u1 u2 u3 : Value} (h : Below w.heap.size w W) (hn : w.heap.size ≤ b) : Below w.heap.size w ((((W.setCell ⟨b, 0, none⟩ u0).setCell ⟨b, 1, none⟩ u1).setCell ⟨b, 2, none⟩ u2).setCell ⟨b, 3, none⟩ u3) := below_set (below_set (below_set (below_set h hn) hn) hn) hn
set_option maxHeartbeats 8000000 in
set_option maxRecDepth 100000 in
theorem impl_RibbonOf.calls (k : Nat) (A0 : Option Addr) (c0 : Nat) (l0 : List ByteArray) (a1 : Int) (r1 r2 r3 : Int) (r4 : ByteArray) (r5 : Bool) (w : World) (hr0 : Kd.C Kd.string w A0 l0.length l0) (hc0 : l0.length ≤ c0) (h : impl_RibbonOf.f k l0 a1 = some (r1, r2, r3, r4, r5)) :
    Calls Try.prog 99 #[.slice A0 l0.length c0, .int .i64 a1] w fun e w' => e = .returned (.tuple #[.agg #[.int .i64 r1, .int .i64 r2, .int .i64 r3, .string r4], .bool r5]) ∧ Below w.heap.size w w' := by
  have huF := Try.underlying46
  have huE := Try.underlying148
  have HR0 := Aside0.mk hr0
  have HC0 := Aside0.mk hc0
  have HH := Aside0.mk h
  clear hr0 hc0 h
  unfold impl_RibbonOf.f at HH
  have mk : ∀ (W : World) (m : Nat), m ≤ 1000 → (Instr.makeSlice 146 (.int .i64 (m : Int)) (.int .i64 (m : Int))).run Try.prog W = .ok (.slice (some ⟨W.heap.size, 0, none⟩) m m) (W.alloc (.cells (madeCells #[.int .i64 0, .int .u64 0, .int .u8 0] (m * 3)) 148)) := by
    intro W m hm
    have hinfo : (Try.prog.info? 148).map (fun i => (i.zero, i.size, i.bytes)) = some (some (.agg #[.int .i64 0, .int .u64 0, .int .u8 0]), 3, 24) := by kernel_rfl
    obtain ⟨i0, hi, hzz⟩ := Option.map_eq_some_iff.1 hinfo
    simp only [Prod.mk.injEq] at hzz
    obtain ⟨hz0, hz1, hz2⟩ := hzz
    have hr := run_make (P := Try.prog) W 146 148 i0 _ Try.underlying146 hi hz0 .i64 .i64 (m : Int) (m : Int) (by omega) (by omega) (by rw [hz2]; omega) (by omega)
    rw [Int.toNat_natCast, hz1] at hr
    exact hr
  go_enter Try.func99, Try.ntmps99
  go_upto_region 1 with (first | ((with_reducible refine gate_dst (N := 4) rfl ?_); refine box_event ?hg (N := 4) ?hd (cs := #[.int .i64 0, .int .i64 0, .int .i64 0, .string (⟨#[]⟩ : ByteArray)]) (t := 46) ?hr ?_; (case hd => rfl); (case hg => rfl); (case hr => first | (go_simp; done) | (go_simp; rfl)); intro b4 hg w1 hbox hb; have B1 := Aside0.mk hb; have E4 := Aside0.mk hbox; have G4 := Aside0.mk (show w.heap.size ≤ b4 by rw [hg]; exact Nat.le_refl _); clear hbox hb hg))
  obtain ⟨a, A1_, h⟩ := Option.bind_eq_some_iff.mp HH.out
  have A1 := Aside0.mk A1_
  replace HH := Aside0.mk h
  clear A1_ h
  cases a with
  | false =>
    have hh := Option.some.inj ((if_neg (show ¬ false = true by decide)).symm.trans HH.out)
    simp only [Prod.mk.injEq] at hh
    obtain ⟨rfl, rfl, rfl, rfl, rfl⟩ := hh
    clear HH
    have hz0 := (blk_cell E4.out 0).trans (show _ = some (.int .i64 0) from rfl)
    have hz1 := (blk_cell E4.out 1).trans (show _ = some (.int .i64 0) from rfl)
    have hz2 := (blk_cell E4.out 2).trans (show _ = some (.int .i64 0) from rfl)
    have hz3 := (blk_cell E4.out 3).trans (show _ = some (.string (⟨#[]⟩ : ByteArray)) from rfl)
    have hf0 := blk_frozen E4.out 0
    have hf1 := blk_frozen E4.out 1
    have hf2 := blk_frozen E4.out 2
    have hf3 := blk_frozen E4.out 3
    go_wp2_with fail
    (with_reducible refine (impl_UsersOk.calls k A0 c0 l0 false w1 (Kd.C_below HR0.out B1.out) HC0.out A1.out).mono ?_)
    rintro e w2 ⟨rfl, nd, rfl⟩
    go_wp2
    exact bodyPost_ret (results_ct rfl _ _ b4 46 #[.int .i64 0, .int .i64 0, .int .i64 0, .string (⟨#[]⟩ : ByteArray)] (0, 0) _ rfl (rib_put4 (blk_drewN E4.out _)) huF rfl (by kernel_rfl)) rfl ⟨rfl, rib_bel4 (pw_below_drewN B1.out _) G4.out⟩
  | true =>
  replace HH := Aside0.mk ((if_pos (show true = true from rfl)).symm.trans HH.out)
  obtain ⟨b, A2_, h⟩ := Option.bind_eq_some_iff.mp HH.out
  have A2 := Aside0.mk A2_
  replace HH := Aside0.mk h
  clear A2_ h
  cases b with
  | false =>
    have hh := Option.some.inj ((if_neg (show ¬ false = true by decide)).symm.trans HH.out)
    simp only [Prod.mk.injEq] at hh
    obtain ⟨rfl, rfl, rfl, rfl, rfl⟩ := hh
    clear HH
    have hz0 := (blk_cell E4.out 0).trans (show _ = some (.int .i64 0) from rfl)
    have hz1 := (blk_cell E4.out 1).trans (show _ = some (.int .i64 0) from rfl)
    have hz2 := (blk_cell E4.out 2).trans (show _ = some (.int .i64 0) from rfl)
    have hz3 := (blk_cell E4.out 3).trans (show _ = some (.string (⟨#[]⟩ : ByteArray)) from rfl)
    have hf0 := blk_frozen E4.out 0
    have hf1 := blk_frozen E4.out 1
    have hf2 := blk_frozen E4.out 2
    have hf3 := blk_frozen E4.out 3
    go_wp2_with fail
    (with_reducible refine (impl_UsersOk.calls k A0 c0 l0 true w1 (Kd.C_below HR0.out B1.out) HC0.out A1.out).mono ?_)
    rintro e w2 ⟨rfl, nd, rfl⟩
    go_wp2_with fail
    (with_reducible refine (impl_within.calls a1 0 3 false _ A2.out).mono ?_)
    rintro e w3 ⟨rfl, nd3, rfl⟩
    go_wp2
    exact bodyPost_ret (results_ct rfl _ _ b4 46 #[.int .i64 0, .int .i64 0, .int .i64 0, .string (⟨#[]⟩ : ByteArray)] (0, 0) _ rfl (rib_put4 (blk_drewN E4.out _)) huF rfl (by kernel_rfl)) rfl ⟨rfl, rib_bel4 (pw_below_drewN B1.out _) G4.out⟩
  | true =>
  replace HH := Aside0.mk ((if_pos (show true = true from rfl)).symm.trans HH.out)
  have h := HH.out
  clear HH
  split at h
  case isFalse => cases h
  rename_i hus
  replace h := Aside0.mk h
  obtain ⟨es, A3_, h⟩ := Option.bind_eq_some_iff.mp h.out
  obtain ⟨t, A4_, h⟩ := Option.bind_eq_some_iff.mp h
  have HE := Aside0.mk (ribEqs_at A3_)
  have HT := Aside0.mk A4_
  have HX := Aside0.mk (Option.some.inj h)
  clear A3_ A4_ h
  obtain ⟨n, hn⟩ : ∃ n : Nat, n = Pure.ribN l0 := ⟨_, rfl⟩
  rw [← hn] at HE HT HX
  have n0 : 20 ≤ n := by rw [hn]; unfold Pure.ribN; omega
  have n1 : n ≤ 520 := by rw [hn]; unfold Pure.ribN; omega
  have en : (l0.length : Int) + (l0.length : Int) / 4 + 20 = (n : Int) := by
    rw [hn]
    unfold Pure.ribN
    omega
  have mk' := fun W => mk W n (by omega)
  clear mk hn
  go_wp2_with fail
  (with_reducible refine (impl_UsersOk.calls k A0 c0 l0 true w1 (Kd.C_below HR0.out B1.out) HC0.out A1.out).mono ?_)
  rintro e w2 ⟨rfl, nd, rfl⟩
  go_wp2_with fail
  (with_reducible refine (impl_within.calls a1 0 3 true _ A2.out).mono ?_)
  rintro e w3 ⟨rfl, nd3, rfl⟩
  have B3 := Aside0.mk (pw_below_drewN (pw_below_drewN B1.out nd) nd3)
  have E3 := Aside0.mk (blk_drewN (blk_drewN E4.out nd) nd3)
  clear B1 E4 A1 A2
  generalize ((w1.drewN nd).drewN nd3) = w3 at B3 E3 ⊢
  go_upto_region 5 with fail
  have R4 := Aside0.mk (RowQ.new w3 n)
  have B4 := Aside0.mk (below_alloc B3.out (.cells (madeCells #[.int .i64 0, .int .u64 0, .int .u8 0] (n * 3)) 148))
  have E4 := Aside0.mk (blk_alloc E3.out (.cells (madeCells #[.int .i64 0, .int .u64 0, .int .u8 0] (n * 3)) 148))
  have GG := Aside0.mk (below_size B3.out)
  have N4 := Aside0.mk (show b4 ≠ w3.heap.size from Nat.ne_of_lt (blk_lt E3.out))
  clear B3 E3 mk' en
  generalize w3.alloc (.cells (madeCells #[.int .i64 0, .int .u64 0, .int .u8 0] (n * 3)) 148) = w4 at R4 B4 E4 ⊢
  generalize w3.heap.size = g at R4 GG N4 ⊢
  go_upto_region 6 with fail
  go_loopg [35] l0.length (fun kq v35 w' => ∃ (i : Nat) (rows sums : List Nat), v35 = .int .i64 i ∧ Aside0 (i + kq = l0.length) ∧ Aside0 (Pure.elimL (2 * n + 2) (es.drop i) rows sums = some t) ∧ Aside0 (Pure.InvK n rows sums) ∧ Aside0 (RowQ w' g n rows sums) ∧ Aside0 (w'.heap[b4]? = some (.cells #[.int .i64 0, .int .i64 0, .int .i64 0, .string (⟨#[]⟩ : ByteArray)] 46 (0, 0))) ∧ Aside0 (Below w.heap.size w w'))
  case atStart => exact ⟨0, _, _, rfl, ⟨Nat.zero_add _⟩, ⟨HT.out⟩, ⟨Pure.InvK.zeros n⟩, R4, E4, B4⟩
  case round =>
    clear R4 E4 B4 HT
    obtain ⟨i, rows, sums, rfl, hk, HT, HI, R4, E4, B4⟩ := hrel
    rename World => wr
    by_cases c : i < l0.length
    · obtain ⟨p, r, s, b, R, S, A5, hst, hI2, hT2, hF2⟩ := Pure.us_step HE.out (by omega) c HI.out HT.out
      have ST := Aside0.mk hst
      have HI2 := Aside0.mk hI2
      have HT2 := Aside0.mk hT2
      have HF2 := Aside0.mk hF2
      rw [← Pure.rdOf_get c] at A5
      have A5 := Aside0.mk A5
      clear hst hI2 hT2 hF2
      have cb : decide ((i : Int) < (l0.length : Int)) = true := decide_eq_true (by omega)
      have cb2 : decide (i < l0.length) = true := decide_eq_true c
      have ci : (i : Int) < (l0.length : Int) := by omega
      have ci0 : (0 : Int) ≤ (i : Int) := by omega
      obtain ⟨ad, ead, hx0⟩ := Kd.at_string (Kd.C_below HR0.out B4.out) (i : Int) ci0 ci
      cases ead
      rw [Int.toNat_natCast] at hx0
      go_wp2_with fail
      (with_reducible refine (impl_equationOf.calls k (rdOf ByteArray.empty l0 (i : Int)) a1 (n : Int) p r s _ A5.out).mono ?_)
      rintro e w5 ⟨rfl, hb⟩
      have n_ := Aside0.mk (below_step B4.out hb)
      have m_ := Aside0.mk (blk_below E4.out hb)
      have R5 := Aside0.mk (R4.out.below hb)
      clear B4 E4 R4 hb A5 hx0
      have B4 := n_
      have E4 := m_
      clear n_ m_
      go_upto_region 9 with (first | ((with_reducible refine gate_dst (N := 10) rfl ?_); refine box_event ?hg (N := 10) ?hd (cs := #[.int .i64 0, .int .u64 0, .int .u8 0]) (t := 148) ?hr ?_; (case hd => rfl); (case hg => rfl); (case hr => first | (go_simp; done) | (go_simp; rfl)); intro b10 hg w6 hbox hb; have B6 := Aside0.mk hb; have E10 := Aside0.mk hbox; have G10 := Aside0.mk hg; have hy0 := (blk_cell hbox 0).trans (show _ = some (.int .i64 0) from rfl); have hy1 := (blk_cell hbox 1).trans (show _ = some (.int .u64 0) from rfl); have hy2 := (blk_cell hbox 2).trans (show _ = some (.int .u8 0) from rfl); have hf0 := blk_frozen hbox 0; have hf1 := blk_frozen hbox 1; have hf2 := blk_frozen hbox 2; clear hbox hb hg))
      have L7 := Aside0.mk (RibL.new R5.out E4.out B4.out B6.out E10.out G10.out N4.out GG.out p r s)
      clear E4 B4 R5 B6 E10 G10 hy0 hy1 hy2 hf0 hf1 hf2
      generalize (((w6.setCell ⟨b10, 0, none⟩ (.int .i64 (p : Int))).setCell ⟨b10, 1, none⟩ (.int .u64 (r : Int))).setCell ⟨b10, 2, none⟩ (.int .u8 (s : Int))) = w7 at L7 ⊢
      go_loopg [] (2 * n + 2) (fun kq w' => ∃ (f p r s : Nat), Aside0 (f ≤ kq) ∧ Aside0 (Pure.RedSt n f rows sums p r s (b, R, S)) ∧ Aside0 (RibL w w' b4 b10 g n rows sums p r s))
      case atStart => exact ⟨2 * n + 2, p, r, s, ⟨Nat.le_refl _⟩, ST, L7⟩
      case round =>
        clear ST L7
        obtain ⟨f, p, r, s, hf, ST, L7⟩ := hrel
        rename World => w8
        have y0 := L7.out.c0
        have y1 := L7.out.c1
        have y2 := L7.out.c2
        by_cases cr : r = 0
        · have hd := ST.out
          subst cr
          have hd := hd.done
          simp only [Prod.mk.injEq] at hd
          obtain ⟨hd1, hd2, hd3⟩ := hd
          subst hd2
          subst hd3
          by_cases cs : s = 0
          · subst cs
            have HT3 := Aside0.mk (HT2.out hd1)
            have hil : i + 1 ≤ l0.length := c
            clear HT2 HF2
            go_wp2
            go_roundg (l0.length - (i + 1))
            case measure => have := hk.out; omega
            case rel => exact ⟨i + 1, _, _, rfl, ⟨by omega⟩, HT3, HI2, ⟨L7.out.R⟩, ⟨L7.out.E4⟩, ⟨L7.out.B⟩⟩
          · have hbad := Aside0.mk (HF2.out (hd1.trans (decide_eq_false cs)))
            have csb : ((s : Int) != 0) = true := by simp; omega
            have csb2 : ((s : Int) == 0) = false := by simp; omega
            have hxx := HX.out
            rw [hbad.out] at hxx
            simp only [Prod.mk.injEq] at hxx
            obtain ⟨rfl, rfl, rfl, rfl, rfl⟩ := hxx
            have E4 := Aside0.mk L7.out.E4
            have hz0 := (blk_cell E4.out 0).trans (show _ = some (.int .i64 0) from rfl)
            have hz1 := (blk_cell E4.out 1).trans (show _ = some (.int .i64 0) from rfl)
            have hz2 := (blk_cell E4.out 2).trans (show _ = some (.int .i64 0) from rfl)
            have hz3 := (blk_cell E4.out 3).trans (show _ = some (.string (⟨#[]⟩ : ByteArray)) from rfl)
            have hf0 := blk_frozen E4.out 0
            have hf1 := blk_frozen E4.out 1
            have hf2 := blk_frozen E4.out 2
            have hf3 := blk_frozen E4.out 3
            clear HT2 HF2 hd1 hbad
            go_wp2
            exact bodyPost_ret (results_ct rfl _ _ b4 46 #[.int .i64 0, .int .i64 0, .int .i64 0, .string (⟨#[]⟩ : ByteArray)] (0, 0) _ rfl (rib_put4 E4.out) huF rfl (by kernel_rfl)) rfl ⟨rfl, rib_bel4 L7.out.B G4.out⟩
        · have crb : ((r : Int) != 0) = true := by simp; omega
          have crb2 : decide ((r : Int) = 0) = false := decide_eq_false (by omega)
          have crb3 : ((r : Int) == 0) = false := by simp; omega
          go_upto_region 10 with fail
          clear y0 y1 y2
          go_loopg [] gk (fun kq w' => ∃ (f p r : Nat), Aside0 (f ≤ kq) ∧ Aside0 (f ≤ gk) ∧ ¬ r = 0 ∧ Aside0 (Pure.RedSt n f rows sums p r s (b, R, S)) ∧ Aside0 (RibL w w' b4 b10 g n rows sums p r s))
          case atStart => exact ⟨f, p, r, hf, hf, cr, ST, L7⟩
          case round =>
            clear ST L7 cr crb crb2 crb3
            obtain ⟨f, p, r, hf4, hf, cr, ST, L7⟩ := hrel
            rename World => w9
            have y0 := L7.out.c0
            have y1 := L7.out.c1
            have y2 := L7.out.c2
            have yf0 := L7.out.fr 0
            have yf1 := L7.out.fr 1
            have yf2 := L7.out.fr 2
            have hr16 := ST.out.h16
            have hpn := ST.out.lt cr
            obtain ⟨f, rfl⟩ := ST.out.pos
            have ea := Pure.and1N r (by omega)
            by_cases ce : r % 2 = 0
            · rw [ce] at ea
              go_wp2
              go_roundg f
              case measure => have := hf4.out; omega
              case rel => exact ⟨f, p + 1, r / 2, ⟨Nat.le_refl _⟩, ⟨by have := hf.out; omega⟩, by omega, ⟨ST.out.even cr ce⟩, ⟨(L7.out.setR (r / 2)).setP (p + 1)⟩⟩
            · have e1 : r % 2 = 1 := by omega
              rw [e1] at ea
              have hlt : (p : Int) < (n : Int) := by omega
              have hltb : decide ((p : Int) < (n : Int)) = true := decide_eq_true hlt
              have hp0 : (0 : Int) ≤ (p : Int) := by omega
              obtain ⟨pl, q0, q1, q2⟩ := L7.out.R.cells p hpn
              have qf0 := L7.out.R.frozen (p * 3)
              have qf1 := L7.out.R.frozen (p * 3 + 1)
              have qf2 := L7.out.R.frozen (p * 3 + 2)
              have hv16 := HI.out.r16 p
              have HV7 := Aside0.mk (HI.out.h7 p)
              by_cases cv : rows.getD p 0 = 0
              · have ht := Aside0.mk (ST.out.hit HI.out cr ce cv)
                rw [cv] at q1
                have L9 := Aside0.mk (L7.out.keep HI.out hpn)
                have hrb : ((r : Int) == 0) = false := by simp; omega
                have hrb2 : ((r : Int) != 0) = true := by simp; omega
                go_upto_region 18 with fail
                clear q0 q1 q2 qf0 qf1 qf2 y0 y1 y2 yf0 yf1 yf2 L7
                generalize (((w9.setCell ⟨g, p * 3, none⟩ (.int .i64 (p : Int))).setCell ⟨g, p * 3 + 1, none⟩ (.int .u64 (r : Int))).setCell ⟨g, p * 3 + 2, none⟩ (.int .u8 (s : Int))) = w10 at L9 ⊢
                have y1 := L9.out.c1
                have htt := ht.out
                simp only [Prod.mk.injEq] at htt
                obtain ⟨rfl, rfl, rfl⟩ := htt
                have hil : i + 1 ≤ l0.length := c
                have HT3 := Aside0.mk (HT2.out rfl)
                clear HT2 HF2
                go_wp2
                go_roundg (l0.length - (i + 1))
                case measure => have := hk.out; omega
                case rel => exact ⟨i + 1, _, _, rfl, ⟨by omega⟩, HT3, HI2, ⟨L9.out.R⟩, ⟨L9.out.E4⟩, ⟨L9.out.B⟩⟩
              · have ST2 := Aside0.mk (ST.out.miss HI.out cr ce cv)
                obtain ⟨v, hv⟩ : ∃ v, rows.getD p 0 = v := ⟨_, rfl⟩
                obtain ⟨x, hx⟩ : ∃ x, sums.getD p 0 = x := ⟨_, rfl⟩
                rw [hv] at q1 cv hv16
                rw [hx] at q2
                replace HV7 := Aside0.mk (show x < 128 by rw [← hx]; exact HV7.out)
                replace ST2 := Aside0.mk (show Pure.RedSt n f rows sums p (r ^^^ v) (s ^^^ x) (b, R, S) by rw [← hv, ← hx]; exact ST2.out)
                replace hv := Aside0.mk hv
                replace hx := Aside0.mk hx
                have ex := Pure.xorN r v (by omega) (by omega)
                have hs7 := Aside0.mk (Pure.xor8N s x ST.out.hs HV7.out)
                have cvb : ((v : Int) == 0) = false := by simp; omega
                have cvb2 : ((v : Int) != 0) = true := by simp; omega
                go_upto_region 16 with fail
                go_region
                have L10 := Aside0.mk (L7.out.setR (r ^^^ v)).drew1
                clear q0 q1 q2 qf0 qf1 qf2 y0 y1 y2 yf0 yf1 yf2 L7
                generalize (w9.setCell ⟨b10, 1, none⟩ (.int .u64 ((r ^^^ v : Nat) : Int))).drew = w10 at L10 ⊢
                have y1 := L10.out.c1
                have y2 := L10.out.c2
                have yf2 := L10.out.fr 2
                obtain ⟨pl, q0, q1, q2⟩ := L10.out.R.cells p hpn
                have hs8 := hs7.out
                rw [hv.out] at q1
                rw [hx.out] at q2
                go_upto_region 17 with fail
                go_region
                have L11 := Aside0.mk (L10.out.setS (s ^^^ x)).drew1
                clear q0 q1 q2 y1 y2 yf2 L10
                generalize (w10.setCell ⟨b10, 2, none⟩ (.int .u8 ((s ^^^ x : Nat) : Int))).drew = w11 at L11 ⊢
                go_wp2
                go_roundg f
                case measure => have := hf.out; omega
                case rel => exact ⟨f, p, r ^^^ v, s ^^^ x, ⟨Nat.le_refl _⟩, ST2, L11⟩
    · obtain rfl : i = l0.length := by have := hk.out; omega
      have hxx := HX.out
      rw [Pure.us_end HE.out.1 HT.out] at hxx
      simp only [Prod.mk.injEq] at hxx
      obtain ⟨rfl, rfl, rfl, hr4, rfl⟩ := hxx
      have HR4 := Aside0.mk hr4
      clear hr4 HT
      have mk2 := print_make (P := Try.prog) 51 5 .u8 1 Try.underlying51 info5 (by decide) n (by omega)
      go_upto_region 22 with fail
      have X5 := Aside0.mk (RowX.new wr n)
      have R5 := Aside0.mk (R4.out.block (W1 := wr.alloc (.cells (madeCells #[.int .u8 0] n) 5)) (by rw [blk_alloc (show wr.heap[g]? = some _ from R4.out.choose_spec.1) _]; exact R4.out.choose_spec.1.symm))
      have E5 := Aside0.mk (blk_alloc E4.out (.cells (madeCells #[.int .u8 0] n) 5))
      have B5 := Aside0.mk (below_alloc B4.out (.cells (madeCells #[.int .u8 0] n) 5))
      have GH := Aside0.mk (below_size B4.out)
      clear R4 E4 B4 mk2
      generalize wr.alloc (.cells (madeCells #[.int .u8 0] n) 5) = w5 at X5 R5 E5 B5 ⊢
      generalize wr.heap.size = h at X5 GH ⊢
      go_upto_region 23 with fail
      go_loopg [13] (n + 1) (fun kq v13 w' => ∃ (z : Int) (m : Nat) (bits : List Nat), v13 = .int .i64 z ∧ Aside0 (z = (m : Int) - 1) ∧ Aside0 (m + 1 ≤ kq) ∧ Aside0 (Pure.BackSt n rows sums m bits (Pure.back rows sums n (Pure.zerosN n))) ∧ Aside0 (RowX w' h bits) ∧ Aside0 (RowQ w' g n rows sums) ∧ Aside0 (w'.heap[b4]? = some (.cells #[.int .i64 0, .int .i64 0, .int .i64 0, .string (⟨#[]⟩ : ByteArray)] 46 (0, 0))) ∧ Aside0 (Below w.heap.size w w'))
      case atStart => exact ⟨_, n, _, rfl, ⟨rfl⟩, ⟨Nat.le_refl _⟩, ⟨Pure.BackSt.start n (by omega) rows sums⟩, X5, R5, E5, B5⟩
      case round =>
        clear X5 R5 E5 B5
        obtain ⟨z, m, bits, rfl, hz, hm, BS, X5, R5, E5, B5⟩ := hrel
        rename World => w6
        cases m with
        | zero =>
          obtain rfl : z = -1 := by have := hz.out; omega
          have hbk : Pure.back rows sums n (Pure.zerosN n) = bits := BS.out.h.symm
          have hr4 := HR4.out
          rw [hbk] at hr4
          have qs := X5.out.str n
          rw [BS.out.hl, hr4] at qs
          have hz0 := (blk_cell E5.out 0).trans (show _ = some (.int .i64 0) from rfl)
          have hz1 := (blk_cell E5.out 1).trans (show _ = some (.int .i64 0) from rfl)
          have hz2 := (blk_cell E5.out 2).trans (show _ = some (.int .i64 0) from rfl)
          have hz3 := (blk_cell E5.out 3).trans (show _ = some (.string (⟨#[]⟩ : ByteArray)) from rfl)
          have hf0 := blk_frozen E5.out 0
          have hf1 := blk_frozen E5.out 1
          have hf2 := blk_frozen E5.out 2
          have hf3 := blk_frozen E5.out 3
          clear hbk hr4
          go_wp2
          exact bodyPost_ret (results_ct rfl _ _ b4 46 #[.int .i64 2, .int .i64 a1, .int .i64 0, .string r4] (0, 0) _ rfl (rib_put4 E5.out) huF rfl (by kernel_rfl)) rfl ⟨rfl, rib_bel4 B5.out G4.out⟩
        | succ m =>
          obtain rfl : z = (m : Int) := by have := hz.out; omega
          have hmn : m < n := BS.out.hm
          have hmb : decide ((0 : Int) ≤ (m : Int)) = true := decide_eq_true (by omega)
          have hmb2 : decide ((m : Int) ≥ (0 : Int)) = true := decide_eq_true (by omega)
          have hmi : (m : Int) < (n : Int) := by omega
          have hmi0 : (0 : Int) ≤ (m : Int) := by omega
          obtain ⟨pl, q0, q1, q2⟩ := R5.out.cells m hmn
          obtain ⟨v, hv⟩ : ∃ v, rows.getD m 0 = v := ⟨_, rfl⟩
          obtain ⟨x, hx⟩ : ∃ x, sums.getD m 0 = x := ⟨_, rfl⟩
          rw [hv] at q1
          rw [hx] at q2
          have HV := Aside0.mk hv
          have HXX := Aside0.mk hx
          clear hv hx
          go_upto_region 26 with (first | ((with_reducible refine gate_dst (N := 14) rfl ?_); refine box_event ?hg (N := 14) ?hd (cs := #[.int .i64 0, .int .u64 0, .int .u8 0]) (t := 148) ?hr ?_; (case hd => rfl); (case hg => rfl); (case hr => first | (go_simp; done) | (go_simp; rfl)); intro b14 hg w7 hbox hb; have B7 := Aside0.mk hb; have E14 := Aside0.mk hbox; have G14 := Aside0.mk hg; have hy0 := (blk_cell hbox 0).trans (show _ = some (.int .i64 0) from rfl); have hy1 := (blk_cell hbox 1).trans (show _ = some (.int .u64 0) from rfl); have hy2 := (blk_cell hbox 2).trans (show _ = some (.int .u8 0) from rfl); have hf0 := blk_frozen hbox 0; have hf1 := blk_frozen hbox 1; have hf2 := blk_frozen hbox 2; clear hbox hb hg))
          have hb14 : w.heap.size ≤ b14 := by rw [G14.out]; exact below_size B5.out
          have hh14 : h ≠ b14 := by rw [G14.out]; exact Nat.ne_of_lt (blk_lt X5.out)
          have hg14 : g ≠ b14 := by rw [G14.out]; exact Nat.ne_of_lt R5.out.lt
          have h414 : b4 ≠ b14 := by rw [G14.out]; exact Nat.ne_of_lt (blk_lt E5.out)
          have X8 : Aside0 (RowX (((w7.setCell ⟨b14, 0, none⟩ (.int .i64 pl)).setCell ⟨b14, 1, none⟩ (.int .u64 (v : Int))).setCell ⟨b14, 2, none⟩ (.int .u8 (x : Int))) h bits) := ⟨blk_far (blk_far (blk_far (blk_below X5.out B7.out) hh14 _) hh14 _) hh14 _⟩
          have R8 := Aside0.mk ((((R5.out.below B7.out).far hg14 0 (.int .i64 pl)).far hg14 1 (.int .u64 (v : Int))).far hg14 2 (.int .u8 (x : Int)))
          have E8 : Aside0 ((((w7.setCell ⟨b14, 0, none⟩ (.int .i64 pl)).setCell ⟨b14, 1, none⟩ (.int .u64 (v : Int))).setCell ⟨b14, 2, none⟩ (.int .u8 (x : Int))).heap[b4]? = some (.cells #[.int .i64 0, .int .i64 0, .int .i64 0, .string (⟨#[]⟩ : ByteArray)] 46 (0, 0))) := ⟨blk_far (blk_far (blk_far (blk_below E5.out B7.out) h414 _) h414 _) h414 _⟩
          have F8 := Aside0.mk (blk_put (blk_put (blk_put E14.out 0 (.int .i64 pl) rfl) 1 (.int .u64 (v : Int)) rfl) 2 (.int .u8 (x : Int)) rfl)
          have B8 := Aside0.mk (below_set (j := 2) (v := .int .u8 (x : Int)) (below_set (j := 1) (v := .int .u64 (v : Int)) (below_set (j := 0) (v := .int .i64 pl) (below_step B5.out B7.out) hb14) hb14) hb14)
          clear X5 R5 E5 B5 B7 E14 G14 hy0 hy1 hy2 hf0 hf1 hf2 hb14 hh14 hg14 h414 q0 q1 q2
          generalize (((w7.setCell ⟨b14, 0, none⟩ (.int .i64 pl)).setCell ⟨b14, 1, none⟩ (.int .u64 (v : Int))).setCell ⟨b14, 2, none⟩ (.int .u8 (x : Int))) = w8 at X8 R8 E8 F8 B8 ⊢
          have y1 := (blk_cell F8.out 1).trans (show _ = some (.int .u64 (v : Int)) from rfl)
          have y2 := (blk_cell F8.out 2).trans (show _ = some (.int .u8 (x : Int)) from rfl)
          by_cases cv : v = 0
          · have BS2 := Aside0.mk (BS.out.skip (HV.out.trans cv))
            have cvb : ((v : Int) != 0) = false := by simp; omega
            have cvb2 : ((v : Int) == 0) = true := by simp; omega
            go_wp2
            go_roundg (m + 1)
            case measure => have := hm.out; omega
            case rel => exact ⟨_, m, bits, rfl, ⟨rfl⟩, ⟨Nat.le_refl _⟩, BS2, X8, R8, E8, B8⟩
          · obtain ⟨y, ks, hsol, hy, hbs⟩ := BS.out.step HI.out (by rw [HV.out]; exact cv)
            rw [HV.out] at hsol
            rw [HXX.out] at hbs
            have HS := Aside0.mk hsol
            have HY := Aside0.mk hy
            have BS2 := Aside0.mk hbs
            clear hsol hy hbs
            have ho : v % 2 = 1 := by rw [← HV.out]; exact ((HI.out.hk.2 m).resolve_left (by rw [HV.out]; exact cv)).1
            have hv16 : v < 65536 := by rw [← HV.out]; exact HI.out.r16 m
            have en := Pure.andNot1N v hv16 ho
            have ex := Pure.xor8N x y (by rw [← HXX.out]; exact HI.out.h7 m) HY.out
            have cvb : ((v : Int) != 0) = true := by simp; omega
            have cvb2 : ((v : Int) == 0) = false := by simp; omega
            have hbl := BS.out.hl
            have xc := X8.out.cell m (by omega)
            have xf := blk_frozen X8.out m
            have CS : Aside0 (∀ W : World, Below w8.heap.size w8 W → Calls Try.prog 129 #[.slice (some ⟨h, 0, none⟩) n n, .int .i64 (m : Int), .int .u64 ((v - 1 : Nat) : Int)] W fun e w' => e = .returned (.int .u8 (y : Int)) ∧ Drawn0 W w') := ⟨fun W hb => by
              have hq := impl_solve.calls ks (some ⟨h, 0, none⟩) n (Pure.castL bits) (m : Int) ((v - 1 : Nat) : Int) (y : Int) W (RowX.reads (show RowX W h bits from blk_below X8.out hb) (by omega)) (by rw [Pure.castL_len, hbl]; exact Nat.le_refl _) HS.out
              rw [Pure.castL_len, hbl] at hq
              exact hq⟩
            go_upto_region 27 with fail
            go_region_with (first | (go_at_call 129; (with_reducible refine (CS.out _ ?hbw).mono ?_); (case hbw => first | exact Below.refl _ _ | exact below_drew (Below.refl _ _) | exact pw_below_drewN (Below.refl _ _) _); rintro e w9 ⟨rfl, nd, rfl⟩))
            all_goals
              have hgh := X8.out.neQ R8.out
              have h4h := X8.out.ne E8.out (by decide)
              go_wp2
              go_roundg (m + 1)
              case measure => have := hm.out; omega
              case rel => exact ⟨_, m, _, rfl, ⟨rfl⟩, ⟨Nat.le_refl _⟩, BS2, ⟨RowX.put (show RowX (w8.drewN _) h bits from blk_drewN X8.out _) m (x ^^^ y)⟩, ⟨(RowQ.block (W1 := w8.drewN _) R8.out (by first | rfl | simp)).far hgh _ _⟩, ⟨blk_far (blk_drewN E8.out _) h4h _⟩, ⟨below_set (pw_below_drewN B8.out _) GH.out⟩⟩
def impl_probes.l0 : Nat → Int → Int → Int → List Int → Int → Int → Option (List Int)
  | 0, _, _, _, _, _, _ => none
  | k + 1, x2, x7, x8, x9, x20, x21 => if x21 < x20 then (if (IntKind.u64.wrap (8 * (IntKind.u64.wrap (x2)))) = 0 then (none) else (if x9.length < 17592186044416 then (impl_probes.l0 k x2 x7 x8 (x9 ++ [Int.tmod (IntKind.u64.wrap (x7 + (IntKind.u64.wrap (x21 * x8)))) (IntKind.u64.wrap (8 * (IntKind.u64.wrap (x2))))]) x20 (IntKind.u64.wrap (x21 + 1))) else (none))) else (some x9)
def impl_probes.f (k : Nat) (a0 : ByteArray) (a1 : Int) (a2 : Int) : Option (List Int) := (impl_Hash.f k 0 a0).bind fun t101 => (impl_probes.l0 k a2 t101 (Go.bits .or .u64 (t101 / 8589934592) (IntKind.u64.wrap (t101 * 2147483648))) (([] : List Int)) (IntKind.u64.wrap (a1)) 0)
set_option maxHeartbeats 8000000 in
set_option maxRecDepth 100000 in
theorem impl_probes.calls (k : Nat) (a0 : ByteArray) (a1 : Int) (a2 : Int) (r : List Int) (w : World) (h : impl_probes.f k a0 a1 a2 = some r) :
    Calls Try.prog 130 #[.string a0, .int .i64 a1, .int .i64 a2] w fun e w' => ∃ v0_ : Value, e = .returned (v0_) ∧ Kd.R (Kd.int .u64) 96 w' w.heap.size (fun _ => True) v0_ r ∧ Below w.heap.size w w' := by
  have HB := Aside0.mk (Below.refl w.heap.size w)
  have H : ((impl_Hash.f k 0 a0).bind fun t101 => (impl_probes.l0 k a2 t101 (Go.bits .or .u64 (t101 / 8589934592) (IntKind.u64.wrap (t101 * 2147483648))) (([] : List Int)) (IntKind.u64.wrap (a1)) 0)) = some r := h
  clear h
  replace H := Option.bind_eq_some_iff.mp H
  obtain ⟨t101, A40, H⟩ := H
  replace H : (impl_probes.l0 k a2 t101 (Go.bits .or .u64 (t101 / 8589934592) (IntKind.u64.wrap (t101 * 2147483648))) (([] : List Int)) (IntKind.u64.wrap (a1)) 0) = some r := H
  have A4 := Aside0.mk A40
  clear A40
  obtain ⟨y102, hy102⟩ : ∃ y_ : List Int, y_ = (([] : List Int)) := ⟨_, rfl⟩
  replace H : (impl_probes.l0 k a2 t101 (Go.bits .or .u64 (t101 / 8589934592) (IntKind.u64.wrap (t101 * 2147483648))) y102 (IntKind.u64.wrap (a1)) 0) = some r := by first | (rw [hy102]; with_reducible exact H) | (have H2_ := (Option.bind_some _ _).symm.trans H; rw [hy102]; with_reducible exact H2_) | (have H2_ := (Option.bind_some _ _).symm.trans H; with_reducible exact H2_) | with_reducible exact H | (rw [hy102]; exact H) | exact H
  have Ny102 := Aside0.mk hy102
  clear hy102
  have H' := Aside0.mk H
  clear H
  go_enter Try.func130, Try.ntmps130
  go_wp2_with (first | ((with_reducible refine gate_callee (f := 137) rfl ?_); refine goesL_ (some 12) rfl rfl Try.func137 (by kernel_rfl) rfl #[.int .u32 0, .string a0] rfl (by (try simp only [List.map_toArray, List.map_cons, List.map_nil]); first | done | rfl | (simp only [List.length_drop, List.length_take]; rfl) | (rw [IntWalk.u64_in _ (by omega)] <;> rfl)) ?_; (with_reducible refine (impl_Hash.calls k 0 a0 t101 _ A4.out).mono ?_); rintro e w' ⟨rfl, ⟨nd, rfl⟩⟩; refine ⟨_, rfl, ?_⟩) | ((with_reducible refine gate_dst (N := 18) rfl ?_); refine Kd.R_lit (Kd.int .u64) _ 96 ?hg (N := 18) ?hd (xs := ([] : List Int)) (inner := []) (ok := fun _ => True) (okp := fun _ => True) ?hr ?hp (fun _ hk => hk) trivial (Below.refl _ _) (Nat.le_refl _) (by simp) ?_; (case hd => rfl); (case hg => rfl); (case hr => first | (go_simp; done) | (go_simp; rfl)); (case hp => exact (Reps.none _ _)); intro v103 w5 ho6 hb hg_ hnew_; clear hg_ hnew_; (first | rw [← Ny102.out] at ho6 | (simp only [Int.reduceToNat] at ho6; rw [← Ny102.out] at ho6)); have n0_ := Aside0.mk (Kd.R_lower ho6 (below_size (by repeat (first | (with_reducible first | exact HB.out | apply below_alloc | apply pw_below_drewN | apply below_drew1) | exact HB.out)))); have n1_ := Aside0.mk (below_step (by repeat (first | (with_reducible first | exact HB.out | apply below_alloc | apply pw_below_drewN | apply below_drew1) | exact HB.out)) hb); clear HB; have HO104 := n0_; have HB := n1_; clear n0_ n1_; clear hb ho6))
  go_loopg [9, 21] k (fun kq v9 v21 w' => ∃ (x9_1 : List Int) (x21_1 : Int), v21 = .int .u64 x21_1 ∧ Aside0 (impl_probes.l0 kq a2 t101 (Go.bits .or .u64 (t101 / 8589934592) (IntKind.u64.wrap (t101 * 2147483648))) x9_1 (IntKind.u64.wrap (a1)) x21_1 = some r) ∧ Aside0 (kq ≤ k) ∧ Aside0 (Kd.R (Kd.int .u64) 96 w' w.heap.size (fun _ => True) v9 x9_1) ∧ Aside0 (Below w.heap.size w w'))
  case atStart => exact ⟨(y102), (0), (by first | rfl | (simp; done) | (simp [*]; done)), H', ⟨Nat.le_refl _⟩, ⟨by (with_reducible repeat (first | apply Kd.R_alloc | apply Kd.R_drewN | apply Kd.R_drew)); exact HO104.out⟩, ⟨by repeat (first | (with_reducible first | exact HB.out | apply below_alloc | apply pw_below_drewN | apply below_drew1) | exact HB.out)⟩⟩
  case round =>
    clear H'
    try clear c1
    try clear p2
    obtain ⟨x9_1, x21_1, rfl, HA, HK1, HO_9, HB⟩ := hrel
    cases gk with
    | zero => exact absurd HA.out (by simp [impl_probes.l0])
    | succ k1 =>
      have H := HA.out
      clear HA
      simp only [impl_probes.l0] at H
      by_cases c7 : x21_1 < (IntKind.u64.wrap (a1))
      · rw [if_pos c7] at H
        have c7b0 : decide (x21_1 < (IntKind.u64.wrap (a1))) = true := decide_eq_true c7
        clear c7
        by_cases c8 : (IntKind.u64.wrap (8 * (IntKind.u64.wrap (a2)))) = 0
        · rw [if_pos c8] at H
          exact absurd H (by simp)
        · rw [if_neg c8] at H
          have c8b0 : ((IntKind.u64.wrap (8 * (IntKind.u64.wrap (a2)))) == 0) = false := beq_eq_false_iff_ne.mpr c8
          have c8b1 : ((IntKind.u64.wrap (8 * (IntKind.u64.wrap (a2)))) != 0) = true := bne_iff_ne.mpr c8
          by_cases c9 : x9_1.length < 17592186044416
          · rw [if_pos c9] at H
            have LMc9 := Aside0.mk c9
            clear c9
            obtain ⟨y105, hy105⟩ : ∃ y_ : List Int, y_ = (x9_1 ++ [Int.tmod (IntKind.u64.wrap (t101 + (IntKind.u64.wrap (x21_1 * (Go.bits .or .u64 (t101 / 8589934592) (IntKind.u64.wrap (t101 * 2147483648))))))) (IntKind.u64.wrap (8 * (IntKind.u64.wrap (a2))))]) := ⟨_, rfl⟩
            replace H : (impl_probes.l0 k1 a2 t101 (Go.bits .or .u64 (t101 / 8589934592) (IntKind.u64.wrap (t101 * 2147483648))) y105 (IntKind.u64.wrap (a1)) (IntKind.u64.wrap (x21_1 + 1))) = some r := by first | (rw [hy105]; with_reducible exact H) | (have H2_ := (Option.bind_some _ _).symm.trans H; rw [hy105]; with_reducible exact H2_) | (have H2_ := (Option.bind_some _ _).symm.trans H; with_reducible exact H2_) | with_reducible exact H | (rw [hy105]; exact H) | exact H
            have Ny105 := Aside0.mk hy105
            clear hy105
            have H' := Aside0.mk H
            clear H
            go_wp2_with (first | ((with_reducible refine gate_builtin (b := .append) (xs := #[.tmp 24, .tmp 34]) rfl ?_); at_builtin; refine Kd.R_append (Kd.int .u64) (w0 := w) w.heap.size rfl (.tmp 24) (.tmp 34) 132 96 (.int .u64 0) 8 rfl Try.underlying132 info96 rfl (by decide) (by omega) u9 x9_1 (Int.tmod (IntKind.u64.wrap (t101 + (IntKind.u64.wrap (x21_1 * (Go.bits .or .u64 (t101 / 8589934592) (IntKind.u64.wrap (t101 * 2147483648))))))) (IntKind.u64.wrap (8 * (IntKind.u64.wrap (a2))))) [.int .u64 (Int.tmod (IntKind.u64.wrap (t101 + (IntKind.u64.wrap (x21_1 * (Go.bits .or .u64 (t101 / 8589934592) (IntKind.u64.wrap (t101 * 2147483648))))))) (IntKind.u64.wrap (8 * (IntKind.u64.wrap (a2)))))] (fun _ => True) (fun _ => False) rfl rfl ?aP (fun _ hk => hk.elim) ?aF ?aO ?aB ?aS ?aL ?_; (case aP => exact rfl); (case aB => exact (by repeat (first | (with_reducible first | exact HB.out | apply below_alloc | apply pw_below_drewN | apply below_drew1) | exact HB.out))); (case aF => exact (fun _ _ => trivial)); (case aO => exact (by (with_reducible repeat (first | apply Kd.R_alloc | apply Kd.R_drewN | apply Kd.R_drew)); exact HO_9.out)); (case aS => exact (below_size (by repeat (first | (with_reducible first | exact HB.out | apply below_alloc | apply pw_below_drewN | apply below_drew1) | exact HB.out)))); (case aL => have := LMc9.out; omega); intro v106 w10 ho hb hg hat; rw [← Ny105.out] at ho; have n0_ := Aside0.mk (hb); have n1_ := Aside0.mk (ho); clear HB; clear HO_9; have HB := n0_; have HO107 := n1_; clear n0_ n1_; clear ho hb hg hat))
            go_roundg k1
            case measure => have := HK1.out; omega
            case rel => exact ⟨(y105), (IntKind.u64.wrap (x21_1 + 1)), (by first | rfl | (simp; done) | (simp [*]; done)), H', ⟨by have := HK1.out; omega⟩, ⟨by (with_reducible repeat (first | apply Kd.R_alloc | apply Kd.R_drewN | apply Kd.R_drew)); exact HO107.out⟩, ⟨by repeat (first | (with_reducible first | exact HB.out | apply below_alloc | apply pw_below_drewN | apply below_drew1) | exact HB.out)⟩⟩
          · rw [if_neg c9] at H
            exact absurd H (by simp)
      · rw [if_neg c7] at H
        have c7b0 : decide (x21_1 < (IntKind.u64.wrap (a1))) = false := decide_eq_false c7
        clear c7
        obtain rfl := Option.some.inj H
        go_wp2
        go_ret
        exact ⟨_, by first | rfl | (simp [errW_none, errW_some] <;> rfl) | (simp [*, errW_none, errW_some] <;> rfl), by (with_reducible repeat (first | apply Kd.R_alloc | apply Kd.R_drewN | apply Kd.R_drew)); exact HO_9.out, by repeat (first | (with_reducible first | exact HB.out | apply below_alloc | apply pw_below_drewN | apply below_drew1) | exact HB.out)⟩
mutual
def impl_BloomOf.j0 : Nat → List ByteArray → Int → Bool → Option (Int × Int × Int × ByteArray × Bool)
  | 0, _, _, _ => none
  | k + 1, x0, x1, x19 => if x19 = true then (some (0, 0, 0, (⟨#[]⟩ : ByteArray), false)) else (if 0 ≤ (wrap64 (Int.tdiv (wrap64 ((mx 64 (wrap64 (x1 * (x0.length : Int)))) + 7)) 8)) then (if (wrap64 (Int.tdiv (wrap64 ((mx 64 (wrap64 (x1 * (x0.length : Int)))) + 7)) 8) : Int).toNat ≤ 281474976710656 then (impl_BloomOf.l0 k (List.replicate (wrap64 (Int.tdiv (wrap64 ((mx 64 (wrap64 (x1 * (x0.length : Int)))) + 7)) 8) : Int).toNat 0) x0 (x0.length : Int) 0 1 0 (mn (mx (wrap64 (Int.tdiv (wrap64 (69 * x1)) 100)) 1) 30) (⟨#[]⟩ : ByteArray)) else (none)) else (none))
def impl_BloomOf.l0 : Nat → List Int → List ByteArray → Int → Int → Int → Int → Int → ByteArray → Option (Int × Int × Int × ByteArray × Bool)
  | 0, _, _, _, _, _, _, _, _ => none
  | k + 1, x6, x35, x36, x37, x108000, x108001, x108002, x108003 => if x37 < x36 then (if 0 ≤ x37 then (if x37 < (x35.length : Int) then ((impl_probes.f k (rdOf ByteArray.empty x35 x37) x108002 (x6.length : Int)).bind fun t109 => (impl_BloomOf.l1 k x6 x35 x36 x37 t109 (t109.length : Int) 0 x108000 x108001 x108002 x108003)) else (none)) else (none)) else (some (x108000, x108001, x108002, strOfNums x6, true))
def impl_BloomOf.l1 : Nat → List Int → List ByteArray → Int → Int → List Int → Int → Int → Int → Int → Int → ByteArray → Option (Int × Int × Int × ByteArray × Bool)
  | 0, _, _, _, _, _, _, _, _, _, _, _ => none
  | k + 1, x6, x35, x36, x37, x46, x47, x48, x108000, x108001, x108002, x108003 => if x48 < x47 then (if 0 ≤ x48 then (if x48 < (x46.length : Int) then (if 0 ≤ (IntKind.u64.wrap (Int.tdiv (rd x46 x48) 8)) then (if (IntKind.u64.wrap (Int.tdiv (rd x46 x48) 8)) < (x6.length : Int) then (if 0 ≤ (Int.tmod (rd x46 x48) 8) then (impl_BloomOf.l1 k (x6.set ((IntKind.u64.wrap (Int.tdiv (rd x46 x48) 8)) : Int).toNat (Go.bits .or .u8 (rd x6 (IntKind.u64.wrap (Int.tdiv (rd x46 x48) 8))) (shl .u8 1 (Int.tmod (rd x46 x48) 8)))) x35 x36 x37 x46 x47 (wrap64 (x48 + 1)) x108000 x108001 x108002 x108003) else (none)) else (none)) else (none)) else (none)) else (none)) else (impl_BloomOf.l0 k x6 x35 x36 (wrap64 (x37 + 1)) x108000 x108001 x108002 x108003)
end
def impl_BloomOf.f (k : Nat) (l0 : List ByteArray) (a1 : Int) : Option (Int × Int × Int × ByteArray × Bool) := (impl_UsersOk.f k l0).bind fun t102 => (if t102 = true then ((impl_within.f a1 1 20).bind fun t103 => (impl_BloomOf.j0 k l0 a1 (!t103))) else (impl_BloomOf.j0 k l0 a1 true))
set_option maxHeartbeats 8000000 in
set_option maxRecDepth 100000 in
theorem impl_BloomOf.calls (k : Nat) (A0 : Option Addr) (c0 : Nat) (l0 : List ByteArray) (a1 : Int) (r1 : Int) (r2 : Int) (r3 : Int) (r4 : ByteArray) (r5 : Bool) (w : World) (hr0 : Kd.C Kd.string w A0 l0.length l0) (hc0 : l0.length ≤ c0) (h : impl_BloomOf.f k l0 a1 = some (r1, r2, r3, r4, r5)) :
    Calls Try.prog 100 #[.slice A0 l0.length c0, .int .i64 a1] w fun e w' => e = .returned (.tuple #[.agg #[.int .i64 r1, .int .i64 r2, .int .i64 r3, .string r4], .bool r5]) ∧ Below w.heap.size w w' := by
  have hu46 := Try.underlying46
  have HR0 := Aside0.mk hr0
  have HC0 := Aside0.mk hc0
  clear hr0 hc0
  have HB := Aside0.mk (Below.refl w.heap.size w)
  have H : ((impl_UsersOk.f k l0).bind fun t102 => (if t102 = true then ((impl_within.f a1 1 20).bind fun t103 => (impl_BloomOf.j0 k l0 a1 (!t103))) else (impl_BloomOf.j0 k l0 a1 true))) = some (r1, r2, r3, r4, r5) := h
  clear h
  have HC3 := Aside0.mk H
  clear H
  go_enter Try.func100, Try.ntmps100
  go_upto_region 1 with (first | ((with_reducible refine gate_dst (N := 4) rfl ?_); refine box_event ?hg (N := 4) ?hd (cs := #[.int .i64 0, .int .i64 0, .int .i64 0, .string (⟨#[]⟩ : ByteArray)]) (t := 46) ?hr ?_; (case hd => rfl); (case hg => rfl); (case hr => first | (go_simp; done) | (go_simp; rfl)); intro gb101 hg w4 hbox hb; have n0_ := Aside0.mk (below_step (by repeat (first | (with_reducible first | exact HB.out | apply below_alloc | apply pw_below_drewN | apply below_drew1) | exact HB.out)) hb); have n1_ := Aside0.mk (hbox); have n2_ := Aside0.mk ((by rw [hg]; exact (below_size (by repeat (first | (with_reducible first | exact HB.out | apply below_alloc | apply pw_below_drewN | apply below_drew1) | exact HB.out))) : w.heap.size ≤ gb101)); have n3_ := Aside0.mk ((by rw [hg]; exact (below_size (by repeat (first | (with_reducible first | exact HB.out | apply below_alloc | apply pw_below_drewN | apply below_drew1) | exact HB.out))) : w.heap.size ≤ gb101)); clear HB; have HB := n0_; have BK101 := n1_; have GW101 := n2_; have GE101 := n3_; clear n0_ n1_ n2_ n3_; clear hb hbox hg))
  (try simp only [Act.put, List.setIfInBounds_toArray, List.set_cons_zero, List.set_cons_succ])
  go_cut [19] (fun v19 wc => ∃ (kq : Nat) (x19_2 : Bool), v19 = .bool x19_2 ∧ Aside0 (impl_BloomOf.j0 kq l0 a1 x19_2 = some (r1, r2, r3, r4, r5)) ∧ Aside0 (kq ≤ k) ∧ Aside0 (wc.heap[gb101]? = some (.cells #[.int .i64 0, .int .i64 0, .int .i64 0, .string (⟨#[]⟩ : ByteArray)] 46 (0, 0))) ∧ Aside0 (Below w.heap.size w wc))
  case first =>
    have H := HC3.out
    clear HC3
    replace H := Option.bind_eq_some_iff.mp H
    obtain ⟨t102, A50, H⟩ := H
    replace H : (if t102 = true then ((impl_within.f a1 1 20).bind fun t103 => (impl_BloomOf.j0 k l0 a1 (!t103))) else (impl_BloomOf.j0 k l0 a1 true)) = some (r1, r2, r3, r4, r5) := H
    have A5 := Aside0.mk A50
    clear A50
    by_cases c6 : t102 = true
    · subst c6
      have H1 : ((impl_within.f a1 1 20).bind fun t103 => (impl_BloomOf.j0 k l0 a1 (!t103))) = some (r1, r2, r3, r4, r5) := by rw [if_pos rfl] at H; exact H
      clear H
      have H := H1
      clear H1
      replace H := Option.bind_eq_some_iff.mp H
      obtain ⟨t103, A70, H⟩ := H
      replace H : (impl_BloomOf.j0 k l0 a1 (!t103)) = some (r1, r2, r3, r4, r5) := H
      have A7 := Aside0.mk A70
      clear A70
      have H' := Aside0.mk H
      clear H
      go_wp2_with (first | ((with_reducible refine gate_callee (f := 98) rfl ?_); refine goesL_ (some 13) rfl rfl Try.func98 (by kernel_rfl) rfl #[.slice A0 l0.length c0] rfl (by (try simp only [List.map_toArray, List.map_cons, List.map_nil]); first | done | rfl | (simp only [List.length_drop, List.length_take]; rfl) | (rw [IntWalk.u64_in _ (by omega)] <;> rfl)) ?_; (with_reducible refine (impl_UsersOk.calls k _ _ l0 true _ ?side1 ?side2 A5.out).mono ?_); (case side1 => repeat (first | exact (Kd.C_below HR0.out HB.out) | (with_reducible refine Kd.C_alloc ?_ _) | (with_reducible refine Kd.C_drewN ?_ _) | (with_reducible refine Kd.C_drew ?_))); (case side2 => exact HC0.out); rintro e w' ⟨rfl, ⟨nd, rfl⟩⟩; refine ⟨_, rfl, ?_⟩) | (go_at_call 62; (with_reducible refine (impl_within.calls a1 1 20 t103 _ A7.out).mono ?_); rintro e w' ⟨rfl, ⟨nd, rfl⟩⟩))
      go_meet
      case rel => exact ⟨_, (!t103), (by first | rfl | (simp; done) | (simp [*]; done)), H', ⟨by first | omega | exact Nat.le_refl _⟩, ⟨by (with_reducible repeat (first | refine blk_drewN ?_ _ | refine blk_drew ?_ | refine blk_alloc ?_ _)); exact BK101.out⟩, ⟨by repeat (first | (with_reducible first | exact HB.out | apply below_alloc | apply pw_below_drewN | apply below_drew1 | refine below_set ?_ GE101.out) | exact HB.out)⟩⟩
    · replace c6 := Bool.eq_false_iff.mpr c6
      subst c6
      have H1 : (impl_BloomOf.j0 k l0 a1 true) = some (r1, r2, r3, r4, r5) := by rw [if_neg (show ¬ (false = true) by decide)] at H; exact H
      clear H
      have H := H1
      clear H1
      have H' := Aside0.mk H
      clear H
      go_wp2_with (first | ((with_reducible refine gate_callee (f := 98) rfl ?_); refine goesL_ (some 13) rfl rfl Try.func98 (by kernel_rfl) rfl #[.slice A0 l0.length c0] rfl (by (try simp only [List.map_toArray, List.map_cons, List.map_nil]); first | done | rfl | (simp only [List.length_drop, List.length_take]; rfl) | (rw [IntWalk.u64_in _ (by omega)] <;> rfl)) ?_; (with_reducible refine (impl_UsersOk.calls k _ _ l0 false _ ?side1 ?side2 A5.out).mono ?_); (case side1 => repeat (first | exact (Kd.C_below HR0.out HB.out) | (with_reducible refine Kd.C_alloc ?_ _) | (with_reducible refine Kd.C_drewN ?_ _) | (with_reducible refine Kd.C_drew ?_))); (case side2 => exact HC0.out); rintro e w' ⟨rfl, ⟨nd, rfl⟩⟩; refine ⟨_, rfl, ?_⟩))
      go_meet
      case rel => exact ⟨_, (true), (by first | rfl | (simp; done) | (simp [*]; done)), H', ⟨by first | omega | exact Nat.le_refl _⟩, ⟨by (with_reducible repeat (first | refine blk_drewN ?_ _ | refine blk_drew ?_ | refine blk_alloc ?_ _)); exact BK101.out⟩, ⟨by repeat (first | (with_reducible first | exact HB.out | apply below_alloc | apply pw_below_drewN | apply below_drew1 | refine below_set ?_ GE101.out) | exact HB.out)⟩⟩
  case rest =>
    clear HC3
    try clear c1
    try clear p2
    try clear c6
    obtain ⟨kq, x19_2, rfl, HA, HJ2, BK101, HB⟩ := hcut
    cases kq with
    | zero => exact absurd HA.out (by simp [impl_BloomOf.j0])
    | succ kj2 =>
      have H := HA.out
      clear HA
      simp only [impl_BloomOf.j0] at H
      by_cases c8 : x19_2 = true
      · subst c8
        have H1 : (some (0, 0, 0, (⟨#[]⟩ : ByteArray), false)) = some (r1, r2, r3, r4, r5) := by rw [if_pos rfl] at H; exact H
        clear H
        have H := H1
        clear H1
        simp only [Option.some.injEq, Prod.mk.injEq] at H
        obtain ⟨rfl, rfl, rfl, rfl, rfl⟩ := H
        have hcz9_0 : wc.cell? ⟨gb101, 0, none⟩ = some (.int .i64 0) := (blk_cell BK101.out 0).trans rfl
        have hcz9_1 : wc.cell? ⟨gb101, 1, none⟩ = some (.int .i64 0) := (blk_cell BK101.out 1).trans rfl
        have hcz9_2 : wc.cell? ⟨gb101, 2, none⟩ = some (.int .i64 0) := (blk_cell BK101.out 2).trans rfl
        have hcz9_3 : wc.cell? ⟨gb101, 3, none⟩ = some (.string (⟨#[]⟩ : ByteArray)) := (blk_cell BK101.out 3).trans rfl
        have hfz9_0 := blk_frozen BK101.out 0
        have hfz9_1 := blk_frozen BK101.out 1
        have hfz9_2 := blk_frozen BK101.out 2
        have hfz9_3 := blk_frozen BK101.out 3
        go_wp2
        refine bodyPost_ret (results_ct rfl _ _ gb101 46 #[.int .i64 0, .int .i64 0, .int .i64 0, .string (⟨#[]⟩ : ByteArray)] (0, 0) _ rfl (by (with_reducible repeat (first | refine blk_drewN ?_ _ | refine blk_drew ?_ | refine blk_alloc ?_ _)); refine blk_put (cs := #[.int .i64 0, .int .i64 0, .int .i64 0, .string (⟨#[]⟩ : ByteArray)]) ?_ 3 _ rfl; (with_reducible repeat (first | refine blk_drewN ?_ _ | refine blk_drew ?_ | refine blk_alloc ?_ _)); refine blk_put (cs := #[.int .i64 0, .int .i64 0, .int .i64 0, .string (⟨#[]⟩ : ByteArray)]) ?_ 2 _ rfl; (with_reducible repeat (first | refine blk_drewN ?_ _ | refine blk_drew ?_ | refine blk_alloc ?_ _)); refine blk_put (cs := #[.int .i64 0, .int .i64 0, .int .i64 0, .string (⟨#[]⟩ : ByteArray)]) ?_ 1 _ rfl; (with_reducible repeat (first | refine blk_drewN ?_ _ | refine blk_drew ?_ | refine blk_alloc ?_ _)); refine blk_put (cs := #[.int .i64 0, .int .i64 0, .int .i64 0, .string (⟨#[]⟩ : ByteArray)]) ?_ 0 _ rfl; (with_reducible repeat (first | refine blk_drewN ?_ _ | refine blk_drew ?_ | refine blk_alloc ?_ _)); exact BK101.out) Try.underlying46 rfl (by kernel_rfl)) rfl ?_
        exact ⟨by first | rfl | (simp [errW_none, errW_some] <;> rfl) | (simp [*, errW_none, errW_some] <;> rfl), by repeat (first | (with_reducible first | exact HB.out | apply below_alloc | apply pw_below_drewN | apply below_drew1 | refine below_set ?_ GE101.out) | exact HB.out)⟩
      · replace c8 := Bool.eq_false_iff.mpr c8
        subst c8
        have H1 : (if 0 ≤ (wrap64 (Int.tdiv (wrap64 ((mx 64 (wrap64 (a1 * (l0.length : Int)))) + 7)) 8)) then (if (wrap64 (Int.tdiv (wrap64 ((mx 64 (wrap64 (a1 * (l0.length : Int)))) + 7)) 8) : Int).toNat ≤ 281474976710656 then (impl_BloomOf.l0 kj2 (List.replicate (wrap64 (Int.tdiv (wrap64 ((mx 64 (wrap64 (a1 * (l0.length : Int)))) + 7)) 8) : Int).toNat 0) l0 (l0.length : Int) 0 1 0 (mn (mx (wrap64 (Int.tdiv (wrap64 (69 * a1)) 100)) 1) 30) (⟨#[]⟩ : ByteArray)) else (none)) else (none)) = some (r1, r2, r3, r4, r5) := by rw [if_neg (show ¬ (false = true) by decide)] at H; exact H
        clear H
        have H := H1
        clear H1
        obtain ⟨ji10, hji10⟩ : ∃ j_ : Int, (mx 64 (wrap64 (a1 * (l0.length : Int)))) = j_ := ⟨_, rfl⟩
        replace H : (if 0 ≤ (wrap64 (Int.tdiv (wrap64 ((ji10) + 7)) 8)) then (if (wrap64 (Int.tdiv (wrap64 ((ji10) + 7)) 8) : Int).toNat ≤ 281474976710656 then (impl_BloomOf.l0 kj2 (List.replicate (wrap64 (Int.tdiv (wrap64 ((ji10) + 7)) 8) : Int).toNat 0) l0 (l0.length : Int) 0 1 0 (mn (mx (wrap64 (Int.tdiv (wrap64 (69 * a1)) 100)) 1) 30) (⟨#[]⟩ : ByteArray)) else (none)) else (none)) = some (r1, r2, r3, r4, r5) := by first | (rw [hji10] at H; exact H) | (simp only [hji10] at H ⊢; exact H)
        have hji10_ : (if 64 < (wrap64 (a1 * (l0.length : Int))) then (wrap64 (a1 * (l0.length : Int))) else 64) = ji10 := hji10
        obtain ⟨ji11, hji11⟩ : ∃ j_ : Int, (wrap64 (Int.tdiv (wrap64 ((ji10) + 7)) 8)) = j_ := ⟨_, rfl⟩
        replace H : (if 0 ≤ (ji11) then (if (ji11 : Int).toNat ≤ 281474976710656 then (impl_BloomOf.l0 kj2 (List.replicate (ji11 : Int).toNat 0) l0 (l0.length : Int) 0 1 0 (mn (mx (wrap64 (Int.tdiv (wrap64 (69 * a1)) 100)) 1) 30) (⟨#[]⟩ : ByteArray)) else (none)) else (none)) = some (r1, r2, r3, r4, r5) := by first | (rw [hji11] at H; exact H) | (simp only [hji11] at H ⊢; exact H)
        have hji11w : (IntKind.i64.wrap (Int.tdiv (wrap64 ((ji10) + 7)) 8)) = ji11 := (i64_w _).trans hji11
        by_cases c12 : 0 ≤ (ji11)
        · rw [if_pos c12] at H
          have c12b0 := eq_true c12
          have c12b1 : decide (0 ≤ (ji11)) = true := decide_eq_true c12
          clear c12
          by_cases c13 : (ji11 : Int).toNat ≤ 281474976710656
          · rw [if_pos c13] at H
            have c13b0 := eq_true c13
            have c13b1 : decide ((ji11 : Int).toNat ≤ 281474976710656) = true := decide_eq_true c13
            clear c13
            obtain ⟨y104, hy104⟩ : ∃ y_ : List Int, y_ = (List.replicate (ji11 : Int).toNat 0) := ⟨_, rfl⟩
            replace H : (impl_BloomOf.l0 kj2 y104 l0 (l0.length : Int) 0 1 0 (mn (mx (wrap64 (Int.tdiv (wrap64 (69 * a1)) 100)) 1) 30) (⟨#[]⟩ : ByteArray)) = some (r1, r2, r3, r4, r5) := by first | (rw [hy104]; with_reducible exact H) | (have H2_ := (Option.bind_some _ _).symm.trans H; rw [hy104]; with_reducible exact H2_) | (have H2_ := (Option.bind_some _ _).symm.trans H; with_reducible exact H2_) | with_reducible exact H | (rw [hy104]; exact H) | exact H
            have Ny104 := Aside0.mk hy104
            clear hy104
            obtain ⟨ji14, hji14⟩ : ∃ j_ : Int, (mx (wrap64 (Int.tdiv (wrap64 (69 * a1)) 100)) 1) = j_ := ⟨_, rfl⟩
            replace H : (impl_BloomOf.l0 kj2 y104 l0 (l0.length : Int) 0 1 0 (mn (ji14) 30) (⟨#[]⟩ : ByteArray)) = some (r1, r2, r3, r4, r5) := by first | (rw [hji14] at H; exact H) | (simp only [hji14] at H ⊢; exact H)
            have hji14_ : (if (wrap64 (Int.tdiv (wrap64 (69 * a1)) 100)) < 1 then 1 else (wrap64 (Int.tdiv (wrap64 (69 * a1)) 100))) = ji14 := hji14
            obtain ⟨ji15, hji15⟩ : ∃ j_ : Int, (mn (ji14) 30) = j_ := ⟨_, rfl⟩
            replace H : (impl_BloomOf.l0 kj2 y104 l0 (l0.length : Int) 0 1 0 ji15 (⟨#[]⟩ : ByteArray)) = some (r1, r2, r3, r4, r5) := by first | (rw [hji15] at H; exact H) | (simp only [hji15] at H ⊢; exact H)
            have hji15_ : (if 30 < (ji14) then 30 else (ji14)) = ji15 := hji15
            have H' := Aside0.mk H
            clear H
            go_wp2_with (first | ((with_reducible refine gate_dst (N := 28) rfl ?_); refine Kd.R_make (Kd.int .u8) _ 5 rfl (N := 28) rfl 51 _ _ rfl ji11 rfl rfl Try.underlying51 (.int .u8 0) 1 info5 rfl (by decide) (by omega) 0 (ok := fun _ => True) (okp := fun _ => True) rfl (fun _ hk => hk) trivial (of_decide_eq_true (by first | (with_reducible assumption) | assumption)) (Nat.le_trans (Nat.mul_le_mul_right _ (of_decide_eq_true (by first | (with_reducible assumption) | assumption) : ji11.toNat ≤ 281474976710656)) (by omega)) (Below.refl _ _) (Nat.le_refl _) ?_; intro v105 w16 ho17 hb hg_ hnew_; clear hg_ hnew_; (first | rw [← Ny104.out] at ho17 | (simp only [Int.reduceToNat] at ho17; rw [← Ny104.out] at ho17)); have n0_ := Aside0.mk (Kd.R_lower ho17 (below_size (by repeat (first | (with_reducible first | exact HB.out | apply below_alloc | apply pw_below_drewN | apply below_drew1 | refine below_set ?_ GE101.out) | exact HB.out)))); have n1_ := Aside0.mk (blk_below (g := gb101) (o := .cells #[.int .i64 0, .int .i64 0, .int .i64 0, .string (⟨#[]⟩ : ByteArray)] 46 (0, 0)) (by (with_reducible repeat (first | refine blk_drewN ?_ _ | refine blk_drew ?_ | refine blk_alloc ?_ _)); exact BK101.out) hb); have n2_ := Aside0.mk (below_step (by repeat (first | (with_reducible first | exact HB.out | apply below_alloc | apply pw_below_drewN | apply below_drew1 | refine below_set ?_ GE101.out) | exact HB.out)) hb); clear BK101; clear HB; have HO106 := n0_; have BK101 := n1_; have HB := n2_; clear n0_ n1_ n2_; clear hb ho17) | ((with_reducible refine gate_dst (N := 7) rfl ?_); refine box_event ?hg (N := 7) ?hd (cs := #[.int .i64 0, .int .i64 0, .int .i64 0, .string (⟨#[]⟩ : ByteArray)]) (t := 46) ?hr ?_; (case hd => rfl); (case hg => rfl); (case hr => first | (go_simp; done) | (go_simp; rfl)); intro gb107 hg w18 hbox hb; have n0_ := Aside0.mk (Kd.R_below (by (with_reducible repeat (first | apply Kd.R_alloc | apply Kd.R_drewN | apply Kd.R_drew)); exact HO106.out) hb); have n1_ := Aside0.mk (blk_below (g := gb101) (o := .cells #[.int .i64 0, .int .i64 0, .int .i64 0, .string (⟨#[]⟩ : ByteArray)] 46 (0, 0)) (by (with_reducible repeat (first | refine blk_drewN ?_ _ | refine blk_drew ?_ | refine blk_alloc ?_ _)); exact BK101.out) hb); have n2_ := Aside0.mk (below_step (by repeat (first | (with_reducible first | exact HB.out | apply below_alloc | apply pw_below_drewN | apply below_drew1 | refine below_set ?_ GE101.out) | exact HB.out)) hb); have n3_ := Aside0.mk (hbox); have n4_ := Aside0.mk ((by rw [hg]; exact (below_size (by repeat (first | (with_reducible first | exact HB.out | apply below_alloc | apply pw_below_drewN | apply below_drew1 | refine below_set ?_ GE101.out) | exact HB.out))) : w.heap.size ≤ gb107)); have n5_ := Aside0.mk ((by rw [hg]; exact (below_size (by repeat (first | (with_reducible first | exact HB.out | apply below_alloc | apply pw_below_drewN | apply below_drew1 | refine below_set ?_ GE101.out) | exact HB.out))) : w.heap.size ≤ gb107)); have n6_ := Aside0.mk ((by rw [hg]; exact Nat.ne_of_lt (blk_lt (g := gb101) (o := .cells #[.int .i64 0, .int .i64 0, .int .i64 0, .string (⟨#[]⟩ : ByteArray)] 46 (0, 0)) (by (with_reducible repeat (first | refine blk_drewN ?_ _ | refine blk_drew ?_ | refine blk_alloc ?_ _)); exact BK101.out)) : gb101 ≠ gb107)); have n7_ := Aside0.mk ((by rw [hg]; exact Nat.ne_of_gt (blk_lt (g := gb101) (o := .cells #[.int .i64 0, .int .i64 0, .int .i64 0, .string (⟨#[]⟩ : ByteArray)] 46 (0, 0)) (by (with_reducible repeat (first | refine blk_drewN ?_ _ | refine blk_drew ?_ | refine blk_alloc ?_ _)); exact BK101.out)) : gb107 ≠ gb101)); clear HO106; clear BK101; clear HB; have HO106 := n0_; have BK101 := n1_; have HB := n2_; have BK107 := n3_; have GW107 := n4_; have GE107 := n5_; have NB101_107 := n6_; have NB107_101 := n7_; clear n0_ n1_ n2_ n3_ n4_ n5_ n6_ n7_; clear hb hbox hg; have hnb19 := NB107_101.out; have hnc19 := NB101_107.out; have hcz20_0 : w18.cell? ⟨gb107, 0, none⟩ = some (.int .i64 0) := (blk_cell BK107.out 0).trans rfl; have hcz20_1 : w18.cell? ⟨gb107, 1, none⟩ = some (.int .i64 0) := (blk_cell BK107.out 1).trans rfl; have hcz20_2 : w18.cell? ⟨gb107, 2, none⟩ = some (.int .i64 0) := (blk_cell BK107.out 2).trans rfl; have hcz20_3 : w18.cell? ⟨gb107, 3, none⟩ = some (.string (⟨#[]⟩ : ByteArray)) := (blk_cell BK107.out 3).trans rfl; have hfz20_0 := blk_frozen BK107.out 0; have hfz20_1 := blk_frozen BK107.out 1; have hfz20_2 := blk_frozen BK107.out 2; have hfz20_3 := blk_frozen BK107.out 3))
            go_loopg [37] kj2 (fun kq v37 w' => ∃ (x6_2 : List Int) (x37_2 : Int), v37 = .int .i64 x37_2 ∧ Aside0 (impl_BloomOf.l0 kq x6_2 l0 (l0.length : Int) x37_2 1 0 ji15 (⟨#[]⟩ : ByteArray) = some (r1, r2, r3, r4, r5)) ∧ Aside0 (kq ≤ kj2) ∧ Aside0 (Kd.R (Kd.int .u8) 5 w' w.heap.size (fun _ => True) v105 x6_2) ∧ Aside0 (w'.heap[gb101]? = some (.cells #[.int .i64 0, .int .i64 0, .int .i64 0, .string (⟨#[]⟩ : ByteArray)] 46 (0, 0))) ∧ Aside0 (w'.heap[gb107]? = some (.cells #[.int .i64 1, .int .i64 0, .int .i64 ji15, .string (⟨#[]⟩ : ByteArray)] 46 (0, 0))) ∧ Aside0 (Below w.heap.size w w'))
            case atStart => exact ⟨(y104), (0), (by first | rfl | (simp; done) | (simp [*]; done)), H', ⟨Nat.le_refl _⟩, ⟨by (with_reducible repeat (first | apply Kd.R_alloc | apply Kd.R_drewN | apply Kd.R_drew)); exact Kd.R_mono (Kd.R_far (p := ⟨gb107, 3, none⟩) (Kd.R_far (p := ⟨gb107, 2, none⟩) (Kd.R_far (p := ⟨gb107, 1, none⟩) (Kd.R_far (p := ⟨gb107, 0, none⟩) (Kd.R_types HO106.out BK107.out (by decide)) (fun _ hk => hk.2) (.int .i64 1)) (fun _ hk => hk.2) (.int .i64 0)) (fun _ hk => hk.2) (.int .i64 ji15)) (fun _ hk => hk.2) (.string (⟨#[]⟩ : ByteArray))) (fun _ hk => trivial)⟩, ⟨by (with_reducible repeat (first | refine blk_drewN ?_ _ | refine blk_drew ?_ | refine blk_alloc ?_ _)); refine blk_far ?_ NB101_107.out _; (with_reducible repeat (first | refine blk_drewN ?_ _ | refine blk_drew ?_ | refine blk_alloc ?_ _)); refine blk_far ?_ NB101_107.out _; (with_reducible repeat (first | refine blk_drewN ?_ _ | refine blk_drew ?_ | refine blk_alloc ?_ _)); refine blk_far ?_ NB101_107.out _; (with_reducible repeat (first | refine blk_drewN ?_ _ | refine blk_drew ?_ | refine blk_alloc ?_ _)); refine blk_far ?_ NB101_107.out _; (with_reducible repeat (first | refine blk_drewN ?_ _ | refine blk_drew ?_ | refine blk_alloc ?_ _)); exact BK101.out⟩, ⟨by (with_reducible repeat (first | refine blk_drewN ?_ _ | refine blk_drew ?_ | refine blk_alloc ?_ _)); refine blk_put (cs := #[.int .i64 1, .int .i64 0, .int .i64 ji15, .string (⟨#[]⟩ : ByteArray)]) ?_ 3 _ rfl; (with_reducible repeat (first | refine blk_drewN ?_ _ | refine blk_drew ?_ | refine blk_alloc ?_ _)); refine blk_put (cs := #[.int .i64 1, .int .i64 0, .int .i64 0, .string (⟨#[]⟩ : ByteArray)]) ?_ 2 _ rfl; (with_reducible repeat (first | refine blk_drewN ?_ _ | refine blk_drew ?_ | refine blk_alloc ?_ _)); refine blk_put (cs := #[.int .i64 1, .int .i64 0, .int .i64 0, .string (⟨#[]⟩ : ByteArray)]) ?_ 1 _ rfl; (with_reducible repeat (first | refine blk_drewN ?_ _ | refine blk_drew ?_ | refine blk_alloc ?_ _)); refine blk_put (cs := #[.int .i64 0, .int .i64 0, .int .i64 0, .string (⟨#[]⟩ : ByteArray)]) ?_ 0 _ rfl; (with_reducible repeat (first | refine blk_drewN ?_ _ | refine blk_drew ?_ | refine blk_alloc ?_ _)); exact BK107.out⟩, ⟨by repeat (first | (with_reducible first | exact HB.out | apply below_alloc | apply pw_below_drewN | apply below_drew1 | refine below_set ?_ GE101.out | refine below_set ?_ GE107.out) | exact HB.out)⟩⟩
            case round =>
              clear H'
              try clear c1
              try clear p2
              try clear c6
              try clear p6
              try clear c8
              try clear c9
              try clear c10
              try clear c12
              try clear c12b0
              try clear c12b1
              try clear c13
              try clear c13b0
              try clear c13b1
              try clear c19
              try clear hcz20_0
              try clear hcz20_1
              try clear hcz20_2
              try clear hcz20_3
              try clear hcz9_0
              try clear hcz9_1
              try clear hcz9_2
              try clear hcz9_3
              try clear hfz20_0
              try clear hfz20_1
              try clear hfz20_2
              try clear hfz20_3
              try clear hfz9_0
              try clear hfz9_1
              try clear hfz9_2
              try clear hfz9_3
              try clear p2
              obtain ⟨x6_2, x37_2, rfl, HA, HK2, HO_6, BK101, BK107, HB⟩ := hrel
              cases gk with
              | zero => exact absurd HA.out (by simp [impl_BloomOf.l0])
              | succ k2 =>
                have H := HA.out
                clear HA
                simp only [impl_BloomOf.l0] at H
                by_cases c21 : x37_2 < (l0.length : Int)
                · rw [if_pos c21] at H
                  have c21b0 : decide (x37_2 < (l0.length : Int)) = true := decide_eq_true c21
                  clear c21
                  by_cases c22 : 0 ≤ x37_2
                  · rw [if_pos c22] at H
                    have c22b0 : decide (0 ≤ x37_2) = true := decide_eq_true c22
                    clear c22
                    by_cases c23 : x37_2 < (l0.length : Int)
                    · rw [if_pos c23] at H
                      have c23b0 : decide (x37_2 < (l0.length : Int)) = true := decide_eq_true c23
                      clear c23
                      replace H := Option.bind_eq_some_iff.mp H
                      obtain ⟨t109, A240, H⟩ := H
                      replace H : (impl_BloomOf.l1 k2 x6_2 l0 (l0.length : Int) x37_2 t109 (t109.length : Int) 0 1 0 ji15 (⟨#[]⟩ : ByteArray)) = some (r1, r2, r3, r4, r5) := H
                      have A24 := Aside0.mk A240
                      clear A240
                      have H' := Aside0.mk H
                      clear H
                      have p108 : 0 ≤ (x37_2 : Int) := of_decide_eq_true (by first | (with_reducible assumption) | assumption)
                      have q108 : x37_2 < (l0.length : Int) := of_decide_eq_true (by first | (with_reducible assumption) | assumption)
                      obtain ⟨ad108, e108, hx108_0⟩ := Kd.at_string HR0.out x37_2 p108 q108
                      cases e108
                      replace hx108_0 := (HB.out.cell (World.block_lt_of_cell? w _ hx108_0)).trans hx108_0
                      replace p108 := eq_true p108
                      replace q108 := eq_true q108
                      have hnb25 := NB107_101.out
                      have hnc25 := NB101_107.out
                      have hcz26_0 : wr.cell? ⟨gb107, 0, none⟩ = some (.int .i64 1) := (blk_cell BK107.out 0).trans rfl
                      have hcz26_1 : wr.cell? ⟨gb107, 1, none⟩ = some (.int .i64 0) := (blk_cell BK107.out 1).trans rfl
                      have hcz26_2 : wr.cell? ⟨gb107, 2, none⟩ = some (.int .i64 ji15) := (blk_cell BK107.out 2).trans rfl
                      have hcz26_3 : wr.cell? ⟨gb107, 3, none⟩ = some (.string (⟨#[]⟩ : ByteArray)) := (blk_cell BK107.out 3).trans rfl
                      have hfz26_0 := blk_frozen BK107.out 0
                      have hfz26_1 := blk_frozen BK107.out 1
                      have hfz26_2 := blk_frozen BK107.out 2
                      have hfz26_3 := blk_frozen BK107.out 3
                      obtain ⟨Ao27, co27, eo27⟩ := Kd.R_slice HO_6.out
                      subst eo27
                      go_wp2_with (first | ((with_reducible refine gate_callee (f := 130) rfl ?_); refine goesL_ (some 46) rfl rfl Try.func130 (by kernel_rfl) rfl #[.string (rdOf ByteArray.empty l0 x37_2), .int .i64 ji15, .int .i64 (x6_2.length : Int)] rfl (by (try simp only [List.map_toArray, List.map_cons, List.map_nil]); first | done | (simp only [hji15]; rfl) | rfl | (simp only [List.length_drop, List.length_take]; rfl) | (rw [IntWalk.u64_in _ (by omega)] <;> rfl)) ?_; (with_reducible refine (impl_probes.calls k2 (rdOf ByteArray.empty l0 x37_2) ji15 (x6_2.length : Int) t109 _ A24.out).mono ?_); rintro e w28 ⟨v110, rfl, ho0, hb⟩; refine ⟨_, rfl, ?_⟩; have n0_ := Aside0.mk (Kd.R_below (by (with_reducible repeat (first | apply Kd.R_alloc | apply Kd.R_drewN | apply Kd.R_drew)); exact HO_6.out) hb); have n1_ := Aside0.mk (Kd.R_lower ho0 (below_size (by repeat (first | (with_reducible first | exact HB.out | apply below_alloc | apply pw_below_drewN | apply below_drew1 | refine below_set ?_ GE101.out | refine below_set ?_ GE107.out) | exact HB.out)))); have n2_ := Aside0.mk (blk_below (g := gb101) (o := .cells #[.int .i64 0, .int .i64 0, .int .i64 0, .string (⟨#[]⟩ : ByteArray)] 46 (0, 0)) (by (with_reducible repeat (first | refine blk_drewN ?_ _ | refine blk_drew ?_ | refine blk_alloc ?_ _)); exact BK101.out) hb); have n3_ := Aside0.mk (blk_below (g := gb107) (o := .cells #[.int .i64 1, .int .i64 0, .int .i64 ji15, .string (⟨#[]⟩ : ByteArray)] 46 (0, 0)) (by (with_reducible repeat (first | refine blk_drewN ?_ _ | refine blk_drew ?_ | refine blk_alloc ?_ _)); exact BK107.out) hb); have n4_ := Aside0.mk (below_step (by repeat (first | (with_reducible first | exact HB.out | apply below_alloc | apply pw_below_drewN | apply below_drew1 | refine below_set ?_ GE101.out | refine below_set ?_ GE107.out) | exact HB.out)) hb); clear HO_6; clear BK101; clear BK107; clear HB; have HO_6 := n0_; have HO111 := n1_; have BK101 := n2_; have BK107 := n3_; have HB := n4_; clear n0_ n1_ n2_ n3_ n4_; (try clear hb); (try clear hb2); (try clear hk); (try clear hi); (try clear ho0); obtain ⟨Ao29, co29, eo29⟩ := Kd.R_slice HO111.out; subst eo29))
                      go_loopg [48] k2 (fun kq v48 w' => ∃ (x6_3 : List Int) (x48_3 : Int), v48 = .int .i64 x48_3 ∧ Aside0 (impl_BloomOf.l1 kq x6_3 l0 (l0.length : Int) x37_2 t109 (t109.length : Int) x48_3 1 0 ji15 (⟨#[]⟩ : ByteArray) = some (r1, r2, r3, r4, r5)) ∧ Aside0 (kq ≤ k2) ∧ Aside0 (Kd.R (Kd.int .u8) 5 w' w.heap.size (fun _ => True) (.slice Ao27 x6_2.length co27) x6_3) ∧ Aside0 (Kd.R (Kd.int .u64) 96 w' w.heap.size (fun _ => True) (.slice Ao29 t109.length co29) t109) ∧ Aside0 (w'.heap[gb101]? = some (.cells #[.int .i64 0, .int .i64 0, .int .i64 0, .string (⟨#[]⟩ : ByteArray)] 46 (0, 0))) ∧ Aside0 (w'.heap[gb107]? = some (.cells #[.int .i64 1, .int .i64 0, .int .i64 ji15, .string (⟨#[]⟩ : ByteArray)] 46 (0, 0))) ∧ Aside0 (Below w.heap.size w w'))
                      case atStart => exact ⟨(x6_2), (0), (by first | rfl | (simp; done) | (simp [*]; done)), H', ⟨Nat.le_refl _⟩, ⟨by (with_reducible repeat (first | apply Kd.R_alloc | apply Kd.R_drewN | apply Kd.R_drew)); exact HO_6.out⟩, ⟨by (with_reducible repeat (first | apply Kd.R_alloc | apply Kd.R_drewN | apply Kd.R_drew)); exact HO111.out⟩, ⟨by (with_reducible repeat (first | refine blk_drewN ?_ _ | refine blk_drew ?_ | refine blk_alloc ?_ _)); exact BK101.out⟩, ⟨by (with_reducible repeat (first | refine blk_drewN ?_ _ | refine blk_drew ?_ | refine blk_alloc ?_ _)); exact BK107.out⟩, ⟨by repeat (first | (with_reducible first | exact HB.out | apply below_alloc | apply pw_below_drewN | apply below_drew1 | refine below_set ?_ GE101.out | refine below_set ?_ GE107.out) | exact HB.out)⟩⟩
                      case round =>
                        clear H'
                        try clear c1
                        try clear p1
                        try clear q1
                        try clear hx1
                        try clear c2
                        try clear p2
                        try clear c6
                        try clear p6
                        try clear c8
                        try clear c9
                        try clear c10
                        try clear p10
                        try clear q10
                        try clear hx10
                        try clear c12
                        try clear c12b0
                        try clear c12b1
                        try clear c13
                        try clear c13b0
                        try clear c13b1
                        try clear c19
                        try clear c21
                        try clear c21b0
                        try clear c22
                        try clear c22b0
                        try clear c23
                        try clear c23b0
                        try clear c25
                        try clear hcz20_0
                        try clear hcz20_1
                        try clear hcz20_2
                        try clear hcz20_3
                        try clear hcz26_0
                        try clear hcz26_1
                        try clear hcz26_2
                        try clear hcz26_3
                        try clear hcz9_0
                        try clear hcz9_1
                        try clear hcz9_2
                        try clear hcz9_3
                        try clear hfz20_0
                        try clear hfz20_1
                        try clear hfz20_2
                        try clear hfz20_3
                        try clear hfz26_0
                        try clear hfz26_1
                        try clear hfz26_2
                        try clear hfz26_3
                        try clear hfz9_0
                        try clear hfz9_1
                        try clear hfz9_2
                        try clear hfz9_3
                        try clear hx108_0
                        try clear p108
                        try clear p2
                        try clear p6
                        try clear q108
                        obtain ⟨x6_3, x48_3, rfl, HA, HK3, HO_6, HO_46, BK101, BK107, HB⟩ := hrel
                        have hl6_3 := (Kd.R_reads' HO_6.out).1
                        rw [hl6_3] at HO_6
                        (try simp only [hl6_3])
                        (try simp only [hl6_3] at BK101)
                        (try simp only [hl6_3] at BK107)
                        (try simp only [hl6_3] at HO_46)
                        cases gk with
                        | zero => exact absurd HA.out (by simp [impl_BloomOf.l1])
                        | succ k3 =>
                          have H := HA.out
                          clear HA
                          simp only [impl_BloomOf.l1] at H
                          by_cases c30 : x48_3 < (t109.length : Int)
                          · rw [if_pos c30] at H
                            have c30b0 : decide (x48_3 < (t109.length : Int)) = true := decide_eq_true c30
                            clear c30
                            by_cases c31 : 0 ≤ x48_3
                            · rw [if_pos c31] at H
                              have c31b0 : decide (0 ≤ x48_3) = true := decide_eq_true c31
                              clear c31
                              by_cases c32 : x48_3 < (t109.length : Int)
                              · rw [if_pos c32] at H
                                have c32b0 : decide (x48_3 < (t109.length : Int)) = true := decide_eq_true c32
                                clear c32
                                obtain ⟨ji33, hji33⟩ : ∃ j_ : Int, (IntKind.u64.wrap (Int.tdiv (rd t109 x48_3) 8)) = j_ := ⟨_, rfl⟩
                                replace H : (if 0 ≤ (ji33) then (if (ji33) < (x6_3.length : Int) then (if 0 ≤ (Int.tmod (rd t109 x48_3) 8) then (impl_BloomOf.l1 k3 (x6_3.set ((ji33) : Int).toNat (Go.bits .or .u8 (rd x6_3 (ji33)) (shl .u8 1 (Int.tmod (rd t109 x48_3) 8)))) l0 (l0.length : Int) x37_2 t109 (t109.length : Int) (wrap64 (x48_3 + 1)) 1 0 ji15 (⟨#[]⟩ : ByteArray)) else (none)) else (none)) else (none)) = some (r1, r2, r3, r4, r5) := by first | (rw [hji33] at H; exact H) | (simp only [hji33] at H ⊢; exact H)
                                by_cases c34 : 0 ≤ (ji33)
                                · rw [if_pos c34] at H
                                  have c34b0 : decide (0 ≤ (ji33)) = true := decide_eq_true c34
                                  clear c34
                                  by_cases c35 : (ji33) < (x6_3.length : Int)
                                  · rw [if_pos c35] at H
                                    have c35b0 : decide ((ji33) < (x6_3.length : Int)) = true := decide_eq_true c35
                                    clear c35
                                    obtain ⟨ji36, hji36⟩ : ∃ j_ : Int, (Int.tmod (rd t109 x48_3) 8) = j_ := ⟨_, rfl⟩
                                    replace H : (if 0 ≤ (ji36) then (impl_BloomOf.l1 k3 (x6_3.set ((ji33) : Int).toNat (Go.bits .or .u8 (rd x6_3 (ji33)) (shl .u8 1 (ji36)))) l0 (l0.length : Int) x37_2 t109 (t109.length : Int) (wrap64 (x48_3 + 1)) 1 0 ji15 (⟨#[]⟩ : ByteArray)) else (none)) = some (r1, r2, r3, r4, r5) := by first | (rw [hji36] at H; exact H) | (simp only [hji36] at H ⊢; exact H)
                                    by_cases c37 : 0 ≤ (ji36)
                                    · rw [if_pos c37] at H
                                      have c37b0 := eq_true c37
                                      have c37b1 : decide (0 ≤ (ji36)) = true := decide_eq_true c37
                                      clear c37
                                      obtain ⟨ji38, hji38⟩ : ∃ j_ : Int, (shl .u8 1 (ji36)) = j_ := ⟨_, rfl⟩
                                      replace H : (impl_BloomOf.l1 k3 (x6_3.set ((ji33) : Int).toNat (Go.bits .or .u8 (rd x6_3 (ji33)) (ji38))) l0 (l0.length : Int) x37_2 t109 (t109.length : Int) (wrap64 (x48_3 + 1)) 1 0 ji15 (⟨#[]⟩ : ByteArray)) = some (r1, r2, r3, r4, r5) := by first | (rw [hji38] at H; exact H) | (simp only [hji38] at H ⊢; exact H)
                                      have hji38_ : (IntKind.u8.wrap (1 * 2 ^ min (ji36).toNat 8)) = ji38 := hji38
                                      have hji38z : (ji36) ≤ 8 → (IntKind.u8.wrap (1 * 2 ^ (ji36).toNat)) = ji38 := shl_small hji38
                                      have hji38u : (IntKind.u8.wrap (2 ^ min (ji36).toNat 8)) = ji38 := by have h_ := hji38_; rw [Int.one_mul] at h_; exact h_
                                      have hji38v : (ji36) ≤ 8 → (IntKind.u8.wrap (2 ^ (ji36).toNat)) = ji38 := fun hle_ => by have h_ := hji38z hle_; rw [Int.one_mul] at h_; exact h_
                                      obtain ⟨y114, hy114⟩ : ∃ y_ : List Int, y_ = (x6_3.set ((ji33) : Int).toNat (Go.bits .or .u8 (rd x6_3 (ji33)) (ji38))) := ⟨_, rfl⟩
                                      replace H : (impl_BloomOf.l1 k3 y114 l0 (l0.length : Int) x37_2 t109 (t109.length : Int) (wrap64 (x48_3 + 1)) 1 0 ji15 (⟨#[]⟩ : ByteArray)) = some (r1, r2, r3, r4, r5) := by first | (rw [hy114]; with_reducible exact H) | (have H2_ := (Option.bind_some _ _).symm.trans H; rw [hy114]; with_reducible exact H2_) | (have H2_ := (Option.bind_some _ _).symm.trans H; with_reducible exact H2_) | with_reducible exact H | (rw [hy114]; exact H) | exact H
                                      have Ny114 := Aside0.mk hy114
                                      clear hy114
                                      have H' := Aside0.mk H
                                      clear H
                                      have p112 : 0 ≤ (x48_3 : Int) := of_decide_eq_true (by first | (with_reducible assumption) | assumption)
                                      have q112 : x48_3 < (t109.length : Int) := of_decide_eq_true (by first | (with_reducible assumption) | assumption)
                                      obtain ⟨ad112, e112, hx112_0⟩ := Kd.at_int (Kd.R_reads' HO_46.out).2.2 x48_3 p112 q112
                                      cases e112
                                      replace p112 := eq_true p112
                                      replace q112 := eq_true q112
                                      have p113 : 0 ≤ ((ji33) : Int) := of_decide_eq_true (by first | (with_reducible assumption) | assumption)
                                      have q113 : (ji33) < (x6_3.length : Int) := of_decide_eq_true (by first | (with_reducible assumption) | assumption)
                                      obtain ⟨ad113, e113, hx113_0⟩ := Kd.at_int (Kd.R_reads' HO_6.out).2.2 (ji33) p113 q113
                                      cases e113
                                      replace p113 := eq_true p113
                                      replace q113 := eq_true q113
                                      have p39 : 0 ≤ ((ji33) : Int) := of_decide_eq_true (by first | (with_reducible assumption) | assumption)
                                      have q39 : ((ji33) : Int) < ((x6_3.length : Int) : Int) := of_decide_eq_true (by first | (with_reducible assumption) | assumption)
                                      obtain ⟨go39, co39, eo39, gb39, gl39, cl39, HG39⟩ := Kd.R_form HO_6.out (by omega)
                                      (first | cases eo39 | (injection eo39 with ea_ en_ ec_; (first | subst ea_ | (injection ea_ with ea_; subst ea_)); subst ec_; clear en_))
                                      have GB39 := Aside0.mk gb39
                                      have GG39 := Aside0.mk HG39
                                      clear gb39 gl39 HG39
                                      (first | simp only [add_plain] at hx113_0 | skip)
                                      obtain ⟨hx39_0, hf39_0⟩ := Kd.R_celln 0 HO_6.out ((ji33) : Int) p39 q39
                                      replace p39 := eq_true p39
                                      replace q39 := eq_true q39
                                      have HP40 := Kd.R_putg HO_6.out ((ji33) : Int) (Go.bits .or .u8 (rd x6_3 (ji33)) (ji38))
                                      go_wp2_with (first | ((with_reducible refine gate_store (t := 5) (p := 61) rfl ?_); refine store_event (t := 5) (p := 61) (v := ?vo_w41) (w1 := (wr.setCell ⟨go39, ((ji33) : Int).toNat, none⟩ (.int .u8 (Go.bits .or .u8 (rd x6_3 (ji33)) (ji38))))) ?hg ?ho ?hn ?hr ?_; (case ho => rfl); (case hg => rfl); (case hn => rfl); (case hr => first | (go_simp; done) | (go_simp; rfl)); intro w41 hw; have hg : wr.grownBy w41 (some go39) := (by rw [hw]; exact HP40.2); have hp_ : Kd.R (Kd.int .u8) 5 w41 w.heap.size (fun _ => True) (.slice (some ⟨go39, 0, none⟩) x6_3.length co27) y114 := (by rw [hw, Ny114.out]; exact HP40.1); clear HP40; have n0_ := Aside0.mk (hp_); have n1_ := Aside0.mk (Kd.R_over' (v := (.slice (some ⟨go39, 0, none⟩) x6_3.length co27)) (by (with_reducible repeat (first | apply Kd.R_alloc | apply Kd.R_drewN | apply Kd.R_drew)); exact HO_46.out) (Kd.R_typed HO_6.out) (by decide) hg); have n2_ := Aside0.mk (blk_grown (g := gb101) (o := .cells #[.int .i64 0, .int .i64 0, .int .i64 0, .string (⟨#[]⟩ : ByteArray)] 46 (0, 0)) (by (with_reducible repeat (first | refine blk_drewN ?_ _ | refine blk_drew ?_ | refine blk_alloc ?_ _)); exact BK101.out) hg (Kd.R_ne HO_6.out BK101.out (by decide))); have n3_ := Aside0.mk (blk_grown (g := gb107) (o := .cells #[.int .i64 1, .int .i64 0, .int .i64 ji15, .string (⟨#[]⟩ : ByteArray)] 46 (0, 0)) (by (with_reducible repeat (first | refine blk_drewN ?_ _ | refine blk_drew ?_ | refine blk_alloc ?_ _)); exact BK107.out) hg (Kd.R_ne HO_6.out BK107.out (by decide))); have n4_ := Aside0.mk ((by rw [hw]; exact below_set (HB.out) GB39.out : Below w.heap.size w w41)); clear HO_6; clear HO_46; clear BK101; clear BK107; clear HB; have HO_6 := n0_; have HO_46 := n1_; have BK101 := n2_; have BK107 := n3_; have HB := n4_; clear n0_ n1_ n2_ n3_ n4_; clear hg hw hp_))
                                      (try simp only [← hl6_3])
                                      go_roundg k3
                                      case measure => have := HJ2.out; have := HK2.out; have := HK3.out; omega
                                      case rel => exact ⟨(y114), (wrap64 (x48_3 + 1)), (by first | rfl | (simp; done) | (simp [*]; done)), H', ⟨by have := HJ2.out; have := HK2.out; have := HK3.out; omega⟩, ⟨by (try simp only [hl6_3]); (with_reducible repeat (first | apply Kd.R_alloc | apply Kd.R_drewN | apply Kd.R_drew)); exact HO_6.out⟩, ⟨by (try simp only [hl6_3]); (with_reducible repeat (first | apply Kd.R_alloc | apply Kd.R_drewN | apply Kd.R_drew)); exact HO_46.out⟩, ⟨by (try simp only [hl6_3]); (with_reducible repeat (first | refine blk_drewN ?_ _ | refine blk_drew ?_ | refine blk_alloc ?_ _)); exact BK101.out⟩, ⟨by (try simp only [hl6_3]); (with_reducible repeat (first | refine blk_drewN ?_ _ | refine blk_drew ?_ | refine blk_alloc ?_ _)); exact BK107.out⟩, ⟨by repeat (first | (with_reducible first | exact HB.out | apply below_alloc | apply pw_below_drewN | apply below_drew1 | refine below_set ?_ GE101.out | refine below_set ?_ GE107.out) | exact HB.out)⟩⟩
                                    · rw [if_neg c37] at H
                                      exact absurd H (by simp)
                                  · rw [if_neg c35] at H
                                    exact absurd H (by simp)
                                · rw [if_neg c34] at H
                                  exact absurd H (by simp)
                              · rw [if_neg c32] at H
                                exact absurd H (by simp)
                            · rw [if_neg c31] at H
                              exact absurd H (by simp)
                          · rw [if_neg c30] at H
                            have c30b0 : decide (x48_3 < (t109.length : Int)) = false := decide_eq_false c30
                            clear c30
                            have H' := Aside0.mk H
                            clear H
                            go_wp2
                            (try simp only [← hl6_3])
                            go_roundg k3
                            case measure => have := HJ2.out; have := HK2.out; have := HK3.out; omega
                            case rel => exact ⟨(x6_3), (wrap64 (x37_2 + 1)), (by first | rfl | (simp; done) | (simp [*]; done)), H', ⟨by have := HJ2.out; have := HK2.out; have := HK3.out; omega⟩, ⟨by (try simp only [hl6_3]); (with_reducible repeat (first | apply Kd.R_alloc | apply Kd.R_drewN | apply Kd.R_drew)); exact HO_6.out⟩, ⟨by (try simp only [hl6_3]); (with_reducible repeat (first | refine blk_drewN ?_ _ | refine blk_drew ?_ | refine blk_alloc ?_ _)); exact BK101.out⟩, ⟨by (try simp only [hl6_3]); (with_reducible repeat (first | refine blk_drewN ?_ _ | refine blk_drew ?_ | refine blk_alloc ?_ _)); exact BK107.out⟩, ⟨by repeat (first | (with_reducible first | exact HB.out | apply below_alloc | apply pw_below_drewN | apply below_drew1 | refine below_set ?_ GE101.out | refine below_set ?_ GE107.out) | exact HB.out)⟩⟩
                    · rw [if_neg c23] at H
                      exact absurd H (by simp)
                  · rw [if_neg c22] at H
                    exact absurd H (by simp)
                · rw [if_neg c21] at H
                  have c21b0 : decide (x37_2 < (l0.length : Int)) = false := decide_eq_false c21
                  clear c21
                  simp only [Option.some.injEq, Prod.mk.injEq] at H
                  obtain ⟨rfl, rfl, rfl, rfl, rfl⟩ := H
                  have hcv42 := own_string (P := Try.prog) Try.underlying51 Try.underlying5 Try.underlying9 (Kd.own_of_R HO_6.out)
                  have hnb43 := NB107_101.out
                  have hnc43 := NB101_107.out
                  have hcz44_0 : wr.cell? ⟨gb107, 0, none⟩ = some (.int .i64 1) := (blk_cell BK107.out 0).trans rfl
                  have hcz44_1 : wr.cell? ⟨gb107, 1, none⟩ = some (.int .i64 0) := (blk_cell BK107.out 1).trans rfl
                  have hcz44_2 : wr.cell? ⟨gb107, 2, none⟩ = some (.int .i64 ji15) := (blk_cell BK107.out 2).trans rfl
                  have hcz44_3 : wr.cell? ⟨gb107, 3, none⟩ = some (.string (⟨#[]⟩ : ByteArray)) := (blk_cell BK107.out 3).trans rfl
                  have hfz44_0 := blk_frozen BK107.out 0
                  have hfz44_1 := blk_frozen BK107.out 1
                  have hfz44_2 := blk_frozen BK107.out 2
                  have hfz44_3 := blk_frozen BK107.out 3
                  have hcz45_0 : wr.cell? ⟨gb101, 0, none⟩ = some (.int .i64 0) := (blk_cell BK101.out 0).trans rfl
                  have hcz45_1 : wr.cell? ⟨gb101, 1, none⟩ = some (.int .i64 0) := (blk_cell BK101.out 1).trans rfl
                  have hcz45_2 : wr.cell? ⟨gb101, 2, none⟩ = some (.int .i64 0) := (blk_cell BK101.out 2).trans rfl
                  have hcz45_3 : wr.cell? ⟨gb101, 3, none⟩ = some (.string (⟨#[]⟩ : ByteArray)) := (blk_cell BK101.out 3).trans rfl
                  have hfz45_0 := blk_frozen BK101.out 0
                  have hfz45_1 := blk_frozen BK101.out 1
                  have hfz45_2 := blk_frozen BK101.out 2
                  have hfz45_3 := blk_frozen BK101.out 3
                  go_wp2
                  refine bodyPost_ret (results_ct rfl _ _ gb101 46 #[.int .i64 1, .int .i64 0, .int .i64 ji15, .string (strOfNums x6_2)] (0, 0) _ rfl (by (with_reducible repeat (first | refine blk_drewN ?_ _ | refine blk_drew ?_ | refine blk_alloc ?_ _)); refine blk_put (cs := #[.int .i64 1, .int .i64 0, .int .i64 ji15, .string (⟨#[]⟩ : ByteArray)]) ?_ 3 _ rfl; (with_reducible repeat (first | refine blk_drewN ?_ _ | refine blk_drew ?_ | refine blk_alloc ?_ _)); refine blk_put (cs := #[.int .i64 1, .int .i64 0, .int .i64 0, .string (⟨#[]⟩ : ByteArray)]) ?_ 2 _ rfl; (with_reducible repeat (first | refine blk_drewN ?_ _ | refine blk_drew ?_ | refine blk_alloc ?_ _)); refine blk_put (cs := #[.int .i64 1, .int .i64 0, .int .i64 0, .string (⟨#[]⟩ : ByteArray)]) ?_ 1 _ rfl; (with_reducible repeat (first | refine blk_drewN ?_ _ | refine blk_drew ?_ | refine blk_alloc ?_ _)); refine blk_put (cs := #[.int .i64 0, .int .i64 0, .int .i64 0, .string (⟨#[]⟩ : ByteArray)]) ?_ 0 _ rfl; (with_reducible repeat (first | refine blk_drewN ?_ _ | refine blk_drew ?_ | refine blk_alloc ?_ _)); refine blk_far ?_ NB101_107.out _; (with_reducible repeat (first | refine blk_drewN ?_ _ | refine blk_drew ?_ | refine blk_alloc ?_ _)); exact BK101.out) Try.underlying46 rfl (by kernel_rfl)) rfl ?_
                  exact ⟨by first | rfl | (simp [errW_none, errW_some] <;> rfl) | (simp only [← hji10, ← hji11, ← hji14, ← hji15]; first | rfl | (simp [errW_none, errW_some] <;> rfl)) | (simp [*, errW_none, errW_some] <;> rfl), by repeat (first | (with_reducible first | exact HB.out | apply below_alloc | apply pw_below_drewN | apply below_drew1 | refine below_set ?_ GE101.out | refine below_set ?_ GE107.out) | exact HB.out)⟩
          · rw [if_neg c13] at H
            exact absurd H (by simp)
        · rw [if_neg c12] at H
          exact absurd H (by simp)
mutual
def impl_FilterOf.j0 : Nat → List ByteArray → Int → Bool → Option (Int × Int × Int × ByteArray × Bool)
  | 0, _, _, _ => none
  | k + 1, x0, x1, x16 => if x16 = true then (some (0, 0, 0, (⟨#[]⟩ : ByteArray), false)) else (if x1 = 0 then (some (0, 0, 0, (⟨#[]⟩ : ByteArray), true)) else (impl_FilterOf.l0 k x0 x1 0))
def impl_FilterOf.l0 : Nat → List ByteArray → Int → Int → Option (Int × Int × Int × ByteArray × Bool)
  | 0, _, _, _ => none
  | k + 1, x0, x1, x6 => if x1 = 2 then (impl_FilterOf.j2 k x0 x1 x6 (decide (x6 < 4))) else (impl_FilterOf.j2 k x0 x1 x6 false)
def impl_FilterOf.j2 : Nat → List ByteArray → Int → Int → Bool → Option (Int × Int × Int × ByteArray × Bool)
  | 0, _, _, _, _ => none
  | k + 1, x0, x1, x6, x26 => if x26 = true then ((impl_RibbonOf.f k x0 x6).bind fun bt104 => (if bt104.2.2.2.2 = true then (some (bt104.1, bt104.2.1, bt104.2.2.1, bt104.2.2.2.1, true)) else (impl_FilterOf.l0 k x0 x1 (wrap64 (x6 + 1))))) else ((impl_BloomOf.f k x0 10).bind fun bt110 => (some (bt110.1, bt110.2.1, bt110.2.2.1, bt110.2.2.2.1, bt110.2.2.2.2)))
end
def impl_FilterOf.f (k : Nat) (l0 : List ByteArray) (a1 : Int) : Option (Int × Int × Int × ByteArray × Bool) := (impl_UsersOk.f k l0).bind fun t102 => (if t102 = true then ((impl_within.f a1 0 2).bind fun t103 => (impl_FilterOf.j0 k l0 a1 (!t103))) else (impl_FilterOf.j0 k l0 a1 true))
set_option maxHeartbeats 8000000 in
set_option maxRecDepth 100000 in
theorem impl_FilterOf.calls (k : Nat) (A0 : Option Addr) (c0 : Nat) (l0 : List ByteArray) (a1 : Int) (r1 : Int) (r2 : Int) (r3 : Int) (r4 : ByteArray) (r5 : Bool) (w : World) (hr0 : Kd.C Kd.string w A0 l0.length l0) (hc0 : l0.length ≤ c0) (h : impl_FilterOf.f k l0 a1 = some (r1, r2, r3, r4, r5)) :
    Calls Try.prog 53 #[.slice A0 l0.length c0, .int .i64 a1] w fun e w' => e = .returned (.tuple #[.agg #[.int .i64 r1, .int .i64 r2, .int .i64 r3, .string r4], .bool r5]) ∧ Below w.heap.size w w' := by
  have hu46 := Try.underlying46
  have HR0 := Aside0.mk hr0
  have HC0 := Aside0.mk hc0
  clear hr0 hc0
  have HB := Aside0.mk (Below.refl w.heap.size w)
  have H : ((impl_UsersOk.f k l0).bind fun t102 => (if t102 = true then ((impl_within.f a1 0 2).bind fun t103 => (impl_FilterOf.j0 k l0 a1 (!t103))) else (impl_FilterOf.j0 k l0 a1 true))) = some (r1, r2, r3, r4, r5) := h
  clear h
  have HC3 := Aside0.mk H
  clear H
  go_enter Try.func53, Try.ntmps53
  go_upto_region 1 with (first | ((with_reducible refine gate_dst (N := 4) rfl ?_); refine box_event ?hg (N := 4) ?hd (cs := #[.int .i64 0, .int .i64 0, .int .i64 0, .string (⟨#[]⟩ : ByteArray)]) (t := 46) ?hr ?_; (case hd => rfl); (case hg => rfl); (case hr => first | (go_simp; done) | (go_simp; rfl)); intro gb101 hg w4 hbox hb; have n0_ := Aside0.mk (below_step (by repeat (first | (with_reducible first | exact HB.out | apply below_alloc | apply pw_below_drewN | apply below_drew1) | exact HB.out)) hb); have n1_ := Aside0.mk (hbox); have n2_ := Aside0.mk ((by rw [hg]; exact (below_size (by repeat (first | (with_reducible first | exact HB.out | apply below_alloc | apply pw_below_drewN | apply below_drew1) | exact HB.out))) : w.heap.size ≤ gb101)); have n3_ := Aside0.mk ((by rw [hg]; exact (below_size (by repeat (first | (with_reducible first | exact HB.out | apply below_alloc | apply pw_below_drewN | apply below_drew1) | exact HB.out))) : w.heap.size ≤ gb101)); clear HB; have HB := n0_; have BK101 := n1_; have GW101 := n2_; have GE101 := n3_; clear n0_ n1_ n2_ n3_; clear hb hbox hg))
  (try simp only [Act.put, List.setIfInBounds_toArray, List.set_cons_zero, List.set_cons_succ])
  go_cut [16] (fun v16 wc => ∃ (kq : Nat) (x16_2 : Bool), v16 = .bool x16_2 ∧ Aside0 (impl_FilterOf.j0 kq l0 a1 x16_2 = some (r1, r2, r3, r4, r5)) ∧ Aside0 (kq ≤ k) ∧ Aside0 (wc.heap[gb101]? = some (.cells #[.int .i64 0, .int .i64 0, .int .i64 0, .string (⟨#[]⟩ : ByteArray)] 46 (0, 0))) ∧ Aside0 (Below w.heap.size w wc))
  case first =>
    have H := HC3.out
    clear HC3
    replace H := Option.bind_eq_some_iff.mp H
    obtain ⟨t102, A50, H⟩ := H
    replace H : (if t102 = true then ((impl_within.f a1 0 2).bind fun t103 => (impl_FilterOf.j0 k l0 a1 (!t103))) else (impl_FilterOf.j0 k l0 a1 true)) = some (r1, r2, r3, r4, r5) := H
    have A5 := Aside0.mk A50
    clear A50
    by_cases c6 : t102 = true
    · subst c6
      have H1 : ((impl_within.f a1 0 2).bind fun t103 => (impl_FilterOf.j0 k l0 a1 (!t103))) = some (r1, r2, r3, r4, r5) := by rw [if_pos rfl] at H; exact H
      clear H
      have H := H1
      clear H1
      replace H := Option.bind_eq_some_iff.mp H
      obtain ⟨t103, A70, H⟩ := H
      replace H : (impl_FilterOf.j0 k l0 a1 (!t103)) = some (r1, r2, r3, r4, r5) := H
      have A7 := Aside0.mk A70
      clear A70
      have H' := Aside0.mk H
      clear H
      go_wp2_with (first | ((with_reducible refine gate_callee (f := 98) rfl ?_); refine goesL_ (some 10) rfl rfl Try.func98 (by kernel_rfl) rfl #[.slice A0 l0.length c0] rfl (by (try simp only [List.map_toArray, List.map_cons, List.map_nil]); first | done | rfl | (simp only [List.length_drop, List.length_take]; rfl) | (rw [IntWalk.u64_in _ (by omega)] <;> rfl)) ?_; (with_reducible refine (impl_UsersOk.calls k _ _ l0 true _ ?side1 ?side2 A5.out).mono ?_); (case side1 => repeat (first | exact (Kd.C_below HR0.out HB.out) | (with_reducible refine Kd.C_alloc ?_ _) | (with_reducible refine Kd.C_drewN ?_ _) | (with_reducible refine Kd.C_drew ?_))); (case side2 => exact HC0.out); rintro e w' ⟨rfl, ⟨nd, rfl⟩⟩; refine ⟨_, rfl, ?_⟩) | (go_at_call 62; (with_reducible refine (impl_within.calls a1 0 2 t103 _ A7.out).mono ?_); rintro e w' ⟨rfl, ⟨nd, rfl⟩⟩))
      go_meet
      case rel => exact ⟨_, (!t103), (by first | rfl | (simp; done) | (simp [*]; done)), H', ⟨by first | omega | exact Nat.le_refl _⟩, ⟨by (with_reducible repeat (first | refine blk_drewN ?_ _ | refine blk_drew ?_ | refine blk_alloc ?_ _)); exact BK101.out⟩, ⟨by repeat (first | (with_reducible first | exact HB.out | apply below_alloc | apply pw_below_drewN | apply below_drew1 | refine below_set ?_ GE101.out) | exact HB.out)⟩⟩
    · replace c6 := Bool.eq_false_iff.mpr c6
      subst c6
      have H1 : (impl_FilterOf.j0 k l0 a1 true) = some (r1, r2, r3, r4, r5) := by rw [if_neg (show ¬ (false = true) by decide)] at H; exact H
      clear H
      have H := H1
      clear H1
      have H' := Aside0.mk H
      clear H
      go_wp2_with (first | ((with_reducible refine gate_callee (f := 98) rfl ?_); refine goesL_ (some 10) rfl rfl Try.func98 (by kernel_rfl) rfl #[.slice A0 l0.length c0] rfl (by (try simp only [List.map_toArray, List.map_cons, List.map_nil]); first | done | rfl | (simp only [List.length_drop, List.length_take]; rfl) | (rw [IntWalk.u64_in _ (by omega)] <;> rfl)) ?_; (with_reducible refine (impl_UsersOk.calls k _ _ l0 false _ ?side1 ?side2 A5.out).mono ?_); (case side1 => repeat (first | exact (Kd.C_below HR0.out HB.out) | (with_reducible refine Kd.C_alloc ?_ _) | (with_reducible refine Kd.C_drewN ?_ _) | (with_reducible refine Kd.C_drew ?_))); (case side2 => exact HC0.out); rintro e w' ⟨rfl, ⟨nd, rfl⟩⟩; refine ⟨_, rfl, ?_⟩))
      go_meet
      case rel => exact ⟨_, (true), (by first | rfl | (simp; done) | (simp [*]; done)), H', ⟨by first | omega | exact Nat.le_refl _⟩, ⟨by (with_reducible repeat (first | refine blk_drewN ?_ _ | refine blk_drew ?_ | refine blk_alloc ?_ _)); exact BK101.out⟩, ⟨by repeat (first | (with_reducible first | exact HB.out | apply below_alloc | apply pw_below_drewN | apply below_drew1 | refine below_set ?_ GE101.out) | exact HB.out)⟩⟩
  case rest =>
    clear HC3
    try clear p2
    try clear c5
    try clear c6
    obtain ⟨kq, x16_2, rfl, HA, HJ2, BK101, HB⟩ := hcut
    cases kq with
    | zero => exact absurd HA.out (by simp [impl_FilterOf.j0])
    | succ kj2 =>
      have H := HA.out
      clear HA
      simp only [impl_FilterOf.j0] at H
      by_cases c8 : x16_2 = true
      · subst c8
        have H1 : (some (0, 0, 0, (⟨#[]⟩ : ByteArray), false)) = some (r1, r2, r3, r4, r5) := by rw [if_pos rfl] at H; exact H
        clear H
        have H := H1
        clear H1
        simp only [Option.some.injEq, Prod.mk.injEq] at H
        obtain ⟨rfl, rfl, rfl, rfl, rfl⟩ := H
        have hcz9_0 : wc.cell? ⟨gb101, 0, none⟩ = some (.int .i64 0) := (blk_cell BK101.out 0).trans rfl
        have hcz9_1 : wc.cell? ⟨gb101, 1, none⟩ = some (.int .i64 0) := (blk_cell BK101.out 1).trans rfl
        have hcz9_2 : wc.cell? ⟨gb101, 2, none⟩ = some (.int .i64 0) := (blk_cell BK101.out 2).trans rfl
        have hcz9_3 : wc.cell? ⟨gb101, 3, none⟩ = some (.string (⟨#[]⟩ : ByteArray)) := (blk_cell BK101.out 3).trans rfl
        have hfz9_0 := blk_frozen BK101.out 0
        have hfz9_1 := blk_frozen BK101.out 1
        have hfz9_2 := blk_frozen BK101.out 2
        have hfz9_3 := blk_frozen BK101.out 3
        go_wp2
        refine bodyPost_ret (results_ct rfl _ _ gb101 46 #[.int .i64 0, .int .i64 0, .int .i64 0, .string (⟨#[]⟩ : ByteArray)] (0, 0) _ rfl (by (with_reducible repeat (first | refine blk_drewN ?_ _ | refine blk_drew ?_ | refine blk_alloc ?_ _)); refine blk_put (cs := #[.int .i64 0, .int .i64 0, .int .i64 0, .string (⟨#[]⟩ : ByteArray)]) ?_ 3 _ rfl; (with_reducible repeat (first | refine blk_drewN ?_ _ | refine blk_drew ?_ | refine blk_alloc ?_ _)); refine blk_put (cs := #[.int .i64 0, .int .i64 0, .int .i64 0, .string (⟨#[]⟩ : ByteArray)]) ?_ 2 _ rfl; (with_reducible repeat (first | refine blk_drewN ?_ _ | refine blk_drew ?_ | refine blk_alloc ?_ _)); refine blk_put (cs := #[.int .i64 0, .int .i64 0, .int .i64 0, .string (⟨#[]⟩ : ByteArray)]) ?_ 1 _ rfl; (with_reducible repeat (first | refine blk_drewN ?_ _ | refine blk_drew ?_ | refine blk_alloc ?_ _)); refine blk_put (cs := #[.int .i64 0, .int .i64 0, .int .i64 0, .string (⟨#[]⟩ : ByteArray)]) ?_ 0 _ rfl; (with_reducible repeat (first | refine blk_drewN ?_ _ | refine blk_drew ?_ | refine blk_alloc ?_ _)); exact BK101.out) Try.underlying46 rfl (by kernel_rfl)) rfl ?_
        exact ⟨by first | rfl | (simp [errW_none, errW_some] <;> rfl) | (simp [*, errW_none, errW_some] <;> rfl), by repeat (first | (with_reducible first | exact HB.out | apply below_alloc | apply pw_below_drewN | apply below_drew1 | refine below_set ?_ GE101.out) | exact HB.out)⟩
      · replace c8 := Bool.eq_false_iff.mpr c8
        subst c8
        have H1 : (if a1 = 0 then (some (0, 0, 0, (⟨#[]⟩ : ByteArray), true)) else (impl_FilterOf.l0 kj2 l0 a1 0)) = some (r1, r2, r3, r4, r5) := by rw [if_neg (show ¬ (false = true) by decide)] at H; exact H
        clear H
        have H := H1
        clear H1
        by_cases c10 : a1 = 0
        · rw [if_pos c10] at H
          have c10b0 : (a1 == 0) = true := beq_iff_eq.mpr c10
          have c10b1 : (a1 != 0) = false := bne_eq_false_iff_eq.mpr c10
          clear c10
          simp only [Option.some.injEq, Prod.mk.injEq] at H
          obtain ⟨rfl, rfl, rfl, rfl, rfl⟩ := H
          have hcz11_0 : wc.cell? ⟨gb101, 0, none⟩ = some (.int .i64 0) := (blk_cell BK101.out 0).trans rfl
          have hcz11_1 : wc.cell? ⟨gb101, 1, none⟩ = some (.int .i64 0) := (blk_cell BK101.out 1).trans rfl
          have hcz11_2 : wc.cell? ⟨gb101, 2, none⟩ = some (.int .i64 0) := (blk_cell BK101.out 2).trans rfl
          have hcz11_3 : wc.cell? ⟨gb101, 3, none⟩ = some (.string (⟨#[]⟩ : ByteArray)) := (blk_cell BK101.out 3).trans rfl
          have hfz11_0 := blk_frozen BK101.out 0
          have hfz11_1 := blk_frozen BK101.out 1
          have hfz11_2 := blk_frozen BK101.out 2
          have hfz11_3 := blk_frozen BK101.out 3
          go_wp2
          refine bodyPost_ret (results_ct rfl _ _ gb101 46 #[.int .i64 0, .int .i64 0, .int .i64 0, .string (⟨#[]⟩ : ByteArray)] (0, 0) _ rfl (by (with_reducible repeat (first | refine blk_drewN ?_ _ | refine blk_drew ?_ | refine blk_alloc ?_ _)); refine blk_put (cs := #[.int .i64 0, .int .i64 0, .int .i64 0, .string (⟨#[]⟩ : ByteArray)]) ?_ 3 _ rfl; (with_reducible repeat (first | refine blk_drewN ?_ _ | refine blk_drew ?_ | refine blk_alloc ?_ _)); refine blk_put (cs := #[.int .i64 0, .int .i64 0, .int .i64 0, .string (⟨#[]⟩ : ByteArray)]) ?_ 2 _ rfl; (with_reducible repeat (first | refine blk_drewN ?_ _ | refine blk_drew ?_ | refine blk_alloc ?_ _)); refine blk_put (cs := #[.int .i64 0, .int .i64 0, .int .i64 0, .string (⟨#[]⟩ : ByteArray)]) ?_ 1 _ rfl; (with_reducible repeat (first | refine blk_drewN ?_ _ | refine blk_drew ?_ | refine blk_alloc ?_ _)); refine blk_put (cs := #[.int .i64 0, .int .i64 0, .int .i64 0, .string (⟨#[]⟩ : ByteArray)]) ?_ 0 _ rfl; (with_reducible repeat (first | refine blk_drewN ?_ _ | refine blk_drew ?_ | refine blk_alloc ?_ _)); exact BK101.out) Try.underlying46 rfl (by kernel_rfl)) rfl ?_
          exact ⟨by first | rfl | (simp [errW_none, errW_some] <;> rfl) | (simp [*, errW_none, errW_some] <;> rfl), by repeat (first | (with_reducible first | exact HB.out | apply below_alloc | apply pw_below_drewN | apply below_drew1 | refine below_set ?_ GE101.out) | exact HB.out)⟩
        · rw [if_neg c10] at H
          have c10b0 : (a1 == 0) = false := beq_eq_false_iff_ne.mpr c10
          have c10b1 : (a1 != 0) = true := bne_iff_ne.mpr c10
          have H' := Aside0.mk H
          clear H
          go_wp2
          go_loopg [6] kj2 (fun kq v6 w' => ∃ (x6_2 : Int) (x102000_2 : Int) (x102001_2 : Int) (x102002_2 : Int) (x102003_2 : ByteArray), v6 = .int .i64 x6_2 ∧ Aside0 (impl_FilterOf.l0 kq l0 a1 x6_2 = some (r1, r2, r3, r4, r5)) ∧ Aside0 (kq ≤ kj2) ∧ Aside0 (w'.heap[gb101]? = some (.cells #[.int .i64 x102000_2, .int .i64 x102001_2, .int .i64 x102002_2, .string x102003_2] 46 (0, 0))) ∧ Aside0 (Below w.heap.size w w'))
          case atStart => exact ⟨(0), (0), (0), (0), ((⟨#[]⟩ : ByteArray)), (by first | rfl | (simp; done) | (simp [*]; done)), H', ⟨Nat.le_refl _⟩, ⟨by (with_reducible repeat (first | refine blk_drewN ?_ _ | refine blk_drew ?_ | refine blk_alloc ?_ _)); exact BK101.out⟩, ⟨by repeat (first | (with_reducible first | exact HB.out | apply below_alloc | apply pw_below_drewN | apply below_drew1 | refine below_set ?_ GE101.out) | exact HB.out)⟩⟩
          case round =>
            clear H'
            try clear c1
            try clear p2
            try clear c5
            try clear c6
            try clear c8
            try clear c9
            try clear c10
            try clear c10b0
            try clear c10b1
            try clear hcz11_0
            try clear hcz11_1
            try clear hcz11_2
            try clear hcz11_3
            try clear hcz9_0
            try clear hcz9_1
            try clear hcz9_2
            try clear hcz9_3
            try clear hfz11_0
            try clear hfz11_1
            try clear hfz11_2
            try clear hfz11_3
            try clear hfz9_0
            try clear hfz9_1
            try clear hfz9_2
            try clear hfz9_3
            try clear p2
            obtain ⟨x6_2, x102000_2, x102001_2, x102002_2, x102003_2, rfl, HA, HK2, BK101, HB⟩ := hrel
            cases gk with
            | zero => exact absurd HA.out (by simp [impl_FilterOf.l0])
            | succ k2 =>
              have H := HA.out
              clear HA
              simp only [impl_FilterOf.l0] at H
              have HC12 := Aside0.mk H
              clear H
              go_upto_region 6 with (fail)
              go_cut [26] (fun v26 wc => ∃ (kq : Nat) (x26_11 : Bool), v26 = .bool x26_11 ∧ Aside0 (impl_FilterOf.j2 kq l0 a1 x6_2 x26_11 = some (r1, r2, r3, r4, r5)) ∧ Aside0 (kq ≤ k2) ∧ Aside0 (wc.heap[gb101]? = some (.cells #[.int .i64 x102000_2, .int .i64 x102001_2, .int .i64 x102002_2, .string x102003_2] 46 (0, 0))) ∧ Aside0 (Below w.heap.size w wc))
              case first =>
                have H := HC12.out
                clear HC12
                by_cases c13 : a1 = 2
                · rw [if_pos c13] at H
                  have c13b0 : (a1 == 2) = true := beq_iff_eq.mpr c13
                  have c13b1 : (a1 != 2) = false := bne_eq_false_iff_eq.mpr c13
                  clear c13
                  (first | rw [c13b0] | (simp only [i64_w, i32_w]; rw [c13b0]) | skip)
                  have H' := Aside0.mk H
                  clear H
                  go_wp2
                  go_meet
                  case rel => exact ⟨_, (decide (x6_2 < 4)), (by first | rfl | (simp; done) | (simp [*]; done)), H', ⟨by have := HJ2.out; have := HK2.out; first | omega | exact Nat.le_refl _⟩, ⟨by (with_reducible repeat (first | refine blk_drewN ?_ _ | refine blk_drew ?_ | refine blk_alloc ?_ _)); exact BK101.out⟩, ⟨by repeat (first | (with_reducible first | exact HB.out | apply below_alloc | apply pw_below_drewN | apply below_drew1 | refine below_set ?_ GE101.out) | exact HB.out)⟩⟩
                · rw [if_neg c13] at H
                  have c13b0 : (a1 == 2) = false := beq_eq_false_iff_ne.mpr c13
                  have c13b1 : (a1 != 2) = true := bne_iff_ne.mpr c13
                  (first | rw [c13b0] | (simp only [i64_w, i32_w]; rw [c13b0]) | skip)
                  have H' := Aside0.mk H
                  clear H
                  go_wp2
                  go_meet
                  case rel => exact ⟨_, (false), (by first | rfl | (simp; done) | (simp [*]; done)), H', ⟨by have := HJ2.out; have := HK2.out; first | omega | exact Nat.le_refl _⟩, ⟨by (with_reducible repeat (first | refine blk_drewN ?_ _ | refine blk_drew ?_ | refine blk_alloc ?_ _)); exact BK101.out⟩, ⟨by repeat (first | (with_reducible first | exact HB.out | apply below_alloc | apply pw_below_drewN | apply below_drew1 | refine below_set ?_ GE101.out) | exact HB.out)⟩⟩
              case rest =>
                clear HC12
                try clear c1
                try clear p2
                try clear c5
                try clear c6
                try clear c8
                try clear c9
                try clear c10
                try clear c10b0
                try clear c10b1
                try clear c13
                try clear c13b0
                try clear c13b1
                try clear hcz11_0
                try clear hcz11_1
                try clear hcz11_2
                try clear hcz11_3
                try clear hcz9_0
                try clear hcz9_1
                try clear hcz9_2
                try clear hcz9_3
                try clear hfz11_0
                try clear hfz11_1
                try clear hfz11_2
                try clear hfz11_3
                try clear hfz9_0
                try clear hfz9_1
                try clear hfz9_2
                try clear hfz9_3
                try clear p2
                obtain ⟨kq, x26_11, rfl, HA, HJ11, BK101, HB⟩ := hcut
                cases kq with
                | zero => exact absurd HA.out (by simp [impl_FilterOf.j2])
                | succ kj11 =>
                  have H := HA.out
                  clear HA
                  simp only [impl_FilterOf.j2] at H
                  by_cases c14 : x26_11 = true
                  · subst c14
                    have H1 : ((impl_RibbonOf.f kj11 l0 x6_2).bind fun bt104 => (if bt104.2.2.2.2 = true then (some (bt104.1, bt104.2.1, bt104.2.2.1, bt104.2.2.2.1, true)) else (impl_FilterOf.l0 kj11 l0 a1 (wrap64 (x6_2 + 1))))) = some (r1, r2, r3, r4, r5) := by rw [if_pos rfl] at H; exact H
                    clear H
                    have H := H1
                    clear H1
                    replace H := Option.bind_eq_some_iff.mp H
                    obtain ⟨⟨t104, t105, t106, t107, t108⟩, A150, H⟩ := H
                    replace H : (if t108 = true then (some (t104, t105, t106, t107, true)) else (impl_FilterOf.l0 kj11 l0 a1 (wrap64 (x6_2 + 1)))) = some (r1, r2, r3, r4, r5) := H
                    have A15 := Aside0.mk A150
                    clear A150
                    by_cases c16 : t108 = true
                    · subst c16
                      have H1 : (some (t104, t105, t106, t107, true)) = some (r1, r2, r3, r4, r5) := by rw [if_pos rfl] at H; exact H
                      clear H
                      have H := H1
                      clear H1
                      simp only [Option.some.injEq, Prod.mk.injEq] at H
                      obtain ⟨rfl, rfl, rfl, rfl, rfl⟩ := H
                      go_wp2_with (first | ((with_reducible refine gate_callee (f := 99) rfl ?_); refine goesL_ (some 32) rfl rfl Try.func99 (by kernel_rfl) rfl #[.slice A0 l0.length c0, .int .i64 x6_2] rfl (by (try simp only [List.map_toArray, List.map_cons, List.map_nil]); first | done | rfl | (simp only [List.length_drop, List.length_take]; rfl) | (rw [IntWalk.u64_in _ (by omega)] <;> rfl)) ?_; (with_reducible refine (impl_RibbonOf.calls kj11 _ _ l0 x6_2 t104 t105 t106 t107 true _ ?side1 ?side2 A15.out).mono ?_); (case side1 => repeat (first | exact (Kd.C_below HR0.out HB.out) | (with_reducible refine Kd.C_alloc ?_ _) | (with_reducible refine Kd.C_drewN ?_ _) | (with_reducible refine Kd.C_drew ?_))); (case side2 => exact HC0.out); rintro e w17 ⟨rfl, hb⟩; refine ⟨_, rfl, ?_⟩; have n0_ := Aside0.mk (blk_below (g := gb101) (o := .cells #[.int .i64 x102000_2, .int .i64 x102001_2, .int .i64 x102002_2, .string x102003_2] 46 (0, 0)) (by (with_reducible repeat (first | refine blk_drewN ?_ _ | refine blk_drew ?_ | refine blk_alloc ?_ _)); exact BK101.out) hb); have n1_ := Aside0.mk (below_step (by repeat (first | (with_reducible first | exact HB.out | apply below_alloc | apply pw_below_drewN | apply below_drew1 | refine below_set ?_ GE101.out) | exact HB.out)) hb); clear BK101; clear HB; have BK101 := n0_; have HB := n1_; clear n0_ n1_; (try clear hb); (try clear hb2); (try clear hk); (try clear hi)) | ((with_reducible refine gate_dst (N := 7) rfl ?_); refine box_event ?hg (N := 7) ?hd (cs := #[.int .i64 0, .int .i64 0, .int .i64 0, .string (⟨#[]⟩ : ByteArray)]) (t := 46) ?hr ?_; (case hd => rfl); (case hg => rfl); (case hr => first | (go_simp; done) | (go_simp; rfl)); intro gb109 hg w18 hbox hb; have n0_ := Aside0.mk (blk_below (g := gb101) (o := .cells #[.int .i64 x102000_2, .int .i64 x102001_2, .int .i64 x102002_2, .string x102003_2] 46 (0, 0)) (by (with_reducible repeat (first | refine blk_drewN ?_ _ | refine blk_drew ?_ | refine blk_alloc ?_ _)); exact BK101.out) hb); have n1_ := Aside0.mk (below_step (by repeat (first | (with_reducible first | exact HB.out | apply below_alloc | apply pw_below_drewN | apply below_drew1 | refine below_set ?_ GE101.out) | exact HB.out)) hb); have n2_ := Aside0.mk (hbox); have n3_ := Aside0.mk ((by rw [hg]; exact (below_size (by repeat (first | (with_reducible first | exact HB.out | apply below_alloc | apply pw_below_drewN | apply below_drew1 | refine below_set ?_ GE101.out) | exact HB.out))) : w.heap.size ≤ gb109)); have n4_ := Aside0.mk ((by rw [hg]; exact (below_size (by repeat (first | (with_reducible first | exact HB.out | apply below_alloc | apply pw_below_drewN | apply below_drew1 | refine below_set ?_ GE101.out) | exact HB.out))) : w.heap.size ≤ gb109)); have n5_ := Aside0.mk ((by rw [hg]; exact Nat.ne_of_lt (blk_lt (g := gb101) (o := .cells #[.int .i64 x102000_2, .int .i64 x102001_2, .int .i64 x102002_2, .string x102003_2] 46 (0, 0)) (by (with_reducible repeat (first | refine blk_drewN ?_ _ | refine blk_drew ?_ | refine blk_alloc ?_ _)); exact BK101.out)) : gb101 ≠ gb109)); have n6_ := Aside0.mk ((by rw [hg]; exact Nat.ne_of_gt (blk_lt (g := gb101) (o := .cells #[.int .i64 x102000_2, .int .i64 x102001_2, .int .i64 x102002_2, .string x102003_2] 46 (0, 0)) (by (with_reducible repeat (first | refine blk_drewN ?_ _ | refine blk_drew ?_ | refine blk_alloc ?_ _)); exact BK101.out)) : gb109 ≠ gb101)); clear BK101; clear HB; have BK101 := n0_; have HB := n1_; have BK109 := n2_; have GW109 := n3_; have GE109 := n4_; have NB101_109 := n5_; have NB109_101 := n6_; clear n0_ n1_ n2_ n3_ n4_ n5_ n6_; clear hb hbox hg; have hnb19 := NB109_101.out; have hnc19 := NB101_109.out; have hcz20_0 : w18.cell? ⟨gb109, 0, none⟩ = some (.int .i64 0) := (blk_cell BK109.out 0).trans rfl; have hcz20_1 : w18.cell? ⟨gb109, 1, none⟩ = some (.int .i64 0) := (blk_cell BK109.out 1).trans rfl; have hcz20_2 : w18.cell? ⟨gb109, 2, none⟩ = some (.int .i64 0) := (blk_cell BK109.out 2).trans rfl; have hcz20_3 : w18.cell? ⟨gb109, 3, none⟩ = some (.string (⟨#[]⟩ : ByteArray)) := (blk_cell BK109.out 3).trans rfl; have hfz20_0 := blk_frozen BK109.out 0; have hfz20_1 := blk_frozen BK109.out 1; have hfz20_2 := blk_frozen BK109.out 2; have hfz20_3 := blk_frozen BK109.out 3; have hcz21_0 : w18.cell? ⟨gb101, 0, none⟩ = some (.int .i64 x102000_2) := (blk_cell BK101.out 0).trans rfl; have hcz21_1 : w18.cell? ⟨gb101, 1, none⟩ = some (.int .i64 x102001_2) := (blk_cell BK101.out 1).trans rfl; have hcz21_2 : w18.cell? ⟨gb101, 2, none⟩ = some (.int .i64 x102002_2) := (blk_cell BK101.out 2).trans rfl; have hcz21_3 : w18.cell? ⟨gb101, 3, none⟩ = some (.string x102003_2) := (blk_cell BK101.out 3).trans rfl; have hfz21_0 := blk_frozen BK101.out 0; have hfz21_1 := blk_frozen BK101.out 1; have hfz21_2 := blk_frozen BK101.out 2; have hfz21_3 := blk_frozen BK101.out 3))
                      refine bodyPost_ret (results_ct rfl _ _ gb101 46 #[.int .i64 t104, .int .i64 t105, .int .i64 t106, .string t107] (0, 0) _ rfl (by (with_reducible repeat (first | refine blk_drewN ?_ _ | refine blk_drew ?_ | refine blk_alloc ?_ _)); refine blk_put (cs := #[.int .i64 t104, .int .i64 t105, .int .i64 t106, .string x102003_2]) ?_ 3 _ rfl; (with_reducible repeat (first | refine blk_drewN ?_ _ | refine blk_drew ?_ | refine blk_alloc ?_ _)); refine blk_put (cs := #[.int .i64 t104, .int .i64 t105, .int .i64 x102002_2, .string x102003_2]) ?_ 2 _ rfl; (with_reducible repeat (first | refine blk_drewN ?_ _ | refine blk_drew ?_ | refine blk_alloc ?_ _)); refine blk_put (cs := #[.int .i64 t104, .int .i64 x102001_2, .int .i64 x102002_2, .string x102003_2]) ?_ 1 _ rfl; (with_reducible repeat (first | refine blk_drewN ?_ _ | refine blk_drew ?_ | refine blk_alloc ?_ _)); refine blk_put (cs := #[.int .i64 x102000_2, .int .i64 x102001_2, .int .i64 x102002_2, .string x102003_2]) ?_ 0 _ rfl; (with_reducible repeat (first | refine blk_drewN ?_ _ | refine blk_drew ?_ | refine blk_alloc ?_ _)); refine blk_far ?_ NB101_109.out _; (with_reducible repeat (first | refine blk_drewN ?_ _ | refine blk_drew ?_ | refine blk_alloc ?_ _)); refine blk_far ?_ NB101_109.out _; (with_reducible repeat (first | refine blk_drewN ?_ _ | refine blk_drew ?_ | refine blk_alloc ?_ _)); refine blk_far ?_ NB101_109.out _; (with_reducible repeat (first | refine blk_drewN ?_ _ | refine blk_drew ?_ | refine blk_alloc ?_ _)); refine blk_far ?_ NB101_109.out _; (with_reducible repeat (first | refine blk_drewN ?_ _ | refine blk_drew ?_ | refine blk_alloc ?_ _)); exact BK101.out) Try.underlying46 rfl (by kernel_rfl)) rfl ?_
                      exact ⟨by first | rfl | (simp [errW_none, errW_some] <;> rfl) | (simp [*, errW_none, errW_some] <;> rfl), by repeat (first | (with_reducible first | exact HB.out | apply below_alloc | apply pw_below_drewN | apply below_drew1 | refine below_set ?_ GE101.out | refine below_set ?_ GE109.out) | exact HB.out)⟩
                    · replace c16 := Bool.eq_false_iff.mpr c16
                      subst c16
                      have H1 : (impl_FilterOf.l0 kj11 l0 a1 (wrap64 (x6_2 + 1))) = some (r1, r2, r3, r4, r5) := by rw [if_neg (show ¬ (false = true) by decide)] at H; exact H
                      clear H
                      have H := H1
                      clear H1
                      have H' := Aside0.mk H
                      clear H
                      go_wp2_with (first | ((with_reducible refine gate_callee (f := 99) rfl ?_); refine goesL_ (some 32) rfl rfl Try.func99 (by kernel_rfl) rfl #[.slice A0 l0.length c0, .int .i64 x6_2] rfl (by (try simp only [List.map_toArray, List.map_cons, List.map_nil]); first | done | rfl | (simp only [List.length_drop, List.length_take]; rfl) | (rw [IntWalk.u64_in _ (by omega)] <;> rfl)) ?_; (with_reducible refine (impl_RibbonOf.calls kj11 _ _ l0 x6_2 t104 t105 t106 t107 false _ ?side1 ?side2 A15.out).mono ?_); (case side1 => repeat (first | exact (Kd.C_below HR0.out HB.out) | (with_reducible refine Kd.C_alloc ?_ _) | (with_reducible refine Kd.C_drewN ?_ _) | (with_reducible refine Kd.C_drew ?_))); (case side2 => exact HC0.out); rintro e w22 ⟨rfl, hb⟩; refine ⟨_, rfl, ?_⟩; have n0_ := Aside0.mk (blk_below (g := gb101) (o := .cells #[.int .i64 x102000_2, .int .i64 x102001_2, .int .i64 x102002_2, .string x102003_2] 46 (0, 0)) (by (with_reducible repeat (first | refine blk_drewN ?_ _ | refine blk_drew ?_ | refine blk_alloc ?_ _)); exact BK101.out) hb); have n1_ := Aside0.mk (below_step (by repeat (first | (with_reducible first | exact HB.out | apply below_alloc | apply pw_below_drewN | apply below_drew1 | refine below_set ?_ GE101.out) | exact HB.out)) hb); clear BK101; clear HB; have BK101 := n0_; have HB := n1_; clear n0_ n1_; (try clear hb); (try clear hb2); (try clear hk); (try clear hi)) | ((with_reducible refine gate_dst (N := 7) rfl ?_); refine box_event ?hg (N := 7) ?hd (cs := #[.int .i64 0, .int .i64 0, .int .i64 0, .string (⟨#[]⟩ : ByteArray)]) (t := 46) ?hr ?_; (case hd => rfl); (case hg => rfl); (case hr => first | (go_simp; done) | (go_simp; rfl)); intro gb109 hg w23 hbox hb; have n0_ := Aside0.mk (blk_below (g := gb101) (o := .cells #[.int .i64 x102000_2, .int .i64 x102001_2, .int .i64 x102002_2, .string x102003_2] 46 (0, 0)) (by (with_reducible repeat (first | refine blk_drewN ?_ _ | refine blk_drew ?_ | refine blk_alloc ?_ _)); exact BK101.out) hb); have n1_ := Aside0.mk (below_step (by repeat (first | (with_reducible first | exact HB.out | apply below_alloc | apply pw_below_drewN | apply below_drew1 | refine below_set ?_ GE101.out) | exact HB.out)) hb); have n2_ := Aside0.mk (hbox); have n3_ := Aside0.mk ((by rw [hg]; exact (below_size (by repeat (first | (with_reducible first | exact HB.out | apply below_alloc | apply pw_below_drewN | apply below_drew1 | refine below_set ?_ GE101.out) | exact HB.out))) : w.heap.size ≤ gb109)); have n4_ := Aside0.mk ((by rw [hg]; exact (below_size (by repeat (first | (with_reducible first | exact HB.out | apply below_alloc | apply pw_below_drewN | apply below_drew1 | refine below_set ?_ GE101.out) | exact HB.out))) : w.heap.size ≤ gb109)); have n5_ := Aside0.mk ((by rw [hg]; exact Nat.ne_of_lt (blk_lt (g := gb101) (o := .cells #[.int .i64 x102000_2, .int .i64 x102001_2, .int .i64 x102002_2, .string x102003_2] 46 (0, 0)) (by (with_reducible repeat (first | refine blk_drewN ?_ _ | refine blk_drew ?_ | refine blk_alloc ?_ _)); exact BK101.out)) : gb101 ≠ gb109)); have n6_ := Aside0.mk ((by rw [hg]; exact Nat.ne_of_gt (blk_lt (g := gb101) (o := .cells #[.int .i64 x102000_2, .int .i64 x102001_2, .int .i64 x102002_2, .string x102003_2] 46 (0, 0)) (by (with_reducible repeat (first | refine blk_drewN ?_ _ | refine blk_drew ?_ | refine blk_alloc ?_ _)); exact BK101.out)) : gb109 ≠ gb101)); clear BK101; clear HB; have BK101 := n0_; have HB := n1_; have BK109 := n2_; have GW109 := n3_; have GE109 := n4_; have NB101_109 := n5_; have NB109_101 := n6_; clear n0_ n1_ n2_ n3_ n4_ n5_ n6_; clear hb hbox hg; have hnb24 := NB109_101.out; have hnc24 := NB101_109.out; have hcz25_0 : w23.cell? ⟨gb109, 0, none⟩ = some (.int .i64 0) := (blk_cell BK109.out 0).trans rfl; have hcz25_1 : w23.cell? ⟨gb109, 1, none⟩ = some (.int .i64 0) := (blk_cell BK109.out 1).trans rfl; have hcz25_2 : w23.cell? ⟨gb109, 2, none⟩ = some (.int .i64 0) := (blk_cell BK109.out 2).trans rfl; have hcz25_3 : w23.cell? ⟨gb109, 3, none⟩ = some (.string (⟨#[]⟩ : ByteArray)) := (blk_cell BK109.out 3).trans rfl; have hfz25_0 := blk_frozen BK109.out 0; have hfz25_1 := blk_frozen BK109.out 1; have hfz25_2 := blk_frozen BK109.out 2; have hfz25_3 := blk_frozen BK109.out 3))
                      go_roundg kj11
                      case measure => have := HJ2.out; have := HK2.out; have := HJ11.out; omega
                      case rel => exact ⟨(wrap64 (x6_2 + 1)), (x102000_2), (x102001_2), (x102002_2), (x102003_2), (by first | rfl | (simp; done) | (simp [*]; done)), H', ⟨by have := HJ2.out; have := HK2.out; have := HJ11.out; omega⟩, ⟨by (with_reducible repeat (first | refine blk_drewN ?_ _ | refine blk_drew ?_ | refine blk_alloc ?_ _)); refine blk_far ?_ NB101_109.out _; (with_reducible repeat (first | refine blk_drewN ?_ _ | refine blk_drew ?_ | refine blk_alloc ?_ _)); refine blk_far ?_ NB101_109.out _; (with_reducible repeat (first | refine blk_drewN ?_ _ | refine blk_drew ?_ | refine blk_alloc ?_ _)); refine blk_far ?_ NB101_109.out _; (with_reducible repeat (first | refine blk_drewN ?_ _ | refine blk_drew ?_ | refine blk_alloc ?_ _)); refine blk_far ?_ NB101_109.out _; (with_reducible repeat (first | refine blk_drewN ?_ _ | refine blk_drew ?_ | refine blk_alloc ?_ _)); exact BK101.out⟩, ⟨by repeat (first | (with_reducible first | exact HB.out | apply below_alloc | apply pw_below_drewN | apply below_drew1 | refine below_set ?_ GE101.out | refine below_set ?_ GE109.out) | exact HB.out)⟩⟩
                  · replace c14 := Bool.eq_false_iff.mpr c14
                    subst c14
                    have H1 : ((impl_BloomOf.f kj11 l0 10).bind fun bt110 => (some (bt110.1, bt110.2.1, bt110.2.2.1, bt110.2.2.2.1, bt110.2.2.2.2))) = some (r1, r2, r3, r4, r5) := by rw [if_neg (show ¬ (false = true) by decide)] at H; exact H
                    clear H
                    have H := H1
                    clear H1
                    replace H := Option.bind_eq_some_iff.mp H
                    obtain ⟨⟨t110, t111, t112, t113, t114⟩, A260, H⟩ := H
                    replace H : (some (t110, t111, t112, t113, t114)) = some (r1, r2, r3, r4, r5) := H
                    have A26 := Aside0.mk A260
                    clear A260
                    simp only [Option.some.injEq, Prod.mk.injEq] at H
                    obtain ⟨rfl, rfl, rfl, rfl, rfl⟩ := H
                    go_wp2_with (first | ((with_reducible refine gate_callee (f := 100) rfl ?_); refine goesL_ (some 38) rfl rfl Try.func100 (by kernel_rfl) rfl #[.slice A0 l0.length c0, .int .i64 10] rfl (by (try simp only [List.map_toArray, List.map_cons, List.map_nil]); first | done | rfl | (simp only [List.length_drop, List.length_take]; rfl) | (rw [IntWalk.u64_in _ (by omega)] <;> rfl)) ?_; (with_reducible refine (impl_BloomOf.calls kj11 _ _ l0 10 t110 t111 t112 t113 t114 _ ?side1 ?side2 A26.out).mono ?_); (case side1 => repeat (first | exact (Kd.C_below HR0.out HB.out) | (with_reducible refine Kd.C_alloc ?_ _) | (with_reducible refine Kd.C_drewN ?_ _) | (with_reducible refine Kd.C_drew ?_))); (case side2 => exact HC0.out); rintro e w27 ⟨rfl, hb⟩; refine ⟨_, rfl, ?_⟩; have n0_ := Aside0.mk (blk_below (g := gb101) (o := .cells #[.int .i64 x102000_2, .int .i64 x102001_2, .int .i64 x102002_2, .string x102003_2] 46 (0, 0)) (by (with_reducible repeat (first | refine blk_drewN ?_ _ | refine blk_drew ?_ | refine blk_alloc ?_ _)); exact BK101.out) hb); have n1_ := Aside0.mk (below_step (by repeat (first | (with_reducible first | exact HB.out | apply below_alloc | apply pw_below_drewN | apply below_drew1 | refine below_set ?_ GE101.out) | exact HB.out)) hb); clear BK101; clear HB; have BK101 := n0_; have HB := n1_; clear n0_ n1_; (try clear hb); (try clear hb2); (try clear hk); (try clear hi); have hcz28_0 : w27.cell? ⟨gb101, 0, none⟩ = some (.int .i64 x102000_2) := (blk_cell BK101.out 0).trans rfl; have hcz28_1 : w27.cell? ⟨gb101, 1, none⟩ = some (.int .i64 x102001_2) := (blk_cell BK101.out 1).trans rfl; have hcz28_2 : w27.cell? ⟨gb101, 2, none⟩ = some (.int .i64 x102002_2) := (blk_cell BK101.out 2).trans rfl; have hcz28_3 : w27.cell? ⟨gb101, 3, none⟩ = some (.string x102003_2) := (blk_cell BK101.out 3).trans rfl; have hfz28_0 := blk_frozen BK101.out 0; have hfz28_1 := blk_frozen BK101.out 1; have hfz28_2 := blk_frozen BK101.out 2; have hfz28_3 := blk_frozen BK101.out 3))
                    refine bodyPost_ret (results_ct rfl _ _ gb101 46 #[.int .i64 t110, .int .i64 t111, .int .i64 t112, .string t113] (0, 0) _ rfl (by (with_reducible repeat (first | refine blk_drewN ?_ _ | refine blk_drew ?_ | refine blk_alloc ?_ _)); refine blk_put (cs := #[.int .i64 t110, .int .i64 t111, .int .i64 t112, .string x102003_2]) ?_ 3 _ rfl; (with_reducible repeat (first | refine blk_drewN ?_ _ | refine blk_drew ?_ | refine blk_alloc ?_ _)); refine blk_put (cs := #[.int .i64 t110, .int .i64 t111, .int .i64 x102002_2, .string x102003_2]) ?_ 2 _ rfl; (with_reducible repeat (first | refine blk_drewN ?_ _ | refine blk_drew ?_ | refine blk_alloc ?_ _)); refine blk_put (cs := #[.int .i64 t110, .int .i64 x102001_2, .int .i64 x102002_2, .string x102003_2]) ?_ 1 _ rfl; (with_reducible repeat (first | refine blk_drewN ?_ _ | refine blk_drew ?_ | refine blk_alloc ?_ _)); refine blk_put (cs := #[.int .i64 x102000_2, .int .i64 x102001_2, .int .i64 x102002_2, .string x102003_2]) ?_ 0 _ rfl; (with_reducible repeat (first | refine blk_drewN ?_ _ | refine blk_drew ?_ | refine blk_alloc ?_ _)); exact BK101.out) Try.underlying46 rfl (by kernel_rfl)) rfl ?_
                    exact ⟨by first | rfl | (simp [errW_none, errW_some] <;> rfl) | (simp [*, errW_none, errW_some] <;> rfl), by repeat (first | (with_reducible first | exact HB.out | apply below_alloc | apply pw_below_drewN | apply below_drew1 | refine below_set ?_ GE101.out) | exact HB.out)⟩
end Go.Proofs.Ytedgdnkbojjbmaa.P
end

section
namespace Go.Proofs.Ytedgdnkbojjbmaa.P
open Go.RowKit Go.Proofs.YtedgdnkbojjbmaaW.PrintWords Go.Proofs.YtedgdnkbojjbmaaW.PrintLast Go.Proofs.YtedgdnkbojjbmaaW.PrintMore
attribute [local go_sem] str_gtr str_leq str_geq max2_int min2_int max_two min_two max_three min_three max_four min_four
set_option linter.unusedVariables false
set_option linter.unusedSimpArgs false
attribute [local go_sem high] eqA46
mutual
def impl_FilterOk.j0 : Nat → Bool → Int → Int → Int → ByteArray → Option (Bool)
  | 0, _, _, _, _, _ => none
  | k + 1, x44, x102000, x102001, x102002, x102003 => if x44 = true then (some false) else (impl_FilterOk.l0 k (x102003.size : Int) 0 x102000 x102001 x102002 x102003)
def impl_FilterOk.l0 : Nat → Int → Int → Int → Int → Int → ByteArray → Option (Bool)
  | 0, _, _, _, _, _, _ => none
  | k + 1, x47, x48, x102000, x102001, x102002, x102003 => if x48 < x47 then (if 0 ≤ x48 then (if x48 < (x102003.size : Int) then (if (bt x102003 x48) > 127 then (some false) else (impl_FilterOk.l0 k x47 (wrap64 (x48 + 1)) x102000 x102001 x102002 x102003)) else (none)) else (none)) else (some true)
end
def impl_FilterOk.f (k : Nat) (a0_0 : Int) (a0_1 : Int) (a0_2 : Int) (a0_3 : ByteArray) : Option (Bool) := if a0_0 = 0 then (some (a0_0 == 0 && (a0_1 == 0 && (a0_2 == 0 && (a0_3.toList == ([] : List UInt8)))))) else (if a0_0 = 1 then (if a0_1 = 0 then ((impl_within.f a0_2 1 30).bind fun t102 => (if t102 = true then ((impl_within.f (a0_3.size : Int) 1 1000).bind fun t103 => (some t103)) else (some false))) else (some false)) else (if a0_0 = 2 then (if a0_2 = 0 then ((impl_within.f a0_1 0 3).bind fun t104 => (if t104 = true then ((impl_within.f (a0_3.size : Int) 20 600).bind fun t105 => (impl_FilterOk.j0 k (!t105) a0_0 a0_1 a0_2 a0_3)) else (impl_FilterOk.j0 k true a0_0 a0_1 a0_2 a0_3))) else (impl_FilterOk.j0 k true a0_0 a0_1 a0_2 a0_3)) else (some false)))
set_option maxHeartbeats 8000000 in
set_option maxRecDepth 100000 in
theorem impl_FilterOk.calls (k : Nat) (a0_0 : Int) (a0_1 : Int) (a0_2 : Int) (a0_3 : ByteArray) (r : Bool) (w : World) (h : impl_FilterOk.f k a0_0 a0_1 a0_2 a0_3 = some r) :
    Calls Try.prog 56 #[.agg #[.int .i64 a0_0, .int .i64 a0_1, .int .i64 a0_2, .string a0_3]] w fun e w' => e = .returned (.bool r) ∧ Below w.heap.size w w' := by
  have hu46 := Try.underlying46
  have HB := Aside0.mk (Below.refl w.heap.size w)
  have H : (if a0_0 = 0 then (some (a0_0 == 0 && (a0_1 == 0 && (a0_2 == 0 && (a0_3.toList == ([] : List UInt8)))))) else (if a0_0 = 1 then (if a0_1 = 0 then ((impl_within.f a0_2 1 30).bind fun t102 => (if t102 = true then ((impl_within.f (a0_3.size : Int) 1 1000).bind fun t103 => (some t103)) else (some false))) else (some false)) else (if a0_0 = 2 then (if a0_2 = 0 then ((impl_within.f a0_1 0 3).bind fun t104 => (if t104 = true then ((impl_within.f (a0_3.size : Int) 20 600).bind fun t105 => (impl_FilterOk.j0 k (!t105) a0_0 a0_1 a0_2 a0_3)) else (impl_FilterOk.j0 k true a0_0 a0_1 a0_2 a0_3))) else (impl_FilterOk.j0 k true a0_0 a0_1 a0_2 a0_3)) else (some false)))) = some r := h
  clear h
  by_cases c2 : a0_0 = 0
  · rw [if_pos c2] at H
    have c2b0 : (a0_0 == 0) = true := beq_iff_eq.mpr c2
    have c2b1 : (a0_0 != 0) = false := bne_eq_false_iff_eq.mpr c2
    clear c2
    obtain rfl := Option.some.inj H
    go_enter Try.func56, Try.ntmps56
    go_wp2_with (first | ((with_reducible refine gate_dst (N := 1) rfl ?_); (try (refine gate_guard (by rfl) ?_; dsimp only)); refine box_event ?hg (N := 1) ?hd (cs := #[.int .i64 a0_0, .int .i64 a0_1, .int .i64 a0_2, .string a0_3]) (t := 46) ?hr ?_; (case hd => rfl); (case hg => rfl); (case hr => first | (go_simp; done) | (go_simp; rfl)); intro gb101 hg w3 hbox hb; have n0_ := Aside0.mk (below_step (by repeat (first | (with_reducible first | exact HB.out | apply below_alloc | apply pw_below_drewN | apply below_drew1) | exact HB.out)) hb); have n1_ := Aside0.mk (hbox); have n2_ := Aside0.mk ((by rw [hg]; exact (below_size (by repeat (first | (with_reducible first | exact HB.out | apply below_alloc | apply pw_below_drewN | apply below_drew1) | exact HB.out))) : w.heap.size ≤ gb101)); have n3_ := Aside0.mk ((by rw [hg]; exact (below_size (by repeat (first | (with_reducible first | exact HB.out | apply below_alloc | apply pw_below_drewN | apply below_drew1) | exact HB.out))) : w.heap.size ≤ gb101)); clear HB; have HB := n0_; have BK101 := n1_; have GW101 := n2_; have GE101 := n3_; clear n0_ n1_ n2_ n3_; clear hb hbox hg; have hcz4_0 : w3.cell? ⟨gb101, 0, none⟩ = some (.int .i64 a0_0) := (blk_cell BK101.out 0).trans rfl; have hcz4_1 : w3.cell? ⟨gb101, 1, none⟩ = some (.int .i64 a0_1) := (blk_cell BK101.out 1).trans rfl; have hcz4_2 : w3.cell? ⟨gb101, 2, none⟩ = some (.int .i64 a0_2) := (blk_cell BK101.out 2).trans rfl; have hcz4_3 : w3.cell? ⟨gb101, 3, none⟩ = some (.string a0_3) := (blk_cell BK101.out 3).trans rfl; have hfz4_0 := blk_frozen BK101.out 0; have hfz4_1 := blk_frozen BK101.out 1; have hfz4_2 := blk_frozen BK101.out 2; have hfz4_3 := blk_frozen BK101.out 3))
    go_ret
    exact ⟨by first | rfl | (simp [errW_none, errW_some] <;> rfl) | (simp [*, errW_none, errW_some] <;> rfl), by repeat (first | (with_reducible first | exact HB.out | apply below_alloc | apply pw_below_drewN | apply below_drew1 | refine below_set ?_ GE101.out) | exact HB.out)⟩
  · rw [if_neg c2] at H
    have c2b0 : (a0_0 == 0) = false := beq_eq_false_iff_ne.mpr c2
    have c2b1 : (a0_0 != 0) = true := bne_iff_ne.mpr c2
    by_cases c5 : a0_0 = 1
    · rw [if_pos c5] at H
      have c5b0 : (a0_0 == 1) = true := beq_iff_eq.mpr c5
      have c5b1 : (a0_0 != 1) = false := bne_eq_false_iff_eq.mpr c5
      clear c5
      by_cases c6 : a0_1 = 0
      · rw [if_pos c6] at H
        have c6b0 : (a0_1 == 0) = true := beq_iff_eq.mpr c6
        have c6b1 : (a0_1 != 0) = false := bne_eq_false_iff_eq.mpr c6
        clear c6
        replace H := Option.bind_eq_some_iff.mp H
        obtain ⟨t102, A70, H⟩ := H
        replace H : (if t102 = true then ((impl_within.f (a0_3.size : Int) 1 1000).bind fun t103 => (some t103)) else (some false)) = some r := H
        have A7 := Aside0.mk A70
        clear A70
        by_cases c8 : t102 = true
        · subst c8
          have H1 : ((impl_within.f (a0_3.size : Int) 1 1000).bind fun t103 => (some t103)) = some r := by rw [if_pos rfl] at H; exact H
          clear H
          have H := H1
          clear H1
          replace H := Option.bind_eq_some_iff.mp H
          obtain ⟨t103, A90, H⟩ := H
          replace H : (some t103) = some r := H
          have A9 := Aside0.mk A90
          clear A90
          obtain rfl := Option.some.inj H
          go_enter Try.func56, Try.ntmps56
          go_wp2_with (first | ((with_reducible refine gate_dst (N := 1) rfl ?_); (try (refine gate_guard (by rfl) ?_; dsimp only)); refine box_event ?hg (N := 1) ?hd (cs := #[.int .i64 a0_0, .int .i64 a0_1, .int .i64 a0_2, .string a0_3]) (t := 46) ?hr ?_; (case hd => rfl); (case hg => rfl); (case hr => first | (go_simp; done) | (go_simp; rfl)); intro gb101 hg w10 hbox hb; have n0_ := Aside0.mk (below_step (by repeat (first | (with_reducible first | exact HB.out | apply below_alloc | apply pw_below_drewN | apply below_drew1) | exact HB.out)) hb); have n1_ := Aside0.mk (hbox); have n2_ := Aside0.mk ((by rw [hg]; exact (below_size (by repeat (first | (with_reducible first | exact HB.out | apply below_alloc | apply pw_below_drewN | apply below_drew1) | exact HB.out))) : w.heap.size ≤ gb101)); have n3_ := Aside0.mk ((by rw [hg]; exact (below_size (by repeat (first | (with_reducible first | exact HB.out | apply below_alloc | apply pw_below_drewN | apply below_drew1) | exact HB.out))) : w.heap.size ≤ gb101)); clear HB; have HB := n0_; have BK101 := n1_; have GW101 := n2_; have GE101 := n3_; clear n0_ n1_ n2_ n3_; clear hb hbox hg; have hcz11_0 : w10.cell? ⟨gb101, 0, none⟩ = some (.int .i64 a0_0) := (blk_cell BK101.out 0).trans rfl; have hcz11_1 : w10.cell? ⟨gb101, 1, none⟩ = some (.int .i64 a0_1) := (blk_cell BK101.out 1).trans rfl; have hcz11_2 : w10.cell? ⟨gb101, 2, none⟩ = some (.int .i64 a0_2) := (blk_cell BK101.out 2).trans rfl; have hcz11_3 : w10.cell? ⟨gb101, 3, none⟩ = some (.string a0_3) := (blk_cell BK101.out 3).trans rfl; have hfz11_0 := blk_frozen BK101.out 0; have hfz11_1 := blk_frozen BK101.out 1; have hfz11_2 := blk_frozen BK101.out 2; have hfz11_3 := blk_frozen BK101.out 3) | (go_at_call 62; (with_reducible refine (impl_within.calls a0_2 1 30 true _ A7.out).mono ?_); rintro e w' ⟨rfl, ⟨nd, rfl⟩⟩) | (go_at_call 62; (with_reducible refine (impl_within.calls (a0_3.size : Int) 1 1000 t103 _ A9.out).mono ?_); rintro e w' ⟨rfl, ⟨nd, rfl⟩⟩))
          go_ret
          exact ⟨by first | rfl | (simp [errW_none, errW_some] <;> rfl) | (simp [*, errW_none, errW_some] <;> rfl), by repeat (first | (with_reducible first | exact HB.out | apply below_alloc | apply pw_below_drewN | apply below_drew1 | refine below_set ?_ GE101.out) | exact HB.out)⟩
        · replace c8 := Bool.eq_false_iff.mpr c8
          subst c8
          have H1 : (some false) = some r := by rw [if_neg (show ¬ (false = true) by decide)] at H; exact H
          clear H
          have H := H1
          clear H1
          obtain rfl := Option.some.inj H
          go_enter Try.func56, Try.ntmps56
          go_wp2_with (first | ((with_reducible refine gate_dst (N := 1) rfl ?_); (try (refine gate_guard (by rfl) ?_; dsimp only)); refine box_event ?hg (N := 1) ?hd (cs := #[.int .i64 a0_0, .int .i64 a0_1, .int .i64 a0_2, .string a0_3]) (t := 46) ?hr ?_; (case hd => rfl); (case hg => rfl); (case hr => first | (go_simp; done) | (go_simp; rfl)); intro gb101 hg w12 hbox hb; have n0_ := Aside0.mk (below_step (by repeat (first | (with_reducible first | exact HB.out | apply below_alloc | apply pw_below_drewN | apply below_drew1) | exact HB.out)) hb); have n1_ := Aside0.mk (hbox); have n2_ := Aside0.mk ((by rw [hg]; exact (below_size (by repeat (first | (with_reducible first | exact HB.out | apply below_alloc | apply pw_below_drewN | apply below_drew1) | exact HB.out))) : w.heap.size ≤ gb101)); have n3_ := Aside0.mk ((by rw [hg]; exact (below_size (by repeat (first | (with_reducible first | exact HB.out | apply below_alloc | apply pw_below_drewN | apply below_drew1) | exact HB.out))) : w.heap.size ≤ gb101)); clear HB; have HB := n0_; have BK101 := n1_; have GW101 := n2_; have GE101 := n3_; clear n0_ n1_ n2_ n3_; clear hb hbox hg; have hcz13_0 : w12.cell? ⟨gb101, 0, none⟩ = some (.int .i64 a0_0) := (blk_cell BK101.out 0).trans rfl; have hcz13_1 : w12.cell? ⟨gb101, 1, none⟩ = some (.int .i64 a0_1) := (blk_cell BK101.out 1).trans rfl; have hcz13_2 : w12.cell? ⟨gb101, 2, none⟩ = some (.int .i64 a0_2) := (blk_cell BK101.out 2).trans rfl; have hcz13_3 : w12.cell? ⟨gb101, 3, none⟩ = some (.string a0_3) := (blk_cell BK101.out 3).trans rfl; have hfz13_0 := blk_frozen BK101.out 0; have hfz13_1 := blk_frozen BK101.out 1; have hfz13_2 := blk_frozen BK101.out 2; have hfz13_3 := blk_frozen BK101.out 3) | (go_at_call 62; (with_reducible refine (impl_within.calls a0_2 1 30 false _ A7.out).mono ?_); rintro e w' ⟨rfl, ⟨nd, rfl⟩⟩))
          go_ret
          exact ⟨by first | rfl | (simp [errW_none, errW_some] <;> rfl) | (simp [*, errW_none, errW_some] <;> rfl), by repeat (first | (with_reducible first | exact HB.out | apply below_alloc | apply pw_below_drewN | apply below_drew1 | refine below_set ?_ GE101.out) | exact HB.out)⟩
      · rw [if_neg c6] at H
        have c6b0 : (a0_1 == 0) = false := beq_eq_false_iff_ne.mpr c6
        have c6b1 : (a0_1 != 0) = true := bne_iff_ne.mpr c6
        obtain rfl := Option.some.inj H
        go_enter Try.func56, Try.ntmps56
        go_wp2_with (first | ((with_reducible refine gate_dst (N := 1) rfl ?_); (try (refine gate_guard (by rfl) ?_; dsimp only)); refine box_event ?hg (N := 1) ?hd (cs := #[.int .i64 a0_0, .int .i64 a0_1, .int .i64 a0_2, .string a0_3]) (t := 46) ?hr ?_; (case hd => rfl); (case hg => rfl); (case hr => first | (go_simp; done) | (go_simp; rfl)); intro gb101 hg w14 hbox hb; have n0_ := Aside0.mk (below_step (by repeat (first | (with_reducible first | exact HB.out | apply below_alloc | apply pw_below_drewN | apply below_drew1) | exact HB.out)) hb); have n1_ := Aside0.mk (hbox); have n2_ := Aside0.mk ((by rw [hg]; exact (below_size (by repeat (first | (with_reducible first | exact HB.out | apply below_alloc | apply pw_below_drewN | apply below_drew1) | exact HB.out))) : w.heap.size ≤ gb101)); have n3_ := Aside0.mk ((by rw [hg]; exact (below_size (by repeat (first | (with_reducible first | exact HB.out | apply below_alloc | apply pw_below_drewN | apply below_drew1) | exact HB.out))) : w.heap.size ≤ gb101)); clear HB; have HB := n0_; have BK101 := n1_; have GW101 := n2_; have GE101 := n3_; clear n0_ n1_ n2_ n3_; clear hb hbox hg; have hcz15_0 : w14.cell? ⟨gb101, 0, none⟩ = some (.int .i64 a0_0) := (blk_cell BK101.out 0).trans rfl; have hcz15_1 : w14.cell? ⟨gb101, 1, none⟩ = some (.int .i64 a0_1) := (blk_cell BK101.out 1).trans rfl; have hcz15_2 : w14.cell? ⟨gb101, 2, none⟩ = some (.int .i64 a0_2) := (blk_cell BK101.out 2).trans rfl; have hcz15_3 : w14.cell? ⟨gb101, 3, none⟩ = some (.string a0_3) := (blk_cell BK101.out 3).trans rfl; have hfz15_0 := blk_frozen BK101.out 0; have hfz15_1 := blk_frozen BK101.out 1; have hfz15_2 := blk_frozen BK101.out 2; have hfz15_3 := blk_frozen BK101.out 3))
        go_ret
        exact ⟨by first | rfl | (simp [errW_none, errW_some] <;> rfl) | (simp [*, errW_none, errW_some] <;> rfl), by repeat (first | (with_reducible first | exact HB.out | apply below_alloc | apply pw_below_drewN | apply below_drew1 | refine below_set ?_ GE101.out) | exact HB.out)⟩
    · rw [if_neg c5] at H
      have c5b0 : (a0_0 == 1) = false := beq_eq_false_iff_ne.mpr c5
      have c5b1 : (a0_0 != 1) = true := bne_iff_ne.mpr c5
      by_cases c16 : a0_0 = 2
      · rw [if_pos c16] at H
        have c16b0 : (a0_0 == 2) = true := beq_iff_eq.mpr c16
        have c16b1 : (a0_0 != 2) = false := bne_eq_false_iff_eq.mpr c16
        clear c16
        have HC17 := Aside0.mk H
        clear H
        go_enter Try.func56, Try.ntmps56
        go_upto_region 7 with (first | ((with_reducible refine gate_dst (N := 1) rfl ?_); (try (refine gate_guard (by rfl) ?_; dsimp only)); refine box_event ?hg (N := 1) ?hd (cs := #[.int .i64 a0_0, .int .i64 a0_1, .int .i64 a0_2, .string a0_3]) (t := 46) ?hr ?_; (case hd => rfl); (case hg => rfl); (case hr => first | (go_simp; done) | (go_simp; rfl)); intro gb101 hg w18 hbox hb; have n0_ := Aside0.mk (below_step (by repeat (first | (with_reducible first | exact HB.out | apply below_alloc | apply pw_below_drewN | apply below_drew1) | exact HB.out)) hb); have n1_ := Aside0.mk (hbox); have n2_ := Aside0.mk ((by rw [hg]; exact (below_size (by repeat (first | (with_reducible first | exact HB.out | apply below_alloc | apply pw_below_drewN | apply below_drew1) | exact HB.out))) : w.heap.size ≤ gb101)); have n3_ := Aside0.mk ((by rw [hg]; exact (below_size (by repeat (first | (with_reducible first | exact HB.out | apply below_alloc | apply pw_below_drewN | apply below_drew1) | exact HB.out))) : w.heap.size ≤ gb101)); clear HB; have HB := n0_; have BK101 := n1_; have GW101 := n2_; have GE101 := n3_; clear n0_ n1_ n2_ n3_; clear hb hbox hg; have hcz19_0 : w18.cell? ⟨gb101, 0, none⟩ = some (.int .i64 a0_0) := (blk_cell BK101.out 0).trans rfl; have hcz19_1 : w18.cell? ⟨gb101, 1, none⟩ = some (.int .i64 a0_1) := (blk_cell BK101.out 1).trans rfl; have hcz19_2 : w18.cell? ⟨gb101, 2, none⟩ = some (.int .i64 a0_2) := (blk_cell BK101.out 2).trans rfl; have hcz19_3 : w18.cell? ⟨gb101, 3, none⟩ = some (.string a0_3) := (blk_cell BK101.out 3).trans rfl; have hfz19_0 := blk_frozen BK101.out 0; have hfz19_1 := blk_frozen BK101.out 1; have hfz19_2 := blk_frozen BK101.out 2; have hfz19_3 := blk_frozen BK101.out 3))
        (try simp only [Act.put, List.setIfInBounds_toArray, List.set_cons_zero, List.set_cons_succ])
        go_cut [44] (fun v44 wc => ∃ (kq : Nat) (x44_16 : Bool), v44 = .bool x44_16 ∧ Aside0 (impl_FilterOk.j0 kq x44_16 a0_0 a0_1 a0_2 a0_3 = some r) ∧ Aside0 (kq ≤ k) ∧ Aside0 (wc.heap[gb101]? = some (.cells #[.int .i64 a0_0, .int .i64 a0_1, .int .i64 a0_2, .string a0_3] 46 (0, 0))) ∧ Aside0 (Below w.heap.size w wc))
        case first =>
          have H := HC17.out
          clear HC17
          by_cases c20 : a0_2 = 0
          · rw [if_pos c20] at H
            have c20b0 : (a0_2 == 0) = true := beq_iff_eq.mpr c20
            have c20b1 : (a0_2 != 0) = false := bne_eq_false_iff_eq.mpr c20
            clear c20
            (first | rw [c20b0] | (simp only [i64_w, i32_w]; rw [c20b0]) | skip)
            replace H := Option.bind_eq_some_iff.mp H
            obtain ⟨t104, A210, H⟩ := H
            replace H : (if t104 = true then ((impl_within.f (a0_3.size : Int) 20 600).bind fun t105 => (impl_FilterOk.j0 k (!t105) a0_0 a0_1 a0_2 a0_3)) else (impl_FilterOk.j0 k true a0_0 a0_1 a0_2 a0_3)) = some r := H
            have A21 := Aside0.mk A210
            clear A210
            by_cases c22 : t104 = true
            · subst c22
              have H1 : ((impl_within.f (a0_3.size : Int) 20 600).bind fun t105 => (impl_FilterOk.j0 k (!t105) a0_0 a0_1 a0_2 a0_3)) = some r := by rw [if_pos rfl] at H; exact H
              clear H
              have H := H1
              clear H1
              replace H := Option.bind_eq_some_iff.mp H
              obtain ⟨t105, A230, H⟩ := H
              replace H : (impl_FilterOk.j0 k (!t105) a0_0 a0_1 a0_2 a0_3) = some r := H
              have A23 := Aside0.mk A230
              clear A230
              have H' := Aside0.mk H
              clear H
              have hcz24_0 : w18.cell? ⟨gb101, 0, none⟩ = some (.int .i64 a0_0) := (blk_cell BK101.out 0).trans rfl
              have hcz24_1 : w18.cell? ⟨gb101, 1, none⟩ = some (.int .i64 a0_1) := (blk_cell BK101.out 1).trans rfl
              have hcz24_2 : w18.cell? ⟨gb101, 2, none⟩ = some (.int .i64 a0_2) := (blk_cell BK101.out 2).trans rfl
              have hcz24_3 : w18.cell? ⟨gb101, 3, none⟩ = some (.string a0_3) := (blk_cell BK101.out 3).trans rfl
              have hfz24_0 := blk_frozen BK101.out 0
              have hfz24_1 := blk_frozen BK101.out 1
              have hfz24_2 := blk_frozen BK101.out 2
              have hfz24_3 := blk_frozen BK101.out 3
              go_wp2_with (first | (go_at_call 62; (with_reducible refine (impl_within.calls a0_1 0 3 true _ A21.out).mono ?_); rintro e w' ⟨rfl, ⟨nd, rfl⟩⟩) | (go_at_call 62; (with_reducible refine (impl_within.calls (a0_3.size : Int) 20 600 t105 _ A23.out).mono ?_); rintro e w' ⟨rfl, ⟨nd, rfl⟩⟩))
              go_meet
              case rel => exact ⟨_, (!t105), (by first | rfl | (simp; done) | (simp [*]; done)), H', ⟨by first | omega | exact Nat.le_refl _⟩, ⟨by (with_reducible repeat (first | refine blk_drewN ?_ _ | refine blk_drew ?_ | refine blk_alloc ?_ _)); exact BK101.out⟩, ⟨by repeat (first | (with_reducible first | exact HB.out | apply below_alloc | apply pw_below_drewN | apply below_drew1 | refine below_set ?_ GE101.out) | exact HB.out)⟩⟩
            · replace c22 := Bool.eq_false_iff.mpr c22
              subst c22
              have H1 : (impl_FilterOk.j0 k true a0_0 a0_1 a0_2 a0_3) = some r := by rw [if_neg (show ¬ (false = true) by decide)] at H; exact H
              clear H
              have H := H1
              clear H1
              have H' := Aside0.mk H
              clear H
              have hcz25_0 : w18.cell? ⟨gb101, 0, none⟩ = some (.int .i64 a0_0) := (blk_cell BK101.out 0).trans rfl
              have hcz25_1 : w18.cell? ⟨gb101, 1, none⟩ = some (.int .i64 a0_1) := (blk_cell BK101.out 1).trans rfl
              have hcz25_2 : w18.cell? ⟨gb101, 2, none⟩ = some (.int .i64 a0_2) := (blk_cell BK101.out 2).trans rfl
              have hcz25_3 : w18.cell? ⟨gb101, 3, none⟩ = some (.string a0_3) := (blk_cell BK101.out 3).trans rfl
              have hfz25_0 := blk_frozen BK101.out 0
              have hfz25_1 := blk_frozen BK101.out 1
              have hfz25_2 := blk_frozen BK101.out 2
              have hfz25_3 := blk_frozen BK101.out 3
              go_wp2_with (first | (go_at_call 62; (with_reducible refine (impl_within.calls a0_1 0 3 false _ A21.out).mono ?_); rintro e w' ⟨rfl, ⟨nd, rfl⟩⟩))
              go_meet
              case rel => exact ⟨_, (true), (by first | rfl | (simp; done) | (simp [*]; done)), H', ⟨by first | omega | exact Nat.le_refl _⟩, ⟨by (with_reducible repeat (first | refine blk_drewN ?_ _ | refine blk_drew ?_ | refine blk_alloc ?_ _)); exact BK101.out⟩, ⟨by repeat (first | (with_reducible first | exact HB.out | apply below_alloc | apply pw_below_drewN | apply below_drew1 | refine below_set ?_ GE101.out) | exact HB.out)⟩⟩
          · rw [if_neg c20] at H
            have c20b0 : (a0_2 == 0) = false := beq_eq_false_iff_ne.mpr c20
            have c20b1 : (a0_2 != 0) = true := bne_iff_ne.mpr c20
            (first | rw [c20b0] | (simp only [i64_w, i32_w]; rw [c20b0]) | skip)
            have H' := Aside0.mk H
            clear H
            have hcz26_0 : w18.cell? ⟨gb101, 0, none⟩ = some (.int .i64 a0_0) := (blk_cell BK101.out 0).trans rfl
            have hcz26_1 : w18.cell? ⟨gb101, 1, none⟩ = some (.int .i64 a0_1) := (blk_cell BK101.out 1).trans rfl
            have hcz26_2 : w18.cell? ⟨gb101, 2, none⟩ = some (.int .i64 a0_2) := (blk_cell BK101.out 2).trans rfl
            have hcz26_3 : w18.cell? ⟨gb101, 3, none⟩ = some (.string a0_3) := (blk_cell BK101.out 3).trans rfl
            have hfz26_0 := blk_frozen BK101.out 0
            have hfz26_1 := blk_frozen BK101.out 1
            have hfz26_2 := blk_frozen BK101.out 2
            have hfz26_3 := blk_frozen BK101.out 3
            go_wp2
            go_meet
            case rel => exact ⟨_, (true), (by first | rfl | (simp; done) | (simp [*]; done)), H', ⟨by first | omega | exact Nat.le_refl _⟩, ⟨by (with_reducible repeat (first | refine blk_drewN ?_ _ | refine blk_drew ?_ | refine blk_alloc ?_ _)); exact BK101.out⟩, ⟨by repeat (first | (with_reducible first | exact HB.out | apply below_alloc | apply pw_below_drewN | apply below_drew1 | refine below_set ?_ GE101.out) | exact HB.out)⟩⟩
        case rest =>
          clear HC17
          try clear c1
          try clear c2
          try clear c2b0
          try clear c2b1
          try clear p2
          try clear c5
          try clear c5b0
          try clear c5b1
          try clear c6
          try clear c6b0
          try clear c6b1
          try clear c8
          try clear c16
          try clear c16b0
          try clear c16b1
          try clear c20
          try clear c20b0
          try clear c20b1
          try clear c22
          try clear hcz11_0
          try clear hcz11_1
          try clear hcz11_2
          try clear hcz11_3
          try clear hcz13_0
          try clear hcz13_1
          try clear hcz13_2
          try clear hcz13_3
          try clear hcz15_0
          try clear hcz15_1
          try clear hcz15_2
          try clear hcz15_3
          try clear hcz19_0
          try clear hcz19_1
          try clear hcz19_2
          try clear hcz19_3
          try clear hcz24_0
          try clear hcz24_1
          try clear hcz24_2
          try clear hcz24_3
          try clear hcz25_0
          try clear hcz25_1
          try clear hcz25_2
          try clear hcz25_3
          try clear hcz26_0
          try clear hcz26_1
          try clear hcz26_2
          try clear hcz26_3
          try clear hcz4_0
          try clear hcz4_1
          try clear hcz4_2
          try clear hcz4_3
          try clear hfz11_0
          try clear hfz11_1
          try clear hfz11_2
          try clear hfz11_3
          try clear hfz13_0
          try clear hfz13_1
          try clear hfz13_2
          try clear hfz13_3
          try clear hfz15_0
          try clear hfz15_1
          try clear hfz15_2
          try clear hfz15_3
          try clear hfz19_0
          try clear hfz19_1
          try clear hfz19_2
          try clear hfz19_3
          try clear hfz24_0
          try clear hfz24_1
          try clear hfz24_2
          try clear hfz24_3
          try clear hfz25_0
          try clear hfz25_1
          try clear hfz25_2
          try clear hfz25_3
          try clear hfz26_0
          try clear hfz26_1
          try clear hfz26_2
          try clear hfz26_3
          try clear hfz4_0
          try clear hfz4_1
          try clear hfz4_2
          try clear hfz4_3
          obtain ⟨kq, x44_16, rfl, HA, HJ16, BK101, HB⟩ := hcut
          cases kq with
          | zero => exact absurd HA.out (by simp [impl_FilterOk.j0])
          | succ kj16 =>
            have H := HA.out
            clear HA
            simp only [impl_FilterOk.j0] at H
            by_cases c27 : x44_16 = true
            · subst c27
              have H1 : (some false) = some r := by rw [if_pos rfl] at H; exact H
              clear H
              have H := H1
              clear H1
              obtain rfl := Option.some.inj H
              go_wp2
              go_ret
              exact ⟨by first | rfl | (simp [errW_none, errW_some] <;> rfl) | (simp [*, errW_none, errW_some] <;> rfl), by repeat (first | (with_reducible first | exact HB.out | apply below_alloc | apply pw_below_drewN | apply below_drew1 | refine below_set ?_ GE101.out) | exact HB.out)⟩
            · replace c27 := Bool.eq_false_iff.mpr c27
              subst c27
              have H1 : (impl_FilterOk.l0 kj16 (a0_3.size : Int) 0 a0_0 a0_1 a0_2 a0_3) = some r := by rw [if_neg (show ¬ (false = true) by decide)] at H; exact H
              clear H
              have H := H1
              clear H1
              have H' := Aside0.mk H
              clear H
              have hcz28_0 : wc.cell? ⟨gb101, 0, none⟩ = some (.int .i64 a0_0) := (blk_cell BK101.out 0).trans rfl
              have hcz28_1 : wc.cell? ⟨gb101, 1, none⟩ = some (.int .i64 a0_1) := (blk_cell BK101.out 1).trans rfl
              have hcz28_2 : wc.cell? ⟨gb101, 2, none⟩ = some (.int .i64 a0_2) := (blk_cell BK101.out 2).trans rfl
              have hcz28_3 : wc.cell? ⟨gb101, 3, none⟩ = some (.string a0_3) := (blk_cell BK101.out 3).trans rfl
              have hfz28_0 := blk_frozen BK101.out 0
              have hfz28_1 := blk_frozen BK101.out 1
              have hfz28_2 := blk_frozen BK101.out 2
              have hfz28_3 := blk_frozen BK101.out 3
              go_wp2
              go_loopg [48] kj16 (fun kq v48 w' => ∃ (x48_2 : Int), v48 = .int .i64 x48_2 ∧ Aside0 (impl_FilterOk.l0 kq (a0_3.size : Int) x48_2 a0_0 a0_1 a0_2 a0_3 = some r) ∧ Aside0 (kq ≤ kj16) ∧ Aside0 (w'.heap[gb101]? = some (.cells #[.int .i64 a0_0, .int .i64 a0_1, .int .i64 a0_2, .string a0_3] 46 (0, 0))) ∧ Aside0 (Below w.heap.size w w'))
              case atStart => exact ⟨(0), (by first | rfl | (simp; done) | (simp [*]; done)), H', ⟨Nat.le_refl _⟩, ⟨by (with_reducible repeat (first | refine blk_drewN ?_ _ | refine blk_drew ?_ | refine blk_alloc ?_ _)); exact BK101.out⟩, ⟨by repeat (first | (with_reducible first | exact HB.out | apply below_alloc | apply pw_below_drewN | apply below_drew1 | refine below_set ?_ GE101.out) | exact HB.out)⟩⟩
              case round =>
                clear H'
                try clear c1
                try clear c2
                try clear c2b0
                try clear c2b1
                try clear p2
                try clear c5
                try clear c5b0
                try clear c5b1
                try clear c6
                try clear c6b0
                try clear c6b1
                try clear c8
                try clear c16
                try clear c16b0
                try clear c16b1
                try clear c20
                try clear c20b0
                try clear c20b1
                try clear c22
                try clear c27
                try clear hcz11_0
                try clear hcz11_1
                try clear hcz11_2
                try clear hcz11_3
                try clear hcz13_0
                try clear hcz13_1
                try clear hcz13_2
                try clear hcz13_3
                try clear hcz15_0
                try clear hcz15_1
                try clear hcz15_2
                try clear hcz15_3
                try clear hcz19_0
                try clear hcz19_1
                try clear hcz19_2
                try clear hcz19_3
                try clear hcz24_0
                try clear hcz24_1
                try clear hcz24_2
                try clear hcz24_3
                try clear hcz25_0
                try clear hcz25_1
                try clear hcz25_2
                try clear hcz25_3
                try clear hcz26_0
                try clear hcz26_1
                try clear hcz26_2
                try clear hcz26_3
                try clear hcz28_0
                try clear hcz28_1
                try clear hcz28_2
                try clear hcz28_3
                try clear hcz4_0
                try clear hcz4_1
                try clear hcz4_2
                try clear hcz4_3
                try clear hfz11_0
                try clear hfz11_1
                try clear hfz11_2
                try clear hfz11_3
                try clear hfz13_0
                try clear hfz13_1
                try clear hfz13_2
                try clear hfz13_3
                try clear hfz15_0
                try clear hfz15_1
                try clear hfz15_2
                try clear hfz15_3
                try clear hfz19_0
                try clear hfz19_1
                try clear hfz19_2
                try clear hfz19_3
                try clear hfz24_0
                try clear hfz24_1
                try clear hfz24_2
                try clear hfz24_3
                try clear hfz25_0
                try clear hfz25_1
                try clear hfz25_2
                try clear hfz25_3
                try clear hfz26_0
                try clear hfz26_1
                try clear hfz26_2
                try clear hfz26_3
                try clear hfz28_0
                try clear hfz28_1
                try clear hfz28_2
                try clear hfz28_3
                try clear hfz4_0
                try clear hfz4_1
                try clear hfz4_2
                try clear hfz4_3
                try clear p2
                obtain ⟨x48_2, rfl, HA, HK2, BK101, HB⟩ := hrel
                cases gk with
                | zero => exact absurd HA.out (by simp [impl_FilterOk.l0])
                | succ k2 =>
                  have H := HA.out
                  clear HA
                  simp only [impl_FilterOk.l0] at H
                  by_cases c29 : x48_2 < (a0_3.size : Int)
                  · rw [if_pos c29] at H
                    have c29b0 : decide (x48_2 < (a0_3.size : Int)) = true := decide_eq_true c29
                    clear c29
                    by_cases c30 : 0 ≤ x48_2
                    · rw [if_pos c30] at H
                      have c30b0 : decide (0 ≤ x48_2) = true := decide_eq_true c30
                      clear c30
                      by_cases c31 : x48_2 < (a0_3.size : Int)
                      · rw [if_pos c31] at H
                        have c31b0 : decide (x48_2 < (a0_3.size : Int)) = true := decide_eq_true c31
                        clear c31
                        by_cases c33 : (bt a0_3 x48_2) > 127
                        · rw [if_pos c33] at H
                          have c33b0 : decide (127 < (bt a0_3 x48_2)) = true := decide_eq_true c33
                          clear c33
                          obtain rfl := Option.some.inj H
                          have hcz34_0 : wr.cell? ⟨gb101, 0, none⟩ = some (.int .i64 a0_0) := (blk_cell BK101.out 0).trans rfl
                          have hcz34_1 : wr.cell? ⟨gb101, 1, none⟩ = some (.int .i64 a0_1) := (blk_cell BK101.out 1).trans rfl
                          have hcz34_2 : wr.cell? ⟨gb101, 2, none⟩ = some (.int .i64 a0_2) := (blk_cell BK101.out 2).trans rfl
                          have hcz34_3 : wr.cell? ⟨gb101, 3, none⟩ = some (.string a0_3) := (blk_cell BK101.out 3).trans rfl
                          have hfz34_0 := blk_frozen BK101.out 0
                          have hfz34_1 := blk_frozen BK101.out 1
                          have hfz34_2 := blk_frozen BK101.out 2
                          have hfz34_3 := blk_frozen BK101.out 3
                          have p32 : 0 ≤ (x48_2 : Int) := of_decide_eq_true (by first | (with_reducible assumption) | assumption)
                          have q32 : x48_2 < (a0_3.size : Int) := of_decide_eq_true (by first | (with_reducible assumption) | assumption)
                          have hx32 := bt_at a0_3 x48_2
                          replace p32 := eq_true p32
                          replace q32 := eq_true q32
                          go_wp2
                          go_ret
                          exact ⟨by first | rfl | (simp [errW_none, errW_some] <;> rfl) | (simp [*, errW_none, errW_some] <;> rfl), by repeat (first | (with_reducible first | exact HB.out | apply below_alloc | apply pw_below_drewN | apply below_drew1 | refine below_set ?_ GE101.out) | exact HB.out)⟩
                        · rw [if_neg c33] at H
                          have c33b0 : decide (127 < (bt a0_3 x48_2)) = false := decide_eq_false c33
                          clear c33
                          have H' := Aside0.mk H
                          clear H
                          have hcz35_0 : wr.cell? ⟨gb101, 0, none⟩ = some (.int .i64 a0_0) := (blk_cell BK101.out 0).trans rfl
                          have hcz35_1 : wr.cell? ⟨gb101, 1, none⟩ = some (.int .i64 a0_1) := (blk_cell BK101.out 1).trans rfl
                          have hcz35_2 : wr.cell? ⟨gb101, 2, none⟩ = some (.int .i64 a0_2) := (blk_cell BK101.out 2).trans rfl
                          have hcz35_3 : wr.cell? ⟨gb101, 3, none⟩ = some (.string a0_3) := (blk_cell BK101.out 3).trans rfl
                          have hfz35_0 := blk_frozen BK101.out 0
                          have hfz35_1 := blk_frozen BK101.out 1
                          have hfz35_2 := blk_frozen BK101.out 2
                          have hfz35_3 := blk_frozen BK101.out 3
                          have p32 : 0 ≤ (x48_2 : Int) := of_decide_eq_true (by first | (with_reducible assumption) | assumption)
                          have q32 : x48_2 < (a0_3.size : Int) := of_decide_eq_true (by first | (with_reducible assumption) | assumption)
                          have hx32 := bt_at a0_3 x48_2
                          replace p32 := eq_true p32
                          replace q32 := eq_true q32
                          go_wp2
                          go_roundg k2
                          case measure => have := HJ16.out; have := HK2.out; omega
                          case rel => exact ⟨(wrap64 (x48_2 + 1)), (by first | rfl | (simp; done) | (simp [*]; done)), H', ⟨by have := HJ16.out; have := HK2.out; omega⟩, ⟨by (with_reducible repeat (first | refine blk_drewN ?_ _ | refine blk_drew ?_ | refine blk_alloc ?_ _)); exact BK101.out⟩, ⟨by repeat (first | (with_reducible first | exact HB.out | apply below_alloc | apply pw_below_drewN | apply below_drew1 | refine below_set ?_ GE101.out) | exact HB.out)⟩⟩
                      · rw [if_neg c31] at H
                        exact absurd H (by simp)
                    · rw [if_neg c30] at H
                      exact absurd H (by simp)
                  · rw [if_neg c29] at H
                    have c29b0 : decide (x48_2 < (a0_3.size : Int)) = false := decide_eq_false c29
                    clear c29
                    obtain rfl := Option.some.inj H
                    go_wp2
                    go_ret
                    exact ⟨by first | rfl | (simp [errW_none, errW_some] <;> rfl) | (simp [*, errW_none, errW_some] <;> rfl), by repeat (first | (with_reducible first | exact HB.out | apply below_alloc | apply pw_below_drewN | apply below_drew1 | refine below_set ?_ GE101.out) | exact HB.out)⟩
      · rw [if_neg c16] at H
        have c16b0 : (a0_0 == 2) = false := beq_eq_false_iff_ne.mpr c16
        have c16b1 : (a0_0 != 2) = true := bne_iff_ne.mpr c16
        obtain rfl := Option.some.inj H
        go_enter Try.func56, Try.ntmps56
        go_wp2_with (first | ((with_reducible refine gate_dst (N := 1) rfl ?_); (try (refine gate_guard (by rfl) ?_; dsimp only)); refine box_event ?hg (N := 1) ?hd (cs := #[.int .i64 a0_0, .int .i64 a0_1, .int .i64 a0_2, .string a0_3]) (t := 46) ?hr ?_; (case hd => rfl); (case hg => rfl); (case hr => first | (go_simp; done) | (go_simp; rfl)); intro gb101 hg w36 hbox hb; have n0_ := Aside0.mk (below_step (by repeat (first | (with_reducible first | exact HB.out | apply below_alloc | apply pw_below_drewN | apply below_drew1) | exact HB.out)) hb); have n1_ := Aside0.mk (hbox); have n2_ := Aside0.mk ((by rw [hg]; exact (below_size (by repeat (first | (with_reducible first | exact HB.out | apply below_alloc | apply pw_below_drewN | apply below_drew1) | exact HB.out))) : w.heap.size ≤ gb101)); have n3_ := Aside0.mk ((by rw [hg]; exact (below_size (by repeat (first | (with_reducible first | exact HB.out | apply below_alloc | apply pw_below_drewN | apply below_drew1) | exact HB.out))) : w.heap.size ≤ gb101)); clear HB; have HB := n0_; have BK101 := n1_; have GW101 := n2_; have GE101 := n3_; clear n0_ n1_ n2_ n3_; clear hb hbox hg; have hcz37_0 : w36.cell? ⟨gb101, 0, none⟩ = some (.int .i64 a0_0) := (blk_cell BK101.out 0).trans rfl; have hcz37_1 : w36.cell? ⟨gb101, 1, none⟩ = some (.int .i64 a0_1) := (blk_cell BK101.out 1).trans rfl; have hcz37_2 : w36.cell? ⟨gb101, 2, none⟩ = some (.int .i64 a0_2) := (blk_cell BK101.out 2).trans rfl; have hcz37_3 : w36.cell? ⟨gb101, 3, none⟩ = some (.string a0_3) := (blk_cell BK101.out 3).trans rfl; have hfz37_0 := blk_frozen BK101.out 0; have hfz37_1 := blk_frozen BK101.out 1; have hfz37_2 := blk_frozen BK101.out 2; have hfz37_3 := blk_frozen BK101.out 3))
        go_ret
        exact ⟨by first | rfl | (simp [errW_none, errW_some] <;> rfl) | (simp [*, errW_none, errW_some] <;> rfl), by repeat (first | (with_reducible first | exact HB.out | apply below_alloc | apply pw_below_drewN | apply below_drew1 | refine below_set ?_ GE101.out) | exact HB.out)⟩
end Go.Proofs.Ytedgdnkbojjbmaa.P
end

section
namespace Go.Proofs.Ytedgdnkbojjbmaa.P
open Go.RowKit Go.Proofs.YtedgdnkbojjbmaaW.PrintWords Go.Proofs.YtedgdnkbojjbmaaW.PrintLast Go.Proofs.YtedgdnkbojjbmaaW.PrintMore
attribute [local go_sem] str_gtr str_leq str_geq max2_int min2_int max_two min_two max_three min_three max_four min_four
set_option linter.unusedVariables false
set_option linter.unusedSimpArgs false
def RowB (W : World) (g : Nat) (xs : List Int) : Prop := ∃ cells : Array Value, W.heap[g]? = some (.cells cells 5 (cells.size, cells.size + 1)) ∧ xs.length ≤ cells.size ∧ ∀ j : Nat, j < xs.length → cells[j]? = some (.int .u8 (xs.getD j 0))
section
variable {W W1 : World} {g : Nat} {xs : List Int}
theorem RowB.lt (h : RowB W g xs) : g < W.heap.size := by
  obtain ⟨c, hc, _⟩ := h
  exact (Array.getElem?_eq_some_iff.1 hc).1
theorem RowB.cell (h : RowB W g xs) (j : Nat) (hj : j < xs.length) : W.cell? ⟨g, j, none⟩ = some (.int .u8 (xs.getD j 0)) := by
  obtain ⟨c, hc, hl, hx⟩ := h
  exact (cell_of_row W g j c _ _ hc).trans (hx j hj)
theorem RowB.frozen (h : RowB W g xs) (j : Nat) (hj : j < xs.length) : W.frozen? ⟨g, j, none⟩ = false := by
  obtain ⟨c, hc, hl, hx⟩ := h
  simp [World.frozen?, hc]
  omega
theorem RowB.set (h : RowB W g xs) (j : Nat) (x : Int) : RowB (W.setCell ⟨g, j, none⟩ (.int .u8 x)) g (xs.set j x) := by
  obtain ⟨c, hc, hl, hx⟩ := h
  refine ⟨c.setIfInBounds j (.int .u8 x), ?_, by simpa using hl, fun i hi => ?_⟩
  · simp [World.setCell, Array.getElem?_modify, hc]
  · rw [List.length_set] at hi
    rw [List.getD_eq_getElem?_getD]
    by_cases e : j = i
    · subst e
      rw [Array.getElem?_setIfInBounds_self_of_lt (by omega), List.getElem?_set_self hi]
      rfl
    · rw [Array.getElem?_setIfInBounds_ne e, List.getElem?_set_ne e, hx i hi, List.getD_eq_getElem?_getD]
theorem RowB.block (h : RowB W g xs) (he : W1.heap[g]? = W.heap[g]?) : RowB W1 g xs := by
  obtain ⟨c, hc, hl, hx⟩ := h
  exact ⟨c, he.trans hc, hl, hx⟩
theorem RowB.below (h : RowB W g xs) (hb : Below W.heap.size W W1) : RowB W1 g xs := h.block (hb.block g h.lt)
theorem bytesOf_getD (s : ByteArray) (j : Nat) : (bytesOf s).getD j 0 = ((s.data.toList.getD j 0).toNat : Int) := by
  unfold bytesOf
  rw [List.getD_eq_getElem?_getD, List.getD_eq_getElem?_getD, List.getElem?_map]
  cases s.data.toList[j]? <;> rfl
theorem RowB.new (W : World) (s : ByteArray) : RowB (Lib.bytesWorld W 5 s) W.heap.size (bytesOf s) := by
  refine ⟨Lib.bytesCells W 5 s, Lib.bytesWorld_at_new W _ s, ?_, fun j hj => ?_⟩
  · rw [bytesOf_length]
    simp [Lib.bytesCells]
  · rw [bytesOf_length] at hj
    rw [bytesOf_getD]
    have := Lib.bytesWorld_cell W 5 s j hj
    rw [cell_of_row _ _ j _ _ _ (Lib.bytesWorld_at_new W 5 s)] at this
    exact this
theorem RowB.str (h : RowB W g xs) (cap : Nat) : (convert 51 9 (.slice (some ⟨g, 0, none⟩) xs.length cap)).run Try.prog W = .ok (.string (strOfNums xs)) W :=
  run_convert_bytes_arg (P := Try.prog) W _ _ Try.underlying51 Try.underlying5 g 0 _ cap xs rfl (fun i hi => by rw [Nat.zero_add]; exact h.cell i hi) _ Try.underlying9
theorem bytesW_below (W : World) (s : ByteArray) : Below W.heap.size W (Lib.bytesWorld W 5 s) :=
  ⟨rfl, rfl, rfl, by rw [Lib.bytesWorld_size]; omega, fun k hk => Lib.bytesWorld_at_old W _ s k hk⟩
end
end Go.Proofs.Ytedgdnkbojjbmaa.P
end
